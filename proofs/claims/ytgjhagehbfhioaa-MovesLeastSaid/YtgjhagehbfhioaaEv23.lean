/- Opening of a call's arguments: what the statement's reading of an argument tells, as a value of Lean whose cells the interpreter knows. -/
import Derived.Test.YtgjhagehbfhioaaEv22
import Derived.WalkKit
import Derived.ProofKit
import Derived.OpenShut
import Derived.ShutString
import Derived.ChangeOld
import Derived.Below
import Derived.Carry
import Derived.SizedLaws
import Derived.ChangeShapes
import Derived.ChangeMaps5
import Derived.WideShapes
import Derived.JoinedOf
set_option linter.unusedVariables false
set_option linter.unusedSimpArgs false
namespace Go.Ev

theorem mapM_some {α β : Type} {f : α → Option β} : ∀ {l : List α} {ys : List β}, l.mapM f = some ys → ys.length = l.length ∧ ∀ i (h : i < l.length) (h' : i < ys.length), f l[i] = some ys[i]
  | [], ys, h => by
    simp only [List.mapM_nil] at h
    cases h
    exact ⟨rfl, fun i h => absurd h (by simp)⟩
  | a :: l, ys, h => by
    simp only [List.mapM_cons, Option.bind_eq_bind, Option.bind_eq_some_iff] at h
    obtain ⟨y, h1, ys', h2, h3⟩ := h
    cases h3
    obtain ⟨h4, h5⟩ := mapM_some h2
    refine ⟨by simp [h4], fun i hi hi' => ?_⟩
    cases i with
    | zero => simpa using h1
    | succ i => simpa using h5 i (by simpa using hi) (by simpa using hi')

def NoX : Nat → Prop := fun _ => False
/-- Cells and what they stand for. -/
def Cs (w : World) (cs : List Value) (ps : List Pv) : Prop :=
  cs.length = ps.length ∧ ∀ j (h : j < cs.length) (h' : j < ps.length), (cs[j]).oneCell' = true ∧ RepP w NoX cs[j] ps[j]
theorem Cs.nil {w : World} : Cs w [] [] := ⟨rfl, fun j h => absurd h (by simp)⟩
theorem Cs.one {w : World} {v : Value} {p : Pv} (h1 : v.oneCell' = true) (h : RepP w NoX v p) : Cs w [v] [p] :=
  ⟨rfl, fun j h2 h3 => by
    obtain rfl : j = 0 := by simpa using h2
    exact ⟨h1, h⟩⟩
theorem Cs.append {w : World} {a b : List Value} {p q : List Pv} (h1 : Cs w a p) (h2 : Cs w b q) : Cs w (a ++ b) (p ++ q) := by
  refine ⟨by simp [h1.1, h2.1], fun j h h' => ?_⟩
  by_cases hj : j < a.length
  · rw [List.getElem_append_left hj, List.getElem_append_left (by rw [← h1.1]; exact hj)]
    exact h1.2 j hj (by rw [← h1.1]; exact hj)
  · have e := h1.1
    simp only [List.length_append] at h h'
    rw [List.getElem_append_right (by omega), List.getElem_append_right (by omega)]
    have := h2.2 (j - a.length) (by omega) (by omega)
    simpa only [e] using this

section
variable {P : Program} {w : World} {H : Type} {enc : TypeId × Value → H}
def Opens (enc : TypeId × Value → H) (P : Program) (w : World) (fuel : Nat) (t : TypeId) {T : Type} (wf : T → Prop) (e : T → List Pv) : Prop :=
  ∀ (cs : List Value) (d : DataW H) (ps : List MemPlace), DataW.trod enc P w 0 (fun _ => true) true fuel t cs = some (d, ps) → ∃ x, wf x ∧ Cs w cs (e x)

theorem Opens.zero {t : TypeId} {T : Type} {wf : T → Prop} {e : T → List Pv} : Opens enc P w 0 t wf e := by
  intro cs d ps h
  simp [DataW.trod] at h
def wfInt (k : IntKind) (x : Int) : Prop := (Lit.int k x).wf = true
theorem Opens.int {fuel : Nat} {t : TypeId} {k : IntKind} (hu : P.underlying t = some (.int k)) : Opens enc P w fuel t (wfInt k) (fun x => [.v (.int k x)]) := by
  intro cs d ps h
  cases fuel with
  | zero => simp [DataW.trod] at h
  | succ fuel =>
    unfold DataW.trod at h
    rw [hu] at h
    split at h <;> first | (simp only [reduceCtorEq, Option.some.injEq] at *; done) | skip
    all_goals first
      | (rename_i k1 k2 n e1
         simp only [Option.some.injEq, TypeDesc.int.injEq] at e1
         subst e1
         split at h
         · rename_i hc
           obtain ⟨rfl, hw⟩ := hc
           exact ⟨n, hw, Cs.one rfl (.v _)⟩
         · cases h)
      | cases h
theorem Opens.bool {fuel : Nat} {t : TypeId} (hu : P.underlying t = some .bool) : Opens enc P w fuel t (fun (_ : Bool) => True) (fun x => [.v (.bool x)]) := by
  intro cs d ps h
  cases fuel with
  | zero => simp [DataW.trod] at h
  | succ fuel =>
    unfold DataW.trod at h
    rw [hu] at h
    split at h <;> first | (simp only [reduceCtorEq, Option.some.injEq] at *; done) | skip
    all_goals first
      | exact ⟨_, trivial, Cs.one rfl (.v _)⟩
      | cases h
def wfStr (s : ByteArray) : Prop := s.size ≤ maxLen
theorem Opens.string {fuel : Nat} {t : TypeId} (hu : P.underlying t = some .string) : Opens enc P w fuel t wfStr (fun x => [.v (.string x)]) := by
  intro cs d ps h
  cases fuel with
  | zero => simp [DataW.trod] at h
  | succ fuel =>
    unfold DataW.trod at h
    rw [hu] at h
    split at h <;> first | (simp only [reduceCtorEq, Option.some.injEq] at *; done) | skip
    all_goals first
      | (split at h
         · rename_i hc
           exact ⟨_, hc, Cs.one rfl (.v _)⟩
         · cases h)
      | cases h
theorem cells_some {base : Nat} {a : Addr} {n : Nat} {cs : List Value} (h : w.cells? base a n = some cs) : cs.length = n ∧ ∀ i (h : i < cs.length), w.cell? (a.add i) = some cs[i] := by
  unfold World.cells? at h
  split at h
  · obtain ⟨h1, h2⟩ := mapM_some h
    simp only [List.length_range] at h1
    refine ⟨h1, fun i hi => ?_⟩
    have := h2 i (by simpa [h1] using hi) hi
    simpa using this
  · cases h
theorem Opens.slice {fuel : Nat} {t e : TypeId} {T : Type} {wf : T → Prop} {en : T → List Pv} {sz : Nat} (hu : P.underlying t = some (.slice e)) (hsz : P.cellsOf e = sz) (h0 : 0 < sz) (ho : Opens enc P w fuel e wf en) :
    Opens enc P w (fuel + 1) t (fun (l : List T) => l.length ≤ maxLen ∧ ∀ x ∈ l, wf x) (fun l => [.lst false l.length (l.flatMap en)]) := by
  intro cs d ps h
  unfold DataW.trod at h
  rw [hu] at h
  split at h <;> first | (simp only [reduceCtorEq, Option.some.injEq] at *; done) | skip
  all_goals first
    | (refine ⟨[], ⟨by simp, by simp⟩, Cs.one rfl ?_⟩
       exact .lst false 0 [] none 0 (fun _ => undef) (Nat.le_refl _) (by simp) (fun h => absurd rfl h) (fun j h => absurd h (by simp)) (fun j h => absurd h (by simp)))
    | skip
  all_goals first | (cases h; done) | skip
  rename_i e' a len cap e1
  simp only [Option.some.injEq, TypeDesc.slice.injEq] at e1
  subst e1
  rw [hsz] at h
  simp only [] at h
  split at h
  · rename_i hc
    rw [Option.bind_eq_some_iff] at h
    obtain ⟨xs, h1, h2⟩ := h
    obtain ⟨h3, h4⟩ := mapM_some h1
    simp only [List.length_range] at h3
    -- each element
    have key : ∀ i, i < len → ∃ (x : T) (c : List Value), wf x ∧ Cs w c (en x) ∧ c.length = sz ∧ ∀ j (h : j < c.length), w.cell? ((a.add (i * sz)).add j) = some c[j] := by
      intro i hi
      have h5 := h4 i (by simpa using hi) (by omega)
      simp only [List.getElem_range, Option.bind_eq_some_iff] at h5
      obtain ⟨c, h6, h7⟩ := h5
      obtain ⟨h8, h9⟩ := cells_some h6
      obtain ⟨x, hx, hcs⟩ := ho c _ _ (show _ = some ((xs[i]'(by omega)).1, (xs[i]'(by omega)).2) from h7)
      exact ⟨x, c, hx, hcs, h8, h9⟩
    -- gather
    have gather : ∀ n, n ≤ len → ∃ (l : List T) (c : List Value), l.length = n ∧ (∀ x ∈ l, wf x) ∧ Cs w c (l.flatMap en) ∧ c.length = n * sz ∧ ∀ j (h : j < c.length), w.cell? (a.add j) = some c[j] := by
      intro n
      induction n with
      | zero => intro _; exact ⟨[], [], rfl, by simp, Cs.nil, by simp, fun j h => absurd h (by simp)⟩
      | succ n ih =>
        intro hn
        obtain ⟨l, c, h5, h6, h7, h8, h9⟩ := ih (by omega)
        obtain ⟨x, c', h10, h11, h12, h13⟩ := key n (by omega)
        refine ⟨l ++ [x], c ++ c', by simp [h5], ?_, ?_, by simp [h8, h12, Nat.succ_mul], ?_⟩
        · intro y hy
          rcases List.mem_append.1 hy with hy | hy
          · exact h6 y hy
          · obtain rfl : y = x := by simpa using hy
            exact h10
        · rw [List.flatMap_append]; simpa using h7.append h11
        · intro j hj
          by_cases hjc : j < c.length
          · rw [List.getElem_append_left hjc]; exact h9 j hjc
          · simp only [List.length_append] at hj
            rw [List.getElem_append_right (by omega)]
            rw [← h13 (j - c.length) (by omega)]
            congr 1
            unfold Addr.add
            by_cases hz : n * sz = 0
            · have hc0 : c.length = 0 := by omega
              rw [if_pos hz, hc0, Nat.sub_zero]
            · have hj0 : j ≠ 0 := by omega
              rw [if_neg hz, if_neg hj0]
              by_cases hk : j - c.length = 0
              · rw [if_pos hk]
                have : j = n * sz := by omega
                rw [this]
              · rw [if_neg hk]
                simp only [Addr.mk.injEq, true_and, and_true]
                omega
    obtain ⟨l, c, h5, h6, h7, h8, h9⟩ := gather len (Nat.le_refl _)
    refine ⟨l, ⟨by omega, h6⟩, Cs.one rfl ?_⟩
    have hlen : (l.flatMap en).length = len * sz := by rw [← h7.1, h8]
    rw [h5]
    refine .lst false len _ (some a) cap (fun j => c.getD j undef) hc.2.1 (by simp) (fun hne => ?_) (fun j hj => ?_) (fun j hj => ?_)
    · have hpos : 0 < c.length := by
        have : (l.flatMap en).length ≠ 0 := fun e => hne (List.length_eq_zero_iff.1 e)
        omega
      have hsp : a.spot = none := by
        have := h9 0 hpos
        simp only [Addr.add, if_true] at this
        unfold World.cell? at this
        split at this
        · split at this
          · cases this
          · rename_i hns
            cases hs : a.spot with
            | none => rfl
            | some x => rw [hs] at hns; simp at hns
        · cases this
      refine ⟨a.block, a.off, by cases a; simp only at hsp; subst hsp; rfl, fun h => h.elim, fun j hj => ?_⟩
      have hjc : j < c.length := by omega
      have := h9 j hjc
      rw [List.getD_eq_getElem?_getD, List.getElem?_eq_getElem hjc, Option.getD_some, ← this]
      congr 1
      unfold Addr.add
      split
      · rename_i hj0
        subst hj0
        cases a; simp only at hsp; subst hsp; rfl
      · rfl
    · have hjc : j < c.length := by omega
      rw [List.getD_eq_getElem?_getD, List.getElem?_eq_getElem hjc]
      exact (h7.2 j hjc hj).1
    · have hjc : j < c.length := by omega
      rw [List.getD_eq_getElem?_getD, List.getElem?_eq_getElem hjc]
      exact (h7.2 j hjc hj).2
  · cases h

/-- The fields of a struct, from a cell on. -/
def OpensF (enc : TypeId × Value → H) (P : Program) (w : World) (fuel : Nat) (fs : List Field) (off n : Nat) {T : Type} (wf : T → Prop) (e : T → List Pv) : Prop :=
  ∀ (cs : List Value) (xs : List (DataW H × List MemPlace)), off + n ≤ cs.length → fs.mapM (fun f => DataW.trod enc P w 0 (fun _ => true) true fuel f.type ((cs.drop f.offset).take (P.cellsOf f.type))) = some xs → ∃ x, wf x ∧ Cs w ((cs.drop off).take n) (e x)
theorem OpensF.nil {fuel off : Nat} : OpensF enc P w fuel [] off 0 (fun (_ : Unit) => True) (fun _ => []) := by
  intro cs xs h1 h2
  exact ⟨(), trivial, by simpa using Cs.nil⟩
theorem OpensF.cons {fuel off n sz : Nat} {f : Field} {fs : List Field} {A B : Type} {wa : A → Prop} {wb : B → Prop} {ea : A → List Pv} {eb : B → List Pv} (hf : f.offset = off) (hs : P.cellsOf f.type = sz)
    (ha : Opens enc P w fuel f.type wa ea) (hb : OpensF enc P w fuel fs (off + sz) n wb eb) : OpensF enc P w fuel (f :: fs) off (sz + n) (fun (x : A × B) => wa x.1 ∧ wb x.2) (fun x => ea x.1 ++ eb x.2) := by
  intro cs xs h1 h2
  simp only [List.mapM_cons, Option.bind_eq_bind, Option.bind_eq_some_iff] at h2
  obtain ⟨⟨d, ps⟩, h3, ys, h4, h5⟩ := h2
  rw [hf, hs] at h3
  obtain ⟨a, h6, h7⟩ := ha _ _ _ h3
  obtain ⟨b, h8, h9⟩ := hb cs ys (by omega) h4
  refine ⟨(a, b), ⟨h6, h8⟩, ?_⟩
  have e : (cs.drop off).take (sz + n) = (cs.drop off).take sz ++ (cs.drop (off + sz)).take n := by
    rw [List.take_add, List.drop_drop]
  rw [e]
  exact h7.append h9
theorem Opens.struct {fuel : Nat} {t : TypeId} {fs : Array Field} {n : Nat} {S T : Type} {wf : S → Prop} {e : S → List Pv} {wf' : T → Prop} {e' : T → List Pv} (hu : P.underlying t = some (.struct fs)) (hn : P.cellsOf t = n)
    (hf : OpensF enc P w fuel fs.toList 0 n wf e) (mk : S → T) (h1 : ∀ x, wf x → wf' (mk x)) (h2 : ∀ x, e' (mk x) = e x) : Opens enc P w (fuel + 1) t wf' e' := by
  intro cs d ps h
  have h' : (if cs.length = P.cellsOf t then (fs.toList.mapM fun f => DataW.trod enc P w 0 (fun _ => true) true fuel f.type ((cs.drop f.offset).take (P.cellsOf f.type))).map fun xs => (DataW.agg (xs.map (·.1)), xs.flatMap (·.2)) else none) = some (d, ps) := by
    rw [← h, DataW.trod]
    rw [hu]
  clear h
  rename _ => h
  split at h
  · rename_i hc
    simp only [Option.map_eq_some_iff] at h
    obtain ⟨xs, h3, h4⟩ := h
    obtain ⟨x, h5, h6⟩ := hf cs xs (by omega) h3
    refine ⟨mk x, h1 x h5, ?_⟩
    rw [h2]
    have : (cs.drop 0).take n = cs := by rw [List.drop_zero, List.take_of_length_le (by omega)]
    rwa [this] at h6
  · cases h

/-- Arguments in the interpreter's words. -/
theorem Cs.agg {vs : Array Value} {ps : List Pv} (h : Cs w vs.toList ps) : RepP w NoX (.agg vs) (.agg ps) := by
  have e : ∀ j, j < ps.length → j < vs.toList.length := fun j hj => by rw [h.1]; exact hj
  have g : ∀ j (hj : j < ps.length), vs.getD j undef = (vs.toList)[j]'(e j hj) := fun j hj => by
    have := e j hj
    simp only [Array.length_toList] at this
    simp [Array.getD, this]
  exact .agg vs ps (by rw [← h.1]; simp) (fun j hj => by rw [g j hj]; exact (h.2 j (e j hj) hj).1) (fun j hj => by rw [g j hj]; exact (h.2 j (e j hj) hj).2)
theorem Cs.single {v : Value} {p : Pv} (h : Cs w [v] [p]) : RepP w NoX v p := (h.2 0 (by simp) (by simp)).2

theorem sim_nil : Sim NoX w [] (fun _ => none) where
  xlt := fun b h => h.elim
  obs := fun i o h => by simp at h
  inj := fun i j o o' b bs bs' h => by simp at h
theorem RepP.lessM {M M' : Nat → Prop} {v : Value} {x : Pv} (h : RepP w M v x) (hm : ∀ b, M' b → M b) : RepP w M' v x := by
  induction h with
  | v x => exact .v x
  | lst full n cells A cap us hn hf ha h1 hr ih =>
    exact .lst full n cells A cap us hn hf (fun e => let ⟨b, o, e1, e2, e3⟩ := ha e; ⟨b, o, e1, fun h => e2 (hm b h), e3⟩) h1 ih
  | agg vs cs hl h1 hr ih => exact .agg vs cs hl h1 ih
  | tup vs cs hl hr ih => exact .tup vs cs hl ih
  | iptr cells off b o us ha h1 hr ih => exact .iptr cells off b o us (fun e => let ⟨e2, e3⟩ := ha e; ⟨fun h => e2 (hm b h), e3⟩) h1 ih
  | fn f vs cs hl hr ih => exact .fn f vs cs hl ih
theorem live_nil {ρ : Pl} {b : Nat} : ¬ Live [] ρ b := by
  rintro ⟨i, o, bs, h, _⟩
  simp at h
theorem mut_nil {ρ : Pl} {b : Nat} : Mut NoX [] ρ b → NoX b := by
  rintro (h | h)
  · exact h
  · exact (live_nil h).elim

/-- A contract of the interpreter, about a call of the model: the answer is true, and what was there before is as it was. -/
theorem law_calls {A : Ann} {f : FuncId} {ps : List Pv} {vs : Array Value} (hN : Names P) (hm : P.follows .mixedOrders = true) (hB : BodiesOk P A)
    (h : callW P A f (ps.map .p) [] = some (bv true, [])) (hl : vs.size = ps.length) (hr : ∀ j (h : j < ps.length), RepP w NoX (vs.getD j undef) ps[j]) :
    Calls P f vs w fun e w' => e = .returned (.bool true) ∧ RowKit.Below w.heap.size w w' := by
  obtain ⟨k, hk⟩ := callW_some.1 h
  obtain ⟨_, hc⟩ := callN_ok hN hm hB k f _ _ _ _ hk
  have := hc NoX w (fun _ => none) vs sim_nil ⟨by simp [hl], fun j hj => by
    simp only [List.length_map] at hj
    simp only [List.getElem_map]
    exact .p _ _ ((hr j hj).lessM fun b => mut_nil)⟩
  refine this.mono ?_
  rintro e w' ⟨v, ρ', rfl, hf⟩
  have hv : v = .bool true := by
    have := hf.rep
    cases this with
    | p _ _ h2 => cases h2; rfl
  subst hv
  exact ⟨rfl, ⟨hf.evo.os, hf.evo.tape, hf.evo.output, hf.evo.size, fun b hb => hf.evo.block b hb live_nil⟩⟩
end
end Go.Ev
