/- The relation between the model's worlds and the abstract interpreter's heaps: what a value and an object stand for, and what a step keeps. -/
import Derived.Test.YtgjhagehbfhioaaEv0
import Derived.Laws.Cells
import Derived.Laws.CopyRow
set_option linter.unusedVariables false
set_option linter.unusedSimpArgs false
namespace Go.Ev

/-! ### What values stand for -/
inductive RepP (w : World) (M : Nat → Prop) : Value → Pv → Prop
  | v (x : Value) : RepP w M x (.v x)
  | lst (full : Bool) (n : Nat) (cells : List Pv) (A : Option Addr) (cap : Nat) (us : Nat → Value)
      (hn : n ≤ cap) (hf : full = true → cap = n)
      (ha : cells ≠ [] → ∃ b o, A = some ⟨b, o, none⟩ ∧ ¬ M b ∧ ∀ j, j < cells.length → w.cell? ⟨b, o + j, none⟩ = some (us j))
      (h1 : ∀ j, j < cells.length → (us j).oneCell' = true)
      (hr : ∀ j (h : j < cells.length), RepP w M (us j) cells[j]) : RepP w M (.slice A n cap) (.lst full n cells)
  | agg (vs : Array Value) (cs : List Pv) (hl : vs.size = cs.length) (h1 : ∀ j, j < cs.length → (vs.getD j undef).oneCell' = true)
      (hr : ∀ j (h : j < cs.length), RepP w M (vs.getD j undef) cs[j]) : RepP w M (.agg vs) (.agg cs)
  | tup (vs : Array Value) (cs : List Pv) (hl : vs.size = cs.length) (hr : ∀ j (h : j < cs.length), RepP w M (vs.getD j undef) cs[j]) : RepP w M (.tuple vs) (.tup cs)
  | iptr (cells : List Pv) (off b o : Nat) (us : Nat → Value)
      (ha : cells ≠ [] → ¬ M b ∧ ∀ j, j < cells.length → w.cell? ⟨b, o + j, none⟩ = some (us j))
      (h1 : ∀ j, j < cells.length → (us j).oneCell' = true)
      (hr : ∀ j (h : j < cells.length), RepP w M (us j) cells[j]) : RepP w M (.pointer (some ⟨b, o + off, none⟩)) (.iptr cells off)
  | fn (f : Fn) (vs : Array Value) (cs : List Pv) (hl : vs.size = cs.length) (hr : ∀ j (h : j < cs.length), RepP w M (vs.getD j undef) cs[j]) : RepP w M (.func f #[] vs) (.fn f cs)

theorem wks_len : ∀ (l : List Pv), (wks l).length = l.length
  | [] => by simp [wks]
  | x :: xs => by simp [wks, wks_len xs]
theorem wks_get : ∀ (l : List Pv) (j : Nat) (h : j < (wks l).length) (h' : j < l.length), (wks l)[j] = wk l[j]
  | [], j, h, h' => absurd h' (by simp)
  | x :: xs, 0, h, h' => by simp [wks]
  | x :: xs, j + 1, h, h' => by
    simp only [wks, List.getElem_cons_succ]
    exact wks_get xs j (by simpa [wks] using h) (by simpa using h')
theorem wks_nil {l : List Pv} (h : wks l ≠ []) : l ≠ [] := by intro e; subst e; exact h (by simp [wks])
theorem RepP.wk {w : World} {M : Nat → Prop} {v : Value} {x : Pv} (h : RepP w M v x) : RepP w M v (wk x) := by
  induction h with
  | v x => rw [Go.Ev.wk.eq_1]; exact .v x
  | lst full n cells A cap us hn hf ha h1 hr ih =>
    rw [Go.Ev.wk.eq_2]
    refine .lst false n _ A cap us hn (fun e => by simp at e) (fun e => ?_) (fun j hj => h1 j (by simpa [wks_len] using hj)) (fun j hj => ?_)
    · obtain ⟨b, o, e1, e2, e3⟩ := ha (wks_nil e)
      exact ⟨b, o, e1, e2, fun j hj => e3 j (by simpa [wks_len] using hj)⟩
    · rw [wks_get _ _ _ (by simpa [wks_len] using hj)]; exact ih j (by simpa [wks_len] using hj)
  | agg vs cs hl h1 hr ih =>
    rw [Go.Ev.wk.eq_3]
    refine .agg vs _ (by rw [wks_len]; exact hl) (fun j hj => h1 j (by simpa [wks_len] using hj)) (fun j hj => ?_)
    rw [wks_get _ _ _ (by simpa [wks_len] using hj)]; exact ih j (by simpa [wks_len] using hj)
  | tup vs cs hl hr ih =>
    rw [Go.Ev.wk.eq_4]
    refine .tup vs _ (by rw [wks_len]; exact hl) (fun j hj => ?_)
    rw [wks_get _ _ _ (by simpa [wks_len] using hj)]; exact ih j (by simpa [wks_len] using hj)
  | iptr cells off b o us ha h1 hr ih =>
    rw [Go.Ev.wk.eq_5]
    refine .iptr _ off b o us (fun e => ?_) (fun j hj => h1 j (by simpa [wks_len] using hj)) (fun j hj => ?_)
    · obtain ⟨e2, e3⟩ := ha (wks_nil e)
      exact ⟨e2, fun j hj => e3 j (by simpa [wks_len] using hj)⟩
    · rw [wks_get _ _ _ (by simpa [wks_len] using hj)]; exact ih j (by simpa [wks_len] using hj)
  | fn f vs cs hl hr ih =>
    rw [Go.Ev.wk.eq_6]
    refine .fn f vs _ (by rw [wks_len]; exact hl) (fun j hj => ?_)
    rw [wks_get _ _ _ (by simpa [wks_len] using hj)]; exact ih j (by simpa [wks_len] using hj)

abbrev Pl := Nat → Option (Nat × Nat)
def Ob.live : Ob → Bool
  | .var _ => true
  | .arr _ => true
  | _ => false
def Ob.alive : Ob → Bool
  | .dead => false
  | _ => true
/-- The object is there and not dead. -/
def Alive (H : List Ob) (i : Nat) : Prop := ∃ o, H[i]? = some o ∧ o.alive = true
/-- The blocks that may be written. -/
def Live (H : List Ob) (ρ : Pl) (b : Nat) : Prop := ∃ i o bs, H[i]? = some o ∧ o.live = true ∧ ρ i = some (b, bs)
def Mut (X : Nat → Prop) (H : List Ob) (ρ : Pl) (b : Nat) : Prop := X b ∨ Live H ρ b
/-- The cells of a block. -/
def Blk (w : World) (b : Nat) (C : Array Value) : Prop := ∃ T fr, w.heap[b]? = some (.cells C T fr)
def Own (w : World) (b : Nat) (C : Array Value) : Prop := ∃ T, w.heap[b]? = some (.cells C T (0, 0))

inductive RepD (w : World) (M : Nat → Prop) (H : List Ob) (ρ : Pl) : Value → Dv → Prop
  | junk (x : Value) : RepD w M H ρ x .junk
  | p (x : Value) (y : Pv) (h : RepP w M x y) : RepD w M H ρ x (.p y)
  | ref (id off len esz : Nat) (A : Option Addr) (cap : Nat) (hid : id < H.length) (hn : len ≤ cap)
      (ha : 0 < cap → ∃ a, A = some a ∧ (Alive H id → ∃ b bs C, ρ id = some (b, bs) ∧ a = ⟨b, bs + off, none⟩ ∧ Blk w b C ∧ bs + off + cap * esz ≤ C.size)) :
      RepD w M H ρ (.slice A len cap) (.ref id off len esz)
  | ptr (id off : Nat) (a : Addr) (hid : id < H.length) (ha : Alive H id → ∃ b bs, ρ id = some (b, bs) ∧ a = ⟨b, bs + off, none⟩) : RepD w M H ρ (.pointer (some a)) (.ptr id off)
  | agg (vs : Array Value) (cs : List Dv) (hl : vs.size = cs.length) (h1 : ∀ j, j < cs.length → (vs.getD j undef).oneCell' = true)
      (hr : ∀ j (h : j < cs.length), RepD w M H ρ (vs.getD j undef) cs[j]) : RepD w M H ρ (.agg vs) (.agg cs)
  | tup (vs : Array Value) (cs : List Dv) (hl : vs.size = cs.length) (hr : ∀ j (h : j < cs.length), RepD w M H ρ (vs.getD j undef) cs[j]) : RepD w M H ρ (.tuple vs) (.tup cs)
  | fn (f : Fn) (vs : Array Value) (cs : List Dv) (hl : vs.size = cs.length) (hr : ∀ j (h : j < cs.length), RepD w M H ρ (vs.getD j undef) cs[j]) : RepD w M H ρ (.func f #[] vs) (.fn f cs)

/-- A list of cells, and what they stand for. -/
def CellsP (w : World) (M : Nat → Prop) (C : Array Value) (bs : Nat) (cs : List Pv) : Prop :=
  bs + cs.length ≤ C.size ∧ ∀ j (h : j < cs.length), (C.getD (bs + j) undef).oneCell' = true ∧ RepP w M (C.getD (bs + j) undef) cs[j]
def CellsD (w : World) (M : Nat → Prop) (H : List Ob) (ρ : Pl) (C : Array Value) (bs : Nat) (cs : List Dv) : Prop :=
  bs + cs.length ≤ C.size ∧ ∀ j (h : j < cs.length), (C.getD (bs + j) undef).oneCell' = true ∧ RepD w M H ρ (C.getD (bs + j) undef) cs[j]

def ObOk (w : World) (X : Nat → Prop) (H : List Ob) (ρ : Pl) (i : Nat) : Ob → Prop
  | .dead => True
  | .var ds => ∃ b bs C, ρ i = some (b, bs) ∧ ¬ X b ∧ Own w b C ∧ CellsD w (Mut X H ρ) H ρ C bs ds
  | .arr cs => (cs = [] ∧ ρ i = none) ∨ ∃ b bs C, ρ i = some (b, bs) ∧ ¬ X b ∧ Own w b C ∧ CellsP w (Mut X H ρ) C bs cs
  | .frz cs => (cs = [] ∧ ρ i = none) ∨ ∃ b bs C, ρ i = some (b, bs) ∧ ¬ Mut X H ρ b ∧ Blk w b C ∧ CellsP w (Mut X H ρ) C bs cs
  | .ro ds => ∃ b bs C, ρ i = some (b, bs) ∧ ¬ Live H ρ b ∧ Blk w b C ∧ CellsD w (Mut X H ρ) H ρ C bs ds
  | .roa cs => (cs = [] ∧ ρ i = none) ∨ ∃ b bs C, ρ i = some (b, bs) ∧ ¬ Live H ρ b ∧ Blk w b C ∧ CellsP w (Mut X H ρ) C bs cs

structure Sim (X : Nat → Prop) (w : World) (H : List Ob) (ρ : Pl) : Prop where
  xlt : ∀ b, X b → b < w.heap.size
  obs : ∀ i o, H[i]? = some o → ObOk w X H ρ i o
  inj : ∀ i j o o' b bs bs', H[i]? = some o → H[j]? = some o' → o.live = true → o'.live = true → ρ i = some (b, bs) → ρ j = some (b, bs') → i = j

/-- What a step keeps. -/
structure Evo (n : Nat) (w : World) (H : List Ob) (ρ : Pl) (w' : World) (H' : List Ob) (ρ' : Pl) : Prop where
  os : w'.os = w.os
  tape : w'.tape = w.tape
  output : w'.output = w.output
  size : w.heap.size ≤ w'.heap.size
  block : ∀ b, b < w.heap.size → ¬ Live H ρ b → w'.heap[b]? = w.heap[b]?
  shape : ∀ b C, Blk w b C → ∃ C', Blk w' b C' ∧ C'.size = C.size
  live : ∀ b, Live H' ρ' b → Live H ρ b ∨ w.heap.size ≤ b
  len : n ≤ H.length
  len' : n ≤ H'.length
  alive : ∀ i, i < n → Alive H' i → Alive H i ∧ ρ' i = ρ i

theorem Evo.refl (w : World) (H : List Ob) (ρ : Pl) : Evo H.length w H ρ w H ρ :=
  ⟨rfl, rfl, rfl, Nat.le_refl _, fun _ _ _ => rfl, fun b C h => ⟨C, h, rfl⟩, fun _ h => .inl h, Nat.le_refl _, Nat.le_refl _, fun _ _ h => ⟨h, rfl⟩⟩
theorem Evo.mono {n m : Nat} {w w' : World} {H H' : List Ob} {ρ ρ' : Pl} (h : Evo n w H ρ w' H' ρ') (hm : m ≤ n) : Evo m w H ρ w' H' ρ' :=
  ⟨h.os, h.tape, h.output, h.size, h.block, h.shape, h.live, Nat.le_trans hm h.len, Nat.le_trans hm h.len', fun i hi => h.alive i (Nat.lt_of_lt_of_le hi hm)⟩
theorem Evo.trans {n : Nat} {w w1 w2 : World} {H H1 H2 : List Ob} {ρ ρ1 ρ2 : Pl} (h : Evo n w H ρ w1 H1 ρ1) (k : Evo n w1 H1 ρ1 w2 H2 ρ2) : Evo n w H ρ w2 H2 ρ2 where
  os := k.os.trans h.os
  tape := k.tape.trans h.tape
  output := k.output.trans h.output
  size := Nat.le_trans h.size k.size
  block b hb hl := by
    rw [k.block b (Nat.lt_of_lt_of_le hb h.size) (fun h1 => ?_), h.block b hb hl]
    rcases h.live b h1 with h2 | h2
    · exact hl h2
    · omega
  shape b C hC := by
    obtain ⟨C1, h1, e1⟩ := h.shape b C hC
    obtain ⟨C2, h2, e2⟩ := k.shape b C1 h1
    exact ⟨C2, h2, e2.trans e1⟩
  live b hb := by
    rcases k.live b hb with h1 | h1
    · exact h.live b h1
    · exact .inr (Nat.le_trans h.size h1)
  len := h.len
  len' := k.len'
  alive i hi ha := by
    obtain ⟨h1, e1⟩ := k.alive i hi ha
    obtain ⟨h2, e2⟩ := h.alive i hi h1
    exact ⟨h2, e1.trans e2⟩

theorem Blk.lt {w : World} {b : Nat} {C : Array Value} (h : Blk w b C) : b < w.heap.size := by
  obtain ⟨T, fr, h⟩ := h
  exact (Array.getElem?_eq_some_iff.1 h).1
theorem Own.blk {w : World} {b : Nat} {C : Array Value} (h : Own w b C) : Blk w b C := let ⟨T, h⟩ := h; ⟨T, _, h⟩
theorem Blk.cell {w : World} {b : Nat} {C : Array Value} (h : Blk w b C) (j : Nat) : w.cell? ⟨b, j, none⟩ = C[j]? := by
  obtain ⟨T, fr, h⟩ := h
  simp [World.cell?, h]
theorem cell_blk {w : World} {b o : Nat} {u : Value} (h : w.cell? ⟨b, o, none⟩ = some u) : ∃ C, Blk w b C := by
  unfold World.cell? at h
  split at h
  · rename_i C T fr hb
    exact ⟨C, T, fr, hb⟩
  · simp at h
theorem Blk.unique {w : World} {b : Nat} {C C' : Array Value} (h : Blk w b C) (h' : Blk w b C') : C = C' := by
  obtain ⟨T, fr, h⟩ := h
  obtain ⟨T', fr', h'⟩ := h'
  rw [h] at h'
  injection h' with h'
  injection h'
theorem getD_some {C : Array Value} {j : Nat} (h : j < C.size) : C[j]? = some (C.getD j undef) := by
  simp [h]

theorem Sim.live_blk {X : Nat → Prop} {w : World} {H : List Ob} {ρ : Pl} (h : Sim X w H ρ) {b : Nat} (hb : Live H ρ b) : ¬ X b ∧ ∃ C, Own w b C := by
  obtain ⟨i, o, bs, hi, ho, hρ⟩ := hb
  have h1 := h.obs i o hi
  cases o with
  | var ds =>
    obtain ⟨b', bs', C, e, hx, hC, _⟩ := h1
    rw [hρ] at e
    simp only [Option.some.injEq, Prod.mk.injEq] at e
    obtain ⟨rfl, rfl⟩ := e
    exact ⟨hx, C, hC⟩
  | arr cs =>
    rcases h1 with ⟨_, e⟩ | ⟨b', bs', C, e, hx, hC, _⟩
    · rw [hρ] at e; cases e
    · rw [hρ] at e
      simp only [Option.some.injEq, Prod.mk.injEq] at e
      obtain ⟨rfl, rfl⟩ := e
      exact ⟨hx, C, hC⟩
  | dead => cases ho
  | frz _ => cases ho
  | ro _ => cases ho
  | roa _ => cases ho
theorem Sim.live_lt {X : Nat → Prop} {w : World} {H : List Ob} {ρ : Pl} (h : Sim X w H ρ) {b : Nat} (hb : Live H ρ b) : b < w.heap.size := by
  obtain ⟨_, C, hC⟩ := h.live_blk hb
  exact hC.blk.lt
theorem Sim.mut_lt {X : Nat → Prop} {w : World} {H : List Ob} {ρ : Pl} (h : Sim X w H ρ) {b : Nat} (hb : Mut X H ρ b) : b < w.heap.size := by
  rcases hb with hb | hb
  · exact h.xlt b hb
  · exact h.live_lt hb

/-! ### A pure value is kept -/
theorem RepP.mono {w w' : World} {M M' : Nat → Prop} {x : Value} {y : Pv} (h : RepP w M x y)
    (hc : ∀ b o u, w.cell? ⟨b, o, none⟩ = some u → ¬ M b → w'.cell? ⟨b, o, none⟩ = some u ∧ ¬ M' b) : RepP w' M' x y := by
  induction h with
  | v x => exact .v x
  | lst full n cells A cap us hn hf ha h1 hr ih =>
    refine .lst full n cells A cap us hn hf (fun hne => ?_) h1 ih
    obtain ⟨b, o, e, hm, hcell⟩ := ha hne
    have hpos : 0 < cells.length := by cases cells <;> simp_all
    refine ⟨b, o, e, (hc b (o + 0) _ (hcell 0 hpos) hm).2, fun j hj => (hc b (o + j) _ (hcell j hj) hm).1⟩
  | agg vs cs hl h1 hr ih => exact .agg vs cs hl h1 ih
  | tup vs cs hl hr ih => exact .tup vs cs hl ih
  | iptr cells off b o us ha h1 hr ih =>
    refine .iptr cells off b o us (fun hne => ?_) h1 ih
    obtain ⟨hm, hcell⟩ := ha hne
    have hpos : 0 < cells.length := by cases cells <;> simp_all
    exact ⟨(hc b (o + 0) _ (hcell 0 hpos) hm).2, fun j hj => (hc b (o + j) _ (hcell j hj) hm).1⟩
  | fn f vs cs hl hr ih => exact .fn f vs cs hl ih

theorem Evo.cells {n : Nat} {X : Nat → Prop} {w w' : World} {H H' : List Ob} {ρ ρ' : Pl} (h : Evo n w H ρ w' H' ρ') :
    ∀ b o u, w.cell? ⟨b, o, none⟩ = some u → ¬ Mut X H ρ b → w'.cell? ⟨b, o, none⟩ = some u ∧ ¬ Mut X H' ρ' b := by
  intro b o u hu hm
  obtain ⟨C, hC⟩ := cell_blk hu
  have hlt := hC.lt
  refine ⟨?_, fun hm' => ?_⟩
  · have : w'.heap[b]? = w.heap[b]? := h.block b hlt (fun hl => hm (.inr hl))
    unfold World.cell? at *
    simp only [this]
    exact hu
  · rcases hm' with hx | hl
    · exact hm (.inl hx)
    · rcases h.live b hl with h1 | h1
      · exact hm (.inr h1)
      · omega
theorem RepP.evo {n : Nat} {X : Nat → Prop} {w w' : World} {H H' : List Ob} {ρ ρ' : Pl} (h : Evo n w H ρ w' H' ρ') {x : Value} {y : Pv} (hr : RepP w (Mut X H ρ) x y) : RepP w' (Mut X H' ρ') x y :=
  hr.mono h.cells
/-- What a larger set of blocks excludes. -/
theorem RepP.sub {w : World} {M M' : Nat → Prop} {x : Value} {y : Pv} (h : RepP w M x y) (hs : ∀ b, M' b → M b) : RepP w M' x y :=
  h.mono fun b o u hu hm => ⟨hu, fun h' => hm (hs b h')⟩

theorem RepD.evo {X : Nat → Prop} {w w' : World} {H H' : List Ob} {ρ ρ' : Pl} (h : Evo H.length w H ρ w' H' ρ') {x : Value} {y : Dv} (hr : RepD w (Mut X H ρ) H ρ x y) : RepD w' (Mut X H' ρ') H' ρ' x y := by
  induction hr with
  | junk x => exact .junk x
  | p x y hp => exact .p x y (hp.evo h)
  | ref id off len esz A cap hid hn ha =>
    refine .ref id off len esz A cap (Nat.lt_of_lt_of_le hid h.len') hn (fun hcap => ?_)
    obtain ⟨a, ea, hal⟩ := ha hcap
    refine ⟨a, ea, fun hl => ?_⟩
    obtain ⟨h1, e1⟩ := h.alive id hid hl
    obtain ⟨b, bs, C, e2, e3, hC, hsz⟩ := hal h1
    obtain ⟨C', hC', e4⟩ := h.shape b C hC
    exact ⟨b, bs, C', e1.trans e2, e3, hC', by rw [e4]; exact hsz⟩
  | ptr id off a hid ha =>
    refine .ptr id off a (Nat.lt_of_lt_of_le hid h.len') (fun hl => ?_)
    obtain ⟨h1, e1⟩ := h.alive id hid hl
    obtain ⟨b, bs, e2, e3⟩ := ha h1
    exact ⟨b, bs, e1.trans e2, e3⟩
  | agg vs cs hl h1 hr ih => exact .agg vs cs hl h1 ih
  | tup vs cs hl hr ih => exact .tup vs cs hl ih
  | fn f vs cs hl hr ih => exact .fn f vs cs hl ih
theorem CellsP.evo {n : Nat} {X : Nat → Prop} {w w' : World} {H H' : List Ob} {ρ ρ' : Pl} (h : Evo n w H ρ w' H' ρ') {C : Array Value} {bs : Nat} {cs : List Pv} (hr : CellsP w (Mut X H ρ) C bs cs) : CellsP w' (Mut X H' ρ') C bs cs :=
  ⟨hr.1, fun j hj => ⟨(hr.2 j hj).1, (hr.2 j hj).2.evo h⟩⟩
theorem CellsD.evo {X : Nat → Prop} {w w' : World} {H H' : List Ob} {ρ ρ' : Pl} (h : Evo H.length w H ρ w' H' ρ') {C : Array Value} {bs : Nat} {cs : List Dv} (hr : CellsD w (Mut X H ρ) H ρ C bs cs) : CellsD w' (Mut X H' ρ') H' ρ' C bs cs :=
  ⟨hr.1, fun j hj => ⟨(hr.2 j hj).1, (hr.2 j hj).2.evo h⟩⟩

/-- An object whose block has not changed. -/
theorem ObOk.keep {X : Nat → Prop} {w w' : World} {H H' : List Ob} {ρ ρ' : Pl} (hs : Sim X w H ρ) (h : Evo H.length w H ρ w' H' ρ') {i : Nat} {o : Ob} (hi : H[i]? = some o) (hi' : H'[i]? = some o)
    (hb : ∀ b bs, ρ i = some (b, bs) → o.live = true → w'.heap[b]? = w.heap[b]?) : ObOk w' X H' ρ' i o := by
  have hlt : i < H.length := (List.getElem?_eq_some_iff.1 hi).1
  have hok := hs.obs i o hi
  have keep : ∀ {b C}, Blk w b C → w'.heap[b]? = w.heap[b]? → Blk w' b C := by
    intro b C ⟨T, fr, e⟩ e'; exact ⟨T, fr, e'.trans e⟩
  have keepO : ∀ {b C}, Own w b C → w'.heap[b]? = w.heap[b]? → Own w' b C := by
    intro b C ⟨T, e⟩ e'; exact ⟨T, e'.trans e⟩
  have nolive : ∀ {b C}, Blk w b C → ¬ Live H ρ b → ¬ Live H' ρ' b := by
    intro b C hC hl hl'
    rcases h.live b hl' with h1 | h1
    · exact hl h1
    · have := hC.lt; omega
  cases o with
  | dead => trivial
  | var ds =>
    obtain ⟨b, bs, C, e, hx, hC, hcs⟩ := hok
    have e' := (h.alive i hlt ⟨_, hi', rfl⟩).2
    exact ⟨b, bs, C, e'.trans e, hx, keepO hC (hb b bs e rfl), hcs.evo h⟩
  | arr cs =>
    have e' := (h.alive i hlt ⟨_, hi', rfl⟩).2
    rcases hok with ⟨h0, e⟩ | ⟨b, bs, C, e, hx, hC, hcs⟩
    · exact .inl ⟨h0, e'.trans e⟩
    · exact .inr ⟨b, bs, C, e'.trans e, hx, keepO hC (hb b bs e rfl), hcs.evo h⟩
  | frz cs =>
    have e' := (h.alive i hlt ⟨_, hi', rfl⟩).2
    rcases hok with ⟨h0, e⟩ | ⟨b, bs, C, e, hx, hC, hcs⟩
    · exact .inl ⟨h0, e'.trans e⟩
    · refine .inr ⟨b, bs, C, e'.trans e, fun hm => ?_, keep hC (h.block b hC.lt (fun hl => hx (.inr hl))), hcs.evo h⟩
      rcases hm with hm | hm
      · exact hx (.inl hm)
      · exact nolive hC (fun hl => hx (.inr hl)) hm
  | ro ds =>
    have e' := (h.alive i hlt ⟨_, hi', rfl⟩).2
    obtain ⟨b, bs, C, e, hx, hC, hcs⟩ := hok
    exact ⟨b, bs, C, e'.trans e, nolive hC hx, keep hC (h.block b hC.lt hx), hcs.evo h⟩
  | roa cs =>
    have e' := (h.alive i hlt ⟨_, hi', rfl⟩).2
    rcases hok with ⟨h0, e⟩ | ⟨b, bs, C, e, hx, hC, hcs⟩
    · exact .inl ⟨h0, e'.trans e⟩
    · exact .inr ⟨b, bs, C, e'.trans e, nolive hC hx, keep hC (h.block b hC.lt hx), hcs.evo h⟩
end Go.Ev
