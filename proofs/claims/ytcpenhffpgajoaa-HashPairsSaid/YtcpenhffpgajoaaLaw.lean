/- HashPairs returns true for every two trees: Twins returns the specified pairs. No conditions. -/
import Derived.Test.YtcpenhffpgajoaaRows
import Derived.Test.YtcpenhffpgajoaaO
import Derived.Test.YtcpenhffpgajoaaPl
namespace Go.Proofs.Ytcpenhffpgajoaa.hashPairs
open Go.ChangeShapes Go.WideShapes Go.ChangeAt Go.RowKit
open Go.ChangeMaps (open_string shut_string)
open Go.Ev
theorem own : ownKnob Try.prog.godebug = none := by kernel_rfl
theorem laidOut : laidOutB Try.prog = true := by kernel_rfl
theorem names : namesB Try.prog = true := by kernel_rfl
theorem bodies : bodiesB Try.prog Xr.A0 = true := by kernel_rfl
set_option maxRecDepth 100000 in
theorem lifted (os : Os) (started : os.Started) (H : Type) (enc : TypeId × Value → H) :
    ReturnsInHanded {} Try.checked os 5 .any (Rows.hashPairsSpec.pre6 enc Try.prog Try.f5 Rows.hashPairsRow.domain false) (Rows.hashPairsSpec.post enc Try.prog Try.f5 false true false false) := by
  refine returnsInHanded_of_change_sized (C := Try.checked) own started (by kernel_rfl) Try.func5
    (ChangeSpec.witness6 (enc := enc) (C := Try.checked) false ⟨#[], #[.agg #[.int .i64 0, .string .empty, .slice none 0 0, .slice none 0 0], .agg #[.int .i64 0, .string .empty, .slice none 0 0, .slice none 0 0]], []⟩ 8 (by kernel_rfl) (by kernel_rfl) (by kernel_rfl) (by kernel_rfl)) ?_
  intro W base args ds gs before hval0 hW hcnd hsz0 _
  have hval : ∀ (j : Nat) t v, Try.f5.params[j]? = some t → args[j]? = some v → Value.okWide Try.prog W .any base t v := hval0
  have hW' := hW
  obtain ⟨p, q, hA0, hV, rfl, hfz, hnd⟩ := hW
  have hA : DataW.TrodAll enc Try.prog W 0 (fun _ => true) true Try.f5.params.toList args.toList ds p := hA0
  rw [Try.params5] at hA hval
  obtain ⟨v0, vs0, d0, ds0, p0, q0, hargs, rfl, rfl, h0, r0⟩ := trodAll_cons hA
  obtain ⟨v1, vs1, d1, ds1, p1, q1, rfl, rfl, rfl, h1, r1⟩ := trodAll_cons r0
  obtain ⟨rfl, rfl, rfl⟩ := trodAll_nil r1
  obtain rfl : args = #[v0, v1] := by cases args; simp_all
  obtain ⟨rfl, rfl⟩ := trodVars_none hV
  have hsz : (DataW.weightsEach Try.prog [25, 25] [d0, d1]).all (· ≤ reachBytes) = true := hsz0
  obtain ⟨z0, hsz⟩ := sized_cons hsz
  obtain ⟨z1, hsz⟩ := sized_cons hsz
  have hv0 := hval 0 25 v0 rfl rfl
  have k0 := h0
  have lt0 : ∀ x ∈ p0, x.block < W.heap.size := by obtain ⟨m, hm⟩ := k0; exact DataW.trod_lt m _ _ _ hm
  obtain ⟨fuel0, hf0⟩ := h0
  obtain ⟨c0, rfl⟩ : ∃ cs, v0 = .agg cs := by
    unfold Value.okWide at hv0; rw [Try.underlying25] at hv0
    exact ⟨hv0.choose, hv0.choose_spec.1⟩
  obtain ⟨x0, w0, g0⟩ := Xr.open_25 fuel0 _ _ _ hf0 z0
  have rp0 := Cs.agg g0
  have hv1 := hval 1 25 v1 rfl rfl
  have k1 := h1
  have lt1 : ∀ x ∈ p1, x.block < W.heap.size := by obtain ⟨m, hm⟩ := k1; exact DataW.trod_lt m _ _ _ hm
  obtain ⟨fuel1, hf1⟩ := h1
  obtain ⟨c1, rfl⟩ : ∃ cs, v1 = .agg cs := by
    unfold Value.okWide at hv1; rw [Try.underlying25] at hv1
    exact ⟨hv1.choose, hv1.choose_spec.1⟩
  obtain ⟨x1, w1, g1⟩ := Xr.open_25 fuel1 _ _ _ hf1 z1
  have rp1 := Cs.agg g1
  refine (law_calls (A := Xr.A0) (ps := [.agg (Xr.en_Node x0), .agg (Xr.en_Node x1)]) (names_of names) (by kernel_rfl) (bodies_of bodies) Xr.clones Xr.exts (fun g cells h => by cases h) ⟨Try.f5, _, Try.func5, rfl⟩ (Xr.law5 (fun x0 _ x1 _ => Xr.plain_pairs x0 x1) x0 w0 x1 w1) rfl ?_).mono fun e W' ⟨he, bel⟩ => ?_
  · intro j hj
    match j, hj with
    | 0, _ => exact rp0
    | 1, _ => exact rp1
    | _ + 2, hj => exact absurd hj (by simp)
  · subst he
    exact ⟨_, rfl, _, _, _, [], _, [], hW', trodAll_mk1 (shut_bool Try.underlying4 _), (trodAll_cons_mk (Below.trod laidOut (by kernel_rfl) (of_decide_eq_true (by kernel_rfl)) k0 bel lt0) (trodAll_cons_mk (Below.trod laidOut (by kernel_rfl) (of_decide_eq_true (by kernel_rfl)) k1 bel lt1) trodAll_mk0)), rfl, bel.frame _, fun h => by cases h⟩
theorem over : Rows.hashPairsRow.holds Try.pinned (OpenSpec.ofChange Rows.hashPairsSpec) :=
  OpenClaim.holds_of_wide 5 Try.f5 rfl rfl rfl rfl rfl rfl rfl ⟨rfl, rfl, rfl, rfl, rfl⟩ rfl rfl rfl rfl rfl (by kernel_rfl) Try.func5 (by kernel_rfl)
    (of_decide_eq_true (by kernel_rfl)) (by unfold Func.isWrapper; first | (rw [if_pos (by decide +kernel)]; kernel_rfl) | (rw [if_neg (by decide +kernel)]; exact ⟨rfl, rfl⟩))
    (fun os started H enc _ => lifted os started H enc)
theorem proved : Rows.HashPairsSaid := over
#print axioms proved
end Go.Proofs.Ytcpenhffpgajoaa.hashPairs

