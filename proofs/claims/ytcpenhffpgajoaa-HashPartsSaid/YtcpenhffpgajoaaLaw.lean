/- HashParts returns true for every tree: two nodes are in one group exactly if they are different and their trees are the same, and groups and their elements are in ascending order. No conditions. -/
import Derived.Test.YtcpenhffpgajoaaRows
import Derived.Test.YtcpenhffpgajoaaO
import Derived.Test.YtcpenhffpgajoaaPl
namespace Go.Proofs.Ytcpenhffpgajoaa.hashParts
open Go.ChangeShapes Go.WideShapes Go.ChangeAt Go.RowKit
open Go.ChangeMaps (open_string shut_string)
open Go.Ev
theorem own : ownKnob Try.prog.godebug = none := by kernel_rfl
theorem laidOut : laidOutB Try.prog = true := by kernel_rfl
theorem names : namesB Try.prog = true := by kernel_rfl
theorem bodies : bodiesB Try.prog Xr.A0 = true := by kernel_rfl
set_option maxRecDepth 100000 in
theorem lifted (os : Os) (started : os.Started) (H : Type) (enc : TypeId × Value → H) :
    ReturnsInHanded {} Try.checked os 8 .any (Rows.hashPartsSpec.pre6 enc Try.prog Try.f8 Rows.hashPartsRow.domain false) (Rows.hashPartsSpec.post enc Try.prog Try.f8 false true false false) := by
  refine returnsInHanded_of_change_sized (C := Try.checked) own started (by kernel_rfl) Try.func8
    (ChangeSpec.witness6 (enc := enc) (C := Try.checked) false ⟨#[], #[.agg #[.int .i64 0, .string .empty, .slice none 0 0, .slice none 0 0]], []⟩ 8 (by kernel_rfl) (by kernel_rfl) (by kernel_rfl) (by kernel_rfl)) ?_
  intro W base args ds gs before hval0 hW hcnd hsz0 _
  have hval : ∀ (j : Nat) t v, Try.f8.params[j]? = some t → args[j]? = some v → Value.okWide Try.prog W .any base t v := hval0
  have hW' := hW
  obtain ⟨p, q, hA0, hV, rfl, hfz, hnd⟩ := hW
  have hA : DataW.TrodAll enc Try.prog W 0 (fun _ => true) true Try.f8.params.toList args.toList ds p := hA0
  rw [Try.params8] at hA hval
  obtain ⟨v0, vs0, d0, ds0, p0, q0, hargs, rfl, rfl, h0, r0⟩ := trodAll_cons hA
  obtain ⟨rfl, rfl, rfl⟩ := trodAll_nil r0
  obtain rfl : args = #[v0] := by cases args; simp_all
  obtain ⟨rfl, rfl⟩ := trodVars_none hV
  have hsz : (DataW.weightsEach Try.prog [25] [d0]).all (· ≤ reachBytes) = true := hsz0
  obtain ⟨z0, hsz⟩ := sized_cons hsz
  have hv0 := hval 0 25 v0 rfl rfl
  have k0 := h0
  have lt0 : ∀ x ∈ p0, x.block < W.heap.size := by obtain ⟨m, hm⟩ := k0; exact DataW.trod_lt m _ _ _ hm
  obtain ⟨fuel0, hf0⟩ := h0
  obtain ⟨c0, rfl⟩ : ∃ cs, v0 = .agg cs := by
    unfold Value.okWide at hv0; rw [Try.underlying25] at hv0
    exact ⟨hv0.choose, hv0.choose_spec.1⟩
  obtain ⟨x0, w0, g0⟩ := Xr.open_25 fuel0 _ _ _ hf0 z0
  have rp0 := Cs.agg g0
  refine (law_calls (A := Xr.A0) (ps := [.agg (Xr.en_Node x0)]) (names_of names) (by kernel_rfl) (bodies_of bodies) Xr.clones Xr.exts (fun g cells h => by cases h) ⟨Try.f8, _, Try.func8, rfl⟩ (Xr.law8 Xr.plain_parts18 x0 w0) rfl ?_).mono fun e W' ⟨he, bel⟩ => ?_
  · intro j hj
    match j, hj with
    | 0, _ => exact rp0
    | _ + 1, hj => exact absurd hj (by simp)
  · subst he
    exact ⟨_, rfl, _, _, _, [], _, [], hW', trodAll_mk1 (shut_bool Try.underlying4 _), (trodAll_cons_mk (Below.trod laidOut (by kernel_rfl) (of_decide_eq_true (by kernel_rfl)) k0 bel lt0) trodAll_mk0), rfl, bel.frame _, fun h => by cases h⟩
theorem over : Rows.hashPartsRow.holds Try.pinned (OpenSpec.ofChange Rows.hashPartsSpec) :=
  OpenClaim.holds_of_wide 8 Try.f8 rfl rfl rfl rfl rfl rfl rfl ⟨rfl, rfl, rfl, rfl, rfl⟩ rfl rfl rfl rfl rfl (by kernel_rfl) Try.func8 (by kernel_rfl)
    (of_decide_eq_true (by kernel_rfl)) (by unfold Func.isWrapper; first | (rw [if_pos (by decide +kernel)]; kernel_rfl) | (rw [if_neg (by decide +kernel)]; exact ⟨rfl, rfl⟩))
    (fun os started H enc _ => lifted os started H enc)
theorem proved : Rows.HashPartsSaid := over
#print axioms proved
end Go.Proofs.Ytcpenhffpgajoaa.hashParts

