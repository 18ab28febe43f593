/- LayoutAdoption returns true for all trees and lists: Adopt accepts mappings only, changes nothing but gaps, and a well-formed tree is adopted by itself without gaps. Conditions: the package-level table of shapes holds what the program's text lays in it (tied). -/
import Derived.Test.YtdknlgpdjmjlnaaGreatDoorRows
import Derived.Test.YtdknlgpdjmjlnaaGreatDoorO
import Derived.Test.YtdknlgpdjmjlnaaGreatDoorPl
import Derived.Test.YtdknlgpdjmjlnaaGreatDoorCards
import Derived.Test.YtdknlgpdjmjlnaaGreatDoorTie
import Derived.SevenTiedAt
namespace Go.Proofs.YtdknlgpdjmjlnaaGreatDoor.layoutAdoption
open Go.ChangeShapes Go.WideShapes Go.ChangeAt Go.RowKit
open Go.ChangeMaps (open_string shut_string)
open Go.Ev
theorem door_met (os : Os) (args : Array Value) : laidMetH Tryz.prog [("treemerge/grammar.shapes", Rows.laid_treemerge_grammar_shapes)] ((World.doorLaid Tryz.prog 86 os).forCall (fun _ _ => 0) ⟨#[], args, []⟩).memory :=
  laidMetH_of_parts3 (fuel := 8) (laidMet_of_run' 8 (by kernel_rfl) (by kernel_rfl)) (by kernel_rfl) (by kernel_rfl)
theorem globs {W : World} (h : laidMetH Tryz.prog [("treemerge/grammar.shapes", Rows.laid_treemerge_grammar_shapes)] W) : GlobOk W NoX := by
  intro g cells hg
  by_cases h0 : g = 0
  · subst h0
    obtain rfl : flatD Rows.laid_treemerge_grammar_shapes = cells := Option.some.inj hg
    exact laid_glob (t := 69) (k := 8) (by kernel_rfl) (by kernel_rfl) (by kernel_rfl) (by kernel_rfl) h
  · exact absurd hg (by show ¬ (if g = 0 then some (flatD Rows.laid_treemerge_grammar_shapes) else none) = some cells; rw [if_neg h0]; exact fun h => by cases h)
theorem own : ownKnob Tryz.prog.godebug = none := by kernel_rfl
theorem laidOut : laidOutB Tryz.prog = true := by kernel_rfl
theorem names : namesB Tryz.prog = true := by kernel_rfl
theorem bodies : bodiesB Tryz.prog Xr.A0 = true := by kernel_rfl
set_option maxRecDepth 100000 in
theorem lifted (os : Os) (started : os.Started) (H : Type) (enc : TypeId × Value → H) :
    ReturnsInHanded {} Tryz.checked os 3 .any (fun w args => (Rows.layoutAdoptionSpec.pre enc Tryz.prog Tryz.f3 [] false w args ∧ laidMetH Tryz.prog [("treemerge/grammar.shapes", Rows.laid_treemerge_grammar_shapes)] w) ∧ sizedMet enc Tryz.prog Tryz.f3 (OpenSpec.ofChange Rows.layoutAdoptionSpec) false w args) (Rows.layoutAdoptionSpec.post enc Tryz.prog Tryz.f3 false true false false) := by
  refine returnsInHanded_of_change_and (C := Tryz.checked) (X := fun w _ => laidMetH Tryz.prog [("treemerge/grammar.shapes", Rows.laid_treemerge_grammar_shapes)] w) (fun _ _ _ hh h => h.of_heap hh) own started (by kernel_rfl) Tryz.func3
    (ChangeSpec.witness_shaped (enc := enc) (C := Tryz.checked) (os := os) (X := fun w _ => laidMetH Tryz.prog [("treemerge/grammar.shapes", Rows.laid_treemerge_grammar_shapes)] w) false (World.doorLaid Tryz.prog 86 os) #[.agg #[.int .i64 0, .string .empty, .slice none 0 0, .slice none 0 0], .agg #[.int .i64 0, .string .empty, .slice none 0 0, .slice none 0 0], .slice none 0 0] 8 rfl (World.shaped_of_RefB (by kernel_rfl) (by kernel_rfl)) (by kernel_rfl) (by kernel_rfl) (by kernel_rfl) (door_met os _)) ?_
  intro W base args ds gs before hval0 hW hcnd hsz0 hL _
  have hval : ∀ (j : Nat) t v, Tryz.f3.params[j]? = some t → args[j]? = some v → Value.okWide Tryz.prog W .any base t v := hval0
  have hW' := hW
  obtain ⟨p, q, hA0, hV, rfl, hfz, hnd⟩ := hW
  have hA : DataW.TrodAll enc Tryz.prog W 0 (fun _ => true) true Tryz.f3.params.toList args.toList ds p := hA0
  rw [Tryz.params3] at hA hval
  obtain ⟨v0, vs0, d0, ds0, p0, q0, hargs, rfl, rfl, h0, r0⟩ := trodAll_cons hA
  obtain ⟨v1, vs1, d1, ds1, p1, q1, rfl, rfl, rfl, h1, r1⟩ := trodAll_cons r0
  obtain ⟨v2, vs2, d2, ds2, p2, q2, rfl, rfl, rfl, h2, r2⟩ := trodAll_cons r1
  obtain ⟨rfl, rfl, rfl⟩ := trodAll_nil r2
  obtain rfl : args = #[v0, v1, v2] := by cases args; simp_all
  obtain ⟨rfl, rfl⟩ := trodVars_none hV
  have hsz : (DataW.weightsEach Tryz.prog [25, 25, 26] [d0, d1, d2]).all (· ≤ reachBytes) = true := hsz0
  obtain ⟨z0, hsz⟩ := sized_cons hsz
  obtain ⟨z1, hsz⟩ := sized_cons hsz
  obtain ⟨z2, hsz⟩ := sized_cons hsz
  have hv0 := hval 0 25 v0 rfl rfl
  have k0 := h0
  have lt0 : ∀ x ∈ p0, x.block < W.heap.size := by obtain ⟨m, hm⟩ := k0; exact DataW.trod_lt m _ _ _ hm
  obtain ⟨fuel0, hf0⟩ := h0
  obtain ⟨c0, rfl⟩ : ∃ cs, v0 = .agg cs := by
    unfold Value.okWide at hv0; rw [Tryz.underlying25] at hv0
    exact ⟨hv0.choose, hv0.choose_spec.1⟩
  obtain ⟨x0, w0, g0⟩ := Xr.open_25 fuel0 _ _ _ hf0 z0
  have rp0 := Cs.agg g0
  have hv1 := hval 1 25 v1 rfl rfl
  have k1 := h1
  have lt1 : ∀ x ∈ p1, x.block < W.heap.size := by obtain ⟨m, hm⟩ := k1; exact DataW.trod_lt m _ _ _ hm
  obtain ⟨fuel1, hf1⟩ := h1
  obtain ⟨c1, rfl⟩ : ∃ cs, v1 = .agg cs := by
    unfold Value.okWide at hv1; rw [Tryz.underlying25] at hv1
    exact ⟨hv1.choose, hv1.choose_spec.1⟩
  obtain ⟨x1, w1, g1⟩ := Xr.open_25 fuel1 _ _ _ hf1 z1
  have rp1 := Cs.agg g1
  have hv2 := hval 2 26 v2 rfl rfl
  have k2 := h2
  have lt2 : ∀ x ∈ p2, x.block < W.heap.size := by obtain ⟨m, hm⟩ := k2; exact DataW.trod_lt m _ _ _ hm
  obtain ⟨fuel2, hf2⟩ := h2
  obtain ⟨a2, len2, cap2, rfl⟩ := okWide_slice Tryz.underlying26 hv2
  obtain ⟨x2, w2, g2⟩ := Xr.open_26 fuel2 _ _ _ hf2 z2
  have rp2 := Cs.single g2
  refine (law_calls (A := Xr.A0) (ps := [.agg (Xr.en_Node x0), .agg (Xr.en_Node x1), .lst false x2.length (encL Xr.en_Pair x2)]) (names_of names) (by kernel_rfl) (bodies_of bodies) Xr.clones Xr.exts (globs hL) ⟨Tryz.f3, _, Tryz.func3, rfl⟩ (Xr.law3 Xr.plain_adoption x0 w0 x1 w1 x2 w2) rfl ?_).mono fun e W' ⟨he, bel⟩ => ?_
  · intro j hj
    match j, hj with
    | 0, _ => exact rp0
    | 1, _ => exact rp1
    | 2, _ => exact rp2
    | _ + 3, hj => exact absurd hj (by simp)
  · subst he
    exact ⟨_, rfl, _, _, _, [], _, [], hW', trodAll_mk1 (shut_bool Tryz.underlying4 _), (trodAll_cons_mk (Below.trod laidOut (by kernel_rfl) (of_decide_eq_true (by kernel_rfl)) k0 bel lt0) (trodAll_cons_mk (Below.trod laidOut (by kernel_rfl) (of_decide_eq_true (by kernel_rfl)) k1 bel lt1) (trodAll_cons_mk (Below.trod laidOut (by kernel_rfl) (of_decide_eq_true (by kernel_rfl)) k2 bel lt2) trodAll_mk0))), rfl, bel.frame _, fun h => by cases h⟩
theorem over : Rows.layoutAdoptionRow.holds Tryz.pinned (OpenSpec.ofChange Rows.layoutAdoptionSpec) :=
  OpenClaim.holds_of_wide 3 Tryz.f3 rfl rfl rfl rfl rfl rfl rfl ⟨rfl, rfl, rfl, rfl, rfl⟩ rfl rfl rfl rfl rfl (by kernel_rfl) Tryz.func3 (by kernel_rfl)
    (of_decide_eq_true (by kernel_rfl)) (by unfold Func.isWrapper; first | (rw [if_pos (by decide +kernel)]; kernel_rfl) | (rw [if_neg (by decide +kernel)]; exact ⟨rfl, rfl⟩))
    (fun os started H enc _ => lifted os started H enc)
theorem proved : Rows.LayoutAdoptionCardSaid :=
  Claim7.holds_tied_plain_at .later [] [.widerDeep] true (true, "e46c52de0b7bb5fd6aabfe755d26cb247477a69e3c6ac26acc01673d44720567") false
    over (fun _ h => by cases h) (by kernel_rfl) (fun _ h => by cases h) layoutAdoption_row_tie rfl ⟨rfl, rfl⟩ (by kernel_rfl) rfl
    (fun f fn hf hfn => by
      obtain rfl : f = 3 := Option.some.inj ((show Tryz.prog.funcNamed "treemerge/treemergelaw33.LayoutAdoption" = some 3 by kernel_rfl).symm.trans hf) |>.symm
      obtain rfl : fn = Tryz.f3 := (Option.some.inj (Tryz.func3.symm.trans hfn)).symm
      exact ⟨by kernel_rfl, fun j t ht => by
        rw [Tryz.params3] at ht
        have hm : t ∈ ([25, 25, 26] : List Nat) := by simpa using Array.mem_of_getElem? ht
        have hall : (([25, 25, 26] : List Nat).all fun u => !Tryz.prog.wantsStandIn u) = true := by kernel_rfl
        exact (show Tryz.prog.wantsStandIn t = false by simpa using List.all_eq_true.1 hall t hm)⟩)
    (by kernel_rfl)
#print axioms proved
end Go.Proofs.YtdknlgpdjmjlnaaGreatDoor.layoutAdoption

