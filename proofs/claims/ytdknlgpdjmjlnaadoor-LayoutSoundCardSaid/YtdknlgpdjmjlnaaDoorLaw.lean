/- LayoutSound returns true for every tree: Repair changes nothing but gaps, is done once and for all, makes a tree well-formed that is so without gaps, and does not change a well-formed one. Conditions: the package-level table of shapes holds what the program's text lays in it (tied). -/
import Derived.Test.YtdknlgpdjmjlnaaDoorRows
import Derived.Test.YtdknlgpdjmjlnaaDoorO
import Derived.Test.YtdknlgpdjmjlnaaDoorPl
import Derived.Test.YtdknlgpdjmjlnaaDoorCards
import Derived.Test.YtdknlgpdjmjlnaaDoorTie
import Derived.SevenTiedAt
namespace Go.Proofs.YtdknlgpdjmjlnaaDoor.layoutSound
open Go.ChangeShapes Go.WideShapes Go.ChangeAt Go.RowKit
open Go.ChangeMaps (open_string shut_string)
open Go.Ev
theorem door_met (os : Os) (args : Array Value) : laidMetH Tryd.prog [("treemerge/grammar.shapes", Rows.laid_treemerge_grammar_shapes)] ((World.doorLaid Tryd.prog 86 os).forCall (fun _ _ => 0) ⟨#[], args, []⟩).memory :=
  laidMetH_of_parts3 (fuel := 8) (laidMet_of_run' 8 (by kernel_rfl) (by kernel_rfl)) (by kernel_rfl) (by kernel_rfl)
theorem globs {W : World} (h : laidMetH Tryd.prog [("treemerge/grammar.shapes", Rows.laid_treemerge_grammar_shapes)] W) : GlobOk W NoX := by
  intro g cells hg
  by_cases h0 : g = 0
  · subst h0
    obtain rfl : flatD Rows.laid_treemerge_grammar_shapes = cells := Option.some.inj hg
    exact laid_glob (t := 68) (k := 8) (by kernel_rfl) (by kernel_rfl) (by kernel_rfl) (by kernel_rfl) h
  · exact absurd hg (by show ¬ (if g = 0 then some (flatD Rows.laid_treemerge_grammar_shapes) else none) = some cells; rw [if_neg h0]; exact fun h => by cases h)
theorem own : ownKnob Tryd.prog.godebug = none := by kernel_rfl
theorem laidOut : laidOutB Tryd.prog = true := by kernel_rfl
theorem names : namesB Tryd.prog = true := by kernel_rfl
theorem bodies : bodiesB Tryd.prog Xr.A0 = true := by kernel_rfl
set_option maxRecDepth 100000 in
theorem lifted (os : Os) (started : os.Started) (H : Type) (enc : TypeId × Value → H) :
    ReturnsInHanded {} Tryd.checked os 7 .any (fun w args => (Rows.layoutSoundSpec.pre enc Tryd.prog Tryd.f7 [] false w args ∧ laidMetH Tryd.prog [("treemerge/grammar.shapes", Rows.laid_treemerge_grammar_shapes)] w) ∧ sizedMet enc Tryd.prog Tryd.f7 (OpenSpec.ofChange Rows.layoutSoundSpec) false w args) (Rows.layoutSoundSpec.post enc Tryd.prog Tryd.f7 false true false false) := by
  refine returnsInHanded_of_change_and (C := Tryd.checked) (X := fun w _ => laidMetH Tryd.prog [("treemerge/grammar.shapes", Rows.laid_treemerge_grammar_shapes)] w) (fun _ _ _ hh h => h.of_heap hh) own started (by kernel_rfl) Tryd.func7
    (ChangeSpec.witness_shaped (enc := enc) (C := Tryd.checked) (os := os) (X := fun w _ => laidMetH Tryd.prog [("treemerge/grammar.shapes", Rows.laid_treemerge_grammar_shapes)] w) false (World.doorLaid Tryd.prog 86 os) #[.agg #[.int .i64 0, .string .empty, .slice none 0 0, .slice none 0 0]] 8 rfl (World.shaped_of_RefB (by kernel_rfl) (by kernel_rfl)) (by kernel_rfl) (by kernel_rfl) (by kernel_rfl) (door_met os _)) ?_
  intro W base args ds gs before hval0 hW hcnd hsz0 hL _
  have hval : ∀ (j : Nat) t v, Tryd.f7.params[j]? = some t → args[j]? = some v → Value.okWide Tryd.prog W .any base t v := hval0
  have hW' := hW
  obtain ⟨p, q, hA0, hV, rfl, hfz, hnd⟩ := hW
  have hA : DataW.TrodAll enc Tryd.prog W 0 (fun _ => true) true Tryd.f7.params.toList args.toList ds p := hA0
  rw [Tryd.params7] at hA hval
  obtain ⟨v0, vs0, d0, ds0, p0, q0, hargs, rfl, rfl, h0, r0⟩ := trodAll_cons hA
  obtain ⟨rfl, rfl, rfl⟩ := trodAll_nil r0
  obtain rfl : args = #[v0] := by cases args; simp_all
  obtain ⟨rfl, rfl⟩ := trodVars_none hV
  have hsz : (DataW.weightsEach Tryd.prog [29] [d0]).all (· ≤ reachBytes) = true := hsz0
  obtain ⟨z0, hsz⟩ := sized_cons hsz
  have hv0 := hval 0 29 v0 rfl rfl
  have k0 := h0
  have lt0 : ∀ x ∈ p0, x.block < W.heap.size := by obtain ⟨m, hm⟩ := k0; exact DataW.trod_lt m _ _ _ hm
  obtain ⟨fuel0, hf0⟩ := h0
  obtain ⟨c0, rfl⟩ : ∃ cs, v0 = .agg cs := by
    unfold Value.okWide at hv0; rw [Tryd.underlying29] at hv0
    exact ⟨hv0.choose, hv0.choose_spec.1⟩
  obtain ⟨x0, w0, g0⟩ := Xr.open_29 fuel0 _ _ _ hf0 z0
  have rp0 := Cs.agg g0
  refine (law_calls (A := Xr.A0) (ps := [.agg (Xr.en_Node x0)]) (names_of names) (by kernel_rfl) (bodies_of bodies) Xr.clones Xr.exts (globs hL) ⟨Tryd.f7, _, Tryd.func7, rfl⟩ (Xr.law7 Xr.plain_sound x0 w0) rfl ?_).mono fun e W' ⟨he, bel⟩ => ?_
  · intro j hj
    match j, hj with
    | 0, _ => exact rp0
    | _ + 1, hj => exact absurd hj (by simp)
  · subst he
    exact ⟨_, rfl, _, _, _, [], _, [], hW', trodAll_mk1 (shut_bool Tryd.underlying4 _), (trodAll_cons_mk (Below.trod laidOut (by kernel_rfl) (of_decide_eq_true (by kernel_rfl)) k0 bel lt0) trodAll_mk0), rfl, bel.frame _, fun h => by cases h⟩
theorem over : Rows.layoutSoundRow.holds Tryd.pinned (OpenSpec.ofChange Rows.layoutSoundSpec) :=
  OpenClaim.holds_of_wide 7 Tryd.f7 rfl rfl rfl rfl rfl rfl rfl ⟨rfl, rfl, rfl, rfl, rfl⟩ rfl rfl rfl rfl rfl (by kernel_rfl) Tryd.func7 (by kernel_rfl)
    (of_decide_eq_true (by kernel_rfl)) (by unfold Func.isWrapper; first | (rw [if_pos (by decide +kernel)]; kernel_rfl) | (rw [if_neg (by decide +kernel)]; exact ⟨rfl, rfl⟩))
    (fun os started H enc _ => lifted os started H enc)
theorem proved : Rows.LayoutSoundCardSaid :=
  Claim7.holds_tied_plain_at .later [] [.widerDeep] true (true, "89f386ae42f5edf6d714f64ba20457fd0ef639a7f7ac51876dedf14a7b4b08cb") false
    over (fun _ h => by cases h) (by kernel_rfl) (fun _ h => by cases h) layoutSound_row_tie rfl ⟨rfl, rfl⟩ (by kernel_rfl) rfl
    (fun f fn hf hfn => by
      obtain rfl : f = 7 := Option.some.inj ((show Tryd.prog.funcNamed "treemerge/treemergelaw33.LayoutSound" = some 7 by kernel_rfl).symm.trans hf) |>.symm
      obtain rfl : fn = Tryd.f7 := (Option.some.inj (Tryd.func7.symm.trans hfn)).symm
      exact ⟨by kernel_rfl, fun j t ht => by
        rw [Tryd.params7] at ht
        have hm : t ∈ ([29] : List Nat) := by simpa using Array.mem_of_getElem? ht
        have hall : (([29] : List Nat).all fun u => !Tryd.prog.wantsStandIn u) = true := by kernel_rfl
        exact (show Tryd.prog.wantsStandIn t = false by simpa using List.all_eq_true.1 hall t hm)⟩)
    (by kernel_rfl)
#print axioms proved
end Go.Proofs.YtdknlgpdjmjlnaaDoor.layoutSound

