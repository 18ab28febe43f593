/- A part of the proof: T. No conditions of its own. -/
import Derived.Test.YtendihpeaajpmaaGreatDoorE5
namespace Xr
open Go Go.Ev
set_option linter.unusedSimpArgs false
set_option linter.unusedVariables false
set_option linter.defProp false
def en_i64 (x : Int) : List Pv := [.v (.int .i64 x)]
theorem en_i64_eq (x : Int) : en_i64 x = [.v (.int .i64 x)] := rfl
theorem en_i64_len (x : Int) : (en_i64 x).length = 1 := rfl
theorem en_i64_wk (x : Int) : wks (en_i64 x) = en_i64 x := rfl
def en_str (x : ByteArray) : List Pv := [.v (.string x)]
theorem en_str_wk (x : ByteArray) : wks (en_str x) = en_str x := rfl
structure Pair where
 Old : Int
 New : Int
deriving instance DecidableEq for Pair
def en_Pair (x : Pair) : List Pv := [.v (.int .i64 x.Old), .v (.int .i64 x.New)]
theorem en_Pair_eq (x : Pair) : en_Pair x = [.v (.int .i64 x.Old), .v (.int .i64 x.New)] := rfl
theorem en_Pair_len (x : Pair) : (en_Pair x).length = 2 := by rw [en_Pair_eq]; rfl
abbrev pv_Pair (x : Pair) : List Pv := [.v (.int .i64 x.Old), .v (.int .i64 x.New)]
theorem en_Pair_wk (x : Pair) : wks (en_Pair x) = en_Pair x := by simp only [en_Pair_eq, wk, wks]
theorem wksL_en_i64 (l) : wks (encL en_i64 l) = encL en_i64 l := wks_encL en_i64_wk l
theorem wksL_en_str (l) : wks (encL en_str l) = encL en_str l := wks_encL en_str_wk l
theorem wksL_en_Pair (l) : wks (encL en_Pair l) = encL en_Pair l := wks_encL en_Pair_wk l
def wkL := And.intro @wksL_en_Pair (And.intro @wksL_en_i64 (@wksL_en_str))
structure Wf_Pair (x : Pair) : Prop where
 fOld : wfInt .i64 x.Old
 fNew : wfInt .i64 x.New
end Xr

namespace Xr
open Go Go.Ev
set_option linter.unusedSimpArgs false
set_option linter.unusedVariables false
set_option linter.defProp false
noncomputable def math_bits_Len64 (x0 : Int) : Option Int :=
 if (4294967296 : Int) ≤ x0 then
  (shrK .u64 x0 (32 : Int)).bind fun q2 =>
  if (65536 : Int) ≤ q2 then
   (shrK .u64 q2 (16 : Int)).bind fun q6 =>
   if (256 : Int) ≤ q6 then
    (shrK .u64 q6 (8 : Int)).bind fun q10 =>
    (bt (ByteArray.mk (((([0, 1, 2, 2, 3, 3, 3, 3, 4, 4, 4, 4, 4, 4, 4, 4, 5, 5, 5, 5, 5, 5, 5, 5, 5, 5, 5, 5, 5, 5, 5, 5, 6, 6, 6, 6, 6, 6, 6, 6, 6, 6, 6, 6, 6, 6, 6, 6, 6, 6, 6, 6, 6, 6, 6, 6, 6, 6, 6, 6, 6, 6, 6, 6] : List UInt8).append ([7, 7, 7, 7, 7, 7, 7, 7, 7, 7, 7, 7, 7, 7, 7, 7, 7, 7, 7, 7, 7, 7, 7, 7, 7, 7, 7, 7, 7, 7, 7, 7, 7, 7, 7, 7, 7, 7, 7, 7, 7, 7, 7, 7, 7, 7, 7, 7, 7, 7, 7, 7, 7, 7, 7, 7, 7, 7, 7, 7, 7, 7, 7, 7] : List UInt8)).append (([8, 8, 8, 8, 8, 8, 8, 8, 8, 8, 8, 8, 8, 8, 8, 8, 8, 8, 8, 8, 8, 8, 8, 8, 8, 8, 8, 8, 8, 8, 8, 8, 8, 8, 8, 8, 8, 8, 8, 8, 8, 8, 8, 8, 8, 8, 8, 8, 8, 8, 8, 8, 8, 8, 8, 8, 8, 8, 8, 8, 8, 8, 8, 8] : List UInt8).append ([8, 8, 8, 8, 8, 8, 8, 8, 8, 8, 8, 8, 8, 8, 8, 8, 8, 8, 8, 8, 8, 8, 8, 8, 8, 8, 8, 8, 8, 8, 8, 8, 8, 8, 8, 8, 8, 8, 8, 8, 8, 8, 8, 8, 8, 8, 8, 8, 8, 8, 8, 8, 8, 8, 8, 8, 8, 8, 8, 8, 8, 8, 8, 8] : List UInt8))).toArray)) (IntKind.wrap .u8 q10)).bind fun q13 =>
    some (w64 ((w64 ((w64 ((32 : Int) + (16 : Int))) + (8 : Int))) + (IntKind.wrap .i64 q13)))
   else
    (bt (ByteArray.mk (((([0, 1, 2, 2, 3, 3, 3, 3, 4, 4, 4, 4, 4, 4, 4, 4, 5, 5, 5, 5, 5, 5, 5, 5, 5, 5, 5, 5, 5, 5, 5, 5, 6, 6, 6, 6, 6, 6, 6, 6, 6, 6, 6, 6, 6, 6, 6, 6, 6, 6, 6, 6, 6, 6, 6, 6, 6, 6, 6, 6, 6, 6, 6, 6] : List UInt8).append ([7, 7, 7, 7, 7, 7, 7, 7, 7, 7, 7, 7, 7, 7, 7, 7, 7, 7, 7, 7, 7, 7, 7, 7, 7, 7, 7, 7, 7, 7, 7, 7, 7, 7, 7, 7, 7, 7, 7, 7, 7, 7, 7, 7, 7, 7, 7, 7, 7, 7, 7, 7, 7, 7, 7, 7, 7, 7, 7, 7, 7, 7, 7, 7] : List UInt8)).append (([8, 8, 8, 8, 8, 8, 8, 8, 8, 8, 8, 8, 8, 8, 8, 8, 8, 8, 8, 8, 8, 8, 8, 8, 8, 8, 8, 8, 8, 8, 8, 8, 8, 8, 8, 8, 8, 8, 8, 8, 8, 8, 8, 8, 8, 8, 8, 8, 8, 8, 8, 8, 8, 8, 8, 8, 8, 8, 8, 8, 8, 8, 8, 8] : List UInt8).append ([8, 8, 8, 8, 8, 8, 8, 8, 8, 8, 8, 8, 8, 8, 8, 8, 8, 8, 8, 8, 8, 8, 8, 8, 8, 8, 8, 8, 8, 8, 8, 8, 8, 8, 8, 8, 8, 8, 8, 8, 8, 8, 8, 8, 8, 8, 8, 8, 8, 8, 8, 8, 8, 8, 8, 8, 8, 8, 8, 8, 8, 8, 8, 8] : List UInt8))).toArray)) (IntKind.wrap .u8 q6)).bind fun q16 =>
    some (w64 ((w64 ((32 : Int) + (16 : Int))) + (IntKind.wrap .i64 q16)))
  else
   if (256 : Int) ≤ q2 then
    (shrK .u64 q2 (8 : Int)).bind fun q20 =>
    (bt (ByteArray.mk (((([0, 1, 2, 2, 3, 3, 3, 3, 4, 4, 4, 4, 4, 4, 4, 4, 5, 5, 5, 5, 5, 5, 5, 5, 5, 5, 5, 5, 5, 5, 5, 5, 6, 6, 6, 6, 6, 6, 6, 6, 6, 6, 6, 6, 6, 6, 6, 6, 6, 6, 6, 6, 6, 6, 6, 6, 6, 6, 6, 6, 6, 6, 6, 6] : List UInt8).append ([7, 7, 7, 7, 7, 7, 7, 7, 7, 7, 7, 7, 7, 7, 7, 7, 7, 7, 7, 7, 7, 7, 7, 7, 7, 7, 7, 7, 7, 7, 7, 7, 7, 7, 7, 7, 7, 7, 7, 7, 7, 7, 7, 7, 7, 7, 7, 7, 7, 7, 7, 7, 7, 7, 7, 7, 7, 7, 7, 7, 7, 7, 7, 7] : List UInt8)).append (([8, 8, 8, 8, 8, 8, 8, 8, 8, 8, 8, 8, 8, 8, 8, 8, 8, 8, 8, 8, 8, 8, 8, 8, 8, 8, 8, 8, 8, 8, 8, 8, 8, 8, 8, 8, 8, 8, 8, 8, 8, 8, 8, 8, 8, 8, 8, 8, 8, 8, 8, 8, 8, 8, 8, 8, 8, 8, 8, 8, 8, 8, 8, 8] : List UInt8).append ([8, 8, 8, 8, 8, 8, 8, 8, 8, 8, 8, 8, 8, 8, 8, 8, 8, 8, 8, 8, 8, 8, 8, 8, 8, 8, 8, 8, 8, 8, 8, 8, 8, 8, 8, 8, 8, 8, 8, 8, 8, 8, 8, 8, 8, 8, 8, 8, 8, 8, 8, 8, 8, 8, 8, 8, 8, 8, 8, 8, 8, 8, 8, 8] : List UInt8))).toArray)) (IntKind.wrap .u8 q20)).bind fun q23 =>
    some (w64 ((w64 ((32 : Int) + (8 : Int))) + (IntKind.wrap .i64 q23)))
   else
    (bt (ByteArray.mk (((([0, 1, 2, 2, 3, 3, 3, 3, 4, 4, 4, 4, 4, 4, 4, 4, 5, 5, 5, 5, 5, 5, 5, 5, 5, 5, 5, 5, 5, 5, 5, 5, 6, 6, 6, 6, 6, 6, 6, 6, 6, 6, 6, 6, 6, 6, 6, 6, 6, 6, 6, 6, 6, 6, 6, 6, 6, 6, 6, 6, 6, 6, 6, 6] : List UInt8).append ([7, 7, 7, 7, 7, 7, 7, 7, 7, 7, 7, 7, 7, 7, 7, 7, 7, 7, 7, 7, 7, 7, 7, 7, 7, 7, 7, 7, 7, 7, 7, 7, 7, 7, 7, 7, 7, 7, 7, 7, 7, 7, 7, 7, 7, 7, 7, 7, 7, 7, 7, 7, 7, 7, 7, 7, 7, 7, 7, 7, 7, 7, 7, 7] : List UInt8)).append (([8, 8, 8, 8, 8, 8, 8, 8, 8, 8, 8, 8, 8, 8, 8, 8, 8, 8, 8, 8, 8, 8, 8, 8, 8, 8, 8, 8, 8, 8, 8, 8, 8, 8, 8, 8, 8, 8, 8, 8, 8, 8, 8, 8, 8, 8, 8, 8, 8, 8, 8, 8, 8, 8, 8, 8, 8, 8, 8, 8, 8, 8, 8, 8] : List UInt8).append ([8, 8, 8, 8, 8, 8, 8, 8, 8, 8, 8, 8, 8, 8, 8, 8, 8, 8, 8, 8, 8, 8, 8, 8, 8, 8, 8, 8, 8, 8, 8, 8, 8, 8, 8, 8, 8, 8, 8, 8, 8, 8, 8, 8, 8, 8, 8, 8, 8, 8, 8, 8, 8, 8, 8, 8, 8, 8, 8, 8, 8, 8, 8, 8] : List UInt8))).toArray)) (IntKind.wrap .u8 q2)).bind fun q26 =>
    some (w64 ((32 : Int) + (IntKind.wrap .i64 q26)))
 else
  if (65536 : Int) ≤ x0 then
   (shrK .u64 x0 (16 : Int)).bind fun q30 =>
   if (256 : Int) ≤ q30 then
    (shrK .u64 q30 (8 : Int)).bind fun q34 =>
    (bt (ByteArray.mk (((([0, 1, 2, 2, 3, 3, 3, 3, 4, 4, 4, 4, 4, 4, 4, 4, 5, 5, 5, 5, 5, 5, 5, 5, 5, 5, 5, 5, 5, 5, 5, 5, 6, 6, 6, 6, 6, 6, 6, 6, 6, 6, 6, 6, 6, 6, 6, 6, 6, 6, 6, 6, 6, 6, 6, 6, 6, 6, 6, 6, 6, 6, 6, 6] : List UInt8).append ([7, 7, 7, 7, 7, 7, 7, 7, 7, 7, 7, 7, 7, 7, 7, 7, 7, 7, 7, 7, 7, 7, 7, 7, 7, 7, 7, 7, 7, 7, 7, 7, 7, 7, 7, 7, 7, 7, 7, 7, 7, 7, 7, 7, 7, 7, 7, 7, 7, 7, 7, 7, 7, 7, 7, 7, 7, 7, 7, 7, 7, 7, 7, 7] : List UInt8)).append (([8, 8, 8, 8, 8, 8, 8, 8, 8, 8, 8, 8, 8, 8, 8, 8, 8, 8, 8, 8, 8, 8, 8, 8, 8, 8, 8, 8, 8, 8, 8, 8, 8, 8, 8, 8, 8, 8, 8, 8, 8, 8, 8, 8, 8, 8, 8, 8, 8, 8, 8, 8, 8, 8, 8, 8, 8, 8, 8, 8, 8, 8, 8, 8] : List UInt8).append ([8, 8, 8, 8, 8, 8, 8, 8, 8, 8, 8, 8, 8, 8, 8, 8, 8, 8, 8, 8, 8, 8, 8, 8, 8, 8, 8, 8, 8, 8, 8, 8, 8, 8, 8, 8, 8, 8, 8, 8, 8, 8, 8, 8, 8, 8, 8, 8, 8, 8, 8, 8, 8, 8, 8, 8, 8, 8, 8, 8, 8, 8, 8, 8] : List UInt8))).toArray)) (IntKind.wrap .u8 q34)).bind fun q37 =>
    some (w64 ((w64 ((w64 ((0 : Int) + (16 : Int))) + (8 : Int))) + (IntKind.wrap .i64 q37)))
   else
    (bt (ByteArray.mk (((([0, 1, 2, 2, 3, 3, 3, 3, 4, 4, 4, 4, 4, 4, 4, 4, 5, 5, 5, 5, 5, 5, 5, 5, 5, 5, 5, 5, 5, 5, 5, 5, 6, 6, 6, 6, 6, 6, 6, 6, 6, 6, 6, 6, 6, 6, 6, 6, 6, 6, 6, 6, 6, 6, 6, 6, 6, 6, 6, 6, 6, 6, 6, 6] : List UInt8).append ([7, 7, 7, 7, 7, 7, 7, 7, 7, 7, 7, 7, 7, 7, 7, 7, 7, 7, 7, 7, 7, 7, 7, 7, 7, 7, 7, 7, 7, 7, 7, 7, 7, 7, 7, 7, 7, 7, 7, 7, 7, 7, 7, 7, 7, 7, 7, 7, 7, 7, 7, 7, 7, 7, 7, 7, 7, 7, 7, 7, 7, 7, 7, 7] : List UInt8)).append (([8, 8, 8, 8, 8, 8, 8, 8, 8, 8, 8, 8, 8, 8, 8, 8, 8, 8, 8, 8, 8, 8, 8, 8, 8, 8, 8, 8, 8, 8, 8, 8, 8, 8, 8, 8, 8, 8, 8, 8, 8, 8, 8, 8, 8, 8, 8, 8, 8, 8, 8, 8, 8, 8, 8, 8, 8, 8, 8, 8, 8, 8, 8, 8] : List UInt8).append ([8, 8, 8, 8, 8, 8, 8, 8, 8, 8, 8, 8, 8, 8, 8, 8, 8, 8, 8, 8, 8, 8, 8, 8, 8, 8, 8, 8, 8, 8, 8, 8, 8, 8, 8, 8, 8, 8, 8, 8, 8, 8, 8, 8, 8, 8, 8, 8, 8, 8, 8, 8, 8, 8, 8, 8, 8, 8, 8, 8, 8, 8, 8, 8] : List UInt8))).toArray)) (IntKind.wrap .u8 q30)).bind fun q40 =>
    some (w64 ((w64 ((0 : Int) + (16 : Int))) + (IntKind.wrap .i64 q40)))
  else
   if (256 : Int) ≤ x0 then
    (shrK .u64 x0 (8 : Int)).bind fun q44 =>
    (bt (ByteArray.mk (((([0, 1, 2, 2, 3, 3, 3, 3, 4, 4, 4, 4, 4, 4, 4, 4, 5, 5, 5, 5, 5, 5, 5, 5, 5, 5, 5, 5, 5, 5, 5, 5, 6, 6, 6, 6, 6, 6, 6, 6, 6, 6, 6, 6, 6, 6, 6, 6, 6, 6, 6, 6, 6, 6, 6, 6, 6, 6, 6, 6, 6, 6, 6, 6] : List UInt8).append ([7, 7, 7, 7, 7, 7, 7, 7, 7, 7, 7, 7, 7, 7, 7, 7, 7, 7, 7, 7, 7, 7, 7, 7, 7, 7, 7, 7, 7, 7, 7, 7, 7, 7, 7, 7, 7, 7, 7, 7, 7, 7, 7, 7, 7, 7, 7, 7, 7, 7, 7, 7, 7, 7, 7, 7, 7, 7, 7, 7, 7, 7, 7, 7] : List UInt8)).append (([8, 8, 8, 8, 8, 8, 8, 8, 8, 8, 8, 8, 8, 8, 8, 8, 8, 8, 8, 8, 8, 8, 8, 8, 8, 8, 8, 8, 8, 8, 8, 8, 8, 8, 8, 8, 8, 8, 8, 8, 8, 8, 8, 8, 8, 8, 8, 8, 8, 8, 8, 8, 8, 8, 8, 8, 8, 8, 8, 8, 8, 8, 8, 8] : List UInt8).append ([8, 8, 8, 8, 8, 8, 8, 8, 8, 8, 8, 8, 8, 8, 8, 8, 8, 8, 8, 8, 8, 8, 8, 8, 8, 8, 8, 8, 8, 8, 8, 8, 8, 8, 8, 8, 8, 8, 8, 8, 8, 8, 8, 8, 8, 8, 8, 8, 8, 8, 8, 8, 8, 8, 8, 8, 8, 8, 8, 8, 8, 8, 8, 8] : List UInt8))).toArray)) (IntKind.wrap .u8 q44)).bind fun q47 =>
    some (w64 ((w64 ((0 : Int) + (8 : Int))) + (IntKind.wrap .i64 q47)))
   else
    (bt (ByteArray.mk (((([0, 1, 2, 2, 3, 3, 3, 3, 4, 4, 4, 4, 4, 4, 4, 4, 5, 5, 5, 5, 5, 5, 5, 5, 5, 5, 5, 5, 5, 5, 5, 5, 6, 6, 6, 6, 6, 6, 6, 6, 6, 6, 6, 6, 6, 6, 6, 6, 6, 6, 6, 6, 6, 6, 6, 6, 6, 6, 6, 6, 6, 6, 6, 6] : List UInt8).append ([7, 7, 7, 7, 7, 7, 7, 7, 7, 7, 7, 7, 7, 7, 7, 7, 7, 7, 7, 7, 7, 7, 7, 7, 7, 7, 7, 7, 7, 7, 7, 7, 7, 7, 7, 7, 7, 7, 7, 7, 7, 7, 7, 7, 7, 7, 7, 7, 7, 7, 7, 7, 7, 7, 7, 7, 7, 7, 7, 7, 7, 7, 7, 7] : List UInt8)).append (([8, 8, 8, 8, 8, 8, 8, 8, 8, 8, 8, 8, 8, 8, 8, 8, 8, 8, 8, 8, 8, 8, 8, 8, 8, 8, 8, 8, 8, 8, 8, 8, 8, 8, 8, 8, 8, 8, 8, 8, 8, 8, 8, 8, 8, 8, 8, 8, 8, 8, 8, 8, 8, 8, 8, 8, 8, 8, 8, 8, 8, 8, 8, 8] : List UInt8).append ([8, 8, 8, 8, 8, 8, 8, 8, 8, 8, 8, 8, 8, 8, 8, 8, 8, 8, 8, 8, 8, 8, 8, 8, 8, 8, 8, 8, 8, 8, 8, 8, 8, 8, 8, 8, 8, 8, 8, 8, 8, 8, 8, 8, 8, 8, 8, 8, 8, 8, 8, 8, 8, 8, 8, 8, 8, 8, 8, 8, 8, 8, 8, 8] : List UInt8))).toArray)) (IntKind.wrap .u8 x0)).bind fun q50 =>
    some (w64 ((0 : Int) + (IntKind.wrap .i64 q50)))
noncomputable def math_bits_Len (x0 : Int) : Option Int :=
 (math_bits_Len64 x0).bind fun r1 =>
 some r1
noncomputable def match_tidy_c1 (x0 : Int) (x1 : Int) (o1 : (List Pair)) : Option Bool :=
 (rd o1 x0).bind fun v1 =>
 (rd o1 x1).bind fun v4 =>
 if v1.Old < v4.Old then
  some true
 else
  if v1.Old = v4.Old then
   some (decide (v1.New < v4.New))
  else
   some false
noncomputable def sort_insertionSort_func_L1 (s1 : Int) (s2 : Int) (s6 : Int) : (Int × (List Pair)) → Option (Out (Int × (List Pair)) (List Pair)) := fun (s7, y1) =>
 if s1 < s7 then
  (match_tidy_c1 s7 (w64 (s7 - (1 : Int))) y1).bind fun r3 =>
  if r3 = true then
   (swapL s7 (w64 (s7 - (1 : Int))) y1).bind fun r9 =>
   if r9.length = y1.length then
    some (.next (w64 (s7 - (1 : Int)), r9))
   else none
  else
   some (.jmp 2 (s7, y1))
 else
  some (.jmp 2 (s7, y1))
noncomputable def sort_insertionSort_func_L0 (s1 : Int) (s2 : Int) : (Int × (List Pair)) → Option (Out (Int × (List Pair)) (List Pair)) := fun (s6, y1) =>
 if s6 < s2 then
  (iter (sort_insertionSort_func_L1 s1 s2 s6) (s6, y1)).bind fun
   | .jmp _ (s7_12, y1_12) =>
    some (.next (w64 (s6 + (1 : Int)), y1_12))
   | _ => none
 else
  some (.jmp 0 (s6, y1))
noncomputable def sort_insertionSort_func (x1 : Int) (x2 : Int) (o1 : (List Pair)) : Option (List Pair) :=
 (iter (sort_insertionSort_func_L0 x1 x2) (w64 (x1 + (1 : Int)), o1)).bind fun
  | .jmp _ (s6_14, y1_14) =>
   some y1_14
  | _ => none
noncomputable def sort_siftDown_func_L0 (s2 : Int) (s3 : Int) : (Int × (List Pair)) → Option (Out (Int × (List Pair)) (List Pair)) := fun (s8, y1) =>
 if s2 ≤ (w64 ((w64 ((2 : Int) * s8)) + (1 : Int))) then
  some (.jmp 0 (s8, y1))
 else
  if (w64 ((w64 ((w64 ((2 : Int) * s8)) + (1 : Int))) + (1 : Int))) < s2 then
   (match_tidy_c1 (w64 (s3 + (w64 ((w64 ((2 : Int) * s8)) + (1 : Int))))) (w64 ((w64 (s3 + (w64 ((w64 ((2 : Int) * s8)) + (1 : Int))))) + (1 : Int))) y1).bind fun r33 =>
   if r33 = true then
    (match_tidy_c1 (w64 (s3 + s8)) (w64 (s3 + (w64 ((w64 ((w64 ((2 : Int) * s8)) + (1 : Int))) + (1 : Int))))) y1).bind fun r37 =>
    if r37 = true then
     (swapL (w64 (s3 + s8)) (w64 (s3 + (w64 ((w64 ((w64 ((2 : Int) * s8)) + (1 : Int))) + (1 : Int))))) y1).bind fun r43 =>
     if r43.length = y1.length then
      some (.next (w64 ((w64 ((w64 ((2 : Int) * s8)) + (1 : Int))) + (1 : Int)), r43))
     else none
    else
     some (.ret y1)
   else
    (match_tidy_c1 (w64 (s3 + s8)) (w64 (s3 + (w64 ((w64 ((2 : Int) * s8)) + (1 : Int))))) y1).bind fun r45 =>
    if r45 = true then
     (swapL (w64 (s3 + s8)) (w64 (s3 + (w64 ((w64 ((2 : Int) * s8)) + (1 : Int))))) y1).bind fun r51 =>
     if r51.length = y1.length then
      some (.next (w64 ((w64 ((2 : Int) * s8)) + (1 : Int)), r51))
     else none
    else
     some (.ret y1)
  else
   (match_tidy_c1 (w64 (s3 + s8)) (w64 (s3 + (w64 ((w64 ((2 : Int) * s8)) + (1 : Int))))) y1).bind fun r53 =>
   if r53 = true then
    (swapL (w64 (s3 + s8)) (w64 (s3 + (w64 ((w64 ((2 : Int) * s8)) + (1 : Int))))) y1).bind fun r59 =>
    if r59.length = y1.length then
     some (.next (w64 ((w64 ((2 : Int) * s8)) + (1 : Int)), r59))
    else none
   else
    some (.ret y1)
noncomputable def sort_siftDown_func (x1 : Int) (x2 : Int) (x3 : Int) (o1 : (List Pair)) : Option (List Pair) :=
 (iter (sort_siftDown_func_L0 x2 x3) (x1, o1)).bind fun
  | .jmp _ (s8_62, y1_62) =>
   some y1_62
  | .ret r63 =>
   some r63
  | .next _ => none
noncomputable def sort_heapSort_func_L1 (s6 : Int) (s7 : Int) : (Int × (List Pair)) → Option (Out (Int × (List Pair)) (List Pair)) := fun (s10, y1) =>
 if (0 : Int) ≤ s10 then
  (swapL s6 (w64 (s6 + s10)) y1).bind fun r14 =>
  if r14.length = y1.length then
   (sort_siftDown_func s7 s10 s6 r14).bind fun r16 =>
   if r16.length = r14.length then
    some (.next (w64 (s10 - (1 : Int)), r16))
   else none
  else none
 else
  some (.jmp 2 (s10, y1))
noncomputable def sort_heapSort_func_L0 (s6 : Int) (s7 : Int) (s8 : Int) : (Int × (List Pair)) → Option (Out (Int × (List Pair)) (List Pair)) := fun (s9, y1) =>
 if (0 : Int) ≤ s9 then
  (sort_siftDown_func s9 s8 s6 y1).bind fun r5 =>
  if r5.length = y1.length then
   some (.next (w64 (s9 - (1 : Int)), r5))
  else none
 else
  some (.jmp 0 (s9, y1))
noncomputable def sort_heapSort_func (x1 : Int) (x2 : Int) (o1 : (List Pair)) : Option (List Pair) :=
 (quoK .i64 (w64 ((w64 (x2 - x1)) - (1 : Int))) (2 : Int)).bind fun q1 =>
 (iter (sort_heapSort_func_L0 x1 (0 : Int) (w64 (x2 - x1))) (q1, o1)).bind fun
  | .jmp _ (s9_10, y1_10) =>
   (iter (sort_heapSort_func_L1 x1 (0 : Int)) (w64 ((w64 (x2 - x1)) - (1 : Int)), y1_10)).bind fun
    | .jmp _ (s10_21, y1_21) =>
     some y1_21
    | _ => none
  | _ => none
noncomputable def sort_order2_func (x1 : Int) (x2 : Int) (o1 : (List Pair)) (o2 : Int) : Option (Int × Int × Int) :=
 (match_tidy_c1 x2 x1 o1).bind fun r1 =>
 if r1 = true then
  some (x2, x1, w64 (o2 + (1 : Int)))
 else
  some (x1, x2, o2)
noncomputable def sort_median_func (x1 : Int) (x2 : Int) (x3 : Int) (o1 : (List Pair)) (o2 : Int) : Option (Int × Int) :=
 (sort_order2_func x1 x2 o1 o2).bind fun r1 =>
 (sort_order2_func r1.2.1 x3 o1 r1.2.2).bind fun r4 =>
 (sort_order2_func r1.1 r4.1 o1 r4.2.2).bind fun r7 =>
 some (r7.2.1, r7.2.2)
noncomputable def sort_medianAdjacent_func (x1 : Int) (o1 : (List Pair)) (o2 : Int) : Option (Int × Int) :=
 (sort_median_func (w64 (x1 - (1 : Int))) x1 (w64 (x1 + (1 : Int))) o1 o2).bind fun r1 =>
 some (r1.1, r1.2)
noncomputable def sort_choosePivot_func (x1 : Int) (x2 : Int) (o1 : (List Pair)) : Option (Int × Int) :=
 (quoK .i64 (w64 (x2 - x1)) (4 : Int)).bind fun q1 =>
 if (8 : Int) ≤ (w64 (x2 - x1)) then
  if (50 : Int) ≤ (w64 (x2 - x1)) then
   (sort_medianAdjacent_func (w64 (x1 + (w64 (q1 * (1 : Int))))) o1 (0 : Int)).bind fun r6 =>
   (sort_medianAdjacent_func (w64 (x1 + (w64 (q1 * (2 : Int))))) o1 r6.2).bind fun r9 =>
   (sort_medianAdjacent_func (w64 (x1 + (w64 (q1 * (3 : Int))))) o1 r9.2).bind fun r12 =>
   (sort_median_func r6.1 r9.1 r12.1 o1 r12.2).bind fun r15 =>
   if r15.2 = (0 : Int) then
    some (r15.1, (1 : Int))
   else
    if r15.2 = (12 : Int) then
     some (r15.1, (2 : Int))
    else
     some (r15.1, (0 : Int))
  else
   (sort_median_func (w64 (x1 + (w64 (q1 * (1 : Int))))) (w64 (x1 + (w64 (q1 * (2 : Int))))) (w64 (x1 + (w64 (q1 * (3 : Int))))) o1 (0 : Int)).bind fun r20 =>
   if r20.2 = (0 : Int) then
    some (r20.1, (1 : Int))
   else
    if r20.2 = (12 : Int) then
     some (r20.1, (2 : Int))
    else
     some (r20.1, (0 : Int))
 else
  some (w64 (x1 + (w64 (q1 * (2 : Int)))), (1 : Int))
noncomputable def sort_reverseRange_func_L0 : (Int × Int × (List Pair)) → Option (Out (Int × Int × (List Pair)) (List Pair)) := fun (s6, s7, y1) =>
 if s6 < s7 then
  (swapL s6 s7 y1).bind fun r9 =>
  if r9.length = y1.length then
   some (.next (w64 (s6 + (1 : Int)), w64 (s7 - (1 : Int)), r9))
  else none
 else
  some (.jmp 0 (s6, s7, y1))
noncomputable def sort_reverseRange_func (x1 : Int) (x2 : Int) (o1 : (List Pair)) : Option (List Pair) :=
 (iter (sort_reverseRange_func_L0) (x1, w64 (x2 - (1 : Int)), o1)).bind fun
  | .jmp _ (s6_12, s7_12, y1_12) =>
   some y1_12
  | _ => none
noncomputable def sort_partialInsertionSort_func_L3 (s1 : Int) (s2 : Int) (s7 : Int) (s8 : Int) : (Int × (List Pair)) → Option (Out (Int × (List Pair)) (Bool × (List Pair))) := fun (s10, y1) =>
 if s10 < s2 then
  (match_tidy_c1 s10 (w64 (s10 - (1 : Int))) y1).bind fun r41 =>
  if r41 = true then
   (swapL s10 (w64 (s10 - (1 : Int))) y1).bind fun r47 =>
   if r47.length = y1.length then
    some (.next (w64 (s10 + (1 : Int)), r47))
   else none
  else
   some (.jmp 6 (s10, y1))
 else
  some (.jmp 6 (s10, y1))
noncomputable def sort_partialInsertionSort_func_L2 (s1 : Int) (s2 : Int) (s7 : Int) (s8 : Int) : (Int × (List Pair)) → Option (Out (Int × (List Pair)) (Bool × (List Pair))) := fun (s9, y1) =>
 if (1 : Int) ≤ s9 then
  (match_tidy_c1 s9 (w64 (s9 - (1 : Int))) y1).bind fun r17 =>
  if r17 = true then
   (swapL s9 (w64 (s9 - (1 : Int))) y1).bind fun r23 =>
   if r23.length = y1.length then
    some (.next (w64 (s9 - (1 : Int)), r23))
   else none
  else
   some (.jmp 4 (s9, y1))
 else
  some (.jmp 4 (s9, y1))
noncomputable def sort_partialInsertionSort_func_L1 (s1 : Int) (s2 : Int) (s8 : Int) (y1 : (List Pair)) : Int → Option (Out (Int) (Bool × (List Pair))) := fun s7 =>
 if s7 < s2 then
  (match_tidy_c1 s7 (w64 (s7 - (1 : Int))) y1).bind fun r3 =>
  if r3 = true then
   some (.jmp 2 s7)
  else
   some (.next (w64 (s7 + (1 : Int))))
 else
  some (.jmp 2 s7)
noncomputable def sort_partialInsertionSort_func_L0 (s1 : Int) (s2 : Int) : (Int × Int × (List Pair)) → Option (Out (Int × Int × (List Pair)) (Bool × (List Pair))) := fun (s7, s8, y1) =>
 if s8 < (5 : Int) then
  (iter (sort_partialInsertionSort_func_L1 s1 s2 s8 y1) s7).bind fun
   | .jmp _ s7_8 =>
    if s7_8 = s2 then
     some (.ret (true, y1))
    else
     if (w64 (s2 - s1)) < (50 : Int) then
      some (.ret (false, y1))
     else
      (swapL s7_8 (w64 (s7_8 - (1 : Int))) y1).bind fun r13 =>
      if r13.length = y1.length then
       if (2 : Int) ≤ (w64 (s7_8 - s1)) then
        (iter (sort_partialInsertionSort_func_L2 s1 s2 s7_8 s8) (w64 (s7_8 - (1 : Int)), r13)).bind fun
         | .jmp _ (s9_26, y1_26) =>
          if (2 : Int) ≤ (w64 (s2 - s7_8)) then
           (iter (sort_partialInsertionSort_func_L3 s1 s2 s7_8 s8) (w64 (s7_8 + (1 : Int)), y1_26)).bind fun
            | .jmp _ (s10_38, y1_38) =>
             some (.next (s7_8, w64 (s8 + (1 : Int)), y1_38))
            | _ => none
          else
           some (.next (s7_8, w64 (s8 + (1 : Int)), y1_26))
         | _ => none
       else
        if (2 : Int) ≤ (w64 (s2 - s7_8)) then
         (iter (sort_partialInsertionSort_func_L3 s1 s2 s7_8 s8) (w64 (s7_8 + (1 : Int)), r13)).bind fun
          | .jmp _ (s10_50, y1_50) =>
           some (.next (s7_8, w64 (s8 + (1 : Int)), y1_50))
          | _ => none
        else
         some (.next (s7_8, w64 (s8 + (1 : Int)), r13))
      else none
   | _ => none
 else
  some (.jmp 0 (s7, s8, y1))
noncomputable def sort_partialInsertionSort_func (x1 : Int) (x2 : Int) (o1 : (List Pair)) : Option (Bool × (List Pair)) :=
 (iter (sort_partialInsertionSort_func_L0 x1 x2) (w64 (x1 + (1 : Int)), (0 : Int), o1)).bind fun
  | .jmp _ (s7_52, s8_52, y1_52) =>
   some (false, y1_52)
  | .ret r53 =>
   some r53
  | .next _ => none
noncomputable def sort_partition_func_L4 (s1 : Int) (s10 : Int) (y1 : (List Pair)) : Int → Option (Out (Int) (Int × Bool × (List Pair))) := fun s11 =>
 if s10 ≤ s11 then
  (match_tidy_c1 s11 s1 y1).bind fun r36 =>
  if r36 = true then
   some (.jmp 8 s11)
  else
   some (.next (w64 (s11 - (1 : Int))))
 else
  some (.jmp 8 s11)
noncomputable def sort_partition_func_L3 (s1 : Int) (s11 : Int) (y1 : (List Pair)) : Int → Option (Out (Int) (Int × Bool × (List Pair))) := fun s10 =>
 if s10 ≤ s11 then
  (match_tidy_c1 s10 s1 y1).bind fun r29 =>
  if r29 = true then
   some (.next (w64 (s10 + (1 : Int))))
  else
   some (.jmp 6 s10)
 else
  some (.jmp 6 s10)
noncomputable def sort_partition_func_L2 (s1 : Int) : (Int × Int × (List Pair)) → Option (Out (Int × Int × (List Pair)) (Int × Bool × (List Pair))) := fun (s10, s11, y1) =>
 (iter (sort_partition_func_L3 s1 s11 y1) s10).bind fun
  | .jmp _ s10_34 =>
   (iter (sort_partition_func_L4 s1 s10_34 y1) s11).bind fun
    | .jmp _ s11_41 =>
     if s11_41 < s10_34 then
      some (.jmp 4 (s10_34, s11_41, y1))
     else
      (swapL s10_34 s11_41 y1).bind fun r45 =>
      if r45.length = y1.length then
       some (.next (w64 (s10_34 + (1 : Int)), w64 (s11_41 - (1 : Int)), r45))
      else none
    | _ => none
  | _ => none
noncomputable def sort_partition_func_L1 (s1 : Int) (s10 : Int) (y1 : (List Pair)) : Int → Option (Out (Int) (Int × Bool × (List Pair))) := fun s11 =>
 if s10 ≤ s11 then
  (match_tidy_c1 s11 s1 y1).bind fun r13 =>
  if r13 = true then
   some (.jmp 2 s11)
  else
   some (.next (w64 (s11 - (1 : Int))))
 else
  some (.jmp 2 s11)
noncomputable def sort_partition_func_L0 (s1 : Int) (s11 : Int) (y1 : (List Pair)) : Int → Option (Out (Int) (Int × Bool × (List Pair))) := fun s10 =>
 if s10 ≤ s11 then
  (match_tidy_c1 s10 s1 y1).bind fun r6 =>
  if r6 = true then
   some (.next (w64 (s10 + (1 : Int))))
  else
   some (.jmp 0 s10)
 else
  some (.jmp 0 s10)
noncomputable def sort_partition_func (x1 : Int) (x2 : Int) (x3 : Int) (o1 : (List Pair)) : Option (Int × Bool × (List Pair)) :=
 (swapL x1 x3 o1).bind fun r3 =>
 if r3.length = o1.length then
  (iter (sort_partition_func_L0 x1 (w64 (x2 - (1 : Int))) r3) (w64 (x1 + (1 : Int)))).bind fun
   | .jmp _ s10_11 =>
    (iter (sort_partition_func_L1 x1 s10_11 r3) (w64 (x2 - (1 : Int)))).bind fun
     | .jmp _ s11_18 =>
      if s11_18 < s10_11 then
       (swapL s11_18 x1 r3).bind fun r22 =>
       if r22.length = r3.length then
        some (s11_18, true, r22)
       else none
      else
       (swapL s10_11 s11_18 r3).bind fun r26 =>
       if r26.length = r3.length then
        (iter (sort_partition_func_L2 x1) (w64 (s10_11 + (1 : Int)), w64 (s11_18 - (1 : Int)), r26)).bind fun
         | .jmp _ (s10_48, s11_48, y1_48) =>
          (swapL s11_48 x1 y1_48).bind fun r51 =>
          if r51.length = y1_48.length then
           some (s11_48, false, r51)
          else none
         | _ => none
       else none
     | _ => none
   | _ => none
 else none
noncomputable def sort_partitionEqual_func_L2 (s1 : Int) (s9 : Int) (y1 : (List Pair)) : Int → Option (Out (Int) (Int × (List Pair))) := fun s10 =>
 if s9 ≤ s10 then
  (match_tidy_c1 s1 s10 y1).bind fun r13 =>
  if r13 = true then
   some (.next (w64 (s10 - (1 : Int))))
  else
   some (.jmp 4 s10)
 else
  some (.jmp 4 s10)
noncomputable def sort_partitionEqual_func_L1 (s1 : Int) (s10 : Int) (y1 : (List Pair)) : Int → Option (Out (Int) (Int × (List Pair))) := fun s9 =>
 if s9 ≤ s10 then
  (match_tidy_c1 s1 s9 y1).bind fun r6 =>
  if r6 = true then
   some (.jmp 2 s9)
  else
   some (.next (w64 (s9 + (1 : Int))))
 else
  some (.jmp 2 s9)
noncomputable def sort_partitionEqual_func_L0 (s1 : Int) : (Int × Int × (List Pair)) → Option (Out (Int × Int × (List Pair)) (Int × (List Pair))) := fun (s9, s10, y1) =>
 (iter (sort_partitionEqual_func_L1 s1 s10 y1) s9).bind fun
  | .jmp _ s9_11 =>
   (iter (sort_partitionEqual_func_L2 s1 s9_11 y1) s10).bind fun
    | .jmp _ s10_18 =>
     if s10_18 < s9_11 then
      some (.jmp 0 (s9_11, s10_18, y1))
     else
      (swapL s9_11 s10_18 y1).bind fun r22 =>
      if r22.length = y1.length then
       some (.next (w64 (s9_11 + (1 : Int)), w64 (s10_18 - (1 : Int)), r22))
      else none
    | _ => none
  | _ => none
noncomputable def sort_partitionEqual_func (x1 : Int) (x2 : Int) (x3 : Int) (o1 : (List Pair)) : Option (Int × (List Pair)) :=
 (swapL x1 x3 o1).bind fun r3 =>
 if r3.length = o1.length then
  (iter (sort_partitionEqual_func_L0 x1) (w64 (x1 + (1 : Int)), w64 (x2 - (1 : Int)), r3)).bind fun
   | .jmp _ (s9_25, s10_25, y1_25) =>
    some (s9_25, y1_25)
   | _ => none
 else none
noncomputable def sort_nextPowerOfTwo (x0 : Int) : Option Int :=
 (math_bits_Len (IntKind.wrap .u64 x0)).bind fun r1 =>
 (shlK .u64 (1 : Int) (IntKind.wrap .u64 r1)).bind fun q4 =>
 some q4
noncomputable def sort_xorshift_Next (x0 : Int) : Option (Int × Int) :=
 (shlK .u64 x0 (13 : Int)).bind fun q1 =>
 (shrK .u64 (xorK .u64 x0 q1) (7 : Int)).bind fun q4 =>
 (shlK .u64 (xorK .u64 (xorK .u64 x0 q1) q4) (17 : Int)).bind fun q7 =>
 some (xorK .u64 (xorK .u64 (xorK .u64 x0 q1) q4) q7, xorK .u64 (xorK .u64 (xorK .u64 x0 q1) q4) q7)
noncomputable def sort_breakPatterns_func_L0 (s1 : Int) (s6 : Int) (s8 : Int) : (Int × (List Pair) × Int) → Option (Out (Int × (List Pair) × Int) (List Pair)) := fun (s9, y1, w3_0) =>
 (quoK .i64 s6 (4 : Int)).bind fun q24 =>
 if s9 ≤ (w64 ((w64 (s1 + (w64 (q24 * (2 : Int))))) + (1 : Int))) then
  (sort_xorshift_Next w3_0).bind fun r28 =>
  if s6 ≤ (IntKind.wrap .i64 (andK .u64 r28.1 (IntKind.wrap .u64 (s8 - (1 : Int))))) then
   (swapL s9 (w64 (s1 + (w64 ((IntKind.wrap .i64 (andK .u64 r28.1 (IntKind.wrap .u64 (s8 - (1 : Int))))) - s6)))) y1).bind fun r34 =>
   if r34.length = y1.length then
    some (.next (w64 (s9 + (1 : Int)), r34, r28.2))
   else none
  else
   (swapL s9 (w64 (s1 + (IntKind.wrap .i64 (andK .u64 r28.1 (IntKind.wrap .u64 (s8 - (1 : Int))))))) y1).bind fun r38 =>
   if r38.length = y1.length then
    some (.next (w64 (s9 + (1 : Int)), r38, r28.2))
   else none
 else
  some (.jmp 0 (s9, y1, w3_0))
noncomputable def sort_breakPatterns_func (x1 : Int) (x2 : Int) (o1 : (List Pair)) : Option (List Pair) :=
 if (8 : Int) ≤ (w64 (x2 - x1)) then
  (sort_nextPowerOfTwo (w64 (x2 - x1))).bind fun r2 =>
  (quoK .i64 (w64 (x2 - x1)) (4 : Int)).bind fun q5 =>
  (iter (sort_breakPatterns_func_L0 x1 (w64 (x2 - x1)) r2) (w64 ((w64 (x1 + (w64 (q5 * (2 : Int))))) - (1 : Int)), o1, IntKind.wrap .u64 (w64 (x2 - x1)))).bind fun
   | .jmp _ (s9_41, y1_41, w3_0_41) =>
    some y1_41
   | _ => none
 else
  some o1
noncomputable def sort_pdqsort_func_L0 (rec : Int → Int → Int → (List Pair) → Option (List Pair)) : (Int × Int × Int × Bool × Bool × (List Pair)) → Option (Out (Int × Int × Int × Bool × Bool × (List Pair)) (List Pair)) := fun (s1, s2, s3, s8, s9, y1) =>
 if (w64 (s2 - s1)) ≤ (12 : Int) then
  (sort_insertionSort_func s1 s2 y1).bind fun r333 =>
  if r333.length = y1.length then
   some (.ret r333)
  else none
 else
  if s3 = (0 : Int) then
   (sort_heapSort_func s1 s2 y1).bind fun r338 =>
   if r338.length = y1.length then
    some (.ret r338)
   else none
  else
   if s8 = true then
    (sort_choosePivot_func s1 s2 y1).bind fun r343 =>
    if r343.2 = (2 : Int) then
     (sort_reverseRange_func s1 s2 y1).bind fun r347 =>
     if r347.length = y1.length then
      if s9 = true then
       (sort_partialInsertionSort_func s1 s2 r347).bind fun r352 =>
       if r352.2.length = r347.length then
        if r352.1 = true then
         some (.ret r352.2)
        else
         if (0 : Int) < s1 then
          (match_tidy_c1 (w64 (s1 - (1 : Int))) (w64 ((w64 (s2 - (1 : Int))) - (w64 (r343.1 - s1)))) r352.2).bind fun r358 =>
          if r358 = true then
           (sort_partition_func s1 s2 (w64 ((w64 (s2 - (1 : Int))) - (w64 (r343.1 - s1)))) r352.2).bind fun r362 =>
           if r362.2.2.length = r352.2.length then
            (quoK .i64 (w64 (s2 - s1)) (8 : Int)).bind fun q366 =>
            if (w64 (r362.1 - s1)) < (w64 (s2 - r362.1)) then
             (rec s1 r362.1 s3 r362.2.2).bind fun r370 =>
             if r370.length = r362.2.2.length then
              some (.next (w64 (r362.1 + (1 : Int)), s2, s3, decide (q366 ≤ (w64 (r362.1 - s1))), r362.2.1, r370))
             else none
            else
             (rec (w64 (r362.1 + (1 : Int))) s2 s3 r362.2.2).bind fun r374 =>
             if r374.length = r362.2.2.length then
              some (.next (s1, r362.1, s3, decide (q366 ≤ (w64 (s2 - r362.1))), r362.2.1, r374))
             else none
           else none
          else
           (sort_partitionEqual_func s1 s2 (w64 ((w64 (s2 - (1 : Int))) - (w64 (r343.1 - s1)))) r352.2).bind fun r378 =>
           if r378.2.length = r352.2.length then
            some (.next (r378.1, s2, s3, s8, s9, r378.2))
           else none
         else
          (sort_partition_func s1 s2 (w64 ((w64 (s2 - (1 : Int))) - (w64 (r343.1 - s1)))) r352.2).bind fun r382 =>
          if r382.2.2.length = r352.2.length then
           (quoK .i64 (w64 (s2 - s1)) (8 : Int)).bind fun q386 =>
           if (w64 (r382.1 - s1)) < (w64 (s2 - r382.1)) then
            (rec s1 r382.1 s3 r382.2.2).bind fun r390 =>
            if r390.length = r382.2.2.length then
             some (.next (w64 (r382.1 + (1 : Int)), s2, s3, decide (q386 ≤ (w64 (r382.1 - s1))), r382.2.1, r390))
            else none
           else
            (rec (w64 (r382.1 + (1 : Int))) s2 s3 r382.2.2).bind fun r394 =>
            if r394.length = r382.2.2.length then
             some (.next (s1, r382.1, s3, decide (q386 ≤ (w64 (s2 - r382.1))), r382.2.1, r394))
            else none
          else none
       else none
      else
       if (0 : Int) < s1 then
        (match_tidy_c1 (w64 (s1 - (1 : Int))) (w64 ((w64 (s2 - (1 : Int))) - (w64 (r343.1 - s1)))) r347).bind fun r399 =>
        if r399 = true then
         (sort_partition_func s1 s2 (w64 ((w64 (s2 - (1 : Int))) - (w64 (r343.1 - s1)))) r347).bind fun r403 =>
         if r403.2.2.length = r347.length then
          (quoK .i64 (w64 (s2 - s1)) (8 : Int)).bind fun q407 =>
          if (w64 (r403.1 - s1)) < (w64 (s2 - r403.1)) then
           (rec s1 r403.1 s3 r403.2.2).bind fun r411 =>
           if r411.length = r403.2.2.length then
            some (.next (w64 (r403.1 + (1 : Int)), s2, s3, decide (q407 ≤ (w64 (r403.1 - s1))), r403.2.1, r411))
           else none
          else
           (rec (w64 (r403.1 + (1 : Int))) s2 s3 r403.2.2).bind fun r415 =>
           if r415.length = r403.2.2.length then
            some (.next (s1, r403.1, s3, decide (q407 ≤ (w64 (s2 - r403.1))), r403.2.1, r415))
           else none
         else none
        else
         (sort_partitionEqual_func s1 s2 (w64 ((w64 (s2 - (1 : Int))) - (w64 (r343.1 - s1)))) r347).bind fun r419 =>
         if r419.2.length = r347.length then
          some (.next (r419.1, s2, s3, s8, s9, r419.2))
         else none
       else
        (sort_partition_func s1 s2 (w64 ((w64 (s2 - (1 : Int))) - (w64 (r343.1 - s1)))) r347).bind fun r423 =>
        if r423.2.2.length = r347.length then
         (quoK .i64 (w64 (s2 - s1)) (8 : Int)).bind fun q427 =>
         if (w64 (r423.1 - s1)) < (w64 (s2 - r423.1)) then
          (rec s1 r423.1 s3 r423.2.2).bind fun r431 =>
          if r431.length = r423.2.2.length then
           some (.next (w64 (r423.1 + (1 : Int)), s2, s3, decide (q427 ≤ (w64 (r423.1 - s1))), r423.2.1, r431))
          else none
         else
          (rec (w64 (r423.1 + (1 : Int))) s2 s3 r423.2.2).bind fun r435 =>
          if r435.length = r423.2.2.length then
           some (.next (s1, r423.1, s3, decide (q427 ≤ (w64 (s2 - r423.1))), r423.2.1, r435))
          else none
        else none
     else none
    else
     if s9 = true then
      if r343.2 = (1 : Int) then
       (sort_partialInsertionSort_func s1 s2 y1).bind fun r441 =>
       if r441.2.length = y1.length then
        if r441.1 = true then
         some (.ret r441.2)
        else
         if (0 : Int) < s1 then
          (match_tidy_c1 (w64 (s1 - (1 : Int))) r343.1 r441.2).bind fun r447 =>
          if r447 = true then
           (sort_partition_func s1 s2 r343.1 r441.2).bind fun r451 =>
           if r451.2.2.length = r441.2.length then
            (quoK .i64 (w64 (s2 - s1)) (8 : Int)).bind fun q455 =>
            if (w64 (r451.1 - s1)) < (w64 (s2 - r451.1)) then
             (rec s1 r451.1 s3 r451.2.2).bind fun r459 =>
             if r459.length = r451.2.2.length then
              some (.next (w64 (r451.1 + (1 : Int)), s2, s3, decide (q455 ≤ (w64 (r451.1 - s1))), r451.2.1, r459))
             else none
            else
             (rec (w64 (r451.1 + (1 : Int))) s2 s3 r451.2.2).bind fun r463 =>
             if r463.length = r451.2.2.length then
              some (.next (s1, r451.1, s3, decide (q455 ≤ (w64 (s2 - r451.1))), r451.2.1, r463))
             else none
           else none
          else
           (sort_partitionEqual_func s1 s2 r343.1 r441.2).bind fun r467 =>
           if r467.2.length = r441.2.length then
            some (.next (r467.1, s2, s3, s8, s9, r467.2))
           else none
         else
          (sort_partition_func s1 s2 r343.1 r441.2).bind fun r471 =>
          if r471.2.2.length = r441.2.length then
           (quoK .i64 (w64 (s2 - s1)) (8 : Int)).bind fun q475 =>
           if (w64 (r471.1 - s1)) < (w64 (s2 - r471.1)) then
            (rec s1 r471.1 s3 r471.2.2).bind fun r479 =>
            if r479.length = r471.2.2.length then
             some (.next (w64 (r471.1 + (1 : Int)), s2, s3, decide (q475 ≤ (w64 (r471.1 - s1))), r471.2.1, r479))
            else none
           else
            (rec (w64 (r471.1 + (1 : Int))) s2 s3 r471.2.2).bind fun r483 =>
            if r483.length = r471.2.2.length then
             some (.next (s1, r471.1, s3, decide (q475 ≤ (w64 (s2 - r471.1))), r471.2.1, r483))
            else none
          else none
       else none
      else
       if (0 : Int) < s1 then
        (match_tidy_c1 (w64 (s1 - (1 : Int))) r343.1 y1).bind fun r488 =>
        if r488 = true then
         (sort_partition_func s1 s2 r343.1 y1).bind fun r492 =>
         if r492.2.2.length = y1.length then
          (quoK .i64 (w64 (s2 - s1)) (8 : Int)).bind fun q496 =>
          if (w64 (r492.1 - s1)) < (w64 (s2 - r492.1)) then
           (rec s1 r492.1 s3 r492.2.2).bind fun r500 =>
           if r500.length = r492.2.2.length then
            some (.next (w64 (r492.1 + (1 : Int)), s2, s3, decide (q496 ≤ (w64 (r492.1 - s1))), r492.2.1, r500))
           else none
          else
           (rec (w64 (r492.1 + (1 : Int))) s2 s3 r492.2.2).bind fun r504 =>
           if r504.length = r492.2.2.length then
            some (.next (s1, r492.1, s3, decide (q496 ≤ (w64 (s2 - r492.1))), r492.2.1, r504))
           else none
         else none
        else
         (sort_partitionEqual_func s1 s2 r343.1 y1).bind fun r508 =>
         if r508.2.length = y1.length then
          some (.next (r508.1, s2, s3, s8, s9, r508.2))
         else none
       else
        (sort_partition_func s1 s2 r343.1 y1).bind fun r512 =>
        if r512.2.2.length = y1.length then
         (quoK .i64 (w64 (s2 - s1)) (8 : Int)).bind fun q516 =>
         if (w64 (r512.1 - s1)) < (w64 (s2 - r512.1)) then
          (rec s1 r512.1 s3 r512.2.2).bind fun r520 =>
          if r520.length = r512.2.2.length then
           some (.next (w64 (r512.1 + (1 : Int)), s2, s3, decide (q516 ≤ (w64 (r512.1 - s1))), r512.2.1, r520))
          else none
         else
          (rec (w64 (r512.1 + (1 : Int))) s2 s3 r512.2.2).bind fun r524 =>
          if r524.length = r512.2.2.length then
           some (.next (s1, r512.1, s3, decide (q516 ≤ (w64 (s2 - r512.1))), r512.2.1, r524))
          else none
        else none
     else
      if (0 : Int) < s1 then
       (match_tidy_c1 (w64 (s1 - (1 : Int))) r343.1 y1).bind fun r529 =>
       if r529 = true then
        (sort_partition_func s1 s2 r343.1 y1).bind fun r533 =>
        if r533.2.2.length = y1.length then
         (quoK .i64 (w64 (s2 - s1)) (8 : Int)).bind fun q537 =>
         if (w64 (r533.1 - s1)) < (w64 (s2 - r533.1)) then
          (rec s1 r533.1 s3 r533.2.2).bind fun r541 =>
          if r541.length = r533.2.2.length then
           some (.next (w64 (r533.1 + (1 : Int)), s2, s3, decide (q537 ≤ (w64 (r533.1 - s1))), r533.2.1, r541))
          else none
         else
          (rec (w64 (r533.1 + (1 : Int))) s2 s3 r533.2.2).bind fun r545 =>
          if r545.length = r533.2.2.length then
           some (.next (s1, r533.1, s3, decide (q537 ≤ (w64 (s2 - r533.1))), r533.2.1, r545))
          else none
        else none
       else
        (sort_partitionEqual_func s1 s2 r343.1 y1).bind fun r549 =>
        if r549.2.length = y1.length then
         some (.next (r549.1, s2, s3, s8, s9, r549.2))
        else none
      else
       (sort_partition_func s1 s2 r343.1 y1).bind fun r553 =>
       if r553.2.2.length = y1.length then
        (quoK .i64 (w64 (s2 - s1)) (8 : Int)).bind fun q557 =>
        if (w64 (r553.1 - s1)) < (w64 (s2 - r553.1)) then
         (rec s1 r553.1 s3 r553.2.2).bind fun r561 =>
         if r561.length = r553.2.2.length then
          some (.next (w64 (r553.1 + (1 : Int)), s2, s3, decide (q557 ≤ (w64 (r553.1 - s1))), r553.2.1, r561))
         else none
        else
         (rec (w64 (r553.1 + (1 : Int))) s2 s3 r553.2.2).bind fun r565 =>
         if r565.length = r553.2.2.length then
          some (.next (s1, r553.1, s3, decide (q557 ≤ (w64 (s2 - r553.1))), r553.2.1, r565))
         else none
       else none
   else
    (sort_breakPatterns_func s1 s2 y1).bind fun r569 =>
    if r569.length = y1.length then
     (sort_choosePivot_func s1 s2 r569).bind fun r573 =>
     if r573.2 = (2 : Int) then
      (sort_reverseRange_func s1 s2 r569).bind fun r577 =>
      if r577.length = r569.length then
       if (0 : Int) < s1 then
        (match_tidy_c1 (w64 (s1 - (1 : Int))) (w64 ((w64 (s2 - (1 : Int))) - (w64 (r573.1 - s1)))) r577).bind fun r582 =>
        if r582 = true then
         (sort_partition_func s1 s2 (w64 ((w64 (s2 - (1 : Int))) - (w64 (r573.1 - s1)))) r577).bind fun r586 =>
         if r586.2.2.length = r577.length then
          (quoK .i64 (w64 (s2 - s1)) (8 : Int)).bind fun q590 =>
          if (w64 (r586.1 - s1)) < (w64 (s2 - r586.1)) then
           (rec s1 r586.1 (w64 (s3 - (1 : Int))) r586.2.2).bind fun r594 =>
           if r594.length = r586.2.2.length then
            some (.next (w64 (r586.1 + (1 : Int)), s2, w64 (s3 - (1 : Int)), decide (q590 ≤ (w64 (r586.1 - s1))), r586.2.1, r594))
           else none
          else
           (rec (w64 (r586.1 + (1 : Int))) s2 (w64 (s3 - (1 : Int))) r586.2.2).bind fun r598 =>
           if r598.length = r586.2.2.length then
            some (.next (s1, r586.1, w64 (s3 - (1 : Int)), decide (q590 ≤ (w64 (s2 - r586.1))), r586.2.1, r598))
           else none
         else none
        else
         (sort_partitionEqual_func s1 s2 (w64 ((w64 (s2 - (1 : Int))) - (w64 (r573.1 - s1)))) r577).bind fun r602 =>
         if r602.2.length = r577.length then
          some (.next (r602.1, s2, w64 (s3 - (1 : Int)), s8, s9, r602.2))
         else none
       else
        (sort_partition_func s1 s2 (w64 ((w64 (s2 - (1 : Int))) - (w64 (r573.1 - s1)))) r577).bind fun r606 =>
        if r606.2.2.length = r577.length then
         (quoK .i64 (w64 (s2 - s1)) (8 : Int)).bind fun q610 =>
         if (w64 (r606.1 - s1)) < (w64 (s2 - r606.1)) then
          (rec s1 r606.1 (w64 (s3 - (1 : Int))) r606.2.2).bind fun r614 =>
          if r614.length = r606.2.2.length then
           some (.next (w64 (r606.1 + (1 : Int)), s2, w64 (s3 - (1 : Int)), decide (q610 ≤ (w64 (r606.1 - s1))), r606.2.1, r614))
          else none
         else
          (rec (w64 (r606.1 + (1 : Int))) s2 (w64 (s3 - (1 : Int))) r606.2.2).bind fun r618 =>
          if r618.length = r606.2.2.length then
           some (.next (s1, r606.1, w64 (s3 - (1 : Int)), decide (q610 ≤ (w64 (s2 - r606.1))), r606.2.1, r618))
          else none
        else none
      else none
     else
      if (0 : Int) < s1 then
       (match_tidy_c1 (w64 (s1 - (1 : Int))) r573.1 r569).bind fun r623 =>
       if r623 = true then
        (sort_partition_func s1 s2 r573.1 r569).bind fun r627 =>
        if r627.2.2.length = r569.length then
         (quoK .i64 (w64 (s2 - s1)) (8 : Int)).bind fun q631 =>
         if (w64 (r627.1 - s1)) < (w64 (s2 - r627.1)) then
          (rec s1 r627.1 (w64 (s3 - (1 : Int))) r627.2.2).bind fun r635 =>
          if r635.length = r627.2.2.length then
           some (.next (w64 (r627.1 + (1 : Int)), s2, w64 (s3 - (1 : Int)), decide (q631 ≤ (w64 (r627.1 - s1))), r627.2.1, r635))
          else none
         else
          (rec (w64 (r627.1 + (1 : Int))) s2 (w64 (s3 - (1 : Int))) r627.2.2).bind fun r639 =>
          if r639.length = r627.2.2.length then
           some (.next (s1, r627.1, w64 (s3 - (1 : Int)), decide (q631 ≤ (w64 (s2 - r627.1))), r627.2.1, r639))
          else none
        else none
       else
        (sort_partitionEqual_func s1 s2 r573.1 r569).bind fun r643 =>
        if r643.2.length = r569.length then
         some (.next (r643.1, s2, w64 (s3 - (1 : Int)), s8, s9, r643.2))
        else none
      else
       (sort_partition_func s1 s2 r573.1 r569).bind fun r647 =>
       if r647.2.2.length = r569.length then
        (quoK .i64 (w64 (s2 - s1)) (8 : Int)).bind fun q651 =>
        if (w64 (r647.1 - s1)) < (w64 (s2 - r647.1)) then
         (rec s1 r647.1 (w64 (s3 - (1 : Int))) r647.2.2).bind fun r655 =>
         if r655.length = r647.2.2.length then
          some (.next (w64 (r647.1 + (1 : Int)), s2, w64 (s3 - (1 : Int)), decide (q651 ≤ (w64 (r647.1 - s1))), r647.2.1, r655))
         else none
        else
         (rec (w64 (r647.1 + (1 : Int))) s2 (w64 (s3 - (1 : Int))) r647.2.2).bind fun r659 =>
         if r659.length = r647.2.2.length then
          some (.next (s1, r647.1, w64 (s3 - (1 : Int)), decide (q651 ≤ (w64 (s2 - r647.1))), r647.2.1, r659))
         else none
       else none
    else none
noncomputable def sort_pdqsort_func.body (rec : Int → Int → Int → (List Pair) → Option (List Pair)) (x1 : Int) (x2 : Int) (x3 : Int) (o1 : (List Pair)) : Option (List Pair) :=
 (iter (sort_pdqsort_func_L0 rec) (x1, x2, x3, true, true, o1)).bind fun
  | .ret r665 =>
   some r665
  | _ => none
end Xr

namespace Xr
open Go Go.Ev
set_option linter.unusedSimpArgs false
set_option linter.unusedVariables false
set_option linter.defProp false
noncomputable def slices_insertionSortCmpFunc_L1 {T : Type} (p3 : T → T → Option Int) (s1 : Int) (s2 : Int) (s8 : Int) : (Int × (List T)) → Option (Out (Int × (List T)) (List T)) := fun (s9, y0) =>
 if s1 < s9 then
  (rd y0 s9).bind fun v3 =>
  (rd y0 (w64 (s9 - (1 : Int)))).bind fun v6 =>
  (p3 v3 v6).bind fun r9 =>
  if r9 < (0 : Int) then
   (rd (y0.set s9.toNat v6) (w64 (s9 - (1 : Int)))).bind fun v17 =>
   some (.next (w64 (s9 - (1 : Int)), ((y0.set s9.toNat v6).set (w64 (s9 - (1 : Int))).toNat v3)))
  else
   some (.jmp 2 (s9, y0))
 else
  some (.jmp 2 (s9, y0))
noncomputable def slices_insertionSortCmpFunc_L0 {T : Type} (p3 : T → T → Option Int) (s1 : Int) (s2 : Int) : (Int × (List T)) → Option (Out (Int × (List T)) (List T)) := fun (s8, y0) =>
 if s8 < s2 then
  (iter (slices_insertionSortCmpFunc_L1 p3 s1 s2 s8) (s8, y0)).bind fun
   | .jmp _ (s9_22, y0_22) =>
    some (.next (w64 (s8 + (1 : Int)), y0_22))
   | _ => none
 else
  some (.jmp 0 (s8, y0))
noncomputable def slices_insertionSortCmpFunc {T : Type} (p3 : T → T → Option Int) (x0 : (List T)) (x1 : Int) (x2 : Int) : Option (List T) :=
 (iter (slices_insertionSortCmpFunc_L0 p3 x1 x2) (w64 (x1 + (1 : Int)), x0)).bind fun
  | .jmp _ (s8_24, y0_24) =>
   some y0_24
  | _ => none
noncomputable def slices_siftDownCmpFunc_L0 {T : Type} (p4 : T → T → Option Int) (s2 : Int) (s3 : Int) : (Int × (List T)) → Option (Out (Int × (List T)) (List T)) := fun (s10, y0) =>
 if s2 ≤ (w64 ((w64 ((2 : Int) * s10)) + (1 : Int))) then
  some (.jmp 0 (s10, y0))
 else
  if (w64 ((w64 ((w64 ((2 : Int) * s10)) + (1 : Int))) + (1 : Int))) < s2 then
   (rd y0 (w64 (s3 + (w64 ((w64 ((2 : Int) * s10)) + (1 : Int)))))).bind fun v67 =>
   (rd y0 (w64 ((w64 (s3 + (w64 ((w64 ((2 : Int) * s10)) + (1 : Int))))) + (1 : Int)))).bind fun v70 =>
   (p4 v67 v70).bind fun r73 =>
   if r73 < (0 : Int) then
    (rd y0 (w64 (s3 + s10))).bind fun v77 =>
    (rd y0 (w64 (s3 + (w64 ((w64 ((w64 ((2 : Int) * s10)) + (1 : Int))) + (1 : Int)))))).bind fun v80 =>
    (p4 v77 v80).bind fun r83 =>
    if r83 < (0 : Int) then
     (rd (y0.set (w64 (s3 + s10)).toNat v80) (w64 (s3 + (w64 ((w64 ((w64 ((2 : Int) * s10)) + (1 : Int))) + (1 : Int)))))).bind fun v91 =>
     some (.next (w64 ((w64 ((w64 ((2 : Int) * s10)) + (1 : Int))) + (1 : Int)), ((y0.set (w64 (s3 + s10)).toNat v80).set (w64 (s3 + (w64 ((w64 ((w64 ((2 : Int) * s10)) + (1 : Int))) + (1 : Int))))).toNat v77)))
    else
     some (.ret y0)
   else
    (rd y0 (w64 (s3 + s10))).bind fun v95 =>
    (p4 v95 v67).bind fun r99 =>
    if r99 < (0 : Int) then
     (rd (y0.set (w64 (s3 + s10)).toNat v67) (w64 (s3 + (w64 ((w64 ((2 : Int) * s10)) + (1 : Int)))))).bind fun v107 =>
     some (.next (w64 ((w64 ((2 : Int) * s10)) + (1 : Int)), ((y0.set (w64 (s3 + s10)).toNat v67).set (w64 (s3 + (w64 ((w64 ((2 : Int) * s10)) + (1 : Int))))).toNat v95)))
    else
     some (.ret y0)
  else
   (rd y0 (w64 (s3 + s10))).bind fun v111 =>
   (rd y0 (w64 (s3 + (w64 ((w64 ((2 : Int) * s10)) + (1 : Int)))))).bind fun v114 =>
   (p4 v111 v114).bind fun r117 =>
   if r117 < (0 : Int) then
    (rd (y0.set (w64 (s3 + s10)).toNat v114) (w64 (s3 + (w64 ((w64 ((2 : Int) * s10)) + (1 : Int)))))).bind fun v125 =>
    some (.next (w64 ((w64 ((2 : Int) * s10)) + (1 : Int)), ((y0.set (w64 (s3 + s10)).toNat v114).set (w64 (s3 + (w64 ((w64 ((2 : Int) * s10)) + (1 : Int))))).toNat v111)))
   else
    some (.ret y0)
noncomputable def slices_siftDownCmpFunc {T : Type} (p4 : T → T → Option Int) (x0 : (List T)) (x1 : Int) (x2 : Int) (x3 : Int) : Option (List T) :=
 (iter (slices_siftDownCmpFunc_L0 p4 x2 x3) (x1, x0)).bind fun
  | .jmp _ (s10_130, y0_130) =>
   some y0_130
  | .ret r131 =>
   some r131
  | .next _ => none
noncomputable def slices_heapSortCmpFunc_L1 {T : Type} (p3 : T → T → Option Int) (s8 : Int) (s9 : Int) : (Int × (List T)) → Option (Out (Int × (List T)) (List T)) := fun (s12, y0) =>
 if (0 : Int) ≤ s12 then
  (rd y0 (w64 (s8 + s12))).bind fun v12 =>
  (rd y0 s8).bind fun v15 =>
  (rd (y0.set s8.toNat v12) (w64 (s8 + s12))).bind fun v20 =>
  (slices_siftDownCmpFunc p3 ((y0.set s8.toNat v12).set (w64 (s8 + s12)).toNat v15) s9 s12 s8).bind fun r24 =>
  if r24.length = ((y0.set s8.toNat v12).set (w64 (s8 + s12)).toNat v15).length then
   some (.next (w64 (s12 - (1 : Int)), r24))
  else none
 else
  some (.jmp 2 (s12, y0))
noncomputable def slices_heapSortCmpFunc_L0 {T : Type} (p3 : T → T → Option Int) (s8 : Int) (s9 : Int) (s10 : Int) : (Int × (List T)) → Option (Out (Int × (List T)) (List T)) := fun (s11, y0) =>
 if (0 : Int) ≤ s11 then
  (slices_siftDownCmpFunc p3 y0 s11 s10 s8).bind fun r5 =>
  if r5.length = y0.length then
   some (.next (w64 (s11 - (1 : Int)), r5))
  else none
 else
  some (.jmp 0 (s11, y0))
noncomputable def slices_heapSortCmpFunc {T : Type} (p3 : T → T → Option Int) (x0 : (List T)) (x1 : Int) (x2 : Int) : Option (List T) :=
 (quoK .i64 (w64 ((w64 (x2 - x1)) - (1 : Int))) (2 : Int)).bind fun q1 =>
 (iter (slices_heapSortCmpFunc_L0 p3 x1 (0 : Int) (w64 (x2 - x1))) (q1, x0)).bind fun
  | .jmp _ (s11_10, y0_10) =>
   (iter (slices_heapSortCmpFunc_L1 p3 x1 (0 : Int)) (w64 ((w64 (x2 - x1)) - (1 : Int)), y0_10)).bind fun
    | .jmp _ (s12_29, y0_29) =>
     some y0_29
    | _ => none
  | _ => none
noncomputable def slices_order2CmpFunc {T : Type} (p4 : T → T → Option Int) (x0 : (List T)) (x1 : Int) (x2 : Int) (x3 : Int) : Option (Int × Int × (List T) × Int) :=
 (rd x0 x2).bind fun v1 =>
 (rd x0 x1).bind fun v4 =>
 (p4 v1 v4).bind fun r7 =>
 if r7 < (0 : Int) then
  some (x2, x1, x0, w64 (x3 + (1 : Int)))
 else
  some (x1, x2, x0, x3)
noncomputable def slices_medianCmpFunc {T : Type} (p5 : T → T → Option Int) (x0 : (List T)) (x1 : Int) (x2 : Int) (x3 : Int) (x4 : Int) : Option (Int × (List T) × Int) :=
 (slices_order2CmpFunc p5 x0 x1 x2 x4).bind fun r1 =>
 if r1.2.2.1.length = x0.length then
  (slices_order2CmpFunc p5 r1.2.2.1 r1.2.1 x3 r1.2.2.2).bind fun r5 =>
  if r5.2.2.1.length = r1.2.2.1.length then
   (slices_order2CmpFunc p5 r5.2.2.1 r1.1 r5.1 r5.2.2.2).bind fun r9 =>
   if r9.2.2.1.length = r5.2.2.1.length then
    some (r9.2.1, r9.2.2.1, r9.2.2.2)
   else none
  else none
 else none
noncomputable def slices_medianAdjacentCmpFunc {T : Type} (p3 : T → T → Option Int) (x0 : (List T)) (x1 : Int) (x2 : Int) : Option (Int × (List T) × Int) :=
 (slices_medianCmpFunc p3 x0 (w64 (x1 - (1 : Int))) x1 (w64 (x1 + (1 : Int))) x2).bind fun r1 =>
 if r1.2.1.length = x0.length then
  some (r1.1, r1.2.1, r1.2.2)
 else none
noncomputable def slices_choosePivotCmpFunc {T : Type} (p3 : T → T → Option Int) (x0 : (List T)) (x1 : Int) (x2 : Int) : Option (Int × Int × (List T)) :=
 (quoK .i64 (w64 (x2 - x1)) (4 : Int)).bind fun q1 =>
 if (8 : Int) ≤ (w64 (x2 - x1)) then
  if (50 : Int) ≤ (w64 (x2 - x1)) then
   (slices_medianAdjacentCmpFunc p3 x0 (w64 (x1 + (w64 (q1 * (1 : Int))))) (0 : Int)).bind fun r6 =>
   if r6.2.1.length = x0.length then
    (slices_medianAdjacentCmpFunc p3 r6.2.1 (w64 (x1 + (w64 (q1 * (2 : Int))))) r6.2.2).bind fun r10 =>
    if r10.2.1.length = r6.2.1.length then
     (slices_medianAdjacentCmpFunc p3 r10.2.1 (w64 (x1 + (w64 (q1 * (3 : Int))))) r10.2.2).bind fun r14 =>
     if r14.2.1.length = r10.2.1.length then
      (slices_medianCmpFunc p3 r14.2.1 r6.1 r10.1 r14.1 r14.2.2).bind fun r18 =>
      if r18.2.1.length = r14.2.1.length then
       if r18.2.2 = (0 : Int) then
        some (r18.1, (1 : Int), r18.2.1)
       else
        if r18.2.2 = (12 : Int) then
         some (r18.1, (2 : Int), r18.2.1)
        else
         some (r18.1, (0 : Int), r18.2.1)
      else none
     else none
    else none
   else none
  else
   (slices_medianCmpFunc p3 x0 (w64 (x1 + (w64 (q1 * (1 : Int))))) (w64 (x1 + (w64 (q1 * (2 : Int))))) (w64 (x1 + (w64 (q1 * (3 : Int))))) (0 : Int)).bind fun r24 =>
   if r24.2.1.length = x0.length then
    if r24.2.2 = (0 : Int) then
     some (r24.1, (1 : Int), r24.2.1)
    else
     if r24.2.2 = (12 : Int) then
      some (r24.1, (2 : Int), r24.2.1)
     else
      some (r24.1, (0 : Int), r24.2.1)
   else none
 else
  some (w64 (x1 + (w64 (q1 * (2 : Int)))), (1 : Int), x0)
noncomputable def slices_reverseRangeCmpFunc_L0 {T : Type} (p3 : T → T → Option Int) : (Int × Int × (List T)) → Option (Out (Int × Int × (List T)) (List T)) := fun (s8, s9, y0) =>
 if s8 < s9 then
  (rd y0 s9).bind fun v15 =>
  (rd y0 s8).bind fun v18 =>
  (rd (y0.set s8.toNat v15) s9).bind fun v23 =>
  some (.next (w64 (s8 + (1 : Int)), w64 (s9 - (1 : Int)), ((y0.set s8.toNat v15).set s9.toNat v18)))
 else
  some (.jmp 0 (s8, s9, y0))
noncomputable def slices_reverseRangeCmpFunc {T : Type} (p3 : T → T → Option Int) (x0 : (List T)) (x1 : Int) (x2 : Int) : Option (List T) :=
 (iter (slices_reverseRangeCmpFunc_L0 p3) (x1, w64 (x2 - (1 : Int)), x0)).bind fun
  | .jmp _ (s8_28, s9_28, y0_28) =>
   some y0_28
  | _ => none
noncomputable def slices_partialInsertionSortCmpFunc_L3 {T : Type} (p3 : T → T → Option Int) (s1 : Int) (s2 : Int) (s9 : Int) (s10 : Int) : (Int × (List T)) → Option (Out (Int × (List T)) (Bool × (List T))) := fun (s12, y0) =>
 if s12 < s2 then
  (rd y0 s12).bind fun v75 =>
  (rd y0 (w64 (s12 - (1 : Int)))).bind fun v78 =>
  (p3 v75 v78).bind fun r81 =>
  if r81 < (0 : Int) then
   (rd (y0.set s12.toNat v78) (w64 (s12 - (1 : Int)))).bind fun v89 =>
   some (.next (w64 (s12 + (1 : Int)), ((y0.set s12.toNat v78).set (w64 (s12 - (1 : Int))).toNat v75)))
  else
   some (.jmp 6 (s12, y0))
 else
  some (.jmp 6 (s12, y0))
noncomputable def slices_partialInsertionSortCmpFunc_L2 {T : Type} (p3 : T → T → Option Int) (s1 : Int) (s2 : Int) (s9 : Int) (s10 : Int) : (Int × (List T)) → Option (Out (Int × (List T)) (Bool × (List T))) := fun (s11, y0) =>
 if (1 : Int) ≤ s11 then
  (rd y0 s11).bind fun v31 =>
  (rd y0 (w64 (s11 - (1 : Int)))).bind fun v34 =>
  (p3 v31 v34).bind fun r37 =>
  if r37 < (0 : Int) then
   (rd (y0.set s11.toNat v34) (w64 (s11 - (1 : Int)))).bind fun v45 =>
   some (.next (w64 (s11 - (1 : Int)), ((y0.set s11.toNat v34).set (w64 (s11 - (1 : Int))).toNat v31)))
  else
   some (.jmp 4 (s11, y0))
 else
  some (.jmp 4 (s11, y0))
noncomputable def slices_partialInsertionSortCmpFunc_L1 {T : Type} (p3 : T → T → Option Int) (s1 : Int) (s2 : Int) (s10 : Int) (y0 : (List T)) : Int → Option (Out (Int) (Bool × (List T))) := fun s9 =>
 if s9 < s2 then
  (rd y0 s9).bind fun v3 =>
  (rd y0 (w64 (s9 - (1 : Int)))).bind fun v6 =>
  (p3 v3 v6).bind fun r9 =>
  if r9 < (0 : Int) then
   some (.jmp 2 s9)
  else
   some (.next (w64 (s9 + (1 : Int))))
 else
  some (.jmp 2 s9)
noncomputable def slices_partialInsertionSortCmpFunc_L0 {T : Type} (p3 : T → T → Option Int) (s1 : Int) (s2 : Int) : (Int × Int × (List T)) → Option (Out (Int × Int × (List T)) (Bool × (List T))) := fun (s9, s10, y0) =>
 if s10 < (5 : Int) then
  (iter (slices_partialInsertionSortCmpFunc_L1 p3 s1 s2 s10 y0) s9).bind fun
   | .jmp _ s9_14 =>
    if s9_14 = s2 then
     some (.ret (true, y0))
    else
     if (w64 (s2 - s1)) < (50 : Int) then
      some (.ret (false, y0))
     else
      (rd y0 (w64 (s9_14 - (1 : Int)))).bind fun v17 =>
      (rd y0 s9_14).bind fun v20 =>
      (rd (y0.set s9_14.toNat v17) (w64 (s9_14 - (1 : Int)))).bind fun v25 =>
      if (2 : Int) ≤ (w64 (s9_14 - s1)) then
       (iter (slices_partialInsertionSortCmpFunc_L2 p3 s1 s2 s9_14 s10) (w64 (s9_14 - (1 : Int)), ((y0.set s9_14.toNat v17).set (w64 (s9_14 - (1 : Int))).toNat v20))).bind fun
        | .jmp _ (s11_50, y0_50) =>
         if (2 : Int) ≤ (w64 (s2 - s9_14)) then
          (iter (slices_partialInsertionSortCmpFunc_L3 p3 s1 s2 s9_14 s10) (w64 (s9_14 + (1 : Int)), y0_50)).bind fun
           | .jmp _ (s12_72, y0_72) =>
            some (.next (s9_14, w64 (s10 + (1 : Int)), y0_72))
           | _ => none
         else
          some (.next (s9_14, w64 (s10 + (1 : Int)), y0_50))
        | _ => none
      else
       if (2 : Int) ≤ (w64 (s2 - s9_14)) then
        (iter (slices_partialInsertionSortCmpFunc_L3 p3 s1 s2 s9_14 s10) (w64 (s9_14 + (1 : Int)), ((y0.set s9_14.toNat v17).set (w64 (s9_14 - (1 : Int))).toNat v20))).bind fun
         | .jmp _ (s12_94, y0_94) =>
          some (.next (s9_14, w64 (s10 + (1 : Int)), y0_94))
         | _ => none
       else
        some (.next (s9_14, w64 (s10 + (1 : Int)), ((y0.set s9_14.toNat v17).set (w64 (s9_14 - (1 : Int))).toNat v20)))
   | _ => none
 else
  some (.jmp 0 (s9, s10, y0))
noncomputable def slices_partialInsertionSortCmpFunc {T : Type} (p3 : T → T → Option Int) (x0 : (List T)) (x1 : Int) (x2 : Int) : Option (Bool × (List T)) :=
 (iter (slices_partialInsertionSortCmpFunc_L0 p3 x1 x2) (w64 (x1 + (1 : Int)), (0 : Int), x0)).bind fun
  | .jmp _ (s9_96, s10_96, y0_96) =>
   some (false, y0_96)
  | .ret r97 =>
   some r97
  | .next _ => none
noncomputable def slices_partitionCmpFunc_L4 {T : Type} (p4 : T → T → Option Int) (s1 : Int) (s12 : Int) (y0 : (List T)) : Int → Option (Out (Int) (Int × Bool × (List T))) := fun s13 =>
 if s12 ≤ s13 then
  (rd y0 s13).bind fun v78 =>
  (rd y0 s1).bind fun v81 =>
  (p4 v78 v81).bind fun r84 =>
  if r84 < (0 : Int) then
   some (.jmp 8 s13)
  else
   some (.next (w64 (s13 - (1 : Int))))
 else
  some (.jmp 8 s13)
noncomputable def slices_partitionCmpFunc_L3 {T : Type} (p4 : T → T → Option Int) (s1 : Int) (s13 : Int) (y0 : (List T)) : Int → Option (Out (Int) (Int × Bool × (List T))) := fun s12 =>
 if s12 ≤ s13 then
  (rd y0 s12).bind fun v65 =>
  (rd y0 s1).bind fun v68 =>
  (p4 v65 v68).bind fun r71 =>
  if r71 < (0 : Int) then
   some (.next (w64 (s12 + (1 : Int))))
  else
   some (.jmp 6 s12)
 else
  some (.jmp 6 s12)
noncomputable def slices_partitionCmpFunc_L2 {T : Type} (p4 : T → T → Option Int) (s1 : Int) : (Int × Int × (List T)) → Option (Out (Int × Int × (List T)) (Int × Bool × (List T))) := fun (s12, s13, y0) =>
 (iter (slices_partitionCmpFunc_L3 p4 s1 s13 y0) s12).bind fun
  | .jmp _ s12_76 =>
   (iter (slices_partitionCmpFunc_L4 p4 s1 s12_76 y0) s13).bind fun
    | .jmp _ s13_89 =>
     if s13_89 < s12_76 then
      some (.jmp 4 (s12_76, s13_89, y0))
     else
      (rd y0 s13_89).bind fun v91 =>
      (rd y0 s12_76).bind fun v94 =>
      (rd (y0.set s12_76.toNat v91) s13_89).bind fun v99 =>
      some (.next (w64 (s12_76 + (1 : Int)), w64 (s13_89 - (1 : Int)), ((y0.set s12_76.toNat v91).set s13_89.toNat v94)))
    | _ => none
  | _ => none
noncomputable def slices_partitionCmpFunc_L1 {T : Type} (p4 : T → T → Option Int) (s1 : Int) (s12 : Int) (y0 : (List T)) : Int → Option (Out (Int) (Int × Bool × (List T))) := fun s13 =>
 if s12 ≤ s13 then
  (rd y0 s13).bind fun v27 =>
  (rd y0 s1).bind fun v30 =>
  (p4 v27 v30).bind fun r33 =>
  if r33 < (0 : Int) then
   some (.jmp 2 s13)
  else
   some (.next (w64 (s13 - (1 : Int))))
 else
  some (.jmp 2 s13)
noncomputable def slices_partitionCmpFunc_L0 {T : Type} (p4 : T → T → Option Int) (s1 : Int) (s13 : Int) (y0 : (List T)) : Int → Option (Out (Int) (Int × Bool × (List T))) := fun s12 =>
 if s12 ≤ s13 then
  (rd y0 s12).bind fun v14 =>
  (rd y0 s1).bind fun v17 =>
  (p4 v14 v17).bind fun r20 =>
  if r20 < (0 : Int) then
   some (.next (w64 (s12 + (1 : Int))))
  else
   some (.jmp 0 s12)
 else
  some (.jmp 0 s12)
noncomputable def slices_partitionCmpFunc {T : Type} (p4 : T → T → Option Int) (x0 : (List T)) (x1 : Int) (x2 : Int) (x3 : Int) : Option (Int × Bool × (List T)) :=
 (rd x0 x3).bind fun v1 =>
 (rd x0 x1).bind fun v4 =>
 (rd (x0.set x1.toNat v1) x3).bind fun v9 =>
 (iter (slices_partitionCmpFunc_L0 p4 x1 (w64 (x2 - (1 : Int))) ((x0.set x1.toNat v1).set x3.toNat v4)) (w64 (x1 + (1 : Int)))).bind fun
  | .jmp _ s12_25 =>
   (iter (slices_partitionCmpFunc_L1 p4 x1 s12_25 ((x0.set x1.toNat v1).set x3.toNat v4)) (w64 (x2 - (1 : Int)))).bind fun
    | .jmp _ s13_38 =>
     if s13_38 < s12_25 then
      (rd ((x0.set x1.toNat v1).set x3.toNat v4) x1).bind fun v40 =>
      (rd ((x0.set x1.toNat v1).set x3.toNat v4) s13_38).bind fun v43 =>
      (rd (((x0.set x1.toNat v1).set x3.toNat v4).set s13_38.toNat v40) x1).bind fun v48 =>
      some (s13_38, true, ((((x0.set x1.toNat v1).set x3.toNat v4).set s13_38.toNat v40).set x1.toNat v43))
     else
      (rd ((x0.set x1.toNat v1).set x3.toNat v4) s13_38).bind fun v52 =>
      (rd ((x0.set x1.toNat v1).set x3.toNat v4) s12_25).bind fun v55 =>
      (rd (((x0.set x1.toNat v1).set x3.toNat v4).set s12_25.toNat v52) s13_38).bind fun v60 =>
      (iter (slices_partitionCmpFunc_L2 p4 x1) (w64 (s12_25 + (1 : Int)), w64 (s13_38 - (1 : Int)), ((((x0.set x1.toNat v1).set x3.toNat v4).set s12_25.toNat v52).set s13_38.toNat v55))).bind fun
       | .jmp _ (s12_104, s13_104, y0_104) =>
        (rd y0_104 x1).bind fun v105 =>
        (rd y0_104 s13_104).bind fun v108 =>
        (rd (y0_104.set s13_104.toNat v105) x1).bind fun v113 =>
        some (s13_104, false, ((y0_104.set s13_104.toNat v105).set x1.toNat v108))
       | _ => none
    | _ => none
  | _ => none
noncomputable def slices_partitionEqualCmpFunc_L2 {T : Type} (p4 : T → T → Option Int) (s1 : Int) (s11 : Int) (y0 : (List T)) : Int → Option (Out (Int) (Int × (List T))) := fun s12 =>
 if s11 ≤ s12 then
  (rd y0 s1).bind fun v27 =>
  (rd y0 s12).bind fun v30 =>
  (p4 v27 v30).bind fun r33 =>
  if r33 < (0 : Int) then
   some (.next (w64 (s12 - (1 : Int))))
  else
   some (.jmp 4 s12)
 else
  some (.jmp 4 s12)
noncomputable def slices_partitionEqualCmpFunc_L1 {T : Type} (p4 : T → T → Option Int) (s1 : Int) (s12 : Int) (y0 : (List T)) : Int → Option (Out (Int) (Int × (List T))) := fun s11 =>
 if s11 ≤ s12 then
  (rd y0 s1).bind fun v14 =>
  (rd y0 s11).bind fun v17 =>
  (p4 v14 v17).bind fun r20 =>
  if r20 < (0 : Int) then
   some (.jmp 2 s11)
  else
   some (.next (w64 (s11 + (1 : Int))))
 else
  some (.jmp 2 s11)
noncomputable def slices_partitionEqualCmpFunc_L0 {T : Type} (p4 : T → T → Option Int) (s1 : Int) : (Int × Int × (List T)) → Option (Out (Int × Int × (List T)) (Int × (List T))) := fun (s11, s12, y0) =>
 (iter (slices_partitionEqualCmpFunc_L1 p4 s1 s12 y0) s11).bind fun
  | .jmp _ s11_25 =>
   (iter (slices_partitionEqualCmpFunc_L2 p4 s1 s11_25 y0) s12).bind fun
    | .jmp _ s12_38 =>
     if s12_38 < s11_25 then
      some (.jmp 0 (s11_25, s12_38, y0))
     else
      (rd y0 s12_38).bind fun v40 =>
      (rd y0 s11_25).bind fun v43 =>
      (rd (y0.set s11_25.toNat v40) s12_38).bind fun v48 =>
      some (.next (w64 (s11_25 + (1 : Int)), w64 (s12_38 - (1 : Int)), ((y0.set s11_25.toNat v40).set s12_38.toNat v43)))
    | _ => none
  | _ => none
noncomputable def slices_partitionEqualCmpFunc {T : Type} (p4 : T → T → Option Int) (x0 : (List T)) (x1 : Int) (x2 : Int) (x3 : Int) : Option (Int × (List T)) :=
 (rd x0 x3).bind fun v1 =>
 (rd x0 x1).bind fun v4 =>
 (rd (x0.set x1.toNat v1) x3).bind fun v9 =>
 (iter (slices_partitionEqualCmpFunc_L0 p4 x1) (w64 (x1 + (1 : Int)), w64 (x2 - (1 : Int)), ((x0.set x1.toNat v1).set x3.toNat v4))).bind fun
  | .jmp _ (s11_53, s12_53, y0_53) =>
   some (s11_53, y0_53)
  | _ => none
noncomputable def slices_nextPowerOfTwo (x0 : Int) : Option Int :=
 (math_bits_Len (IntKind.wrap .u64 x0)).bind fun r1 =>
 (shlK .u64 (1 : Int) r1).bind fun q4 =>
 some q4
noncomputable def slices_xorshift_Next (x0 : Int) : Option (Int × Int) :=
 (shlK .u64 x0 (13 : Int)).bind fun q1 =>
 (shrK .u64 (xorK .u64 x0 q1) (7 : Int)).bind fun q4 =>
 (shlK .u64 (xorK .u64 (xorK .u64 x0 q1) q4) (17 : Int)).bind fun q7 =>
 some (xorK .u64 (xorK .u64 (xorK .u64 x0 q1) q4) q7, xorK .u64 (xorK .u64 (xorK .u64 x0 q1) q4) q7)
noncomputable def slices_breakPatternsCmpFunc_L0 {T : Type} (p3 : T → T → Option Int) (s1 : Int) (s8 : Int) (s10 : Int) : (Int × (List T) × Int) → Option (Out (Int × (List T) × Int) (List T)) := fun (s11, y0, w1_0) =>
 (quoK .i64 s8 (4 : Int)).bind fun q40 =>
 if s11 ≤ (w64 ((w64 (s1 + (w64 (q40 * (2 : Int))))) + (1 : Int))) then
  (slices_xorshift_Next w1_0).bind fun r44 =>
  if s8 ≤ (IntKind.wrap .i64 (andK .u64 r44.1 (IntKind.wrap .u64 (s10 - (1 : Int))))) then
   (rd y0 (w64 (s1 + (w64 ((IntKind.wrap .i64 (andK .u64 r44.1 (IntKind.wrap .u64 (s10 - (1 : Int))))) - s8))))).bind fun v48 =>
   (rd y0 s11).bind fun v51 =>
   (rd (y0.set s11.toNat v48) (w64 (s1 + (w64 ((IntKind.wrap .i64 (andK .u64 r44.1 (IntKind.wrap .u64 (s10 - (1 : Int))))) - s8))))).bind fun v56 =>
   some (.next (w64 (s11 + (1 : Int)), ((y0.set s11.toNat v48).set (w64 (s1 + (w64 ((IntKind.wrap .i64 (andK .u64 r44.1 (IntKind.wrap .u64 (s10 - (1 : Int))))) - s8)))).toNat v51), r44.2))
  else
   (rd y0 (w64 (s1 + (IntKind.wrap .i64 (andK .u64 r44.1 (IntKind.wrap .u64 (s10 - (1 : Int)))))))).bind fun v60 =>
   (rd y0 s11).bind fun v63 =>
   (rd (y0.set s11.toNat v60) (w64 (s1 + (IntKind.wrap .i64 (andK .u64 r44.1 (IntKind.wrap .u64 (s10 - (1 : Int)))))))).bind fun v68 =>
   some (.next (w64 (s11 + (1 : Int)), ((y0.set s11.toNat v60).set (w64 (s1 + (IntKind.wrap .i64 (andK .u64 r44.1 (IntKind.wrap .u64 (s10 - (1 : Int))))))).toNat v63), r44.2))
 else
  some (.jmp 0 (s11, y0, w1_0))
noncomputable def slices_breakPatternsCmpFunc {T : Type} (p3 : T → T → Option Int) (x0 : (List T)) (x1 : Int) (x2 : Int) : Option (List T) :=
 if (8 : Int) ≤ (w64 (x2 - x1)) then
  (slices_nextPowerOfTwo (w64 (x2 - x1))).bind fun r2 =>
  (quoK .i64 (w64 (x2 - x1)) (4 : Int)).bind fun q5 =>
  (iter (slices_breakPatternsCmpFunc_L0 p3 x1 (w64 (x2 - x1)) r2) (w64 ((w64 (x1 + (w64 (q5 * (2 : Int))))) - (1 : Int)), x0, IntKind.wrap .u64 (w64 (x2 - x1)))).bind fun
   | .jmp _ (s11_73, y0_73, w1_0_73) =>
    some y0_73
   | _ => none
 else
  some x0
noncomputable def slices_pdqsortCmpFunc_L0 {T : Type} (rec : (List T) → Int → Int → Int → Option (List T)) (p4 : T → T → Option Int) : (Int × Int × Int × Bool × Bool × (List T)) → Option (Out (Int × Int × Int × Bool × Bool × (List T)) (List T)) := fun (s1, s2, s3, s10, s11, y0) =>
 if (w64 (s2 - s1)) ≤ (12 : Int) then
  (slices_insertionSortCmpFunc p4 y0 s1 s2).bind fun r377 =>
  if r377.length = y0.length then
   some (.ret r377)
  else none
 else
  if s3 = (0 : Int) then
   (slices_heapSortCmpFunc p4 y0 s1 s2).bind fun r382 =>
   if r382.length = y0.length then
    some (.ret r382)
   else none
  else
   if s10 = true then
    (slices_choosePivotCmpFunc p4 y0 s1 s2).bind fun r387 =>
    if r387.2.2.length = y0.length then
     if r387.2.1 = (2 : Int) then
      (slices_reverseRangeCmpFunc p4 r387.2.2 s1 s2).bind fun r392 =>
      if r392.length = r387.2.2.length then
       if s11 = true then
        (slices_partialInsertionSortCmpFunc p4 r392 s1 s2).bind fun r397 =>
        if r397.2.length = r392.length then
         if r397.1 = true then
          some (.ret r397.2)
         else
          if (0 : Int) < s1 then
           (rd r397.2 (w64 (s1 - (1 : Int)))).bind fun v403 =>
           (rd r397.2 (w64 ((w64 (s2 - (1 : Int))) - (w64 (r387.1 - s1))))).bind fun v406 =>
           (p4 v403 v406).bind fun r409 =>
           if r409 < (0 : Int) then
            (slices_partitionCmpFunc p4 r397.2 s1 s2 (w64 ((w64 (s2 - (1 : Int))) - (w64 (r387.1 - s1))))).bind fun r413 =>
            if r413.2.2.length = r397.2.length then
             (quoK .i64 (w64 (s2 - s1)) (8 : Int)).bind fun q417 =>
             if (w64 (r413.1 - s1)) < (w64 (s2 - r413.1)) then
              (rec r413.2.2 s1 r413.1 s3).bind fun r421 =>
              if r421.length = r413.2.2.length then
               some (.next (w64 (r413.1 + (1 : Int)), s2, s3, decide (q417 ≤ (w64 (r413.1 - s1))), r413.2.1, r421))
              else none
             else
              (rec r413.2.2 (w64 (r413.1 + (1 : Int))) s2 s3).bind fun r425 =>
              if r425.length = r413.2.2.length then
               some (.next (s1, r413.1, s3, decide (q417 ≤ (w64 (s2 - r413.1))), r413.2.1, r425))
              else none
            else none
           else
            (slices_partitionEqualCmpFunc p4 r397.2 s1 s2 (w64 ((w64 (s2 - (1 : Int))) - (w64 (r387.1 - s1))))).bind fun r429 =>
            if r429.2.length = r397.2.length then
             some (.next (r429.1, s2, s3, s10, s11, r429.2))
            else none
          else
           (slices_partitionCmpFunc p4 r397.2 s1 s2 (w64 ((w64 (s2 - (1 : Int))) - (w64 (r387.1 - s1))))).bind fun r433 =>
           if r433.2.2.length = r397.2.length then
            (quoK .i64 (w64 (s2 - s1)) (8 : Int)).bind fun q437 =>
            if (w64 (r433.1 - s1)) < (w64 (s2 - r433.1)) then
             (rec r433.2.2 s1 r433.1 s3).bind fun r441 =>
             if r441.length = r433.2.2.length then
              some (.next (w64 (r433.1 + (1 : Int)), s2, s3, decide (q437 ≤ (w64 (r433.1 - s1))), r433.2.1, r441))
             else none
            else
             (rec r433.2.2 (w64 (r433.1 + (1 : Int))) s2 s3).bind fun r445 =>
             if r445.length = r433.2.2.length then
              some (.next (s1, r433.1, s3, decide (q437 ≤ (w64 (s2 - r433.1))), r433.2.1, r445))
             else none
           else none
        else none
       else
        if (0 : Int) < s1 then
         (rd r392 (w64 (s1 - (1 : Int)))).bind fun v450 =>
         (rd r392 (w64 ((w64 (s2 - (1 : Int))) - (w64 (r387.1 - s1))))).bind fun v453 =>
         (p4 v450 v453).bind fun r456 =>
         if r456 < (0 : Int) then
          (slices_partitionCmpFunc p4 r392 s1 s2 (w64 ((w64 (s2 - (1 : Int))) - (w64 (r387.1 - s1))))).bind fun r460 =>
          if r460.2.2.length = r392.length then
           (quoK .i64 (w64 (s2 - s1)) (8 : Int)).bind fun q464 =>
           if (w64 (r460.1 - s1)) < (w64 (s2 - r460.1)) then
            (rec r460.2.2 s1 r460.1 s3).bind fun r468 =>
            if r468.length = r460.2.2.length then
             some (.next (w64 (r460.1 + (1 : Int)), s2, s3, decide (q464 ≤ (w64 (r460.1 - s1))), r460.2.1, r468))
            else none
           else
            (rec r460.2.2 (w64 (r460.1 + (1 : Int))) s2 s3).bind fun r472 =>
            if r472.length = r460.2.2.length then
             some (.next (s1, r460.1, s3, decide (q464 ≤ (w64 (s2 - r460.1))), r460.2.1, r472))
            else none
          else none
         else
          (slices_partitionEqualCmpFunc p4 r392 s1 s2 (w64 ((w64 (s2 - (1 : Int))) - (w64 (r387.1 - s1))))).bind fun r476 =>
          if r476.2.length = r392.length then
           some (.next (r476.1, s2, s3, s10, s11, r476.2))
          else none
        else
         (slices_partitionCmpFunc p4 r392 s1 s2 (w64 ((w64 (s2 - (1 : Int))) - (w64 (r387.1 - s1))))).bind fun r480 =>
         if r480.2.2.length = r392.length then
          (quoK .i64 (w64 (s2 - s1)) (8 : Int)).bind fun q484 =>
          if (w64 (r480.1 - s1)) < (w64 (s2 - r480.1)) then
           (rec r480.2.2 s1 r480.1 s3).bind fun r488 =>
           if r488.length = r480.2.2.length then
            some (.next (w64 (r480.1 + (1 : Int)), s2, s3, decide (q484 ≤ (w64 (r480.1 - s1))), r480.2.1, r488))
           else none
          else
           (rec r480.2.2 (w64 (r480.1 + (1 : Int))) s2 s3).bind fun r492 =>
           if r492.length = r480.2.2.length then
            some (.next (s1, r480.1, s3, decide (q484 ≤ (w64 (s2 - r480.1))), r480.2.1, r492))
           else none
         else none
      else none
     else
      if s11 = true then
       if r387.2.1 = (1 : Int) then
        (slices_partialInsertionSortCmpFunc p4 r387.2.2 s1 s2).bind fun r498 =>
        if r498.2.length = r387.2.2.length then
         if r498.1 = true then
          some (.ret r498.2)
         else
          if (0 : Int) < s1 then
           (rd r498.2 (w64 (s1 - (1 : Int)))).bind fun v504 =>
           (rd r498.2 r387.1).bind fun v507 =>
           (p4 v504 v507).bind fun r510 =>
           if r510 < (0 : Int) then
            (slices_partitionCmpFunc p4 r498.2 s1 s2 r387.1).bind fun r514 =>
            if r514.2.2.length = r498.2.length then
             (quoK .i64 (w64 (s2 - s1)) (8 : Int)).bind fun q518 =>
             if (w64 (r514.1 - s1)) < (w64 (s2 - r514.1)) then
              (rec r514.2.2 s1 r514.1 s3).bind fun r522 =>
              if r522.length = r514.2.2.length then
               some (.next (w64 (r514.1 + (1 : Int)), s2, s3, decide (q518 ≤ (w64 (r514.1 - s1))), r514.2.1, r522))
              else none
             else
              (rec r514.2.2 (w64 (r514.1 + (1 : Int))) s2 s3).bind fun r526 =>
              if r526.length = r514.2.2.length then
               some (.next (s1, r514.1, s3, decide (q518 ≤ (w64 (s2 - r514.1))), r514.2.1, r526))
              else none
            else none
           else
            (slices_partitionEqualCmpFunc p4 r498.2 s1 s2 r387.1).bind fun r530 =>
            if r530.2.length = r498.2.length then
             some (.next (r530.1, s2, s3, s10, s11, r530.2))
            else none
          else
           (slices_partitionCmpFunc p4 r498.2 s1 s2 r387.1).bind fun r534 =>
           if r534.2.2.length = r498.2.length then
            (quoK .i64 (w64 (s2 - s1)) (8 : Int)).bind fun q538 =>
            if (w64 (r534.1 - s1)) < (w64 (s2 - r534.1)) then
             (rec r534.2.2 s1 r534.1 s3).bind fun r542 =>
             if r542.length = r534.2.2.length then
              some (.next (w64 (r534.1 + (1 : Int)), s2, s3, decide (q538 ≤ (w64 (r534.1 - s1))), r534.2.1, r542))
             else none
            else
             (rec r534.2.2 (w64 (r534.1 + (1 : Int))) s2 s3).bind fun r546 =>
             if r546.length = r534.2.2.length then
              some (.next (s1, r534.1, s3, decide (q538 ≤ (w64 (s2 - r534.1))), r534.2.1, r546))
             else none
           else none
        else none
       else
        if (0 : Int) < s1 then
         (rd r387.2.2 (w64 (s1 - (1 : Int)))).bind fun v551 =>
         (rd r387.2.2 r387.1).bind fun v554 =>
         (p4 v551 v554).bind fun r557 =>
         if r557 < (0 : Int) then
          (slices_partitionCmpFunc p4 r387.2.2 s1 s2 r387.1).bind fun r561 =>
          if r561.2.2.length = r387.2.2.length then
           (quoK .i64 (w64 (s2 - s1)) (8 : Int)).bind fun q565 =>
           if (w64 (r561.1 - s1)) < (w64 (s2 - r561.1)) then
            (rec r561.2.2 s1 r561.1 s3).bind fun r569 =>
            if r569.length = r561.2.2.length then
             some (.next (w64 (r561.1 + (1 : Int)), s2, s3, decide (q565 ≤ (w64 (r561.1 - s1))), r561.2.1, r569))
            else none
           else
            (rec r561.2.2 (w64 (r561.1 + (1 : Int))) s2 s3).bind fun r573 =>
            if r573.length = r561.2.2.length then
             some (.next (s1, r561.1, s3, decide (q565 ≤ (w64 (s2 - r561.1))), r561.2.1, r573))
            else none
          else none
         else
          (slices_partitionEqualCmpFunc p4 r387.2.2 s1 s2 r387.1).bind fun r577 =>
          if r577.2.length = r387.2.2.length then
           some (.next (r577.1, s2, s3, s10, s11, r577.2))
          else none
        else
         (slices_partitionCmpFunc p4 r387.2.2 s1 s2 r387.1).bind fun r581 =>
         if r581.2.2.length = r387.2.2.length then
          (quoK .i64 (w64 (s2 - s1)) (8 : Int)).bind fun q585 =>
          if (w64 (r581.1 - s1)) < (w64 (s2 - r581.1)) then
           (rec r581.2.2 s1 r581.1 s3).bind fun r589 =>
           if r589.length = r581.2.2.length then
            some (.next (w64 (r581.1 + (1 : Int)), s2, s3, decide (q585 ≤ (w64 (r581.1 - s1))), r581.2.1, r589))
           else none
          else
           (rec r581.2.2 (w64 (r581.1 + (1 : Int))) s2 s3).bind fun r593 =>
           if r593.length = r581.2.2.length then
            some (.next (s1, r581.1, s3, decide (q585 ≤ (w64 (s2 - r581.1))), r581.2.1, r593))
           else none
         else none
      else
       if (0 : Int) < s1 then
        (rd r387.2.2 (w64 (s1 - (1 : Int)))).bind fun v598 =>
        (rd r387.2.2 r387.1).bind fun v601 =>
        (p4 v598 v601).bind fun r604 =>
        if r604 < (0 : Int) then
         (slices_partitionCmpFunc p4 r387.2.2 s1 s2 r387.1).bind fun r608 =>
         if r608.2.2.length = r387.2.2.length then
          (quoK .i64 (w64 (s2 - s1)) (8 : Int)).bind fun q612 =>
          if (w64 (r608.1 - s1)) < (w64 (s2 - r608.1)) then
           (rec r608.2.2 s1 r608.1 s3).bind fun r616 =>
           if r616.length = r608.2.2.length then
            some (.next (w64 (r608.1 + (1 : Int)), s2, s3, decide (q612 ≤ (w64 (r608.1 - s1))), r608.2.1, r616))
           else none
          else
           (rec r608.2.2 (w64 (r608.1 + (1 : Int))) s2 s3).bind fun r620 =>
           if r620.length = r608.2.2.length then
            some (.next (s1, r608.1, s3, decide (q612 ≤ (w64 (s2 - r608.1))), r608.2.1, r620))
           else none
         else none
        else
         (slices_partitionEqualCmpFunc p4 r387.2.2 s1 s2 r387.1).bind fun r624 =>
         if r624.2.length = r387.2.2.length then
          some (.next (r624.1, s2, s3, s10, s11, r624.2))
         else none
       else
        (slices_partitionCmpFunc p4 r387.2.2 s1 s2 r387.1).bind fun r628 =>
        if r628.2.2.length = r387.2.2.length then
         (quoK .i64 (w64 (s2 - s1)) (8 : Int)).bind fun q632 =>
         if (w64 (r628.1 - s1)) < (w64 (s2 - r628.1)) then
          (rec r628.2.2 s1 r628.1 s3).bind fun r636 =>
          if r636.length = r628.2.2.length then
           some (.next (w64 (r628.1 + (1 : Int)), s2, s3, decide (q632 ≤ (w64 (r628.1 - s1))), r628.2.1, r636))
          else none
         else
          (rec r628.2.2 (w64 (r628.1 + (1 : Int))) s2 s3).bind fun r640 =>
          if r640.length = r628.2.2.length then
           some (.next (s1, r628.1, s3, decide (q632 ≤ (w64 (s2 - r628.1))), r628.2.1, r640))
          else none
        else none
    else none
   else
    (slices_breakPatternsCmpFunc p4 y0 s1 s2).bind fun r644 =>
    if r644.length = y0.length then
     (slices_choosePivotCmpFunc p4 r644 s1 s2).bind fun r648 =>
     if r648.2.2.length = r644.length then
      if r648.2.1 = (2 : Int) then
       (slices_reverseRangeCmpFunc p4 r648.2.2 s1 s2).bind fun r653 =>
       if r653.length = r648.2.2.length then
        if (0 : Int) < s1 then
         (rd r653 (w64 (s1 - (1 : Int)))).bind fun v658 =>
         (rd r653 (w64 ((w64 (s2 - (1 : Int))) - (w64 (r648.1 - s1))))).bind fun v661 =>
         (p4 v658 v661).bind fun r664 =>
         if r664 < (0 : Int) then
          (slices_partitionCmpFunc p4 r653 s1 s2 (w64 ((w64 (s2 - (1 : Int))) - (w64 (r648.1 - s1))))).bind fun r668 =>
          if r668.2.2.length = r653.length then
           (quoK .i64 (w64 (s2 - s1)) (8 : Int)).bind fun q672 =>
           if (w64 (r668.1 - s1)) < (w64 (s2 - r668.1)) then
            (rec r668.2.2 s1 r668.1 (w64 (s3 - (1 : Int)))).bind fun r676 =>
            if r676.length = r668.2.2.length then
             some (.next (w64 (r668.1 + (1 : Int)), s2, w64 (s3 - (1 : Int)), decide (q672 ≤ (w64 (r668.1 - s1))), r668.2.1, r676))
            else none
           else
            (rec r668.2.2 (w64 (r668.1 + (1 : Int))) s2 (w64 (s3 - (1 : Int)))).bind fun r680 =>
            if r680.length = r668.2.2.length then
             some (.next (s1, r668.1, w64 (s3 - (1 : Int)), decide (q672 ≤ (w64 (s2 - r668.1))), r668.2.1, r680))
            else none
          else none
         else
          (slices_partitionEqualCmpFunc p4 r653 s1 s2 (w64 ((w64 (s2 - (1 : Int))) - (w64 (r648.1 - s1))))).bind fun r684 =>
          if r684.2.length = r653.length then
           some (.next (r684.1, s2, w64 (s3 - (1 : Int)), s10, s11, r684.2))
          else none
        else
         (slices_partitionCmpFunc p4 r653 s1 s2 (w64 ((w64 (s2 - (1 : Int))) - (w64 (r648.1 - s1))))).bind fun r688 =>
         if r688.2.2.length = r653.length then
          (quoK .i64 (w64 (s2 - s1)) (8 : Int)).bind fun q692 =>
          if (w64 (r688.1 - s1)) < (w64 (s2 - r688.1)) then
           (rec r688.2.2 s1 r688.1 (w64 (s3 - (1 : Int)))).bind fun r696 =>
           if r696.length = r688.2.2.length then
            some (.next (w64 (r688.1 + (1 : Int)), s2, w64 (s3 - (1 : Int)), decide (q692 ≤ (w64 (r688.1 - s1))), r688.2.1, r696))
           else none
          else
           (rec r688.2.2 (w64 (r688.1 + (1 : Int))) s2 (w64 (s3 - (1 : Int)))).bind fun r700 =>
           if r700.length = r688.2.2.length then
            some (.next (s1, r688.1, w64 (s3 - (1 : Int)), decide (q692 ≤ (w64 (s2 - r688.1))), r688.2.1, r700))
           else none
         else none
       else none
      else
       if (0 : Int) < s1 then
        (rd r648.2.2 (w64 (s1 - (1 : Int)))).bind fun v705 =>
        (rd r648.2.2 r648.1).bind fun v708 =>
        (p4 v705 v708).bind fun r711 =>
        if r711 < (0 : Int) then
         (slices_partitionCmpFunc p4 r648.2.2 s1 s2 r648.1).bind fun r715 =>
         if r715.2.2.length = r648.2.2.length then
          (quoK .i64 (w64 (s2 - s1)) (8 : Int)).bind fun q719 =>
          if (w64 (r715.1 - s1)) < (w64 (s2 - r715.1)) then
           (rec r715.2.2 s1 r715.1 (w64 (s3 - (1 : Int)))).bind fun r723 =>
           if r723.length = r715.2.2.length then
            some (.next (w64 (r715.1 + (1 : Int)), s2, w64 (s3 - (1 : Int)), decide (q719 ≤ (w64 (r715.1 - s1))), r715.2.1, r723))
           else none
          else
           (rec r715.2.2 (w64 (r715.1 + (1 : Int))) s2 (w64 (s3 - (1 : Int)))).bind fun r727 =>
           if r727.length = r715.2.2.length then
            some (.next (s1, r715.1, w64 (s3 - (1 : Int)), decide (q719 ≤ (w64 (s2 - r715.1))), r715.2.1, r727))
           else none
         else none
        else
         (slices_partitionEqualCmpFunc p4 r648.2.2 s1 s2 r648.1).bind fun r731 =>
         if r731.2.length = r648.2.2.length then
          some (.next (r731.1, s2, w64 (s3 - (1 : Int)), s10, s11, r731.2))
         else none
       else
        (slices_partitionCmpFunc p4 r648.2.2 s1 s2 r648.1).bind fun r735 =>
        if r735.2.2.length = r648.2.2.length then
         (quoK .i64 (w64 (s2 - s1)) (8 : Int)).bind fun q739 =>
         if (w64 (r735.1 - s1)) < (w64 (s2 - r735.1)) then
          (rec r735.2.2 s1 r735.1 (w64 (s3 - (1 : Int)))).bind fun r743 =>
          if r743.length = r735.2.2.length then
           some (.next (w64 (r735.1 + (1 : Int)), s2, w64 (s3 - (1 : Int)), decide (q739 ≤ (w64 (r735.1 - s1))), r735.2.1, r743))
          else none
         else
          (rec r735.2.2 (w64 (r735.1 + (1 : Int))) s2 (w64 (s3 - (1 : Int)))).bind fun r747 =>
          if r747.length = r735.2.2.length then
           some (.next (s1, r735.1, w64 (s3 - (1 : Int)), decide (q739 ≤ (w64 (s2 - r735.1))), r735.2.1, r747))
          else none
        else none
     else none
    else none
noncomputable def slices_pdqsortCmpFunc.body {T : Type} (rec : (List T) → Int → Int → Int → Option (List T)) (p4 : T → T → Option Int) (x0 : (List T)) (x1 : Int) (x2 : Int) (x3 : Int) : Option (List T) :=
 (iter (slices_pdqsortCmpFunc_L0 rec p4) (x1, x2, x3, true, true, x0)).bind fun
  | .ret r753 =>
   some r753
  | _ => none
end Xr

namespace Xr
open Go Go.Ev
set_option linter.unusedVariables false
set_option linter.unusedSimpArgs false
def lessV (a b : Pair) : Bool := decide (a.Old < b.Old) || (decide (a.Old = b.Old) && decide (a.New < b.New))
def cmpT (a b : Pair) : Option Int := some (if lessV a b = true then -1 else 0)
theorem less_eq (i j : Int) (l : List Pair) : match_tidy_c1 i j l = (rd l i).bind fun a => (rd l j).bind fun b => some (lessV a b) := by
 unfold match_tidy_c1 lessV
 cases rd l i with
 | none => rfl
 | some a =>
  cases rd l j with
  | none => rfl
  | some b =>
   simp only [Option.bind_some]
   by_cases h1 : a.Old < b.Old
   ·simp [h1]
   ·by_cases h2 : a.Old = b.Old
    ·simp [h2]
    ·simp [h1, h2]
theorem neg_iff (b : Bool) : ((if b = true then (-1 : Int) else 0) < 0) ↔ b = true := by cases b <;> simp
theorem rd_set {T : Type} {l : List T} {i j : Int} {x y : T} (h : rd l j = some y) : ∃ z, rd (l.set i.toNat x) j = some z := by
 obtain ⟨h0, h1, _⟩ := rd_some h
 exact ⟨_, rd_lt h0 (by simpa using h1)⟩
theorem swap_rule {α : Type} (i j : Int) (l : List Pair) (k : List Pair → Option α) : ((swapL i j l).bind fun r => if r.length = l.length then k r else none) = (rd l i).bind fun x => (rd l j).bind fun y => k ((l.set i.toNat y).set j.toNat x) := by
 unfold swapL
 cases rd l i with
 | none => rfl
 | some x =>
  cases rd l j with
  | none => rfl
  | some y => simp only [Option.bind_some, List.length_set, if_true]
theorem less_rule {α : Type} (i j : Int) (l : List Pair) (k : Bool → Option α) : ((match_tidy_c1 i j l).bind k) = (rd l i).bind fun x => (rd l j).bind fun y => k (lessV x y) := by
 rw [less_eq]
 cases rd l i with
 | none => rfl
 | some x => cases rd l j <;> rfl
theorem cmp_rule {α : Type} (x y : Pair) (k : Int → Option α) : (cmpT x y).bind k = k (if lessV x y = true then -1 else 0) := rfl
theorem bnd {α β : Type} {x : Option α} {f g : α → Option β} (h : ∀ o, f o = g o) : x.bind f = x.bind g := by
 cases x with
 | none => rfl
 | some a => exact h a
theorem rd_rule {α : Type} {l : List Pair} {i j : Int} {x y : Pair} {k : Option α} (h : rd l j = some y) : ((rd (l.set i.toNat x) j).bind fun _ => k) = k := by
 obtain ⟨z, hz⟩ := rd_set (i := i) (x := x) h
 rw [hz]; rfl
theorem rdb {α : Type} {l : List Pair} {i j : Int} {x : Pair} {k : Option α} (h : (rd l j).isSome = true) : ((rd (l.set i.toNat x) j).bind fun _ => k) = k := by
 obtain ⟨y, hy⟩ := Option.isSome_iff_exists.1 h
 exact rd_rule hy
theorem ins1_eq (a b c : Int) : sort_insertionSort_func_L1 a b c = slices_insertionSortCmpFunc_L1 cmpT a b c := by
 funext ⟨j, y⟩
 simp only [sort_insertionSort_func_L1, slices_insertionSortCmpFunc_L1, swap_rule, less_rule, cmp_rule, neg_iff]
 cases hx : rd y j with
 | none => rfl
 | some x =>
  cases hz : rd y (w64 (j - 1)) with
  | none => rfl
  | some z => simp only [Option.bind_some, rd_rule hz, rd_rule hx]
theorem ins_eq (a b : Int) (l : List Pair) : sort_insertionSort_func a b l = slices_insertionSortCmpFunc cmpT l a b := by
 have h0 : sort_insertionSort_func_L0 a b = slices_insertionSortCmpFunc_L0 cmpT a b := by
  funext ⟨j, y⟩
  simp only [sort_insertionSort_func_L0, slices_insertionSortCmpFunc_L0, ins1_eq]
  split
  ·exact bnd fun o => by rcases o with _ | ⟨_, _, _⟩ | _ <;> rfl
  ·rfl
 unfold sort_insertionSort_func slices_insertionSortCmpFunc
 rw [h0]; exact bnd fun o => by rcases o with _ | ⟨_, _, _⟩ | _ <;> rfl
theorem sift0_eq (a b : Int) : sort_siftDown_func_L0 a b = slices_siftDownCmpFunc_L0 cmpT a b := by
 funext ⟨j, y⟩
 simp only [sort_siftDown_func_L0, slices_siftDownCmpFunc_L0, swap_rule, less_rule, cmp_rule, neg_iff]
 cases hA : rd y (w64 (b + (w64 ((w64 ((2 : Int) * j)) + (1 : Int))))) <;> cases hB : rd y (w64 ((w64 (b + (w64 ((w64 ((2 : Int) * j)) + (1 : Int))))) + (1 : Int))) <;> cases hC : rd y (w64 (b + j)) <;> cases hD : rd y (w64 (b + (w64 ((w64 ((w64 ((2 : Int) * j)) + (1 : Int))) + (1 : Int))))) <;>
  simp only [Option.bind_some, Option.bind_none, rdb, Option.isSome_some, hA, hB, hC, hD]
theorem sift_eq (a b c : Int) (l : List Pair) : sort_siftDown_func a b c l = slices_siftDownCmpFunc cmpT l a b c := by
 unfold sort_siftDown_func slices_siftDownCmpFunc
 rw [sift0_eq]; exact bnd fun o => by rcases o with _ | ⟨_, _, _⟩ | _ <;> rfl
theorem heap_eq (a b : Int) (l : List Pair) : sort_heapSort_func a b l = slices_heapSortCmpFunc cmpT l a b := by
 have h0 : ∀ s t u, sort_heapSort_func_L0 s t u = slices_heapSortCmpFunc_L0 cmpT s t u := by
  intro s t u
  funext ⟨j, y⟩
  simp only [sort_heapSort_func_L0, slices_heapSortCmpFunc_L0, sift_eq]
 have h1 : ∀ s t, sort_heapSort_func_L1 s t = slices_heapSortCmpFunc_L1 cmpT s t := by
  intro s t
  funext ⟨j, y⟩
  simp only [sort_heapSort_func_L1, slices_heapSortCmpFunc_L1, sift_eq, swap_rule]
  cases hA : rd y s <;> cases hB : rd y (w64 (s + j)) <;> simp only [Option.bind_some, Option.bind_none, rdb, Option.isSome_some, hA, hB]
 unfold sort_heapSort_func slices_heapSortCmpFunc
 simp only [h0, h1]
 refine bnd fun q => bnd fun o => ?_
 rcases o with _ | ⟨_, _, _⟩ | _
 ·rfl
 ·exact bnd fun o => by rcases o with _ | ⟨_, _, _⟩ | _ <;> rfl
 ·rfl
theorem rev_eq (a b : Int) (l : List Pair) : sort_reverseRange_func a b l = slices_reverseRangeCmpFunc cmpT l a b := by
 have h0 : sort_reverseRange_func_L0 = slices_reverseRangeCmpFunc_L0 cmpT := by
  funext ⟨i, j, y⟩
  simp only [sort_reverseRange_func_L0, slices_reverseRangeCmpFunc_L0, swap_rule]
  cases hA : rd y i <;> cases hB : rd y j <;> simp only [Option.bind_some, Option.bind_none, rdb, Option.isSome_some, hA, hB]
 unfold sort_reverseRange_func slices_reverseRangeCmpFunc
 rw [h0]; exact bnd fun o => by rcases o with _ | ⟨_, _, _, _⟩ | _ <;> rfl
theorem order2_eq (a b c : Int) (l : List Pair) : (sort_order2_func a b l c).map (fun r => (r.1, r.2.1, l, r.2.2)) = slices_order2CmpFunc cmpT l a b c := by
 simp only [sort_order2_func, slices_order2CmpFunc, less_rule, cmp_rule, neg_iff]
 cases hA : rd l b <;> cases hB : rd l a <;> simp only [Option.bind_some, Option.bind_none, Option.map_none]
 split <;> rfl
theorem xor_eq (x : Int) : sort_xorshift_Next x = slices_xorshift_Next x := rfl
theorem median_eq (a b c d : Int) (l : List Pair) : slices_medianCmpFunc cmpT l a b c d = (sort_median_func a b c l d).map fun r => (r.1, l, r.2) := by
 unfold slices_medianCmpFunc sort_median_func
 rw [← order2_eq]
 cases h1 : sort_order2_func a b l d with
 | none => rfl
 | some r =>
  simp only [Option.map_some, Option.bind_some, if_true]
  rw [← order2_eq]
  cases h2 : sort_order2_func r.2.1 c l r.2.2 with
  | none => rfl
  | some q =>
   simp only [Option.map_some, Option.bind_some, if_true]
   rw [← order2_eq]
   cases h3 : sort_order2_func r.1 q.1 l q.2.2 with
   | none => rfl
   | some t => simp only [Option.map_some, Option.bind_some, if_true]
theorem adj_eq (a d : Int) (l : List Pair) : slices_medianAdjacentCmpFunc cmpT l a d = (sort_medianAdjacent_func a l d).map fun r => (r.1, l, r.2) := by
 unfold slices_medianAdjacentCmpFunc sort_medianAdjacent_func
 rw [median_eq]
 cases sort_median_func (w64 (a - 1)) a (w64 (a + 1)) l d with
 | none => rfl
 | some r => simp only [Option.map_some, Option.bind_some, if_true]
theorem pivot_eq (a b : Int) (l : List Pair) : slices_choosePivotCmpFunc cmpT l a b = (sort_choosePivot_func a b l).map fun r => (r.1, r.2, l) := by
 unfold slices_choosePivotCmpFunc sort_choosePivot_func
 cases quoK .i64 (w64 (b - a)) 4 with
 | none => rfl
 | some q =>
  simp only [Option.bind_some, adj_eq, median_eq]
  split
  ·split
   ·cases h1 : sort_medianAdjacent_func (w64 (a + w64 (q * 1))) l 0 with
    | none => rfl
    | some r =>
     simp only [Option.map_some, Option.bind_some, if_true, adj_eq]
     cases h2 : sort_medianAdjacent_func (w64 (a + w64 (q * 2))) l r.2 with
     | none => rfl
     | some t =>
      simp only [Option.map_some, Option.bind_some, if_true, adj_eq]
      cases h3 : sort_medianAdjacent_func (w64 (a + w64 (q * 3))) l t.2 with
      | none => rfl
      | some u =>
       simp only [Option.map_some, Option.bind_some, if_true, median_eq]
       cases h4 : sort_median_func r.1 t.1 u.1 l u.2 with
       | none => rfl
       | some v =>
        simp only [Option.map_some, Option.bind_some, if_true]
        split
        ·rfl
        ·split <;> rfl
   ·cases h4 : sort_median_func (w64 (a + w64 (q * 1))) (w64 (a + w64 (q * 2))) (w64 (a + w64 (q * 3))) l 0 with
    | none => rfl
    | some v =>
     simp only [Option.map_some, Option.bind_some, if_true]
     split
     ·rfl
     ·split <;> rfl
  ·rfl
theorem pis1_eq (a b c : Int) (y : List Pair) : sort_partialInsertionSort_func_L1 a b c y = slices_partialInsertionSortCmpFunc_L1 cmpT a b c y := by
 funext i
 simp only [sort_partialInsertionSort_func_L1, slices_partialInsertionSortCmpFunc_L1, less_rule, cmp_rule, neg_iff]
theorem pis2_eq (a b c d : Int) : sort_partialInsertionSort_func_L2 a b c d = slices_partialInsertionSortCmpFunc_L2 cmpT a b c d := by
 funext ⟨i, y⟩
 simp only [sort_partialInsertionSort_func_L2, slices_partialInsertionSortCmpFunc_L2, swap_rule, less_rule, cmp_rule, neg_iff]
 cases hA : rd y i <;> cases hB : rd y (w64 (i - 1)) <;> simp only [Option.bind_some, Option.bind_none, rdb, Option.isSome_some, hA, hB]
theorem pis3_eq (a b c d : Int) : sort_partialInsertionSort_func_L3 a b c d = slices_partialInsertionSortCmpFunc_L3 cmpT a b c d := by
 funext ⟨i, y⟩
 simp only [sort_partialInsertionSort_func_L3, slices_partialInsertionSortCmpFunc_L3, swap_rule, less_rule, cmp_rule, neg_iff]
 cases hA : rd y i <;> cases hB : rd y (w64 (i - 1)) <;> simp only [Option.bind_some, Option.bind_none, rdb, Option.isSome_some, hA, hB]
end Xr

namespace Xr
open Go Go.Ev
set_option linter.unusedVariables false
set_option linter.unusedSimpArgs false
theorem part0_eq (a b : Int) (y : List Pair) : sort_partition_func_L0 a b y = slices_partitionCmpFunc_L0 cmpT a b y := by
 funext i
 simp only [sort_partition_func_L0, slices_partitionCmpFunc_L0, less_rule, cmp_rule, neg_iff]
theorem part1_eq (a b : Int) (y : List Pair) : sort_partition_func_L1 a b y = slices_partitionCmpFunc_L1 cmpT a b y := by
 funext i
 simp only [sort_partition_func_L1, slices_partitionCmpFunc_L1, less_rule, cmp_rule, neg_iff]
theorem part3_eq (a b : Int) (y : List Pair) : sort_partition_func_L3 a b y = slices_partitionCmpFunc_L3 cmpT a b y := by
 funext i
 simp only [sort_partition_func_L3, slices_partitionCmpFunc_L3, less_rule, cmp_rule, neg_iff]
theorem part4_eq (a b : Int) (y : List Pair) : sort_partition_func_L4 a b y = slices_partitionCmpFunc_L4 cmpT a b y := by
 funext i
 simp only [sort_partition_func_L4, slices_partitionCmpFunc_L4, less_rule, cmp_rule, neg_iff]
theorem sl_rule {α : Type} (i j : Int) (l : List Pair) (k : List Pair → Option α) : ((swapL i j l).bind fun r => if r.length = l.length then k r else none) = (rd l j).bind fun v => (rd l i).bind fun w => (rd (l.set i.toNat v) j).bind fun _ => k ((l.set i.toNat v).set j.toNat w) := by
 rw [swap_rule]
 cases hA : rd l i <;> cases hB : rd l j <;> simp only [Option.bind_some, Option.bind_none, rdb, Option.isSome_some, hA, hB]
theorem part2_eq (a : Int) : sort_partition_func_L2 a = slices_partitionCmpFunc_L2 cmpT a := by
 funext ⟨i, j, y⟩
 simp only [sort_partition_func_L2, slices_partitionCmpFunc_L2, part3_eq, part4_eq]
 refine bnd fun o => ?_
 rcases o with _ | ⟨_, i'⟩ | _
 ·rfl
 ·refine bnd fun o => ?_
  rcases o with _ | ⟨_, j'⟩ | _
  ·rfl
  ·simp only
   split
   ·rfl
   ·rw [sl_rule]
  ·rfl
 ·rfl
theorem part_eq (a b c : Int) (l : List Pair) : sort_partition_func a b c l = slices_partitionCmpFunc cmpT l a b c := by
 unfold sort_partition_func slices_partitionCmpFunc
 rw [sl_rule]
 refine bnd fun v1 => bnd fun v4 => bnd fun v9 => ?_
 rw [part0_eq]
 refine bnd fun o => ?_
 rcases o with _ | ⟨_, i'⟩ | _
 ·rfl
 ·simp only
  rw [part1_eq]
  refine bnd fun o => ?_
  rcases o with _ | ⟨_, j'⟩ | _
  ·rfl
  ·simp only
   split
   ·rw [sl_rule]
   ·rw [sl_rule]
    refine bnd fun v52 => bnd fun v55 => bnd fun v60 => ?_
    rw [part2_eq]
    refine bnd fun o => ?_
    rcases o with _ | ⟨_, i2, j2, y2⟩ | _
    ·rfl
    ·simp only
     rw [sl_rule]
    ·rfl
  ·rfl
 ·rfl
theorem pis0_eq (a b : Int) : sort_partialInsertionSort_func_L0 a b = slices_partialInsertionSortCmpFunc_L0 cmpT a b := by
 funext ⟨i, c, y⟩
 simp only [sort_partialInsertionSort_func_L0, slices_partialInsertionSortCmpFunc_L0, pis1_eq]
 split
 ·refine bnd fun o => ?_
  rcases o with _ | ⟨_, i'⟩ | _
  ·rfl
  ·simp only
   split
   ·rfl
   ·split
    ·rfl
    ·rw [sl_rule]
     refine bnd fun v => bnd fun w => bnd fun u => ?_
     split
     ·rw [pis2_eq]
      refine bnd fun o => ?_
      rcases o with _ | ⟨_, k, y2⟩ | _
      ·rfl
      ·simp only
       split
       ·rw [pis3_eq]
        exact bnd fun o => by rcases o with _ | ⟨_, _, _⟩ | _ <;> rfl
       ·rfl
      ·rfl
     ·split
      ·rw [pis3_eq]
       exact bnd fun o => by rcases o with _ | ⟨_, _, _⟩ | _ <;> rfl
      ·rfl
  ·rfl
 ·rfl
theorem pis_eq (a b : Int) (l : List Pair) : sort_partialInsertionSort_func a b l = slices_partialInsertionSortCmpFunc cmpT l a b := by
 unfold sort_partialInsertionSort_func slices_partialInsertionSortCmpFunc
 rw [pis0_eq]
 exact bnd fun o => by rcases o with _ | ⟨_, _, _, _⟩ | _ <;> rfl
end Xr

namespace Xr
open Go Go.Ev
set_option linter.unusedVariables false
set_option linter.unusedSimpArgs false
theorem pe1_eq (a b : Int) (y : List Pair) : sort_partitionEqual_func_L1 a b y = slices_partitionEqualCmpFunc_L1 cmpT a b y := by
 funext i
 simp only [sort_partitionEqual_func_L1, slices_partitionEqualCmpFunc_L1, less_rule, cmp_rule, neg_iff]
theorem pe2_eq (a b : Int) (y : List Pair) : sort_partitionEqual_func_L2 a b y = slices_partitionEqualCmpFunc_L2 cmpT a b y := by
 funext i
 simp only [sort_partitionEqual_func_L2, slices_partitionEqualCmpFunc_L2, less_rule, cmp_rule, neg_iff]
theorem pe0_eq (a : Int) : sort_partitionEqual_func_L0 a = slices_partitionEqualCmpFunc_L0 cmpT a := by
 funext ⟨i, j, y⟩
 simp only [sort_partitionEqual_func_L0, slices_partitionEqualCmpFunc_L0, pe1_eq, pe2_eq]
 refine bnd fun o => ?_
 rcases o with _ | ⟨_, i'⟩ | _
 ·rfl
 ·refine bnd fun o => ?_
  rcases o with _ | ⟨_, j'⟩ | _
  ·rfl
  ·simp only
   split
   ·rfl
   ·rw [sl_rule]
  ·rfl
 ·rfl
theorem pe_eq (a b c : Int) (l : List Pair) : sort_partitionEqual_func a b c l = slices_partitionEqualCmpFunc cmpT l a b c := by
 unfold sort_partitionEqual_func slices_partitionEqualCmpFunc
 rw [sl_rule]
 refine bnd fun v1 => bnd fun v4 => bnd fun v9 => ?_
 rw [pe0_eq]
 exact bnd fun o => by rcases o with _ | ⟨_, _, _, _⟩ | _ <;> rfl
theorem bt_byte {s : ByteArray} {i q : Int} (h : bt s i = some q) : 0 ≤ q ∧ q < 256 := by
 unfold bt at h
 obtain ⟨b, _, rfl⟩ := Option.map_eq_some_iff.1 h
 have := b.toNat_lt
 omega
theorem wrap_small {q : Int} (h0 : 0 ≤ q) (h1 : q < 9223372036854775808) : IntKind.wrap .i64 q = q := w64_id (by omega) h1
theorem wrapu_small {q : Int} (h0 : 0 ≤ q) (h1 : q < 9223372036854775808) : IntKind.wrap .u64 q = q := by
 change (if (false && decide (q % 18446744073709551616 ≥ 9223372036854775808)) = true then q % 18446744073709551616 - 18446744073709551616 else q % 18446744073709551616) = q
 simp only [Bool.false_and, Bool.false_eq_true, if_false]
 omega
theorem w64_small {q : Int} (h0 : 0 ≤ q) (h1 : q < 9223372036854775808) : w64 q = q := w64_id (by omega) h1
theorem len_range {x r : Int} (h : math_bits_Len x = some r) : 0 ≤ r ∧ r < 1000 := by
 have key : ∀ r, math_bits_Len64 x = some r → 0 ≤ r ∧ r < 1000 := by
  intro r h
  unfold math_bits_Len64 at h
  have k : ∀ (c q : Int), 0 ≤ c → c < 100 → 0 ≤ q → q < 256 → 0 ≤ w64 (c + IntKind.wrap .i64 q) ∧ w64 (c + IntKind.wrap .i64 q) < 1000 := by
   intro c q a1 a2 a3 a4
   rw [wrap_small a3 (by omega), w64_small (by omega) (by omega)]; omega
  have d1 : w64 (32 + 16) = 48 := w64_small (by omega) (by omega)
  have d2 : w64 (48 + 8) = 56 := w64_small (by omega) (by omega)
  have d3 : w64 (32 + 8) = 40 := w64_small (by omega) (by omega)
  have d4 : w64 (0 + 16) = 16 := w64_small (by omega) (by omega)
  have d5 : w64 (16 + 8) = 24 := w64_small (by omega) (by omega)
  have d6 : w64 (0 + 8) = 8 := w64_small (by omega) (by omega)
  simp only [d1, d2, d3, d4, d5, d6] at h
  rcases itc h with ⟨_, _, h⟩ | ⟨_, _, h⟩
  ·obtain ⟨q2, _, h⟩ := bsm h
   rcases itc h with ⟨_, _, h⟩ | ⟨_, _, h⟩
   ·obtain ⟨q6, _, h⟩ := bsm h
    rcases itc h with ⟨_, _, h⟩ | ⟨_, _, h⟩
    ·obtain ⟨q10, _, h⟩ := bsm h
     (obtain ⟨q, hq, h⟩ := bsm h; cases h; have hb := bt_byte hq; exact k _ _ (by omega) (by omega) hb.1 hb.2)
    ·(obtain ⟨q, hq, h⟩ := bsm h; cases h; have hb := bt_byte hq; exact k _ _ (by omega) (by omega) hb.1 hb.2)
   ·rcases itc h with ⟨_, _, h⟩ | ⟨_, _, h⟩
    ·obtain ⟨q10, _, h⟩ := bsm h
     (obtain ⟨q, hq, h⟩ := bsm h; cases h; have hb := bt_byte hq; exact k _ _ (by omega) (by omega) hb.1 hb.2)
    ·(obtain ⟨q, hq, h⟩ := bsm h; cases h; have hb := bt_byte hq; exact k _ _ (by omega) (by omega) hb.1 hb.2)
  ·rcases itc h with ⟨_, _, h⟩ | ⟨_, _, h⟩
   ·obtain ⟨q6, _, h⟩ := bsm h
    rcases itc h with ⟨_, _, h⟩ | ⟨_, _, h⟩
    ·obtain ⟨q10, _, h⟩ := bsm h
     (obtain ⟨q, hq, h⟩ := bsm h; cases h; have hb := bt_byte hq; exact k _ _ (by omega) (by omega) hb.1 hb.2)
    ·(obtain ⟨q, hq, h⟩ := bsm h; cases h; have hb := bt_byte hq; exact k _ _ (by omega) (by omega) hb.1 hb.2)
   ·rcases itc h with ⟨_, _, h⟩ | ⟨_, _, h⟩
    ·obtain ⟨q10, _, h⟩ := bsm h
     (obtain ⟨q, hq, h⟩ := bsm h; cases h; have hb := bt_byte hq; exact k _ _ (by omega) (by omega) hb.1 hb.2)
    ·(obtain ⟨q, hq, h⟩ := bsm h; cases h; have hb := bt_byte hq; exact k _ _ (by omega) (by omega) hb.1 hb.2)
 unfold math_bits_Len at h
 obtain ⟨q, hq, h⟩ := bsm h
 cases h
 exact key _ hq
theorem next_eq (x : Int) : sort_nextPowerOfTwo x = slices_nextPowerOfTwo x := by
 unfold sort_nextPowerOfTwo slices_nextPowerOfTwo
 cases h : math_bits_Len (IntKind.wrap .u64 x) with
 | none => rfl
 | some r =>
  have := len_range h
  simp only [Option.bind_some]
  rw [wrapu_small this.1 (by omega)]
theorem brk0_eq (a b c : Int) : sort_breakPatterns_func_L0 a b c = slices_breakPatternsCmpFunc_L0 cmpT a b c := by
 funext ⟨i, y, w⟩
 simp only [sort_breakPatterns_func_L0, slices_breakPatternsCmpFunc_L0, xor_eq]
 refine bnd fun q => ?_
 split
 ·refine bnd fun r => ?_
  split
  ·rw [sl_rule]
  ·rw [sl_rule]
 ·rfl
theorem brk_eq (a b : Int) (l : List Pair) : sort_breakPatterns_func a b l = slices_breakPatternsCmpFunc cmpT l a b := by
 unfold sort_breakPatterns_func slices_breakPatternsCmpFunc
 simp only [next_eq, brk0_eq]
 split
 ·exact bnd fun r => bnd fun q => bnd fun o => by rcases o with _ | ⟨_, _, _, _⟩ | _ <;> rfl
 ·rfl
theorem pdq_eq (rec : Int → Int → Int → List Pair → Option (List Pair)) : sort_pdqsort_func_L0 rec = slices_pdqsortCmpFunc_L0 (fun l a b c => rec a b c l) cmpT := by
 funext ⟨a, b, c, d, e, y⟩
 simp only [sort_pdqsort_func_L0, slices_pdqsortCmpFunc_L0, ins_eq, heap_eq, brk_eq, rev_eq, pis_eq, part_eq, pe_eq, pivot_eq, less_rule, cmp_rule, neg_iff, Option.bind_map, Function.comp_def, if_true]
end Xr

namespace Xr
open Go Go.Ev
set_option linter.unusedVariables false
section
variable {T : Type} {p : T → T → Option Int} {key : T → Int}
structure Seg (l l' : List T) (a b : Nat) : Prop where
 perm : l'.Perm l
 out : ∀ i, i < a ∨ b ≤ i → l'[i]? = l[i]?
theorem Seg.refl (l : List T) (a b : Nat) : Seg l l a b := ⟨.refl _, fun _ _ => rfl⟩
theorem Seg.trans {l m n : List T} {a b : Nat} (h : Seg l m a b) (k : Seg m n a b) : Seg l n a b := ⟨k.perm.trans h.perm, fun i hi => (k.out i hi).trans (h.out i hi)⟩
theorem Seg.mono {l m : List T} {a b a' b' : Nat} (h : Seg l m a b) (h1 : a' ≤ a) (h2 : b ≤ b') : Seg l m a' b' := ⟨h.perm, fun i hi => h.out i (by omega)⟩
theorem Seg.len {l m : List T} {a b : Nat} (h : Seg l m a b) : m.length = l.length := h.perm.length_eq
theorem Seg.swap {l : List T} {i j a b : Nat} {x y : T} (hx : l[i]? = some x) (hy : l[j]? = some y) (hi : a ≤ i ∧ i < b) (hj : a ≤ j ∧ j < b) : Seg l ((l.set i y).set j x) a b := by
 obtain ⟨h1, e1⟩ := List.getElem?_eq_some_iff.1 hx
 obtain ⟨h2, e2⟩ := List.getElem?_eq_some_iff.1 hy
 subst e1 e2
 refine ⟨List.set_set_perm h1 h2, fun k hk => ?_⟩
 rw [List.getElem?_set_ne (by omega), List.getElem?_set_ne (by omega)]
theorem swap_get {l : List T} {i j : Nat} {x y : T} (hx : l[i]? = some x) (hy : l[j]? = some y) (k : Nat) : ((l.set i y).set j x)[k]? = if k = j then some x else if k = i then some y else l[k]? := by
 obtain ⟨h1, e1⟩ := List.getElem?_eq_some_iff.1 hx
 obtain ⟨h2, e2⟩ := List.getElem?_eq_some_iff.1 hy
 by_cases hkj : k = j
 ·subst hkj; rw [if_pos rfl, List.getElem?_set_self (by simpa using h2)]
 ·rw [if_neg hkj, List.getElem?_set_ne (fun e => hkj e.symm)]
  by_cases hki : k = i
  ·subst hki; rw [if_pos rfl, List.getElem?_set_self h1]
  ·rw [if_neg hki, List.getElem?_set_ne (fun e => hki e.symm)]
def Keyed (p : T → T → Option Int) (key : T → Int) (l : List T) : Prop := ∀ x ∈ l, ∀ y ∈ l, ∃ c, p x y = some c ∧ (c < 0 ↔ key x < key y)
theorem Keyed.perm {l m : List T} (h : Keyed p key l) (hp : m.Perm l) : Keyed p key m := fun x hx y hy => h x (hp.mem_iff.1 hx) y (hp.mem_iff.1 hy)
theorem Keyed.seg {l m : List T} {a b : Nat} (h : Keyed p key l) (hs : Seg l m a b) : Keyed p key m := h.perm hs.perm
def ka (key : T → Int) (l : List T) (i : Nat) : Int := ((l[i]?).map key).getD 0
theorem ka_some {l : List T} {i : Nat} {x : T} (h : l[i]? = some x) : ka key l i = key x := by simp [ka, h]
def Asc (key : T → Int) (l : List T) (a b : Nat) : Prop := ∀ i j, a ≤ i → i < j → j < b → ka key l i ≤ ka key l j
theorem get_lt {l : List T} {i : Nat} (h : i < l.length) : ∃ x, l[i]? = some x := ⟨_, List.getElem?_eq_getElem h⟩
theorem w64_pred {n : Nat} (h : n < 2 ^ 62) (h0 : 0 < n) : w64 ((n : Int) - 1) = ((n - 1 : Nat) : Int) := by
 rw [w64_id (by omega) (by omega)]; omega
def Sink (key : T → Int) (l : List T) (a i j : Nat) : Prop := (∀ p q, a ≤ p → p < q → q ≤ i → p ≠ j → q ≠ j → ka key l p ≤ ka key l q) ∧ ∀ q, j < q → q ≤ i → ka key l j ≤ ka key l q
theorem ins_inner {l : List T} {a b i : Nat} (hk : Keyed p key l) (hb : b ≤ l.length) (hl : l.length < 2 ^ 40) (hai : a ≤ i) (hib : i < b) :
  ∀ (j : Nat) (y : List T), a ≤ j → j ≤ i → Seg l y a b → Sink key y a i j →
   ∃ (j' : Nat) (y' : List T), iter (slices_insertionSortCmpFunc_L1 p (a : Int) (b : Int) (i : Int)) ((j : Int), y) = some (.jmp 2 ((j' : Int), y')) ∧ Seg l y' a b ∧ Asc key y' a (i + 1) := by
 intro j
 induction j with
 | zero =>
  intro y h1 h2 hs hq
  refine ⟨0, y, iter_jmp ?_, hs, fun u v hu huv hv => ?_⟩
  ·simp only [slices_insertionSortCmpFunc_L1]
   rw [if_neg (by omega)]
  ·by_cases hu0 : u = 0
   ·subst hu0; exact hq.2 v (by omega) (by omega)
   ·exact hq.1 u v hu huv (by omega) (by omega) (by omega)
 | succ j ih =>
  intro y h1 h2 hs hq
  by_cases hlt : a < j + 1
  case neg =>
   obtain rfl : a = j + 1 := by omega
   refine ⟨j + 1, y, iter_jmp ?_, hs, fun u v hu huv hv => ?_⟩
   ·simp only [slices_insertionSortCmpFunc_L1]
    rw [if_neg (by omega)]
   ·by_cases hu0 : u = j + 1
    ·subst hu0; exact hq.2 v (by omega) (by omega)
    ·exact hq.1 u v hu huv (by omega) (by omega) (by omega)
  have hyl := hs.len
  obtain ⟨x, hx⟩ := get_lt (l := y) (i := j + 1) (by omega)
  obtain ⟨z, hz⟩ := get_lt (l := y) (i := j) (by omega)
  obtain ⟨c, hc, hcc⟩ := hk.seg hs x (List.mem_of_getElem? hx) z (List.mem_of_getElem? hz)
  have e1 : w64 (((j + 1 : Nat) : Int) - 1) = (j : Int) := by rw [w64_pred (by omega) (by omega)]; rfl
  have hrd : (y.set (j + 1) z)[j]? = some z := by rw [List.getElem?_set_ne (by omega)]; exact hz
  have hstep : slices_insertionSortCmpFunc_L1 p (a : Int) (b : Int) (i : Int) (((j + 1 : Nat) : Int), y) = if c < 0 then some (.next ((j : Int), (y.set (j + 1) z).set j x)) else some (.jmp 2 (((j + 1 : Nat) : Int), y)) := by
   simp only [slices_insertionSortCmpFunc_L1, e1]
   simp only [rd_nat, hx, hz, Option.bind_some, hc, Int.toNat_natCast, hrd]
   rw [if_pos (by omega)]
  have kx := ka_some (key := key) hx
  have kz := ka_some (key := key) hz
  by_cases h0 : c < 0
  ·rw [if_pos h0] at hstep
   rw [iter_next hstep]
   have hlt' := hcc.1 h0
   have hget := swap_get hx hz
   have kk : ∀ k, ka key ((y.set (j + 1) z).set j x) k = if k = j then key x else if k = j + 1 then key z else ka key y k := by
    intro k
    unfold ka
    rw [hget k]
    split
    ·rfl
    ·split <;> rfl
   refine ih _ (by omega) (by omega) (hs.trans (Seg.swap hx hz (by omega) (by omega))) ⟨fun u v hu huv hv hu' hv' => ?_, fun v hv hvi => ?_⟩
   ·rw [kk, kk, if_neg hu', if_neg hv']
    by_cases hv1 : v = j + 1
    ·rw [if_pos hv1, if_neg (by omega), ← kz]; exact hq.1 u j hu (by omega) (by omega) (by omega) (by omega)
    ·rw [if_neg hv1]
     by_cases hu1 : u = j + 1
     ·rw [if_pos hu1, ← kz]; exact hq.1 j v (by omega) (by omega) hv (by omega) (by omega)
     ·rw [if_neg hu1]; exact hq.1 u v hu huv hv (by omega) (by omega)
   ·rw [kk, kk, if_pos rfl, if_neg (by omega)]
    by_cases hv1 : v = j + 1
    ·rw [if_pos hv1]; omega
    ·rw [if_neg hv1, ← kx]; exact hq.2 v (by omega) hvi
  ·rw [if_neg h0] at hstep
   refine ⟨j + 1, y, iter_jmp hstep, hs, fun u v hu huv hv => ?_⟩
   have hge : key z ≤ key x := by
    have := mt hcc.2 h0; omega
   by_cases hu1 : u = j + 1
   ·subst hu1; exact hq.2 v (by omega) (by omega)
   ·by_cases hv1 : v = j + 1
    ·subst hv1
     by_cases hu2 : u = j
     ·subst hu2; rw [kx, kz]; exact hge
     ·have := hq.1 u j hu (by omega) (by omega) (by omega) (by omega)
      rw [kx]; rw [kz] at this; omega
    ·exact hq.1 u v hu huv (by omega) hu1 hv1
theorem ins_ok {l : List T} {a b : Nat} (hk : Keyed p key l) (hab : a ≤ b) (hb : b ≤ l.length) (hl : l.length < 2 ^ 40) : ∃ l', slices_insertionSortCmpFunc p l (a : Int) (b : Int) = some l' ∧ Seg l l' a b ∧ Asc key l' a b := by
 have key1 : ∀ (d i : Nat) (y : List T), i + d = max b (a + 1) → a + 1 ≤ i → Seg l y a b → Asc key y a i →
   ∃ (i' : Nat) (y' : List T), iter (slices_insertionSortCmpFunc_L0 p (a : Int) (b : Int)) ((i : Int), y) = some (.jmp 0 ((i' : Int), y')) ∧ Seg l y' a b ∧ Asc key y' a b := by
  intro d
  induction d with
  | zero =>
   intro i y h1 h2 hs hq
   refine ⟨i, y, iter_jmp ?_, hs, fun u v hu huv hv => hq u v hu huv (by omega)⟩
   simp only [slices_insertionSortCmpFunc_L0]
   rw [if_neg (by omega)]
  | succ d ih =>
   intro i y h1 h2 hs hq
   have hib : i < b := by omega
   obtain ⟨j', y', h3, h4, h5⟩ := ins_inner hk hb hl (a := a) (b := b) (i := i) (by omega) hib i y (by omega) (Nat.le_refl _) hs ⟨fun u v hu huv hv hu' hv' => hq u v hu huv (by omega), fun v hv hv' => by omega⟩
   have hstep : slices_insertionSortCmpFunc_L0 p (a : Int) (b : Int) ((i : Int), y) = some (.next (((i + 1 : Nat) : Int), y')) := by
    simp only [slices_insertionSortCmpFunc_L0, h3, Option.bind_some, w64_succ (show i < 2 ^ 62 by omega)]
    rw [if_pos (by omega)]
   rw [iter_next hstep]
   exact ih (i + 1) y' (by omega) (by omega) h4 h5
 obtain ⟨i', y', h1, h2, h3⟩ := key1 (max b (a + 1) - (a + 1)) (a + 1) l (by omega) (Nat.le_refl _) (.refl ..) (fun u v hu huv hv => by omega)
 refine ⟨y', ?_, h2, h3⟩
 unfold slices_insertionSortCmpFunc
 rw [w64_succ (by omega), h1]
 rfl
theorem w64_n {x : Int} {n : Nat} (h : x = (n : Int)) (hn : n < 2 ^ 62) : w64 x = (n : Int) := by subst h; exact w64_nat hn
def kid (key : T → Int) (l : List T) (a hi r : Nat) : Nat := if 2 * r + 2 < hi ∧ ka key l (a + (2 * r + 1)) < ka key l (a + (2 * r + 2)) then 2 * r + 2 else 2 * r + 1
theorem sift_step {y : List T} {a hi r : Nat} (hk : Keyed p key y) (hl : a + hi ≤ y.length) (hy : y.length < 2 ^ 40) (h2 : 2 * r + 1 < hi) :
  ∃ x z, y[a + r]? = some x ∧ y[a + kid key y a hi r]? = some z ∧ slices_siftDownCmpFunc_L0 p (hi : Int) (a : Int) ((r : Int), y) =
   if key x < key z then some (.next (((kid key y a hi r : Nat) : Int), (y.set (a + r) z).set (a + kid key y a hi r) x)) else some (.ret y) := by
 obtain ⟨x, hx⟩ := get_lt (l := y) (i := a + r) (by omega)
 obtain ⟨z1, hz1⟩ := get_lt (l := y) (i := a + (2 * r + 1)) (by omega)
 have e1 : w64 ((2 : Int) * (r : Int)) = ((2 * r : Nat) : Int) := w64_n (by omega) (by omega)
 have e2 : w64 (((2 * r : Nat) : Int) + 1) = ((2 * r + 1 : Nat) : Int) := w64_n (by omega) (by omega)
 have e3 : w64 (((2 * r + 1 : Nat) : Int) + 1) = ((2 * r + 2 : Nat) : Int) := w64_n (by omega) (by omega)
 have e4 : w64 ((a : Int) + ((2 * r + 1 : Nat) : Int)) = ((a + (2 * r + 1) : Nat) : Int) := w64_n (by omega) (by omega)
 have e5 : w64 (((a + (2 * r + 1) : Nat) : Int) + 1) = ((a + (2 * r + 2) : Nat) : Int) := w64_n (by omega) (by omega)
 have e6 : w64 ((a : Int) + ((2 * r + 2 : Nat) : Int)) = ((a + (2 * r + 2) : Nat) : Int) := w64_n (by omega) (by omega)
 have e7 : w64 ((a : Int) + (r : Int)) = ((a + r : Nat) : Int) := w64_n (by omega) (by omega)
 have kx := ka_some (key := key) hx
 have k1 := ka_some (key := key) hz1
 have n1 : ¬ (hi : Int) ≤ ((2 * r + 1 : Nat) : Int) := by omega
 have mx := List.mem_of_getElem? hx
 have m1 := List.mem_of_getElem? hz1
 obtain ⟨c1, hc1, hcc1⟩ := hk x mx z1 m1
 have hrd1 : (y.set (a + r) z1)[a + (2 * r + 1)]? = some z1 := by rw [List.getElem?_set_ne (by omega)]; exact hz1
 by_cases h3 : 2 * r + 2 < hi
 ·obtain ⟨z2, hz2⟩ := get_lt (l := y) (i := a + (2 * r + 2)) (by omega)
  have k2 := ka_some (key := key) hz2
  have m2 := List.mem_of_getElem? hz2
  obtain ⟨c2, hc2, hcc2⟩ := hk x mx z2 m2
  obtain ⟨c, hc, hcc⟩ := hk z1 m1 z2 m2
  have hrd2 : (y.set (a + r) z2)[a + (2 * r + 2)]? = some z2 := by rw [List.getElem?_set_ne (by omega)]; exact hz2
  have n3 : ((2 * r + 2 : Nat) : Int) < (hi : Int) := by omega
  by_cases h4 : c < 0
  ·have hkid : kid key y a hi r = 2 * r + 2 := by unfold kid; rw [if_pos ⟨h3, by rw [k1, k2]; exact hcc.1 h4⟩]
   refine ⟨x, z2, hx, by rw [hkid]; exact hz2, ?_⟩
   rw [hkid]
   simp only [slices_siftDownCmpFunc_L0, e1, e2, e3, e4, e5, e6, e7]
   simp only [rd_nat, hx, hz1, hz2, Option.bind_some, hc, hc2, Int.toNat_natCast, hrd2]
   rw [if_neg n1, if_pos n3, if_pos h4]
   by_cases h5 : c2 < 0
   ·rw [if_pos h5, if_pos (hcc2.1 h5)]
   ·rw [if_neg h5, if_neg (mt hcc2.2 h5)]
  ·have hkid : kid key y a hi r = 2 * r + 1 := by unfold kid; rw [if_neg (fun h => h4 (hcc.2 (by rw [← k1, ← k2]; exact h.2)))]
   refine ⟨x, z1, hx, by rw [hkid]; exact hz1, ?_⟩
   rw [hkid]
   simp only [slices_siftDownCmpFunc_L0, e1, e2, e3, e4, e5, e6, e7]
   simp only [rd_nat, hx, hz1, hz2, Option.bind_some, hc, hc1, Int.toNat_natCast, hrd1]
   rw [if_neg n1, if_pos n3, if_neg h4]
   by_cases h5 : c1 < 0
   ·rw [if_pos h5, if_pos (hcc1.1 h5)]
   ·rw [if_neg h5, if_neg (mt hcc1.2 h5)]
 ·have n3 : ¬ ((2 * r + 2 : Nat) : Int) < (hi : Int) := by omega
  have hkid : kid key y a hi r = 2 * r + 1 := by unfold kid; rw [if_neg (fun h => h3 h.1)]
  refine ⟨x, z1, hx, by rw [hkid]; exact hz1, ?_⟩
  rw [hkid]
  simp only [slices_siftDownCmpFunc_L0, e1, e2, e3, e4, e5, e6, e7]
  simp only [rd_nat, hx, hz1, Option.bind_some, hc1, Int.toNat_natCast, hrd1]
  rw [if_neg n1, if_neg n3]
  by_cases h5 : c1 < 0
  ·rw [if_pos h5, if_pos (hcc1.1 h5)]
  ·rw [if_neg h5, if_neg (mt hcc1.2 h5)]
def HeapBut (key : T → Int) (l : List T) (a lo hi r : Nat) : Prop :=
 (∀ q k, lo ≤ q → q ≠ r → (k = 2 * q + 1 ∨ k = 2 * q + 2) → k < hi → ka key l (a + k) ≤ ka key l (a + q)) ∧
 (∀ q k, lo ≤ q → (r = 2 * q + 1 ∨ r = 2 * q + 2) → (k = 2 * r + 1 ∨ k = 2 * r + 2) → k < hi → ka key l (a + k) ≤ ka key l (a + q))
def Heap (key : T → Int) (l : List T) (a lo hi : Nat) : Prop := ∀ q k, lo ≤ q → (k = 2 * q + 1 ∨ k = 2 * q + 2) → k < hi → ka key l (a + k) ≤ ka key l (a + q)
theorem sift_end {y : List T} {a hi r : Nat} (h : hi ≤ 2 * r + 1) (hr : r < 2 ^ 41) : slices_siftDownCmpFunc_L0 p (hi : Int) (a : Int) ((r : Int), y) = some (.jmp 0 ((r : Int), y)) := by
 have e1 : w64 ((2 : Int) * (r : Int)) = ((2 * r : Nat) : Int) := w64_n (by omega) (by omega)
 have e2 : w64 (((2 * r : Nat) : Int) + 1) = ((2 * r + 1 : Nat) : Int) := w64_n (by omega) (by omega)
 simp only [slices_siftDownCmpFunc_L0, e1, e2]
 rw [if_pos (by omega)]
theorem kid_or (y : List T) (a hi r : Nat) : kid key y a hi r = 2 * r + 1 ∨ kid key y a hi r = 2 * r + 2 := by unfold kid; split <;> simp
theorem kid_lt_hi {y : List T} {a hi r : Nat} (h : 2 * r + 1 < hi) : kid key y a hi r < hi := by unfold kid; split <;> omega
theorem kid_max {y : List T} {a hi r k : Nat} (h : k = 2 * r + 1 ∨ k = 2 * r + 2) (hk : k < hi) : ka key y (a + k) ≤ ka key y (a + kid key y a hi r) := by
 unfold kid
 split
 ·rename_i hc
  rcases h with rfl | rfl <;> omega
 ·rename_i hc
  rcases h with rfl | rfl
  ·omega
  ·by_cases h1 : ka key y (a + (2 * r + 1)) < ka key y (a + (2 * r + 2))
   ·exact absurd ⟨hk, h1⟩ hc
   ·omega
theorem sift_ok {l : List T} {a hi lo : Nat} (hk : Keyed p key l) (hl : a + hi ≤ l.length) (hy : l.length < 2 ^ 40) : ∀ (d r : Nat) (y : List T), hi - r ≤ d → lo ≤ r → r < 2 ^ 41 → Seg l y a (a + hi) → HeapBut key y a lo hi r →
  ∃ y', (∃ r' : Int, iter (slices_siftDownCmpFunc_L0 p (hi : Int) (a : Int)) ((r : Int), y) = some (.jmp 0 (r', y')) ∨ iter (slices_siftDownCmpFunc_L0 p (hi : Int) (a : Int)) ((r : Int), y) = some (.ret y')) ∧ Seg l y' a (a + hi) ∧ Heap key y' a lo hi := by
 intro d
 induction d with
 | zero =>
  intro r y hd hr hr2 hs hb
  refine ⟨y, ⟨(r : Int), .inl (iter_jmp (sift_end (by omega) hr2))⟩, hs, fun q k h1 h2 h3 => ?_⟩
  exact hb.1 q k h1 (by omega) h2 h3
 | succ d ih =>
  intro r y hd hr hr2 hs hb
  have hyl := hs.len
  by_cases h2 : hi ≤ 2 * r + 1
  ·refine ⟨y, ⟨(r : Int), .inl (iter_jmp (sift_end h2 hr2))⟩, hs, fun q k h1 h2 h3 => ?_⟩
   exact hb.1 q k h1 (by omega) h2 h3
  have h2' : 2 * r + 1 < hi := by omega
  obtain ⟨x, z, hx, hz, hstep⟩ := sift_step (hk.seg hs) (a := a) (hi := hi) (r := r) (by omega) (by omega) h2'
  have hco := kid_or (key := key) y a hi r
  have hclt := kid_lt_hi (key := key) (y := y) (a := a) h2'
  have hmax := fun k => kid_max (key := key) (y := y) (a := a) (hi := hi) (r := r) (k := k)
  generalize kid key y a hi r = c at *
  have kx := ka_some (key := key) hx
  have kz := ka_some (key := key) hz
  by_cases h0 : key x < key z
  ·rw [if_pos h0] at hstep
   rw [iter_next hstep]
   have hget := swap_get hx hz
   have kk : ∀ k, ka key ((y.set (a + r) z).set (a + c) x) k = if k = a + c then key x else if k = a + r then key z else ka key y k := by
    intro k
    unfold ka
    rw [hget k]
    split
    ·rfl
    ·split <;> rfl
   refine ih c _ (by omega) (by omega) (by omega) (hs.trans (Seg.swap hx hz (by omega) (by omega))) ⟨fun q k h1 h3 h4 h5 => ?_, fun q k h1 h3 h4 h5 => ?_⟩
   ·rw [kk, kk, if_neg (show ¬ a + q = a + c by omega)]
    by_cases hqr : q = r
    ·subst hqr
     rw [if_pos rfl]
     by_cases hkc : k = c
     ·subst hkc; rw [if_pos rfl]; omega
     ·rw [if_neg (by omega), if_neg (by omega), ← kz]; exact hmax k h4 h5
    ·rw [if_neg (show ¬ a + q = a + r by omega)]
     have hkc : ¬ k = c := by omega
     rw [if_neg (by omega)]
     by_cases hkr : k = r
     ·subst hkr
      rw [if_pos rfl, ← kz]; exact hb.2 q c h1 h4 hco hclt
     ·rw [if_neg (by omega)]; exact hb.1 q k h1 hqr h4 h5
   ·obtain rfl : q = r := by omega
    rw [kk, kk, if_neg (by omega), if_neg (by omega), if_neg (by omega), if_pos rfl, ← kz]
    exact hb.1 c k (by omega) (by omega) h4 h5
  ·rw [if_neg h0] at hstep
   refine ⟨y, ⟨0, .inr (iter_ret hstep)⟩, hs, fun q k h1 h3 h4 => ?_⟩
   by_cases hqr : q = r
   ·subst hqr
    have := hmax k h3 h4
    omega
   ·exact hb.1 q k h1 hqr h3 h4
theorem sift {l : List T} {a hi lo : Nat} (hk : Keyed p key l) (hl : a + hi ≤ l.length) (hy : l.length < 2 ^ 40) (hlo : lo < 2 ^ 40) (h : Heap key l a (lo + 1) hi) :
  ∃ y', slices_siftDownCmpFunc p l (lo : Int) (hi : Int) (a : Int) = some y' ∧ Seg l y' a (a + hi) ∧ Heap key y' a lo hi := by
 obtain ⟨y', h1, h2, h3⟩ := sift_ok hk hl hy (hi - lo) lo l (Nat.le_refl _) (Nat.le_refl _) (by omega) (.refl ..) ⟨fun q k h1 h2 h3 h4 => h q k (by omega) h3 h4, fun q k h1 h2 => by omega⟩
 refine ⟨y', ?_, h2, h3⟩
 unfold slices_siftDownCmpFunc
 obtain ⟨r', h1 | h1⟩ := h1
 ·rw [h1]; rfl
 ·rw [h1]; rfl
theorem Seg.mid {l m : List T} {a b : Nat} (h : Seg l m a b) (hab : a ≤ b) (hb : b ≤ l.length) : ((m.take b).drop a).Perm ((l.take b).drop a) := by
 have hl := h.len
 have e : ∀ x : List T, x = x.take a ++ ((x.take b).drop a ++ x.drop b) := fun x => by
  have e1 : x.take a ++ (x.take b).drop a = x.take b := by
   have : x.take a = (x.take b).take a := by rw [List.take_take, Nat.min_eq_left hab]
   rw [this, List.take_append_drop]
  rw [← List.append_assoc, e1, List.take_append_drop]
 have ea : m.take a = l.take a := by
  apply List.ext_getElem?
  intro i
  rw [List.getElem?_take, List.getElem?_take]
  split
  ·exact h.out i (by omega)
  ·rfl
 have eb : m.drop b = l.drop b := by
  apply List.ext_getElem?
  intro i
  rw [List.getElem?_drop, List.getElem?_drop]
  exact h.out _ (by omega)
 have hp := h.perm
 rw [e m, e l, ea, eb, List.perm_append_left_iff, List.perm_append_right_iff] at hp
 exact hp
theorem mid_get {l : List T} {a b i : Nat} (h1 : a ≤ i) (h2 : i < b) : ((l.take b).drop a)[i - a]? = l[i]? := by
 rw [List.getElem?_drop, List.getElem?_take, if_pos (by omega)]
 congr 1; omega
theorem Seg.all {l m : List T} {a b : Nat} (h : Seg l m a b) (hab : a ≤ b) (hb : b ≤ l.length) {Q : Int → Prop} (hq : ∀ i, a ≤ i → i < b → Q (ka key l i)) : ∀ i, a ≤ i → i < b → Q (ka key m i) := by
 intro i h1 h2
 have hl := h.len
 obtain ⟨x, hx⟩ := get_lt (l := m) (i := i) (by omega)
 have hm : x ∈ (m.take b).drop a := List.mem_of_getElem? (by rw [mid_get h1 h2]; exact hx)
 have hm2 := (h.mid hab hb).mem_iff.1 hm
 obtain ⟨k, hk⟩ := List.getElem?_of_mem hm2
 have hk2 : k < b - a := by
  have := (List.getElem?_eq_some_iff.1 hk).1
  simp only [List.length_drop, List.length_take] at this
  omega
 have hk3 : l[a + k]? = some x := by
  have := mid_get (l := l) (a := a) (b := b) (i := a + k) (by omega) (by omega)
  rw [← this, show a + k - a = k by omega]; exact hk
 rw [ka_some hx, ← ka_some (key := key) hk3]
 exact hq _ (by omega) (by omega)
theorem heap_max {l : List T} {a n : Nat} (h : Heap key l a 0 n) : ∀ k, k < n → ka key l (a + k) ≤ ka key l (a + 0) := by
 intro k
 induction k using Nat.strongRecOn with
 | ind k ih =>
  intro hk
  by_cases h0 : k = 0
  ·subst h0; omega
  ·have h1 := h ((k - 1) / 2) k (by omega) (by omega) hk
   have h2 := ih ((k - 1) / 2) (by omega) (by omega)
   omega
theorem heap1 {l : List T} {a n : Nat} (hk : Keyed p key l) (hl : a + n ≤ l.length) (hy : l.length < 2 ^ 40) : ∀ (i : Nat) (y : List T), i ≤ 2 ^ 40 → Seg l y a (a + n) → Heap key y a i n →
  ∃ y', iter (slices_heapSortCmpFunc_L0 p (a : Int) 0 (n : Int)) ((i : Int) - 1, y) = some (.jmp 0 (-1, y')) ∧ Seg l y' a (a + n) ∧ Heap key y' a 0 n := by
 intro i
 induction i with
 | zero =>
  intro y hi hs hh
  exact ⟨y, iter_jmp (by simp only [slices_heapSortCmpFunc_L0]; rw [if_neg (by omega)]; rfl), hs, hh⟩
 | succ i ih =>
  intro y hi hs hh
  have hyl := hs.len
  obtain ⟨y', h1, h2, h3⟩ := sift (hk.seg hs) (a := a) (hi := n) (lo := i) (by omega) (by omega) (by omega) hh
  have hstep : slices_heapSortCmpFunc_L0 p (a : Int) 0 (n : Int) (((i + 1 : Nat) : Int) - 1, y) = some (.next ((i : Int) - 1, y')) := by
   rw [show ((i + 1 : Nat) : Int) - 1 = (i : Int) by omega]
   simp only [slices_heapSortCmpFunc_L0, h1, Option.bind_some]
   rw [if_pos (by omega), if_pos h2.len, w64_id (by omega) (by omega)]
  rw [iter_next hstep]
  exact ih y' (by omega) (hs.trans h2) h3
theorem heap2 {l : List T} {a n : Nat} (hk : Keyed p key l) (hl : a + n ≤ l.length) (hy : l.length < 2 ^ 40) : ∀ (i : Nat) (y : List T), i ≤ n → Seg l y a (a + n) → Heap key y a 0 i → (∀ u v, u < v → i ≤ v → v < n → ka key y (a + u) ≤ ka key y (a + v)) →
  ∃ y', iter (slices_heapSortCmpFunc_L1 p (a : Int) 0) ((i : Int) - 1, y) = some (.jmp 2 (-1, y')) ∧ Seg l y' a (a + n) ∧ Asc key y' a (a + n) := by
 intro i
 induction i with
 | zero =>
  intro y hi hs hh ht
  refine ⟨y, iter_jmp (by simp only [slices_heapSortCmpFunc_L1]; rw [if_neg (by omega)]; rfl), hs, fun u v h1 h2 h3 => ?_⟩
  have := ht (u - a) (v - a) (by omega) (by omega) (by omega)
  rwa [show a + (u - a) = u by omega, show a + (v - a) = v by omega] at this
 | succ i ih =>
  intro y hi hs hh ht
  have hyl := hs.len
  obtain ⟨x, hx⟩ := get_lt (l := y) (i := a) (by omega)
  obtain ⟨z, hz⟩ := get_lt (l := y) (i := a + i) (by omega)
  have hget := swap_get hx hz
  have hsw := Seg.swap (a := a) (b := a + n) hx hz (by omega) (by omega)
  generalize hy1 : (y.set a z).set (a + i) x = y1 at *
  have kx := ka_some (key := key) hx
  have kz := ka_some (key := key) hz
  have kk : ∀ k, ka key y1 k = if k = a + i then key x else if k = a then key z else ka key y k := by
   intro k
   unfold ka
   rw [hget k]
   split
   ·rfl
   ·split <;> rfl
  have hmax := heap_max hh
  have hs1 := hs.trans hsw
  have hyl1 := hs1.len
  obtain ⟨y', h1, h2, h3⟩ := sift (hk.seg hs1) (a := a) (hi := i) (lo := 0) (by omega) (by omega) (by omega) (fun q k h4 h5 h6 => by
   rw [kk, kk, if_neg (by omega), if_neg (by omega), if_neg (by omega), if_neg (by omega)]
   exact hh q k (by omega) h5 (by omega))
  have e1 : w64 ((a : Int) + (i : Int)) = ((a + i : Nat) : Int) := w64_n (by omega) (by omega)
  have hrd : ∃ q, (y.set a z)[a + i]? = some q := get_lt (by rw [List.length_set]; omega)
  obtain ⟨q, hq⟩ := hrd
  have hstep : slices_heapSortCmpFunc_L1 p (a : Int) 0 (((i + 1 : Nat) : Int) - 1, y) = some (.next ((i : Int) - 1, y')) := by
   rw [show ((i + 1 : Nat) : Int) - 1 = (i : Int) by omega]
   simp only [slices_heapSortCmpFunc_L1, e1]
   simp only [rd_nat, hx, hz, Option.bind_some, Int.toNat_natCast, hq, hy1]
   rw [show ((0 : Int)) = ((0 : Nat) : Int) from rfl, h1]
   simp only [Option.bind_some]
   rw [if_pos (by omega), if_pos h2.len, w64_id (by omega) (by omega)]
  rw [iter_next hstep]
  refine ih y' (by omega) (hs1.trans (h2.mono (Nat.le_refl _) (by omega))) h3 (fun u v h4 h5 h6 => ?_)
  have hv : ka key y' (a + v) = ka key y1 (a + v) := by unfold ka; rw [h2.out (a + v) (by omega)]
  rw [hv]
  have hall : ∀ k, a ≤ k → k < a + i → ka key y1 k ≤ ka key y1 (a + v) := by
   intro k hk1 hk2
   rw [kk, kk, if_neg (by omega)]
   by_cases hvi : v = i
   ·subst hvi
    rw [if_pos rfl, ← kx]
    by_cases hka : k = a
    ·rw [if_pos hka, ← kz]; exact hmax v (by omega)
    ·rw [if_neg hka]
     have := hmax (k - a) (by omega)
     rwa [show a + (k - a) = k by omega] at this
   ·rw [if_neg (show ¬ a + v = a + i by omega), if_neg (show ¬ a + v = a by omega)]
    by_cases hka : k = a
    ·rw [if_pos hka, ← kz]; exact ht i v (by omega) (by omega) h6
    ·rw [if_neg hka]
     have := ht (k - a) v (by omega) (by omega) h6
     rwa [show a + (k - a) = k by omega] at this
  by_cases hui : u < i
  ·exact h2.all (key := key) (Q := fun c => c ≤ ka key y1 (a + v)) (by omega) (by omega) hall (a + u) (by omega) (by omega)
  ·have hu : ka key y' (a + u) = ka key y1 (a + u) := by unfold ka; rw [h2.out (a + u) (by omega)]
   rw [hu, kk, kk, if_neg (show ¬ a + v = a + i by omega), if_neg (show ¬ a + v = a by omega)]
   by_cases hui2 : u = i
   ·subst hui2
    rw [if_pos rfl, ← kx]; exact ht 0 v (by omega) (by omega) h6
   ·rw [if_neg (by omega), if_neg (by omega)]
    exact ht u v h4 (by omega) h6
theorem heap_ok {l : List T} {a b : Nat} (hk : Keyed p key l) (hab : a ≤ b) (hb : b ≤ l.length) (hl : l.length < 2 ^ 40) : ∃ l', slices_heapSortCmpFunc p l (a : Int) (b : Int) = some l' ∧ Seg l l' a b ∧ Asc key l' a b := by
 obtain ⟨n, rfl⟩ : ∃ n, b = a + n := ⟨b - a, by omega⟩
 have e1 : w64 (((a + n : Nat) : Int) - (a : Int)) = (n : Int) := w64_n (by omega) (by omega)
 have e2 : w64 ((n : Int) - 1) = (n : Int) - 1 := w64_id (by omega) (by omega)
 have hd : ∃ m : Nat, ((n : Int) - 1).tdiv 2 = (m : Int) - 1 ∧ n ≤ 2 * m ∧ m ≤ n + 1 := by
  cases n with
  | zero => exact ⟨1, rfl, by omega, by omega⟩
  | succ k =>
   rw [show ((k + 1 : Nat) : Int) - 1 = (k : Int) by omega, Int.tdiv_eq_ediv_of_nonneg (by omega)]
   exact ⟨k / 2 + 1, by omega, by omega, by omega⟩
 obtain ⟨m, hm0, hm2, hm3⟩ := hd
 have hm : quoK .i64 ((n : Int) - 1) 2 = some ((m : Int) - 1) := by
  unfold quoK
  rw [if_neg (by omega), hm0]
  have hw : IntKind.wrap .i64 ((m : Int) - 1) = (m : Int) - 1 := w64_id (x := (m : Int) - 1) (by omega) (by omega)
  rw [hw]
 obtain ⟨y1, h1, h2, h3⟩ := heap1 hk hb hl (a := a) (n := n) m l (by omega) (.refl ..) (fun q k h4 h5 h6 => by omega)
 obtain ⟨y2, h4, h5, h6⟩ := heap2 hk hb hl (a := a) (n := n) n y1 (Nat.le_refl _) h2 h3 (fun u v h4 h5 h6 => by omega)
 refine ⟨y2, ?_, h5, h6⟩
 unfold slices_heapSortCmpFunc
 simp only [e1, e2, hm, Option.bind_some, h1, h4]
theorem order2_ok {l : List T} (hk : Keyed p key l) {i j : Nat} (hi : i < l.length) (hj : j < l.length) (s : Int) :
  ∃ (i' j' : Nat) (s' : Int), slices_order2CmpFunc p l (i : Int) (j : Int) s = some ((i' : Int), (j' : Int), l, s') ∧ ((i' = i ∧ j' = j) ∨ (i' = j ∧ j' = i)) := by
 obtain ⟨x, hx⟩ := get_lt hi
 obtain ⟨z, hz⟩ := get_lt hj
 obtain ⟨c, hc, _⟩ := hk z (List.mem_of_getElem? hz) x (List.mem_of_getElem? hx)
 unfold slices_order2CmpFunc
 simp only [rd_nat, hx, hz, Option.bind_some, hc]
 by_cases h0 : c < 0
 ·exact ⟨j, i, _, by rw [if_pos h0], .inr ⟨rfl, rfl⟩⟩
 ·exact ⟨i, j, _, by rw [if_neg h0], .inl ⟨rfl, rfl⟩⟩
theorem median_ok {l : List T} (hk : Keyed p key l) {i j k : Nat} (hi : i < l.length) (hj : j < l.length) (hkk : k < l.length) (s : Int) :
  ∃ (m : Nat) (s' : Int), slices_medianCmpFunc p l (i : Int) (j : Int) (k : Int) s = some ((m : Int), l, s') ∧ (m = i ∨ m = j ∨ m = k) := by
 obtain ⟨a, b, s1, h1, e1⟩ := order2_ok hk hi hj s
 obtain ⟨c, d, s2, h2, e2⟩ := order2_ok hk (i := b) (j := k) (by omega) hkk s1
 obtain ⟨e, f, s3, h3, e3⟩ := order2_ok hk (i := a) (j := c) (by omega) (by omega) s2
 refine ⟨f, s3, ?_, by omega⟩
 unfold slices_medianCmpFunc
 simp only [h1, h2, h3, Option.bind_some, if_true]
theorem medianAdj_ok {l : List T} (hk : Keyed p key l) (hl : l.length < 2 ^ 40) {i : Nat} (h0 : 0 < i) (hi : i + 1 < l.length) (s : Int) :
  ∃ (m : Nat) (s' : Int), slices_medianAdjacentCmpFunc p l (i : Int) s = some ((m : Int), l, s') ∧ i - 1 ≤ m ∧ m ≤ i + 1 := by
 obtain ⟨m, s', h1, h2⟩ := median_ok hk (i := i - 1) (j := i) (k := i + 1) (by omega) (by omega) hi s
 refine ⟨m, s', ?_, by omega, by omega⟩
 unfold slices_medianAdjacentCmpFunc
 rw [w64_pred (by omega) h0, w64_succ (by omega), h1]
 simp only [Option.bind_some, if_true]
theorem pivot_ok {l : List T} {a b : Nat} (hk : Keyed p key l) (hab : a + 8 ≤ b) (hb : b ≤ l.length) (hl : l.length < 2 ^ 40) :
  ∃ (m : Nat) (h : Int), slices_choosePivotCmpFunc p l (a : Int) (b : Int) = some ((m : Int), h, l) ∧ a ≤ m ∧ m < b := by
 have e1 : w64 ((b : Int) - (a : Int)) = ((b - a : Nat) : Int) := w64_n (by omega) (by omega)
 obtain ⟨q, hq⟩ : ∃ q : Nat, q = (b - a) / 4 := ⟨_, rfl⟩
 have e2 : quoK .i64 ((b - a : Nat) : Int) 4 = some (q : Int) := by
  unfold quoK
  rw [if_neg (by omega), Int.tdiv_eq_ediv_of_nonneg (by omega)]
  have : ((b - a : Nat) : Int) / 4 = (q : Int) := by omega
  rw [this]
  exact congrArg some (w64_nat (by omega))
 have f1 : w64 ((q : Int) * 1) = (q : Int) := w64_n (by omega) (by omega)
 have f2 : w64 ((q : Int) * 2) = ((q * 2 : Nat) : Int) := w64_n (by omega) (by omega)
 have f3 : w64 ((q : Int) * 3) = ((q * 3 : Nat) : Int) := w64_n (by omega) (by omega)
 have g1 : w64 ((a : Int) + (q : Int)) = ((a + q : Nat) : Int) := w64_n (by omega) (by omega)
 have g2 : w64 ((a : Int) + ((q * 2 : Nat) : Int)) = ((a + q * 2 : Nat) : Int) := w64_n (by omega) (by omega)
 have g3 : w64 ((a : Int) + ((q * 3 : Nat) : Int)) = ((a + q * 3 : Nat) : Int) := w64_n (by omega) (by omega)
 unfold slices_choosePivotCmpFunc
 simp only [e1, e2, Option.bind_some, f1, f2, f3, g1, g2, g3]
 rw [if_pos (by omega)]
 have fin : ∀ (m : Nat) (s : Int), a ≤ m → m < b → ∃ (m' : Nat) (h : Int), (if s = 0 then some ((m : Int), (1 : Int), l) else if s = 12 then some ((m : Int), (2 : Int), l) else some ((m : Int), (0 : Int), l)) = some ((m' : Int), h, l) ∧ a ≤ m' ∧ m' < b := by
  intro m s h1 h2
  by_cases h3 : s = 0
  ·exact ⟨m, 1, by rw [if_pos h3], h1, h2⟩
  ·by_cases h4 : s = 12
   ·exact ⟨m, 2, by rw [if_neg h3, if_pos h4], h1, h2⟩
   ·exact ⟨m, 0, by rw [if_neg h3, if_neg h4], h1, h2⟩
 by_cases h50 : (50 : Int) ≤ ((b - a : Nat) : Int)
 ·rw [if_pos h50]
  obtain ⟨m1, s1, h1, k1⟩ := medianAdj_ok hk hl (i := a + q) (by omega) (by omega) 0
  obtain ⟨m2, s2, h2, k2⟩ := medianAdj_ok hk hl (i := a + q * 2) (by omega) (by omega) s1
  obtain ⟨m3, s3, h3, k3⟩ := medianAdj_ok hk hl (i := a + q * 3) (by omega) (by omega) s2
  obtain ⟨m, s, h4, k4⟩ := median_ok hk (i := m1) (j := m2) (k := m3) (by omega) (by omega) (by omega) s3
  simp only [h1, h2, h3, h4, Option.bind_some, if_true]
  exact fin m s (by omega) (by omega)
 ·rw [if_neg h50]
  obtain ⟨m, s, h4, k4⟩ := median_ok hk (i := a + q) (j := a + q * 2) (k := a + q * 3) (by omega) (by omega) (by omega) 0
  simp only [h4, Option.bind_some, if_true]
  exact fin m s (by omega) (by omega)
theorem rev_ok {l : List T} {a b : Nat} (hab : a ≤ b) (hb : b ≤ l.length) (hl : l.length < 2 ^ 40) : ∃ l', slices_reverseRangeCmpFunc p l (a : Int) (b : Int) = some l' ∧ Seg l l' a b := by
 have key1 : ∀ (d i j : Nat) (y : List T), j - i ≤ d → a ≤ i → j ≤ b → i ≤ 2 ^ 40 → Seg l y a b → ∃ (i' j' : Int) (y' : List T), iter (slices_reverseRangeCmpFunc_L0 p) ((i : Int), (j : Int) - 1, y) = some (.jmp 0 (i', j', y')) ∧ Seg l y' a b := by
  intro d
  induction d with
  | zero =>
   intro i j y h1 h2 h3 h4 hs
   exact ⟨_, _, y, iter_jmp (by simp only [slices_reverseRangeCmpFunc_L0]; rw [if_neg (by omega)]), hs⟩
  | succ d ih =>
   intro i j y h1 h2 h3 h4 hs
   have hyl := hs.len
   by_cases h : (i : Int) < (j : Int) - 1
   ·obtain ⟨x, hx⟩ := get_lt (l := y) (i := i) (by omega)
    obtain ⟨z, hz⟩ := get_lt (l := y) (i := j - 1) (by omega)
    obtain ⟨q, hq⟩ := get_lt (l := y.set i z) (i := j - 1) (by rw [List.length_set]; omega)
    have ej : (j : Int) - 1 = ((j - 1 : Nat) : Int) := by omega
    have hstep : slices_reverseRangeCmpFunc_L0 p ((i : Int), (j : Int) - 1, y) = some (.next (((i + 1 : Nat) : Int), ((j - 1 : Nat) : Int) - 1, (y.set i z).set (j - 1) x)) := by
     simp only [slices_reverseRangeCmpFunc_L0]
     rw [if_pos h, ej]
     simp only [rd_nat, hx, hz, Option.bind_some, Int.toNat_natCast, hq]
     rw [w64_succ (by omega), w64_id (by omega) (by omega)]
    rw [iter_next hstep]
    exact ih (i + 1) (j - 1) _ (by omega) (by omega) (by omega) (by omega) (hs.trans (Seg.swap hx hz (by omega) (by omega)))
   ·exact ⟨_, _, y, iter_jmp (by simp only [slices_reverseRangeCmpFunc_L0]; rw [if_neg h]), hs⟩
 obtain ⟨i', j', y', h1, h2⟩ := key1 (b - a) a b l (Nat.le_refl _) (Nat.le_refl _) (Nat.le_refl _) (by omega) (.refl ..)
 refine ⟨y', ?_, h2⟩
 unfold slices_reverseRangeCmpFunc
 rw [w64_id (by omega) (by omega), h1]
 rfl
def upStep (nj : Nat) (p : T → T → Option Int) (s1 s13 : Int) (y0 : List T) : Int → Option (Out Int (Int × Bool × List T)) := fun s12 =>
 if s12 ≤ s13 then (rd y0 s12).bind fun v => (rd y0 s1).bind fun w => (p v w).bind fun r => if r < (0 : Int) then some (.next (w64 (s12 + (1 : Int)))) else some (.jmp nj s12) else some (.jmp nj s12)
def dnStep (nj : Nat) (p : T → T → Option Int) (s1 s12 : Int) (y0 : List T) : Int → Option (Out Int (Int × Bool × List T)) := fun s13 =>
 if s12 ≤ s13 then (rd y0 s13).bind fun v => (rd y0 s1).bind fun w => (p v w).bind fun r => if r < (0 : Int) then some (.jmp nj s13) else some (.next (w64 (s13 - (1 : Int)))) else some (.jmp nj s13)
theorem up0 {s1 s13 : Int} {y0 : List T} : slices_partitionCmpFunc_L0 p s1 s13 y0 = upStep 0 p s1 s13 y0 := rfl
theorem up3 {s1 s13 : Int} {y0 : List T} : slices_partitionCmpFunc_L3 p s1 s13 y0 = upStep 6 p s1 s13 y0 := rfl
theorem dn1 {s1 s12 : Int} {y0 : List T} : slices_partitionCmpFunc_L1 p s1 s12 y0 = dnStep 2 p s1 s12 y0 := rfl
theorem dn4 {s1 s12 : Int} {y0 : List T} : slices_partitionCmpFunc_L4 p s1 s12 y0 = dnStep 8 p s1 s12 y0 := rfl
theorem up_ok {y : List T} {s J nj : Nat} {pv : T} (hk : Keyed p key y) (hs : y[s]? = some pv) (hJ : J ≤ y.length) (hl : y.length < 2 ^ 40) : ∀ (d i : Nat), i + d = J → ∃ i', iter (upStep nj p (s : Int) ((J : Int) - 1) y) (i : Int) = some (.jmp nj ((i' : Nat) : Int)) ∧ i ≤ i' ∧ i' ≤ J ∧ (∀ k, i ≤ k → k < i' → ka key y k < key pv) ∧ (i' < J → key pv ≤ ka key y i') := by
 intro d
 induction d with
 | zero =>
  intro i h
  exact ⟨i, iter_jmp (by simp only [upStep]; rw [if_neg (by omega)]), by omega, by omega, fun k h1 h2 => by omega, fun h1 => by omega⟩
 | succ d ih =>
  intro i h
  obtain ⟨x, hx⟩ := get_lt (l := y) (i := i) (by omega)
  obtain ⟨c, hc, hcc⟩ := hk x (List.mem_of_getElem? hx) pv (List.mem_of_getElem? hs)
  have kx := ka_some (key := key) hx
  have hstep : upStep nj p (s : Int) ((J : Int) - 1) y (i : Int) = if c < 0 then some (.next ((i + 1 : Nat) : Int)) else some (.jmp nj (i : Int)) := by
   simp only [upStep]
   rw [if_pos (by omega)]
   simp only [rd_nat, hx, hs, Option.bind_some, hc, w64_succ (show i < 2 ^ 62 by omega)]
  by_cases h0 : c < 0
  ·rw [if_pos h0] at hstep
   rw [iter_next hstep]
   obtain ⟨i', h1, h2, h3, h4, h5⟩ := ih (i + 1) (by omega)
   refine ⟨i', h1, by omega, h3, fun k h6 h7 => ?_, h5⟩
   by_cases hki : k = i
   ·subst hki; rw [kx]; exact hcc.1 h0
   ·exact h4 k (by omega) h7
  ·rw [if_neg h0] at hstep
   refine ⟨i, iter_jmp hstep, by omega, by omega, fun k h1 h2 => by omega, fun _ => ?_⟩
   have := mt hcc.2 h0
   rw [kx]; omega
theorem dn_ok {y : List T} {s i nj : Nat} {pv : T} (hk : Keyed p key y) (hs : y[s]? = some pv) (hl : y.length < 2 ^ 40) : ∀ (d J : Nat), i + d = J → J ≤ y.length → ∃ J' : Nat, iter (dnStep nj p (s : Int) (i : Int) y) ((J : Int) - 1) = some (.jmp nj ((J' : Int) - 1)) ∧ i ≤ J' ∧ J' ≤ J ∧ (∀ k, J' ≤ k → k < J → key pv ≤ ka key y k) ∧ (i < J' → ka key y (J' - 1) < key pv) := by
 intro d
 induction d with
 | zero =>
  intro J h hJ
  exact ⟨J, iter_jmp (by simp only [dnStep]; rw [if_neg (by omega)]), by omega, by omega, fun k h1 h2 => by omega, fun h1 => by omega⟩
 | succ d ih =>
  intro J h hJ
  obtain ⟨m, rfl⟩ : ∃ m, J = m + 1 := ⟨J - 1, by omega⟩
  obtain ⟨x, hx⟩ := get_lt (l := y) (i := m) (by omega)
  obtain ⟨c, hc, hcc⟩ := hk x (List.mem_of_getElem? hx) pv (List.mem_of_getElem? hs)
  have kx := ka_some (key := key) hx
  have hstep : dnStep nj p (s : Int) (i : Int) y (((m + 1 : Nat) : Int) - 1) = if c < 0 then some (.jmp nj (((m + 1 : Nat) : Int) - 1)) else some (.next ((m : Int) - 1)) := by
   rw [show ((m + 1 : Nat) : Int) - 1 = (m : Int) by omega]
   simp only [dnStep]
   rw [if_pos (by omega)]
   simp only [rd_nat, hx, hs, Option.bind_some, hc]
   rw [w64_id (by omega) (by omega)]
  by_cases h0 : c < 0
  ·rw [if_pos h0] at hstep
   refine ⟨m + 1, iter_jmp hstep, by omega, by omega, fun k h1 h2 => by omega, fun _ => ?_⟩
   rw [Nat.add_sub_cancel, kx]; exact hcc.1 h0
  ·rw [if_neg h0] at hstep
   rw [iter_next hstep]
   obtain ⟨J', h1, h2, h3, h4, h5⟩ := ih m (by omega) (by omega)
   refine ⟨J', h1, h2, by omega, fun k h6 h7 => ?_, h5⟩
   by_cases hkm : k = m
   ·subst hkm
    have := mt hcc.2 h0
    rw [kx]; omega
   ·exact h4 k h6 (by omega)
structure Part (key : T → Int) (l y : List T) (a b i J : Nat) (pv : T) : Prop where
 seg : Seg l y a b
 piv : y[a]? = some pv
 lo : ∀ k, a + 1 ≤ k → k < i → ka key y k < key pv
 hi : ∀ k, J ≤ k → k < b → key pv ≤ ka key y k
theorem part_loop {l : List T} {a b : Nat} {pv : T} (hk : Keyed p key l) (hb : b ≤ l.length) (hl : l.length < 2 ^ 40) : ∀ (d i J : Nat) (y : List T), J - i ≤ d → a + 1 ≤ i → i ≤ J → J ≤ b → Part key l y a b i J pv →
  ∃ (i' J' : Nat) (y' : List T), iter (slices_partitionCmpFunc_L2 p (a : Int)) ((i : Int), (J : Int) - 1, y) = some (.jmp 4 ((i' : Int), (J' : Int) - 1, y')) ∧ Part key l y' a b i' J' pv ∧ i' = J' ∧ a + 1 ≤ i' ∧ i' ≤ b := by
 intro d
 induction d with
 | zero =>
  intro i J y h1 h2 h3 h4 hp
  obtain rfl : i = J := by omega
  have hyl := hp.seg.len
  obtain ⟨i', e1, g1, g2, g3, g4⟩ := up_ok (nj := 6) (hk.seg hp.seg) hp.piv (J := i) (by omega) (by omega) 0 i rfl
  obtain rfl : i' = i := by omega
  obtain ⟨J', e2, g5, g6, g7, g8⟩ := dn_ok (nj := 8) (hk.seg hp.seg) hp.piv (i := i') (by omega) 0 i' rfl (by omega)
  obtain rfl : J' = i' := by omega
  refine ⟨J', J', y, iter_jmp ?_, hp, rfl, h2, h4⟩
  simp only [slices_partitionCmpFunc_L2, up3, e1, Option.bind_some, dn4, e2]
  rw [if_pos (by omega)]
 | succ d ih =>
  intro i J y h1 h2 h3 h4 hp
  have hyl := hp.seg.len
  obtain ⟨i', e1, g1, g2, g3, g4⟩ := up_ok (nj := 6) (hk.seg hp.seg) hp.piv (J := J) (by omega) (by omega) (J - i) i (by omega)
  obtain ⟨J', e2, g5, g6, g7, g8⟩ := dn_ok (nj := 8) (hk.seg hp.seg) hp.piv (i := i') (by omega) (J - i') J (by omega) (by omega)
  have hp1 : Part key l y a b i' J' pv := ⟨hp.seg, hp.piv, fun k k1 k2 => by
   by_cases hki : k < i
   ·exact hp.lo k k1 hki
   ·exact g3 k (by omega) k2, fun k k1 k2 => by
   by_cases hkJ : J ≤ k
   ·exact hp.hi k hkJ k2
   ·exact g7 k k1 (by omega)⟩
  by_cases hend : i' = J'
  ·refine ⟨i', J', y, iter_jmp ?_, hp1, hend, by omega, by omega⟩
   simp only [slices_partitionCmpFunc_L2, up3, e1, Option.bind_some, dn4, e2]
   rw [if_pos (by omega)]
  ·have hlt : i' < J' := by omega
   have hne : i' ≠ J' - 1 := by
    intro e
    have q1 := g4 (by omega)
    have q2 := g8 hlt
    rw [← e] at q2; omega
   obtain ⟨x, hx⟩ := get_lt (l := y) (i := i') (by omega)
   obtain ⟨z, hz⟩ := get_lt (l := y) (i := J' - 1) (by omega)
   obtain ⟨q, hq⟩ := get_lt (l := y.set i' z) (i := J' - 1) (by rw [List.length_set]; omega)
   have hget := swap_get hx hz
   have kx := ka_some (key := key) hx
   have kz := ka_some (key := key) hz
   have eJ : (J' : Int) - 1 = ((J' - 1 : Nat) : Int) := by omega
   have hstep : slices_partitionCmpFunc_L2 p (a : Int) ((i : Int), (J : Int) - 1, y) = some (.next (((i' + 1 : Nat) : Int), ((J' - 1 : Nat) : Int) - 1, (y.set i' z).set (J' - 1) x)) := by
    simp only [slices_partitionCmpFunc_L2, up3, e1, Option.bind_some, dn4, e2]
    rw [if_neg (by omega), eJ]
    simp only [rd_nat, hx, hz, Option.bind_some, Int.toNat_natCast, hq]
    rw [w64_succ (by omega), w64_id (by omega) (by omega)]
   have hsw := Seg.swap (a := a) (b := b) hx hz (by omega) (by omega)
   generalize hy1 : (y.set i' z).set (J' - 1) x = y1 at *
   have kk : ∀ k, ka key y1 k = if k = J' - 1 then key x else if k = i' then key z else ka key y k := by
    intro k
    unfold ka
    rw [hget k]
    split
    ·rfl
    ·split <;> rfl
   rw [iter_next hstep]
   have hpv1 : y1[a]? = some pv := by rw [hget, if_neg (by omega), if_neg (by omega)]; exact hp.piv
   exact ih (i' + 1) (J' - 1) y1 (by omega) (by omega) (by omega) (by omega) ⟨hp.seg.trans hsw, hpv1, fun k k1 k2 => by
    rw [kk, if_neg (by omega)]
    by_cases hki : k = i'
    ·rw [if_pos hki, ← kz]; exact g8 hlt
    ·rw [if_neg hki]; exact hp1.lo k k1 (by omega), fun k k1 k2 => by
    rw [kk]
    by_cases hkJ : k = J' - 1
    ·rw [if_pos hkJ, ← kx]; exact g4 (by omega)
    ·rw [if_neg hkJ, if_neg (by omega)]; exact hp1.hi k (by omega) k2⟩
end
end Xr

namespace Xr
open Go Go.Ev
set_option linter.unusedVariables false
section
variable {T : Type} {p : T → T → Option Int} {key : T → Int}
theorem part_fin {l y : List T} {a b m : Nat} {pv : T} (hp : Part key l y a b (m + 1) (m + 1) pv) (ha : a ≤ m) (hm : m < b) (hb : b ≤ l.length) :
  ∃ (w : T) (y' : List T), y[m]? = some w ∧ (∃ q, (y.set m pv)[a]? = some q) ∧ (y.set m pv).set a w = y' ∧ Seg l y' a b ∧ (∀ k, a ≤ k → k < m → ka key y' k < ka key y' m) ∧ (∀ k, m ≤ k → k < b → ka key y' m ≤ ka key y' k) := by
 have hyl := hp.seg.len
 obtain ⟨w, hw⟩ := get_lt (l := y) (i := m) (by omega)
 obtain ⟨q, hq⟩ := get_lt (l := y.set m pv) (i := a) (by rw [List.length_set]; omega)
 have hget := swap_get hw hp.piv
 have hsw := Seg.swap (a := a) (b := b) hw hp.piv (by omega) (by omega)
 have kw := ka_some (key := key) hw
 have kp := ka_some (key := key) hp.piv
 refine ⟨w, _, hw, ⟨q, hq⟩, rfl, hp.seg.trans hsw, ?_, ?_⟩
 all_goals
  generalize hy1 : (y.set m pv).set a w = y1 at *
  have kk : ∀ k, ka key y1 k = if k = a then key w else if k = m then key pv else ka key y k := by
   intro k
   unfold ka
   rw [hget k]
   split
   ·rfl
   ·split <;> rfl
  have km : ka key y1 m = key pv := by
   rw [kk]
   by_cases h : m = a
   ·rw [if_pos h]; subst h; rw [← kw, ← kp]
   ·rw [if_neg h, if_pos rfl]
  intro k k1 k2
  rw [km, kk]
 ·by_cases h : k = a
  ·rw [if_pos h, ← kw]; exact hp.lo m (by omega) (by omega)
  ·rw [if_neg h, if_neg (by omega)]; exact hp.lo k (by omega) (by omega)
 ·by_cases h : k = m
  ·subst h
   rw [← kk, km]; exact Int.le_refl _
  ·rw [if_neg (by omega), if_neg h]; exact hp.hi k (by omega) k2
theorem partition_ok {l : List T} {a b c : Nat} (hk : Keyed p key l) (hc1 : a ≤ c) (hc2 : c < b) (hb : b ≤ l.length) (hl : l.length < 2 ^ 40) :
  ∃ (m : Nat) (r : Bool) (l' : List T), slices_partitionCmpFunc p l (a : Int) (b : Int) (c : Int) = some ((m : Int), r, l') ∧ a ≤ m ∧ m < b ∧ Seg l l' a b ∧ (∀ k, a ≤ k → k < m → ka key l' k < ka key l' m) ∧ (∀ k, m ≤ k → k < b → ka key l' m ≤ ka key l' k) := by
 obtain ⟨x, hx⟩ := get_lt (l := l) (i := a) (by omega)
 obtain ⟨pv, hpv⟩ := get_lt (l := l) (i := c) (by omega)
 obtain ⟨q, hq⟩ := get_lt (l := l.set a pv) (i := c) (by rw [List.length_set]; omega)
 have hget := swap_get hx hpv
 have hsw := Seg.swap (a := a) (b := b) hx hpv (by omega) (by omega)
 have hb1 : w64 ((b : Int) - 1) = (b : Int) - 1 := w64_id (by omega) (by omega)
 unfold slices_partitionCmpFunc
 simp only [rd_nat, hx, hpv, hq, Option.bind_some, Int.toNat_natCast, hb1]
 rw [w64_succ (n := a) (by omega)]
 generalize hy0 : (l.set a pv).set c x = y at *
 have hyl := hsw.len
 have hya : y[a]? = some pv := by
  rw [hget]
  by_cases h : a = c
  ·subst h; rw [if_pos rfl]; rw [hx] at hpv; exact hpv
  ·rw [if_neg h, if_pos rfl]
 obtain ⟨i', e1, g1, g2, g3, g4⟩ := up_ok (nj := 0) (hk.seg hsw) hya (J := b) (by omega) (by omega) (b - (a + 1)) (a + 1) (by omega)
 obtain ⟨J', e2, g5, g6, g7, g8⟩ := dn_ok (nj := 2) (hk.seg hsw) hya (i := i') (by omega) (b - i') b (by omega) (by omega)
 have hp1 : Part key l y a b i' J' pv := ⟨hsw, hya, g3, g7⟩
 simp only [up0, e1, Option.bind_some, dn1, e2]
 by_cases hend : i' = J'
 ·obtain ⟨m, rfl⟩ : ∃ m, i' = m + 1 := ⟨i' - 1, by omega⟩
  subst hend
  obtain ⟨w, y', f1, ⟨q2, f2⟩, f3, f4, f5, f6⟩ := part_fin hp1 (by omega) (by omega) hb
  have eJ : ((m + 1 : Nat) : Int) - 1 = (m : Int) := by omega
  rw [if_pos (by omega), eJ]
  simp only [rd_nat, hya, f1, f2, Option.bind_some, Int.toNat_natCast, f3]
  exact ⟨m, true, y', rfl, by omega, by omega, f4, f5, f6⟩
 ·have hlt : i' < J' := by omega
  have hne : i' ≠ J' - 1 := by
   intro e
   have q1 := g4 (by omega)
   have q2 := g8 hlt
   rw [← e] at q2; omega
  obtain ⟨x1, hx1⟩ := get_lt (l := y) (i := i') (by omega)
  obtain ⟨z, hz⟩ := get_lt (l := y) (i := J' - 1) (by omega)
  obtain ⟨q1, hq1⟩ := get_lt (l := y.set i' z) (i := J' - 1) (by rw [List.length_set]; omega)
  have hget1 := swap_get hx1 hz
  have kx := ka_some (key := key) hx1
  have kz := ka_some (key := key) hz
  have eJ : (J' : Int) - 1 = ((J' - 1 : Nat) : Int) := by omega
  rw [if_neg (by omega), eJ]
  simp only [rd_nat, hx1, hz, hq1, Option.bind_some, Int.toNat_natCast]
  rw [w64_succ (by omega), w64_id (x := ((J' - 1 : Nat) : Int) - 1) (by omega) (by omega)]
  have hsw1 := Seg.swap (a := a) (b := b) hx1 hz (by omega) (by omega)
  generalize hy1 : (y.set i' z).set (J' - 1) x1 = y1 at *
  have kk : ∀ k, ka key y1 k = if k = J' - 1 then key x1 else if k = i' then key z else ka key y k := by
   intro k
   unfold ka
   rw [hget1 k]
   split
   ·rfl
   ·split <;> rfl
  have hpv1 : y1[a]? = some pv := by rw [hget1, if_neg (by omega), if_neg (by omega)]; exact hya
  obtain ⟨i2, J2, y2, e3, hp2, rfl, h7, h8⟩ := part_loop hk hb hl (J' - 1 - (i' + 1)) (i' + 1) (J' - 1) y1 (by omega) (by omega) (by omega) (by omega) ⟨hsw.trans hsw1, hpv1, fun k k1 k2 => by
    rw [kk, if_neg (by omega)]
    by_cases hki : k = i'
    ·rw [if_pos hki, ← kz]; exact g8 hlt
    ·rw [if_neg hki]; exact hp1.lo k k1 (by omega), fun k k1 k2 => by
    rw [kk]
    by_cases hkJ : k = J' - 1
    ·rw [if_pos hkJ, ← kx]; exact g4 (by omega)
    ·rw [if_neg hkJ, if_neg (by omega)]; exact hp1.hi k (by omega) k2⟩
  rw [e3]
  obtain ⟨m, rfl⟩ : ∃ m, i2 = m + 1 := ⟨i2 - 1, by omega⟩
  obtain ⟨w, y', f1, ⟨q2, f2⟩, f3, f4, f5, f6⟩ := part_fin hp2 (by omega) (by omega) hb
  have eJ2 : ((m + 1 : Nat) : Int) - 1 = (m : Int) := by omega
  rw [eJ2]
  simp only [rd_nat, hp2.piv, f1, f2, Option.bind_some, Int.toNat_natCast, f3]
  exact ⟨m, false, y', rfl, by omega, by omega, f4, f5, f6⟩
end
end Xr

namespace Xr
open Go Go.Ev
set_option linter.unusedVariables false
section
variable {T : Type} {p : T → T → Option Int} {key : T → Int}
theorem pis_scan {y : List T} {a b : Nat} (hk : Keyed p key y) (hb : b ≤ y.length) (hl : y.length < 2 ^ 40) (s1 s10 : Int) : ∀ (d i : Nat), i + d = b → 0 < i →
  ∃ i' : Nat, iter (slices_partialInsertionSortCmpFunc_L1 p s1 (b : Int) s10 y) (i : Int) = some (.jmp 2 (i' : Int)) ∧ i ≤ i' ∧ i' ≤ b ∧ (∀ k, i ≤ k → k < i' → ka key y (k - 1) ≤ ka key y k) := by
 intro d
 induction d with
 | zero =>
  intro i h h0
  exact ⟨i, iter_jmp (by simp only [slices_partialInsertionSortCmpFunc_L1]; rw [if_neg (by omega)]), by omega, by omega, fun k h1 h2 => by omega⟩
 | succ d ih =>
  intro i h h0
  obtain ⟨x, hx⟩ := get_lt (l := y) (i := i) (by omega)
  obtain ⟨z, hz⟩ := get_lt (l := y) (i := i - 1) (by omega)
  obtain ⟨c, hc, hcc⟩ := hk x (List.mem_of_getElem? hx) z (List.mem_of_getElem? hz)
  have kx := ka_some (key := key) hx
  have kz := ka_some (key := key) hz
  have hstep : slices_partialInsertionSortCmpFunc_L1 p s1 (b : Int) s10 y (i : Int) = if c < 0 then some (.jmp 2 (i : Int)) else some (.next ((i + 1 : Nat) : Int)) := by
   simp only [slices_partialInsertionSortCmpFunc_L1]
   rw [if_pos (by omega), w64_pred (by omega) h0]
   simp only [rd_nat, hx, hz, Option.bind_some, hc]
   rw [w64_succ (by omega)]
  by_cases hc0 : c < 0
  ·rw [if_pos hc0] at hstep
   exact ⟨i, iter_jmp hstep, by omega, by omega, fun k h1 h2 => by omega⟩
  ·rw [if_neg hc0] at hstep
   obtain ⟨i', e, g1, g2, g3⟩ := ih (i + 1) (by omega) (by omega)
   refine ⟨i', by rw [iter_next hstep]; exact e, by omega, g2, fun k h1 h2 => ?_⟩
   by_cases hki : k = i
   ·subst hki; rw [kx, kz]
    have := mt hcc.2 hc0
    omega
   ·exact g3 k (by omega) h2
theorem Seg.low {l m : List T} {a b : Nat} (h : Seg l m a b) (hab : a ≤ b) (hb : b ≤ l.length) (hlow : 0 < a → ∀ k, a ≤ k → k < b → ka key l (a - 1) ≤ ka key l k) : 0 < a → ∀ k, a ≤ k → k < b → ka key m (a - 1) ≤ ka key m k := by
 intro h0
 have e : ka key m (a - 1) = ka key l (a - 1) := by unfold ka; rw [h.out (a - 1) (by omega)]
 rw [e]
 exact h.all hab hb (Q := fun q => ka key l (a - 1) ≤ q) (hlow h0)
theorem pis_up {a b : Nat} (s1 s9 s10 : Int) : ∀ (d j : Nat) (y : List T), Keyed p key y → b ≤ y.length → y.length < 2 ^ 40 → a < j → j + d = b →
  ∃ (j' : Int) (y' : List T), iter (slices_partialInsertionSortCmpFunc_L3 p s1 (b : Int) s9 s10) ((j : Int), y) = some (.jmp 6 (j', y')) ∧ Seg y y' a b := by
 intro d
 induction d with
 | zero =>
  intro j y hk hb hl h1 h2
  exact ⟨_, y, iter_jmp (by simp only [slices_partialInsertionSortCmpFunc_L3]; rw [if_neg (by omega)]), Seg.refl _ _ _⟩
 | succ d ih =>
  intro j y hk hb hl h1 h2
  obtain ⟨x, hx⟩ := get_lt (l := y) (i := j) (by omega)
  obtain ⟨z, hz⟩ := get_lt (l := y) (i := j - 1) (by omega)
  obtain ⟨q, hq⟩ := get_lt (l := y.set j z) (i := j - 1) (by rw [List.length_set]; omega)
  obtain ⟨c, hc, hcc⟩ := hk x (List.mem_of_getElem? hx) z (List.mem_of_getElem? hz)
  have hstep : slices_partialInsertionSortCmpFunc_L3 p s1 (b : Int) s9 s10 ((j : Int), y) = if c < 0 then some (.next (((j + 1 : Nat) : Int), (y.set j z).set (j - 1) x)) else some (.jmp 6 ((j : Int), y)) := by
   simp only [slices_partialInsertionSortCmpFunc_L3]
   rw [if_pos (by omega), w64_pred (by omega) (by omega)]
   simp only [rd_nat, hx, hz, Option.bind_some, hc, Int.toNat_natCast, hq]
   rw [w64_succ (by omega)]
  by_cases hc0 : c < 0
  ·rw [if_pos hc0] at hstep
   have hsw := Seg.swap (a := a) (b := b) hx hz (by omega) (by omega)
   have hll := hsw.len
   obtain ⟨j', y', e, hs⟩ := ih (j + 1) _ (hk.seg hsw) (by omega) (by omega) (by omega) (by omega)
   exact ⟨j', y', by rw [iter_next hstep]; exact e, hsw.trans hs⟩
  ·rw [if_neg hc0] at hstep
   exact ⟨_, y, iter_jmp hstep, Seg.refl _ _ _⟩
theorem pis_down' {l : List T} {a b i : Nat} (hk : Keyed p key l) (hib : i < b) (hb : b ≤ l.length) (hl : l.length < 2 ^ 40) (hlow : 0 < a → ∀ k, a ≤ k → k < b → ka key l (a - 1) ≤ ka key l k) (s1 s2 s9 s10 : Int) : ∀ (j : Nat) (y : List T), a ≤ j → j ≤ i → Seg l y a b → Sink key y a i j →
  ∃ (j' : Int) (y' : List T), iter (slices_partialInsertionSortCmpFunc_L2 p s1 s2 s9 s10) ((j : Int), y) = some (.jmp 4 (j', y')) ∧ Seg l y' a b ∧ Asc key y' a (i + 1) := by
 intro j
 induction j with
 | zero =>
  intro y h1 h2 hs hq
  obtain rfl : a = 0 := by omega
  refine ⟨_, y, iter_jmp (by simp only [slices_partialInsertionSortCmpFunc_L2]; rw [if_neg (by omega)]), hs, fun u v hu huv hv => ?_⟩
  by_cases hu0 : u = 0
  ·subst hu0; exact hq.2 v (by omega) (by omega)
  ·exact hq.1 u v hu huv (by omega) (by omega) (by omega)
 | succ j ih =>
  intro y h1 h2 hs hq
  have hyl := hs.len
  obtain ⟨x, hx⟩ := get_lt (l := y) (i := j + 1) (by omega)
  obtain ⟨z, hz⟩ := get_lt (l := y) (i := j) (by omega)
  obtain ⟨q, hrd⟩ := get_lt (l := y.set (j + 1) z) (i := j) (by rw [List.length_set]; omega)
  obtain ⟨c, hc, hcc⟩ := hk.seg hs x (List.mem_of_getElem? hx) z (List.mem_of_getElem? hz)
  have kx := ka_some (key := key) hx
  have kz := ka_some (key := key) hz
  have hstep : slices_partialInsertionSortCmpFunc_L2 p s1 s2 s9 s10 (((j + 1 : Nat) : Int), y) = if c < 0 then some (.next ((j : Int), (y.set (j + 1) z).set j x)) else some (.jmp 4 (((j + 1 : Nat) : Int), y)) := by
   simp only [slices_partialInsertionSortCmpFunc_L2]
   rw [if_pos (by omega), w64_pred (by omega) (by omega), Nat.add_sub_cancel]
   simp only [rd_nat, hx, hz, Option.bind_some, hc, Int.toNat_natCast, hrd]
  by_cases h0 : c < 0
  ·rw [if_pos h0] at hstep
   rw [iter_next hstep]
   have hlt' := hcc.1 h0
   have haj : a ≤ j := by
    rcases Nat.lt_or_ge j a with h | h
    ·have ea : a = j + 1 := by omega
     have := hs.low (by omega) hb hlow (by omega) (j + 1) (by omega) (by omega)
     rw [ea, Nat.add_sub_cancel, kx, kz] at this
     omega
    ·exact h
   have hget := swap_get hx hz
   have kk : ∀ k, ka key ((y.set (j + 1) z).set j x) k = if k = j then key x else if k = j + 1 then key z else ka key y k := by
    intro k
    unfold ka
    rw [hget k]
    split
    ·rfl
    ·split <;> rfl
   refine ih _ (by omega) (by omega) (hs.trans (Seg.swap hx hz (by omega) (by omega))) ⟨fun u v hu huv hv hu' hv' => ?_, fun v hv hvi => ?_⟩
   ·rw [kk, kk, if_neg hu', if_neg hv']
    by_cases hv1 : v = j + 1
    ·rw [if_pos hv1, if_neg (by omega), ← kz]; exact hq.1 u j hu (by omega) (by omega) (by omega) (by omega)
    ·rw [if_neg hv1]
     by_cases hu1 : u = j + 1
     ·rw [if_pos hu1, ← kz]; exact hq.1 j v (by omega) (by omega) hv (by omega) (by omega)
     ·rw [if_neg hu1]; exact hq.1 u v hu huv hv (by omega) (by omega)
   ·rw [kk, kk, if_pos rfl, if_neg (by omega)]
    by_cases hv1 : v = j + 1
    ·rw [if_pos hv1]; omega
    ·rw [if_neg hv1, ← kx]; exact hq.2 v (by omega) hvi
  ·rw [if_neg h0] at hstep
   refine ⟨_, y, iter_jmp hstep, hs, fun u v hu huv hv => ?_⟩
   have hge : key z ≤ key x := by
    have := mt hcc.2 h0; omega
   by_cases hu1 : u = j + 1
   ·subst hu1; exact hq.2 v (by omega) (by omega)
   ·by_cases hv1 : v = j + 1
    ·subst hv1
     by_cases hu2 : u = j
     ·subst hu2; rw [kx, kz]; exact hge
     ·have := hq.1 u j hu (by omega) (by omega) (by omega) (by omega)
      rw [kx]; rw [kz] at this; omega
    ·exact hq.1 u v hu huv (by omega) hu1 hv1
theorem asc_adj {y : List T} {a i i' : Nat} (h : Asc key y a i) (hai : a < i) (g : ∀ k, i ≤ k → k < i' → ka key y (k - 1) ≤ ka key y k) : Asc key y a i' := by
 intro u v hu huv hv
 induction v with
 | zero => omega
 | succ v ih =>
  by_cases h1 : v + 1 < i
  ·exact h u (v + 1) hu huv h1
  ·have h2 := g (v + 1) (by omega) hv
   rw [Nat.add_sub_cancel] at h2
   by_cases h3 : u = v
   ·subst h3; exact h2
   ·exact Int.le_trans (ih (by omega) (by omega)) h2
theorem pis_loop {l : List T} {a b : Nat} (hk : Keyed p key l) (hb : b ≤ l.length) (hl : l.length < 2 ^ 40) (hlow : 0 < a → ∀ k, a ≤ k → k < b → ka key l (a - 1) ≤ ka key l k) : ∀ (d n : Nat), n + d = 5 → ∀ (i : Nat) (y : List T), a + 1 ≤ i → i ≤ b → Seg l y a b → Asc key y a i →
  (∃ (i' : Int) (n' : Int) (y' : List T), iter (slices_partialInsertionSortCmpFunc_L0 p (a : Int) (b : Int)) ((i : Int), (n : Int), y) = some (.jmp 0 (i', n', y')) ∧ Seg l y' a b) ∨
  (∃ (r : Bool) (y' : List T), iter (slices_partialInsertionSortCmpFunc_L0 p (a : Int) (b : Int)) ((i : Int), (n : Int), y) = some (.ret (r, y')) ∧ Seg l y' a b ∧ (r = true → Asc key y' a b)) := by
 intro d
 induction d with
 | zero =>
  intro n hn i y h1 h2 hs ha
  exact .inl ⟨_, _, y, iter_jmp (by simp only [slices_partialInsertionSortCmpFunc_L0]; rw [if_neg (by omega)]), hs⟩
 | succ d ih =>
  intro n hn i y h1 h2 hs ha
  have hyl := hs.len
  obtain ⟨m, e1, g1, g2, g3⟩ := pis_scan (y := y) (a := a) (b := b) (hk.seg hs) (by omega) (by omega) (a : Int) (n : Int) (b - i) i (by omega) (by omega)
  have hasc := asc_adj ha (by omega) g3
  have hba : w64 ((b : Int) - (a : Int)) = (b : Int) - a := w64_id (by omega) (by omega)
  by_cases hmb : m = b
  ·refine .inr ⟨true, y, iter_ret ?_, hs, fun _ => hmb ▸ hasc⟩
   simp only [slices_partialInsertionSortCmpFunc_L0]
   rw [if_pos (by omega), e1]
   simp only [Option.bind_some]
   rw [if_pos (by omega)]
  by_cases hsh : (b : Int) - a < 50
  ·refine .inr ⟨false, y, iter_ret ?_, hs, fun h => nomatch h⟩
   simp only [slices_partialInsertionSortCmpFunc_L0]
   rw [if_pos (by omega), e1]
   simp only [Option.bind_some]
   rw [if_neg (by omega), hba, if_pos hsh]
  obtain ⟨x, hx⟩ := get_lt (l := y) (i := m) (by omega)
  obtain ⟨z, hz⟩ := get_lt (l := y) (i := m - 1) (by omega)
  obtain ⟨q, hq⟩ := get_lt (l := y.set m z) (i := m - 1) (by rw [List.length_set]; omega)
  have hsw := Seg.swap (a := a) (b := b) hx hz (by omega) (by omega)
  have hget := swap_get hx hz
  generalize hy1 : (y.set m z).set (m - 1) x = y1 at *
  have hs1 := hs.trans hsw
  have hd : ∃ (y2 : List T), Seg l y2 a b ∧ Asc key y2 a m ∧ (if (2 : Int) ≤ (m : Int) - a then ∃ j' : Int, iter (slices_partialInsertionSortCmpFunc_L2 p (a : Int) (b : Int) (m : Int) (n : Int)) (((m - 1 : Nat) : Int), y1) = some (.jmp 4 (j', y2)) else y2 = y1) := by
   by_cases h2m : (2 : Int) ≤ (m : Int) - a
   ·obtain ⟨j', y2, f1, f2, f3⟩ := pis_down' hk (i := m - 1) (by omega) hb hl hlow (a : Int) (b : Int) (m : Int) (n : Int) (m - 1) y1 (by omega) (by omega) hs1 ⟨fun u v hu huv hv hu' hv' => by
     have w : ∀ k, k < m - 1 → ka key y1 k = ka key y k := by
      intro k hk'
      unfold ka
      rw [hget k, if_neg (by omega), if_neg (by omega)]
     rw [w u (by omega), w v (by omega)]
     exact hasc u v hu huv (by omega), fun v hv hv' => by omega⟩
    rw [show m - 1 + 1 = m by omega] at f3
    exact ⟨y2, f2, f3, by rw [if_pos h2m]; exact ⟨j', f1⟩⟩
   ·exact ⟨y1, hs1, fun u v hu huv hv => by omega, by rw [if_neg h2m]⟩
  obtain ⟨y2, f1, f2, f3⟩ := hd
  have hy2 := f1.len
  have hu : ∃ (y3 : List T), Seg l y3 a b ∧ Asc key y3 a m ∧ (if (2 : Int) ≤ (b : Int) - m then ∃ j' : Int, iter (slices_partialInsertionSortCmpFunc_L3 p (a : Int) (b : Int) (m : Int) (n : Int)) (((m + 1 : Nat) : Int), y2) = some (.jmp 6 (j', y3)) else y3 = y2) := by
   by_cases h2m : (2 : Int) ≤ (b : Int) - m
   ·obtain ⟨j', y3, k1, k2⟩ := pis_up (a := m) (b := b) (a : Int) (m : Int) (n : Int) (b - (m + 1)) (m + 1) y2 (hk.seg f1) (by omega) (by omega) (by omega) (by omega)
    refine ⟨y3, f1.trans (k2.mono (by omega) (Nat.le_refl _)), fun u v hu huv hv => ?_, by rw [if_pos h2m]; exact ⟨j', k1⟩⟩
    have w : ∀ k, k < m → ka key y3 k = ka key y2 k := by
     intro k hk'
     unfold ka
     rw [k2.out k (by omega)]
    rw [w u (by omega), w v hv]
    exact f2 u v hu huv hv
   ·exact ⟨y2, f1, f2, by rw [if_neg h2m]⟩
  obtain ⟨y3, k1, k2, k3⟩ := hu
  have hstep : slices_partialInsertionSortCmpFunc_L0 p (a : Int) (b : Int) ((i : Int), (n : Int), y) = some (.next ((m : Int), ((n + 1 : Nat) : Int), y3)) := by
   simp only [slices_partialInsertionSortCmpFunc_L0]
   rw [if_pos (by omega), e1]
   simp only [Option.bind_some]
   rw [if_neg (by omega), hba, if_neg hsh, w64_pred (by omega) (by omega)]
   simp only [rd_nat, hx, hz, hq, Option.bind_some, Int.toNat_natCast]
   rw [hy1, w64_id (x := (m : Int) - (a : Int)) (by omega) (by omega), w64_id (x := (b : Int) - (m : Int)) (by omega) (by omega), w64_succ (n := n) (by omega), w64_succ (n := m) (by omega)]
   by_cases h2m : (2 : Int) ≤ (m : Int) - a <;> by_cases h2b : (2 : Int) ≤ (b : Int) - m
   all_goals simp only [h2m, h2b, if_true, if_false] at f3 k3 ⊢
   ·obtain ⟨j1, f3⟩ := f3; obtain ⟨j2, k3⟩ := k3
    simp only [f3, k3, Option.bind_some]
   ·obtain ⟨j1, f3⟩ := f3
    simp only [f3, k3, Option.bind_some]
   ·obtain ⟨j2, k3⟩ := k3
    subst f3
    simp only [k3, Option.bind_some]
   ·subst f3; subst k3; rfl
  rw [iter_next hstep]
  exact ih (n + 1) (by omega) m y3 (by omega) (by omega) k1 k2
theorem pis_ok {l : List T} {a b : Nat} (hk : Keyed p key l) (hab : a < b) (hb : b ≤ l.length) (hl : l.length < 2 ^ 40) (hlow : 0 < a → ∀ k, a ≤ k → k < b → ka key l (a - 1) ≤ ka key l k) :
  ∃ (r : Bool) (l' : List T), slices_partialInsertionSortCmpFunc p l (a : Int) (b : Int) = some (r, l') ∧ Seg l l' a b ∧ (r = true → Asc key l' a b) := by
 unfold slices_partialInsertionSortCmpFunc
 rw [w64_succ (n := a) (by omega)]
 rcases pis_loop hk hb hl hlow 5 0 rfl (a + 1) l (by omega) (by omega) (Seg.refl _ _ _) (fun u v hu huv hv => by omega) with ⟨i', n', y', e, hs⟩ | ⟨r, y', e, hs, hr⟩
 ·have e' : iter (slices_partialInsertionSortCmpFunc_L0 p (a : Int) (b : Int)) (((a + 1 : Nat) : Int), (0 : Int), l) = _ := e
  rw [e']; exact ⟨false, y', rfl, hs, fun h => nomatch h⟩
 ·have e' : iter (slices_partialInsertionSortCmpFunc_L0 p (a : Int) (b : Int)) (((a + 1 : Nat) : Int), (0 : Int), l) = _ := e
  rw [e']; exact ⟨r, y', rfl, hs, hr⟩
end
end Xr

namespace Xr
open Go Go.Ev
set_option linter.unusedVariables false
theorem wrap_u64_id {x : Int} (h1 : 0 ≤ x) (h2 : x < 18446744073709551616) : IntKind.wrap .u64 x = x := by
 change (if (false && decide (x % 18446744073709551616 ≥ 9223372036854775808)) = true then x % 18446744073709551616 - 18446744073709551616 else x % 18446744073709551616) = x
 rw [Bool.false_and, if_neg (by decide), Int.emod_eq_of_lt h1 h2]
theorem wrap_u8_id {x : Int} (h1 : 0 ≤ x) (h2 : x < 256) : IntKind.wrap .u8 x = x := by
 change (if (false && decide (x % 256 ≥ 128)) = true then x % 256 - 256 else x % 256) = x
 rw [Bool.false_and, if_neg (by decide), Int.emod_eq_of_lt h1 h2]
theorem andK_le (x y : Int) (h1 : 0 ≤ y) (h2 : y < 18446744073709551616) : 0 ≤ andK .u64 x y ∧ andK .u64 x y ≤ y := by
 have e : andK .u64 x y = IntKind.wrap .u64 ((BitVec.ofInt 64 x &&& BitVec.ofInt 64 y).toNat : Int) := rfl
 have h3 : (BitVec.ofInt 64 x &&& BitVec.ofInt 64 y).toNat ≤ y.toNat := by
  rw [BitVec.toNat_and]
  refine Nat.le_trans Nat.and_le_right ?_
  rw [BitVec.toNat_ofInt]
  omega
 rw [e, wrap_u64_id (by omega) (by omega)]
 omega
def tabOk (s : ByteArray) : Bool := (List.range 256).all fun k => match s[k]? with | some b => decide (k < 2 ^ b.toNat) && (decide (k = 0) || decide (2 ^ b.toNat ≤ 2 * k)) && decide (b.toNat ≤ 8) | none => false
theorem tab_ok {s : ByteArray} (h : tabOk s = true) {k : Nat} (hk : k < 256) : ∃ b : Nat, bt s (k : Int) = some (b : Int) ∧ k < 2 ^ b ∧ (k ≠ 0 → 2 ^ b ≤ 2 * k) ∧ b ≤ 8 := by
 have := List.all_eq_true.1 h k (List.mem_range.2 hk)
 cases hs : s[k]? with
 | none => rw [hs] at this; cases this
 | some b =>
  rw [hs] at this
  simp only [Bool.and_eq_true, Bool.or_eq_true, decide_eq_true_eq] at this
  refine ⟨b.toNat, ?_, this.1.1, fun h0 => ?_, this.2⟩
  ·unfold bt
   rw [if_pos (by omega), Int.toNat_natCast, hs]; rfl
  ·rcases this.1.2 with h2 | h2
   ·exact absurd h2 h0
   ·exact h2
theorem len64_ok {n : Nat} (h1 : 8 ≤ n) (h2 : n < 65536) : ∃ k : Nat, math_bits_Len64 (n : Int) = some (k : Int) ∧ n < 2 ^ k ∧ 2 ^ k ≤ 2 * n ∧ k ≤ 16 := by
 unfold math_bits_Len64
 rw [if_neg (by omega), if_neg (by omega)]
 generalize hT : ByteArray.mk _ = tb
 have ht : tabOk tb = true := by rw [← hT]; decide +kernel
 clear hT
 by_cases h3 : (256 : Int) ≤ (n : Int)
 ·rw [if_pos h3]
  have e1 : shrK .u64 (n : Int) 8 = some ((n / 256 : Nat) : Int) := by
   unfold shrK
   rw [if_neg (by omega)]
   have : (2 : Int) ^ (min (8 : Int).toNat (IntKind.bits .u64)) = 256 := by decide
   rw [this, Int.fdiv_eq_ediv_of_nonneg _ (by omega)]
   rfl
  obtain ⟨b, g1, g2, g3, g4⟩ := tab_ok ht (k := n / 256) (by omega)
  rw [e1, Option.bind_some, wrap_u8_id (by omega) (by omega), g1, Option.bind_some]
  have e2 : IntKind.wrap .i64 (b : Int) = (b : Int) := w64_id (by omega) (by omega)
  refine ⟨8 + b, ?_, ?_, ?_, by omega⟩
  ·rw [e2]
   have e3 : w64 ((0 : Int) + 8) = 8 := w64_id (by omega) (by omega)
   rw [e3]
   exact congrArg some (w64_n (by omega) (by omega))
  ·rw [Nat.pow_add]; omega
  ·have := g3 (by omega)
   rw [Nat.pow_add]; omega
 ·rw [if_neg h3]
  obtain ⟨b, g1, g2, g3, g4⟩ := tab_ok ht (k := n) (by omega)
  rw [wrap_u8_id (by omega) (by omega), g1, Option.bind_some]
  have e2 : IntKind.wrap .i64 (b : Int) = (b : Int) := w64_id (by omega) (by omega)
  refine ⟨b, ?_, g2, g3 (by omega), by omega⟩
  rw [e2]
  exact congrArg some (w64_n (by omega) (by omega))
theorem len_some (n : Nat) (h2 : n < 65536) : ∃ k : Int, math_bits_Len (n : Int) = some k := by
 unfold math_bits_Len
 by_cases h8 : 8 ≤ n
 ·obtain ⟨k, h, _⟩ := len64_ok h8 h2
  exact ⟨(k : Int), by rw [h]; rfl⟩
 ·unfold math_bits_Len64
  rw [if_neg (by omega), if_neg (by omega), if_neg (by omega)]
  generalize hT : ByteArray.mk _ = tb
  have ht : tabOk tb = true := by rw [← hT]; decide +kernel
  clear hT
  obtain ⟨b, g1, _⟩ := tab_ok ht (k := n) (by omega)
  rw [wrap_u8_id (by omega) (by omega), g1]
  exact ⟨_, rfl⟩
theorem pow2_ok {n : Nat} (h1 : 8 ≤ n) (h2 : n < 65536) : ∃ m : Nat, slices_nextPowerOfTwo (n : Int) = some (m : Int) ∧ n < m ∧ m ≤ 2 * n := by
 obtain ⟨k, e, g1, g2, g3⟩ := len64_ok h1 h2
 refine ⟨2 ^ k, ?_, g1, g2⟩
 unfold slices_nextPowerOfTwo math_bits_Len
 rw [wrap_u64_id (by omega) (by omega), e]
 simp only [Option.bind_some]
 have e2 : shlK .u64 1 (k : Int) = some (((2 ^ k : Nat) : Int)) := by
  unfold shlK
  rw [if_neg (by omega)]
  have h4 : min (k : Int).toNat (IntKind.bits .u64) = k := by
   rw [Int.toNat_natCast]; exact Nat.min_eq_left (by have : IntKind.bits .u64 = 64 := rfl; omega)
  have h5 : (1 : Int) * 2 ^ k = ((2 ^ k : Nat) : Int) := by rw [Int.one_mul]; exact (Int.natCast_pow 2 k).symm
  rw [h4, h5, wrap_u64_id (by omega) (by omega)]
 rw [e2]; rfl
section
variable {T : Type} {p : T → T → Option Int} {key : T → Int}
theorem xorshift_ok (x : Int) : ∃ r : Int × Int, slices_xorshift_Next x = some r := by
 unfold slices_xorshift_Next
 simp only [shlK, shrK]
 rw [if_neg (by omega), Option.bind_some, if_neg (by omega), Option.bind_some, if_neg (by omega), Option.bind_some]
 exact ⟨_, rfl⟩
theorem exch {y : List T} {a b i j : Nat} (hb : b ≤ y.length) (hi : a ≤ i ∧ i < b) (hj : a ≤ j ∧ j < b) : ∃ (x z q : T), y[j]? = some z ∧ y[i]? = some x ∧ (y.set i z)[j]? = some q ∧ Seg y ((y.set i z).set j x) a b := by
 obtain ⟨x, hx⟩ := get_lt (l := y) (i := i) (by omega)
 obtain ⟨z, hz⟩ := get_lt (l := y) (i := j) (by omega)
 obtain ⟨q, hq⟩ := get_lt (l := y.set i z) (i := j) (by rw [List.length_set]; omega)
 exact ⟨x, z, q, hz, hx, hq, Seg.swap hx hz hi hj⟩
theorem brk_step {y : List T} {a n m i : Nat} {q : Nat} (w : Int) (hb : a + n ≤ y.length) (hl : y.length < 65536) (hq : q = n / 4) (hm1 : n < m) (hm2 : m ≤ 2 * n) (h8 : 8 ≤ n) (hi1 : a ≤ i) (hi2 : i ≤ a + q * 2 + 1) :
  ∃ (y' : List T) (w' : Int), slices_breakPatternsCmpFunc_L0 p (a : Int) (n : Int) (m : Int) ((i : Int), y, w) = some (.next (((i + 1 : Nat) : Int), y', w')) ∧ Seg y y' a (a + n) := by
 have e2 : quoK .i64 (n : Int) 4 = some (q : Int) := by
  unfold quoK
  rw [if_neg (by omega), Int.tdiv_eq_ediv_of_nonneg (by omega)]
  have : (n : Int) / 4 = (q : Int) := by omega
  rw [this]
  exact congrArg some (w64_nat (by omega))
 obtain ⟨r, hr⟩ := xorshift_ok w
 have f1 : w64 ((q : Int) * 2) = ((q * 2 : Nat) : Int) := w64_n (by omega) (by omega)
 have f2 : w64 ((a : Int) + ((q * 2 : Nat) : Int)) = ((a + q * 2 : Nat) : Int) := w64_n (by omega) (by omega)
 have f3 : w64 (((a + q * 2 : Nat) : Int) + 1) = ((a + q * 2 + 1 : Nat) : Int) := w64_n (by omega) (by omega)
 simp only [slices_breakPatternsCmpFunc_L0, e2, Option.bind_some, f1, f2, f3, hr]
 rw [if_pos (by omega)]
 have g1 : IntKind.wrap .u64 ((m : Int) - 1) = (m : Int) - 1 := wrap_u64_id (by omega) (by omega)
 rw [g1]
 obtain ⟨k1, k2⟩ := andK_le r.1 ((m : Int) - 1) (by omega) (by omega)
 generalize andK .u64 r.1 ((m : Int) - 1) = v at *
 have g2 : IntKind.wrap .i64 v = v := w64_id (by omega) (by omega)
 rw [g2]
 have fin : ∀ j : Nat, a ≤ j → j < a + n → ∃ (y' : List T) (w' : Int), ((rd y (j : Int)).bind fun v48 => (rd y (i : Int)).bind fun v51 => (rd (y.set (i : Int).toNat v48) (j : Int)).bind fun v56 =>
   some (Out.next (w64 ((i : Int) + (1 : Int)), ((y.set (i : Int).toNat v48).set (j : Int).toNat v51), r.2) : Out (Int × List T × Int) (List T))) = some (.next (((i + 1 : Nat) : Int), y', w')) ∧ Seg y y' a (a + n) := by
  intro j hj1 hj2
  obtain ⟨x, z, q', h1, h2, h3, h4⟩ := exch hb (i := i) (j := j) ⟨hi1, by omega⟩ ⟨hj1, hj2⟩
  refine ⟨_, r.2, ?_, h4⟩
  simp only [rd_nat, h1, h2, Option.bind_some, Int.toNat_natCast, h3]
  rw [w64_succ (by omega)]
 by_cases hv : (n : Int) ≤ v
 ·rw [if_pos hv]
  have g3 : w64 (v - (n : Int)) = ((v.toNat - n : Nat) : Int) := w64_n (by omega) (by omega)
  have g4 : w64 ((a : Int) + ((v.toNat - n : Nat) : Int)) = ((a + (v.toNat - n) : Nat) : Int) := w64_n (by omega) (by omega)
  rw [g3, g4]
  exact fin _ (by omega) (by omega)
 ·rw [if_neg hv]
  have g4 : w64 ((a : Int) + v) = ((a + v.toNat : Nat) : Int) := w64_n (by omega) (by omega)
  rw [g4]
  exact fin _ (by omega) (by omega)
theorem brk_ok {l : List T} {a b : Nat} (hab : a + 8 ≤ b) (hb : b ≤ l.length) (hl : l.length < 65536) : ∃ l', slices_breakPatternsCmpFunc p l (a : Int) (b : Int) = some l' ∧ Seg l l' a b := by
 obtain ⟨n, rfl⟩ : ∃ n, b = a + n := ⟨b - a, by omega⟩
 have h8 : 8 ≤ n := by omega
 have e1 : w64 (((a + n : Nat) : Int) - (a : Int)) = (n : Int) := w64_n (by omega) (by omega)
 obtain ⟨m, hm, hm1, hm2⟩ := pow2_ok (n := n) h8 (by omega)
 obtain ⟨q, hq⟩ : ∃ q, q = n / 4 := ⟨_, rfl⟩
 have e2 : quoK .i64 (n : Int) 4 = some (q : Int) := by
  unfold quoK
  rw [if_neg (by omega), Int.tdiv_eq_ediv_of_nonneg (by omega)]
  have : (n : Int) / 4 = (q : Int) := by omega
  rw [this]
  exact congrArg some (w64_nat (by omega))
 have f1 : w64 ((q : Int) * 2) = ((q * 2 : Nat) : Int) := w64_n (by omega) (by omega)
 have f2 : w64 ((a : Int) + ((q * 2 : Nat) : Int)) = ((a + q * 2 : Nat) : Int) := w64_n (by omega) (by omega)
 have f3 : w64 (((a + q * 2 : Nat) : Int) - 1) = ((a + q * 2 - 1 : Nat) : Int) := w64_n (by omega) (by omega)
 have key1 : ∀ (d i : Nat) (y : List T) (w : Int), i + d = a + q * 2 + 2 → a ≤ i → Seg l y a (a + n) →
   ∃ (i' w' : Int) (y' : List T), iter (slices_breakPatternsCmpFunc_L0 p (a : Int) (n : Int) (m : Int)) ((i : Int), y, w) = some (.jmp 0 (i', y', w')) ∧ Seg l y' a (a + n) := by
  intro d
  induction d with
  | zero =>
   intro i y w h1 h2 h3
   refine ⟨(i : Int), w, y, iter_jmp ?_, h3⟩
   have f3 : w64 (((a + q * 2 : Nat) : Int) + 1) = ((a + q * 2 + 1 : Nat) : Int) := w64_n (by omega) (by omega)
   simp only [slices_breakPatternsCmpFunc_L0, e2, Option.bind_some, f1, f2, f3]
   rw [if_neg (by omega)]
  | succ d ih =>
   intro i y w h1 h2 h3
   have hlen := h3.len
   obtain ⟨y', w', g1, g2⟩ := brk_step (p := p) (y := y) (a := a) (n := n) (m := m) (i := i) (q := q) w (by omega) (by omega) hq hm1 hm2 h8 h2 (by omega)
   rw [iter_next g1]
   exact ih (i + 1) y' w' (by omega) (by omega) (h3.trans g2)
 obtain ⟨i', w', y', h1, h2⟩ := key1 3 (a + q * 2 - 1) l (IntKind.wrap .u64 (n : Int)) (by omega) (by omega) (.refl ..)
 refine ⟨y', ?_, h2⟩
 unfold slices_breakPatternsCmpFunc
 simp only [e1]
 rw [if_pos (by omega), hm, Option.bind_some, e2, Option.bind_some, f1, f2, f3, h1]
 rfl
end
end Xr

namespace Xr
open Go Go.Ev
set_option linter.unusedVariables false
section
variable {T : Type} {p : T → T → Option Int} {key : T → Int}
theorem upE_ok {y : List T} {s J : Nat} {pv : T} (hk : Keyed p key y) (hs : y[s]? = some pv) (hJ : J ≤ y.length) (hl : y.length < 2 ^ 40) : ∀ (d i : Nat), i + d = J → ∃ i' : Nat, iter (slices_partitionEqualCmpFunc_L1 p (s : Int) ((J : Int) - 1) y) (i : Int) = some (.jmp 2 (i' : Int)) ∧ i ≤ i' ∧ i' ≤ J ∧ (∀ k, i ≤ k → k < i' → ka key y k ≤ key pv) ∧ (i' < J → key pv < ka key y i') := by
 intro d
 induction d with
 | zero =>
  intro i h
  exact ⟨i, iter_jmp (by simp only [slices_partitionEqualCmpFunc_L1]; rw [if_neg (by omega)]), by omega, by omega, fun k h1 h2 => by omega, fun h1 => by omega⟩
 | succ d ih =>
  intro i h
  obtain ⟨x, hx⟩ := get_lt (l := y) (i := i) (by omega)
  obtain ⟨c, hc, hcc⟩ := hk pv (List.mem_of_getElem? hs) x (List.mem_of_getElem? hx)
  have kx := ka_some (key := key) hx
  have hstep : slices_partitionEqualCmpFunc_L1 p (s : Int) ((J : Int) - 1) y (i : Int) = if c < 0 then some (.jmp 2 (i : Int)) else some (.next ((i + 1 : Nat) : Int)) := by
   simp only [slices_partitionEqualCmpFunc_L1]
   rw [if_pos (by omega)]
   simp only [rd_nat, hx, hs, Option.bind_some, hc, w64_succ (show i < 2 ^ 62 by omega)]
  by_cases h0 : c < 0
  ·rw [if_pos h0] at hstep
   refine ⟨i, iter_jmp hstep, by omega, by omega, fun k h1 h2 => by omega, fun _ => ?_⟩
   rw [kx]; exact hcc.1 h0
  ·rw [if_neg h0] at hstep
   rw [iter_next hstep]
   obtain ⟨i', h1, h2, h3, h4, h5⟩ := ih (i + 1) (by omega)
   refine ⟨i', h1, by omega, h3, fun k h6 h7 => ?_, h5⟩
   by_cases hki : k = i
   ·subst hki
    have := mt hcc.2 h0
    rw [kx]; omega
   ·exact h4 k (by omega) h7
theorem dnE_ok {y : List T} {s i : Nat} {pv : T} (hk : Keyed p key y) (hs : y[s]? = some pv) (hl : y.length < 2 ^ 40) : ∀ (d J : Nat), i + d = J → J ≤ y.length → ∃ J' : Nat, iter (slices_partitionEqualCmpFunc_L2 p (s : Int) (i : Int) y) ((J : Int) - 1) = some (.jmp 4 ((J' : Int) - 1)) ∧ i ≤ J' ∧ J' ≤ J ∧ (∀ k, J' ≤ k → k < J → key pv < ka key y k) ∧ (i < J' → ka key y (J' - 1) ≤ key pv) := by
 intro d
 induction d with
 | zero =>
  intro J h hJ
  exact ⟨J, iter_jmp (by simp only [slices_partitionEqualCmpFunc_L2]; rw [if_neg (by omega)]), by omega, by omega, fun k h1 h2 => by omega, fun h1 => by omega⟩
 | succ d ih =>
  intro J h hJ
  obtain ⟨m, rfl⟩ : ∃ m, J = m + 1 := ⟨J - 1, by omega⟩
  obtain ⟨x, hx⟩ := get_lt (l := y) (i := m) (by omega)
  obtain ⟨c, hc, hcc⟩ := hk pv (List.mem_of_getElem? hs) x (List.mem_of_getElem? hx)
  have kx := ka_some (key := key) hx
  have hstep : slices_partitionEqualCmpFunc_L2 p (s : Int) (i : Int) y (((m + 1 : Nat) : Int) - 1) = if c < 0 then some (.next ((m : Int) - 1)) else some (.jmp 4 (((m + 1 : Nat) : Int) - 1)) := by
   rw [show ((m + 1 : Nat) : Int) - 1 = (m : Int) by omega]
   simp only [slices_partitionEqualCmpFunc_L2]
   rw [if_pos (by omega)]
   simp only [rd_nat, hx, hs, Option.bind_some, hc]
   rw [w64_id (by omega) (by omega)]
  by_cases h0 : c < 0
  ·rw [if_pos h0] at hstep
   rw [iter_next hstep]
   obtain ⟨J', h1, h2, h3, h4, h5⟩ := ih m (by omega) (by omega)
   refine ⟨J', h1, h2, by omega, fun k h6 h7 => ?_, h5⟩
   by_cases hkm : k = m
   ·subst hkm; rw [kx]; exact hcc.1 h0
   ·exact h4 k h6 (by omega)
  ·rw [if_neg h0] at hstep
   refine ⟨m + 1, iter_jmp hstep, by omega, by omega, fun k h1 h2 => by omega, fun _ => ?_⟩
   have := mt hcc.2 h0
   rw [Nat.add_sub_cancel, kx]; omega
structure PartE (key : T → Int) (l y : List T) (a b i J : Nat) (pv : T) : Prop where
 seg : Seg l y a b
 piv : y[a]? = some pv
 lo : ∀ k, a + 1 ≤ k → k < i → ka key y k ≤ key pv
 hi : ∀ k, J ≤ k → k < b → key pv < ka key y k
theorem partE_loop {l : List T} {a b : Nat} {pv : T} (hk : Keyed p key l) (hb : b ≤ l.length) (hl : l.length < 2 ^ 40) : ∀ (d i J : Nat) (y : List T), J - i ≤ d → a + 1 ≤ i → i ≤ J → J ≤ b → PartE key l y a b i J pv →
  ∃ (i' : Nat) (y' : List T), iter (slices_partitionEqualCmpFunc_L0 p (a : Int)) ((i : Int), (J : Int) - 1, y) = some (.jmp 0 ((i' : Int), (i' : Int) - 1, y')) ∧ PartE key l y' a b i' i' pv ∧ a + 1 ≤ i' ∧ i' ≤ b := by
 intro d
 induction d with
 | zero =>
  intro i J y h1 h2 h3 h4 hp
  obtain rfl : i = J := by omega
  have hyl := hp.seg.len
  obtain ⟨i', e1, g1, g2, g3, g4⟩ := upE_ok (hk.seg hp.seg) hp.piv (J := i) (by omega) (by omega) 0 i rfl
  obtain rfl : i' = i := by omega
  obtain ⟨J', e2, g5, g6, g7, g8⟩ := dnE_ok (hk.seg hp.seg) hp.piv (i := i') (by omega) 0 i' rfl (by omega)
  obtain rfl : J' = i' := by omega
  refine ⟨J', y, iter_jmp ?_, hp, h2, h4⟩
  simp only [slices_partitionEqualCmpFunc_L0, e1, Option.bind_some, e2]
  rw [if_pos (by omega)]
 | succ d ih =>
  intro i J y h1 h2 h3 h4 hp
  have hyl := hp.seg.len
  obtain ⟨i', e1, g1, g2, g3, g4⟩ := upE_ok (hk.seg hp.seg) hp.piv (J := J) (by omega) (by omega) (J - i) i (by omega)
  obtain ⟨J', e2, g5, g6, g7, g8⟩ := dnE_ok (hk.seg hp.seg) hp.piv (i := i') (by omega) (J - i') J (by omega) (by omega)
  have hp1 : PartE key l y a b i' J' pv := ⟨hp.seg, hp.piv, fun k k1 k2 => by
   by_cases hki : k < i
   ·exact hp.lo k k1 hki
   ·exact g3 k (by omega) k2, fun k k1 k2 => by
   by_cases hkJ : J ≤ k
   ·exact hp.hi k hkJ k2
   ·exact g7 k k1 (by omega)⟩
  by_cases hend : i' = J'
  ·subst hend
   refine ⟨i', y, iter_jmp ?_, hp1, by omega, by omega⟩
   simp only [slices_partitionEqualCmpFunc_L0, e1, Option.bind_some, e2]
   rw [if_pos (by omega)]
  ·have hlt : i' < J' := by omega
   have hne : i' ≠ J' - 1 := by
    intro e
    have q1 := g4 (by omega)
    have q2 := g8 hlt
    rw [← e] at q2; omega
   obtain ⟨x, hx⟩ := get_lt (l := y) (i := i') (by omega)
   obtain ⟨z, hz⟩ := get_lt (l := y) (i := J' - 1) (by omega)
   obtain ⟨q, hq⟩ := get_lt (l := y.set i' z) (i := J' - 1) (by rw [List.length_set]; omega)
   have hget := swap_get hx hz
   have kx := ka_some (key := key) hx
   have kz := ka_some (key := key) hz
   have eJ : (J' : Int) - 1 = ((J' - 1 : Nat) : Int) := by omega
   have hstep : slices_partitionEqualCmpFunc_L0 p (a : Int) ((i : Int), (J : Int) - 1, y) = some (.next (((i' + 1 : Nat) : Int), ((J' - 1 : Nat) : Int) - 1, (y.set i' z).set (J' - 1) x)) := by
    simp only [slices_partitionEqualCmpFunc_L0, e1, Option.bind_some, e2]
    rw [if_neg (by omega), eJ]
    simp only [rd_nat, hx, hz, Option.bind_some, Int.toNat_natCast, hq]
    rw [w64_succ (by omega), w64_id (by omega) (by omega)]
   have hsw := Seg.swap (a := a) (b := b) hx hz (by omega) (by omega)
   generalize hy1 : (y.set i' z).set (J' - 1) x = y1 at *
   have kk : ∀ k, ka key y1 k = if k = J' - 1 then key x else if k = i' then key z else ka key y k := by
    intro k
    unfold ka
    rw [hget k]
    split
    ·rfl
    ·split <;> rfl
   rw [iter_next hstep]
   have hpv1 : y1[a]? = some pv := by rw [hget, if_neg (by omega), if_neg (by omega)]; exact hp.piv
   exact ih (i' + 1) (J' - 1) y1 (by omega) (by omega) (by omega) (by omega) ⟨hp.seg.trans hsw, hpv1, fun k k1 k2 => by
    rw [kk, if_neg (by omega)]
    by_cases hki : k = i'
    ·rw [if_pos hki, ← kz]; exact g8 hlt
    ·rw [if_neg hki]; exact hp1.lo k k1 (by omega), fun k k1 k2 => by
    rw [kk]
    by_cases hkJ : k = J' - 1
    ·rw [if_pos hkJ, ← kx]; exact g4 (by omega)
    ·rw [if_neg hkJ, if_neg (by omega)]; exact hp1.hi k (by omega) k2⟩
theorem peq_ok {l : List T} {a b c : Nat} (hk : Keyed p key l) (hc1 : a ≤ c) (hc2 : c < b) (hb : b ≤ l.length) (hl : l.length < 2 ^ 40) (hmin : ∀ k, a ≤ k → k < b → ka key l c ≤ ka key l k) :
  ∃ (m : Nat) (l' : List T), slices_partitionEqualCmpFunc p l (a : Int) (b : Int) (c : Int) = some ((m : Int), l') ∧ a + 1 ≤ m ∧ m ≤ b ∧ Seg l l' a b ∧ (∀ k, a ≤ k → k < m → ka key l' k = ka key l c) ∧ (∀ k, m ≤ k → k < b → ka key l c < ka key l' k) := by
 obtain ⟨x, hx⟩ := get_lt (l := l) (i := a) (by omega)
 obtain ⟨pv, hpv⟩ := get_lt (l := l) (i := c) (by omega)
 obtain ⟨q, hq⟩ := get_lt (l := l.set a pv) (i := c) (by rw [List.length_set]; omega)
 have hget := swap_get hx hpv
 have hsw := Seg.swap (a := a) (b := b) hx hpv (by omega) (by omega)
 have hb1 : w64 ((b : Int) - 1) = (b : Int) - 1 := w64_id (by omega) (by omega)
 have kp := ka_some (key := key) hpv
 unfold slices_partitionEqualCmpFunc
 simp only [rd_nat, hx, hpv, hq, Option.bind_some, Int.toNat_natCast, hb1]
 rw [w64_succ (n := a) (by omega)]
 generalize hy0 : (l.set a pv).set c x = y at *
 have hya : y[a]? = some pv := by
  rw [hget]
  by_cases h : a = c
  ·subst h; rw [if_pos rfl]; rw [hx] at hpv; exact hpv
  ·rw [if_neg h, if_pos rfl]
 obtain ⟨i', y', e1, hp, g1, g2⟩ := partE_loop (l := l) (pv := pv) hk hb hl (b - (a + 1)) (a + 1) b y (Nat.le_refl _) (Nat.le_refl _) (by omega) (Nat.le_refl _) ⟨hsw, hya, fun k h1 h2 => by omega, fun k h1 h2 => by omega⟩
 rw [e1]
 have hall := hp.seg.all (by omega) hb (Q := fun q => ka key l c ≤ q) hmin
 refine ⟨i', y', rfl, g1, g2, hp.seg, fun k h1 h2 => ?_, fun k h1 h2 => by rw [kp]; exact hp.hi k h1 h2⟩
 have h3 := hall k h1 (by omega)
 by_cases hka : k = a
 ·subst hka; rw [ka_some hp.piv, kp]
 ·have := hp.lo k (by omega) h2
  rw [kp] at h3 ⊢; omega
end
end Xr

namespace Xr
open Go Go.Ev
set_option linter.unusedVariables false
section
variable {T : Type} {p : T → T → Option Int} {key : T → Int}
structure Dom (p : T → T → Option Int) (key : T → Int) (l : List T) (a b : Nat) : Prop where
 keyed : Keyed p key l
 inj : ∀ x ∈ l, ∀ y ∈ l, key x = key y → x = y
 ab : a ≤ b
 bl : b ≤ l.length
 ll : l.length < 65536
 low : 0 < a → ∀ k, a ≤ k → k < b → ka key l (a - 1) ≤ ka key l k
def Fin1 (key : T → Int) (l : List T) (a b : Nat) (t : List T) : Prop := Seg l t a b ∧ Asc key t a b
theorem Dom.seg {l m : List T} {a b : Nat} (h : Dom p key l a b) (hs : Seg l m a b) : Dom p key m a b := by
 have hl := hs.len
 have := h.ab; have := h.bl; have := h.ll
 refine ⟨h.keyed.seg hs, fun x hx y hy e => h.inj x (hs.perm.mem_iff.1 hx) y (hs.perm.mem_iff.1 hy) e, h.ab, by omega, by omega, fun h0 => ?_⟩
 have e : ka key m (a - 1) = ka key l (a - 1) := by unfold ka; rw [hs.out (a - 1) (by omega)]
 rw [e]
 exact hs.all h.ab h.bl (Q := fun q => ka key l (a - 1) ≤ q) (h.low h0)
theorem Fin1.trans {l m t : List T} {a b : Nat} (hs : Seg l m a b) (h : Fin1 key m a b t) : Fin1 key l a b t := ⟨hs.trans h.1, h.2⟩
theorem Dom.fin {l : List T} {a b : Nat} (h : Dom p key l a b) : ∃ t, Fin1 key l a b t := by
 have := h.ll
 obtain ⟨l', _, h1, h2⟩ := ins_ok h.keyed h.ab h.bl (by omega)
 exact ⟨l', h1, h2⟩
open Classical in
noncomputable def pdqS (p4 : T → T → Option Int) (x0 : List T) (x1 x2 x3 : Int) : Option (List T) :=
 if h : ∃ (t : List T) (key : T → Int), 0 ≤ x1 ∧ 0 ≤ x2 ∧ Dom p4 key x0 x1.toNat x2.toNat ∧ Fin1 key x0 x1.toNat x2.toNat t then some h.choose else none
def pdqS_mu (x0 : List T) (x1 x2 x3 : Int) : Nat := (x2 - x1).toNat
theorem asc_key {key' : T → Int} {l t : List T} {a b : Nat} (hk : Keyed p key l) (hk' : Keyed p key' l) (hb : b ≤ l.length) (h : Fin1 key' l a b t) : Fin1 key l a b t := by
 refine ⟨h.1, fun i j h1 h2 h3 => ?_⟩
 have hl := h.1.len
 obtain ⟨x, hx⟩ := get_lt (l := t) (i := i) (by omega)
 obtain ⟨y, hy⟩ := get_lt (l := t) (i := j) (by omega)
 have mx := (h.1.perm.mem_iff).1 (List.mem_of_getElem? hx)
 have my := (h.1.perm.mem_iff).1 (List.mem_of_getElem? hy)
 have h4 := h.2 i j h1 h2 h3
 rw [ka_some hx, ka_some hy] at h4 ⊢
 obtain ⟨c, hc, hcc⟩ := hk y my x mx
 obtain ⟨c', hc', hcc'⟩ := hk' y my x mx
 rw [hc] at hc'
 obtain rfl := Option.some.inj hc'
 rcases Int.lt_or_le (key y) (key x) with h5 | h5
 ·have := hcc'.1 (hcc.2 h5); omega
 ·exact h5
theorem pdqS_fin {l : List T} {a b : Nat} (h : Dom p key l a b) (lim : Int) : ∃ t, pdqS p l (a : Int) (b : Int) lim = some t ∧ Fin1 key l a b t := by
 obtain ⟨t, ht⟩ := h.fin
 have hex : ∃ (t : List T) (key : T → Int), 0 ≤ (a : Int) ∧ 0 ≤ (b : Int) ∧ Dom p key l (a : Int).toNat (b : Int).toNat ∧ Fin1 key l (a : Int).toNat (b : Int).toNat t := ⟨t, key, by omega, by omega, h, ht⟩
 refine ⟨hex.choose, ?_, ?_⟩
 ·unfold pdqS; rw [dif_pos hex]
 ·obtain ⟨key', _, _, h1, h2⟩ := hex.choose_spec
  exact asc_key h.keyed h1.keyed h.bl h2
theorem asc_join {t : List T} {a m b : Nat} (ham : a ≤ m) (hmb : m < b) (h1 : Asc key t a m) (h2 : Asc key t (m + 1) b) (h3 : ∀ k, a ≤ k → k < m → ka key t k < ka key t m) (h4 : ∀ k, m ≤ k → k < b → ka key t m ≤ ka key t k) : Asc key t a b := by
 intro i j hi hij hj
 by_cases hjm : j < m
 ·exact h1 i j hi hij hjm
 ·by_cases him : m < i
  ·exact h2 i j him hij hj
  ·have g2 := h4 j (by omega) hj
   by_cases him' : i = m
   ·subst him'; exact g2
   ·have g1 := h3 i hi (by omega)
    omega
theorem ka_out {l m : List T} {a b i : Nat} (h : Seg l m a b) (hi : i < a ∨ b ≤ i) : ka key m i = ka key l i := by unfold ka; rw [h.out i hi]
theorem part_left {y : List T} {a b m : Nat} (h : Dom p key y a b) (ham : a ≤ m) (hmb : m < b) : Dom p key y a m := by
 have := h.bl
 exact ⟨h.keyed, h.inj, ham, by omega, h.ll, fun h0 k h1 h2 => h.low h0 k h1 (by omega)⟩
theorem part_right {y : List T} {a b m : Nat} (h : Dom p key y a b) (ham : a ≤ m) (hmb : m < b) (h4 : ∀ k, m ≤ k → k < b → ka key y m ≤ ka key y k) : Dom p key y (m + 1) b := by
 have := h.bl
 refine ⟨h.keyed, h.inj, by omega, h.bl, h.ll, fun h0 k h1 h2 => ?_⟩
 rw [Nat.add_sub_cancel]; exact h4 k (by omega) h2
theorem join_lr {y y2 t : List T} {a b m : Nat} (ham : a ≤ m) (hmb : m < b) (hb : b ≤ y.length) (h3 : ∀ k, a ≤ k → k < m → ka key y k < ka key y m) (h4 : ∀ k, m ≤ k → k < b → ka key y m ≤ ka key y k)
  (f1 : Fin1 key y a m y2) (f2 : Fin1 key y2 (m + 1) b t) : Fin1 key y a b t := by
 have hl := f1.1.len
 refine ⟨(f1.1.mono (Nat.le_refl _) (by omega)).trans (f2.1.mono (by omega) (Nat.le_refl _)), ?_⟩
 have em : ka key t m = ka key y m := by rw [ka_out f2.1 (by omega), ka_out f1.1 (by omega)]
 refine asc_join ham hmb (fun i j h1 h2 h5 => ?_) f2.2 (fun k h1 h2 => ?_) (fun k h1 h2 => ?_)
 ·rw [ka_out f2.1 (by omega), ka_out f2.1 (by omega)]; exact f1.2 i j h1 h2 h5
 ·rw [em, ka_out f2.1 (by omega)]
  exact f1.1.all ham (by omega) (Q := fun q => q < ka key y m) (fun i i1 i2 => h3 i i1 i2) k h1 h2
 ·rw [em]
  by_cases hk : k = m
  ·subst hk; rw [em]; exact Int.le_refl _
  ·exact f2.1.all (by omega) (by omega) (Q := fun q => ka key y m ≤ q) (fun i i1 i2 => by rw [ka_out f1.1 (by omega)]; exact h4 i (by omega) i2) k (by omega) h2
theorem join_rl {y y2 t : List T} {a b m : Nat} (ham : a ≤ m) (hmb : m < b) (hb : b ≤ y.length) (h3 : ∀ k, a ≤ k → k < m → ka key y k < ka key y m) (h4 : ∀ k, m ≤ k → k < b → ka key y m ≤ ka key y k)
  (f1 : Fin1 key y (m + 1) b y2) (f2 : Fin1 key y2 a m t) : Fin1 key y a b t := by
 have hl := f1.1.len
 refine ⟨(f1.1.mono (by omega) (Nat.le_refl _)).trans (f2.1.mono (Nat.le_refl _) (by omega)), ?_⟩
 have em : ka key t m = ka key y m := by rw [ka_out f2.1 (by omega), ka_out f1.1 (by omega)]
 refine asc_join ham hmb f2.2 (fun i j h1 h2 h5 => ?_) (fun k h1 h2 => ?_) (fun k h1 h2 => ?_)
 ·rw [ka_out f2.1 (by omega), ka_out f2.1 (by omega)]; exact f1.2 i j h1 h2 h5
 ·rw [em]
  exact f2.1.all ham (by omega) (Q := fun q => q < ka key y m) (fun i i1 i2 => by rw [ka_out f1.1 (by omega)]; exact h3 i i1 i2) k h1 h2
 ·rw [em]
  by_cases hk : k = m
  ·subst hk; rw [em]; exact Int.le_refl _
  ·rw [ka_out f2.1 (by omega)]
   exact f1.1.all (by omega) hb (Q := fun q => ka key y m ≤ q) (fun i i1 i2 => h4 i (by omega) i2) k (by omega) h2
abbrev PS (T : Type) := Int × Int × Int × Bool × Bool × List T
noncomputable def pdqCut (rec : List T → Int → Int → Int → Option (List T)) (p4 : T → T → Option Int) (s1 s2 s3 : Int) (y : List T) (c : Int) : Option (Out (PS T) (List T)) :=
 (slices_partitionCmpFunc p4 y s1 s2 c).bind fun r735 =>
 if r735.2.2.length = y.length then
  (quoK .i64 (w64 (s2 - s1)) (8 : Int)).bind fun q739 =>
  if (w64 (r735.1 - s1)) < (w64 (s2 - r735.1)) then
   (rec r735.2.2 s1 r735.1 s3).bind fun r743 =>
   if r743.length = r735.2.2.length then
    some (.next (w64 (r735.1 + (1 : Int)), s2, s3, decide (q739 ≤ (w64 (r735.1 - s1))), r735.2.1, r743))
   else none
  else
   (rec r735.2.2 (w64 (r735.1 + (1 : Int))) s2 s3).bind fun r747 =>
   if r747.length = r735.2.2.length then
    some (.next (s1, r735.1, s3, decide (q739 ≤ (w64 (s2 - r735.1))), r735.2.1, r747))
   else none
 else none
noncomputable def pdqK (rec : List T → Int → Int → Int → Option (List T)) (p4 : T → T → Option Int) (s1 s2 s3 : Int) (s10 s11 : Bool) (y : List T) (c : Int) : Option (Out (PS T) (List T)) :=
 if (0 : Int) < s1 then
  (rd y (w64 (s1 - (1 : Int)))).bind fun v705 =>
  (rd y c).bind fun v708 =>
  (p4 v705 v708).bind fun r711 =>
  if r711 < (0 : Int) then pdqCut rec p4 s1 s2 s3 y c
  else
   (slices_partitionEqualCmpFunc p4 y s1 s2 c).bind fun r731 =>
   if r731.2.length = y.length then
    some (.next (r731.1, s2, s3, s10, s11, r731.2))
   else none
 else pdqCut rec p4 s1 s2 s3 y c
noncomputable def pdqTry (rec : List T → Int → Int → Int → Option (List T)) (p4 : T → T → Option Int) (s1 s2 s3 : Int) (s10 s11 : Bool) (y : List T) (c : Int) : Option (Out (PS T) (List T)) :=
 (slices_partialInsertionSortCmpFunc p4 y s1 s2).bind fun r498 =>
 if r498.2.length = y.length then
  if r498.1 = true then
   some (.ret r498.2)
  else pdqK rec p4 s1 s2 s3 s10 s11 r498.2 c
 else none
noncomputable def pdqStep (rec : List T → Int → Int → Int → Option (List T)) (p4 : T → T → Option Int) : PS T → Option (Out (PS T) (List T)) := fun (s1, s2, s3, s10, s11, y0) =>
 if (w64 (s2 - s1)) ≤ (12 : Int) then
  (slices_insertionSortCmpFunc p4 y0 s1 s2).bind fun r377 =>
  if r377.length = y0.length then some (.ret r377) else none
 else
  if s3 = (0 : Int) then
   (slices_heapSortCmpFunc p4 y0 s1 s2).bind fun r382 =>
   if r382.length = y0.length then some (.ret r382) else none
  else
   if s10 = true then
    (slices_choosePivotCmpFunc p4 y0 s1 s2).bind fun r387 =>
    if r387.2.2.length = y0.length then
     if r387.2.1 = (2 : Int) then
      (slices_reverseRangeCmpFunc p4 r387.2.2 s1 s2).bind fun r392 =>
      if r392.length = r387.2.2.length then
       if s11 = true then pdqTry rec p4 s1 s2 s3 s10 s11 r392 (w64 ((w64 (s2 - (1 : Int))) - (w64 (r387.1 - s1))))
       else pdqK rec p4 s1 s2 s3 s10 s11 r392 (w64 ((w64 (s2 - (1 : Int))) - (w64 (r387.1 - s1))))
      else none
     else
      if s11 = true then
       if r387.2.1 = (1 : Int) then pdqTry rec p4 s1 s2 s3 s10 s11 r387.2.2 r387.1
       else pdqK rec p4 s1 s2 s3 s10 s11 r387.2.2 r387.1
      else pdqK rec p4 s1 s2 s3 s10 s11 r387.2.2 r387.1
    else none
   else
    (slices_breakPatternsCmpFunc p4 y0 s1 s2).bind fun r644 =>
    if r644.length = y0.length then
     (slices_choosePivotCmpFunc p4 r644 s1 s2).bind fun r648 =>
     if r648.2.2.length = r644.length then
      if r648.2.1 = (2 : Int) then
       (slices_reverseRangeCmpFunc p4 r648.2.2 s1 s2).bind fun r653 =>
       if r653.length = r648.2.2.length then pdqK rec p4 s1 s2 (w64 (s3 - (1 : Int))) s10 s11 r653 (w64 ((w64 (s2 - (1 : Int))) - (w64 (r648.1 - s1))))
       else none
      else pdqK rec p4 s1 s2 (w64 (s3 - (1 : Int))) s10 s11 r648.2.2 r648.1
     else none
    else none
theorem pdq_step (rec : List T → Int → Int → Int → Option (List T)) (p4 : T → T → Option Int) : slices_pdqsortCmpFunc_L0 rec p4 = pdqStep rec p4 := rfl
def Good (p : T → T → Option Int) (key : T → Int) (l : List T) (a0 b0 n : Nat) : Out (PS T) (List T) → Prop
 | .next s => ∃ (a b : Nat) (y : List T), s.1 = (a : Int) ∧ s.2.1 = (b : Int) ∧ s.2.2.2.2.2 = y ∧ Dom p key y a b ∧ (∀ t, Fin1 key y a b t → Fin1 key l a0 b0 t) ∧ b - a < n
 | .ret r => Fin1 key l a0 b0 r
 | .jmp _ _ => False
theorem Good.up {l y : List T} {a0 b0 a b n n' : Nat} {o : Out (PS T) (List T)} (h : Good p key y a b n o) (hn : n ≤ n') (ht : ∀ t, Fin1 key y a b t → Fin1 key l a0 b0 t) : Good p key l a0 b0 n' o := by
 match o, h with
 | .next s, ⟨a', b', y', e1, e2, e3, h1, h2, h3⟩ => exact ⟨a', b', y', e1, e2, e3, h1, fun t h => ht t (h2 t h), by omega⟩
 | .ret r, h => exact ht r h
def RecOk (p : T → T → Option Int) (key : T → Int) (n : Nat) (rec : List T → Int → Int → Int → Option (List T)) : Prop := ∀ (l : List T) (a b : Nat) (lim : Int), Dom p key l a b → b - a < n → ∃ t, rec l (a : Int) (b : Int) lim = some t ∧ Fin1 key l a b t
theorem pdqCut_ok {rec : List T → Int → Int → Int → Option (List T)} {y : List T} {a b c : Nat} (hrec : RecOk p key (b - a) rec) (h : Dom p key y a b) (h1 : a ≤ c) (h2 : c < b) (lim : Int) :
  ∃ o, pdqCut rec p (a : Int) (b : Int) lim y (c : Int) = some o ∧ Good p key y a b (b - a) o := by
 have := h.ll
 have hbl := h.bl
 obtain ⟨m, r, y1, e1, g1, g2, g3, g4, g5⟩ := partition_ok h.keyed h1 h2 h.bl (by omega)
 have hd := h.seg g3
 have hl := g3.len
 unfold pdqCut
 rw [e1, Option.bind_some]
 simp only
 rw [if_pos hl]
 have f1 : w64 ((b : Int) - (a : Int)) = ((b - a : Nat) : Int) := w64_n (by omega) (by omega)
 have f2 : w64 ((m : Int) - (a : Int)) = ((m - a : Nat) : Int) := w64_n (by omega) (by omega)
 have f3 : w64 ((b : Int) - (m : Int)) = ((b - m : Nat) : Int) := w64_n (by omega) (by omega)
 have f4 : w64 ((m : Int) + 1) = ((m + 1 : Nat) : Int) := w64_n (by omega) (by omega)
 obtain ⟨q, hq⟩ : ∃ q, quoK .i64 ((b - a : Nat) : Int) 8 = some q := by unfold quoK; rw [if_neg (by omega)]; exact ⟨_, rfl⟩
 rw [f1, f2, f3, f4, hq, Option.bind_some]
 by_cases hlt : ((m - a : Nat) : Int) < ((b - m : Nat) : Int)
 ·rw [if_pos hlt]
  obtain ⟨t, k1, k2⟩ := hrec y1 a m lim (part_left hd g1 g2) (by omega)
  rw [k1, Option.bind_some, if_pos k2.1.len]
  refine ⟨_, rfl, m + 1, b, t, rfl, rfl, rfl, ?_, fun t' ht' => Fin1.trans g3 (join_lr g1 g2 (by omega) g4 g5 k2 ht'), by omega⟩
  have hd2 := hd.seg (k2.1.mono (Nat.le_refl _) (by omega))
  refine part_right hd2 g1 g2 (fun k i1 i2 => ?_)
  rw [ka_out k2.1 (i := m) (by omega), ka_out k2.1 (i := k) (by omega)]
  exact g5 k i1 i2
 ·rw [if_neg hlt]
  obtain ⟨t, k1, k2⟩ := hrec y1 (m + 1) b lim (part_right hd g1 g2 g5) (by omega)
  rw [k1, Option.bind_some, if_pos k2.1.len]
  refine ⟨_, rfl, a, m, t, rfl, rfl, rfl, ?_, fun t' ht' => Fin1.trans g3 (join_rl g1 g2 (by omega) g4 g5 k2 ht'), by omega⟩
  exact part_left (hd.seg (k2.1.mono (by omega) (Nat.le_refl _))) g1 g2
theorem pdqK_ok {rec : List T → Int → Int → Int → Option (List T)} {y : List T} {a b c : Nat} (hrec : RecOk p key (b - a) rec) (h : Dom p key y a b) (h1 : a ≤ c) (h2 : c < b) (lim : Int) (s10 s11 : Bool) :
  ∃ o, pdqK rec p (a : Int) (b : Int) lim s10 s11 y (c : Int) = some o ∧ Good p key y a b (b - a) o := by
 have := h.ll
 have hbl := h.bl
 unfold pdqK
 by_cases h0 : (0 : Int) < (a : Int)
 ·rw [if_pos h0, w64_pred (by omega) (by omega)]
  obtain ⟨x, hx⟩ := get_lt (l := y) (i := a - 1) (by omega)
  obtain ⟨z, hz⟩ := get_lt (l := y) (i := c) (by omega)
  obtain ⟨r, hr, hrr⟩ := h.keyed x (List.mem_of_getElem? hx) z (List.mem_of_getElem? hz)
  have hlow := h.low (by omega) c h1 h2
  rw [ka_some hx, ka_some hz] at hlow
  simp only [rd_nat, hx, hz, Option.bind_some, hr]
  by_cases hr0 : r < 0
  ·rw [if_pos hr0]
   exact pdqCut_ok hrec h h1 h2 lim
  ·rw [if_neg hr0]
   have heq := mt hrr.2 hr0
   have kx := ka_some (key := key) hx
   have kz := ka_some (key := key) hz
   obtain ⟨m, y1, e1, g1, g2, g3, g4, g5⟩ := peq_ok h.keyed h1 h2 hbl (by omega) (fun k k1 k2 => by
    have := h.low (by omega) k k1 k2
    rw [kz]; rw [kx] at this; omega)
   rw [e1, Option.bind_some]
   simp only
   rw [if_pos g3.len]
   have hd := h.seg g3
   have hyl := g3.len
   refine ⟨_, rfl, m, b, y1, rfl, rfl, rfl, ⟨hd.keyed, hd.inj, by omega, hd.bl, hd.ll, fun _ k k1 k2 => ?_⟩, fun t ht => ⟨g3.trans (ht.1.mono (by omega) (Nat.le_refl _)), ?_⟩, by omega⟩
   ·have q1 := g4 (m - 1) (by omega) (by omega)
    have q2 := g5 k k1 k2
    omega
   ·intro i j i1 i2 i3
    by_cases hjm : j < m
    ·rw [ka_out ht.1 (by omega), ka_out ht.1 (by omega), g4 i i1 (by omega), g4 j (by omega) hjm]; exact Int.le_refl _
    ·by_cases him : i < m
     ·rw [ka_out ht.1 (i := i) (by omega), g4 i i1 him]
      exact ht.1.all (by omega) (by omega) (Q := fun q => ka key y c ≤ q) (fun k k1 k2 => Int.le_of_lt (g5 k k1 k2)) j (by omega) i3
     ·exact ht.2 i j (by omega) i2 i3
 ·rw [if_neg h0]
  exact pdqCut_ok hrec h h1 h2 lim
theorem pdqTry_ok {rec : List T → Int → Int → Int → Option (List T)} {y : List T} {a b c : Nat} (hrec : RecOk p key (b - a) rec) (h : Dom p key y a b) (h1 : a ≤ c) (h2 : c < b) (lim : Int) (s10 s11 : Bool) :
  ∃ o, pdqTry rec p (a : Int) (b : Int) lim s10 s11 y (c : Int) = some o ∧ Good p key y a b (b - a) o := by
 have := h.ll
 have hbl := h.bl
 obtain ⟨r, y1, e1, g1, g2⟩ := pis_ok (a := a) (b := b) h.keyed (by omega) h.bl (by omega) (fun h0 k k1 k2 => h.low h0 k k1 k2)
 unfold pdqTry
 rw [e1, Option.bind_some]
 simp only
 rw [if_pos g1.len]
 by_cases hr : r = true
 ·rw [if_pos hr]
  exact ⟨_, rfl, g1, g2 hr⟩
 ·rw [if_neg hr]
  obtain ⟨o, k1, k2⟩ := pdqK_ok hrec (h.seg g1) h1 h2 lim s10 s11
  exact ⟨o, k1, k2.up (Nat.le_refl _) fun t ht => Fin1.trans g1 ht⟩
theorem pdqStep_ok {rec : List T → Int → Int → Int → Option (List T)} {y : List T} {a b : Nat} (hrec : RecOk p key (b - a) rec) (h : Dom p key y a b) (lim : Int) (s10 s11 : Bool) :
  ∃ o, pdqStep rec p ((a : Int), (b : Int), lim, s10, s11, y) = some o ∧ Good p key y a b (b - a) o := by
 have := h.ll
 have hbl := h.bl
 have hab := h.ab
 have f1 : w64 ((b : Int) - (a : Int)) = ((b - a : Nat) : Int) := w64_n (by omega) (by omega)
 unfold pdqStep
 simp only [f1]
 by_cases h12 : ((b - a : Nat) : Int) ≤ 12
 ·rw [if_pos h12]
  obtain ⟨t, e, g1, g2⟩ := ins_ok h.keyed h.ab h.bl (by omega)
  rw [e, Option.bind_some, if_pos g1.len]
  exact ⟨_, rfl, g1, g2⟩
 rw [if_neg h12]
 by_cases hl0 : lim = 0
 ·rw [if_pos hl0]
  obtain ⟨t, e, g1, g2⟩ := heap_ok h.keyed h.ab h.bl (by omega)
  rw [e, Option.bind_some, if_pos g1.len]
  exact ⟨_, rfl, g1, g2⟩
 rw [if_neg hl0]
 have turn : ∀ (m : Nat), a ≤ m → m < b → ∃ c : Nat, w64 ((w64 ((b : Int) - 1)) - (w64 ((m : Int) - (a : Int)))) = (c : Int) ∧ a ≤ c ∧ c < b := by
  intro m h1 h2
  have e1 : w64 ((b : Int) - 1) = ((b - 1 : Nat) : Int) := w64_n (by omega) (by omega)
  have e2 : w64 ((m : Int) - (a : Int)) = ((m - a : Nat) : Int) := w64_n (by omega) (by omega)
  rw [e1, e2]
  exact ⟨b - 1 - (m - a), w64_n (by omega) (by omega), by omega, by omega⟩
 by_cases hs10 : s10 = true
 ·rw [if_pos hs10]
  obtain ⟨m, hint, e, g1, g2⟩ := pivot_ok (a := a) (b := b) h.keyed (by omega) h.bl (by omega)
  rw [e, Option.bind_some]
  simp only
  rw [if_pos trivial]
  obtain ⟨c, ec, c1, c2⟩ := turn m g1 g2
  rw [ec]
  by_cases h2 : hint = 2
  ·rw [if_pos h2]
   obtain ⟨y1, e1, k1⟩ := rev_ok (p := p) h.ab h.bl (by omega)
   rw [e1, Option.bind_some, if_pos k1.len]
   by_cases hs11 : s11 = true
   ·rw [if_pos hs11]
    obtain ⟨o, o1, o2⟩ := pdqTry_ok hrec (h.seg k1) c1 c2 lim s10 s11
    exact ⟨o, o1, o2.up (Nat.le_refl _) fun t ht => Fin1.trans k1 ht⟩
   ·rw [if_neg hs11]
    obtain ⟨o, o1, o2⟩ := pdqK_ok hrec (h.seg k1) c1 c2 lim s10 s11
    exact ⟨o, o1, o2.up (Nat.le_refl _) fun t ht => Fin1.trans k1 ht⟩
  ·rw [if_neg h2]
   by_cases hs11 : s11 = true
   ·rw [if_pos hs11]
    by_cases h3 : hint = 1
    ·rw [if_pos h3]; exact pdqTry_ok hrec h g1 g2 lim s10 s11
    ·rw [if_neg h3]; exact pdqK_ok hrec h g1 g2 lim s10 s11
   ·rw [if_neg hs11]; exact pdqK_ok hrec h g1 g2 lim s10 s11
 ·rw [if_neg hs10]
  obtain ⟨y1, e1, k1⟩ := brk_ok (p := p) (l := y) (a := a) (b := b) (by omega) h.bl (by omega)
  rw [e1, Option.bind_some, if_pos k1.len]
  have hd := h.seg k1
  obtain ⟨m, hint, e, g1, g2⟩ := pivot_ok (a := a) (b := b) hd.keyed (by omega) hd.bl (by have := hd.ll; omega)
  rw [e, Option.bind_some]
  simp only
  rw [if_pos trivial]
  obtain ⟨c, ec, c1, c2⟩ := turn m g1 g2
  rw [ec]
  by_cases h2 : hint = 2
  ·rw [if_pos h2]
   obtain ⟨y2, e2, k2⟩ := rev_ok (p := p) hd.ab hd.bl (by have := hd.ll; omega)
   rw [e2, Option.bind_some, if_pos k2.len]
   obtain ⟨o, o1, o2⟩ := pdqK_ok hrec (hd.seg k2) c1 c2 (w64 (lim - 1)) s10 s11
   exact ⟨o, o1, o2.up (Nat.le_refl _) fun t ht => Fin1.trans (k1.trans k2) ht⟩
  ·rw [if_neg h2]
   obtain ⟨o, o1, o2⟩ := pdqK_ok hrec hd g1 g2 (w64 (lim - 1)) s10 s11
   exact ⟨o, o1, o2.up (Nat.le_refl _) fun t ht => Fin1.trans k1 ht⟩
theorem pdq_body {rec : List T → Int → Int → Int → Option (List T)} {l : List T} {a b : Nat} (hrec : RecOk p key (b - a) rec) (h : Dom p key l a b) (lim : Int) :
  ∃ t, slices_pdqsortCmpFunc.body rec p l (a : Int) (b : Int) lim = some t ∧ Fin1 key l a b t := by
 unfold slices_pdqsortCmpFunc.body
 rw [pdq_step]
 obtain ⟨o, h1, h2⟩ := iter_rule (step := pdqStep rec p) (fun s => ∃ (a' b' : Nat) (y : List T), s.1 = (a' : Int) ∧ s.2.1 = (b' : Int) ∧ s.2.2.2.2.2 = y ∧ Dom p key y a' b' ∧ (∀ t, Fin1 key y a' b' t → Fin1 key l a b t) ∧ b' - a' ≤ b - a)
  (fun s => (s.2.1 - s.1).toNat) (fun o => match o with | .ret r => Fin1 key l a b r | _ => False)
  (by
   rintro ⟨s1, s2, s3, s10, s11, y0⟩ ⟨a', b', y, e1, e2, e3, hd, ht, hn⟩
   simp only at e1 e2 e3
   subst e1 e2 e3
   have hab := hd.ab
   obtain ⟨o, o1, o2⟩ := pdqStep_ok (rec := rec) (fun l x z lim hx hz => hrec l x z lim hx (by omega)) hd s3 s10 s11
   refine ⟨o, o1, ?_⟩
   match o, o2 with
   | .next s, ⟨a2, b2, y2, f1, f2, f3, g1, g2, g3⟩ =>
    refine ⟨⟨a2, b2, y2, f1, f2, f3, g1, fun t h => ht t (g2 t h), by omega⟩, ?_⟩
    rw [f1, f2]
    simp only
    omega
   | .ret r, g => exact ht r g)
  ((a : Int), (b : Int), lim, true, true, l) ⟨a, b, l, rfl, rfl, rfl, h, fun t h => h, Nat.le_refl _⟩
 rw [h1]
 match o, h2 with
 | .ret r, g => exact ⟨r, rfl, g⟩
theorem fin_unique {l t u : List T} {a b : Nat} (h : ∀ x ∈ l, ∀ y ∈ l, key x = key y → x = y) (hab : a ≤ b) (hb : b ≤ l.length) (h1 : Fin1 key l a b t) (h2 : Fin1 key l a b u) : t = u := by
 have hlt := h1.1.len
 have hlu := h2.1.len
 have sorted : ∀ v : List T, v.length = l.length → Asc key v a b → ((v.take b).drop a).Pairwise fun x y => key x ≤ key y := by
  intro v hv hasc
  refine List.pairwise_iff_getElem.2 fun i j hi hj hij => ?_
  simp only [List.length_drop, List.length_take] at hi hj
  have e1 : v[a + i]? = some (((v.take b).drop a)[i]'(by simp; omega)) := by
   rw [← mid_get (l := v) (a := a) (b := b) (i := a + i) (by omega) (by omega), show a + i - a = i from by omega]; exact List.getElem?_eq_getElem _
  have e2 : v[a + j]? = some (((v.take b).drop a)[j]'(by simp; omega)) := by
   rw [← mid_get (l := v) (a := a) (b := b) (i := a + j) (by omega) (by omega), show a + j - a = j from by omega]; exact List.getElem?_eq_getElem _
  have := hasc (a + i) (a + j) (by omega) (by omega) (by omega)
  rw [ka_some e1, ka_some e2] at this
  exact this
 have hp : ((t.take b).drop a).Perm ((u.take b).drop a) := (h1.1.mid hab hb).trans (h2.1.mid hab hb).symm
 have hm : ∀ v : List T, Seg l v a b → ∀ x ∈ (v.take b).drop a, x ∈ l := fun v hv x hx => hv.perm.mem_iff.1 (List.mem_of_mem_take (List.mem_of_mem_drop hx))
 have hmid := List.Perm.eq_of_pairwise (le := fun x y => key x ≤ key y) (fun x y hx hy e1 e2 => h x (hm t h1.1 x hx) y (hm u h2.1 y hy) (by omega)) (sorted t hlt h1.2) (sorted u hlu h2.2) hp
 apply List.ext_getElem?
 intro i
 by_cases hi : a ≤ i ∧ i < b
 ·rw [← mid_get (l := t) hi.1 hi.2, ← mid_get (l := u) hi.1 hi.2, hmid]
 ·rw [h1.1.out i (by omega), h2.1.out i (by omega)]
theorem pdqS_body (p4 : T → T → Option Int) (x0 : List T) (x1 x2 x3 : Int) (r : List T) (h : pdqS p4 x0 x1 x2 x3 = some r) :
  slices_pdqsortCmpFunc.body (fun x0' x1' x2' x3' => if pdqS_mu x0' x1' x2' x3' < pdqS_mu x0 x1 x2 x3 then pdqS p4 x0' x1' x2' x3' else none) p4 x0 x1 x2 x3 = some r := by
 unfold pdqS at h
 split at h
 ·rename_i hex
  obtain ⟨t, key, g1, g2, hd, ht⟩ := hex
  obtain ⟨a, rfl⟩ : ∃ a : Nat, x1 = a := ⟨x1.toNat, by omega⟩
  obtain ⟨b, rfl⟩ : ∃ b : Nat, x2 = b := ⟨x2.toNat, by omega⟩
  simp only [Int.toNat_natCast] at hd ht
  obtain ⟨t1, e1, k1⟩ := pdqS_fin hd x3
  have hr : t1 = r := by
   unfold pdqS at e1
   rw [dif_pos ⟨t, key, g1, g2, by simpa using hd, by simpa using ht⟩] at e1
   exact (Option.some.inj e1).symm.trans (Option.some.inj h)
  subst hr
  obtain ⟨t2, e2, k2⟩ := pdq_body (rec := fun x0' x1' x2' x3' => if pdqS_mu x0' x1' x2' x3' < pdqS_mu x0 (a : Int) (b : Int) x3 then pdqS p4 x0' x1' x2' x3' else none) (key := key) (p := p4)
   (fun l a' b' lim hdom hlt => by
    obtain ⟨t, q1, q2⟩ := pdqS_fin hdom lim
    refine ⟨t, ?_, q2⟩
    have hab := hdom.ab
    show (if pdqS_mu l (a' : Int) (b' : Int) lim < pdqS_mu x0 (a : Int) (b : Int) x3 then pdqS p4 l (a' : Int) (b' : Int) lim else none) = some t
    rw [if_pos (by unfold pdqS_mu; omega)]
    exact q1) hd x3
  rw [e2, fin_unique hd.inj hd.ab hd.bl k2 k1]
 ·cases h
theorem pdqS_all {l : List T} (hk : Keyed p key l) (hn : ∀ x ∈ l, ∀ y ∈ l, key x = key y → x = y) (hl : l.length < 65536) (lim : Int) :
  ∃ t, pdqS p l (0 : Int) (l.length : Int) lim = some t ∧ t.Perm l ∧ t.Pairwise (fun x y => key x ≤ key y) := by
 have hd : Dom p key l 0 l.length := ⟨hk, hn, by omega, Nat.le_refl _, hl, fun h => by omega⟩
 obtain ⟨t, e, h1, h2⟩ := pdqS_fin hd lim
 refine ⟨t, e, h1.perm, ?_⟩
 rw [List.pairwise_iff_getElem]
 intro i j hi hj hij
 have g1 := h2 i j (by omega) hij (by have := h1.len; omega)
 rw [ka_some (List.getElem?_eq_getElem hi), ka_some (List.getElem?_eq_getElem hj)] at g1
 exact g1
end
end Xr

namespace Xr
open Go Go.Ev
set_option linter.unusedVariables false
noncomputable def pdqF (x1 x2 x3 : Int) (o1 : List Pair) : Option (List Pair) := pdqS cmpT o1 x1 x2 x3
def pdqF_mu (x1 x2 x3 : Int) (o1 : List Pair) : Nat := (x2 - x1).toNat
theorem pdqF_body (x1 x2 x3 : Int) (o1 : List Pair) (r : List Pair) (h : pdqF x1 x2 x3 o1 = some r) : sort_pdqsort_func.body (fun x1' x2' x3' o1' => if pdqF_mu x1' x2' x3' o1' < pdqF_mu x1 x2 x3 o1 then pdqF x1' x2' x3' o1' else none) x1 x2 x3 o1 = some r := by
 have h' := pdqS_body cmpT o1 x1 x2 x3 r h
 unfold sort_pdqsort_func.body
 rw [pdq_eq]
 unfold slices_pdqsortCmpFunc.body at h'
 rw [← h']
 exact bnd fun o => by cases o <;> rfl
end Xr

namespace Xr
open Go Go.Ev
set_option linter.unusedSimpArgs false
set_option linter.unusedVariables false
set_option linter.defProp false
noncomputable def law24_awake : Option Bool :=
 some true
noncomputable def sort_Slice (o0 : (List Pair)) : Option (List Pair) :=
 if 2 ≤ o0.length then
  (math_bits_Len (IntKind.wrap .u64 (o0.length : Int))).bind fun r10 =>
  (pdqF (0 : Int) (o0.length : Int) r10 o0).bind fun r13 =>
  if r13.length = o0.length then
   some r13
  else none
 else none
noncomputable def sort_SliceS (o0 : (List Pair)) : Option (List Pair) :=
 if o0.length < 2 then some o0 else sort_Slice o0
noncomputable def match_tidy_L0 (s11 : Int) (y0 : (List Pair)) : (Int × (List Pair)) → Option (Out (Int × (List Pair)) ((List Pair) × (List Pair))) := fun (s12, y2) =>
 if s12 < s11 then
  (rd y0 s12).bind fun v6 =>
  if s12 = (0 : Int) then
   if (y2.length + 1) * 16 ≤ 140737488355328 then
    some (.next (w64 (s12 + (1 : Int)), (y2 ++ [v6])))
   else none
  else
   (rd y0 (w64 (s12 - (1 : Int)))).bind fun v12 =>
   if v6.Old = v12.Old ∧ v6.New = v12.New then
    some (.next (w64 (s12 + (1 : Int)), y2))
   else
    if (y2.length + 1) * 16 ≤ 140737488355328 then
     some (.next (w64 (s12 + (1 : Int)), (y2 ++ [v6])))
    else none
 else
  some (.jmp 0 (s12, y2))
noncomputable def match_tidy (x0 : (List Pair)) : Option ((List Pair) × (List Pair)) :=
 (sort_SliceS x0).bind fun r1 =>
 if r1.length = x0.length then
  (iter (match_tidy_L0 (r1.length : Int) r1) ((0 : Int), ([] : List Pair))).bind fun
   | .jmp _ (s12_19, y2_19) =>
    some (y2_19, r1)
   | _ => none
 else none
noncomputable def match_Invert_L0 (s6 : (List Pair)) (s7 : Int) : (Int × (List Pair)) → Option (Out (Int × (List Pair)) (List Pair)) := fun (s8, y0) =>
 if s8 < s7 then
  (rd s6 s8).bind fun v2 =>
  if (y0.length + 1) * 16 ≤ 140737488355328 then
   some (.next (w64 (s8 + (1 : Int)), (y0 ++ [(Pair.mk v2.New v2.Old)])))
  else none
 else
  some (.jmp 0 (s8, y0))
noncomputable def match_Invert (x0 : (List Pair)) : Option (List Pair) :=
 (iter (match_Invert_L0 x0 (x0.length : Int)) ((0 : Int), ([] : List Pair))).bind fun
  | .jmp _ (s8_8, y0_8) =>
   (match_tidy y0_8).bind fun r9 =>
   if r9.2.length = y0_8.length then
    some r9.1
   else none
  | _ => none
noncomputable def R24_Insert_L0 (s0 : (List Pair)) (w0_0 : Int) (w0_1 : Int) : (Bool × Int × (List Pair)) → Option (Out (Bool × Int × (List Pair)) (List Pair)) := fun (s6, s7, y1) =>
 if s7 < (s0.length : Int) then
  (rd s0 s7).bind fun v2 =>
  if v2.Old = w0_0 ∧ v2.New = w0_1 then
   if (y1.length + 1) * 16 ≤ 140737488355328 then
    some (.next (true, w64 (s7 + (1 : Int)), (y1 ++ [v2])))
   else none
  else
   if s6 = true then
    if (y1.length + 1) * 16 ≤ 140737488355328 then
     some (.next (s6, w64 (s7 + (1 : Int)), (y1 ++ [v2])))
    else none
   else
    if w0_0 < v2.Old then
     if (y1.length + 1) * 16 ≤ 140737488355328 then
      if ((y1 ++ [(Pair.mk w0_0 w0_1)]).length + 1) * 16 ≤ 140737488355328 then
       some (.next (true, w64 (s7 + (1 : Int)), ((y1 ++ [(Pair.mk w0_0 w0_1)]) ++ [v2])))
      else none
     else none
    else
     if v2.Old = w0_0 then
      if w0_1 < v2.New then
       if (y1.length + 1) * 16 ≤ 140737488355328 then
        if ((y1 ++ [(Pair.mk w0_0 w0_1)]).length + 1) * 16 ≤ 140737488355328 then
         some (.next (true, w64 (s7 + (1 : Int)), ((y1 ++ [(Pair.mk w0_0 w0_1)]) ++ [v2])))
        else none
       else none
      else
       if (y1.length + 1) * 16 ≤ 140737488355328 then
        some (.next (s6, w64 (s7 + (1 : Int)), (y1 ++ [v2])))
       else none
     else
      if (y1.length + 1) * 16 ≤ 140737488355328 then
       some (.next (s6, w64 (s7 + (1 : Int)), (y1 ++ [v2])))
      else none
 else
  some (.jmp 0 (s6, s7, y1))
noncomputable def R24_Insert (x0 : (List Pair)) (x1 : Pair) : Option (List Pair) :=
 (iter (R24_Insert_L0 x0 x1.Old x1.New) (false, (0 : Int), ([] : List Pair))).bind fun
  | .jmp _ (s6_36, s7_36, y1_36) =>
   if s6_36 = true then
    some y1_36
   else
    if (y1_36.length + 1) * 16 ≤ 140737488355328 then
     some (y1_36 ++ [x1])
    else none
  | _ => none
noncomputable def R24_Invert_L0 (s0 : (List Pair)) : ((List Pair) × Int) → Option (Out ((List Pair) × Int) (List Pair)) := fun (s3, s4) =>
 if s4 < (s0.length : Int) then
  (rd s0 s4).bind fun v2 =>
  (R24_Insert s3 (Pair.mk v2.New v2.Old)).bind fun r6 =>
  some (.next (r6, w64 (s4 + (1 : Int))))
 else
  some (.jmp 0 (s3, s4))
noncomputable def R24_Invert (x0 : (List Pair)) : Option (List Pair) :=
 (iter (R24_Invert_L0 x0) (([] : List Pair), (0 : Int))).bind fun
  | .jmp _ (s3_10, s4_10) =>
   some s3_10
  | _ => none
noncomputable def R24_Same_L0 (s0 : (List Pair)) (s1 : (List Pair)) : Int → Option (Out (Int) Bool) := fun s5 =>
 if s5 < (s0.length : Int) then
  (rd s0 s5).bind fun v3 =>
  (rd s1 s5).bind fun v6 =>
  if v3.Old = v6.Old ∧ v3.New = v6.New then
   some (.next (w64 (s5 + (1 : Int))))
  else
   some (.ret false)
 else
  some (.jmp 0 s5)
noncomputable def R24_Same (x0 : (List Pair)) (x1 : (List Pair)) : Option Bool :=
 if (x0.length : Int) = (x1.length : Int) then
  (iter (R24_Same_L0 x0 x1) (0 : Int)).bind fun
   | .jmp _ s5_11 =>
    some true
   | .ret r12 =>
    some r12
   | .next _ => none
 else
  some false
def nexts (n : List Pair) (k : Int) : List Int := (n.filter fun p => decide (p.Old = k)).map (·.New)
def compL (m n : List Pair) : List Pair := m.flatMap fun p => (nexts n p.New).map fun z => ⟨p.Old, z⟩
noncomputable def match_Compose (m n : List Pair) : Option (List Pair) :=
 if m.length ≤ 2 ^ 20 ∧ n.length ≤ 2 ^ 20 then (match_tidy (compL m n)).bind fun r => some r.1 else none
noncomputable def R24_Compose_L1 (s0 : (List Pair)) (s1 : (List Pair)) (s6 : Int) : ((List Pair) × Int) → Option (Out ((List Pair) × Int) (List Pair)) := fun (s5, s7) =>
 if s7 < (s1.length : Int) then
  (rd s0 s6).bind fun v3 =>
  (rd s1 s7).bind fun v6 =>
  if v3.New = v6.Old then
   (R24_Insert s5 (Pair.mk v3.Old v6.New)).bind fun r12 =>
   some (.next (r12, w64 (s7 + (1 : Int))))
  else
   some (.next (s5, w64 (s7 + (1 : Int))))
 else
  some (.jmp 2 (s5, s7))
noncomputable def R24_Compose_L0 (s0 : (List Pair)) (s1 : (List Pair)) : ((List Pair) × Int) → Option (Out ((List Pair) × Int) (List Pair)) := fun (s5, s6) =>
 if s6 < (s0.length : Int) then
  (iter (R24_Compose_L1 s0 s1 s6) (s5, (0 : Int))).bind fun
   | .jmp _ (s5_16, s7_16) =>
    some (.next (s5_16, w64 (s6 + (1 : Int))))
   | _ => none
 else
  some (.jmp 0 (s5, s6))
noncomputable def R24_Compose (x0 : (List Pair)) (x1 : (List Pair)) : Option (List Pair) :=
 (iter (R24_Compose_L0 x0 x1) (([] : List Pair), (0 : Int))).bind fun
  | .jmp _ (s5_18, s6_18) =>
   some s5_18
  | _ => none
noncomputable def law24_MatchCombines (x0 : (List Pair)) (x1 : (List Pair)) : Option Bool :=
 if (60 : Int) < (x0.length : Int) then
  (law24_awake).bind fun r2 =>
  some r2
 else
  if (60 : Int) < (x1.length : Int) then
   (law24_awake).bind fun r6 =>
   some r6
  else
   (match_Invert x0).bind fun r9 =>
   (R24_Invert x0).bind fun r12 =>
   (R24_Same r9 r12).bind fun r15 =>
   if r15 = true then
    (match_Compose x0 x1).bind fun r19 =>
    (R24_Compose x0 x1).bind fun r22 =>
    (R24_Same r19 r22).bind fun r25 =>
    if r25 = true then
     (law24_awake).bind fun r29 =>
     some r29
    else
     some false
   else
    some false
end Xr

