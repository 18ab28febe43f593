/- A part of the proof: T. No conditions of its own. -/
import Derived.Test.YtdknlgpdjmjlnaaDoorE5
namespace Xl
open Go Go.Ev
set_option linter.unusedSimpArgs false
set_option linter.unusedVariables false
set_option linter.defProp false
def en_i64 (x : Int) : List Pv := [.v (.int .i64 x)]
theorem en_i64_wk (x : Int) : wks (en_i64 x) = en_i64 x := rfl
def en_str (x : ByteArray) : List Pv := [.v (.string x)]
theorem en_str_eq (x : ByteArray) : en_str x = [.v (.string x)] := rfl
theorem en_str_len (x : ByteArray) : (en_str x).length = 1 := rfl
theorem en_str_wk (x : ByteArray) : wks (en_str x) = en_str x := rfl
theorem wksL_en_i64 (l) : wks (encL en_i64 l) = encL en_i64 l := wks_encL en_i64_wk l
theorem wksL_en_str (l) : wks (encL en_str l) = encL en_str l := wks_encL en_str_wk l
def wkL := And.intro @wksL_en_i64 (@wksL_en_str)
end Xl

namespace Xl
open Go Go.Ev
set_option linter.unusedSimpArgs false
set_option linter.unusedVariables false
set_option linter.defProp false
noncomputable def slices_Equal_string_string_L0 (s0 : (List ByteArray)) (s1 : (List ByteArray)) (s12 : Int) : Int → Option (Out (Int) Bool) := fun s13 =>
  if s13 < s12 then
    (rd s0 s13).bind fun v3 =>
    (rd s1 s13).bind fun v6 =>
    if v3 = v6 then
      some (.next (w64 (s13 + (1 : Int))))
    else
      some (.ret false)
  else
    some (.jmp 0 s13)
noncomputable def slices_Equal_string_string (x0 : (List ByteArray)) (x1 : (List ByteArray)) : Option Bool :=
  if (x0.length : Int) = (x1.length : Int) then
    (iter (slices_Equal_string_string_L0 x0 x1 (x0.length : Int)) (0 : Int)).bind fun
      | .jmp _ s13_11 =>
        some true
      | .ret r12 =>
        some r12
      | .next _ => none
  else
    some false
noncomputable def layout_Equal (x0 : (List ByteArray)) (x1 : (List ByteArray)) : Option Bool :=
  (slices_Equal_string_string x0 x1).bind fun r1 =>
  some r1
noncomputable def slices_Clone_string_string (x0 : (List ByteArray)) : Option (List ByteArray) :=
  if x0.length * 16 ≤ 140737488355328 then
    some x0
  else none
noncomputable def layout_greater (x0 : ByteArray) (x1 : ByteArray) : Option ByteArray :=
  if (x1.size : Int) < (x0.size : Int) then
    some x0
  else
    if (x0.size : Int) = (x1.size : Int) then
      if (strLt x0 x1 || decide (x0 = x1)) = true then
        some x1
      else
        some x0
    else
      some x1
noncomputable def layout_merged (x0 : ByteArray) (x1 : ByteArray) (x2 : ByteArray) : Option ByteArray :=
  if x1 = x2 then
    some x1
  else
    if x2 = x0 then
      some x1
    else
      if x1 = x0 then
        some x2
      else
        (layout_greater x1 x2).bind fun r4 =>
        some r4
noncomputable def layout_Gaps_L0 (s0 : (List ByteArray)) (s1 : (List ByteArray)) (s2 : (List ByteArray)) (s3 : Int) (s34 : Int) : (Int × (List ByteArray)) → Option (Out (Int × (List ByteArray)) (List ByteArray)) := fun (s35, y0) =>
  if s35 < s34 then
    (rd s1 s35).bind fun v27 =>
    if (s0.length : Int) = (s1.length : Int) then
      (rd s0 s35).bind fun v31 =>
      (rd s2 s35).bind fun v35 =>
      (layout_merged v31 v27 v35).bind fun r38 =>
      if (y0.length + 1) * 16 ≤ 140737488355328 then
        some (.next (w64 (s35 + (1 : Int)), (y0 ++ [r38])))
      else none
    else
      (rd s2 s35).bind fun v43 =>
      if v27 = v43 then
        if (y0.length + 1) * 16 ≤ 140737488355328 then
          some (.next (w64 (s35 + (1 : Int)), (y0 ++ [v27])))
        else none
      else
        (layout_greater v27 v43).bind fun r50 =>
        if (y0.length + 1) * 16 ≤ 140737488355328 then
          some (.next (w64 (s35 + (1 : Int)), (y0 ++ [r50])))
        else none
  else
    some (.jmp 1 (s35, y0))
noncomputable def layout_Gaps (x0 : (List ByteArray)) (x1 : (List ByteArray)) (x2 : (List ByteArray)) (x3 : Int) : Option (List ByteArray) :=
  (layout_Equal x1 x2).bind fun r1 =>
  if r1 = true then
    (slices_Clone_string_string x1).bind fun r5 =>
    if (r5.length : Int) = x3 then
      some r5
    else
      some ([] : List ByteArray)
  else
    (layout_Equal x2 x0).bind fun r9 =>
    if r9 = true then
      (slices_Clone_string_string x1).bind fun r13 =>
      if (r13.length : Int) = x3 then
        some r13
      else
        some ([] : List ByteArray)
    else
      (layout_Equal x1 x0).bind fun r17 =>
      if r17 = true then
        (slices_Clone_string_string x2).bind fun r21 =>
        if (r21.length : Int) = x3 then
          some r21
        else
          some ([] : List ByteArray)
      else
        if (x1.length : Int) = (x2.length : Int) then
          (iter (layout_Gaps_L0 x0 x1 x2 x3 (x1.length : Int)) ((0 : Int), ([] : List ByteArray))).bind fun
            | .jmp _ (s35_56, y0_56) =>
              if (y0_56.length : Int) = x3 then
                some y0_56
              else
                some ([] : List ByteArray)
            | _ => none
        else
          if (x1.length : Int) = x3 then
            (slices_Clone_string_string x1).bind fun r59 =>
            if (r59.length : Int) = x3 then
              some r59
            else
              some ([] : List ByteArray)
          else
            if (x2.length : Int) = x3 then
              (slices_Clone_string_string x2).bind fun r64 =>
              if (r64.length : Int) = x3 then
                some r64
              else
                some ([] : List ByteArray)
            else
              if ((0 : Nat) : Int) = x3 then
                some ([] : List ByteArray)
              else
                some ([] : List ByteArray)
noncomputable def R03_Strings_L0 (s0 : (List ByteArray)) (s1 : (List ByteArray)) : Int → Option (Out (Int) Bool) := fun s5 =>
  if s5 < (s0.length : Int) then
    (rd s0 s5).bind fun v3 =>
    (rd s1 s5).bind fun v6 =>
    if v3 = v6 then
      some (.next (w64 (s5 + (1 : Int))))
    else
      some (.ret false)
  else
    some (.jmp 0 s5)
noncomputable def R03_Strings (x0 : (List ByteArray)) (x1 : (List ByteArray)) : Option Bool :=
  if (x0.length : Int) = (x1.length : Int) then
    (iter (R03_Strings_L0 x0 x1) (0 : Int)).bind fun
      | .jmp _ s5_11 =>
        some true
      | .ret r12 =>
        some r12
      | .next _ => none
  else
    some false
noncomputable def law33_awake : Option Bool :=
  some true
noncomputable def law33_LayoutKeeps_L0 (s0 : (List ByteArray)) (s1 : (List ByteArray)) (s2 : (List ByteArray)) (s9 : (List ByteArray)) : Int → Option (Out (Int) Bool) := fun s11 =>
  if s11 < (s9.length : Int) then
    (rd s9 s11).bind fun v114 =>
    (rd s1 s11).bind fun v117 =>
    if v114 = v117 then
      (rd s0 s11).bind fun v121 =>
      if v121 = v117 then
        (rd s2 s11).bind fun v127 =>
        if v114 = v127 then
          if v121 = v127 then
            some (.next (w64 (s11 + (1 : Int))))
          else
            some (.next (w64 (s11 + (1 : Int))))
        else
          some (.ret false)
      else
        (rd s2 s11).bind fun v137 =>
        if v121 = v137 then
          some (.next (w64 (s11 + (1 : Int))))
        else
          some (.next (w64 (s11 + (1 : Int))))
    else
      (rd s2 s11).bind fun v144 =>
      if v114 = v144 then
        (rd s0 s11).bind fun v148 =>
        if v148 = v117 then
          if v148 = v144 then
            some (.ret false)
          else
            some (.next (w64 (s11 + (1 : Int))))
        else
          if v148 = v144 then
            some (.ret false)
          else
            some (.next (w64 (s11 + (1 : Int))))
      else
        some (.ret false)
  else
    some (.jmp 0 s11)
noncomputable def law33_LayoutKeeps (x0 : (List ByteArray)) (x1 : (List ByteArray)) (x2 : (List ByteArray)) (x3 : Int) : Option Bool :=
  (layout_Gaps x0 x1 x2 x3).bind fun r1 =>
  if (r1.length : Int) = (0 : Int) then
    (layout_Gaps x0 x2 x1 x3).bind fun r5 =>
    (R03_Strings r1 r5).bind fun r8 =>
    if r8 = true then
      (layout_Gaps x0 x1 x0 x3).bind fun r12 =>
      if (x1.length : Int) = x3 then
        (R03_Strings r12 x1).bind fun r16 =>
        if r16 = true then
          if (x0.length : Int) = x3 then
            if (x2.length : Int) = x3 then
              if (r1.length : Int) = x3 then
                (iter (law33_LayoutKeeps_L0 x0 x1 x2 r1) (0 : Int)).bind fun
                  | .jmp _ s11_76 =>
                    (law33_awake).bind fun r77 =>
                    some r77
                  | .ret r80 =>
                    some r80
                  | .next _ => none
              else
                some false
            else
              (law33_awake).bind fun r81 =>
              some r81
          else
            (law33_awake).bind fun r84 =>
            some r84
        else
          some false
      else
        if (r12.length : Int) = (0 : Int) then
          if (x0.length : Int) = x3 then
            (law33_awake).bind fun r89 =>
            some r89
          else
            (law33_awake).bind fun r92 =>
            some r92
        else
          some false
    else
      some false
  else
    if (r1.length : Int) = x3 then
      (layout_Gaps x0 x2 x1 x3).bind fun r96 =>
      (R03_Strings r1 r96).bind fun r99 =>
      if r99 = true then
        (layout_Gaps x0 x1 x0 x3).bind fun r103 =>
        if (x1.length : Int) = x3 then
          (R03_Strings r103 x1).bind fun r107 =>
          if r107 = true then
            if (x0.length : Int) = x3 then
              if (x2.length : Int) = x3 then
                (iter (law33_LayoutKeeps_L0 x0 x1 x2 r1) (0 : Int)).bind fun
                  | .jmp _ s11_166 =>
                    (law33_awake).bind fun r167 =>
                    some r167
                  | .ret r170 =>
                    some r170
                  | .next _ => none
              else
                (law33_awake).bind fun r171 =>
                some r171
            else
              (law33_awake).bind fun r174 =>
              some r174
          else
            some false
        else
          if (r103.length : Int) = (0 : Int) then
            if (x0.length : Int) = x3 then
              (law33_awake).bind fun r179 =>
              some r179
            else
              (law33_awake).bind fun r182 =>
              some r182
          else
            some false
      else
        some false
    else
      some false
end Xl

