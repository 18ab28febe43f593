/- A part of the proof: P1. No conditions of its own. -/
import Derived.Test.YtcpenhffpgajoaaP0
namespace Xr
open Go Go.Ev Go.Proofs
set_option linter.unusedSimpArgs false
set_option linter.unusedVariables false
set_option linter.defProp false
set_option maxRecDepth 8000
set_option maxHeartbeats 40000000
def ls38:=And.intro @al_25 (And.intro @zoq (And.intro @zsh (And.intro @zhb (And.intro @zhe (And.intro @zfd (And.intro @zlk (And.intro @ze0 (@zck))))))))
theorem zkt {rec:(List Node)→Node→Option (List Node)} (hrec:∀ x0 x1 r,rec x0 x1=some r→callW Try.prog A0 38 [.ref 0 0 x0.length 4,.p (.agg (zaf x1))] [.arr (encL en_Node x0)]=some (.ref 1 0 r.length 4,[.dead,.arr (encL en_Node r)])) {H:List Ob}{id n:Nat}{b1 b2:Bool}{x0:(List Node)}{x1:Node}{r:(List Node)}:H[id]?=some (.arr (encL en_Node x0))→n=x0.length→∀ (h:rec x0 x1=some r),callD (callW Try.prog A0) A0 H 38 [.ref id 0 n 4,.p (.agg [.v (.int .i64 x1.Kind),.v (.string x1.Text),.lst b1 x1.Gaps.length (encL zeh x1.Gaps),.lst b2 x1.Kids.length (encL en_Node x1.Kids)])]=some (.ref H.length 0 r.length 4,some (H.set id .dead++[.arr (encL en_Node r)])):=by
 intro hid hn h;subst hn;exact zrb (args:=[.agg (zaf x1)]) (by simp only [List.map_cons,List.map_nil,wkDv,wk,wks,wkL]) rfl hid (hrec x0 x1 _ h)
theorem q38_0 {rec:(List Node)→Node→Option (List Node)} (hrec:∀ x0 x1 r,rec x0 x1=some r→callW Try.prog A0 38 [.ref 0 0 x0.length 4,.p (.agg (zaf x1))] [.arr (encL en_Node x0)]=some (.ref 1 0 r.length 4,[.dead,.arr (encL en_Node r)])) {a1:List Node}{a2:Node}{r9001:(List Node)}{X2:Ob} (h9002:rec a1 a2=some r9001):callD (callW Try.prog A0) A0 [.dead,.arr (encL en_Node a1),X2] 38 [.ref 1 0 a1.length 4,.p (.agg (zaf a2))]=some (.ref 3 0 r9001.length 4,some [.dead,.dead,X2,.arr (encL en_Node r9001)]):=zkt hrec (H:=[.dead,.arr (encL en_Node a1),X2]) (id:=1) rfl (by first | rfl | omega) h9002
theorem q38_1 {rec:(List Node)→Node→Option (List Node)} (hrec:∀ x0 x1 r,rec x0 x1=some r→callW Try.prog A0 38 [.ref 0 0 x0.length 4,.p (.agg (zaf x1))] [.arr (encL en_Node x0)]=some (.ref 1 0 r.length 4,[.dead,.arr (encL en_Node r)])) {a1:List Node}{a2:Node}{r9001:(List Node)}{X1:Ob} (h9002:rec a1 a2=some r9001):callD (callW Try.prog A0) A0 [.arr (encL en_Node a1),X1] 38 [.ref 0 0 a1.length 4,.p (.agg (zaf a2))]=some (.ref 2 0 r9001.length 4,some [.dead,X1,.arr (encL en_Node r9001)]):=zkt hrec (H:=[.arr (encL en_Node a1),X1]) (id:=0) rfl (by first | rfl | omega) h9002
noncomputable def L38_0:Code:=(zak (zae Try.f38)).getD 0 .skip
def g38_0:List Ghost:=[.weak [12],.keep [0,12,13,14]]
noncomputable def F38_0 (s12:(List Node)) (s13:Int):(Int×(List Node))→St:=fun (s14,y1)=>⟨[.ref 1 0 y1.length 4,J,J,J,J,J,J,J,J,J,J,J,.p (.lst false s12.length (encL en_Node s12)),iv s13,iv s14,J,J,J,J,J,J,J,J],[.dead,.arr (encL en_Node y1)],1⟩
theorem z8k {rec:(List Node)→Node→Option (List Node)} (hrec:∀ x0 x1 r,rec x0 x1=some r→callW Try.prog A0 38 [.ref 0 0 x0.length 4,.p (.agg (zaf x1))] [.arr (encL en_Node x0)]=some (.ref 1 0 r.length 4,[.dead,.arr (encL en_Node r)])) (s12:(List Node)) (s13:Int):∀ s st o,zaj g38_0 st=some (F38_0 s12 s13 s)→iter (ze6 rec s12 s13) s=some o →
    Wp (evW Try.prog A0 38 (.loop L38_0) st) (OutQ (F38_0 s12 s13) g38_0 (fun n s st=>n=0∧zaj [.keep [0,12,13,14]] st=some (F38_0 s12 s13 s)) (fun r st=>zap Try.prog A0 38 Try.f38 st=some (.ref 1 0 r.length 4,[.dead,.arr (encL en_Node r)])) o):=by
 refine Wp.iter ?_
 intro s st o hg h
 obtain ⟨s14,y1⟩:=s
 unfold ze6 at h;unfold g38_0 F38_0 at hg ⊢
 (try simp only [] at h hg)
 unfold L38_0 zae Try.f38;simp only [zak,ens]
 revert h
 repeat' first | (with_reducible refine gR fun _ _ _ _=>?_) | (with_reducible refine gB fun _ _=>?_) | (with_reducible refine gI (fun _ _=>?_) (fun _ _=>?_))
 all_goals
  intro h;obtain rfl:=Option.some.inj h
  first | (simp (maxSteps:=10000000) (implicitDefEqProofs:=false) (disch:=first | with_reducible assumption | exact rfl | exact im_ _ | (fail_if_success show Kn _ _);omega) only [bs,rs38,ls38,Nat.reduceAdd,↓reduceIte,zal u23,zai a25 z25,zag a25 z25,zab a23,zgh,q38_0 hrec,zcm z25,zdp,zeb,zcl,hg];first | (exact ⟨(rfl:Ex.normal=Ex.normal),by kernel_rfl⟩) | (exact ⟨(rfl:Ex.exit 0=Ex.exit 0),rfl,by kernel_rfl⟩)) | (exfalso;omega)
theorem yhn {rec:(List Node)→Node→Option (List Node)} (hrec:∀ x0 x1 r,rec x0 x1=some r→callW Try.prog A0 38 [.ref 0 0 x0.length 4,.p (.agg (zaf x1))] [.arr (encL en_Node x0)]=some (.ref 1 0 r.length 4,[.dead,.arr (encL en_Node r)]))  (x0:(List Node)) (x1:Node) (r:(List Node)) (h:hash_parts.body rec x0 x1=some r):callW Try.prog A0 38 [.ref 0 0 x0.length 4,.p (.agg (zaf x1))] [.arr (encL en_Node x0)]=some (.ref 1 0 r.length 4,[.dead,.arr (encL en_Node r)]):=by
 refine zax (fn:=Try.f38) (c:=zae Try.f38) 21 rfl rfl (by kernel_rfl) (by kernel_rfl) (by kernel_rfl) ?_
 unfold hash_parts.body at h;unfold zae Try.f38;simp only [ens]
 revert h
 refine gW fun h2=>?_
 have h1:∀ (H:List Ob) (id:Nat),apOb H id 0 x0.length 1 4 4 72 [.v (.int .i64 x1.Kind),.v (.string x1.Text),.lst false x1.Gaps.length (encL zeh x1.Gaps),.lst false x1.Kids.length (encL en_Node x1.Kids)] (some (.arr (encL en_Node x0)))=some (.ref H.length 0 (x0++[x1]).length 4,H.set id .dead++[.arr (encL en_Node (x0++[x1]))]):=fun H id=>zjk (y:=[x1]) zfu (by first | rfl | omega) rfl (by first | (simp only [zbe,zdq,zeg,List.cons_append,List.nil_append];done) | (simp only [zbe,zdq,zeg,List.cons_append,List.nil_append];rfl) | rfl) (by assumption)
 refine gB fun o h10=>?_
 intro h
 simp (maxSteps:=10000000) (implicitDefEqProofs:=false) (disch:=first | with_reducible assumption | exact rfl | exact im_ _ | (fail_if_success show Kn _ _);omega) only [bs,rs38,ls38,Nat.reduceAdd,↓reduceIte,zal u23,zai a25 z25,zag a25 z25,zab a23,zgh,q38_0 hrec,zcm z25,zdp,zeb,zcl,h1]
 refine Wp.ctx (fun x=>seqW _ _ _ _ (za6 _ (x))) (z8k hrec x1.Kids (x1.Kids.length:Int) ((0:Int),(x0++[x1])) _ o (by kernel_rfl) h10) ?_
 intro e st hq
 cases o with
 | next _=>(first | cases h | (simp at h))
 | jmp n_ s_ =>
  obtain ⟨rfl,rfl,hq⟩:=hq
  obtain ⟨s14_11,y1_11⟩:=s_
  unfold F38_0 at hq
  (try simp only [] at h hq)
  revert h
  intro h;obtain rfl:=Option.some.inj h
  simp (maxSteps:=10000000) (implicitDefEqProofs:=false) (disch:=first | with_reducible assumption | exact rfl | exact im_ _ | (fail_if_success show Kn _ _);omega) only [bs,rs38,ls38,Nat.reduceAdd,↓reduceIte,zal u23,zai a25 z25,zag a25 z25,zab a23,zgh,q38_0 hrec,zcm z25,zdp,zeb,zcl,h1,hq]
  refine ⟨by simp, ?_⟩;show _=_;kernel_rfl
 | ret _=>(first | cases h | (simp at h))
def ls38n:=And.intro @al_25 (And.intro @zoq (And.intro @zsh (And.intro @zhb (And.intro @zhe (And.intro @zfd (And.intro @zlk (And.intro @ze0 (@zck))))))))
noncomputable def zur (s12:(List Node)) (s13:Int):(Int×(List Node))→St:=fun (s14,y0)=>⟨[.ref 0 0 y0.length 4,J,J,J,J,J,J,J,J,J,J,J,.p (.lst false s12.length (encL en_Node s12)),iv s13,iv s14,J,J,J,J,J,J,J,J],[.arr (encL en_Node y0)],0⟩
theorem z4m {rec:(List Node)→Node→Option (List Node)} (hrec:∀ x0 x1 r,rec x0 x1=some r→callW Try.prog A0 38 [.ref 0 0 x0.length 4,.p (.agg (zaf x1))] [.arr (encL en_Node x0)]=some (.ref 1 0 r.length 4,[.dead,.arr (encL en_Node r)])) (s12:(List Node)) (s13:Int):∀ s st o,zaj g38_0 st=some (zur s12 s13 s)→iter (ze6 rec s12 s13) s=some o →
    Wp (evW Try.prog A0 38 (.loop L38_0) st) (OutQ (zur s12 s13) g38_0 (fun n s st=>n=0∧zaj [.keep [0,12,13,14]] st=some (zur s12 s13 s)) (fun r st=>zap Try.prog A0 38 Try.f38 st=some (.ref 0 0 r.length 4,[.arr (encL en_Node r)])) o):=by
 refine Wp.iter ?_
 intro s st o hg h
 obtain ⟨s14,y0⟩:=s
 unfold ze6 at h;unfold g38_0 zur at hg ⊢
 (try simp only [] at h hg)
 unfold L38_0 zae Try.f38;simp only [zak,ens]
 revert h
 repeat' first | (with_reducible refine gR fun _ _ _ _=>?_) | (with_reducible refine gB fun _ _=>?_) | (with_reducible refine gI (fun _ _=>?_) (fun _ _=>?_))
 all_goals
  intro h;obtain rfl:=Option.some.inj h
  first | (simp (maxSteps:=10000000) (implicitDefEqProofs:=false) (disch:=first | with_reducible assumption | exact rfl | exact im_ _ | (fail_if_success show Kn _ _);omega) only [bs,rs38,ls38n,Nat.reduceAdd,↓reduceIte,zal u23,zai a25 z25,zag a25 z25,zab a23,zgh,q38_1 hrec,zcm z25,zdp,zeb,zcl,hg];first | (exact ⟨(rfl:Ex.normal=Ex.normal),by kernel_rfl⟩) | (exact ⟨(rfl:Ex.exit 0=Ex.exit 0),rfl,by kernel_rfl⟩)) | (exfalso;omega)
theorem ydg {rec:(List Node)→Node→Option (List Node)} (hrec:∀ x0 x1 r,rec x0 x1=some r→callW Try.prog A0 38 [.ref 0 0 x0.length 4,.p (.agg (zaf x1))] [.arr (encL en_Node x0)]=some (.ref 1 0 r.length 4,[.dead,.arr (encL en_Node r)]))  (x0:(List Node)) (x1:Node) (hx0:x0=[]) (r:(List Node)) (h:hash_parts.body rec x0 x1=some r):callW Try.prog A0 38 [.p (.lst true 0 []),.p (.agg (zaf x1))] []=some (.ref 0 0 r.length 4,[.arr (encL en_Node r)]):=by
 refine zax (fn:=Try.f38) (c:=zae Try.f38) 21 rfl rfl (by kernel_rfl) (by kernel_rfl) (by kernel_rfl) ?_
 unfold hash_parts.body at h;unfold zae Try.f38;simp only [ens]
 have hown:=zse (en:=en_Node) hx0 4
 revert h
 refine gW fun h2=>?_
 have h1:∀ (H:List Ob) (id:Nat),apOb H id 0 x0.length 1 4 4 72 [.v (.int .i64 x1.Kind),.v (.string x1.Text),.lst false x1.Gaps.length (encL zeh x1.Gaps),.lst false x1.Kids.length (encL en_Node x1.Kids)] (some (.arr (encL en_Node x0)))=some (.ref H.length 0 (x0++[x1]).length 4,H.set id .dead++[.arr (encL en_Node (x0++[x1]))]):=fun H id=>zjk (y:=[x1]) zfu (by first | rfl | omega) rfl (by first | (simp only [zbe,zdq,zeg,List.cons_append,List.nil_append];done) | (simp only [zbe,zdq,zeg,List.cons_append,List.nil_append];rfl) | rfl) (by assumption)
 refine gB fun o h10=>?_
 intro h
 simp (maxSteps:=10000000) (implicitDefEqProofs:=false) (disch:=first | with_reducible assumption | exact rfl | exact im_ _ | (fail_if_success show Kn _ _);omega) only [bs,rs38,ls38n,Nat.reduceAdd,↓reduceIte,zal u23,zai a25 z25,zag a25 z25,zab a23,zgh,q38_1 hrec,zcm z25,zdp,zeb,zcl,hown,h1]
 refine Wp.ctx (fun x=>seqW _ _ _ _ (za6 _ (x))) (z4m hrec x1.Kids (x1.Kids.length:Int) ((0:Int),(x0++[x1])) _ o (by kernel_rfl) h10) ?_
 intro e st hq
 cases o with
 | next _=>(first | cases h | (simp at h))
 | jmp n_ s_ =>
  obtain ⟨rfl,rfl,hq⟩:=hq
  obtain ⟨s14_11,y0_11⟩:=s_
  unfold zur at hq
  (try simp only [] at h hq)
  revert h
  intro h;obtain rfl:=Option.some.inj h
  simp (maxSteps:=10000000) (implicitDefEqProofs:=false) (disch:=first | with_reducible assumption | exact rfl | exact im_ _ | (fail_if_success show Kn _ _);omega) only [bs,rs38,ls38n,Nat.reduceAdd,↓reduceIte,zal u23,zai a25 z25,zag a25 z25,zab a23,zgh,q38_1 hrec,zcm z25,zdp,zeb,zcl,hown,h1,hq]
  refine ⟨by simp, ?_⟩;show _=_;kernel_rfl
 | ret _=>(first | cases h | (simp at h))
theorem z88:∀ (x0:(List Node)) (x1:Node) r,zcn x0 x1=some r→callW Try.prog A0 38 [.ref 0 0 x0.length 4,.p (.agg (zaf x1))] [.arr (encL en_Node x0)]=some (.ref 1 0 r.length 4,[.dead,.arr (encL en_Node r)]):=by
 have key:∀ n (x0:(List Node)) (x1:Node) r,zbn x0 x1<n→zcn x0 x1=some r→callW Try.prog A0 38 [.ref 0 0 x0.length 4,.p (.agg (zaf x1))] [.arr (encL en_Node x0)]=some (.ref 1 0 r.length 4,[.dead,.arr (encL en_Node r)]):=by
  intro n
  induction n with
  | zero=>intro x0 x1 r h;omega
  | succ n ih =>
   intro x0 x1 r hn h
   refine yhn (rec:=fun x0' x1'=>if zbn x0' x1'<zbn x0 x1 then zcn x0' x1' else none) ?_ x0 x1 r (zkv x0 x1 r h)
   intro x0' x1' r' h'
   by_cases hm:zbn x0' x1'<zbn x0 x1
   ·rw [if_pos hm] at h';exact ih x0' x1' r' (by omega) h'
   ·rw [if_neg hm] at h';cases h'
 intro x0 x1 r h
 exact key _ x0 x1 r (Nat.lt_succ_self _) h
theorem z06 (x1:Node) r (h:zcn ([]:List Node) x1=some r):callW Try.prog A0 38 [.p (.lst true 0 []),.p (.agg (zaf x1))] []=some (.ref 0 0 r.length 4,[.arr (encL en_Node r)]):=by
 refine ydg (rec:=fun x0' x1'=>if zbn x0' x1'<zbn ([]:List Node) x1 then zcn x0' x1' else none) ?_ ([]:List Node) x1 rfl r (zkv ([]:List Node) x1 r h)
 intro x0' x1' r' h'
 by_cases hm:zbn x0' x1'<zbn ([]:List Node) x1
 ·rw [if_pos hm] at h';exact z88 x0' x1' r' h'
 ·rw [if_neg hm] at h';cases h'
theorem zok {b1 b2:Bool}{H:List Ob}{x1:Node}{r:(List Node)} (h:zcn ([]:List Node) x1=some r):callD (callW Try.prog A0) A0 H 38 [.p (.lst true 0 []),.p (.agg [.v (.int .i64 x1.Kind),.v (.string x1.Text),.lst b1 x1.Gaps.length (encL zeh x1.Gaps),.lst b2 x1.Kids.length (encL en_Node x1.Kids)])]=some (.ref H.length 0 r.length 4,some (H++[.arr (encL en_Node r)])) :=
 zrd (args:=[.lst true 0 [],.agg (zaf x1)]) (by simp only [List.map_cons,List.map_nil,wkDv,wk,wks,wkL]) rfl (z06 x1 _ h)
def ls54:=And.intro @al_25 (And.intro @zhb (And.intro @zhe (And.intro @zfd (And.intro @zlk (And.intro @ze0 (@zck))))))
theorem z1g {rec:Node→Option Int} (hrec:∀ x0 r,rec x0=some r→callW Try.prog A0 54 [.p (.agg (zaf x0))] []=some (.p (.v (.int .i64 r)),[])) {H:List Ob}{a1:Node}{r:Int} (h:rec a1=some r):callD (callW Try.prog A0) A0 H 54 [.p (.agg (zaf a1))]=some (.p (.v (.int .i64 r)),none) :=
 zbi (args:=[.agg (zaf a1)]) rfl rfl rfl (by simp only [List.map_cons,List.map_nil,wk,wks,wkL];exact hrec a1 _ h)
noncomputable def L54_0:Code:=(zak (zae Try.f54)).getD 0 .skip
def g54_0:List Ghost:=[.weak [7],.keep [3,7,8,9]]
noncomputable def F54_0 (s7:(List Node)) (s8:Int):(Int×Int)→St:=fun (s3,s9)=>⟨[J,J,J,iv s3,J,J,J,.p (.lst false s7.length (encL en_Node s7)),iv s8,iv s9,J,J,J,J,J,J,J,J,J],[],0⟩
theorem z96 {rec:Node→Option Int} (hrec:∀ x0 r,rec x0=some r→callW Try.prog A0 54 [.p (.agg (zaf x0))] []=some (.p (.v (.int .i64 r)),[])) (s7:(List Node)) (s8:Int):∀ s st o,zaj g54_0 st=some (F54_0 s7 s8 s)→iter (zhk rec s7 s8) s=some o →
    Wp (evW Try.prog A0 54 (.loop L54_0) st) (OutQ (F54_0 s7 s8) g54_0 (fun n s st=>n=0∧zaj [.keep [3,7,8,9]] st=some (F54_0 s7 s8 s)) (fun r st=>zap Try.prog A0 54 Try.f54 st=some (.p (.v (.int .i64 r)),[])) o):=by
 refine Wp.iter ?_
 intro s st o hg h
 obtain ⟨s3,s9⟩:=s
 unfold zhk at h;unfold g54_0 F54_0 at hg ⊢
 (try simp only [] at h hg)
 unfold L54_0 zae Try.f54;simp only [zak,ens]
 revert h
 repeat' first | (with_reducible refine gR fun _ _ _ _=>?_) | (with_reducible refine gB fun _ _=>?_) | (with_reducible refine gI (fun _ _=>?_) (fun _ _=>?_))
 all_goals
  intro h;obtain rfl:=Option.some.inj h
  first | (simp (maxSteps:=10000000) (implicitDefEqProofs:=false) (disch:=first | with_reducible assumption | exact rfl | exact im_ _ | (fail_if_success show Kn _ _);omega) only [bs,rs54,ls54,Nat.reduceAdd,↓reduceIte,z1g hrec,zal u23,zai a25 z25,zag a25 z25,zab a23,zcm z25,hg];first | (exact ⟨(rfl:Ex.normal=Ex.normal),by kernel_rfl⟩) | (exact ⟨(rfl:Ex.exit 0=Ex.exit 0),rfl,by kernel_rfl⟩)) | (exfalso;omega)
theorem ykm {rec:Node→Option Int} (hrec:∀ x0 r,rec x0=some r→callW Try.prog A0 54 [.p (.agg (zaf x0))] []=some (.p (.v (.int .i64 r)),[]))  (x0:Node) (r:Int) (h:tree_Size.body rec x0=some r):callW Try.prog A0 54 [.p (.agg (zaf x0))] []=some (.p (.v (.int .i64 r)),[]):=by
 refine zax (fn:=Try.f54) (c:=zae Try.f54) 18 rfl rfl (by kernel_rfl) (by kernel_rfl) (by kernel_rfl) ?_
 unfold tree_Size.body at h;unfold zae Try.f54;simp only [ens]
 revert h
 refine gB fun o h8=>?_
 intro h
 simp (maxSteps:=10000000) (implicitDefEqProofs:=false) (disch:=first | with_reducible assumption | exact rfl | exact im_ _ | (fail_if_success show Kn _ _);omega) only [bs,rs54,ls54,Nat.reduceAdd,↓reduceIte,z1g hrec,zal u23,zai a25 z25,zag a25 z25,zab a23,zcm z25]
 refine Wp.ctx (fun x=>seqW _ _ _ _ (za6 _ (x))) (z96 hrec x0.Kids (x0.Kids.length:Int) ((1:Int),(0:Int)) _ o (by kernel_rfl) h8) ?_
 intro e st hq
 cases o with
 | next _=>(first | cases h | (simp at h))
 | jmp n_ s_ =>
  obtain ⟨rfl,rfl,hq⟩:=hq
  obtain ⟨s3_9,s9_9⟩:=s_
  unfold F54_0 at hq
  (try simp only [] at h hq)
  revert h
  intro h;obtain rfl:=Option.some.inj h
  simp (maxSteps:=10000000) (implicitDefEqProofs:=false) (disch:=first | with_reducible assumption | exact rfl | exact im_ _ | (fail_if_success show Kn _ _);omega) only [bs,rs54,ls54,Nat.reduceAdd,↓reduceIte,z1g hrec,zal u23,zai a25 z25,zag a25 z25,zab a23,zcm z25,hq]
  refine ⟨by simp, ?_⟩;exact zdk rfl rfl rfl rfl
 | ret _=>(first | cases h | (simp at h))
theorem z75:∀ (x0:Node) r,zf1 x0=some r→callW Try.prog A0 54 [.p (.agg (zaf x0))] []=some (.p (.v (.int .i64 r)),[]):=by
 have key:∀ n (x0:Node) r,zem x0<n→zf1 x0=some r→callW Try.prog A0 54 [.p (.agg (zaf x0))] []=some (.p (.v (.int .i64 r)),[]):=by
  intro n
  induction n with
  | zero=>intro x0 r h;omega
  | succ n ih =>
   intro x0 r hn h
   refine ykm (rec:=fun x0'=>if zem x0'<zem x0 then zf1 x0' else none) ?_ x0 r (zpb x0 r h)
   intro x0' r' h'
   by_cases hm:zem x0'<zem x0
   ·rw [if_pos hm] at h';exact ih x0' r' (by omega) h'
   ·rw [if_neg hm] at h';cases h'
 intro x0 r h
 exact key _ x0 r (Nat.lt_succ_self _) h
def ls40:=And.intro @al_25 (And.intro @zhe (And.intro @z0x (And.intro @zfd (And.intro @mk_40 (And.intro @zlk (And.intro @ycw (@zck)))))))
theorem c54_1 {H:List Ob}{a1:Node}{r:Int} (h:zf1 a1=some r):callD (callW Try.prog A0) A0 H 54 [.p (.agg (zaf a1))]=some (.p (.v (.int .i64 r)),none) :=
 zbi (args:=[.agg (zaf a1)]) rfl rfl rfl (by simp only [List.map_cons,List.map_nil,wk,wks,wkL];exact z75 a1 _ h)
noncomputable def L40_0:Code:=(zak (zae Try.f40)).getD 0 .skip
def g40_0:List Ghost:=[.weak [9],.keep [3,9,10,11]]
noncomputable def F40_0 (s9:(List Node)) (s10:Int):(Int×(List Int))→St:=fun (s11,y0)=>⟨[J,J,J,.ref 0 0 y0.length 1,J,J,J,J,J,.p (.lst false s9.length (encL en_Node s9)),iv s10,iv s11,J,J,J,J,J,J,J,J,J,J,J],[.arr (encL zad y0)],0⟩
theorem z9q (s9:(List Node)) (s10:Int):∀ s st o,zaj g40_0 st=some (F40_0 s9 s10 s)→iter (zg3 s9 s10) s=some o →
    Wp (evW Try.prog A0 40 (.loop L40_0) st) (OutQ (F40_0 s9 s10) g40_0 (fun n s st=>n=0∧zaj [.keep [3,9,10,11]] st=some (F40_0 s9 s10 s)) (fun r st=>zap Try.prog A0 40 Try.f40 st=some (.p (.lst false r.length (encL zad r)),[])) o):=by
 refine Wp.iter ?_
 intro s st o hg h
 obtain ⟨s11,y0⟩:=s
 unfold zg3 at h;unfold g40_0 F40_0 at hg ⊢
 (try simp only [] at h hg)
 unfold L40_0 zae Try.f40;simp only [zak,ens]
 revert h
 repeat' first | (with_reducible refine gR fun _ _ _ _=>?_) | (with_reducible refine gB fun _ _=>?_) | (with_reducible refine gI (fun _ _=>?_) (fun _ _=>?_))
 all_goals
  intro h;obtain rfl:=Option.some.inj h
  first | (simp (maxSteps:=10000000) (implicitDefEqProofs:=false) (disch:=first | with_reducible assumption | exact rfl | exact im_ _ | (fail_if_success show Kn _ _);omega | (show (_:Int)<_;simp only [List.length_set,zbv] at *;omega)) only [bs,rs40,ls40,Nat.reduceAdd,↓reduceIte,c54_1,zal u23,zai a25 z25,zag a25 z25,zcm z25,zdx z3,hg];first | (exact ⟨(rfl:Ex.normal=Ex.normal),by (try simp only [List.length_set,zbv]);kernel_rfl⟩) | (exact ⟨(rfl:Ex.exit 0=Ex.exit 0),rfl,by kernel_rfl⟩)) | (exfalso;omega)
theorem yi0  (x0:(List Node)) (r:(List Int)) (h:zkb x0=some r):callW Try.prog A0 40 [.p (.lst false x0.length (encL en_Node x0))] []=some (.p (.lst false r.length (encL zad r)),[]):=by
 refine zax (fn:=Try.f40) (c:=zae Try.f40) 22 rfl rfl (by kernel_rfl) (by kernel_rfl) (by kernel_rfl) ?_
 unfold zkb at h;unfold zae Try.f40;simp only [ens]
 revert h
 refine gW fun ⟨h1,h2⟩=>?_
 refine gB fun o h14=>?_
 intro h
 simp (maxSteps:=10000000) (implicitDefEqProofs:=false) (disch:=first | with_reducible assumption | exact rfl | exact im_ _ | (fail_if_success show Kn _ _);omega | (show (_:Int)<_;simp only [List.length_set,zbv] at *;omega)) only [bs,rs40,ls40,Nat.reduceAdd,↓reduceIte,c54_1,zal u23,zai a25 z25,zag a25 z25,zcm z25,zdx z3]
 refine Wp.ctx (fun x=>seqW _ _ _ _ (za6 _ (x))) (z9q x0 (x0.length:Int) ((0:Int),(List.replicate (x0.length:Int).toNat (0:Int))) _ o (by kernel_rfl) h14) ?_
 intro e st hq
 cases o with
 | next _=>(first | cases h | (simp at h))
 | jmp n_ s_ =>
  obtain ⟨rfl,rfl,hq⟩:=hq
  obtain ⟨s11_15,y0_15⟩:=s_
  unfold F40_0 at hq
  (try simp only [] at h hq)
  revert h
  intro h;obtain rfl:=Option.some.inj h
  simp (maxSteps:=10000000) (implicitDefEqProofs:=false) (disch:=first | with_reducible assumption | exact rfl | exact im_ _ | (fail_if_success show Kn _ _);omega | (show (_:Int)<_;simp only [List.length_set,zbv] at *;omega)) only [bs,rs40,ls40,Nat.reduceAdd,↓reduceIte,c54_1,zal u23,zai a25 z25,zag a25 z25,zcm z25,zdx z3,hq]
  refine ⟨by simp, ?_⟩;exact zhu (l:=[0]) rfl rfl rfl (zhg zfz rfl (by first | rfl | omega | simp)) (by first | rfl | (simp only [wk,wks,wkL];first | done | rfl))
 | ret _=>(first | cases h | (simp at h))
def ls34:=And.intro @zoz (@zkq)
theorem yih  (x0:Node) (r:ByteArray) (h:zbt x0=some r):callW Try.prog A0 34 [.p (.agg (zaf x0))] []=some (.p (.v (.string r)),[]):=by
 refine zax (fn:=Try.f34) (c:=zae Try.f34) 4 rfl rfl (by kernel_rfl) (by kernel_rfl) (by kernel_rfl) ?_
 unfold zbt at h;unfold zae Try.f34;simp only [ens]
 revert h
 intro h;obtain rfl:=Option.some.inj h
 simp (maxSteps:=10000000) (implicitDefEqProofs:=false) (disch:=first | with_reducible assumption | exact rfl | exact im_ _ | (fail_if_success show Kn _ _);omega) only [bs,rs34,ls34,Nat.reduceAdd,↓reduceIte,zab a9]
 refine ⟨by simp, ?_⟩;exact zdk rfl rfl rfl rfl
def zwk:=And.intro @al_25 (And.intro @zx9 (And.intro @z0r (And.intro @z3u (And.intro @zop (And.intro @zhb (And.intro @zhe (And.intro @z4z (And.intro @zfd (And.intro @zlk (And.intro @zyy (And.intro @zkr (And.intro @ze0 (@zck)))))))))))))
theorem zjw {rec:(List Int)→Node→Option ((List Int)×Int)} (hrec:∀ x0 x1 r,rec x0 x1=some r→callW Try.prog A0 33 [.ref 0 0 x0.length 1,.p (.agg (zaf x1)),.p (.fn (.func 34) [])] [.arr (encL zbl x0)]=some (.tup [.ref 1 0 r.1.length 1,.p (.v (.int .u64 r.2))],[.dead,.arr (encL zbl r.1)])) {H:List Ob}{id n:Nat}{b1 b2:Bool}{x0:(List Int)}{x1:Node}{r:((List Int)×Int)}:H[id]?=some (.arr (encL zbl x0))→n=x0.length→∀ (h:rec x0 x1=some r),callD (callW Try.prog A0) A0 H 33 [.ref id 0 n 1,.p (.agg [.v (.int .i64 x1.Kind),.v (.string x1.Text),.lst b1 x1.Gaps.length (encL zeh x1.Gaps),.lst b2 x1.Kids.length (encL en_Node x1.Kids)]),.p (.fn (.func 34) [])]=some (.tup [.ref H.length 0 r.1.length 1,.p (.v (.int .u64 r.2))],some (H.set id .dead++[.arr (encL zbl r.1)])):=by
 intro hid hn h;subst hn;exact zvo (args:=[.agg (zaf x1),.fn (.func 34) []]) (ps:=[.v (.int .u64 r.2)]) (by simp only [List.map_cons,List.map_nil,wkDv,wk,wks,wkL]) rfl hid (hrec x0 x1 _ h)
theorem c34_0 {H:List Ob}{a1:Node}{r:ByteArray} (h:zbt a1=some r):callD (callW Try.prog A0) A0 H 34 [.p (.agg (zaf a1))]=some (.p (.v (.string r)),none) :=
 zbi (args:=[.agg (zaf a1)]) rfl rfl rfl (by simp only [List.map_cons,List.map_nil,wk,wks,wkL];exact yih a1 _ h)
theorem c50_0 {H:List Ob}{a1:ByteArray}{r:Int} (h:zi4 a1=some r):callD (callW Try.prog A0) A0 H 50 [.p (.v (.string a1))]=some (.p (.v (.int .u64 r)),none) :=
 zbi (args:=[.v (.string a1)]) rfl rfl rfl (by simp only [List.map_cons,List.map_nil,wk,wks,wkL];exact ybd a1 _ h)
theorem c49_0 {H:List Ob}{a1 a2:Int}{r:Int} (h:zhq a1 a2=some r):callD (callW Try.prog A0) A0 H 49 [.p (.v (.int .u64 a1)),.p (.v (.int .u64 a2))]=some (.p (.v (.int .u64 r)),none) :=
 zbi (args:=[.v (.int .u64 a1),.v (.int .u64 a2)]) rfl rfl rfl (by simp only [List.map_cons,List.map_nil,wk,wks,wkL];exact yat a1 a2 _ h)
theorem q33_0 {rec:(List Int)→Node→Option ((List Int)×Int)} (hrec:∀ x0 x1 r,rec x0 x1=some r→callW Try.prog A0 33 [.ref 0 0 x0.length 1,.p (.agg (zaf x1)),.p (.fn (.func 34) [])] [.arr (encL zbl x0)]=some (.tup [.ref 1 0 r.1.length 1,.p (.v (.int .u64 r.2))],[.dead,.arr (encL zbl r.1)])) {a1:List Int}{a2:Node}{r9001:((List Int)×Int)}{X2 X3:Ob} (h9002:rec a1 a2=some r9001):callD (callW Try.prog A0) A0 [.dead,.arr (encL zbl a1),X2,X3] 33 [.ref 1 0 a1.length 1,.p (.agg (zaf a2)),.p (.fn (.func 34) [])]=some (.tup [.ref 4 0 r9001.1.length 1,.p (.v (.int .u64 r9001.2))],some [.dead,.dead,X2,X3,.arr (encL zbl r9001.1)]):=zjw hrec (H:=[.dead,.arr (encL zbl a1),X2,X3]) (id:=1) rfl (by first | rfl | omega) h9002
theorem q33_1 {rec:(List Int)→Node→Option ((List Int)×Int)} (hrec:∀ x0 x1 r,rec x0 x1=some r→callW Try.prog A0 33 [.ref 0 0 x0.length 1,.p (.agg (zaf x1)),.p (.fn (.func 34) [])] [.arr (encL zbl x0)]=some (.tup [.ref 1 0 r.1.length 1,.p (.v (.int .u64 r.2))],[.dead,.arr (encL zbl r.1)])) {a1:List Int}{a2:Node}{r9001:((List Int)×Int)}{X1 X2:Ob} (h9002:rec a1 a2=some r9001):callD (callW Try.prog A0) A0 [.arr (encL zbl a1),X1,X2] 33 [.ref 0 0 a1.length 1,.p (.agg (zaf a2)),.p (.fn (.func 34) [])]=some (.tup [.ref 3 0 r9001.1.length 1,.p (.v (.int .u64 r9001.2))],some [.dead,X1,X2,.arr (encL zbl r9001.1)]):=zjw hrec (H:=[.arr (encL zbl a1),X1,X2]) (id:=0) rfl (by first | rfl | omega) h9002
noncomputable def L33_0:Code:=(zak (zae Try.f33)).getD 0 .skip
def g33_0:List Ghost:=[.weak [27],.keep [0,2,4,8,9,27,28,29]]
noncomputable def zna (s8:Int) (s27:(List Node)) (s28:Int) (w2_0:Int) (w2_1:ByteArray) (w2_2:(List ByteArray)) (w2_3:(List Node)):(Int×Int×(List Int))→St:=fun (s9,s29,y1)=>⟨[.ref 1 0 y1.length 1,J,.p (.fn (.func 34) []),J,.ptr 2 0,J,J,J,iv s8,.p (.v (.int .u64 s9)),J,J,J,J,J,J,J,J,J,J,J,J,J,J,J,J,J,.p (.lst false s27.length (encL en_Node s27)),iv s28,iv s29,J,J,J,J,J,J,J,J,J,J,J,J,J,J,J,J,J,J,J,J,J,J,J,J,J,J],[.dead,.arr (encL zbl y1),.var [iv w2_0,.p (.v (.string w2_1)),.p (.lst false w2_2.length (encL zeh w2_2)),.p (.lst false w2_3.length (encL en_Node w2_3))]],1⟩
theorem zv9 {rec:(List Int)→Node→Option ((List Int)×Int)} (hrec:∀ x0 x1 r,rec x0 x1=some r→callW Try.prog A0 33 [.ref 0 0 x0.length 1,.p (.agg (zaf x1)),.p (.fn (.func 34) [])] [.arr (encL zbl x0)]=some (.tup [.ref 1 0 r.1.length 1,.p (.v (.int .u64 r.2))],[.dead,.arr (encL zbl r.1)])) (s8:Int) (s27:(List Node)) (s28:Int) (w2_0:Int) (w2_1:ByteArray) (w2_2:(List ByteArray)) (w2_3:(List Node)):∀ s st o,zaj g33_0 st=some (zna s8 s27 s28 w2_0 w2_1 w2_2 w2_3 s)→iter (zfr rec zbt s8 s27 s28 w2_0 w2_1 w2_2 w2_3) s=some o →
    Wp (evW Try.prog A0 33 (.loop L33_0) st) (OutQ (zna s8 s27 s28 w2_0 w2_1 w2_2 w2_3) g33_0 (fun n s st=>n=0∧zaj [.keep [0,2,4,8,9,27,28,29]] st=some (zna s8 s27 s28 w2_0 w2_1 w2_2 w2_3 s)) (fun r st=>zap Try.prog A0 33 Try.f33 st=some (.tup [.ref 1 0 r.1.length 1,.p (.v (.int .u64 r.2))],[.dead,.arr (encL zbl r.1)])) o):=by
 refine Wp.iter ?_
 intro s st o hg h
 obtain ⟨s9,s29,y1⟩:=s
 unfold zfr at h;unfold g33_0 zna at hg ⊢
 (try simp only [] at h hg)
 unfold L33_0 zae Try.f33;simp only [zak,ens]
 revert h
 repeat' first | (with_reducible refine gR fun _ _ _ _=>?_) | (with_reducible refine gB fun _ _=>?_) | (with_reducible refine gI (fun _ _=>?_) (fun _ _=>?_))
 all_goals
  intro h;obtain rfl:=Option.some.inj h
  first | (simp (maxSteps:=10000000) (implicitDefEqProofs:=false) (disch:=first | with_reducible assumption | exact rfl | exact im_ _ | (fail_if_success show Kn _ _);omega | (show (_:Int)<_;simp only [List.length_set,zbv] at *;omega)) only [bs,rs33,zwk,Nat.reduceAdd,↓reduceIte,c34_0,c49_0,c50_0,zma,zmi,zal u23,zf7 u29,zai a25 z25,zag a25 z25,zab a23,zab a3,zgh,q33_0 hrec,zcm z25,zdx z50,zcl,hg];first | (exact ⟨(rfl:Ex.normal=Ex.normal),by kernel_rfl⟩) | (exact ⟨(rfl:Ex.exit 0=Ex.exit 0),rfl,by kernel_rfl⟩)) | (exfalso;omega)
theorem z01 {rec:(List Int)→Node→Option ((List Int)×Int)} (hrec:∀ x0 x1 r,rec x0 x1=some r→callW Try.prog A0 33 [.ref 0 0 x0.length 1,.p (.agg (zaf x1)),.p (.fn (.func 34) [])] [.arr (encL zbl x0)]=some (.tup [.ref 1 0 r.1.length 1,.p (.v (.int .u64 r.2))],[.dead,.arr (encL zbl r.1)]))  (x0:(List Int)) (x1:Node) (r:((List Int)×Int)) (h:hash_fill.body rec zbt x0 x1=some r):callW Try.prog A0 33 [.ref 0 0 x0.length 1,.p (.agg (zaf x1)),.p (.fn (.func 34) [])] [.arr (encL zbl x0)]=some (.tup [.ref 1 0 r.1.length 1,.p (.v (.int .u64 r.2))],[.dead,.arr (encL zbl r.1)]):=by
 refine zax (fn:=Try.f33) (c:=zae Try.f33) 53 rfl rfl (by kernel_rfl) (by kernel_rfl) (by kernel_rfl) ?_
 unfold hash_fill.body at h;unfold zae Try.f33;simp only [ens]
 revert h
 refine gW fun h2=>?_
 have h1:∀ (H:List Ob) (id:Nat),apOb H id 0 x0.length 1 1 1 8 [.v (.int .u64 (0:Int))] (some (.arr (encL zbl x0)))=some (.ref H.length 0 (x0++[(0:Int)]).length 1,H.set id .dead++[.arr (encL zbl (x0++[(0:Int)]))]):=fun H id=>zjk (y:=[(0:Int)]) zi0 (by first | rfl | omega) rfl (by first | (simp only [zbe,zdq,zi9,List.cons_append,List.nil_append];done) | (simp only [zbe,zdq,zi9,List.cons_append,List.nil_append];rfl) | rfl) (by assumption)
 refine gB fun r3 h4=>?_
 refine gB fun r6 h7=>?_
 refine gB fun r9 h10=>?_
 refine gB fun o h22=>?_
 intro h
 simp (maxSteps:=10000000) (implicitDefEqProofs:=false) (disch:=first | with_reducible assumption | exact rfl | exact im_ _ | (fail_if_success show Kn _ _);omega | (show (_:Int)<_;simp only [List.length_set,zbv] at *;omega)) only [bs,rs33,zwk,Nat.reduceAdd,↓reduceIte,c34_0,c49_0,c50_0,zma,zmi,zal u23,zf7 u29,zai a25 z25,zag a25 z25,zab a23,zab a3,zgh,q33_0 hrec,zcm z25,zdx z50,zcl,h1]
 refine Wp.ctx (fun x=>seqW _ _ _ _ (za6 _ (x))) (zv9 hrec (x0.length:Int) x1.Kids (x1.Kids.length:Int) x1.Kind x1.Text x1.Gaps x1.Kids (r9,(0:Int),(x0++[(0:Int)])) _ o (by kernel_rfl) h22) ?_
 intro e st hq
 cases o with
 | next _=>(first | cases h | (simp at h))
 | jmp n_ s_ =>
  obtain ⟨rfl,rfl,hq⟩:=hq
  obtain ⟨s9_23,s29_23,y1_23⟩:=s_
  unfold zna at hq
  (try simp only [] at h hq)
  revert h
  repeat' first | (with_reducible refine gR fun _ _ _ _=>?_) | (with_reducible refine gB fun _ _=>?_)
  intro h;obtain rfl:=Option.some.inj h
  simp (maxSteps:=10000000) (implicitDefEqProofs:=false) (disch:=first | with_reducible assumption | exact rfl | exact im_ _ | (fail_if_success show Kn _ _);omega | (show (_:Int)<_;simp only [List.length_set,zbv] at *;omega)) only [bs,rs33,zwk,Nat.reduceAdd,↓reduceIte,c34_0,c49_0,c50_0,zma,zmi,zal u23,zf7 u29,zai a25 z25,zag a25 z25,zab a23,zab a3,zgh,q33_0 hrec,zcm z25,zdx z50,zcl,h1,hq]
  refine ⟨by simp, ?_⟩;show _=_;simp only [List.length_set,zbv];kernel_rfl
 | ret _=>(first | cases h | (simp at h))
def zr3:=And.intro @al_25 (And.intro @zx9 (And.intro @z0r (And.intro @z3u (And.intro @zop (And.intro @zhb (And.intro @zhe (And.intro @z4z (And.intro @zfd (And.intro @zlk (And.intro @zyy (And.intro @zkr (And.intro @ze0 (@zck)))))))))))))
noncomputable def zle (s8:Int) (s27:(List Node)) (s28:Int) (w1_0:Int) (w1_1:ByteArray) (w1_2:(List ByteArray)) (w1_3:(List Node)):(Int×Int×(List Int))→St:=fun (s9,s29,y0)=>⟨[.ref 0 0 y0.length 1,J,.p (.fn (.func 34) []),J,.ptr 1 0,J,J,J,iv s8,.p (.v (.int .u64 s9)),J,J,J,J,J,J,J,J,J,J,J,J,J,J,J,J,J,.p (.lst false s27.length (encL en_Node s27)),iv s28,iv s29,J,J,J,J,J,J,J,J,J,J,J,J,J,J,J,J,J,J,J,J,J,J,J,J,J,J],[.arr (encL zbl y0),.var [iv w1_0,.p (.v (.string w1_1)),.p (.lst false w1_2.length (encL zeh w1_2)),.p (.lst false w1_3.length (encL en_Node w1_3))]],0⟩
theorem zug {rec:(List Int)→Node→Option ((List Int)×Int)} (hrec:∀ x0 x1 r,rec x0 x1=some r→callW Try.prog A0 33 [.ref 0 0 x0.length 1,.p (.agg (zaf x1)),.p (.fn (.func 34) [])] [.arr (encL zbl x0)]=some (.tup [.ref 1 0 r.1.length 1,.p (.v (.int .u64 r.2))],[.dead,.arr (encL zbl r.1)])) (s8:Int) (s27:(List Node)) (s28:Int) (w1_0:Int) (w1_1:ByteArray) (w1_2:(List ByteArray)) (w1_3:(List Node)):∀ s st o,zaj g33_0 st=some (zle s8 s27 s28 w1_0 w1_1 w1_2 w1_3 s)→iter (zfr rec zbt s8 s27 s28 w1_0 w1_1 w1_2 w1_3) s=some o →
    Wp (evW Try.prog A0 33 (.loop L33_0) st) (OutQ (zle s8 s27 s28 w1_0 w1_1 w1_2 w1_3) g33_0 (fun n s st=>n=0∧zaj [.keep [0,2,4,8,9,27,28,29]] st=some (zle s8 s27 s28 w1_0 w1_1 w1_2 w1_3 s)) (fun r st=>zap Try.prog A0 33 Try.f33 st=some (.tup [.ref 0 0 r.1.length 1,.p (.v (.int .u64 r.2))],[.arr (encL zbl r.1)])) o):=by
 refine Wp.iter ?_
 intro s st o hg h
 obtain ⟨s9,s29,y0⟩:=s
 unfold zfr at h;unfold g33_0 zle at hg ⊢
 (try simp only [] at h hg)
 unfold L33_0 zae Try.f33;simp only [zak,ens]
 revert h
 repeat' first | (with_reducible refine gR fun _ _ _ _=>?_) | (with_reducible refine gB fun _ _=>?_) | (with_reducible refine gI (fun _ _=>?_) (fun _ _=>?_))
 all_goals
  intro h;obtain rfl:=Option.some.inj h
  first | (simp (maxSteps:=10000000) (implicitDefEqProofs:=false) (disch:=first | with_reducible assumption | exact rfl | exact im_ _ | (fail_if_success show Kn _ _);omega | (show (_:Int)<_;simp only [List.length_set,zbv] at *;omega)) only [bs,rs33,zr3,Nat.reduceAdd,↓reduceIte,c34_0,c49_0,c50_0,zma,zmi,zal u23,zf7 u29,zai a25 z25,zag a25 z25,zab a23,zab a3,zgh,q33_1 hrec,zcm z25,zdx z50,zcl,hg];first | (exact ⟨(rfl:Ex.normal=Ex.normal),by kernel_rfl⟩) | (exact ⟨(rfl:Ex.exit 0=Ex.exit 0),rfl,by kernel_rfl⟩)) | (exfalso;omega)
theorem zzx {rec:(List Int)→Node→Option ((List Int)×Int)} (hrec:∀ x0 x1 r,rec x0 x1=some r→callW Try.prog A0 33 [.ref 0 0 x0.length 1,.p (.agg (zaf x1)),.p (.fn (.func 34) [])] [.arr (encL zbl x0)]=some (.tup [.ref 1 0 r.1.length 1,.p (.v (.int .u64 r.2))],[.dead,.arr (encL zbl r.1)]))  (x0:(List Int)) (x1:Node) (hx0:x0=[]) (r:((List Int)×Int)) (h:hash_fill.body rec zbt x0 x1=some r):callW Try.prog A0 33 [.p (.lst true 0 []),.p (.agg (zaf x1)),.p (.fn (.func 34) [])] []=some (.tup [.ref 0 0 r.1.length 1,.p (.v (.int .u64 r.2))],[.arr (encL zbl r.1)]):=by
 refine zax (fn:=Try.f33) (c:=zae Try.f33) 53 rfl rfl (by kernel_rfl) (by kernel_rfl) (by kernel_rfl) ?_
 unfold hash_fill.body at h;unfold zae Try.f33;simp only [ens]
 have hown:=zse (en:=zbl) hx0 1
 revert h
 refine gW fun h2=>?_
 have h1:∀ (H:List Ob) (id:Nat),apOb H id 0 x0.length 1 1 1 8 [.v (.int .u64 (0:Int))] (some (.arr (encL zbl x0)))=some (.ref H.length 0 (x0++[(0:Int)]).length 1,H.set id .dead++[.arr (encL zbl (x0++[(0:Int)]))]):=fun H id=>zjk (y:=[(0:Int)]) zi0 (by first | rfl | omega) rfl (by first | (simp only [zbe,zdq,zi9,List.cons_append,List.nil_append];done) | (simp only [zbe,zdq,zi9,List.cons_append,List.nil_append];rfl) | rfl) (by assumption)
 refine gB fun r3 h4=>?_
 refine gB fun r6 h7=>?_
 refine gB fun r9 h10=>?_
 refine gB fun o h22=>?_
 intro h
 simp (maxSteps:=10000000) (implicitDefEqProofs:=false) (disch:=first | with_reducible assumption | exact rfl | exact im_ _ | (fail_if_success show Kn _ _);omega | (show (_:Int)<_;simp only [List.length_set,zbv] at *;omega)) only [bs,rs33,zr3,Nat.reduceAdd,↓reduceIte,c34_0,c49_0,c50_0,zma,zmi,zal u23,zf7 u29,zai a25 z25,zag a25 z25,zab a23,zab a3,zgh,q33_1 hrec,zcm z25,zdx z50,zcl,hown,h1]
 refine Wp.ctx (fun x=>seqW _ _ _ _ (za6 _ (x))) (zug hrec (x0.length:Int) x1.Kids (x1.Kids.length:Int) x1.Kind x1.Text x1.Gaps x1.Kids (r9,(0:Int),(x0++[(0:Int)])) _ o (by kernel_rfl) h22) ?_
 intro e st hq
 cases o with
 | next _=>(first | cases h | (simp at h))
 | jmp n_ s_ =>
  obtain ⟨rfl,rfl,hq⟩:=hq
  obtain ⟨s9_23,s29_23,y0_23⟩:=s_
  unfold zle at hq
  (try simp only [] at h hq)
  revert h
  repeat' first | (with_reducible refine gR fun _ _ _ _=>?_) | (with_reducible refine gB fun _ _=>?_)
  intro h;obtain rfl:=Option.some.inj h
  simp (maxSteps:=10000000) (implicitDefEqProofs:=false) (disch:=first | with_reducible assumption | exact rfl | exact im_ _ | (fail_if_success show Kn _ _);omega | (show (_:Int)<_;simp only [List.length_set,zbv] at *;omega)) only [bs,rs33,zr3,Nat.reduceAdd,↓reduceIte,c34_0,c49_0,c50_0,zma,zmi,zal u23,zf7 u29,zai a25 z25,zag a25 z25,zab a23,zab a3,zgh,q33_1 hrec,zcm z25,zdx z50,zcl,hown,h1,hq]
  refine ⟨by simp, ?_⟩;show _=_;simp only [List.length_set,zbv];kernel_rfl
 | ret _=>(first | cases h | (simp at h))
theorem zwz:∀ (x0:(List Int)) (x1:Node) r,zdw zbt x0 x1=some r→callW Try.prog A0 33 [.ref 0 0 x0.length 1,.p (.agg (zaf x1)),.p (.fn (.func 34) [])] [.arr (encL zbl x0)]=some (.tup [.ref 1 0 r.1.length 1,.p (.v (.int .u64 r.2))],[.dead,.arr (encL zbl r.1)]):=by
 have key:∀ n (x0:(List Int)) (x1:Node) r,zbz x0 x1<n→zdw zbt x0 x1=some r→callW Try.prog A0 33 [.ref 0 0 x0.length 1,.p (.agg (zaf x1)),.p (.fn (.func 34) [])] [.arr (encL zbl x0)]=some (.tup [.ref 1 0 r.1.length 1,.p (.v (.int .u64 r.2))],[.dead,.arr (encL zbl r.1)]):=by
  intro n
  induction n with
  | zero=>intro x0 x1 r h;omega
  | succ n ih =>
   intro x0 x1 r hn h
   refine z01 (rec:=fun x0' x1'=>if zbz x0' x1'<zbz x0 x1 then zdw zbt x0' x1' else none) ?_ x0 x1 r (zk3 zbt x0 x1 r h)
   intro x0' x1' r' h'
   by_cases hm:zbz x0' x1'<zbz x0 x1
   ·rw [if_pos hm] at h';exact ih x0' x1' r' (by omega) h'
   ·rw [if_neg hm] at h';cases h'
 intro x0 x1 r h
 exact key _ x0 x1 r (Nat.lt_succ_self _) h
theorem zuk (x1:Node) r (h:zdw zbt ([]:List Int) x1=some r):callW Try.prog A0 33 [.p (.lst true 0 []),.p (.agg (zaf x1)),.p (.fn (.func 34) [])] []=some (.tup [.ref 0 0 r.1.length 1,.p (.v (.int .u64 r.2))],[.arr (encL zbl r.1)]):=by
 refine zzx (rec:=fun x0' x1'=>if zbz x0' x1'<zbz ([]:List Int) x1 then zdw zbt x0' x1' else none) ?_ ([]:List Int) x1 rfl r (zk3 zbt ([]:List Int) x1 r h)
 intro x0' x1' r' h'
 by_cases hm:zbz x0' x1'<zbz ([]:List Int) x1
 ·rw [if_pos hm] at h';exact zwz x0' x1' r' h'
 ·rw [if_neg hm] at h';cases h'
theorem zm7 {b1 b2:Bool}{H:List Ob}{x1:Node}{r:((List Int)×Int)} (h:zdw zbt ([]:List Int) x1=some r):callD (callW Try.prog A0) A0 H 33 [.p (.lst true 0 []),.p (.agg [.v (.int .i64 x1.Kind),.v (.string x1.Text),.lst b1 x1.Gaps.length (encL zeh x1.Gaps),.lst b2 x1.Kids.length (encL en_Node x1.Kids)]),.p (.fn (.func 34) [])]=some (.tup [.ref H.length 0 r.1.length 1,.p (.v (.int .u64 r.2))],some (H++[.arr (encL zbl r.1)])) :=
 zv3 (args:=[.lst true 0 [],.agg (zaf x1),.fn (.func 34) []]) (ps:=[.v (.int .u64 r.2)]) (by simp only [List.map_cons,List.map_nil,wkDv,wk,wks,wkL]) rfl (zuk x1 _ h)
def ls12:=@zck
theorem q33_2 {a1:Node}{H:List Ob}{r9001:((List Int)×Int)} (h9002:zdw zbt ([]:List Int) a1=some r9001):callD (callW Try.prog A0) A0 H 33 [.p (.lst true 0 []),.p (.agg (zaf a1)),.p (.fn (.func 34) [])]=some (.tup [.ref H.length 0 r9001.1.length 1,.p (.v (.int .u64 r9001.2))],some (H++[.arr (encL zbl r9001.1)])):=zm7 (H:=H) h9002
theorem ygw  (x0:Node) (r:(List Int)) (h:zi3 x0=some r):callW Try.prog A0 12 [.p (.agg (zaf x0))] []=some (.p (.lst false r.length (encL zbl r)),[]):=by
 refine zax (fn:=Try.f12) (c:=zae Try.f12) 10 rfl rfl (by kernel_rfl) (by kernel_rfl) (by kernel_rfl) ?_
 unfold zi3 at h;unfold zae Try.f12;simp only [ens]
 revert h
 repeat' (with_reducible refine gB fun _ _=>?_)
 intro h;obtain rfl:=Option.some.inj h
 simp (maxSteps:=10000000) (implicitDefEqProofs:=false) (disch:=first | with_reducible assumption | exact rfl | exact im_ _ | (fail_if_success show Kn _ _);omega) only [bs,rs12,ls12,Nat.reduceAdd,↓reduceIte,zma,zmi,zag a25 z25,q33_2]
 refine ⟨by simp, ?_⟩;exact zhu (l:=[1]) rfl rfl rfl (zhg zi0 rfl (by first | rfl | omega | simp)) (by first | rfl | (simp only [wk,wks,wkL];first | done | rfl))
def ls39:=And.intro @zop (And.intro @zoz (And.intro @zhb (And.intro @zhe (And.intro @zfd (And.intro @zkr (And.intro @zkq (@ze0)))))))
theorem zqc {rec:Node→Node→Option Bool} (hrec:∀ x0 x1 r,rec x0 x1=some r→callW Try.prog A0 39 [.p (.agg (zaf x0)),.p (.agg (zaf x1))] []=some (.p (.v (.bool r)),[])) {H:List Ob}{a1 a2:Node}{r:Bool} (h:rec a1 a2=some r):callD (callW Try.prog A0) A0 H 39 [.p (.agg (zaf a1)),.p (.agg (zaf a2))]=some (.p (.v (.bool r)),none) :=
 zbi (args:=[.agg (zaf a1),.agg (zaf a2)]) rfl rfl rfl (by simp only [List.map_cons,List.map_nil,wk,wks,wkL];exact hrec a1 a2 _ h)
noncomputable def L39_0:Code:=(zak (zae Try.f39)).getD 0 .skip
def g39_0:List Ghost:=[.keep [2,3,29,30]]
noncomputable def F39_0 (s29:Int) (w0_0:Int) (w0_1:ByteArray) (w0_2:(List ByteArray)) (w0_3:(List Node)) (w1_0:Int) (w1_1:ByteArray) (w1_2:(List ByteArray)) (w1_3:(List Node)):Int→St:=fun s30=>⟨[J,J,.ptr 0 0,.ptr 1 0,J,J,J,J,J,J,J,J,J,J,J,J,J,J,J,J,J,J,J,J,J,J,J,J,J,iv s29,iv s30,J,J,J,J,J,J,J,J,J,J,J,J,J,J,J],[.var [iv w0_0,.p (.v (.string w0_1)),.p (.lst false w0_2.length (encL zeh w0_2)),.p (.lst false w0_3.length (encL en_Node w0_3))],.var [iv w1_0,.p (.v (.string w1_1)),.p (.lst false w1_2.length (encL zeh w1_2)),.p (.lst false w1_3.length (encL en_Node w1_3))]],0⟩
theorem z6c {rec:Node→Node→Option Bool} (hrec:∀ x0 x1 r,rec x0 x1=some r→callW Try.prog A0 39 [.p (.agg (zaf x0)),.p (.agg (zaf x1))] []=some (.p (.v (.bool r)),[])) (s29:Int) (w0_0:Int) (w0_1:ByteArray) (w0_2:(List ByteArray)) (w0_3:(List Node)) (w1_0:Int) (w1_1:ByteArray) (w1_2:(List ByteArray)) (w1_3:(List Node)):∀ s st o,zaj g39_0 st=some (F39_0 s29 w0_0 w0_1 w0_2 w0_3 w1_0 w1_1 w1_2 w1_3 s)→iter (zhi rec s29 w0_0 w0_1 w0_2 w0_3 w1_0 w1_1 w1_2 w1_3) s=some o →
    Wp (evW Try.prog A0 39 (.loop L39_0) st) (OutQ (F39_0 s29 w0_0 w0_1 w0_2 w0_3 w1_0 w1_1 w1_2 w1_3) g39_0 (fun n s st=>n=0∧zaj [.keep [2,3,29,30]] st=some (F39_0 s29 w0_0 w0_1 w0_2 w0_3 w1_0 w1_1 w1_2 w1_3 s)) (fun r st=>zap Try.prog A0 39 Try.f39 st=some (.p (.v (.bool r)),[])) o):=by
 refine Wp.iter ?_
 intro s st o hg h
 generalize s=s30 at hg h
 unfold zhi at h;unfold g39_0 F39_0 at hg ⊢
 (try simp only [] at h hg)
 unfold L39_0 zae Try.f39;simp only [zak,ens]
 revert h
 repeat' first | (with_reducible refine gR fun _ _ _ _=>?_) | (with_reducible refine gB fun _ _=>?_) | (with_reducible refine gT (fun _ _=>?_) (fun _ _=>?_)) | (with_reducible refine gI (fun _ _=>?_) (fun _ _=>?_))
 all_goals
  intro h;obtain rfl:=Option.some.inj h
  first | (simp (maxSteps:=10000000) (implicitDefEqProofs:=false) (disch:=first | with_reducible assumption | exact rfl | exact im_ _ | (fail_if_success show Kn _ _);omega) only [bs,rs39,ls39,Nat.reduceAdd,↓reduceIte,zc7,zqc hrec,zal u23,zai a25 z25,zab a23,zab a3,zab a9,hg];first | (exact ⟨(rfl:Ex.normal=Ex.normal),by kernel_rfl⟩) | (refine ⟨(rfl:Ex.ret=Ex.ret), ?_⟩;exact zdk rfl rfl rfl rfl) | (exact ⟨(rfl:Ex.exit 0=Ex.exit 0),rfl,by kernel_rfl⟩)) | (exfalso;omega)
theorem yhp {rec:Node→Node→Option Bool} (hrec:∀ x0 x1 r,rec x0 x1=some r→callW Try.prog A0 39 [.p (.agg (zaf x0)),.p (.agg (zaf x1))] []=some (.p (.v (.bool r)),[]))  (x0:Node) (x1:Node) (r:Bool) (h:tree_Same.body rec x0 x1=some r):callW Try.prog A0 39 [.p (.agg (zaf x0)),.p (.agg (zaf x1))] []=some (.p (.v (.bool r)),[]):=by
 refine zax (fn:=Try.f39) (c:=zae Try.f39) 44 rfl rfl (by kernel_rfl) (by kernel_rfl) (by kernel_rfl) ?_
 unfold tree_Same.body at h;unfold zae Try.f39;simp only [ens]
 revert h
 refine gI (fun h1 _=>?_) (fun h1 _=>?_)
 ·refine gI (fun h2 _=>?_) (fun h2 _=>?_)
  ·refine gI (fun h3 _=>?_) (fun h3 _=>?_)
   ·refine gB fun o h15=>?_
    intro h
    simp (maxSteps:=10000000) (implicitDefEqProofs:=false) (disch:=first | with_reducible assumption | exact rfl | exact im_ _ | (fail_if_success show Kn _ _);omega) only [bs,rs39,ls39,Nat.reduceAdd,↓reduceIte,zc7,zqc hrec,zal u23,zai a25 z25,zab a23,zab a3,zab a9]
    refine Wp.ctx (fun x=>seqW _ _ _ _ (za6 _ (x))) (z6c hrec (x0.Kids.length:Int) x0.Kind x0.Text x0.Gaps x0.Kids x1.Kind x1.Text x1.Gaps x1.Kids (0:Int) _ o (by kernel_rfl) h15) ?_
    intro e st hq
    cases o with
    | next _=>(first | cases h | (simp at h))
    | jmp n_ s_ =>
     obtain ⟨rfl,rfl,hq⟩:=hq
     generalize s_=s30_16 at h hq
     unfold F39_0 at hq
     (try simp only [] at h hq)
     revert h
     intro h;obtain rfl:=Option.some.inj h
     simp (maxSteps:=10000000) (implicitDefEqProofs:=false) (disch:=first | with_reducible assumption | exact rfl | exact im_ _ | (fail_if_success show Kn _ _);omega) only [bs,rs39,ls39,Nat.reduceAdd,↓reduceIte,zc7,zqc hrec,zal u23,zai a25 z25,zab a23,zab a3,zab a9,hq]
     refine ⟨by simp, ?_⟩;exact zdk rfl rfl rfl rfl
    | ret r17 =>
     obtain ⟨rfl,hq⟩:=hq
     obtain rfl:=Option.some.inj h
     simp (maxSteps:=10000000) (implicitDefEqProofs:=false) (disch:=first | with_reducible assumption | exact rfl | exact im_ _ | (fail_if_success show Kn _ _);omega) only [bs,rs39,ls39,Nat.reduceAdd,↓reduceIte,zc7,zqc hrec,zal u23,zai a25 z25,zab a23,zab a3,zab a9]
     exact ⟨by simp,hq⟩
   ·intro h;obtain rfl:=Option.some.inj h
    simp (maxSteps:=10000000) (implicitDefEqProofs:=false) (disch:=first | with_reducible assumption | exact rfl | exact im_ _ | (fail_if_success show Kn _ _);omega) only [bs,rs39,ls39,Nat.reduceAdd,↓reduceIte,zc7,zqc hrec,zal u23,zai a25 z25,zab a23,zab a3,zab a9]
    refine ⟨by simp, ?_⟩;exact zdk rfl rfl rfl rfl
  ·intro h;obtain rfl:=Option.some.inj h
   simp (maxSteps:=10000000) (implicitDefEqProofs:=false) (disch:=first | with_reducible assumption | exact rfl | exact im_ _ | (fail_if_success show Kn _ _);omega) only [bs,rs39,ls39,Nat.reduceAdd,↓reduceIte,zc7,zqc hrec,zal u23,zai a25 z25,zab a23,zab a3,zab a9]
   refine ⟨by simp, ?_⟩;exact zdk rfl rfl rfl rfl
 ·intro h;obtain rfl:=Option.some.inj h
  simp (maxSteps:=10000000) (implicitDefEqProofs:=false) (disch:=first | with_reducible assumption | exact rfl | exact im_ _ | (fail_if_success show Kn _ _);omega) only [bs,rs39,ls39,Nat.reduceAdd,↓reduceIte,zc7,zqc hrec,zal u23,zai a25 z25,zab a23,zab a3,zab a9]
  refine ⟨by simp, ?_⟩;exact zdk rfl rfl rfl rfl
theorem z69:∀ (x0:Node) (x1:Node) r,zf2 x0 x1=some r→callW Try.prog A0 39 [.p (.agg (zaf x0)),.p (.agg (zaf x1))] []=some (.p (.v (.bool r)),[]):=by
 have key:∀ n (x0:Node) (x1:Node) r,zek x0 x1<n→zf2 x0 x1=some r→callW Try.prog A0 39 [.p (.agg (zaf x0)),.p (.agg (zaf x1))] []=some (.p (.v (.bool r)),[]):=by
  intro n
  induction n with
  | zero=>intro x0 x1 r h;omega
  | succ n ih =>
   intro x0 x1 r hn h
   refine yhp (rec:=fun x0' x1'=>if zek x0' x1'<zek x0 x1 then zf2 x0' x1' else none) ?_ x0 x1 r (zp2 x0 x1 r h)
   intro x0' x1' r' h'
   by_cases hm:zek x0' x1'<zek x0 x1
   ·rw [if_pos hm] at h';exact ih x0' x1' r' (by omega) h'
   ·rw [if_neg hm] at h';cases h'
 intro x0 x1 r h
 exact key _ x0 x1 r (Nat.lt_succ_self _) h
theorem zpq {l:List Dv} (h:l.length=141):l=[l.getD 0 .junk,l.getD 1 .junk,l.getD 2 .junk,l.getD 3 .junk,l.getD 4 .junk,l.getD 5 .junk,l.getD 6 .junk,l.getD 7 .junk,l.getD 8 .junk,l.getD 9 .junk,l.getD 10 .junk,l.getD 11 .junk,l.getD 12 .junk,l.getD 13 .junk,l.getD 14 .junk,l.getD 15 .junk,l.getD 16 .junk,l.getD 17 .junk,l.getD 18 .junk,l.getD 19 .junk,l.getD 20 .junk,l.getD 21 .junk,l.getD 22 .junk,l.getD 23 .junk,l.getD 24 .junk,l.getD 25 .junk,l.getD 26 .junk,l.getD 27 .junk,l.getD 28 .junk,l.getD 29 .junk,l.getD 30 .junk,l.getD 31 .junk,l.getD 32 .junk,l.getD 33 .junk,l.getD 34 .junk,l.getD 35 .junk,l.getD 36 .junk,l.getD 37 .junk,l.getD 38 .junk,l.getD 39 .junk,l.getD 40 .junk,l.getD 41 .junk,l.getD 42 .junk,l.getD 43 .junk,l.getD 44 .junk,l.getD 45 .junk,l.getD 46 .junk,l.getD 47 .junk,l.getD 48 .junk,l.getD 49 .junk,l.getD 50 .junk,l.getD 51 .junk,l.getD 52 .junk,l.getD 53 .junk,l.getD 54 .junk,l.getD 55 .junk,l.getD 56 .junk,l.getD 57 .junk,l.getD 58 .junk,l.getD 59 .junk,l.getD 60 .junk,l.getD 61 .junk,l.getD 62 .junk,l.getD 63 .junk,l.getD 64 .junk,l.getD 65 .junk,l.getD 66 .junk,l.getD 67 .junk,l.getD 68 .junk,l.getD 69 .junk,l.getD 70 .junk,l.getD 71 .junk,l.getD 72 .junk,l.getD 73 .junk,l.getD 74 .junk,l.getD 75 .junk,l.getD 76 .junk,l.getD 77 .junk,l.getD 78 .junk,l.getD 79 .junk,l.getD 80 .junk,l.getD 81 .junk,l.getD 82 .junk,l.getD 83 .junk,l.getD 84 .junk,l.getD 85 .junk,l.getD 86 .junk,l.getD 87 .junk,l.getD 88 .junk,l.getD 89 .junk,l.getD 90 .junk,l.getD 91 .junk,l.getD 92 .junk,l.getD 93 .junk,l.getD 94 .junk,l.getD 95 .junk,l.getD 96 .junk,l.getD 97 .junk,l.getD 98 .junk,l.getD 99 .junk,l.getD 100 .junk,l.getD 101 .junk,l.getD 102 .junk,l.getD 103 .junk,l.getD 104 .junk,l.getD 105 .junk,l.getD 106 .junk,l.getD 107 .junk,l.getD 108 .junk,l.getD 109 .junk,l.getD 110 .junk,l.getD 111 .junk,l.getD 112 .junk,l.getD 113 .junk,l.getD 114 .junk,l.getD 115 .junk,l.getD 116 .junk,l.getD 117 .junk,l.getD 118 .junk,l.getD 119 .junk,l.getD 120 .junk,l.getD 121 .junk,l.getD 122 .junk,l.getD 123 .junk,l.getD 124 .junk,l.getD 125 .junk,l.getD 126 .junk,l.getD 127 .junk,l.getD 128 .junk,l.getD 129 .junk,l.getD 130 .junk,l.getD 131 .junk,l.getD 132 .junk,l.getD 133 .junk,l.getD 134 .junk,l.getD 135 .junk,l.getD 136 .junk,l.getD 137 .junk,l.getD 138 .junk,l.getD 139 .junk,l.getD 140 .junk]:=by
 refine List.ext_getElem (by rw [h];rfl) (fun k h1 h2=>?_)
 have e:l[k]=l.getD k .junk:=by simp [List.getD_eq_getElem?_getD,h1]
 rw [e]
 have hk:k<141:=by omega
 match k,hk with
 | 0,_=>rfl
 | 1,_=>rfl
 | 2,_=>rfl
 | 3,_=>rfl
 | 4,_=>rfl
 | 5,_=>rfl
 | 6,_=>rfl
 | 7,_=>rfl
 | 8,_=>rfl
 | 9,_=>rfl
 | 10,_=>rfl
 | 11,_=>rfl
 | 12,_=>rfl
 | 13,_=>rfl
 | 14,_=>rfl
 | 15,_=>rfl
 | 16,_=>rfl
 | 17,_=>rfl
 | 18,_=>rfl
 | 19,_=>rfl
 | 20,_=>rfl
 | 21,_=>rfl
 | 22,_=>rfl
 | 23,_=>rfl
 | 24,_=>rfl
 | 25,_=>rfl
 | 26,_=>rfl
 | 27,_=>rfl
 | 28,_=>rfl
 | 29,_=>rfl
 | 30,_=>rfl
 | 31,_=>rfl
 | 32,_=>rfl
 | 33,_=>rfl
 | 34,_=>rfl
 | 35,_=>rfl
 | 36,_=>rfl
 | 37,_=>rfl
 | 38,_=>rfl
 | 39,_=>rfl
 | 40,_=>rfl
 | 41,_=>rfl
 | 42,_=>rfl
 | 43,_=>rfl
 | 44,_=>rfl
 | 45,_=>rfl
 | 46,_=>rfl
 | 47,_=>rfl
 | 48,_=>rfl
 | 49,_=>rfl
 | 50,_=>rfl
 | 51,_=>rfl
 | 52,_=>rfl
 | 53,_=>rfl
 | 54,_=>rfl
 | 55,_=>rfl
 | 56,_=>rfl
 | 57,_=>rfl
 | 58,_=>rfl
 | 59,_=>rfl
 | 60,_=>rfl
 | 61,_=>rfl
 | 62,_=>rfl
 | 63,_=>rfl
 | 64,_=>rfl
 | 65,_=>rfl
 | 66,_=>rfl
 | 67,_=>rfl
 | 68,_=>rfl
 | 69,_=>rfl
 | 70,_=>rfl
 | 71,_=>rfl
 | 72,_=>rfl
 | 73,_=>rfl
 | 74,_=>rfl
 | 75,_=>rfl
 | 76,_=>rfl
 | 77,_=>rfl
 | 78,_=>rfl
 | 79,_=>rfl
 | 80,_=>rfl
 | 81,_=>rfl
 | 82,_=>rfl
 | 83,_=>rfl
 | 84,_=>rfl
 | 85,_=>rfl
 | 86,_=>rfl
 | 87,_=>rfl
 | 88,_=>rfl
 | 89,_=>rfl
 | 90,_=>rfl
 | 91,_=>rfl
 | 92,_=>rfl
 | 93,_=>rfl
 | 94,_=>rfl
 | 95,_=>rfl
 | 96,_=>rfl
 | 97,_=>rfl
 | 98,_=>rfl
 | 99,_=>rfl
 | 100,_=>rfl
 | 101,_=>rfl
 | 102,_=>rfl
 | 103,_=>rfl
 | 104,_=>rfl
 | 105,_=>rfl
 | 106,_=>rfl
 | 107,_=>rfl
 | 108,_=>rfl
 | 109,_=>rfl
 | 110,_=>rfl
 | 111,_=>rfl
 | 112,_=>rfl
 | 113,_=>rfl
 | 114,_=>rfl
 | 115,_=>rfl
 | 116,_=>rfl
 | 117,_=>rfl
 | 118,_=>rfl
 | 119,_=>rfl
 | 120,_=>rfl
 | 121,_=>rfl
 | 122,_=>rfl
 | 123,_=>rfl
 | 124,_=>rfl
 | 125,_=>rfl
 | 126,_=>rfl
 | 127,_=>rfl
 | 128,_=>rfl
 | 129,_=>rfl
 | 130,_=>rfl
 | 131,_=>rfl
 | 132,_=>rfl
 | 133,_=>rfl
 | 134,_=>rfl
 | 135,_=>rfl
 | 136,_=>rfl
 | 137,_=>rfl
 | 138,_=>rfl
 | 139,_=>rfl
 | 140,_=>rfl
 | n+141,h=>omega
def F20_0 (N M:Nat) (hx hy:List Int) (i:Int) (g:Nat→Dv):List Dv:=[g 0,g 1,g 2,g 3,g 4,.ref 2 0 N 4,.ref 3 0 M 4,.p (.lst false hx.length (encL zbl hx)),g 8,.ptr 4 0,.mp 5,g 11,g 12,g 13,g 14,g 15,g 16,g 17,g 18,g 19,g 20,g 21,g 22,g 23,g 24,g 25,g 26,g 27,g 28,g 29,g 30,g 31,g 32,g 33,.p (.lst false hy.length (encL zbl hy)),iv (M:Int),iv i,g 37,g 38,g 39,g 40,g 41,g 42,g 43,g 44,g 45,g 46,g 47,g 48,g 49,g 50,g 51,g 52,g 53,g 54,g 55,g 56,g 57,g 58,g 59,g 60,g 61,g 62,g 63,g 64,g 65,g 66,g 67,g 68,g 69,g 70,g 71,g 72,g 73,g 74,g 75,g 76,g 77,g 78,g 79,g 80,g 81,g 82,g 83,g 84,g 85,g 86,g 87,g 88,g 89,g 90,g 91,g 92,g 93,g 94,g 95,g 96,g 97,g 98,g 99,g 100,g 101,g 102,g 103,g 104,g 105,g 106,g 107,g 108,g 109,g 110,g 111,g 112,g 113,g 114,g 115,g 116,g 117,g 118,g 119,g 120,g 121,g 122,g 123,g 124,g 125,g 126,g 127,g 128,g 129,g 130,g 131,g 132,g 133,g 134,g 135,g 136,g 137,g 138,g 139,g 140]
structure Fr20_0 (N M:Nat) (hx hy:List Int) (i:Int) (tm:List Dv):Prop where
 len:tm.length=141
 a5:tm.getD 5 .junk=.ref 2 0 N 4
 a6:tm.getD 6 .junk=.ref 3 0 M 4
 a7:tm.getD 7 .junk=.p (.lst false hx.length (encL zbl hx))
 a9:tm.getD 9 .junk=.ptr 4 0
 a10:tm.getD 10 .junk=.mp 5
 a34:tm.getD 34 .junk=.p (.lst false hy.length (encL zbl hy))
 a35:tm.getD 35 .junk=iv (M:Int)
 a36:tm.getD 36 .junk=iv i
theorem Fr20_0.eq {N M:Nat}{hx hy:List Int}{i:Int}{tm:List Dv} (h:Fr20_0 N M hx hy i tm):tm=F20_0 N M hx hy i (fun j=>tm.getD j .junk):=by
 refine (zpq h.len).trans ?_
 unfold F20_0
 rw [h.a5,h.a6,h.a7,h.a9,h.a10,h.a34,h.a35,h.a36]
def F20_1 (N M B:Nat) (hx:List Int) (i:Int) (g:Nat→Dv):List Dv:=[g 0,g 1,g 2,g 3,g 4,.ref 2 0 N 4,.ref 3 0 M 4,.p (.lst false hx.length (encL zbl hx)),g 8,.ptr 4 0,.mp 5,g 11,g 12,.ptr (B+1) 0,g 14,g 15,g 16,g 17,g 18,g 19,g 20,g 21,g 22,g 23,g 24,g 25,g 26,g 27,g 28,g 29,g 30,g 31,g 32,g 33,g 34,g 35,g 36,g 37,g 38,g 39,g 40,g 41,g 42,g 43,g 44,g 45,g 46,g 47,g 48,g 49,g 50,g 51,g 52,g 53,iv (N:Int),iv i,g 56,g 57,g 58,g 59,g 60,g 61,g 62,g 63,g 64,g 65,g 66,g 67,g 68,g 69,g 70,g 71,g 72,g 73,g 74,g 75,g 76,g 77,g 78,g 79,g 80,g 81,g 82,g 83,g 84,g 85,g 86,g 87,g 88,g 89,g 90,g 91,g 92,g 93,g 94,g 95,g 96,g 97,g 98,g 99,g 100,g 101,g 102,g 103,g 104,g 105,g 106,g 107,g 108,g 109,g 110,g 111,g 112,g 113,g 114,g 115,g 116,g 117,g 118,g 119,g 120,g 121,g 122,g 123,g 124,g 125,g 126,g 127,g 128,g 129,g 130,g 131,g 132,g 133,g 134,g 135,g 136,g 137,g 138,g 139,g 140]
structure Fr20_1 (N M B:Nat) (hx:List Int) (i:Int) (tm:List Dv):Prop where
 len:tm.length=141
 a5:tm.getD 5 .junk=.ref 2 0 N 4
 a6:tm.getD 6 .junk=.ref 3 0 M 4
 a7:tm.getD 7 .junk=.p (.lst false hx.length (encL zbl hx))
 a9:tm.getD 9 .junk=.ptr 4 0
 a10:tm.getD 10 .junk=.mp 5
 a13:tm.getD 13 .junk=.ptr (B+1) 0
 a54:tm.getD 54 .junk=iv (N:Int)
 a55:tm.getD 55 .junk=iv i
theorem Fr20_1.eq {N M B:Nat}{hx:List Int}{i:Int}{tm:List Dv} (h:Fr20_1 N M B hx i tm):tm=F20_1 N M B hx i (fun j=>tm.getD j .junk):=by
 refine (zpq h.len).trans ?_
 unfold F20_1
 rw [h.a5,h.a6,h.a7,h.a9,h.a10,h.a13,h.a54,h.a55]
def F20_2 (N M B:Nat) (hx:List Int) (j:Int) (g:Nat→Dv):List Dv:=[g 0,g 1,g 2,g 3,g 4,.ref 2 0 N 4,.ref 3 0 M 4,.p (.lst false hx.length (encL zbl hx)),g 8,.ptr 4 0,.mp 5,g 11,g 12,g 13,g 14,.ref (B+2) 0 N 1,.ref (B+3) 0 M 1,.ptr (B+4) 0,g 18,g 19,g 20,g 21,g 22,g 23,g 24,g 25,g 26,g 27,g 28,g 29,g 30,g 31,g 32,g 33,g 34,g 35,g 36,g 37,g 38,g 39,g 40,g 41,g 42,g 43,g 44,g 45,g 46,g 47,g 48,g 49,g 50,g 51,g 52,g 53,g 54,g 55,g 56,g 57,g 58,g 59,g 60,g 61,g 62,g 63,g 64,g 65,g 66,g 67,g 68,g 69,g 70,g 71,g 72,.ref B 0 N 1,iv (N:Int),iv j,g 76,g 77,g 78,g 79,g 80,g 81,g 82,g 83,g 84,g 85,g 86,g 87,g 88,g 89,g 90,g 91,g 92,g 93,g 94,g 95,g 96,g 97,g 98,g 99,g 100,g 101,g 102,g 103,g 104,g 105,g 106,g 107,g 108,g 109,g 110,g 111,g 112,g 113,g 114,g 115,g 116,g 117,g 118,g 119,g 120,g 121,g 122,g 123,g 124,g 125,g 126,g 127,g 128,g 129,g 130,g 131,g 132,g 133,g 134,g 135,g 136,g 137,g 138,g 139,g 140]
structure Fr20_2 (N M B:Nat) (hx:List Int) (j:Int) (tm:List Dv):Prop where
 len:tm.length=141
 a5:tm.getD 5 .junk=.ref 2 0 N 4
 a6:tm.getD 6 .junk=.ref 3 0 M 4
 a7:tm.getD 7 .junk=.p (.lst false hx.length (encL zbl hx))
 a9:tm.getD 9 .junk=.ptr 4 0
 a10:tm.getD 10 .junk=.mp 5
 a15:tm.getD 15 .junk=.ref (B+2) 0 N 1
 a16:tm.getD 16 .junk=.ref (B+3) 0 M 1
 a17:tm.getD 17 .junk=.ptr (B+4) 0
 a73:tm.getD 73 .junk=.ref B 0 N 1
 a74:tm.getD 74 .junk=iv (N:Int)
 a75:tm.getD 75 .junk=iv j
theorem Fr20_2.eq {N M B:Nat}{hx:List Int}{j:Int}{tm:List Dv} (h:Fr20_2 N M B hx j tm):tm=F20_2 N M B hx j (fun j=>tm.getD j .junk):=by
 refine (zpq h.len).trans ?_
 unfold F20_2
 rw [h.a5,h.a6,h.a7,h.a9,h.a10,h.a15,h.a16,h.a17,h.a73,h.a74,h.a75]
def F20_3 (N M B:Nat) (hx:List Int) (j i:Int) (d:Dv) (k:Nat) (t:Int) (g:Nat→Dv):List Dv:=[g 0,g 1,g 2,g 3,g 4,.ref 2 0 N 4,.ref 3 0 M 4,.p (.lst false hx.length (encL zbl hx)),g 8,.ptr 4 0,.mp 5,g 11,g 12,g 13,g 14,.ref (B+2) 0 N 1,.ref (B+3) 0 M 1,.ptr (B+4) 0,g 18,iv i,g 20,g 21,g 22,g 23,g 24,g 25,g 26,g 27,g 28,g 29,g 30,g 31,g 32,g 33,g 34,g 35,g 36,g 37,g 38,g 39,g 40,g 41,g 42,g 43,g 44,g 45,g 46,g 47,g 48,g 49,g 50,g 51,g 52,g 53,g 54,g 55,g 56,g 57,g 58,g 59,g 60,g 61,g 62,g 63,g 64,g 65,g 66,g 67,g 68,g 69,g 70,g 71,g 72,.ref B 0 N 1,iv (N:Int),iv j,g 76,g 77,g 78,g 79,g 80,g 81,g 82,g 83,g 84,g 85,g 86,g 87,d,iv (k:Int),iv t,g 91,g 92,g 93,g 94,g 95,g 96,g 97,g 98,g 99,g 100,g 101,g 102,g 103,g 104,g 105,g 106,g 107,g 108,g 109,g 110,g 111,g 112,g 113,g 114,g 115,g 116,g 117,g 118,g 119,g 120,g 121,g 122,g 123,g 124,g 125,g 126,g 127,g 128,g 129,g 130,g 131,g 132,g 133,g 134,g 135,g 136,g 137,g 138,g 139,g 140]
structure Fr20_3 (N M B:Nat) (hx:List Int) (j i:Int) (d:Dv) (k:Nat) (t:Int) (tm:List Dv):Prop where
 len:tm.length=141
 a5:tm.getD 5 .junk=.ref 2 0 N 4
 a6:tm.getD 6 .junk=.ref 3 0 M 4
 a7:tm.getD 7 .junk=.p (.lst false hx.length (encL zbl hx))
 a9:tm.getD 9 .junk=.ptr 4 0
 a10:tm.getD 10 .junk=.mp 5
 a15:tm.getD 15 .junk=.ref (B+2) 0 N 1
 a16:tm.getD 16 .junk=.ref (B+3) 0 M 1
 a17:tm.getD 17 .junk=.ptr (B+4) 0
 a19:tm.getD 19 .junk=iv i
 a73:tm.getD 73 .junk=.ref B 0 N 1
 a74:tm.getD 74 .junk=iv (N:Int)
 a75:tm.getD 75 .junk=iv j
 a88:tm.getD 88 .junk=d
 a89:tm.getD 89 .junk=iv (k:Int)
 a90:tm.getD 90 .junk=iv t
theorem Fr20_3.eq {N M B:Nat}{hx:List Int}{j i:Int}{d:Dv}{k:Nat}{t:Int}{tm:List Dv} (h:Fr20_3 N M B hx j i d k t tm):tm=F20_3 N M B hx j i d k t (fun j=>tm.getD j .junk):=by
 refine (zpq h.len).trans ?_
 unfold F20_3
 rw [h.a5,h.a6,h.a7,h.a9,h.a10,h.a15,h.a16,h.a17,h.a19,h.a73,h.a74,h.a75,h.a88,h.a89,h.a90]
def F20_4 (N M B:Nat) (hx:List Int) (j i:Int) (d:Dv) (k:Nat) (t v s q:Int) (g:Nat→Dv):List Dv:=[g 0,g 1,g 2,g 3,g 4,.ref 2 0 N 4,.ref 3 0 M 4,.p (.lst false hx.length (encL zbl hx)),g 8,.ptr 4 0,.mp 5,g 11,g 12,g 13,g 14,.ref (B+2) 0 N 1,.ref (B+3) 0 M 1,.ptr (B+4) 0,g 18,iv i,g 20,iv v,g 22,g 23,g 24,g 25,g 26,g 27,g 28,g 29,g 30,g 31,g 32,g 33,g 34,g 35,g 36,g 37,g 38,g 39,g 40,g 41,g 42,g 43,g 44,g 45,g 46,g 47,g 48,g 49,g 50,g 51,g 52,g 53,g 54,g 55,g 56,g 57,g 58,g 59,g 60,g 61,g 62,g 63,g 64,g 65,g 66,g 67,g 68,g 69,g 70,g 71,g 72,.ref B 0 N 1,iv (N:Int),iv j,g 76,g 77,g 78,g 79,g 80,g 81,g 82,g 83,g 84,g 85,g 86,g 87,d,iv (k:Int),iv t,g 91,g 92,g 93,g 94,g 95,g 96,g 97,g 98,g 99,g 100,g 101,g 102,g 103,g 104,g 105,g 106,g 107,g 108,g 109,g 110,g 111,g 112,iv s,iv q,g 115,g 116,g 117,g 118,g 119,g 120,g 121,g 122,g 123,g 124,g 125,g 126,g 127,g 128,g 129,g 130,g 131,g 132,g 133,g 134,g 135,g 136,g 137,g 138,g 139,g 140]
structure Fr20_4 (N M B:Nat) (hx:List Int) (j i:Int) (d:Dv) (k:Nat) (t v s q:Int) (tm:List Dv):Prop where
 len:tm.length=141
 a5:tm.getD 5 .junk=.ref 2 0 N 4
 a6:tm.getD 6 .junk=.ref 3 0 M 4
 a7:tm.getD 7 .junk=.p (.lst false hx.length (encL zbl hx))
 a9:tm.getD 9 .junk=.ptr 4 0
 a10:tm.getD 10 .junk=.mp 5
 a15:tm.getD 15 .junk=.ref (B+2) 0 N 1
 a16:tm.getD 16 .junk=.ref (B+3) 0 M 1
 a17:tm.getD 17 .junk=.ptr (B+4) 0
 a19:tm.getD 19 .junk=iv i
 a21:tm.getD 21 .junk=iv v
 a73:tm.getD 73 .junk=.ref B 0 N 1
 a74:tm.getD 74 .junk=iv (N:Int)
 a75:tm.getD 75 .junk=iv j
 a88:tm.getD 88 .junk=d
 a89:tm.getD 89 .junk=iv (k:Int)
 a90:tm.getD 90 .junk=iv t
 a113:tm.getD 113 .junk=iv s
 a114:tm.getD 114 .junk=iv q
theorem Fr20_4.eq {N M B:Nat}{hx:List Int}{j i:Int}{d:Dv}{k:Nat}{t v s q:Int}{tm:List Dv} (h:Fr20_4 N M B hx j i d k t v s q tm):tm=F20_4 N M B hx j i d k t v s q (fun j=>tm.getD j .junk):=by
 refine (zpq h.len).trans ?_
 unfold F20_4
 rw [h.a5,h.a6,h.a7,h.a9,h.a10,h.a15,h.a16,h.a17,h.a19,h.a21,h.a73,h.a74,h.a75,h.a88,h.a89,h.a90,h.a113,h.a114]
theorem r20_0 {o d s}:RG 20 0 [] o d s:=zaa
theorem r20_1 {o s}:RZ 20 1 [] [(1,2)] o s:=z49 rfl rfl
theorem r20_2 {o d s}:RG 20 2 [] o d s:=zaa
theorem r20_3 {o d s}:RG 20 3 [] o d s:=zaa
theorem r20_4 {o d s}:RG 20 4 [] o d s:=zaa
theorem r20_5 {o d s}:RG 20 5 [] o d s:=zaa
theorem r20_6 {o d s}:RG 20 6 [] o d s:=zaa
theorem r20_7 {o d s}:RG 20 7 [] o d s:=zaa
theorem r20_8 {o d s}:RG 20 8 [] o d s:=zaa
theorem r20_9 {o d s}:RG 20 9 [] o d s:=zaa
theorem yi5 {o d s}:RG 20 10 [] o d s:=zaa
theorem yim {o d s}:RG 20 11 [] o d s:=zaa
theorem yek {o d s}:RG 20 12 [] o d s:=zaa
theorem yg4 {o d s}:RG 20 13 [] o d s:=zaa
theorem ykg {o d s}:RG 20 14 [] o d s:=zaa
theorem yf7 {o d s}:RG 20 15 [] o d s:=zaa
theorem yet {o d s}:RG 20 16 [] o d s:=zaa
theorem yke {o s}:RY 20 17 [] [(2,5)] o s:=z28 rfl
theorem yem {o d s}:RG 20 18 [] o d s:=zaa
theorem yel {o d s}:RG 20 19 [.ownC 17 0 2] o d s:=zaa
theorem yir {o d s}:RG 20 20 [] o d s:=zaa
theorem yei {o d s}:RG 20 21 [] o d s:=zaa
theorem yin {o d s}:RG 20 22 [] o d s:=zaa
theorem ykn {o d s}:RG 20 23 [] o d s:=zaa
theorem yew {o d s}:RG 20 24 [] o d s:=zaa
theorem yh1 {o d s}:RG 20 25 [] o d s:=zaa
theorem ygs {o d s}:RG 20 26 [] o d s:=zaa
theorem yeh {o d s}:RG 20 27 [] o d s:=zaa
theorem yjb {o d s}:RG 20 28 [] o d s:=zaa
theorem yex {o d s}:RG 20 29 [] o d s:=zaa
theorem yjw {o d s}:RG 20 30 [] o d s:=zaa
theorem yi6 {o d s}:RG 20 31 [] o d s:=zaa
theorem yi8 {o d s}:RG 20 32 [] o d s:=zaa
theorem yje {o d s}:RG 20 33 [] o d s:=zaa
theorem yf4 {o d s}:RG 20 34 [] o d s:=zaa
theorem yfb {o d s}:RG 20 35 [] o d s:=zaa
theorem yi3 {o d s}:RG 20 36 [] o d s:=zaa
set_option linter.defProp false in
def rs20:=And.intro @yi3 (And.intro @yfb (And.intro @yf4 (And.intro @yje (And.intro @yi8 (And.intro @yi6 (And.intro @yjw (And.intro @yex (And.intro @yjb (And.intro @yeh (And.intro @ygs (And.intro @yh1 (And.intro @yew (And.intro @ykn (And.intro @yin (And.intro @yei (And.intro @yir (And.intro @yel (And.intro @yem (And.intro @yke (And.intro @yet (And.intro @yf7 (And.intro @ykg (And.intro @yg4 (And.intro @yek (And.intro @yim (And.intro @yi5 (And.intro @r20_9 (And.intro @r20_8 (And.intro @r20_7 (And.intro @r20_6 (And.intro @r20_5 (And.intro @r20_4 (And.intro @r20_3 (And.intro @r20_2 (And.intro @r20_1 (@r20_0))))))))))))))))))))))))))))))))))))
noncomputable def L20_0:Code:=(zak (zae Try.f20)).getD 0 .skip
noncomputable def L20_1:Code:=(zak (zae Try.f20)).getD 1 .skip
noncomputable def L20_2:Code:=(zak (zae Try.f20)).getD 2 .skip
noncomputable def L20_3:Code:=(zak (zae Try.f20)).getD 3 .skip
noncomputable def L20_4:Code:=(zak (zae Try.f20)).getD 4 .skip
theorem zk5 {Fr Fr':List Dv→Prop}{F:(Nat→Dv)→List Dv}{ev:St→Option (Ex×St)}{e:Ex}{H H':List Ob} (h:∀ tm,Fr tm→∃ tm',Fr' tm'∧ev ⟨tm,H,0⟩=some (e,⟨tm',H',0⟩)) (heq:∀ tm',Fr' tm'→tm'=F (fun j=>tm'.getD j .junk)):∃ G:List Dv→Nat→Dv,∀ tm,Fr tm→ev ⟨tm,H,0⟩=some (e,⟨F (G tm),H',0⟩):=by
 obtain ⟨G,hG⟩:=Classical.axiomOfChoice (r:=fun (x:{tm // Fr tm}) (G:Nat→Dv)=>ev ⟨x.1,H,0⟩=some (e,⟨F G,H',0⟩)) (fun x=>by
  obtain ⟨tm',h1,h2⟩:=h x.1 x.2
  exact ⟨fun j=>tm'.getD j .junk,by rw [← heq tm' h1];exact h2⟩)
 refine ⟨fun tm=>open Classical in if hx:Fr tm then G ⟨tm,hx⟩ else fun _=>.junk,fun tm hx=>?_⟩
 simp only [dif_pos hx]
 exact hG ⟨tm,hx⟩
theorem z9j {x:Int}{H:List Ob}:bsD Try.prog H 40 1 [(0,iv x)]=some (.p (.lst true 1 [.v (.int .i64 x)]),none):=by kernel_rfl
theorem z8t {x y:Int}{H:List Ob}:bsD Try.prog H 36 1 [(0,.p (.agg [.v (.int .i64 x),.v (.int .i64 y)]))]=some (.p (.lst true 1 [.v (.int .i64 x),.v (.int .i64 y)]),none):=by kernel_rfl
theorem yhe {x y:Int}:ztx Try.prog 43 [(0,iv x),(1,iv y)]=some (.p (.agg [.v (.int .i64 x),.v (.int .i64 y)])):=by kernel_rfl
theorem yh0 {N M:Nat}{hx hy:List Int}{i:Nat}{tm:List Dv} (hf:Fr20_0 N M hx hy (i:Int) tm) (hi:i<M) (hM:M<2 ^ 40) {H H2 H3:List Ob}{h:Int}{d e:Dv}
  (hh:rd hy (i:Int)=some h) (hlk:zia Try.prog H 62 (.mp 5) (.p (.v (.int .u64 h))) false=some d)
  (hap:zer Try.prog H #[40,40] d (.p (.lst true 1 [.v (.int .i64 (i:Int))]))=some (e,H2)) (hup:zfa Try.prog H2 62 (.mp 5) (.p (.v (.int .u64 h))) e=some H3) :
  ∃ tm',Fr20_0 N M hx hy ((i+1:Nat):Int) tm'∧evW Try.prog A0 20 (.loop L20_0) ⟨tm,H,0⟩=evW Try.prog A0 20 (.loop L20_0) ⟨tm',H3,0⟩:=by
 have hlt:(i:Int)<(M:Int):=by omega
 obtain ⟨hh0,hh1,_⟩:=zhr hh
 have e1:w64 ((i:Int)+1)=((i+1:Nat):Int):=zbb (by omega)
 rw [hf.eq]
 generalize (fun j=>tm.getD j .junk)=g
 rw [zis]
 unfold L20_0 zae Try.f20 F20_0
 simp only [zak,ens]
 simp (maxSteps:=10000000) (implicitDefEqProofs:=false) (disch:=first | with_reducible assumption | exact rfl | exact im_ _ | (fail_if_success show Kn _ _);omega) only [bs,rs20,Nat.reduceAdd,↓reduceIte,z4h,za5 a50,z1o,zrj,zsi,z9j,hlk,hap,hup,e1,hlt,zgl]
 refine ⟨_, ?_,rfl⟩
 exact ⟨rfl,rfl,rfl,rfl,rfl,rfl,rfl,rfl,rfl⟩
theorem ydf {N M:Nat}{hx hy:List Int}{tm:List Dv} (hf:Fr20_0 N M hx hy (M:Int) tm) {H:List Ob}:∃ tm',Fr20_0 N M hx hy (M:Int) tm'∧evW Try.prog A0 20 (.loop L20_0) ⟨tm,H,0⟩=some (.exit 0,⟨tm',H,0⟩):=by
 have hlt:¬ (M:Int)<(M:Int):=by omega
 rw [hf.eq]
 generalize (fun j=>tm.getD j .junk)=g
 rw [zis]
 unfold L20_0 zae Try.f20 F20_0
 simp only [zak,ens]
 simp (maxSteps:=10000000) (implicitDefEqProofs:=false) (disch:=first | with_reducible assumption | exact rfl | exact im_ _ | (fail_if_success show Kn _ _);omega) only [bs,rs20,Nat.reduceAdd,↓reduceIte,hlt,zi2]
 refine ⟨_, ?_,rfl⟩
 exact ⟨rfl,rfl,rfl,rfl,rfl,rfl,rfl,rfl,rfl⟩
theorem yiu {N M B:Nat}{hx:List Int}{i:Nat}{tm:List Dv} (hf:Fr20_1 N M B hx (i:Int) tm) (hi:i<N) (hN:N<2 ^ 40) {H H2:List Ob}
  (hld:ldOb H[B+1]? 0=some (.ref B 0 N 1)) (hst:zdf Try.prog H 3 (.ptr B (ato (i:Int) 1)) (iv (i:Int))=some H2) :
  ∃ tm',Fr20_1 N M B hx ((i+1:Nat):Int) tm'∧evW Try.prog A0 20 (.loop L20_1) ⟨tm,H,0⟩=evW Try.prog A0 20 (.loop L20_1) ⟨tm',H2,0⟩:=by
 have hlt:(i:Int)<(N:Int):=by omega
 have hix:idxD Try.prog 40 (.ref B 0 N 1) (iv (i:Int))=some (.ptr B (ato (i:Int) 1)):=zf0 u40 z3 (by decide) (by omega) (by omega)
 have e1:w64 ((i:Int)+1)=((i+1:Nat):Int):=zbb (by omega)
 rw [hf.eq]
 generalize (fun j=>tm.getD j .junk)=g
 rw [zis]
 unfold L20_1 zae Try.f20 F20_1
 simp only [zak,ens]
 simp (maxSteps:=10000000) (implicitDefEqProofs:=false) (disch:=first | with_reducible assumption | exact rfl | exact im_ _ | (fail_if_success show Kn _ _);omega) only [bs,rs20,Nat.reduceAdd,↓reduceIte,zab a40,hld,hix,hst,e1,hlt,zgl]
 refine ⟨_, ?_,rfl⟩
 exact ⟨rfl,rfl,rfl,rfl,rfl,rfl,rfl,rfl,rfl⟩
theorem yce {N M B:Nat}{hx:List Int}{tm:List Dv} (hf:Fr20_1 N M B hx (N:Int) tm) {H:List Ob}:∃ tm',Fr20_1 N M B hx (N:Int) tm'∧evW Try.prog A0 20 (.loop L20_1) ⟨tm,H,0⟩=some (.exit 2,⟨tm',H,0⟩):=by
 have hlt:¬ (N:Int)<(N:Int):=by omega
 rw [hf.eq]
 generalize (fun j=>tm.getD j .junk)=g
 rw [zis]
 unfold L20_1 zae Try.f20 F20_1
 simp only [zak,ens]
 simp (maxSteps:=10000000) (implicitDefEqProofs:=false) (disch:=first | with_reducible assumption | exact rfl | exact im_ _ | (fail_if_success show Kn _ _);omega) only [bs,rs20,Nat.reduceAdd,↓reduceIte,hlt,zi2]
 refine ⟨_, ?_,rfl⟩
 exact ⟨rfl,rfl,rfl,rfl,rfl,rfl,rfl,rfl,rfl⟩
theorem yea {N M B:Nat}{hx:List Int}{j:Int}{i:Nat}{d:Dv}{k:Nat}{t:Int}{v s q:Nat}{tm:List Dv} (hf:Fr20_4 N M B hx j (i:Int) d k t (v:Int) (s:Int) (q:Int) tm) (hq:q<s) (hs:i+s≤N) (hs2:v+s≤M) (hN:N<2 ^ 40) (hM:M<2 ^ 40) {H H2 H3:List Ob}
  (hsa:zdf Try.prog H 4 (.ptr (B+2) (ato ((i+q:Nat):Int) 1)) (bv true)=some H2) (hsb:zdf Try.prog H2 4 (.ptr (B+3) (ato ((v+q:Nat):Int) 1)) (bv true)=some H3) :
  ∃ tm',Fr20_4 N M B hx j (i:Int) d k t (v:Int) (s:Int) ((q+1:Nat):Int) tm'∧evW Try.prog A0 20 (.loop L20_4) ⟨tm,H,0⟩=evW Try.prog A0 20 (.loop L20_4) ⟨tm',H3,0⟩:=by
 have hlt:(q:Int)<(s:Int):=by omega
 have hia:idxD Try.prog 65 (.ref (B+2) 0 N 1) (iv ((i+q:Nat):Int))=some (.ptr (B+2) (ato ((i+q:Nat):Int) 1)):=zf0 u65 z4 (by decide) (by omega) (by omega)
 have hib:idxD Try.prog 65 (.ref (B+3) 0 M 1) (iv ((v+q:Nat):Int))=some (.ptr (B+3) (ato ((v+q:Nat):Int) 1)):=zf0 u65 z4 (by decide) (by omega) (by omega)
 have e1:w64 ((q:Int)+1)=((q+1:Nat):Int):=zbb (by omega)
 have e2:w64 ((i:Int)+(q:Int))=((i+q:Nat):Int):=by rw [zdn (by omega) (by omega)];omega
 have e3:w64 ((v:Int)+(q:Int))=((v+q:Nat):Int):=by rw [zdn (by omega) (by omega)];omega
 rw [hf.eq]
 generalize (fun j=>tm.getD j .junk)=g
 rw [zis]
 unfold L20_4 zae Try.f20 F20_4
 simp only [zak,ens]
 simp (maxSteps:=10000000) (implicitDefEqProofs:=false) (disch:=first | with_reducible assumption | exact rfl | exact im_ _ | (fail_if_success show Kn _ _);omega) only [bs,rs20,Nat.reduceAdd,↓reduceIte,hia,hib,hsa,hsb,e1,e2,e3,hlt,zgl]
 refine ⟨_, ?_,rfl⟩
 exact ⟨rfl,rfl,rfl,rfl,rfl,rfl,rfl,rfl,rfl,rfl,rfl,rfl,rfl,rfl,rfl,rfl,rfl,rfl,rfl⟩
theorem yde {N M B:Nat}{hx:List Int}{j i:Int}{d:Dv}{k:Nat}{t v s:Int}{tm:List Dv} (hf:Fr20_4 N M B hx j i d k t v s s tm) {H:List Ob}:∃ tm',Fr20_4 N M B hx j i d k t v s s tm'∧evW Try.prog A0 20 (.loop L20_4) ⟨tm,H,0⟩=some (.exit 8,⟨tm',H,0⟩):=by
 have hlt:¬ s<s:=by omega
 rw [hf.eq]
 generalize (fun j=>tm.getD j .junk)=g
 rw [zis]
 unfold L20_4 zae Try.f20 F20_4
 simp only [zak,ens]
 simp (maxSteps:=10000000) (implicitDefEqProofs:=false) (disch:=first | with_reducible assumption | exact rfl | exact im_ _ | (fail_if_success show Kn _ _);omega) only [bs,rs20,Nat.reduceAdd,↓reduceIte,hlt,zi2]
 refine ⟨_, ?_,rfl⟩
 exact ⟨rfl,rfl,rfl,rfl,rfl,rfl,rfl,rfl,rfl,rfl,rfl,rfl,rfl,rfl,rfl,rfl,rfl,rfl,rfl⟩
theorem ybv {N M B:Nat}{hx:List Int}{j:Int}{i:Nat}{d:Dv}{k t:Nat}{tm:List Dv} (hf:Fr20_3 N M B hx j (i:Int) d k (t:Int) tm) (ht:t<k) (hk:k<2 ^ 40) {H:List Ob}{c v:Nat}{x y:Node}
  (hix:idxD Try.prog 40 d (iv (t:Int))=some (.ptr c (ato (t:Int) 1))) (hld:ldOb H[c]? (ato (t:Int) 1)=some (iv (v:Int))) (hv:v<M) (hi:i<N) (hub:ldOb H[B+3]? (ato (v:Int) 1)=some (bv true)) :
  ∃ tm',Fr20_3 N M B hx j (i:Int) d k ((t+1:Nat):Int) tm'∧evW Try.prog A0 20 (.loop L20_3) ⟨tm,H,0⟩=evW Try.prog A0 20 (.loop L20_3) ⟨tm',H,0⟩:=by
 have hlt:(t:Int)<(k:Int):=by omega
 have hib:idxD Try.prog 65 (.ref (B+3) 0 M 1) (iv (v:Int))=some (.ptr (B+3) (ato (v:Int) 1)):=zf0 u65 z4 (by decide) (by omega) (by omega)
 have hxi:idxD Try.prog 23 (.ref 2 0 N 4) (iv (i:Int))=some (.ptr 2 (ato (i:Int) 4)):=zf0 u23 z25 (by decide) (by omega) (by omega)
 have hyi:idxD Try.prog 23 (.ref 3 0 M 4) (iv (v:Int))=some (.ptr 3 (ato (v:Int) 4)):=zf0 u23 z25 (by decide) (by omega) (by omega)
 have e1:w64 ((t:Int)+1)=((t+1:Nat):Int):=zbb (by omega)
 rw [hf.eq]
 generalize (fun j=>tm.getD j .junk)=g
 rw [zis]
 unfold L20_3 zae Try.f20 F20_3
 simp only [zak,ens]
 simp (maxSteps:=10000000) (implicitDefEqProofs:=false) (disch:=first | with_reducible assumption | exact rfl | exact im_ _ | (fail_if_success show Kn _ _);omega) only [bs,rs20,Nat.reduceAdd,↓reduceIte,zab a3,zab a4,hix,hld,hib,hub,e1,hlt,zgl]
 refine ⟨_, ?_,rfl⟩
 exact ⟨rfl,rfl,rfl,rfl,rfl,rfl,rfl,rfl,rfl,rfl,rfl,rfl,rfl,rfl,rfl,rfl⟩
theorem yc2 {N M B:Nat}{hx:List Int}{j:Int}{i:Nat}{d:Dv}{k t:Nat}{tm:List Dv} (hf:Fr20_3 N M B hx j (i:Int) d k (t:Int) tm) (ht:t<k) (hk:k<2 ^ 40) {H:List Ob}{c v:Nat}{x y:Node}
  (hix:idxD Try.prog 40 d (iv (t:Int))=some (.ptr c (ato (t:Int) 1))) (hld:ldOb H[c]? (ato (t:Int) 1)=some (iv (v:Int))) (hv:v<M) (hi:i<N) (hub:ldOb H[B+3]? (ato (v:Int) 1)=some (bv false)) (hxl:lkOb H[2]? (ato (i:Int) 4) 4=some (.p (.agg (zaf x)))) (hyl:lkOb H[3]? (ato (v:Int) 4) 4=some (.p (.agg (zaf y))))
  (hc:callD (callW Try.prog A0) A0 H 39 [.p (.agg (zaf x)),.p (.agg (zaf y))]=some (bv false,none)) :
  ∃ tm',Fr20_3 N M B hx j (i:Int) d k ((t+1:Nat):Int) tm'∧evW Try.prog A0 20 (.loop L20_3) ⟨tm,H,0⟩=evW Try.prog A0 20 (.loop L20_3) ⟨tm',H,0⟩:=by
 have hlt:(t:Int)<(k:Int):=by omega
 have hib:idxD Try.prog 65 (.ref (B+3) 0 M 1) (iv (v:Int))=some (.ptr (B+3) (ato (v:Int) 1)):=zf0 u65 z4 (by decide) (by omega) (by omega)
 have hxi:idxD Try.prog 23 (.ref 2 0 N 4) (iv (i:Int))=some (.ptr 2 (ato (i:Int) 4)):=zf0 u23 z25 (by decide) (by omega) (by omega)
 have hyi:idxD Try.prog 23 (.ref 3 0 M 4) (iv (v:Int))=some (.ptr 3 (ato (v:Int) 4)):=zf0 u23 z25 (by decide) (by omega) (by omega)
 have e1:w64 ((t:Int)+1)=((t+1:Nat):Int):=zbb (by omega)
 rw [hf.eq]
 generalize (fun j=>tm.getD j .junk)=g
 rw [zis]
 unfold L20_3 zae Try.f20 F20_3
 simp only [zak,ens]
 simp (maxSteps:=10000000) (implicitDefEqProofs:=false) (disch:=first | with_reducible assumption | exact rfl | exact im_ _ | (fail_if_success show Kn _ _);omega) only [bs,rs20,Nat.reduceAdd,↓reduceIte,zab a3,zab a4,zag a25 z25,hix,hld,hib,hub,hxi,hyi,hxl,hyl,hc,e1,hlt,zgl]
 refine ⟨_, ?_,rfl⟩
 exact ⟨rfl,rfl,rfl,rfl,rfl,rfl,rfl,rfl,rfl,rfl,rfl,rfl,rfl,rfl,rfl,rfl⟩
theorem ycr {N M B:Nat}{hx:List Int}{j:Int}{i:Nat}{d:Dv}{k t:Nat}{tm:List Dv} (hf:Fr20_3 N M B hx j (i:Int) d k (t:Int) tm) (ht:t<k) (hk:k<2 ^ 40) {H:List Ob}{c v:Nat}{x y:Node}
  (hix:idxD Try.prog 40 d (iv (t:Int))=some (.ptr c (ato (t:Int) 1))) (hld:ldOb H[c]? (ato (t:Int) 1)=some (iv (v:Int))) (hv:v<M) (hi:i<N) (hub:ldOb H[B+3]? (ato (v:Int) 1)=some (bv false)) (hxl:lkOb H[2]? (ato (i:Int) 4) 4=some (.p (.agg (zaf x)))) (hyl:lkOb H[3]? (ato (v:Int) 4) 4=some (.p (.agg (zaf y))))
  (hc:callD (callW Try.prog A0) A0 H 39 [.p (.agg (zaf x)),.p (.agg (zaf y))]=some (bv true,none)) {s:Int}{H1 H2 H3:List Ob}{SZ:List Pv}{od e:Dv}
  (hsv:ldOb H[4]? 0=some (.p (.lst false N SZ))) (hsz:loadD Try.prog H 3 (.p (.iptr SZ (ato (i:Int) 1)))=some (iv s)) (hszi:idxD Try.prog 40 (.p (.lst false N SZ)) (iv (i:Int))=some (.p (.iptr SZ (ato (i:Int) 1))))
  (hin:∀ tm,Fr20_4 N M B hx j (i:Int) d k (t:Int) (v:Int) s 0 tm→∃ tm',Fr20_4 N M B hx j (i:Int) d k (t:Int) (v:Int) s s tm'∧evW Try.prog A0 20 (.loop L20_4) ⟨tm,H,0⟩=some (.exit 8,⟨tm',H1,0⟩))
  (hod:ldOb H1[B+4]? 0=some od) (hap:zer Try.prog H1 #[36,36] od (.p (.lst true 1 [.v (.int .i64 (i:Int)),.v (.int .i64 (v:Int))]))=some (e,H2)) (hst:zdf Try.prog H2 36 (.ptr (B+4) 0) e=some H3) :
  ∃ tm',Fr20_3 N M B hx j (i:Int) d k (t:Int) tm'∧evW Try.prog A0 20 (.loop L20_3) ⟨tm,H,0⟩=some (.exit 6,⟨tm',H3,0⟩):=by
 obtain ⟨G,hG⟩:=zk5 (F:=F20_4 N M B hx j (i:Int) d k (t:Int) (v:Int) s s) hin (fun _ h=>h.eq)
 unfold L20_4 zae Try.f20 F20_4 at hG
 simp only [zak,ens] at hG
 have hlt:(t:Int)<(k:Int):=by omega
 have hib:idxD Try.prog 65 (.ref (B+3) 0 M 1) (iv (v:Int))=some (.ptr (B+3) (ato (v:Int) 1)):=zf0 u65 z4 (by decide) (by omega) (by omega)
 have hxi:idxD Try.prog 23 (.ref 2 0 N 4) (iv (i:Int))=some (.ptr 2 (ato (i:Int) 4)):=zf0 u23 z25 (by decide) (by omega) (by omega)
 have hyi:idxD Try.prog 23 (.ref 3 0 M 4) (iv (v:Int))=some (.ptr 3 (ato (v:Int) 4)):=zf0 u23 z25 (by decide) (by omega) (by omega)
 have e1:w64 ((t:Int)+1)=((t+1:Nat):Int):=zbb (by omega)
 rw [hf.eq]
 generalize (fun j=>tm.getD j .junk)=g
 rw [zis]
 unfold L20_3 zae Try.f20 F20_3
 simp only [zak,ens]
 simp (maxSteps:=10000000) (implicitDefEqProofs:=false) (disch:=first | with_reducible assumption | exact rfl | exact im_ _ | (exact ⟨rfl,rfl,rfl,rfl,rfl,rfl,rfl,rfl,rfl,rfl,rfl,rfl,rfl,rfl,rfl,rfl,rfl,rfl,rfl⟩) | (fail_if_success show Kn _ _);omega) only [bs,rs20,Nat.reduceAdd,↓reduceIte,zab a3,zab a4,zab a40,zab a36,zag a25 z25,hix,hld,hib,hub,hxi,hyi,hxl,hyl,hc,hsv,hszi,hsz,hG,hod,yhe,z8t,hap,hst,hlt,zi2]
 refine ⟨_, ?_,rfl⟩
 exact ⟨rfl,rfl,rfl,rfl,rfl,rfl,rfl,rfl,rfl,rfl,rfl,rfl,rfl,rfl,rfl,rfl⟩
theorem z2s {N M B:Nat}{hx:List Int}{j i:Int}{d:Dv}{k:Nat}{tm:List Dv} (hf:Fr20_3 N M B hx j i d k (k:Int) tm) {H:List Ob}:∃ tm',Fr20_3 N M B hx j i d k (k:Int) tm'∧evW Try.prog A0 20 (.loop L20_3) ⟨tm,H,0⟩=some (.exit 6,⟨tm',H,0⟩):=by
 have hlt:¬ (k:Int)<(k:Int):=by omega
 rw [hf.eq]
 generalize (fun j=>tm.getD j .junk)=g
 rw [zis]
 unfold L20_3 zae Try.f20 F20_3
 simp only [zak,ens]
 simp (maxSteps:=10000000) (implicitDefEqProofs:=false) (disch:=first | with_reducible assumption | exact rfl | exact im_ _ | (fail_if_success show Kn _ _);omega) only [bs,rs20,Nat.reduceAdd,↓reduceIte,hlt,zi2]
 refine ⟨_, ?_,rfl⟩
 exact ⟨rfl,rfl,rfl,rfl,rfl,rfl,rfl,rfl,rfl,rfl,rfl,rfl,rfl,rfl,rfl,rfl⟩
theorem ydr {N M B:Nat}{hx:List Int}{j i:Nat}{tm:List Dv} (hf:Fr20_2 N M B hx (j:Int) tm) (hj:j<N) (hi:i<N) (hN:N<2 ^ 40) {H:List Ob} (hld:ldOb H[B]? (ato (j:Int) 1)=some (iv (i:Int))) (hua:ldOb H[B+2]? (ato (i:Int) 1)=some (bv true)) :
  ∃ tm',Fr20_2 N M B hx ((j+1:Nat):Int) tm'∧evW Try.prog A0 20 (.loop L20_2) ⟨tm,H,0⟩=evW Try.prog A0 20 (.loop L20_2) ⟨tm',H,0⟩:=by
 have hlt:(j:Int)<(N:Int):=by omega
 have hij:idxD Try.prog 40 (.ref B 0 N 1) (iv (j:Int))=some (.ptr B (ato (j:Int) 1)):=zf0 u40 z3 (by decide) (by omega) (by omega)
 have hia:idxD Try.prog 65 (.ref (B+2) 0 N 1) (iv (i:Int))=some (.ptr (B+2) (ato (i:Int) 1)):=zf0 u65 z4 (by decide) (by omega) (by omega)
 have e1:w64 ((j:Int)+1)=((j+1:Nat):Int):=zbb (by omega)
 rw [hf.eq]
 generalize (fun j=>tm.getD j .junk)=g
 rw [zis]
 unfold L20_2 zae Try.f20 F20_2
 simp only [zak,ens]
 simp (maxSteps:=10000000) (implicitDefEqProofs:=false) (disch:=first | with_reducible assumption | exact rfl | exact im_ _ | (fail_if_success show Kn _ _);omega) only [bs,rs20,Nat.reduceAdd,↓reduceIte,zab a3,zab a4,hij,hld,hia,hua,e1,hlt,zgl]
 refine ⟨_, ?_,rfl⟩
 exact ⟨rfl,rfl,rfl,rfl,rfl,rfl,rfl,rfl,rfl,rfl,rfl,rfl⟩
theorem yhf {N M B:Nat}{hx:List Int}{j i:Nat}{tm:List Dv} (hf:Fr20_2 N M B hx (j:Int) tm) (hj:j<N) (hi:i<N) (hN:N<2 ^ 40) {H H1:List Ob} (hld:ldOb H[B]? (ato (j:Int) 1)=some (iv (i:Int))) (hua:ldOb H[B+2]? (ato (i:Int) 1)=some (bv false))
  {h:Int}{d:Dv}{k:Nat}{t:Int} (hh:rd hx (i:Int)=some h) (hlk:zia Try.prog H 62 (.mp 5) (.p (.v (.int .u64 h))) false=some d) (hlen:lenD Try.prog 40 d=some (iv (k:Int)))
  (hin:∀ tm,Fr20_3 N M B hx (j:Int) (i:Int) d k 0 tm→∃ tm',Fr20_3 N M B hx (j:Int) (i:Int) d k t tm'∧evW Try.prog A0 20 (.loop L20_3) ⟨tm,H,0⟩=some (.exit 6,⟨tm',H1,0⟩)) :
  ∃ tm',Fr20_2 N M B hx ((j+1:Nat):Int) tm'∧evW Try.prog A0 20 (.loop L20_2) ⟨tm,H,0⟩=evW Try.prog A0 20 (.loop L20_2) ⟨tm',H1,0⟩:=by
 obtain ⟨G,hG⟩:=zk5 (F:=F20_3 N M B hx (j:Int) (i:Int) d k t) hin (fun _ h=>h.eq)
 unfold L20_3 zae Try.f20 F20_3 at hG
 simp only [zak,ens] at hG
 have hlt:(j:Int)<(N:Int):=by omega
 obtain ⟨hh0,hh1,_⟩:=zhr hh
 have hij:idxD Try.prog 40 (.ref B 0 N 1) (iv (j:Int))=some (.ptr B (ato (j:Int) 1)):=zf0 u40 z3 (by decide) (by omega) (by omega)
 have hia:idxD Try.prog 65 (.ref (B+2) 0 N 1) (iv (i:Int))=some (.ptr (B+2) (ato (i:Int) 1)):=zf0 u65 z4 (by decide) (by omega) (by omega)
 have e1:w64 ((j:Int)+1)=((j+1:Nat):Int):=zbb (by omega)
 rw [hf.eq]
 generalize (fun j=>tm.getD j .junk)=g
 rw [zis]
 unfold L20_2 zae Try.f20 F20_2
 simp only [zak,ens]
 simp (maxSteps:=10000000) (implicitDefEqProofs:=false) (disch:=first | with_reducible assumption | exact rfl | exact im_ _ | (exact ⟨rfl,rfl,rfl,rfl,rfl,rfl,rfl,rfl,rfl,rfl,rfl,rfl,rfl,rfl,rfl,rfl⟩) | (fail_if_success show Kn _ _);omega) only [bs,rs20,Nat.reduceAdd,↓reduceIte,zab a3,zab a4,za5 a50,z4h,z1o,zrj,hij,hld,hia,hua,hlk,hlen,hG,e1,hlt,zgl]
 refine ⟨_, ?_,rfl⟩
 exact ⟨rfl,rfl,rfl,rfl,rfl,rfl,rfl,rfl,rfl,rfl,rfl,rfl⟩
theorem yb6 {N M B:Nat}{hx:List Int}{tm:List Dv} (hf:Fr20_2 N M B hx (N:Int) tm) {H:List Ob}:∃ tm',Fr20_2 N M B hx (N:Int) tm'∧evW Try.prog A0 20 (.loop L20_2) ⟨tm,H,0⟩=some (.exit 4,⟨tm',H,0⟩):=by
 have hlt:¬ (N:Int)<(N:Int):=by omega
 rw [hf.eq]
 generalize (fun j=>tm.getD j .junk)=g
 rw [zis]
 unfold L20_2 zae Try.f20 F20_2
 simp only [zak,ens]
 simp (maxSteps:=10000000) (implicitDefEqProofs:=false) (disch:=first | with_reducible assumption | exact rfl | exact im_ _ | (fail_if_success show Kn _ _);omega) only [bs,rs20,Nat.reduceAdd,↓reduceIte,hlt,zi2]
 refine ⟨_, ?_,rfl⟩
 exact ⟨rfl,rfl,rfl,rfl,rfl,rfl,rfl,rfl,rfl,rfl,rfl,rfl⟩
theorem M62:MapTy Try.prog 62 50 40 .u64:=⟨Try.underlying62,Try.underlying50,(by intro k b;cases b<;>kernel_rfl),(by kernel_rfl),u40,z3,b3,zc3⟩
theorem z2r {H:List Ob}{t:Nat}{row:List Int}{j:Nat}{v:Int} (h:H[t]?=some (.arr (encL zad row))) (hj:row[j]?=some v):ldOb H[t]? (ato (j:Int) 1)=some (iv v):=by
 rw [h,zos]
 have:=(zhx zfz (show rd row (j:Int)=some v by rw [zb2];exact hj) (k:=0) (by decide)).trans rfl
 rw [Nat.add_zero] at this
 unfold ato
 rw [this];rfl
theorem z4g {H:List Ob}{t:Nat}{row:List Bool}{j:Nat}{v:Bool} (h:H[t]?=some (.arr (encL zch row))) (hj:row[j]?=some v):ldOb H[t]? (ato (j:Int) 1)=some (bv v):=by
 rw [h,zos]
 have:=(zhx zml (show rd row (j:Int)=some v by rw [zb2];exact hj) (k:=0) (by decide)).trans rfl
 rw [Nat.add_zero] at this
 unfold ato
 rw [this];rfl
theorem zw7 {H:List Ob}{id:Nat}{L:List Node}{k:Nat}{v:Node} (h:H[id]?=some (.arr (encL en_Node L))) (hv:L[k]?=some v):lkOb H[id]? (ato (k:Int) 4) 4=some (.p (.agg (zaf v))):=by
 rw [h]
 exact (zsu zfu (show rd L (k:Int)=some v by rw [zb2];exact hv)).trans (by rw [zeg])
theorem zx0 {H:List Ob}{id:Nat}{L:List Node}{k:Nat}{v:Node} (h:H[id]?=some (.frz (encL en_Node L))) (hv:L[k]?=some v):lkOb H[id]? (ato (k:Int) 4) 4=some (.p (.agg (zaf v))):=by
 rw [h]
 exact (zr8 zfu (show rd L (k:Int)=some v by rw [zb2];exact hv)).trans (by rw [zeg])
theorem z24 {H:List Ob}{id k:Nat}{l:List Bool}{b:Bool} (h:H[id]?=some (.arr (encL zch l))) (hk:k<l.length):zdf Try.prog H 4 (.ptr id (ato (k:Int) 1)) (bv b)=some (H.set id (.arr (encL zch (l.set k b)))):=by
 obtain ⟨v,hv⟩:∃ v,rd l (k:Int)=some v:=⟨l[k],by rw [zb2];exact List.getElem?_eq_getElem hk⟩
 exact (zvp z4).trans (by rw [h];exact zlw zml hv (by decide) (by rw [zn0,zn0];rfl))
theorem yhs {H:List Ob}{id k:Nat}{l:List Int}{b:Int} (h:H[id]?=some (.arr (encL zad l))) (hk:k<l.length):zdf Try.prog H 3 (.ptr id (ato (k:Int) 1)) (iv b)=some (H.set id (.arr (encL zad (l.set k b)))):=by
 obtain ⟨v,hv⟩:∃ v,rd l (k:Int)=some v:=⟨l[k],by rw [zb2];exact List.getElem?_eq_getElem hk⟩
 exact (zdx z3).trans (by rw [h];exact zlw zfz hv (by decide) (by rw [zii,zii];rfl))
theorem ya1 {H:List Ob}{x y:Node} (h:size x<2 ^ 40) {b:Bool} (hb:zf2 x y=some b):callD (callW Try.prog A0) A0 H 39 [.p (.agg (zaf x)),.p (.agg (zaf y))]=some (bv b,none) :=
 zbi (args:=[.agg (zaf x),.agg (zaf y)]) rfl rfl rfl (by simp only [List.map_cons,List.map_nil,wk,wks,wkL];exact z69 x y _ hb)
structure TI (L R:List Node) (w:List Int) (T:Fam) (B:Nat) (od:List Nat) (t:Tw) (H:List Ob):Prop where
 prx:H[2]?=some (.frz (encL en_Node L))
 pry:H[3]?=some (.arr (encL en_Node R))
 sz:H[4]?=some (.var [.p (.lst false w.length (encL zad w))])
 fam:FamI .u64 5 T H
 ord:H[B]?=some (.arr (encL zad (od.map fun (k:Nat)=>(k:Int))))
 ma:H[B+2]?=some (.arr (encL zch t.ua))
 mb:H[B+3]?=some (.arr (encL zch t.ub))
 out:∃ o,B+4<o∧H[B+4]?=some (.var [.ref o 0 t.out.length 2])∧H[o]?=some (.arr (encL zac t.out))
 rng:∀ e∈T,5<e.2.1∧e.2.1<B
 hB:5<B
 la:t.ua.length=L.length
 lb:t.ub.length=R.length
theorem TI.marked {L R:List Node}{w:List Int}{T:Fam}{B:Nat}{od:List Nat}{t:Tw}{H:List Ob} (h:TI L R w T B od t H) (i v:Nat) :
  TI L R w T B od ⟨t.ua.set i true,t.ub.set v true,t.out⟩ ((H.set (B+2) (.arr (encL zch (t.ua.set i true)))).set (B+3) (.arr (encL zch (t.ub.set v true)))):=by
 have hB:=h.hB
 have l2:=(List.getElem?_eq_some_iff.1 h.ma).1
 have l3:=(List.getElem?_eq_some_iff.1 h.mb).1
 have get:∀ y o,H[y]?=some o→y≠B+2→y≠B+3→((H.set (B+2) (.arr (encL zch (t.ua.set i true)))).set (B+3) (.arr (encL zch (t.ub.set v true))))[y]?=some o:=by
  intro y o hy h1 h2
  rw [List.getElem?_set_ne (Ne.symm h2),List.getElem?_set_ne (Ne.symm h1)];exact hy
 obtain ⟨o,o1,o2,o3⟩:=h.out
 refine ⟨get _ _ h.prx (by omega) (by omega),get _ _ h.pry (by omega) (by omega),get _ _ h.sz (by omega) (by omega),⟨get _ _ h.fam.mp (by omega) (by omega),fun e he=>?_,h.fam.nd⟩,get _ _ h.ord (by omega) (by omega), ?_, ?_,⟨o,o1,get _ _ o2 (by omega) (by omega),get _ _ o3 (by omega) (by omega)⟩,h.rng,hB,by rw [List.length_set];exact h.la,by rw [List.length_set];exact h.lb⟩
 ·have:=h.rng e he
  exact get _ _ (h.fam.row e he) (by omega) (by omega)
 ·rw [List.getElem?_set_ne (by omega),List.getElem?_set_self l2]
 ·rw [List.getElem?_set_self (by rw [List.length_set];exact l3)]
theorem zxc {L R:List Node}{w:List Int}{T:Fam}{B:Nat}{od:List Nat}{hx:List Int}{j:Int}{i:Nat}{d:Dv}{k:Nat}{tt:Int}{v s:Nat}{ua ub:List Bool}{out:List Pair} (hs:i+s≤L.length) (hs2:v+s≤R.length) (hN:L.length<2 ^ 40) (hM:R.length<2 ^ 40) :
  ∀ (f q:Nat) (H:List Ob),q+f=s→TI L R w T B od ⟨mrk ua i q,mrk ub v q,out⟩ H→∃ H1,TI L R w T B od ⟨mrk ua i s,mrk ub v s,out⟩ H1 ∧
   ∀ tm,Fr20_4 L.length R.length B hx j (i:Int) d k tt (v:Int) (s:Int) (q:Int) tm→∃ tm',Fr20_4 L.length R.length B hx j (i:Int) d k tt (v:Int) (s:Int) (s:Int) tm'∧evW Try.prog A0 20 (.loop L20_4) ⟨tm,H,0⟩=some (.exit 8,⟨tm',H1,0⟩)
 | 0,q,H,hf,hI=>by
  obtain rfl:q=s:=by omega
  exact ⟨H,hI,fun tm h=>yde h⟩
 | f+1,q,H,hf,hI=>by
  have hla:=hI.la
  have hlb:=hI.lb
  simp only at hla hlb
  obtain ⟨H1,h1,h2⟩:=zxc (j:=j) (d:=d) (k:=k) (tt:=tt) hs hs2 hN hM f (q+1) _ (by omega) (hI.marked (i+q) (v+q))
  refine ⟨H1,h1,fun tm h=>?_⟩
  have hma:=hI.ma
  have hmb:=hI.mb
  simp only at hma hmb
  obtain ⟨tm1,f1,e1⟩:=yea h (by omega) hs hs2 hN hM (z24 hma (by omega)) (z24 (by rw [List.getElem?_set_ne (by omega)];exact hmb) (by omega))
  obtain ⟨tm2,f2,e2⟩:=h2 tm1 f1
  exact ⟨tm2,f2,e1.trans e2⟩
theorem ybu {L R:List Node}{w:List Int}{T:Fam}{B:Nat}{od:List Nat}{t:Tw}{H:List Ob} (h:TI L R w T B od t H) (hb:t.out.length≤2 ^ 30) (p:Pair):∃ dd e H2 H3,ldOb H[B+4]? 0=some dd∧zer Try.prog H #[36,36] dd (.p (.lst true 1 [.v (.int .i64 p.Old),.v (.int .i64 p.New)]))=some (e,H2)∧zdf Try.prog H2 36 (.ptr (B+4) 0) e=some H3 ∧
  TI L R w T B od ⟨t.ua,t.ub,t.out++[p]⟩ H3:=by
 obtain ⟨o,o1,o2,o3⟩:=h.out
 have hB:=h.hB
 have l4:=(List.getElem?_eq_some_iff.1 o2).1
 have lo:=(List.getElem?_eq_some_iff.1 o3).1
 have hap:zer Try.prog H #[36,36] (.ref o 0 t.out.length 2) (.p (.lst true 1 [.v (.int .i64 p.Old),.v (.int .i64 p.New)]))=some (.ref H.length 0 (t.out++[p]).length 2,H.set o .dead++[.arr (encL zac (t.out++[p]))]):=by
  rw [zi7 u36 u36 z43 b43 zc43 ⟨by decide,by decide,rfl⟩,o3]
  exact zjk (y:=[p]) zds rfl rfl (by rw [z6w,zdt]) (by omega)
 have h2v:(H.set o .dead++[Ob.arr (encL zac (t.out++[p]))])[B+4]?=some (.var [.ref o 0 t.out.length 2]):=zjt (by rw [List.getElem?_set_ne (by omega)];exact o2)
 have hst:zdf Try.prog (H.set o .dead++[Ob.arr (encL zac (t.out++[p]))]) 36 (.ptr (B+4) 0) (.ref H.length 0 (t.out++[p]).length 2)=some ((H.set o .dead++[Ob.arr (encL zac (t.out++[p]))]).set (B+4) (.var [.ref H.length 0 (t.out++[p]).length 2])):=by
  rw [zp9 z36,h2v]
  simp only [stgOb]
  rw [if_pos ⟨rfl,by simp⟩]
  rfl
 have get:∀ y z,H[y]?=some z→y≠o→y≠B+4→((H.set o .dead++[Ob.arr (encL zac (t.out++[p]))]).set (B+4) (.var [.ref H.length 0 (t.out++[p]).length 2]))[y]?=some z:=by
  intro y z hy h1 h2
  rw [List.getElem?_set_ne (Ne.symm h2)]
  exact zjt (by rw [List.getElem?_set_ne (Ne.symm h1)];exact hy)
 refine ⟨_,_,_,_,by rw [o2,zjn];rfl,hap,hst,⟨get _ _ h.prx (by omega) (by omega),get _ _ h.pry (by omega) (by omega),get _ _ h.sz (by omega) (by omega),⟨get _ _ h.fam.mp (by omega) (by omega),fun e he=>?_,h.fam.nd⟩,get _ _ h.ord (by omega) (by omega),get _ _ h.ma (by omega) (by omega),get _ _ h.mb (by omega) (by omega),⟨H.length,by omega, ?_, ?_⟩,h.rng,hB,h.la,h.lb⟩⟩
 ·have:=h.rng e he
  exact get _ _ (h.fam.row e he) (by omega) (by omega)
 ·rw [List.getElem?_set_self (by rw [List.length_append,List.length_set];omega)]
 ·rw [List.getElem?_set_ne (by omega)]
  have:(H.set o Ob.dead).length=H.length:=by simp
  rw [← this];exact getC
open Classical in
noncomputable def twP (L R:List Node) (t:Tw) (i v:Nat):Bool:=!(t.ub.getD v false) && decide (barV (nodeL L (i:Int))=barV (nodeL R (v:Int)))
noncomputable def twEnd (L:List Node) (t:Tw) (i:Nat):Option Nat→Tw
 | none=>t
 | some v=>⟨mrk t.ua i (size (nodeL L (i:Int))),mrk t.ub v (size (nodeL L (i:Int))),t.out++[⟨(i:Int),(v:Int)⟩]⟩
open Classical in
theorem ztc {L R:List Node}{T:Fam}{B:Nat}{od:List Nat}{hx:List Int}{j:Int}{i:Nat}{c:Nat}{Q:List Nat}{t:Tw}{H:List Ob} (hI:TI L R (szL L) T B od t H) (hN:L.length<2 ^ 30) (hM:R.length<2 ^ 30) (hLs:∀ (k:Nat) v,L[k]?=some v→size v<2 ^ 40) (hi:i<L.length) (hfit:i+size (nodeL L (i:Int))≤L.length)
  (hfit2:∀ v,v<R.length→barV (nodeL L (i:Int))=barV (nodeL R (v:Int))→v+size (nodeL L (i:Int))≤R.length) (hout:t.out.length≤2 ^ 30) (hc:H[c]?=some (.arr (encL zad (Q.map fun (q:Nat)=>(q:Int))))) (hQ:∀ q∈Q,q<R.length) (hQl:Q.length<2 ^ 40) :
  ∀ (l:List Nat) (q:Nat),Q.drop q=l→q≤Q.length→∃ H1 e,TI L R (szL L) T B od (twEnd L t i (l.find? (twP L R t i))) H1 ∧
   ∀ tm,Fr20_3 L.length R.length B hx j (i:Int) (.ref c 0 Q.length 1) Q.length (q:Int) tm→∃ tm',Fr20_3 L.length R.length B hx j (i:Int) (.ref c 0 Q.length 1) Q.length e tm'∧evW Try.prog A0 20 (.loop L20_3) ⟨tm,H,0⟩=some (.exit 6,⟨tm',H1,0⟩)
 | [],q,hl,hq=>by
  obtain rfl:=zig hl hq
  exact ⟨H,_,hI,fun tm hf=>z2s hf⟩
 | v :: l,q,hl,hq=>by
  obtain ⟨hv,hl',hq'⟩:=zg5 hl
  have hvR:=hQ v (List.mem_of_getElem? hv)
  have hld:ldOb H[c]? (ato (q:Int) 1)=some (iv (v:Int)):=z2r hc (by rw [List.getElem?_map,hv];rfl)
  have hix:idxD Try.prog 40 (.ref c 0 Q.length 1) (iv (q:Int))=some (.ptr c (ato (q:Int) 1)):=zf0 u40 z3 (by decide) (by omega) (by omega)
  obtain ⟨b,hb⟩:∃ b,t.ub[v]?=some b:=⟨_,List.getElem?_eq_getElem (by rw [hI.lb];exact hvR)⟩
  have hgd:t.ub.getD v false=b:=by rw [List.getD_eq_getElem?_getD,hb];rfl
  have hub:=z4g hI.mb hb
  obtain ⟨x,hx'⟩:∃ x,L[i]?=some x:=⟨_,List.getElem?_eq_getElem hi⟩
  obtain ⟨y,hy'⟩:∃ y,R[v]?=some y:=⟨_,List.getElem?_eq_getElem hvR⟩
  have hxn:=ziu hx'
  have hyn:=ziu hy'
  have hP:twP L R t i v=(!b && decide (barV x=barV y)):=by unfold twP;rw [hgd,hxn,hyn]
  rw [List.find?_cons,hP]
  cases b with
  | true =>
   simp only [Bool.not_true,Bool.false_and]
   obtain ⟨H1,e,h1,h2⟩:=ztc hI hN hM hLs hi hfit hfit2 hout hc hQ hQl l (q+1) hl' (by omega)
   refine ⟨H1,e,h1,fun tm hf=>?_⟩
   obtain ⟨tm1,f1,e1⟩:=ybv (x:=x) (y:=y) hf hq' hQl hix hld hvR hi hub
   obtain ⟨tm2,f2,e2⟩:=h2 tm1 f1
   exact ⟨tm2,f2,e1.trans e2⟩
  | false =>
   simp only [Bool.not_false,Bool.true_and]
   have hxs:=hLs i x hx'
   by_cases hs:barV x=barV y
   ·rw [decide_eq_true hs]
    have hcall:=ya1 (H:=H) (x:=x) (y:=y) hxs (b:=true) (by unfold zf2;rw [if_pos hxs,decide_eq_true hs])
    have hsx:size (nodeL L (i:Int))=size x:=by rw [hxn]
    have hf2:=hfit2 v hvR (by rw [hxn,hyn];exact hs)
    obtain ⟨H1,m1,m2⟩:=zxc (j:=j) (hx:=hx) (i:=i) (d:=.ref c 0 Q.length 1) (k:=Q.length) (tt:=(q:Int)) (v:=v) (s:=size x) (ua:=t.ua) (ub:=t.ub) (out:=t.out) (by omega) (by omega) (by omega) (by omega) (size x) 0 H (by omega) hI
    obtain ⟨dd,e,H2,H3,y1,y2,y3,y4⟩:=ybu m1 hout ⟨(i:Int),(v:Int)⟩
    refine ⟨H3,(q:Int),by simp only [twEnd,hsx];exact y4,fun tm hf=>?_⟩
    have hszi:rd (szL L) (i:Int)=some (size x:Int):=by rw [zb2];unfold szL;rw [List.getElem?_map,hx'];rfl
    have hlen:(szL L).length=L.length:=by unfold szL;rw [List.length_map]
    have hidx:idxD Try.prog 40 (.p (.lst false L.length (encL zad (szL L)))) (iv (i:Int))=some (.p (.iptr (encL zad (szL L)) (ato (i:Int) 1))):=by
     rw [← hlen];exact znz u40 z3 (by decide) zfz (by omega) (by omega)
    have hcell:loadD Try.prog H 3 (.p (.iptr (encL zad (szL L)) (ato (i:Int) 1)))=some (iv (size x:Int)):=by
     rw [za5 a3]
     have:=(zhx zfz hszi (k:=0) (by decide)).trans rfl
     rw [Nat.add_zero] at this
     unfold ato
     rw [this];rfl
    have hsv:ldOb H[4]? 0=some (.p (.lst false L.length (encL zad (szL L)))):=by rw [hI.sz,zjn,hlen];rfl
    exact ycr hf hq' hQl hix hld hvR hi hub (zx0 hI.prx hx') (zw7 hI.pry hy') hcall hsv hcell hidx m2 y1 y2 y3
   ·rw [decide_eq_false hs]
    have hcall:=ya1 (H:=H) (x:=x) (y:=y) hxs (b:=false) (by unfold zf2;rw [if_pos hxs,decide_eq_false hs])
    obtain ⟨H1,e,h1,h2⟩:=ztc hI hN hM hLs hi hfit hfit2 hout hc hQ hQl l (q+1) hl' (by omega)
    refine ⟨H1,e,h1,fun tm hf=>?_⟩
    obtain ⟨tm1,f1,e1⟩:=yc2 hf hq' hQl hix hld hvR hi hub (zx0 hI.prx hx') (zw7 hI.pry hy') hcall
    obtain ⟨tm2,f2,e2⟩:=h2 tm1 f1
    exact ⟨tm2,f2,e1.trans e2⟩
def idxH (hy:List Int) (M:Nat) (h:Int):List Nat:=(List.range M).filter fun q=>decide (hy.getD q 0=h)
theorem z23 {L R:List Node}{hx hy:List Int}{t:Tw}{i:Nat}:zpa L R hx hy t i=(idxH hy R.length (hx.getD i 0)).find? (twP L R t i):=by
 unfold zpa idxH twP
 rw [List.find?_filter]
 congr 1
 funext k
 rw [Bool.eq_iff_iff]
 simp
theorem zt2 {L R:List Node}{hx hy:List Int}{t:Tw}{i:Nat}:zg4 L R hx hy t i=if t.ua.getD i false=true then t else twEnd L t i ((idxH hy R.length (hx.getD i 0)).find? (twP L R t i)):=by
 unfold zg4
 rw [z23]
 congr 1
theorem zzt {L R:List Node}{hx hy:List Int}{t:Tw}{i:Nat}:(zg4 L R hx hy t i).out.length≤t.out.length+1:=by
 rw [zt2]
 split
 ·omega
 ·cases (idxH hy R.length (hx.getD i 0)).find? (twP L R t i) with
  | none=>simp only [twEnd];omega
  | some v=>simp only [twEnd,List.length_append,List.length_singleton];omega
theorem ztb {L R:List Node}{T:Fam}{B:Nat}{od:List Nat}{hx hy:List Int} (hN:L.length<2 ^ 20) (hM:R.length<2 ^ 20) (hLs:∀ (k:Nat) v,L[k]?=some v→size v<2 ^ 40) (hhx:hx.length=L.length) (hod:od.length=L.length) (hodm:∀ i∈od,i<L.length)
  (hfit:∀ i,i<L.length→i+size (nodeL L (i:Int))≤L.length) (hfit2:∀ i v,i<L.length→v<R.length→barV (nodeL L (i:Int))=barV (nodeL R (v:Int))→v+size (nodeL L (i:Int))≤R.length)
  (hT:∀ h,lookR T h=(idxH hy R.length h).map fun (q:Nat)=>(q:Int)) :
  ∀ (l:List Nat) (j:Nat) (t:Tw) (H:List Ob),od.drop j=l→j≤od.length→t.out.length≤j→TI L R (szL L) T B od t H→∃ H1,TI L R (szL L) T B od (l.foldl (zg4 L R hx hy) t) H1 ∧
   ∀ tm,Fr20_2 L.length R.length B hx (j:Int) tm→∃ tm',Fr20_2 L.length R.length B hx (L.length:Int) tm'∧evW Try.prog A0 20 (.loop L20_2) ⟨tm,H,0⟩=some (.exit 4,⟨tm',H1,0⟩)
 | [],j,t,H,hl,hj,ho,hI=>by
  obtain rfl:=zig hl hj
  rw [hod]
  exact ⟨H,hI,fun tm hf=>yb6 hf⟩
 | i :: l,j,t,H,hl,hj,ho,hI=>by
  obtain ⟨hi,hl',hj'⟩:=zg5 hl
  have hiL:=hodm i (List.mem_of_getElem? hi)
  have hld:ldOb H[B]? (ato (j:Int) 1)=some (iv (i:Int)):=z2r hI.ord (by rw [List.getElem?_map,hi];rfl)
  obtain ⟨b,hb⟩:∃ b,t.ua[i]?=some b:=⟨_,List.getElem?_eq_getElem (by rw [hI.la];exact hiL)⟩
  have hgd:t.ua.getD i false=b:=by rw [List.getD_eq_getElem?_getD,hb];rfl
  have hua:=z4g hI.ma hb
  rw [List.foldl_cons]
  have hst:=zt2 (L:=L) (R:=R) (hx:=hx) (hy:=hy) (t:=t) (i:=i)
  rw [hgd] at hst
  have hso:=zzt (L:=L) (R:=R) (hx:=hx) (hy:=hy) (t:=t) (i:=i)
  cases b with
  | true =>
   rw [if_pos rfl] at hst
   rw [hst]
   obtain ⟨H1,h1,h2⟩:=ztb (hx:=hx) hN hM hLs hhx hod hodm hfit hfit2 hT l (j+1) t H hl' (by omega) (by omega) hI
   refine ⟨H1,h1,fun tm hf=>?_⟩
   obtain ⟨tm1,f1,e1⟩:=ydr hf (by omega) hiL (by omega) hld hua
   obtain ⟨tm2,f2,e2⟩:=h2 tm1 f1
   exact ⟨tm2,f2,e1.trans e2⟩
  | false =>
   rw [if_neg (by simp)] at hst
   obtain ⟨h,hh⟩:∃ h,hx[i]?=some h:=⟨_,List.getElem?_eq_getElem (by omega)⟩
   have hhd:hx.getD i 0=h:=by rw [List.getD_eq_getElem?_getD,hh];rfl
   have hrd:rd hx (i:Int)=some h:=by rw [zb2];exact hh
   rw [hhd] at hst
   have hQm:∀ q∈idxH hy R.length h,q<R.length:=fun q hq=>List.mem_range.1 (List.mem_filter.1 hq).1
   have hQl:(idxH hy R.length h).length≤R.length:=by
    unfold idxH
    refine Nat.le_trans (List.length_filter_le _ _) ?_
    simp
   have cont:∀ H1,TI L R (szL L) T B od (zg4 L R hx hy t i) H1→∀ d k e,zia Try.prog H 62 (.mp 5) (.p (.v (.int .u64 h))) false=some d→lenD Try.prog 40 d=some (iv ((k:Nat):Int)) →
     (∀ tm,Fr20_3 L.length R.length B hx (j:Int) (i:Int) d k 0 tm→∃ tm',Fr20_3 L.length R.length B hx (j:Int) (i:Int) d k e tm'∧evW Try.prog A0 20 (.loop L20_3) ⟨tm,H,0⟩=some (.exit 6,⟨tm',H1,0⟩)) →
     ∃ H1,TI L R (szL L) T B od (l.foldl (zg4 L R hx hy) (zg4 L R hx hy t i)) H1∧∀ tm,Fr20_2 L.length R.length B hx (j:Int) tm→∃ tm',Fr20_2 L.length R.length B hx (L.length:Int) tm'∧evW Try.prog A0 20 (.loop L20_2) ⟨tm,H,0⟩=some (.exit 4,⟨tm',H1,0⟩):=by
    intro H1 h1 d k e hlk hlen hin
    obtain ⟨H2,g1,g2⟩:=ztb (hx:=hx) hN hM hLs hhx hod hodm hfit hfit2 hT l (j+1) _ H1 hl' (by omega) (by omega) h1
    refine ⟨H2,g1,fun tm hf=>?_⟩
    obtain ⟨tm1,f1,e1⟩:=yhf hf (by omega) hiL (by omega) hld hua hrd hlk hlen hin
    obtain ⟨tm2,f2,e2⟩:=g2 tm1 f1
    exact ⟨tm2,f2,e1.trans e2⟩
   cases ha:atK T h with
   | none =>
    have e0:lookR T h=[]:=by simp [lookR,ha]
    have eQ:idxH hy R.length h=[]:=by have:=hT h;rw [e0] at this;exact List.map_eq_nil_iff.1 this.symm
    refine cont H (by rw [hst,eQ];exact hI) _ 0 0 (hI.fam.lookup_none M62 ha) (zal u40) (fun tm hf=>z2s (k:=0) hf)
   | some k0 =>
    obtain ⟨e,he,hk⟩:=zou ha
    have hm:e∈T:=List.mem_of_getElem? he
    have e0:lookR T h=e.2.2:=by simp [lookR,ha,he]
    have er:e.2.2=(idxH hy R.length h).map fun (q:Nat)=>(q:Int):=by rw [← e0];exact hT h
    have el:e.2.2.length=(idxH hy R.length h).length:=by rw [er,List.length_map]
    have hlk:=hI.fam.lookup_some M62 ha he
    rw [el] at hlk
    have hrow:=hI.fam.row e hm
    rw [er] at hrow
    obtain ⟨H1,e',h1,h2⟩:=ztc (hx:=hx) (j:=(j:Int)) hI (by omega) (by omega) hLs hiL (hfit i hiL) (fun v hv=>hfit2 i v hiL hv) (by omega) hrow hQm (by omega) (idxH hy R.length h) 0 rfl (Nat.zero_le _)
    exact cont H1 (by rw [hst];exact h1) _ _ _ hlk (zf7 u40) h2
theorem z5y (hy:List Int) (i:Nat) (h:Int):(idxH hy (i+1) h).map (fun (q:Nat)=>(q:Int))=(idxH hy i h).map (fun (q:Nat)=>(q:Int))++if hy.getD i 0=h then [(i:Int)] else []:=by
 unfold idxH
 rw [List.range_succ,List.filter_append,List.map_append]
 congr 1
 by_cases hh:hy.getD i 0=h
 ·rw [if_pos hh,List.filter_cons,decide_eq_true hh];rfl
 ·rw [if_neg hh,List.filter_cons,decide_eq_false hh];rfl
theorem zyk {N:Nat}{hx hy:List Int} (hM:hy.length<2 ^ 20):∀ (f i:Nat) (T:Fam) (H:List Ob),i+f=hy.length→FamI .u64 5 T H→(∀ h,lookR T h=(idxH hy i h).map fun (q:Nat)=>(q:Int))→(∀ e∈T,5<e.2.1) →
  ∃ T' H',FamI .u64 5 T' H'∧(∀ h,lookR T' h=(idxH hy hy.length h).map fun (q:Nat)=>(q:Int))∧(∀ e∈T',5<e.2.1)∧(∀ y o,y<5→H[y]?=some o→H'[y]?=some o) ∧
   ∀ tm,Fr20_0 N hy.length hx hy (i:Int) tm→∃ tm',Fr20_0 N hy.length hx hy (hy.length:Int) tm'∧evW Try.prog A0 20 (.loop L20_0) ⟨tm,H,0⟩=some (.exit 0,⟨tm',H',0⟩)
 | 0,i,T,H,hf,hI,hT,hr=>by
  obtain rfl:i=hy.length:=by omega
  exact ⟨T,H,hI,hT,hr,fun y o _ h=>h,fun tm h=>ydf h⟩
 | f+1,i,T,H,hf,hI,hT,hr=>by
  obtain ⟨h,hh⟩:∃ h,hy[i]?=some h:=⟨_,List.getElem?_eq_getElem (by omega)⟩
  have hhd:hy.getD i 0=h:=by rw [List.getD_eq_getElem?_getD,hh];rfl
  have hz:=hI.zlt
  obtain ⟨d,e,H2,H3,T',g1,g2,g3,g4,g5,g6,g7,g8⟩:=ydd M62 hI h (i:Int) (fun k=>by
   rw [hT k,List.length_map]
   unfold idxH
   refine Nat.le_trans (List.length_filter_le _ _) ?_
   simp;omega)
  obtain ⟨T2,H',k1,k2,k3,k4,k5⟩:=zyk (N:=N) (hx:=hx) hM f (i+1) T' H3 (by omega) g4 (fun k=>by rw [g5 k,hT k,z5y,hhd]) (fun e' he'=>by
   rcases g7 e' he' with ⟨e2,h1,h2⟩ | h1
   ·rw [← h2];exact hr e2 h1
   ·rw [h1];exact hz)
  refine ⟨T2,H',k1,k2,k3,fun y o hy' ho=>k4 y o hy' (g6 y o ho (by omega) (fun e' he'=>by have:=hr e' he';omega)),fun tm hf'=>?_⟩
  obtain ⟨tm1,f1,e1⟩:=yh0 hf' (by omega) (by omega) (show rd hy (i:Int)=some h by rw [zb2];exact hh) g1 g2 g3
  obtain ⟨tm2,f2,e2⟩:=k5 tm1 f1
  exact ⟨tm2,f2,e1.trans e2⟩
def ordI (N i:Nat):List Int:=((List.range i).map fun (k:Nat)=>(k:Int))++List.replicate (N - i) 0
theorem z58 {N i:Nat} (h:i≤N):(ordI N i).length=N:=by unfold ordI;simp;omega
theorem z8u {N i:Nat} (h:i<N):(ordI N i).set i (i:Int)=ordI N (i+1):=by
 unfold ordI
 obtain ⟨m,rfl⟩:∃ m,N=i+(m+1):=⟨N - i - 1,by omega⟩
 rw [show i+(m+1) - i=m+1 from by omega,show i+(m+1) - (i+1)=m from by omega,List.set_append_right _ _ (by simp),List.replicate_succ]
 simp only [List.length_map,List.length_range,Nat.sub_self,List.set_cons_zero,List.range_succ,List.map_append,List.map_cons,List.map_nil,List.append_assoc,List.cons_append,List.nil_append]
theorem zxq {N M B:Nat}{hx:List Int} (hN:N<2 ^ 20):∀ (f i:Nat) (H:List Ob),i+f=N→H[B]?=some (.arr (encL zad (ordI N i)))→H[B+1]?=some (.var [.ref B 0 N 1]) →
  ∃ H',H'[B]?=some (.arr (encL zad (ordI N N)))∧(∀ y,y≠B→H'[y]?=H[y]?)∧H'.length=H.length∧∀ tm,Fr20_1 N M B hx (i:Int) tm→∃ tm',Fr20_1 N M B hx (N:Int) tm'∧evW Try.prog A0 20 (.loop L20_1) ⟨tm,H,0⟩=some (.exit 2,⟨tm',H',0⟩)
 | 0,i,H,hf,h1,h2=>by
  obtain rfl:i=N:=by omega
  exact ⟨H,h1,fun y _=>rfl,rfl,fun tm h=>yce h⟩
 | f+1,i,H,hf,h1,h2=>by
  have hl:=z58 (N:=N) (i:=i) (by omega)
  have hB:=(List.getElem?_eq_some_iff.1 h1).1
  have hst:=yhs (b:=(i:Int)) h1 (show i<(ordI N i).length by omega)
  rw [z8u (by omega)] at hst
  obtain ⟨H',k1,k2,k3,k4⟩:=zxq (M:=M) (hx:=hx) hN f (i+1) (H.set B (.arr (encL zad (ordI N (i+1))))) (by omega) (by rw [List.getElem?_set_self hB]) (by rw [List.getElem?_set_ne (by omega)];exact h2)
  refine ⟨H',k1,fun y hy=>by rw [k2 y hy,List.getElem?_set_ne (Ne.symm hy)],by rw [k3,List.length_set],fun tm h=>?_⟩
  obtain ⟨tm1,f1,e1⟩:=yiu h (by omega) (by omega) (by rw [h2,zjn];rfl) hst
  obtain ⟨tm2,f2,e2⟩:=k4 tm1 f1
  exact ⟨tm2,f2,e1.trans e2⟩
theorem zzr {H:List Ob}{B:Nat}{o w:List Int}{r:List Int×List Int} (hB:4<B) (h1:H[B]?=some (.arr (encL zad o))) (h2:H[4]?=some (.var [.p (.lst false w.length (encL zad w))])) (h3:H[B+1]?=some (.var [.ref B 0 o.length 1])) (hr:zew o w=some r) :
  callD (callW Try.prog A0) A0 H 41 [.ifc 40 (.ref B 0 o.length 1),.fn (.func 42) [.ptr 4 0,.ptr (B+1) 0]]=some (.p (.tup []),some (((H.set B (.arr (encL zad r.1))).set 4 (.var [.p (.lst false r.2.length (encL zad r.2))])).set (B+1) (.var [.ref B 0 r.1.length 1]))):=by
 have l1:=(List.getElem?_eq_some_iff.1 h1).1
 have l3:=(List.getElem?_eq_some_iff.1 h3).1
 have n1:(B == 4)=false:=by simp;omega
 have n2:(B == B+1)=false:=by simp
 have n3:(4 == B)=false:=by simp;omega
 have n4:(4 == B+1)=false:=by simp;omega
 have n5:(B+1 == B)=false:=by simp
 have n6:(B+1 == 4)=false:=by simp;omega
 have hcol:zen H 64 [B,4,B+1] []=[B,4,B+1]:=by
  simp only [zen,List.contains,List.elem,h1,h2,h3,zfi,zav,za8,List.append_nil,List.nil_append,List.cons_append,n1,n2,n3,n4,n5,n6,BEq.rfl,beq_self_eq_true,Bool.false_eq_true,if_false,if_true]
 refine (zbd (dsw:=[.ifc 40 (.ref B 0 o.length 1),.fn (.func 42) [.ptr 4 0,.ptr (B+1) 0]]) (ds':=[.ifc 40 (.ref 0 0 o.length 1),.fn (.func 42) [.ptr 1 0,.ptr 2 0]]) (i:=B) (ids:=[4,B+1]) (o:=.arr (encL zad o)) (os:=[.var [.p (.lst false w.length (encL zad w))],.var [.ref 0 0 o.length 1]])
  (o':=.arr (encL zad r.1)) (os':=[.var [.p (.lst false r.2.length (encL zad r.2))],.var [.ref 0 0 r.1.length 1]]) rfl rfl hcol ?_ ?_ ?_ (zj5 hr) rfl rfl).trans ?_
 ·have hk:accOk H [B,4,B+1] [B,4,B+1]=true:=by
   have g1:H.getD B .dead=.arr (encL zad o):=by rw [List.getD_eq_getElem?_getD,h1];rfl
   have g2:H.getD 4 .dead=.var [.p (.lst false w.length (encL zad w))]:=by rw [List.getD_eq_getElem?_getD,h2];rfl
   have g3:H.getD (B+1) .dead=.var [.ref B 0 o.length 1]:=by rw [List.getD_eq_getElem?_getD,h3];rfl
   simp only [accOk,List.all_cons,List.all_nil,g1,g2,g3,zfi,zav,za8,List.append_nil,List.contains,List.elem,n1,n2,n3,n4,n5,n6,BEq.rfl,Bool.and_true,Bool.and_eq_true,decide_eq_true_eq]
   refine ⟨?_, ?_⟩
   ·simp;omega
   ·refine ⟨by omega,by omega,by omega⟩
  exact hk
 ·simp only [zbs,zd8,List.idxOf_cons,n1,n2,n3,n4,n5,n6,BEq.rfl,cond_true,cond_false,if_true,Bool.false_eq_true,if_false]
 ·have g1:H.getD B .dead=.arr (encL zad o):=by rw [List.getD_eq_getElem?_getD,h1];rfl
  have g2:H.getD 4 .dead=.var [.p (.lst false w.length (encL zad w))]:=by rw [List.getD_eq_getElem?_getD,h2];rfl
  have g3:H.getD (B+1) .dead=.var [.ref B 0 o.length 1]:=by rw [List.getD_eq_getElem?_getD,h3];rfl
  simp only [za0,List.map_cons,List.map_nil,g1,g2,g3,obMap,zbs,zd8,List.idxOf_cons,BEq.rfl,cond_true]
 ·simp only [zdh,obMap,zbs,zd8,backD,List.map_nil,List.append_nil]
  rfl
theorem z5b {H:List Ob}{p o:Nat}{l r:List Pair} (hpo:p≠o) (h1:H[o]?=some (.arr (encL zac l))) (h2:H[p]?=some (.var [.ref o 0 l.length 2])) (hr:zhf l=some r) :
  callD (callW Try.prog A0) A0 H 43 [.ifc 36 (.ref o 0 l.length 2),.fn (.func 44) [.ptr p 0]]=some (.p (.tup []),some ((H.set o (.arr (encL zac r))).set p (.var [.ref o 0 r.length 2]))):=by
 have l1:=(List.getElem?_eq_some_iff.1 h1).1
 have l2:=(List.getElem?_eq_some_iff.1 h2).1
 have n1:(o == p)=false:=by simp;omega
 have n2:(p == o)=false:=by simp;omega
 have g1:H.getD o .dead=.arr (encL zac l):=by rw [List.getD_eq_getElem?_getD,h1];rfl
 have g2:H.getD p .dead=.var [.ref o 0 l.length 2]:=by rw [List.getD_eq_getElem?_getD,h2];rfl
 have hcol:zen H 64 [o,p] []=[o,p]:=by
  simp only [zen,List.contains,List.elem,h1,h2,zfi,zav,za8,List.append_nil,List.nil_append,List.cons_append,n1,n2,BEq.rfl,beq_self_eq_true,Bool.false_eq_true,if_false,if_true]
 refine (zbd (dsw:=[.ifc 36 (.ref o 0 l.length 2),.fn (.func 44) [.ptr p 0]]) (ds':=[.ifc 36 (.ref 0 0 l.length 2),.fn (.func 44) [.ptr 1 0]]) (i:=o) (ids:=[p]) (o:=.arr (encL zac l)) (os:=[.var [.ref 0 0 l.length 2]])
  (o':=.arr (encL zac r)) (os':=[.var [.ref 0 0 r.length 2]]) rfl rfl hcol ?_ ?_ ?_ (znt hr) rfl rfl).trans ?_
 ·have hk:accOk H [o,p] [o,p]=true:=by
   simp only [accOk,List.all_cons,List.all_nil,g1,g2,zfi,zav,za8,List.append_nil,List.contains,List.elem,n1,n2,BEq.rfl,Bool.and_true,Bool.and_eq_true,decide_eq_true_eq]
   refine ⟨?_, ?_⟩
   ·simp;omega
   ·refine ⟨by omega,by omega⟩
  exact hk
 ·simp only [zbs,zd8,List.idxOf_cons,n1,n2,BEq.rfl,cond_true,cond_false,if_true,Bool.false_eq_true,if_false]
 ·simp only [za0,List.map_cons,List.map_nil,g1,g2,obMap,zbs,zd8,List.idxOf_cons,n1,n2,BEq.rfl,cond_true]
 ·simp only [zdh,obMap,zbs,zd8,backD,List.map_nil,List.append_nil]
  rfl
theorem z8p {L:List Node} (hL:L.length<2 ^ 20) (hLs:∀ (k:Nat) v,L[k]?=some v→size v<2 ^ 40):zkb L=some (szL L):=by
 unfold zkb
 rw [if_pos (by omega),Int.toNat_natCast]
 have h1:=zj2 (step:=zg3 L (L.length:Int)) (fun i=>((i:Int),(szL L).take i++List.replicate (L.length - i) 0)) L.length (fun i hi=>by
  obtain ⟨v,hv⟩:∃ v,L[i]?=some v:=⟨_,List.getElem?_eq_getElem hi⟩
  have hs:(szL L)[i]?=some (size v:Int):=by unfold szL;rw [List.getElem?_map,hv];rfl
  have hl:(szL L).length=L.length:=by unfold szL;rw [List.length_map]
  have hr:((szL L).take i++List.replicate (L.length - i) (0:Int))[i]?=some 0:=by
   rw [List.getElem?_append_right (by rw [List.length_take];omega),List.length_take,List.getElem?_replicate,if_pos (by omega)]
  simp only [zg3,zb2,hv,Option.bind_some,zf1,if_pos (hLs i v hv),hr,zbb (show i<2 ^ 62 by omega),Int.toNat_natCast]
  rw [if_pos (by omega),List.set_append_right _ _ (by rw [List.length_take];omega),List.length_take,show i - min i (szL L).length=0 from by omega,show L.length - i=L.length - (i+1)+1 from by omega,List.replicate_succ,List.set_cons_zero,List.take_add_one,hs]
  simp)
 have e0:(((0:Nat):Int),(szL L).take 0++List.replicate (L.length - 0) (0:Int))=((0:Int),List.replicate L.length (0:Int)):=by simp
 rw [← e0,h1,zau (n:=0) (s':=((L.length:Int),szL L))]
 ·rfl
 ·simp only [zg3]
  rw [if_neg (by omega)]
  have hl:(szL L).length=L.length:=by unfold szL;rw [List.length_map]
  rw [← hl,List.take_length]
  simp
theorem yav {H:List Ob}{n:Node}{l:List Node} (h:zcn ([]:List Node) n=some l):callD (callW Try.prog A0) A0 H 38 [.p (.lst true 0 []),.p (.agg (zaf n))]=some (.ref H.length 0 l.length 4,some (H++[.arr (encL en_Node l)])):=zok h
theorem zoa {H:List Ob}{n:Node}{hs:List Int} (h:zi3 n=some hs):callD (callW Try.prog A0) A0 H 12 [.p (.agg (zaf n))]=some (.p (.lst false hs.length (encL zbl hs)),none) :=
 zbi (args:=[.agg (zaf n)]) rfl rfl rfl (by simp only [List.map_cons,List.map_nil,wk,wks,wkL];exact ygw n hs h)
theorem yge {H:List Ob}{id:Nat}{l:List Node}{w:List Int} (hid:H[id]?=some (.arr (encL en_Node l))) (h:zkb l=some w):callD (callW Try.prog A0) A0 H 40 [.ref id 0 l.length 4]=some (.p (.lst false w.length (encL zad w)),some (H.set id (.frz (encL en_Node l)))):=by
 refine (z0p (args:=[.lst false l.length (encL en_Node l)]) (ids:=[id]) rfl rfl ?_ (by simp only [List.map_cons,List.map_nil];exact yi0 l w h)).trans ?_
 ·rw [z1f (x:=l) zfu hid rfl,z5w];rfl
 ·simp only [zk6,List.isEmpty_cons,Bool.not_false,if_true,zan,frzAt,hid,frzOb]
theorem mk_65 {H:List Ob}{n:Int} (h0:0≤n) (h1:n*1≤140737488355328):makeD Try.prog H 65 (.p (.v (.int .i64 n))) (.p (.v (.int .i64 n)))=some (.ref H.length 0 (List.replicate n.toNat false).length 1,H++[.arr (encL zch (List.replicate n.toNat false))]):=zxg u65 z4 b4 (by rw [zn0];exact zc4) ⟨by decide,by decide,zml _⟩ h0 h1
def vars4 (x:Node):Ob:=.var [.p (.v (.int .i64 x.Kind)),.p (.v (.string x.Text)),.p (.lst false x.Gaps.length (encL zeh x.Gaps)),.p (.lst false x.Kids.length (encL en_Node x.Kids))]
theorem dyn17 {ops:Array Oper}{n:Nat}{s:St} (h1:idOfD ops n s.tmps 2=some (n+0)) (h2:idOfD ops n s.tmps 5=some (n+1)) (h3:ops.toList.all (zmc s)=true):dynB ops n [(2,5)] s=true:=by
 simp [dynB,h1,h2,h3,neqO]
theorem yil (x0 x1:Node) (r:List Pair) (h:zi6 x0 x1=some r):callW Try.prog A0 20 [.p (.agg (zaf x0)),.p (.agg (zaf x1))] []=some (.p (.lst false r.length (encL zac r)),[]):=by
 unfold zi6 at h
 obtain ⟨hx,hx1,h⟩:=Option.bind_eq_some_iff.1 h
 obtain ⟨hy,hy1,h⟩:=Option.bind_eq_some_iff.1 h
 split at h
 case isFalse=>cases h
 rename_i hb
 obtain ⟨hb1,hb2,hb3,hb4⟩:=hb
 obtain ⟨o,ho,h⟩:=Option.bind_eq_some_iff.1 h
 split at h
 case isFalse=>cases h
 rename_i hc
 obtain ⟨hc1,hc2,hc3⟩:=hc
 have hPa:zcn ([]:List Node) x0=some (subs x0):=by
  unfold zcn
  rw [if_pos (by simp only [List.length_nil];omega)]
  rfl
 have hPb:zcn ([]:List Node) x1=some (subs x1):=by
  unfold zcn
  rw [if_pos (by simp only [List.length_nil];omega)]
  rfl
 have hsl:=zez x0
 have hsr:=zez x1
 have hsp:=zmx x0
 have hLn:∀ (k:Nat) v,(subs x0)[k]?=some v→size v<2 ^ 40:=fun k v hv=>by
  have:=znh x0 k v hv;omega
 have hfit:∀ i,i<(subs x0).length→i+size (nodeL (subs x0) (i:Int))≤(subs x0).length:=zk0 x0
 have hfit2:∀ i v,i<(subs x0).length→v<(subs x1).length→barV (nodeL (subs x0) (i:Int))=barV (nodeL (subs x1) (v:Int))→v+size (nodeL (subs x0) (i:Int))≤(subs x1).length:=fun i v _ hv e=>by
  rw [ztl e];exact zk0 x1 v hv
 have hSz:=z8p (L:=subs x0) (by omega) hLn
 rw [← hsl] at ho hb3 hc2 hc3
 rw [← hsr] at hb4
 have hszl:(szL (subs x0)).length=(subs x0).length:=by unfold szL;rw [List.length_map]
 generalize hL:subs x0=L at *
 generalize hR:subs x1=R at *
 obtain ⟨T,H1,g1,g2,g3,g4,g5⟩:=zyk (N:=L.length) (hx:=hx) (hy:=hy) (by omega) hy.length 0 [] [vars4 x0,vars4 x1,.frz (encL en_Node L),.arr (encL en_Node R),.var [.p (.lst false (szL L).length (encL zad (szL L)))],.mp []] (by omega)
  ⟨rfl,(fun e he=>by cases he),List.nodup_nil⟩ (fun k=>rfl) (fun e he=>by cases he)
 rw [hb4] at g2 g5
 have hH1:5<H1.length:=g1.zlt
 generalize hB:H1.length=B at hH1
 have gB:∀ (x y:Ob),(H1++[x,y])[B]?=some x∧(H1++[x,y])[B+1]?=some y:=fun x y=>by
  subst hB
  exact ⟨by rw [List.getElem?_append_right (Nat.le_refl _),Nat.sub_self];rfl,by rw [List.getElem?_append_right (by omega),show H1.length+1 - H1.length=1 from by omega];rfl⟩
 have e0:ordI L.length 0=List.replicate L.length 0:=by unfold ordI;simp
 obtain ⟨H3,k1,k2,k3,k4⟩:=zxq (M:=R.length) (hx:=hx) (B:=B) (N:=L.length) (by omega) L.length 0 (H1++[.arr (encL zad (ordI L.length 0)),.var [.ref B 0 L.length 1]]) (by omega) (gB _ _).1 (gB _ _).2
 rw [e0] at k4
 have k3':H3.length=B+2:=by rw [k3,List.length_append,hB];rfl
 have low:∀ (y:Nat) (ob:Ob),y<B→H1[y]?=some ob→H3[y]?=some ob:=fun y ob hy hob=>by
  rw [k2 y (by omega),List.getElem?_append_left (by omega)];exact hob
 have kB1:H3[B+1]?=some (.var [.ref B 0 L.length 1]):=by rw [k2 _ (by omega)];exact (gB _ _).2
 have hI1:ordI L.length L.length=(List.range L.length).map fun (k:Nat)=>(k:Int):=by unfold ordI;simp
 rw [hI1] at k1
 have hol:((List.range L.length).map fun (k:Nat)=>(k:Int)).length=L.length:=by simp
 have s4:H3[4]?=some (.var [.p (.lst false (szL L).length (encL zad (szL L)))]):=low 4 _ (by omega) (g4 4 _ (by omega) rfl)
 have hstab:=zzr (by omega) k1 s4 (by rw [hol];exact kB1) ho
 rw [hol,hc1,hc2] at hstab
 obtain ⟨o1,o2⟩:=o
 simp only at hc1 hc2 hc3 hstab h
 obtain ⟨od,rfl⟩:∃ od:List Nat,o1=od.map fun (k:Nat)=>(k:Int):=⟨o1.map Int.toNat,by
  rw [List.map_map]
  refine ((List.map_congr_left (fun v hv=>?_)).trans (List.map_id _)).symm
  have:=(hc3 v hv).1
  simp only [Function.comp,id];omega⟩
 have hodm:∀ i∈od,i<L.length:=fun i hi=>by
  have:=(hc3 (i:Int) (List.mem_map.2 ⟨i,hi,rfl⟩)).2
  omega
 have hodl:od.length=L.length:=by rw [← hc2,List.length_map]
 have hods:(od.map fun (k:Nat)=>(k:Int)).map Int.toNat=od:=by
  rw [List.map_map]
  exact (List.map_congr_left (fun v _=>by simp [Function.comp])).trans (List.map_id _)
 rw [hods] at h
 generalize hH4:((H3.set B (.arr (encL zad (od.map fun (k:Nat)=>(k:Int))))).set 4 (.var [.p (.lst false (szL L).length (encL zad (szL L)))])).set (B+1) (.var [.ref B 0 L.length 1])=H4 at hstab
 have l4:H4.length=B+2:=by rw [← hH4];simp only [List.length_set];exact k3'
 have get4:∀ (y:Nat) (ob:Ob),y<B→H1[y]?=some ob→y≠4→H4[y]?=some ob:=fun y ob hy hob h4=>by
  rw [← hH4,List.getElem?_set_ne (by omega),List.getElem?_set_ne (by omega),List.getElem?_set_ne (by omega)];exact low y ob hy hob
 have get44:H4[4]?=some (.var [.p (.lst false (szL L).length (encL zad (szL L)))]):=by
  rw [← hH4,List.getElem?_set_ne (by omega),List.getElem?_set_self (by rw [List.length_set];omega)]
 have get4B:H4[B]?=some (.arr (encL zad (od.map fun (k:Nat)=>(k:Int)))):=by
  rw [← hH4,List.getElem?_set_ne (by omega),List.getElem?_set_ne (by omega),List.getElem?_set_self (by omega)]
 have get4B1:H4[B+1]?=some (.var [.ref B 0 L.length 1]):=by
  rw [← hH4,List.getElem?_set_self (by simp only [List.length_set];omega)]
 have hnew:∀ (x y z u:Ob),(H4++[x,y,z,u])[B+2]?=some x∧(H4++[x,y,z,u])[B+3]?=some y∧(H4++[x,y,z,u])[B+4]?=some z∧(H4++[x,y,z,u])[B+5]?=some u:=fun x y z u=>by
  refine ⟨?_, ?_, ?_, ?_⟩<;>rw [List.getElem?_append_right (by omega),l4]
  ·rw [Nat.sub_self];rfl
  ·rw [show B+3 - (B+2)=1 from by omega];rfl
  ·rw [show B+4 - (B+2)=2 from by omega];rfl
  ·rw [show B+5 - (B+2)=3 from by omega];rfl
 have hold:∀ (x y z u:Ob) (q:Nat) (ob:Ob),H4[q]?=some ob→(H4++[x,y,z,u])[q]?=some ob:=fun x y z u q ob hq=>by
  rw [List.getElem?_append_left (List.getElem?_eq_some_iff.1 hq).1];exact hq
 have hT5:TI L R (szL L) T B od ⟨List.replicate L.length false,List.replicate R.length false,[]⟩ (H4++[.arr (encL zch (List.replicate L.length false)),.arr (encL zch (List.replicate R.length false)),.var [.ref (B+5) 0 0 2],.arr []]):=by
  obtain ⟨n1,n2,n3,n4⟩:=hnew (.arr (encL zch (List.replicate L.length false))) (.arr (encL zch (List.replicate R.length false))) (.var [.ref (B+5) 0 0 2]) (.arr [])
  refine ⟨hold _ _ _ _ _ _ (get4 2 _ (by omega) (g4 2 _ (by omega) rfl) (by omega)),hold _ _ _ _ _ _ (get4 3 _ (by omega) (g4 3 _ (by omega) rfl) (by omega)),hold _ _ _ _ _ _ get44,⟨hold _ _ _ _ _ _ (get4 5 _ (by omega) g1.mp (by omega)),fun e he=>?_,g1.nd⟩,hold _ _ _ _ _ _ get4B,n1,n2,⟨B+5,by omega,n3,n4⟩,fun e he=>⟨g3 e he, ?_⟩,hH1,by simp,by simp⟩
  ·have h1:=g1.lt he
   have h2:=g3 e he
   exact hold _ _ _ _ _ _ (get4 _ _ (by omega) (g1.row e he) (by omega))
  ·have:=g1.lt he;omega
 obtain ⟨H7,m1,m2⟩:=ztb (hx:=hx) (hy:=hy) (by omega) (by omega) hLn hb3 hodl hodm hfit hfit2 g2 od 0 _ _ rfl (Nat.zero_le _) (Nat.le_refl _) hT5
 generalize htw:od.foldl (zg4 L R hx hy) ⟨List.replicate L.length false,List.replicate R.length false,[]⟩=tw at m1
 have hr:zhf tw.out=some r:=by rw [← htw];exact h
 obtain ⟨u,u1,u2,u3⟩:=m1.out
 have hsl2:=z5b (by omega) u3 u2 hr
 have lu:=(List.getElem?_eq_some_iff.1 u2).1
 have luu:=(List.getElem?_eq_some_iff.1 u3).1
 generalize hH8:(H7.set u (.arr (encL zac r))).set (B+4) (.var [.ref u 0 r.length 2])=H8 at hsl2
 have r1:H8[B+4]?=some (.var [.ref u 0 r.length 2]):=by rw [← hH8,List.getElem?_set_self (by rw [List.length_set];exact lu)]
 have r2:H8[u]?=some (.arr (encL zac r)):=by rw [← hH8,List.getElem?_set_ne (by omega),List.getElem?_set_self luu]
 obtain ⟨G0,q0⟩:=zk5 (F:=F20_0 L.length R.length hx hy (R.length:Int)) g5 (fun _ h=>h.eq)
 obtain ⟨G1,q1⟩:=zk5 (F:=F20_1 L.length R.length B hx (L.length:Int)) k4 (fun _ h=>h.eq)
 obtain ⟨G2,q2⟩:=zk5 (F:=F20_2 L.length R.length B hx (L.length:Int)) m2 (fun _ h=>h.eq)
 unfold L20_0 zae Try.f20 F20_0 vars4 at q0
 simp only [zak,ens] at q0
 unfold L20_1 zae Try.f20 F20_1 at q1
 simp only [zak,ens] at q1
 unfold L20_2 zae Try.f20 F20_2 at q2
 simp only [zak,ens] at q2
 have c1:=yav (H:=[vars4 x0,vars4 x1]) hPa
 have c2:=yav (H:=[vars4 x0,vars4 x1,.arr (encL en_Node L)]) hPb
 have c3:=yge (H:=[vars4 x0,vars4 x1,.arr (encL en_Node L),.arr (encL en_Node R)]) (id:=2) rfl hSz
 have c4:zl3 Try.prog 40 [vars4 x0,vars4 x1,.frz (encL en_Node L),.arr (encL en_Node R)]=some (.ptr 4 0,some [vars4 x0,vars4 x1,.frz (encL en_Node L),.arr (encL en_Node R),.var [.p (.lst true 0 [])]]):=by kernel_rfl
 have c5:zdf Try.prog [vars4 x0,vars4 x1,.frz (encL en_Node L),.arr (encL en_Node R),.var [.p (.lst true 0 [])]] 40 (.ptr 4 0) (.p (.lst false (szL L).length (encL zad (szL L))))=some [vars4 x0,vars4 x1,.frz (encL en_Node L),.arr (encL en_Node R),.var [.p (.lst false (szL L).length (encL zad (szL L)))]]:=(zzh z40).trans rfl
 unfold vars4 at c1 c2 c3 c4 c5
 have d1:makeD Try.prog H1 40 (.p (.v (.int .i64 (L.length:Int)))) (.p (.v (.int .i64 (L.length:Int))))=some (.ref B 0 L.length 1,H1++[.arr (encL zad (List.replicate L.length 0))]):=by
  refine (mk_40 (n:=(L.length:Int)) (by omega) (by omega)).trans ?_
  rw [Int.toNat_natCast,List.length_replicate,hB]
 have d2:zl3 Try.prog 40 (H1++[Ob.arr (encL zad (List.replicate L.length 0))])=some (.ptr (B+1) 0,some (H1++[.arr (encL zad (List.replicate L.length 0)),.var [.p (.lst true 0 [])]])):=by
  have:zl3 Try.prog 40 (H1++[Ob.arr (encL zad (List.replicate L.length 0))])=some (.ptr (H1++[Ob.arr (encL zad (List.replicate L.length 0))]).length 0,some ((H1++[.arr (encL zad (List.replicate L.length 0))])++[.var [.p (.lst true 0 [])]])):=by kernel_rfl
  rw [this,List.length_append,hB,List.append_assoc];rfl
 have d3:zdf Try.prog (H1++[.arr (encL zad (List.replicate L.length 0)),.var [.p (.lst true 0 [])]]) 40 (.ptr (B+1) 0) (.ref B 0 L.length 1)=some (H1++[.arr (encL zad (List.replicate L.length 0)),.var [.ref B 0 L.length 1]]):=by
  rw [zp9 z40,(gB _ _).2]
  simp only [stgOb]
  rw [if_pos ⟨rfl,by simp⟩,List.set_append_right _ _ (by omega),hB,show B+1 - B=1 from by omega]
  rfl
 have d4:ldOb (H1++[Ob.arr (encL zad (List.replicate L.length 0)),.var [.ref B 0 L.length 1]])[B+1]? 0=some (.ref B 0 L.length 1):=by rw [(gB _ _).2,zjn];rfl
 have d5:ldOb H3[B+1]? 0=some (.ref B 0 L.length 1):=by rw [kB1,zjn];rfl
 have d6:makeD Try.prog H4 65 (.p (.v (.int .i64 (L.length:Int)))) (.p (.v (.int .i64 (L.length:Int))))=some (.ref (B+2) 0 L.length 1,H4++[.arr (encL zch (List.replicate L.length false))]):=by
  refine (mk_65 (n:=(L.length:Int)) (by omega) (by omega)).trans ?_
  rw [Int.toNat_natCast,List.length_replicate,l4]
 have d7:makeD Try.prog (H4++[.arr (encL zch (List.replicate L.length false))]) 65 (.p (.v (.int .i64 (R.length:Int)))) (.p (.v (.int .i64 (R.length:Int))))=some (.ref (B+3) 0 R.length 1,H4++[.arr (encL zch (List.replicate L.length false)),.arr (encL zch (List.replicate R.length false))]):=by
  refine (mk_65 (n:=(R.length:Int)) (by omega) (by omega)).trans ?_
  rw [Int.toNat_natCast,List.length_replicate,List.length_append,l4,List.append_assoc];rfl
 have d8:zl3 Try.prog 36 (H4++[Ob.arr (encL zch (List.replicate L.length false)),.arr (encL zch (List.replicate R.length false))])=some (.ptr (B+4) 0,some (H4++[.arr (encL zch (List.replicate L.length false)),.arr (encL zch (List.replicate R.length false)),.var [.p (.lst true 0 [])]])):=by
  have:zl3 Try.prog 36 (H4++[Ob.arr (encL zch (List.replicate L.length false)),.arr (encL zch (List.replicate R.length false))])=some (.ptr (H4++[Ob.arr (encL zch (List.replicate L.length false)),.arr (encL zch (List.replicate R.length false))]).length 0,some ((H4++[.arr (encL zch (List.replicate L.length false)),.arr (encL zch (List.replicate R.length false))])++[.var [.p (.lst true 0 [])]])):=by kernel_rfl
  rw [this,List.length_append,l4,List.append_assoc];rfl
 have d9:∀ tm:List Dv,tm.getD 17 .junk=.ptr (B+4) 0→zaj [.ownC 17 0 2] ⟨tm,H4++[.arr (encL zch (List.replicate L.length false)),.arr (encL zch (List.replicate R.length false)),.var [.p (.lst true 0 [])]],0⟩=some ⟨tm,H4++[.arr (encL zch (List.replicate L.length false)),.arr (encL zch (List.replicate R.length false)),.var [.ref (B+5) 0 0 2],.arr []],0⟩:=by
  intro tm ht
  have hg:(H4++[Ob.arr (encL zch (List.replicate L.length false)),.arr (encL zch (List.replicate R.length false)),.var [.p (.lst true 0 [])]])[B+4]?=some (.var [.p (.lst true 0 [])]):=by
   rw [List.getElem?_append_right (by omega),l4,show B+4 - (B+2)=2 from by omega];rfl
  simp only [zaj,zj7,ht,hg,Option.bind_some]
  rw [if_pos (by rfl),List.set_append_right _ _ (by omega),l4,show B+4 - (B+2)=2 from by omega,List.length_append,l4,List.append_assoc]
  rfl
 have d10:ldOb (H4++[Ob.arr (encL zch (List.replicate L.length false)),.arr (encL zch (List.replicate R.length false)),.var [.ref (B+5) 0 0 2],.arr []])[B+1]? 0=some (.ref B 0 L.length 1):=by rw [hold _ _ _ _ _ _ get4B1,zjn];rfl
 have d11:ldOb H7[B+4]? 0=some (.ref u 0 tw.out.length 2):=by rw [u2,zjn];rfl
 have d12:ldOb H8[B+4]? 0=some (.ref u 0 r.length 2):=by rw [r1,zjn];rfl
 have d0:lenD Try.prog 29 (.p (.lst false hy.length (encL zbl hy)))=some (iv (R.length:Int)):=by rw [zal u29,hb4]
 refine zax (fn:=Try.f20) (c:=zae Try.f20) 139 rfl rfl (by kernel_rfl) (by kernel_rfl) (by kernel_rfl) ?_
 unfold zae Try.f20
 simp only [ens]
 simp (maxSteps:=10000000) (implicitDefEqProofs:=false) (disch:=first | with_reducible assumption | exact rfl | exact im_ _ | (exact ⟨rfl,rfl,rfl,rfl,rfl,rfl,rfl,rfl,rfl,rfl,rfl,rfl⟩) | (exact ⟨rfl,rfl,rfl,rfl,rfl,rfl,rfl,rfl,rfl⟩) | (fail_if_success show Kn _ _);omega) only [bs,rs20,Nat.reduceAdd,↓reduceIte,zag a25 z25,zab a40,zab a36,zck,c1,c2,c3,c4,c5,zoa hx1,zoa hy1,zkn,zdl u40,zdl u36,ziw,allP,List.map_cons,List.map_nil,zf7 u23,zf7 u40,d0,d1,d2,d3,d4,d5,d6,d7,d8,d10,d11,d12,hstab,hsl2,q0,q1,q2,mkFn]
 rw [zre (by kernel_rfl)]
 simp (maxSteps:=10000000) (implicitDefEqProofs:=false) (disch:=first | with_reducible assumption | exact rfl | exact im_ _ | (exact ⟨rfl,rfl,rfl,rfl,rfl,rfl,rfl,rfl,rfl,rfl,rfl,rfl⟩) | (exact ⟨rfl,rfl,rfl,rfl,rfl,rfl,rfl,rfl,rfl⟩) | (fail_if_success show Kn _ _);omega) only [bs,rs20,Nat.reduceAdd,↓reduceIte,zag a25 z25,zab a40,zab a36,zck,c1,c2,c3,c4,c5,zoa hx1,zoa hy1,zkn,zdl u40,zdl u36,ziw,allP,List.map_cons,List.map_nil,zf7 u23,zf7 u40,d0,d1,d2,d3,d4,d5,d6,d7,d8,d10,d11,d12,hstab,hsl2,q0,q1,q2,mkFn]
 rw [zqw (dyn17 rfl rfl (by kernel_rfl))]
 simp (maxSteps:=10000000) (implicitDefEqProofs:=false) (disch:=first | with_reducible assumption | exact rfl | exact im_ _ | (exact ⟨rfl,rfl,rfl,rfl,rfl,rfl,rfl,rfl,rfl,rfl,rfl,rfl⟩) | (exact ⟨rfl,rfl,rfl,rfl,rfl,rfl,rfl,rfl,rfl⟩) | (fail_if_success show Kn _ _);omega) only [bs,rs20,Nat.reduceAdd,↓reduceIte,zag a25 z25,zab a40,zab a36,zck,c1,c2,c3,c4,c5,zoa hx1,zoa hy1,zkn,zdl u40,zdl u36,ziw,allP,List.map_cons,List.map_nil,zf7 u23,zf7 u40,d0,d1,d2,d3,d4,d5,d6,d7,d8,d10,d11,d12,hstab,hsl2,q0,q1,q2,mkFn]
 rw [d9 _ rfl]
 simp (maxSteps:=10000000) (implicitDefEqProofs:=false) (disch:=first | with_reducible assumption | exact rfl | exact im_ _ | (exact ⟨rfl,rfl,rfl,rfl,rfl,rfl,rfl,rfl,rfl,rfl,rfl,rfl⟩) | (exact ⟨rfl,rfl,rfl,rfl,rfl,rfl,rfl,rfl,rfl⟩) | (fail_if_success show Kn _ _);omega) only [bs,rs20,Nat.reduceAdd,↓reduceIte,zag a25 z25,zab a40,zab a36,zck,c1,c2,c3,c4,c5,zoa hx1,zoa hy1,zkn,zdl u40,zdl u36,ziw,allP,List.map_cons,List.map_nil,zf7 u23,zf7 u40,d0,d1,d2,d3,d4,d5,d6,d7,d8,d10,d11,d12,hstab,hsl2,q0,q1,q2,mkFn]
 refine ⟨by simp, ?_⟩
 exact zhu (l:=[u]) rfl rfl rfl (zhg zds r2 rfl) (by first | rfl | (simp only [wk,wks,wkL];first | done | rfl))
theorem zpi {H:List Ob}{x0 x1:Node}{r:List Pair} (h:zi6 x0 x1=some r):callD (callW Try.prog A0) A0 H 20 [.p (.agg (zaf x0)),.p (.agg (zaf x1))]=some (.p (.lst false r.length (encL zac r)),none) :=
 zbi (args:=[.agg (zaf x0),.agg (zaf x1)]) rfl rfl rfl (by simp only [List.map_cons,List.map_nil,wk,wks,wkL];exact yil x0 x1 r h)
def ls46:=And.intro @zoq (And.intro @zsh (And.intro @zhb (And.intro @zhe (And.intro @zfd (And.intro @ze0 (@zck))))))
theorem zl5 {rec:(List Node)→Node→Option (List Node)} (hrec:∀ x0 x1 r,rec x0 x1=some r→callW Try.prog A0 46 [.ref 0 0 x0.length 4,.p (.agg (zaf x1))] [.arr (encL en_Node x0)]=some (.ref 1 0 r.length 4,[.dead,.arr (encL en_Node r)])) {H:List Ob}{id n:Nat}{b1 b2:Bool}{x0:(List Node)}{x1:Node}{r:(List Node)}:H[id]?=some (.arr (encL en_Node x0))→n=x0.length→∀ (h:rec x0 x1=some r),callD (callW Try.prog A0) A0 H 46 [.ref id 0 n 4,.p (.agg [.v (.int .i64 x1.Kind),.v (.string x1.Text),.lst b1 x1.Gaps.length (encL zeh x1.Gaps),.lst b2 x1.Kids.length (encL en_Node x1.Kids)])]=some (.ref H.length 0 r.length 4,some (H.set id .dead++[.arr (encL en_Node r)])):=by
 intro hid hn h;subst hn;exact zrb (args:=[.agg (zaf x1)]) (by simp only [List.map_cons,List.map_nil,wkDv,wk,wks,wkL]) rfl hid (hrec x0 x1 _ h)
theorem q46_0 {rec:(List Node)→Node→Option (List Node)} (hrec:∀ x0 x1 r,rec x0 x1=some r→callW Try.prog A0 46 [.ref 0 0 x0.length 4,.p (.agg (zaf x1))] [.arr (encL en_Node x0)]=some (.ref 1 0 r.length 4,[.dead,.arr (encL en_Node r)])) {a1:List Node}{a2:Node}{r9001:(List Node)}{X2:Ob} (h9002:rec a1 a2=some r9001):callD (callW Try.prog A0) A0 [.dead,.arr (encL en_Node a1),X2] 46 [.ref 1 0 a1.length 4,.p (.agg (zaf a2))]=some (.ref 3 0 r9001.length 4,some [.dead,.dead,X2,.arr (encL en_Node r9001)]):=zl5 hrec (H:=[.dead,.arr (encL en_Node a1),X2]) (id:=1) rfl (by first | rfl | omega) h9002
theorem q46_1 {rec:(List Node)→Node→Option (List Node)} (hrec:∀ x0 x1 r,rec x0 x1=some r→callW Try.prog A0 46 [.ref 0 0 x0.length 4,.p (.agg (zaf x1))] [.arr (encL en_Node x0)]=some (.ref 1 0 r.length 4,[.dead,.arr (encL en_Node r)])) {a1:List Node}{a2:Node}{r9001:(List Node)}{X1:Ob} (h9002:rec a1 a2=some r9001):callD (callW Try.prog A0) A0 [.arr (encL en_Node a1),X1] 46 [.ref 0 0 a1.length 4,.p (.agg (zaf a2))]=some (.ref 2 0 r9001.length 4,some [.dead,X1,.arr (encL en_Node r9001)]):=zl5 hrec (H:=[.arr (encL en_Node a1),X1]) (id:=0) rfl (by first | rfl | omega) h9002
noncomputable def L46_0:Code:=(zak (zae Try.f46)).getD 0 .skip
def g46_0:List Ghost:=[.keep [0,3,5]]
noncomputable def F46_0 (w2_0:Int) (w2_1:ByteArray) (w2_2:(List ByteArray)) (w2_3:(List Node)):(Int×(List Node))→St:=fun (s5,y1)=>⟨[.ref 1 0 y1.length 4,J,J,.ptr 2 0,J,iv s5,J,J,J,J,J,J,J,J,J,J,J,J,J,J,J,J,J,J,J],[.dead,.arr (encL en_Node y1),.var [iv w2_0,.p (.v (.string w2_1)),.p (.lst false w2_2.length (encL zeh w2_2)),.p (.lst false w2_3.length (encL en_Node w2_3))]],1⟩
theorem z7p {rec:(List Node)→Node→Option (List Node)} (hrec:∀ x0 x1 r,rec x0 x1=some r→callW Try.prog A0 46 [.ref 0 0 x0.length 4,.p (.agg (zaf x1))] [.arr (encL en_Node x0)]=some (.ref 1 0 r.length 4,[.dead,.arr (encL en_Node r)])) (w2_0:Int) (w2_1:ByteArray) (w2_2:(List ByteArray)) (w2_3:(List Node)):∀ s st o,zaj g46_0 st=some (F46_0 w2_0 w2_1 w2_2 w2_3 s)→iter (zf4 rec w2_0 w2_1 w2_2 w2_3) s=some o →
    Wp (evW Try.prog A0 46 (.loop L46_0) st) (OutQ (F46_0 w2_0 w2_1 w2_2 w2_3) g46_0 (fun n s st=>n=0∧zaj [.keep [0,3,5]] st=some (F46_0 w2_0 w2_1 w2_2 w2_3 s)) (fun r st=>zap Try.prog A0 46 Try.f46 st=some (.ref 1 0 r.length 4,[.dead,.arr (encL en_Node r)])) o):=by
 refine Wp.iter ?_
 intro s st o hg h
 obtain ⟨s5,y1⟩:=s
 unfold zf4 at h;unfold g46_0 F46_0 at hg ⊢
 (try simp only [] at h hg)
 unfold L46_0 zae Try.f46;simp only [zak,ens]
 revert h
 repeat' first | (with_reducible refine gR fun _ _ _ _=>?_) | (with_reducible refine gB fun _ _=>?_) | (with_reducible refine gI (fun _ _=>?_) (fun _ _=>?_))
 all_goals
  intro h;obtain rfl:=Option.some.inj h
  first | (simp (maxSteps:=10000000) (implicitDefEqProofs:=false) (disch:=first | with_reducible assumption | exact rfl | exact im_ _ | (fail_if_success show Kn _ _);omega) only [bs,rs46,ls46,Nat.reduceAdd,↓reduceIte,zal u23,zai a25 z25,zag a25 z25,zab a23,zgh,q46_0 hrec,zdp,zeb,zcl,hg];first | (exact ⟨(rfl:Ex.normal=Ex.normal),by kernel_rfl⟩) | (exact ⟨(rfl:Ex.exit 0=Ex.exit 0),rfl,by kernel_rfl⟩)) | (exfalso;omega)
theorem yh4 {rec:(List Node)→Node→Option (List Node)} (hrec:∀ x0 x1 r,rec x0 x1=some r→callW Try.prog A0 46 [.ref 0 0 x0.length 4,.p (.agg (zaf x1))] [.arr (encL en_Node x0)]=some (.ref 1 0 r.length 4,[.dead,.arr (encL en_Node r)]))  (x0:(List Node)) (x1:Node) (r:(List Node)) (h:R06_list.body rec x0 x1=some r):callW Try.prog A0 46 [.ref 0 0 x0.length 4,.p (.agg (zaf x1))] [.arr (encL en_Node x0)]=some (.ref 1 0 r.length 4,[.dead,.arr (encL en_Node r)]):=by
 refine zax (fn:=Try.f46) (c:=zae Try.f46) 23 rfl rfl (by kernel_rfl) (by kernel_rfl) (by kernel_rfl) ?_
 unfold R06_list.body at h;unfold zae Try.f46;simp only [ens]
 revert h
 refine gW fun h2=>?_
 have h1:∀ (H:List Ob) (id:Nat),apOb H id 0 x0.length 1 4 4 72 [.v (.int .i64 x1.Kind),.v (.string x1.Text),.lst false x1.Gaps.length (encL zeh x1.Gaps),.lst false x1.Kids.length (encL en_Node x1.Kids)] (some (.arr (encL en_Node x0)))=some (.ref H.length 0 (x0++[x1]).length 4,H.set id .dead++[.arr (encL en_Node (x0++[x1]))]):=fun H id=>zjk (y:=[x1]) zfu (by first | rfl | omega) rfl (by first | (simp only [zbe,zdq,zeg,List.cons_append,List.nil_append];done) | (simp only [zbe,zdq,zeg,List.cons_append,List.nil_append];rfl) | rfl) (by assumption)
 refine gB fun o h10=>?_
 intro h
 simp (maxSteps:=10000000) (implicitDefEqProofs:=false) (disch:=first | with_reducible assumption | exact rfl | exact im_ _ | (fail_if_success show Kn _ _);omega) only [bs,rs46,ls46,Nat.reduceAdd,↓reduceIte,zal u23,zai a25 z25,zag a25 z25,zab a23,zgh,q46_0 hrec,zdp,zeb,zcl,h1]
 refine Wp.ctx (fun x=>seqW _ _ _ _ (za6 _ (x))) (z7p hrec x1.Kind x1.Text x1.Gaps x1.Kids ((0:Int),(x0++[x1])) _ o (by kernel_rfl) h10) ?_
 intro e st hq
 cases o with
 | next _=>(first | cases h | (simp at h))
 | jmp n_ s_ =>
  obtain ⟨rfl,rfl,hq⟩:=hq
  obtain ⟨s5_11,y1_11⟩:=s_
  unfold F46_0 at hq
  (try simp only [] at h hq)
  revert h
  intro h;obtain rfl:=Option.some.inj h
  simp (maxSteps:=10000000) (implicitDefEqProofs:=false) (disch:=first | with_reducible assumption | exact rfl | exact im_ _ | (fail_if_success show Kn _ _);omega) only [bs,rs46,ls46,Nat.reduceAdd,↓reduceIte,zal u23,zai a25 z25,zag a25 z25,zab a23,zgh,q46_0 hrec,zdp,zeb,zcl,h1,hq]
  refine ⟨by simp, ?_⟩;show _=_;kernel_rfl
 | ret _=>(first | cases h | (simp at h))
def ls46n:=And.intro @zoq (And.intro @zsh (And.intro @zhb (And.intro @zhe (And.intro @zfd (And.intro @ze0 (@zck))))))
noncomputable def zuy (w1_0:Int) (w1_1:ByteArray) (w1_2:(List ByteArray)) (w1_3:(List Node)):(Int×(List Node))→St:=fun (s5,y0)=>⟨[.ref 0 0 y0.length 4,J,J,.ptr 1 0,J,iv s5,J,J,J,J,J,J,J,J,J,J,J,J,J,J,J,J,J,J,J],[.arr (encL en_Node y0),.var [iv w1_0,.p (.v (.string w1_1)),.p (.lst false w1_2.length (encL zeh w1_2)),.p (.lst false w1_3.length (encL en_Node w1_3))]],0⟩
theorem z1a {rec:(List Node)→Node→Option (List Node)} (hrec:∀ x0 x1 r,rec x0 x1=some r→callW Try.prog A0 46 [.ref 0 0 x0.length 4,.p (.agg (zaf x1))] [.arr (encL en_Node x0)]=some (.ref 1 0 r.length 4,[.dead,.arr (encL en_Node r)])) (w1_0:Int) (w1_1:ByteArray) (w1_2:(List ByteArray)) (w1_3:(List Node)):∀ s st o,zaj g46_0 st=some (zuy w1_0 w1_1 w1_2 w1_3 s)→iter (zf4 rec w1_0 w1_1 w1_2 w1_3) s=some o →
    Wp (evW Try.prog A0 46 (.loop L46_0) st) (OutQ (zuy w1_0 w1_1 w1_2 w1_3) g46_0 (fun n s st=>n=0∧zaj [.keep [0,3,5]] st=some (zuy w1_0 w1_1 w1_2 w1_3 s)) (fun r st=>zap Try.prog A0 46 Try.f46 st=some (.ref 0 0 r.length 4,[.arr (encL en_Node r)])) o):=by
 refine Wp.iter ?_
 intro s st o hg h
 obtain ⟨s5,y0⟩:=s
 unfold zf4 at h;unfold g46_0 zuy at hg ⊢
 (try simp only [] at h hg)
 unfold L46_0 zae Try.f46;simp only [zak,ens]
 revert h
 repeat' first | (with_reducible refine gR fun _ _ _ _=>?_) | (with_reducible refine gB fun _ _=>?_) | (with_reducible refine gI (fun _ _=>?_) (fun _ _=>?_))
 all_goals
  intro h;obtain rfl:=Option.some.inj h
  first | (simp (maxSteps:=10000000) (implicitDefEqProofs:=false) (disch:=first | with_reducible assumption | exact rfl | exact im_ _ | (fail_if_success show Kn _ _);omega) only [bs,rs46,ls46n,Nat.reduceAdd,↓reduceIte,zal u23,zai a25 z25,zag a25 z25,zab a23,zgh,q46_1 hrec,zdp,zeb,zcl,hg];first | (exact ⟨(rfl:Ex.normal=Ex.normal),by kernel_rfl⟩) | (exact ⟨(rfl:Ex.exit 0=Ex.exit 0),rfl,by kernel_rfl⟩)) | (exfalso;omega)
theorem yby {rec:(List Node)→Node→Option (List Node)} (hrec:∀ x0 x1 r,rec x0 x1=some r→callW Try.prog A0 46 [.ref 0 0 x0.length 4,.p (.agg (zaf x1))] [.arr (encL en_Node x0)]=some (.ref 1 0 r.length 4,[.dead,.arr (encL en_Node r)]))  (x0:(List Node)) (x1:Node) (hx0:x0=[]) (r:(List Node)) (h:R06_list.body rec x0 x1=some r):callW Try.prog A0 46 [.p (.lst true 0 []),.p (.agg (zaf x1))] []=some (.ref 0 0 r.length 4,[.arr (encL en_Node r)]):=by
 refine zax (fn:=Try.f46) (c:=zae Try.f46) 23 rfl rfl (by kernel_rfl) (by kernel_rfl) (by kernel_rfl) ?_
 unfold R06_list.body at h;unfold zae Try.f46;simp only [ens]
 have hown:=zse (en:=en_Node) hx0 4
 revert h
 refine gW fun h2=>?_
 have h1:∀ (H:List Ob) (id:Nat),apOb H id 0 x0.length 1 4 4 72 [.v (.int .i64 x1.Kind),.v (.string x1.Text),.lst false x1.Gaps.length (encL zeh x1.Gaps),.lst false x1.Kids.length (encL en_Node x1.Kids)] (some (.arr (encL en_Node x0)))=some (.ref H.length 0 (x0++[x1]).length 4,H.set id .dead++[.arr (encL en_Node (x0++[x1]))]):=fun H id=>zjk (y:=[x1]) zfu (by first | rfl | omega) rfl (by first | (simp only [zbe,zdq,zeg,List.cons_append,List.nil_append];done) | (simp only [zbe,zdq,zeg,List.cons_append,List.nil_append];rfl) | rfl) (by assumption)
 refine gB fun o h10=>?_
 intro h
 simp (maxSteps:=10000000) (implicitDefEqProofs:=false) (disch:=first | with_reducible assumption | exact rfl | exact im_ _ | (fail_if_success show Kn _ _);omega) only [bs,rs46,ls46n,Nat.reduceAdd,↓reduceIte,zal u23,zai a25 z25,zag a25 z25,zab a23,zgh,q46_1 hrec,zdp,zeb,zcl,hown,h1]
 refine Wp.ctx (fun x=>seqW _ _ _ _ (za6 _ (x))) (z1a hrec x1.Kind x1.Text x1.Gaps x1.Kids ((0:Int),(x0++[x1])) _ o (by kernel_rfl) h10) ?_
 intro e st hq
 cases o with
 | next _=>(first | cases h | (simp at h))
 | jmp n_ s_ =>
  obtain ⟨rfl,rfl,hq⟩:=hq
  obtain ⟨s5_11,y0_11⟩:=s_
  unfold zuy at hq
  (try simp only [] at h hq)
  revert h
  intro h;obtain rfl:=Option.some.inj h
  simp (maxSteps:=10000000) (implicitDefEqProofs:=false) (disch:=first | with_reducible assumption | exact rfl | exact im_ _ | (fail_if_success show Kn _ _);omega) only [bs,rs46,ls46n,Nat.reduceAdd,↓reduceIte,zal u23,zai a25 z25,zag a25 z25,zab a23,zgh,q46_1 hrec,zdp,zeb,zcl,hown,h1,hq]
  refine ⟨by simp, ?_⟩;show _=_;kernel_rfl
 | ret _=>(first | cases h | (simp at h))
theorem z6r:∀ (x0:(List Node)) (x1:Node) r,zfe x0 x1=some r→callW Try.prog A0 46 [.ref 0 0 x0.length 4,.p (.agg (zaf x1))] [.arr (encL en_Node x0)]=some (.ref 1 0 r.length 4,[.dead,.arr (encL en_Node r)]):=by
 have key:∀ n (x0:(List Node)) (x1:Node) r,zcd x0 x1<n→zfe x0 x1=some r→callW Try.prog A0 46 [.ref 0 0 x0.length 4,.p (.agg (zaf x1))] [.arr (encL en_Node x0)]=some (.ref 1 0 r.length 4,[.dead,.arr (encL en_Node r)]):=by
  intro n
  induction n with
  | zero=>intro x0 x1 r h;omega
  | succ n ih =>
   intro x0 x1 r hn h
   refine yh4 (rec:=fun x0' x1'=>if zcd x0' x1'<zcd x0 x1 then zfe x0' x1' else none) ?_ x0 x1 r (zl6 x0 x1 r h)
   intro x0' x1' r' h'
   by_cases hm:zcd x0' x1'<zcd x0 x1
   ·rw [if_pos hm] at h';exact ih x0' x1' r' (by omega) h'
   ·rw [if_neg hm] at h';cases h'
 intro x0 x1 r h
 exact key _ x0 x1 r (Nat.lt_succ_self _) h
theorem z3c (x1:Node) r (h:zfe ([]:List Node) x1=some r):callW Try.prog A0 46 [.p (.lst true 0 []),.p (.agg (zaf x1))] []=some (.ref 0 0 r.length 4,[.arr (encL en_Node r)]):=by
 refine yby (rec:=fun x0' x1'=>if zcd x0' x1'<zcd ([]:List Node) x1 then zfe x0' x1' else none) ?_ ([]:List Node) x1 rfl r (zl6 ([]:List Node) x1 r h)
 intro x0' x1' r' h'
 by_cases hm:zcd x0' x1'<zcd ([]:List Node) x1
 ·rw [if_pos hm] at h';exact z6r x0' x1' r' h'
 ·rw [if_neg hm] at h';cases h'
theorem zqm {b1 b2:Bool}{H:List Ob}{x1:Node}{r:(List Node)} (h:zfe ([]:List Node) x1=some r):callD (callW Try.prog A0) A0 H 46 [.p (.lst true 0 []),.p (.agg [.v (.int .i64 x1.Kind),.v (.string x1.Text),.lst b1 x1.Gaps.length (encL zeh x1.Gaps),.lst b2 x1.Kids.length (encL en_Node x1.Kids)])]=some (.ref H.length 0 r.length 4,some (H++[.arr (encL en_Node r)])) :=
 zrd (args:=[.lst true 0 [],.agg (zaf x1)]) (by simp only [List.map_cons,List.map_nil,wkDv,wk,wks,wkL]) rfl (z3c x1 _ h)
def ls22:=@zck
theorem q46_2 {a1:Node}{H:List Ob}{r9001:(List Node)} (h9002:zfe ([]:List Node) a1=some r9001):callD (callW Try.prog A0) A0 H 46 [.p (.lst true 0 []),.p (.agg (zaf a1))]=some (.ref H.length 0 r9001.length 4,some (H++[.arr (encL en_Node r9001)])):=zqm (H:=H) h9002
theorem yf0  (x0:Node) (r:(List Node)) (h:zkf x0=some r):callW Try.prog A0 22 [.p (.agg (zaf x0))] []=some (.p (.lst false r.length (encL en_Node r)),[]):=by
 refine zax (fn:=Try.f22) (c:=zae Try.f22) 6 rfl rfl (by kernel_rfl) (by kernel_rfl) (by kernel_rfl) ?_
 unfold zkf at h;unfold zae Try.f22;simp only [ens]
 revert h
 repeat' (with_reducible refine gB fun _ _=>?_)
 intro h;obtain rfl:=Option.some.inj h
 simp (maxSteps:=10000000) (implicitDefEqProofs:=false) (disch:=first | with_reducible assumption | exact rfl | exact im_ _ | (fail_if_success show Kn _ _);omega) only [bs,rs22,ls22,Nat.reduceAdd,↓reduceIte,zag a25 z25,q46_2]
 refine ⟨by simp, ?_⟩;exact zhu (l:=[1]) rfl rfl rfl (zhg zfu rfl (by first | rfl | omega | simp)) (by first | rfl | (simp only [wk,wks,wkL];first | done | rfl))
def ls27:=And.intro @zhb (And.intro @zhe (And.intro @zfd (@ze0)))
theorem c22_0 {H:List Ob}{a1:Node}{r:(List Node)} (h:zkf a1=some r):callD (callW Try.prog A0) A0 H 22 [.p (.agg (zaf a1))]=some (.p (.lst false r.length (encL en_Node r)),none) :=
 zbi (args:=[.agg (zaf a1)]) rfl rfl rfl (by simp only [List.map_cons,List.map_nil,wk,wks,wkL];exact yf0 a1 _ h)
theorem z1e {rec:Node→Option Int} (hrec:∀ x0 r,rec x0=some r→callW Try.prog A0 27 [.p (.agg (zaf x0))] []=some (.p (.v (.int .i64 r)),[])) {H:List Ob}{a1:Node}{r:Int} (h:rec a1=some r):callD (callW Try.prog A0) A0 H 27 [.p (.agg (zaf a1))]=some (.p (.v (.int .i64 r)),none) :=
 zbi (args:=[.agg (zaf a1)]) rfl rfl rfl (by simp only [List.map_cons,List.map_nil,wk,wks,wkL];exact hrec a1 _ h)
noncomputable def L27_0:Code:=(zak (zae Try.f27)).getD 0 .skip
def g27_0:List Ghost:=[.keep [1,3,4]]
noncomputable def F27_0 (w0_0:Int) (w0_1:ByteArray) (w0_2:(List ByteArray)) (w0_3:(List Node)):(Int×Int)→St:=fun (s3,s4)=>⟨[J,.ptr 0 0,J,iv s3,iv s4,J,J,J,J,J,J,J,J,J,J,J,J,J,J,J,J],[.var [iv w0_0,.p (.v (.string w0_1)),.p (.lst false w0_2.length (encL zeh w0_2)),.p (.lst false w0_3.length (encL en_Node w0_3))]],0⟩
theorem z6x {rec:Node→Option Int} (hrec:∀ x0 r,rec x0=some r→callW Try.prog A0 27 [.p (.agg (zaf x0))] []=some (.p (.v (.int .i64 r)),[])) (w0_0:Int) (w0_1:ByteArray) (w0_2:(List ByteArray)) (w0_3:(List Node)):∀ s st o,zaj g27_0 st=some (F27_0 w0_0 w0_1 w0_2 w0_3 s)→iter (zh7 rec w0_0 w0_1 w0_2 w0_3) s=some o →
    Wp (evW Try.prog A0 27 (.loop L27_0) st) (OutQ (F27_0 w0_0 w0_1 w0_2 w0_3) g27_0 (fun n s st=>n=0∧zaj [.keep [1,3,4]] st=some (F27_0 w0_0 w0_1 w0_2 w0_3 s)) (fun r st=>zap Try.prog A0 27 Try.f27 st=some (.p (.v (.int .i64 r)),[])) o):=by
 refine Wp.iter ?_
 intro s st o hg h
 obtain ⟨s3,s4⟩:=s
 unfold zh7 at h;unfold g27_0 F27_0 at hg ⊢
 (try simp only [] at h hg)
 unfold L27_0 zae Try.f27;simp only [zak,ens]
 revert h
 repeat' first | (with_reducible refine gR fun _ _ _ _=>?_) | (with_reducible refine gB fun _ _=>?_) | (with_reducible refine gI (fun _ _=>?_) (fun _ _=>?_))
 all_goals
  intro h;obtain rfl:=Option.some.inj h
  first | (simp (maxSteps:=10000000) (implicitDefEqProofs:=false) (disch:=first | with_reducible assumption | exact rfl | exact im_ _ | (fail_if_success show Kn _ _);omega) only [bs,rs27,ls27,Nat.reduceAdd,↓reduceIte,z1e hrec,zal u23,zai a25 z25,zab a23,hg];first | (exact ⟨(rfl:Ex.normal=Ex.normal),by kernel_rfl⟩) | (exact ⟨(rfl:Ex.exit 0=Ex.exit 0),rfl,by kernel_rfl⟩)) | (exfalso;omega)
theorem yib {rec:Node→Option Int} (hrec:∀ x0 r,rec x0=some r→callW Try.prog A0 27 [.p (.agg (zaf x0))] []=some (.p (.v (.int .i64 r)),[]))  (x0:Node) (r:Int) (h:R06_Size.body rec x0=some r):callW Try.prog A0 27 [.p (.agg (zaf x0))] []=some (.p (.v (.int .i64 r)),[]):=by
 refine zax (fn:=Try.f27) (c:=zae Try.f27) 20 rfl rfl (by kernel_rfl) (by kernel_rfl) (by kernel_rfl) ?_
 unfold R06_Size.body at h;unfold zae Try.f27;simp only [ens]
 revert h
 refine gB fun o h8=>?_
 intro h
 simp (maxSteps:=10000000) (implicitDefEqProofs:=false) (disch:=first | with_reducible assumption | exact rfl | exact im_ _ | (fail_if_success show Kn _ _);omega) only [bs,rs27,ls27,Nat.reduceAdd,↓reduceIte,z1e hrec,zal u23,zai a25 z25,zab a23]
 refine Wp.ctx (fun x=>seqW _ _ _ _ (za6 _ (x))) (z6x hrec x0.Kind x0.Text x0.Gaps x0.Kids ((1:Int),(0:Int)) _ o (by kernel_rfl) h8) ?_
 intro e st hq
 cases o with
 | next _=>(first | cases h | (simp at h))
 | jmp n_ s_ =>
  obtain ⟨rfl,rfl,hq⟩:=hq
  obtain ⟨s3_9,s4_9⟩:=s_
  unfold F27_0 at hq
  (try simp only [] at h hq)
  revert h
  intro h;obtain rfl:=Option.some.inj h
  simp (maxSteps:=10000000) (implicitDefEqProofs:=false) (disch:=first | with_reducible assumption | exact rfl | exact im_ _ | (fail_if_success show Kn _ _);omega) only [bs,rs27,ls27,Nat.reduceAdd,↓reduceIte,z1e hrec,zal u23,zai a25 z25,zab a23,hq]
  refine ⟨by simp, ?_⟩;exact zdk rfl rfl rfl rfl
 | ret _=>(first | cases h | (simp at h))
theorem z9g:∀ (x0:Node) r,zgk x0=some r→callW Try.prog A0 27 [.p (.agg (zaf x0))] []=some (.p (.v (.int .i64 r)),[]):=by
 have key:∀ n (x0:Node) r,ze9 x0<n→zgk x0=some r→callW Try.prog A0 27 [.p (.agg (zaf x0))] []=some (.p (.v (.int .i64 r)),[]):=by
  intro n
  induction n with
  | zero=>intro x0 r h;omega
  | succ n ih =>
   intro x0 r hn h
   refine yib (rec:=fun x0'=>if ze9 x0'<ze9 x0 then zgk x0' else none) ?_ x0 r (zqo x0 r h)
   intro x0' r' h'
   by_cases hm:ze9 x0'<ze9 x0
   ·rw [if_pos hm] at h';exact ih x0' r' (by omega) h'
   ·rw [if_neg hm] at h';cases h'
 intro x0 r h
 exact key _ x0 r (Nat.lt_succ_self _) h
def ls23:=And.intro @z93 (And.intro @yc9 (And.intro @zhe (@zfd)))
theorem c27_1 {H:List Ob}{a1:Node}{r:Int} (h:zgk a1=some r):callD (callW Try.prog A0) A0 H 27 [.p (.agg (zaf a1))]=some (.p (.v (.int .i64 r)),none) :=
 zbi (args:=[.agg (zaf a1)]) rfl rfl rfl (by simp only [List.map_cons,List.map_nil,wk,wks,wkL];exact z9g a1 _ h)
noncomputable def L23_0:Code:=(zak (zae Try.f23)).getD 0 .skip
def g23_0:List Ghost:=[.own 3 1,.weak [0],.keep [0,3,4]]
noncomputable def F23_0 (s0:(List Node)):(Int×(List Int))→St:=fun (s4,y0)=>⟨[.p (.lst false s0.length (encL en_Node s0)),J,J,.ref 0 0 y0.length 1,iv s4,J,J,J,J,J,J,J,J,J,J,J,J,J,J,J],[.arr (encL zad y0)],0⟩
theorem z6g (s0:(List Node)):∀ s st o,zaj g23_0 st=some (F23_0 s0 s)→iter (zhl s0) s=some o →
    Wp (evW Try.prog A0 23 (.loop L23_0) st) (OutQ (F23_0 s0) g23_0 (fun n s st=>n=0∧zaj [.keep [0,3,4]] st=some (F23_0 s0 s)) (fun r st=>zap Try.prog A0 23 Try.f23 st=some (.p (.lst false r.length (encL zad r)),[])) o):=by
 refine Wp.iter ?_
 intro s st o hg h
 obtain ⟨s4,y0⟩:=s
 unfold zhl at h;unfold g23_0 F23_0 at hg ⊢
 (try simp only [] at h hg)
 unfold L23_0 zae Try.f23;simp only [zak,ens]
 revert h
 refine gI (fun h1 _=>?_) (fun h1 _=>?_)
 ·refine gR fun v2 h3 h3a h3b=>?_
  refine gB fun r5 h6=>?_
  refine gW fun h9=>?_
  have h8:∀ (H:List Ob) (id:Nat),apOb H id 0 y0.length 1 1 1 8 [.v (.int .i64 r5)] (some (.arr (encL zad y0)))=some (.ref H.length 0 (y0++[r5]).length 1,H.set id .dead++[.arr (encL zad (y0++[r5]))]):=fun H id=>zjk (y:=[r5]) zfz (by first | rfl | omega) rfl (by first | (simp only [zbe,zdq,zii,List.cons_append,List.nil_append];done) | (simp only [zbe,zdq,zii,List.cons_append,List.nil_append];rfl) | rfl) (by assumption)
  intro h;obtain rfl:=Option.some.inj h
  simp (maxSteps:=10000000) (implicitDefEqProofs:=false) (disch:=first | with_reducible assumption | exact rfl | exact im_ _ | (fail_if_success show Kn _ _);omega) only [bs,rs23,ls23,Nat.reduceAdd,↓reduceIte,c27_1,zal u23,zai a25 z25,zcl,hg,h8]
  exact ⟨(rfl:Ex.normal=Ex.normal),by kernel_rfl⟩
 ·intro h;obtain rfl:=Option.some.inj h
  simp (maxSteps:=10000000) (implicitDefEqProofs:=false) (disch:=first | with_reducible assumption | exact rfl | exact im_ _ | (fail_if_success show Kn _ _);omega) only [bs,rs23,ls23,Nat.reduceAdd,↓reduceIte,c27_1,zal u23,zai a25 z25,zcl,hg]
  exact ⟨(rfl:Ex.exit 0=Ex.exit 0),rfl,by kernel_rfl⟩
theorem yfl  (x0:(List Node)) (r:(List Int)) (h:zj8 x0=some r):callW Try.prog A0 23 [.p (.lst false x0.length (encL en_Node x0))] []=some (.p (.lst false r.length (encL zad r)),[]):=by
 refine zax (fn:=Try.f23) (c:=zae Try.f23) 19 rfl rfl (by kernel_rfl) (by kernel_rfl) (by kernel_rfl) ?_
 unfold zj8 at h;unfold zae Try.f23;simp only [ens]
 revert h
 refine gB fun o h10=>?_
 intro h
 simp (maxSteps:=10000000) (implicitDefEqProofs:=false) (disch:=first | with_reducible assumption | exact rfl | exact im_ _ | (fail_if_success show Kn _ _);omega) only [bs,rs23,ls23,Nat.reduceAdd,↓reduceIte,c27_1,zal u23,zai a25 z25,zcl]
 refine Wp.ctx (fun x=>seqW _ _ _ _ (za6 _ (x))) (z6g x0 ((0:Int),([]:List Int)) _ o (by kernel_rfl) h10) ?_
 intro e st hq
 cases o with
 | next _=>(first | cases h | (simp at h))
 | jmp n_ s_ =>
  obtain ⟨rfl,rfl,hq⟩:=hq
  obtain ⟨s4_11,y0_11⟩:=s_
  unfold F23_0 at hq
  (try simp only [] at h hq)
  revert h
  intro h;obtain rfl:=Option.some.inj h
  simp (maxSteps:=10000000) (implicitDefEqProofs:=false) (disch:=first | with_reducible assumption | exact rfl | exact im_ _ | (fail_if_success show Kn _ _);omega) only [bs,rs23,ls23,Nat.reduceAdd,↓reduceIte,c27_1,zal u23,zai a25 z25,zcl,hq]
  refine ⟨by simp, ?_⟩;exact zhu (l:=[0]) rfl rfl rfl (zhg zfz rfl (by first | rfl | omega | simp)) (by first | rfl | (simp only [wk,wks,wkL];first | done | rfl))
 | ret _=>(first | cases h | (simp at h))
theorem c23_0 {H:List Ob}{a1:Bool}{a2:List Node}{r:(List Int)} (h:zj8 a2=some r):callD (callW Try.prog A0) A0 H 23 [.p (.lst a1 a2.length (encL en_Node a2))]=some (.p (.lst false r.length (encL zad r)),none) :=
 zbi (args:=[.lst a1 a2.length (encL en_Node a2)]) rfl rfl rfl (by simp only [List.map_cons,List.map_nil,wk,wks,wkL];exact yfl a2 _ h)
theorem yf8  (x0:Int) (x1:Int) (x2:Int) (r:Bool) (h:zn9 x0 x1 x2=some r):callW Try.prog A0 25 [iv x0,iv x1,iv x2] []=some (.p (.v (.bool r)),[]):=by
 refine zax (fn:=Try.f25) (c:=zae Try.f25) 14 rfl rfl (by kernel_rfl) (by kernel_rfl) (by kernel_rfl) ?_
 unfold zn9 at h;unfold zae Try.f25;simp only [ens]
 revert h
 repeat' (with_reducible refine gI (fun _ _=>?_) (fun _ _=>?_))
 all_goals
  intro h;obtain rfl:=Option.some.inj h
  first | (simp (maxSteps:=10000000) (implicitDefEqProofs:=false) (disch:=first | with_reducible assumption | exact rfl | exact im_ _ | (fail_if_success show Kn _ _);omega) only [bs,rs25,Nat.reduceAdd,↓reduceIte];refine ⟨by simp, ?_⟩;exact zdk rfl rfl rfl rfl) | (exfalso;omega)
def ls26:=And.intro @z2l (And.intro @zsr (And.intro @z73 (And.intro @zxy (And.intro @z97 (And.intro @zwn (@zwv))))))
theorem c25_0 {H:List Ob}{a1 a2 a3:Int}{r:Bool} (h:zn9 a1 a2 a3=some r):callD (callW Try.prog A0) A0 H 25 [iv a1,iv a2,iv a3]=some (.p (.v (.bool r)),none) :=
 zbi (args:=[.v (.int .i64 a1),.v (.int .i64 a2),.v (.int .i64 a3)]) rfl rfl rfl (by simp only [List.map_cons,List.map_nil,wk,wks,wkL];exact yf8 a1 a2 a3 _ h)
noncomputable def L26_0:Code:=(zak (zae Try.f26)).getD 0 .skip
def g26_0:List Ghost:=[.weak [0,1],.keep [0,1,2,3,9]]
noncomputable def F26_0 (s0:(List Pair)) (s1:(List Int)) (s2:Int) (s3:Bool):Int→St:=fun s9=>⟨[.p (.lst false s0.length (encL zac s0)),.p (.lst false s1.length (encL zad s1)),iv s2,bv s3,J,J,J,J,J,iv s9,J,J,J,J,J,J,J,J,J,J,J,J,J,J,J,J,J,J,J,J,J,J,J,J,J,J,J,J,J],[],0⟩
theorem z7x (s0:(List Pair)) (s1:(List Int)) (s2:Int) (s3:Bool):∀ s st o,zaj g26_0 st=some (F26_0 s0 s1 s2 s3 s)→iter (zhd s0 s1 s2 s3) s=some o →
    Wp (evW Try.prog A0 26 (.loop L26_0) st) (OutQ (F26_0 s0 s1 s2 s3) g26_0 (fun n s st=>n=0∧zaj [.keep [0,1,2,3,9]] st=some (F26_0 s0 s1 s2 s3 s)) (fun r st=>zap Try.prog A0 26 Try.f26 st=some (.p (.v (.bool r)),[])) o):=by
 refine Wp.iter ?_
 intro s st o hg h
 generalize s=s9 at hg h
 unfold zhd at h;unfold g26_0 F26_0 at hg ⊢
 (try simp only [] at h hg)
 unfold L26_0 zae Try.f26;simp only [zak,ens]
 revert h
 repeat' first | (with_reducible refine gR fun _ _ _ _=>?_) | (with_reducible refine gB fun _ _=>?_) | (with_reducible refine gT (fun _ _=>?_) (fun _ _=>?_)) | (with_reducible refine gI (fun _ _=>?_) (fun _ _=>?_))
 all_goals
  intro h;obtain rfl:=Option.some.inj h
  first | (simp (maxSteps:=10000000) (implicitDefEqProofs:=false) (disch:=first | with_reducible assumption | exact rfl | exact im_ _ | (fail_if_success show Kn _ _);omega) only [bs,rs26,ls26,Nat.reduceAdd,↓reduceIte,c25_0,zal u36,za5 a3,hg];first | (refine ⟨(rfl:Ex.ret=Ex.ret), ?_⟩;exact zdk rfl rfl rfl rfl) | (exact ⟨(rfl:Ex.normal=Ex.normal),by kernel_rfl⟩) | (exact ⟨(rfl:Ex.exit 0=Ex.exit 0),rfl,by kernel_rfl⟩)) | (exfalso;omega)
theorem yfe  (x0:(List Pair)) (x1:(List Int)) (x2:Int) (x3:Bool) (r:Bool) (h:zjp x0 x1 x2 x3=some r):callW Try.prog A0 26 [.p (.lst false x0.length (encL zac x0)),.p (.lst false x1.length (encL zad x1)),iv x2,bv x3] []=some (.p (.v (.bool r)),[]):=by
 refine zax (fn:=Try.f26) (c:=zae Try.f26) 35 rfl rfl (by kernel_rfl) (by kernel_rfl) (by kernel_rfl) ?_
 unfold zjp at h;unfold zae Try.f26;simp only [ens]
 revert h
 refine gB fun o h23=>?_
 intro h
 simp (maxSteps:=10000000) (implicitDefEqProofs:=false) (disch:=first | with_reducible assumption | exact rfl | exact im_ _ | (fail_if_success show Kn _ _);omega) only [bs,rs26,ls26,Nat.reduceAdd,↓reduceIte,c25_0,zal u36,za5 a3]
 refine Wp.ctx (fun x=>seqW _ _ _ _ (za6 _ (x))) (z7x x0 x1 x2 x3 (0:Int) _ o (by kernel_rfl) h23) ?_
 intro e st hq
 cases o with
 | next _=>(first | cases h | (simp at h))
 | jmp n_ s_ =>
  obtain ⟨rfl,rfl,hq⟩:=hq
  generalize s_=s9_24 at h hq
  unfold F26_0 at hq
  (try simp only [] at h hq)
  revert h
  intro h;obtain rfl:=Option.some.inj h
  simp (maxSteps:=10000000) (implicitDefEqProofs:=false) (disch:=first | with_reducible assumption | exact rfl | exact im_ _ | (fail_if_success show Kn _ _);omega) only [bs,rs26,ls26,Nat.reduceAdd,↓reduceIte,c25_0,zal u36,za5 a3,hq]
  refine ⟨by simp, ?_⟩;exact zdk rfl rfl rfl rfl
 | ret r25 =>
  obtain ⟨rfl,hq⟩:=hq
  obtain rfl:=Option.some.inj h
  simp (maxSteps:=10000000) (implicitDefEqProofs:=false) (disch:=first | with_reducible assumption | exact rfl | exact im_ _ | (fail_if_success show Kn _ _);omega) only [bs,rs26,ls26,Nat.reduceAdd,↓reduceIte,c25_0,zal u36,za5 a3]
  exact ⟨by simp,hq⟩
def ls24:=And.intro @zop (And.intro @zoz (And.intro @zhb (And.intro @zhe (And.intro @zfd (And.intro @zkr (And.intro @zkq (@ze0)))))))
theorem c26_0 {H:List Ob}{a1 a3 a6:Bool}{a2:List Pair}{a4:List Int}{a5:Int}{r:Bool} (h:zjp a2 a4 a5 a6=some r):callD (callW Try.prog A0) A0 H 26 [.p (.lst a1 a2.length (encL zac a2)),.p (.lst a3 a4.length (encL zad a4)),iv a5,bv a6]=some (.p (.v (.bool r)),none) :=
 zbi (args:=[.lst a1 a2.length (encL zac a2),.lst a3 a4.length (encL zad a4),.v (.int .i64 a5),.v (.bool a6)]) rfl rfl rfl (by simp only [List.map_cons,List.map_nil,wk,wks,wkL];exact yfe a2 a4 a5 a6 _ h)
theorem zpk {rec:Node→Node→Option Bool} (hrec:∀ x0 x1 r,rec x0 x1=some r→callW Try.prog A0 24 [.p (.agg (zaf x0)),.p (.agg (zaf x1))] []=some (.p (.v (.bool r)),[])) {H:List Ob}{a1 a2:Node}{r:Bool} (h:rec a1 a2=some r):callD (callW Try.prog A0) A0 H 24 [.p (.agg (zaf a1)),.p (.agg (zaf a2))]=some (.p (.v (.bool r)),none) :=
 zbi (args:=[.agg (zaf a1),.agg (zaf a2)]) rfl rfl rfl (by simp only [List.map_cons,List.map_nil,wk,wks,wkL];exact hrec a1 a2 _ h)
noncomputable def L24_0:Code:=(zak (zae Try.f24)).getD 0 .skip
def g24_0:List Ghost:=[.keep [2,3,5]]
noncomputable def F24_0 (w0_0:Int) (w0_1:ByteArray) (w0_2:(List ByteArray)) (w0_3:(List Node)) (w1_0:Int) (w1_1:ByteArray) (w1_2:(List ByteArray)) (w1_3:(List Node)):Int→St:=fun s5=>⟨[J,J,.ptr 0 0,.ptr 1 0,J,iv s5,J,J,J,J,J,J,J,J,J,J,J,J,J,J,J,J,J,J,J,J,J,J,J,J,J,J,J,J,J,J,J,J,J,J,J,J,J,J,J,J],[.var [iv w0_0,.p (.v (.string w0_1)),.p (.lst false w0_2.length (encL zeh w0_2)),.p (.lst false w0_3.length (encL en_Node w0_3))],.var [iv w1_0,.p (.v (.string w1_1)),.p (.lst false w1_2.length (encL zeh w1_2)),.p (.lst false w1_3.length (encL en_Node w1_3))]],0⟩
theorem z9v {rec:Node→Node→Option Bool} (hrec:∀ x0 x1 r,rec x0 x1=some r→callW Try.prog A0 24 [.p (.agg (zaf x0)),.p (.agg (zaf x1))] []=some (.p (.v (.bool r)),[])) (w0_0:Int) (w0_1:ByteArray) (w0_2:(List ByteArray)) (w0_3:(List Node)) (w1_0:Int) (w1_1:ByteArray) (w1_2:(List ByteArray)) (w1_3:(List Node)):∀ s st o,zaj g24_0 st=some (F24_0 w0_0 w0_1 w0_2 w0_3 w1_0 w1_1 w1_2 w1_3 s)→iter (zic rec w0_0 w0_1 w0_2 w0_3 w1_0 w1_1 w1_2 w1_3) s=some o →
    Wp (evW Try.prog A0 24 (.loop L24_0) st) (OutQ (F24_0 w0_0 w0_1 w0_2 w0_3 w1_0 w1_1 w1_2 w1_3) g24_0 (fun n s st=>n=0∧zaj [.keep [2,3,5]] st=some (F24_0 w0_0 w0_1 w0_2 w0_3 w1_0 w1_1 w1_2 w1_3 s)) (fun r st=>zap Try.prog A0 24 Try.f24 st=some (.p (.v (.bool r)),[])) o):=by
 refine Wp.iter ?_
 intro s st o hg h
 generalize s=s5 at hg h
 unfold zic at h;unfold g24_0 F24_0 at hg ⊢
 (try simp only [] at h hg)
 unfold L24_0 zae Try.f24;simp only [zak,ens]
 revert h
 repeat' first | (with_reducible refine gR fun _ _ _ _=>?_) | (with_reducible refine gB fun _ _=>?_) | (with_reducible refine gT (fun _ _=>?_) (fun _ _=>?_)) | (with_reducible refine gI (fun _ _=>?_) (fun _ _=>?_))
 all_goals
  intro h;obtain rfl:=Option.some.inj h
  first | (simp (maxSteps:=10000000) (implicitDefEqProofs:=false) (disch:=first | with_reducible assumption | exact rfl | exact im_ _ | (fail_if_success show Kn _ _);omega) only [bs,rs24,ls24,Nat.reduceAdd,↓reduceIte,zc7,zpk hrec,zal u23,zai a25 z25,zab a23,zab a3,zab a9,hg];first | (exact ⟨(rfl:Ex.normal=Ex.normal),by kernel_rfl⟩) | (refine ⟨(rfl:Ex.ret=Ex.ret), ?_⟩;exact zdk rfl rfl rfl rfl) | (exact ⟨(rfl:Ex.exit 0=Ex.exit 0),rfl,by kernel_rfl⟩)) | (exfalso;omega)
theorem yjg {rec:Node→Node→Option Bool} (hrec:∀ x0 x1 r,rec x0 x1=some r→callW Try.prog A0 24 [.p (.agg (zaf x0)),.p (.agg (zaf x1))] []=some (.p (.v (.bool r)),[]))  (x0:Node) (x1:Node) (r:Bool) (h:R06_Same.body rec x0 x1=some r):callW Try.prog A0 24 [.p (.agg (zaf x0)),.p (.agg (zaf x1))] []=some (.p (.v (.bool r)),[]):=by
 refine zax (fn:=Try.f24) (c:=zae Try.f24) 44 rfl rfl (by kernel_rfl) (by kernel_rfl) (by kernel_rfl) ?_
 unfold R06_Same.body at h;unfold zae Try.f24;simp only [ens]
 revert h
 refine gI (fun h1 _=>?_) (fun h1 _=>?_)
 ·refine gI (fun h2 _=>?_) (fun h2 _=>?_)
  ·refine gI (fun h3 _=>?_) (fun h3 _=>?_)
   ·refine gB fun o h15=>?_
    intro h
    simp (maxSteps:=10000000) (implicitDefEqProofs:=false) (disch:=first | with_reducible assumption | exact rfl | exact im_ _ | (fail_if_success show Kn _ _);omega) only [bs,rs24,ls24,Nat.reduceAdd,↓reduceIte,zc7,zpk hrec,zal u23,zai a25 z25,zab a23,zab a3,zab a9]
    refine Wp.ctx (fun x=>seqW _ _ _ _ (za6 _ (x))) (z9v hrec x0.Kind x0.Text x0.Gaps x0.Kids x1.Kind x1.Text x1.Gaps x1.Kids (0:Int) _ o (by kernel_rfl) h15) ?_
    intro e st hq
    cases o with
    | next _=>(first | cases h | (simp at h))
    | jmp n_ s_ =>
     obtain ⟨rfl,rfl,hq⟩:=hq
     generalize s_=s5_16 at h hq
     unfold F24_0 at hq
     (try simp only [] at h hq)
     revert h
     intro h;obtain rfl:=Option.some.inj h
     simp (maxSteps:=10000000) (implicitDefEqProofs:=false) (disch:=first | with_reducible assumption | exact rfl | exact im_ _ | (fail_if_success show Kn _ _);omega) only [bs,rs24,ls24,Nat.reduceAdd,↓reduceIte,zc7,zpk hrec,zal u23,zai a25 z25,zab a23,zab a3,zab a9,hq]
     refine ⟨by simp, ?_⟩;exact zdk rfl rfl rfl rfl
    | ret r17 =>
     obtain ⟨rfl,hq⟩:=hq
     obtain rfl:=Option.some.inj h
     simp (maxSteps:=10000000) (implicitDefEqProofs:=false) (disch:=first | with_reducible assumption | exact rfl | exact im_ _ | (fail_if_success show Kn _ _);omega) only [bs,rs24,ls24,Nat.reduceAdd,↓reduceIte,zc7,zpk hrec,zal u23,zai a25 z25,zab a23,zab a3,zab a9]
     exact ⟨by simp,hq⟩
   ·intro h;obtain rfl:=Option.some.inj h
    simp (maxSteps:=10000000) (implicitDefEqProofs:=false) (disch:=first | with_reducible assumption | exact rfl | exact im_ _ | (fail_if_success show Kn _ _);omega) only [bs,rs24,ls24,Nat.reduceAdd,↓reduceIte,zc7,zpk hrec,zal u23,zai a25 z25,zab a23,zab a3,zab a9]
    refine ⟨by simp, ?_⟩;exact zdk rfl rfl rfl rfl
  ·intro h;obtain rfl:=Option.some.inj h
   simp (maxSteps:=10000000) (implicitDefEqProofs:=false) (disch:=first | with_reducible assumption | exact rfl | exact im_ _ | (fail_if_success show Kn _ _);omega) only [bs,rs24,ls24,Nat.reduceAdd,↓reduceIte,zc7,zpk hrec,zal u23,zai a25 z25,zab a23,zab a3,zab a9]
   refine ⟨by simp, ?_⟩;exact zdk rfl rfl rfl rfl
 ·intro h;obtain rfl:=Option.some.inj h
  simp (maxSteps:=10000000) (implicitDefEqProofs:=false) (disch:=first | with_reducible assumption | exact rfl | exact im_ _ | (fail_if_success show Kn _ _);omega) only [bs,rs24,ls24,Nat.reduceAdd,↓reduceIte,zc7,zpk hrec,zal u23,zai a25 z25,zab a23,zab a3,zab a9]
  refine ⟨by simp, ?_⟩;exact zdk rfl rfl rfl rfl
theorem z82:∀ (x0:Node) (x1:Node) r,zgd x0 x1=some r→callW Try.prog A0 24 [.p (.agg (zaf x0)),.p (.agg (zaf x1))] []=some (.p (.v (.bool r)),[]):=by
 have key:∀ n (x0:Node) (x1:Node) r,ze7 x0 x1<n→zgd x0 x1=some r→callW Try.prog A0 24 [.p (.agg (zaf x0)),.p (.agg (zaf x1))] []=some (.p (.v (.bool r)),[]):=by
  intro n
  induction n with
  | zero=>intro x0 x1 r h;omega
  | succ n ih =>
   intro x0 x1 r hn h
   refine yjg (rec:=fun x0' x1'=>if ze7 x0' x1'<ze7 x0 x1 then zgd x0' x1' else none) ?_ x0 x1 r (zql x0 x1 r h)
   intro x0' x1' r' h'
   by_cases hm:ze7 x0' x1'<ze7 x0 x1
   ·rw [if_pos hm] at h';exact ih x0' x1' r' (by omega) h'
   ·rw [if_neg hm] at h';cases h'
 intro x0 x1 r h
 exact key _ x0 x1 r (Nat.lt_succ_self _) h
def ls45:=And.intro @z9u (And.intro @yci (And.intro @zsr (And.intro @zxy (And.intro @zxl (And.intro @zwn (And.intro @zum (And.intro @zft (@zwg))))))))
theorem c24_1 {H:List Ob}{a1 a2:Node}{r:Bool} (h:zgd a1 a2=some r):callD (callW Try.prog A0) A0 H 24 [.p (.agg (zaf a1)),.p (.agg (zaf a2))]=some (.p (.v (.bool r)),none) :=
 zbi (args:=[.agg (zaf a1),.agg (zaf a2)]) rfl rfl rfl (by simp only [List.map_cons,List.map_nil,wk,wks,wkL];exact z82 a1 a2 _ h)
noncomputable def L45_0:Code:=(zak (zae Try.f45)).getD 0 .skip
def g45_0:List Ghost:=[.own 5 2,.weak [0],.keep [0,3,5,6,7]]
noncomputable def F45_0 (s0:(List Pair)) (w0_0:Int) (w0_1:Int):(Bool×Int×(List Pair))→St:=fun (s6,s7,y1)=>⟨[.p (.lst false s0.length (encL zac s0)),J,J,.ptr 0 0,J,.ref 1 0 y1.length 2,bv s6,iv s7,J,J,J,J,J,J,J,J,J,J,J,J,J,J,J,J,J,J,J,J,J,J,J,J,J,J,J,J,J,J,J,J,J,J,J,J],[.var [iv w0_0,iv w0_1],.arr (encL zac y1)],0⟩
theorem z7l (s0:(List Pair)) (w0_0:Int) (w0_1:Int):∀ s st o,zaj g45_0 st=some (F45_0 s0 w0_0 w0_1 s)→iter (zcy s0 w0_0 w0_1) s=some o →
    Wp (evW Try.prog A0 45 (.loop L45_0) st) (OutQ (F45_0 s0 w0_0 w0_1) g45_0 (fun n s st=>n=0∧zaj [.keep [0,3,5,6,7]] st=some (F45_0 s0 w0_0 w0_1 s)) (fun r st=>zap Try.prog A0 45 Try.f45 st=some (.p (.lst false r.length (encL zac r)),[])) o):=by
 refine Wp.iter ?_
 intro s st o hg h
 obtain ⟨s6,s7,y1⟩:=s
 unfold zcy at h;unfold g45_0 F45_0 at hg ⊢
 (try simp only [] at h hg)
 unfold L45_0 zae Try.f45;simp only [zak,ens]
 revert h
 refine gI (fun h1 _=>?_) (fun h1 _=>?_)
 ·refine gT (fun h2 _=>?_) (fun h2 _=>?_)
  ·refine gR fun v3 h4 h4a h4b=>?_
   refine gW fun h7=>?_
   have h6:∀ (H:List Ob) (id:Nat),apOb H id 0 y1.length 1 2 2 16 [.v (.int .i64 v3.Old),.v (.int .i64 v3.New)] (some (.arr (encL zac y1)))=some (.ref H.length 0 (y1++[v3]).length 2,H.set id .dead++[.arr (encL zac (y1++[v3]))]):=fun H id=>zjk (y:=[v3]) zds (by first | rfl | omega) rfl (by first | (simp only [zbe,zdq,zdt,List.cons_append,List.nil_append];done) | (simp only [zbe,zdq,zdt,List.cons_append,List.nil_append];rfl) | rfl) (by assumption)
   intro h;obtain rfl:=Option.some.inj h
   simp (maxSteps:=10000000) (implicitDefEqProofs:=false) (disch:=first | with_reducible assumption | exact rfl | exact im_ _ | (fail_if_success show Kn _ _);omega) only [bs,rs45,ls45,Nat.reduceAdd,↓reduceIte,zal u36,zai a43 z43,za5 a3,zag a43 z43,zab a3,zcl,hg,h6]
   exact ⟨(rfl:Ex.normal=Ex.normal),by kernel_rfl⟩
  ·refine gR fun v8 h9 h9a h9b=>?_
   refine gI (fun h11 _=>?_) (fun h11 _=>?_)
   ·refine gW fun h13=>?_
    have h12:∀ (H:List Ob) (id:Nat),apOb H id 0 y1.length 1 2 2 16 [.v (.int .i64 w0_0),.v (.int .i64 w0_1)] (some (.arr (encL zac y1)))=some (.ref H.length 0 (y1++[(Pair.mk w0_0 w0_1)]).length 2,H.set id .dead++[.arr (encL zac (y1++[(Pair.mk w0_0 w0_1)]))]):=fun H id=>zjk (y:=[(Pair.mk w0_0 w0_1)]) zds (by first | rfl | omega) rfl (by first | (simp only [zbe,zdq,zdt,List.cons_append,List.nil_append];done) | (simp only [zbe,zdq,zdt,List.cons_append,List.nil_append];rfl) | rfl) (by assumption)
    refine gW fun h16=>?_
    have h15:∀ (H:List Ob) (id:Nat),apOb H id 0 ((y1++[(Pair.mk w0_0 w0_1)]).length) 1 2 2 16 [.v (.int .i64 v8.Old),.v (.int .i64 v8.New)] (some (.arr (encL zac (y1++[(Pair.mk w0_0 w0_1)]))))=some (.ref H.length 0 ((y1++[(Pair.mk w0_0 w0_1)])++[v8]).length 2,H.set id .dead++[.arr (encL zac ((y1++[(Pair.mk w0_0 w0_1)])++[v8]))]):=fun H id=>zjk (y:=[v8]) zds (by first | rfl | omega) rfl (by first | (simp only [zbe,zdq,zdt,List.cons_append,List.nil_append];done) | (simp only [zbe,zdq,zdt,List.cons_append,List.nil_append];rfl) | rfl) (by assumption)
    intro h;obtain rfl:=Option.some.inj h
    simp (maxSteps:=10000000) (implicitDefEqProofs:=false) (disch:=first | with_reducible assumption | exact rfl | exact im_ _ | (fail_if_success show Kn _ _);omega) only [bs,rs45,ls45,Nat.reduceAdd,↓reduceIte,zal u36,zai a43 z43,za5 a3,zag a43 z43,zab a3,zcl,hg,h12,h15]
    exact ⟨(rfl:Ex.normal=Ex.normal),by kernel_rfl⟩
   ·refine gW fun h19=>?_
    have h18:∀ (H:List Ob) (id:Nat),apOb H id 0 y1.length 1 2 2 16 [.v (.int .i64 v8.Old),.v (.int .i64 v8.New)] (some (.arr (encL zac y1)))=some (.ref H.length 0 (y1++[v8]).length 2,H.set id .dead++[.arr (encL zac (y1++[v8]))]):=fun H id=>zjk (y:=[v8]) zds (by first | rfl | omega) rfl (by first | (simp only [zbe,zdq,zdt,List.cons_append,List.nil_append];done) | (simp only [zbe,zdq,zdt,List.cons_append,List.nil_append];rfl) | rfl) (by assumption)
    intro h;obtain rfl:=Option.some.inj h
    simp (maxSteps:=10000000) (implicitDefEqProofs:=false) (disch:=first | with_reducible assumption | exact rfl | exact im_ _ | (fail_if_success show Kn _ _);omega) only [bs,rs45,ls45,Nat.reduceAdd,↓reduceIte,zal u36,zai a43 z43,za5 a3,zag a43 z43,zab a3,zcl,hg,h18]
    exact ⟨(rfl:Ex.normal=Ex.normal),by kernel_rfl⟩
 ·intro h;obtain rfl:=Option.some.inj h
  simp (maxSteps:=10000000) (implicitDefEqProofs:=false) (disch:=first | with_reducible assumption | exact rfl | exact im_ _ | (fail_if_success show Kn _ _);omega) only [bs,rs45,ls45,Nat.reduceAdd,↓reduceIte,zal u36,zai a43 z43,za5 a3,zag a43 z43,zab a3,zcl,hg]
  exact ⟨(rfl:Ex.exit 0=Ex.exit 0),rfl,by kernel_rfl⟩
theorem yed  (x0:(List Pair)) (x1:Pair) (r:(List Pair)) (h:zi1 x0 x1=some r):callW Try.prog A0 45 [.p (.lst false x0.length (encL zac x0)),.p (.agg (ydw x1))] []=some (.p (.lst false r.length (encL zac r)),[]):=by
 refine zax (fn:=Try.f45) (c:=zae Try.f45) 42 rfl rfl (by kernel_rfl) (by kernel_rfl) (by kernel_rfl) ?_
 unfold zi1 at h;unfold zae Try.f45;simp only [ens]
 revert h
 refine gB fun o h20=>?_
 intro h
 simp (maxSteps:=10000000) (implicitDefEqProofs:=false) (disch:=first | with_reducible assumption | exact rfl | exact im_ _ | (fail_if_success show Kn _ _);omega) only [bs,rs45,ls45,Nat.reduceAdd,↓reduceIte,zal u36,zai a43 z43,za5 a3,zag a43 z43,zab a3,zcl]
 refine Wp.ctx (fun x=>seqW _ _ _ _ (za6 _ (x))) (z7l x0 x1.Old x1.New (false,(0:Int),([]:List Pair)) _ o (by kernel_rfl) h20) ?_
 intro e st hq
 cases o with
 | next _=>(first | cases h | (simp at h))
 | jmp n_ s_ =>
  obtain ⟨rfl,rfl,hq⟩:=hq
  obtain ⟨s6_21,s7_21,y1_21⟩:=s_
  unfold F45_0 at hq
  (try simp only [] at h hq)
  revert h
  refine gT (fun h22 _=>?_) (fun h22 _=>?_)
  ·intro h;obtain rfl:=Option.some.inj h
   simp (maxSteps:=10000000) (implicitDefEqProofs:=false) (disch:=first | with_reducible assumption | exact rfl | exact im_ _ | (fail_if_success show Kn _ _);omega) only [bs,rs45,ls45,Nat.reduceAdd,↓reduceIte,zal u36,zai a43 z43,za5 a3,zag a43 z43,zab a3,zcl,hq]
   refine ⟨by simp, ?_⟩;exact zhu (l:=[1]) rfl rfl rfl (zhg zds rfl (by first | rfl | omega | simp)) (by first | rfl | (simp only [wk,wks,wkL];first | done | rfl))
  ·refine gW fun h24=>?_
   have h23:∀ (H:List Ob) (id:Nat),apOb H id 0 y1_21.length 1 2 2 16 [.v (.int .i64 x1.Old),.v (.int .i64 x1.New)] (some (.arr (encL zac y1_21)))=some (.ref H.length 0 (y1_21++[x1]).length 2,H.set id .dead++[.arr (encL zac (y1_21++[x1]))]):=fun H id=>zjk (y:=[x1]) zds (by first | rfl | omega) rfl (by first | (simp only [zbe,zdq,zdt,List.cons_append,List.nil_append];done) | (simp only [zbe,zdq,zdt,List.cons_append,List.nil_append];rfl) | rfl) (by assumption)
   intro h;obtain rfl:=Option.some.inj h
   simp (maxSteps:=10000000) (implicitDefEqProofs:=false) (disch:=first | with_reducible assumption | exact rfl | exact im_ _ | (fail_if_success show Kn _ _);omega) only [bs,rs45,ls45,Nat.reduceAdd,↓reduceIte,zal u36,zai a43 z43,za5 a3,zag a43 z43,zab a3,zcl,hq,h23]
   refine ⟨by simp, ?_⟩;exact zhu (l:=[2]) rfl rfl rfl (zhg zds rfl (by first | rfl | omega | simp)) (by first | rfl | (simp only [wk,wks,wkL];first | done | rfl))
 | ret _=>(first | cases h | (simp at h))
def ls21:=And.intro @z2d (And.intro @z2l (And.intro @zhe (And.intro @zwv (And.intro @zfd (@zck)))))
theorem c45_0 {H:List Ob}{a1:Bool}{a2:List Pair}{a3 a4:Int}{r:(List Pair)} (h:zi1 a2 (Pair.mk a3 a4)=some r):callD (callW Try.prog A0) A0 H 45 [.p (.lst a1 a2.length (encL zac a2)),.p (.agg [.v (.int .i64 a3),.v (.int .i64 a4)])]=some (.p (.lst false r.length (encL zac r)),none) :=
 zbi (args:=[.lst a1 a2.length (encL zac a2),.agg [.v (.int .i64 a3),.v (.int .i64 a4)]]) rfl rfl rfl (by simp only [List.map_cons,List.map_nil,wk,wks,wkL];exact yed a2 (Pair.mk a3 a4) _ h)
noncomputable def L21_2:Code:=(zak (zae Try.f21)).getD 2 .skip
def g21_2:List Ghost:=[.weak [5,6,7,8],.keep [5,6,7,8,9,10,11]]
noncomputable def F21_2 (s5:(List Node)) (s6:(List Node)) (s7:(List Int)) (s9:Int) (s10:Int):((List Pair)×Int)→St:=fun (s8,s11)=>⟨[J,J,J,J,J,.p (.lst false s5.length (encL en_Node s5)),.p (.lst false s6.length (encL en_Node s6)),.p (.lst false s7.length (encL zad s7)),.p (.lst false s8.length (encL zac s8)),iv s9,iv s10,iv s11,J,J,J,J,J,J,J,J,J,J,J,J,J,J,J,J,J,J,J,J,J,J,J,J,J,J,J,J,J,J,J,J,J,J,J,J,J,J,J,J,J,J,J,J,J,J,J,J,J,J,J,J,J,J,J,J,J],[],0⟩
theorem z8c (s5:(List Node)) (s6:(List Node)) (s7:(List Int)) (s9:Int) (s10:Int):∀ s st o,zaj g21_2 st=some (F21_2 s5 s6 s7 s9 s10 s)→iter (zcp s5 s6 s7 s9 s10) s=some o →
    Wp (evW Try.prog A0 21 (.loop L21_2) st) (OutQ (F21_2 s5 s6 s7 s9 s10) g21_2 (fun n s st=>n=4∧zaj [.keep [5,6,7,8,9,10,11]] st=some (F21_2 s5 s6 s7 s9 s10 s)) (fun r st=>zap Try.prog A0 21 Try.f21 st=some (.p (.lst false r.length (encL zac r)),[])) o):=by
 refine Wp.iter ?_
 intro s st o hg h
 obtain ⟨s8,s11⟩:=s
 unfold zcp at h;unfold g21_2 F21_2 at hg ⊢
 (try simp only [] at h hg)
 unfold L21_2 zae Try.f21;simp only [zak,ens]
 revert h
 repeat' first | (with_reducible refine gR fun _ _ _ _=>?_) | (with_reducible refine gB fun _ _=>?_) | (with_reducible refine gT (fun _ _=>?_) (fun _ _=>?_)) | (with_reducible refine gI (fun _ _=>?_) (fun _ _=>?_))
 all_goals
  intro h;obtain rfl:=Option.some.inj h
  first | (simp (maxSteps:=10000000) (implicitDefEqProofs:=false) (disch:=first | with_reducible assumption | exact rfl | exact im_ _ | (fail_if_success show Kn _ _);omega) only [bs,rs21,ls21,Nat.reduceAdd,↓reduceIte,c22_0,c23_0,c24_1,c26_0,c45_0,zal u23,zai a25 z25,za5 a3,zag a25 z25,hg];first | (exact ⟨(rfl:Ex.normal=Ex.normal),by kernel_rfl⟩) | (exact ⟨(rfl:Ex.exit 4=Ex.exit 4),rfl,by kernel_rfl⟩)) | (exfalso;omega)
noncomputable def L21_1:Code:=(zak (zae Try.f21)).getD 1 .skip
def g21_1:List Ghost:=[.weak [5,6,7,8],.keep [5,6,7,8,9,10]]
noncomputable def F21_1 (s5:(List Node)) (s6:(List Node)) (s7:(List Int)) (s9:Int):((List Pair)×Int)→St:=fun (s8,s10)=>⟨[J,J,J,J,J,.p (.lst false s5.length (encL en_Node s5)),.p (.lst false s6.length (encL en_Node s6)),.p (.lst false s7.length (encL zad s7)),.p (.lst false s8.length (encL zac s8)),iv s9,iv s10,J,J,J,J,J,J,J,J,J,J,J,J,J,J,J,J,J,J,J,J,J,J,J,J,J,J,J,J,J,J,J,J,J,J,J,J,J,J,J,J,J,J,J,J,J,J,J,J,J,J,J,J,J,J,J,J,J,J],[],0⟩
theorem z90 (s5:(List Node)) (s6:(List Node)) (s7:(List Int)) (s9:Int):∀ s st o,zaj g21_1 st=some (F21_1 s5 s6 s7 s9 s)→iter (zfp s5 s6 s7 s9) s=some o →
    Wp (evW Try.prog A0 21 (.loop L21_1) st) (OutQ (F21_1 s5 s6 s7 s9) g21_1 (fun n s st=>n=2∧zaj [.keep [5,6,7,8,9,10]] st=some (F21_1 s5 s6 s7 s9 s)) (fun r st=>zap Try.prog A0 21 Try.f21 st=some (.p (.lst false r.length (encL zac r)),[])) o):=by
 refine Wp.iter ?_
 intro s st o hg h
 obtain ⟨s8,s10⟩:=s
 unfold zfp at h;unfold g21_1 F21_1 at hg ⊢
 (try simp only [] at h hg)
 unfold L21_1 zae Try.f21;simp only [zak,ens]
 revert h
 refine gI (fun h11 _=>?_) (fun h11 _=>?_)
 ·refine gR fun v12 h13 h13a h13b=>?_
  refine gI (fun h15 _=>?_) (fun h15 _=>?_)
  ·refine gB fun o h38=>?_
   intro h
   simp (maxSteps:=10000000) (implicitDefEqProofs:=false) (disch:=first | with_reducible assumption | exact rfl | exact im_ _ | (fail_if_success show Kn _ _);omega) only [bs,rs21,ls21,Nat.reduceAdd,↓reduceIte,c22_0,c23_0,c24_1,c26_0,c45_0,zal u23,zai a25 z25,za5 a3,zag a25 z25,hg]
   refine Wp.ctx (fun x=>seqW _ _ _ _ (za6 _ (za6 _ (x)))) (z8c s5 s6 s7 s9 s10 (s8,(0:Int)) _ o (by kernel_rfl) h38) ?_
   intro e st hq
   cases o with
   | next _=>(first | cases h | (simp at h))
   | jmp n_ s_ =>
    obtain ⟨rfl,rfl,hq⟩:=hq
    obtain ⟨s8_39,s11_39⟩:=s_
    unfold F21_2 at hq
    (try simp only [] at h hq)
    revert h
    intro h;obtain rfl:=Option.some.inj h
    simp (maxSteps:=10000000) (implicitDefEqProofs:=false) (disch:=first | with_reducible assumption | exact rfl | exact im_ _ | (fail_if_success show Kn _ _);omega) only [bs,rs21,ls21,Nat.reduceAdd,↓reduceIte,c22_0,c23_0,c24_1,c26_0,c45_0,zal u23,zai a25 z25,za5 a3,zag a25 z25,hg,hq]
    exact ⟨(rfl:Ex.normal=Ex.normal),by kernel_rfl⟩
   | ret _=>(first | cases h | (simp at h))
  ·intro h
   simp (maxSteps:=10000000) (implicitDefEqProofs:=false) (disch:=first | with_reducible assumption | exact rfl | exact im_ _ | (fail_if_success show Kn _ _);omega) only [bs,rs21,ls21,Nat.reduceAdd,↓reduceIte,c22_0,c23_0,c24_1,c26_0,c45_0,zal u23,zai a25 z25,za5 a3,zag a25 z25,hg]
   refine Wp.gh (fun x=>regW _ _ _ _ _ x) ⟨[J,J,J,J,J,.p (.lst false s5.length (encL en_Node s5)),.p (.lst false s6.length (encL en_Node s6)),.p (.lst false s7.length (encL zad s7)),.p (.lst false s8.length (encL zac s8)),iv s9,iv s10,J,J,J,J,J,J,J,J,J,J,J,J,J,J,J,J,J,J,J,J,J,J,J,J,J,J,J,J,J,J,J,J,J,J,J,J,J,J,J,J,J,J,J,J,J,J,J,J,J,J,J,J,J,J,J,J,J,J],[],0⟩ (by kernel_rfl) ?_
   revert h
   intro h;obtain rfl:=Option.some.inj h
   simp (maxSteps:=10000000) (implicitDefEqProofs:=false) (disch:=first | with_reducible assumption | exact rfl | exact im_ _ | (fail_if_success show Kn _ _);omega) only [bs,rs21,ls21,Nat.reduceAdd,↓reduceIte,c22_0,c23_0,c24_1,c26_0,c45_0,zal u23,zai a25 z25,za5 a3,zag a25 z25,hg]
   exact ⟨(rfl:Ex.normal=Ex.normal),by kernel_rfl⟩
 ·intro h;obtain rfl:=Option.some.inj h
  simp (maxSteps:=10000000) (implicitDefEqProofs:=false) (disch:=first | with_reducible assumption | exact rfl | exact im_ _ | (fail_if_success show Kn _ _);omega) only [bs,rs21,ls21,Nat.reduceAdd,↓reduceIte,c22_0,c23_0,c24_1,c26_0,c45_0,zal u23,zai a25 z25,za5 a3,zag a25 z25,hg]
  exact ⟨(rfl:Ex.exit 2=Ex.exit 2),rfl,by kernel_rfl⟩
noncomputable def L21_0:Code:=(zak (zae Try.f21)).getD 0 .skip
def g21_0:List Ghost:=[.weak [5,6,7,8],.keep [5,6,7,8,9]]
noncomputable def F21_0 (s5:(List Node)) (s6:(List Node)) (s7:(List Int)):((List Pair)×Int)→St:=fun (s8,s9)=>⟨[J,J,J,J,J,.p (.lst false s5.length (encL en_Node s5)),.p (.lst false s6.length (encL en_Node s6)),.p (.lst false s7.length (encL zad s7)),.p (.lst false s8.length (encL zac s8)),iv s9,J,J,J,J,J,J,J,J,J,J,J,J,J,J,J,J,J,J,J,J,J,J,J,J,J,J,J,J,J,J,J,J,J,J,J,J,J,J,J,J,J,J,J,J,J,J,J,J,J,J,J,J,J,J,J,J,J,J,J],[],0⟩
theorem z9s (s5:(List Node)) (s6:(List Node)) (s7:(List Int)):∀ s st o,zaj g21_0 st=some (F21_0 s5 s6 s7 s)→iter (zgr s5 s6 s7) s=some o →
    Wp (evW Try.prog A0 21 (.loop L21_0) st) (OutQ (F21_0 s5 s6 s7) g21_0 (fun n s st=>n=0∧zaj [.keep [5,6,7,8,9]] st=some (F21_0 s5 s6 s7 s)) (fun r st=>zap Try.prog A0 21 Try.f21 st=some (.p (.lst false r.length (encL zac r)),[])) o):=by
 refine Wp.iter ?_
 intro s st o hg h
 obtain ⟨s8,s9⟩:=s
 unfold zgr at h;unfold g21_0 F21_0 at hg ⊢
 (try simp only [] at h hg)
 unfold L21_0 zae Try.f21;simp only [zak,ens]
 revert h
 refine gI (fun h10 _=>?_) (fun h10 _=>?_)
 ·refine gB fun o h40=>?_
  intro h
  simp (maxSteps:=10000000) (implicitDefEqProofs:=false) (disch:=first | with_reducible assumption | exact rfl | exact im_ _ | (fail_if_success show Kn _ _);omega) only [bs,rs21,ls21,Nat.reduceAdd,↓reduceIte,c22_0,c23_0,c24_1,c26_0,c45_0,zal u23,zai a25 z25,za5 a3,zag a25 z25,hg]
  refine Wp.ctx (fun x=>seqW _ _ _ _ (za6 _ (za6 _ (x)))) (z90 s5 s6 s7 s9 (s8,(0:Int)) _ o (by kernel_rfl) h40) ?_
  intro e st hq
  cases o with
  | next _=>(first | cases h | (simp at h))
  | jmp n_ s_ =>
   obtain ⟨rfl,rfl,hq⟩:=hq
   obtain ⟨s8_41,s10_41⟩:=s_
   unfold F21_1 at hq
   (try simp only [] at h hq)
   revert h
   intro h;obtain rfl:=Option.some.inj h
   simp (maxSteps:=10000000) (implicitDefEqProofs:=false) (disch:=first | with_reducible assumption | exact rfl | exact im_ _ | (fail_if_success show Kn _ _);omega) only [bs,rs21,ls21,Nat.reduceAdd,↓reduceIte,c22_0,c23_0,c24_1,c26_0,c45_0,zal u23,zai a25 z25,za5 a3,zag a25 z25,hg,hq]
   exact ⟨(rfl:Ex.normal=Ex.normal),by kernel_rfl⟩
  | ret _=>(first | cases h | (simp at h))
 ·intro h;obtain rfl:=Option.some.inj h
  simp (maxSteps:=10000000) (implicitDefEqProofs:=false) (disch:=first | with_reducible assumption | exact rfl | exact im_ _ | (fail_if_success show Kn _ _);omega) only [bs,rs21,ls21,Nat.reduceAdd,↓reduceIte,c22_0,c23_0,c24_1,c26_0,c45_0,zal u23,zai a25 z25,za5 a3,zag a25 z25,hg]
  exact ⟨(rfl:Ex.exit 0=Ex.exit 0),rfl,by kernel_rfl⟩
theorem yfp  (x0:Node) (x1:Node) (r:(List Pair)) (h:zkc x0 x1=some r):callW Try.prog A0 21 [.p (.agg (zaf x0)),.p (.agg (zaf x1))] []=some (.p (.lst false r.length (encL zac r)),[]):=by
 refine zax (fn:=Try.f21) (c:=zae Try.f21) 67 rfl rfl (by kernel_rfl) (by kernel_rfl) (by kernel_rfl) ?_
 unfold zkc at h;unfold zae Try.f21;simp only [ens]
 revert h
 refine gB fun r1 h2=>?_
 refine gB fun r4 h5=>?_
 refine gB fun r7 h8=>?_
 refine gB fun o h42=>?_
 intro h
 simp (maxSteps:=10000000) (implicitDefEqProofs:=false) (disch:=first | with_reducible assumption | exact rfl | exact im_ _ | (fail_if_success show Kn _ _);omega) only [bs,rs21,ls21,Nat.reduceAdd,↓reduceIte,c22_0,c23_0,c24_1,c26_0,c45_0,zal u23,zai a25 z25,za5 a3,zag a25 z25]
 refine Wp.ctx (fun x=>seqW _ _ _ _ (za6 _ (x))) (z9s r1 r4 r7 (([]:List Pair),(r1.length:Int)) _ o (by kernel_rfl) h42) ?_
 intro e st hq
 cases o with
 | next _=>(first | cases h | (simp at h))
 | jmp n_ s_ =>
  obtain ⟨rfl,rfl,hq⟩:=hq
  obtain ⟨s8_43,s9_43⟩:=s_
  unfold F21_0 at hq
  (try simp only [] at h hq)
  revert h
  intro h;obtain rfl:=Option.some.inj h
  simp (maxSteps:=10000000) (implicitDefEqProofs:=false) (disch:=first | with_reducible assumption | exact rfl | exact im_ _ | (fail_if_success show Kn _ _);omega) only [bs,rs21,ls21,Nat.reduceAdd,↓reduceIte,c22_0,c23_0,c24_1,c26_0,c45_0,zal u23,zai a25 z25,za5 a3,zag a25 z25,hq]
  refine ⟨by simp, ?_⟩;exact zhu (l:=[]) rfl rfl rfl rfl (by first | rfl | (simp only [wk,wks,wkL];first | done | rfl))
 | ret _=>(first | cases h | (simp at h))
def ls19:=And.intro @zwn (And.intro @zum (@yfs))
theorem c21_0 {H:List Ob}{a1 a2:Node}{r:(List Pair)} (h:zkc a1 a2=some r):callD (callW Try.prog A0) A0 H 21 [.p (.agg (zaf a1)),.p (.agg (zaf a2))]=some (.p (.lst false r.length (encL zac r)),none) :=
 zbi (args:=[.agg (zaf a1),.agg (zaf a2)]) rfl rfl rfl (by simp only [List.map_cons,List.map_nil,wk,wks,wkL];exact yfp a1 a2 _ h)
noncomputable def L19_0:Code:=(zak (zae Try.f19)).getD 0 .skip
def g19_0:List Ghost:=[.weak [0,1],.keep [0,1,5]]
noncomputable def F19_0 (s0:(List Pair)) (s1:(List Pair)):Int→St:=fun s5=>⟨[.p (.lst false s0.length (encL zac s0)),.p (.lst false s1.length (encL zac s1)),J,J,J,iv s5,J,J,J,J,J,J,J,J,J,J,J,J,J,J,J,J,J,J,J,J],[],0⟩
theorem z7y (s0:(List Pair)) (s1:(List Pair)):∀ s st o,zaj g19_0 st=some (F19_0 s0 s1 s)→iter (zfk s0 s1) s=some o →
    Wp (evW Try.prog A0 19 (.loop L19_0) st) (OutQ (F19_0 s0 s1) g19_0 (fun n s st=>n=0∧zaj [.keep [0,1,5]] st=some (F19_0 s0 s1 s)) (fun r st=>zap Try.prog A0 19 Try.f19 st=some (.p (.v (.bool r)),[])) o):=by
 refine Wp.iter ?_
 intro s st o hg h
 generalize s=s5 at hg h
 unfold zfk at h;unfold g19_0 F19_0 at hg ⊢
 (try simp only [] at h hg)
 unfold L19_0 zae Try.f19;simp only [zak,ens]
 revert h
 repeat' first | (with_reducible refine gR fun _ _ _ _=>?_) | (with_reducible refine gI (fun _ _=>?_) (fun _ _=>?_))
 all_goals
  intro h;obtain rfl:=Option.some.inj h
  first | (simp (maxSteps:=10000000) (implicitDefEqProofs:=false) (disch:=first | with_reducible assumption | exact rfl | exact im_ _ | (fail_if_success show Kn _ _);omega) only [bs,rs19,ls19,Nat.reduceAdd,↓reduceIte,zal u36,zai a43 z43,hg];first | (exact ⟨(rfl:Ex.normal=Ex.normal),by kernel_rfl⟩) | (refine ⟨(rfl:Ex.ret=Ex.ret), ?_⟩;exact zdk rfl rfl rfl rfl) | (exact ⟨(rfl:Ex.exit 0=Ex.exit 0),rfl,by kernel_rfl⟩)) | (exfalso;omega)
theorem ygf  (x0:(List Pair)) (x1:(List Pair)) (r:Bool) (h:zgv x0 x1=some r):callW Try.prog A0 19 [.p (.lst false x0.length (encL zac x0)),.p (.lst false x1.length (encL zac x1))] []=some (.p (.v (.bool r)),[]):=by
 refine zax (fn:=Try.f19) (c:=zae Try.f19) 24 rfl rfl (by kernel_rfl) (by kernel_rfl) (by kernel_rfl) ?_
 unfold zgv at h;unfold zae Try.f19;simp only [ens]
 revert h
 refine gI (fun h1 _=>?_) (fun h1 _=>?_)
 ·refine gB fun o h10=>?_
  intro h
  simp (maxSteps:=10000000) (implicitDefEqProofs:=false) (disch:=first | with_reducible assumption | exact rfl | exact im_ _ | (fail_if_success show Kn _ _);omega) only [bs,rs19,ls19,Nat.reduceAdd,↓reduceIte,zal u36,zai a43 z43]
  refine Wp.ctx (fun x=>seqW _ _ _ _ (za6 _ (x))) (z7y x0 x1 (0:Int) _ o (by kernel_rfl) h10) ?_
  intro e st hq
  cases o with
  | next _=>(first | cases h | (simp at h))
  | jmp n_ s_ =>
   obtain ⟨rfl,rfl,hq⟩:=hq
   generalize s_=s5_11 at h hq
   unfold F19_0 at hq
   (try simp only [] at h hq)
   revert h
   intro h;obtain rfl:=Option.some.inj h
   simp (maxSteps:=10000000) (implicitDefEqProofs:=false) (disch:=first | with_reducible assumption | exact rfl | exact im_ _ | (fail_if_success show Kn _ _);omega) only [bs,rs19,ls19,Nat.reduceAdd,↓reduceIte,zal u36,zai a43 z43,hq]
   refine ⟨by simp, ?_⟩;exact zdk rfl rfl rfl rfl
  | ret r12 =>
   obtain ⟨rfl,hq⟩:=hq
   obtain rfl:=Option.some.inj h
   simp (maxSteps:=10000000) (implicitDefEqProofs:=false) (disch:=first | with_reducible assumption | exact rfl | exact im_ _ | (fail_if_success show Kn _ _);omega) only [bs,rs19,ls19,Nat.reduceAdd,↓reduceIte,zal u36,zai a43 z43]
   exact ⟨by simp,hq⟩
 ·intro h;obtain rfl:=Option.some.inj h
  simp (maxSteps:=10000000) (implicitDefEqProofs:=false) (disch:=first | with_reducible assumption | exact rfl | exact im_ _ | (fail_if_success show Kn _ _);omega) only [bs,rs19,ls19,Nat.reduceAdd,↓reduceIte,zal u36,zai a43 z43]
  refine ⟨by simp, ?_⟩;exact zdk rfl rfl rfl rfl
def ls5:=@zck
theorem c19_0 {H:List Ob}{a1 a3:Bool}{a2 a4:List Pair}{r:Bool} (h:zgv a2 a4=some r):callD (callW Try.prog A0) A0 H 19 [.p (.lst a1 a2.length (encL zac a2)),.p (.lst a3 a4.length (encL zac a4))]=some (.p (.v (.bool r)),none) :=
 zbi (args:=[.lst a1 a2.length (encL zac a2),.lst a3 a4.length (encL zac a4)]) rfl rfl rfl (by simp only [List.map_cons,List.map_nil,wk,wks,wkL];exact ygf a2 a4 _ h)
theorem f5_ok  (x0:Node) (x1:Node) (r:Bool) (h:zgm x0 x1=some r):callW Try.prog A0 5 [.p (.agg (zaf x0)),.p (.agg (zaf x1))] []=some (.p (.v (.bool r)),[]):=by
 refine zax (fn:=Try.f5) (c:=zae Try.f5) 22 rfl rfl (by kernel_rfl) (by kernel_rfl) (by kernel_rfl) ?_
 unfold zgm at h;unfold zae Try.f5;simp only [ens]
 revert h
 repeat' first | (with_reducible refine gB fun _ _=>?_) | (with_reducible refine gT (fun _ _=>?_) (fun _ _=>?_))
 all_goals
  intro h;obtain rfl:=Option.some.inj h
  first | (simp (maxSteps:=10000000) (implicitDefEqProofs:=false) (disch:=first | with_reducible assumption | exact rfl | exact im_ _ | (fail_if_success show Kn _ _);omega) only [bs,rs5,ls5,Nat.reduceAdd,↓reduceIte,c10_0,c19_0,c21_0,c9_0,zpi,zag a25 z25];refine ⟨by simp, ?_⟩;exact zdk rfl rfl rfl rfl) | (exfalso;omega)
end Xr

