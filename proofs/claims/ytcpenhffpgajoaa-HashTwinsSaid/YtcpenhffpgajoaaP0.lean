/- A part of the proof: P0. No conditions of its own. -/
import Derived.Test.YtcpenhffpgajoaaL
namespace Xr
open Go Go.Ev Go.Proofs
set_option linter.unusedSimpArgs false
set_option linter.unusedVariables false
set_option linter.defProp false
set_option maxRecDepth 8000
set_option maxHeartbeats 40000000
def ls48:=And.intro @zha (And.intro @zhg (And.intro @zff (@ze2)))
theorem zqe {rec:Node→Int→Int→Option Int} (hrec:∀ x0 x1 x2 r,rec x0 x1 x2=some r→callW Try.prog A0 48 [.p (.agg (zag x0)),iv x1,iv x2] []=some (.p (.v (.int .i64 r)),[])) {H:List Ob}{a1:Node}{a2 a3:Int}{r:Int} (h:rec a1 a2 a3=some r):callD (callW Try.prog A0) A0 H 48 [.p (.agg (zag a1)),iv a2,iv a3]=some (.p (.v (.int .i64 r)),none) :=
 zbp (args:=[.agg (zag a1),.v (.int .i64 a2),.v (.int .i64 a3)]) rfl rfl rfl (by simp only [List.map_cons,List.map_nil,wk,wks,wkL];exact hrec a1 a2 a3 _ h)
noncomputable def L48_0:Code:=(zal (zae Try.f48)).getD 0 .skip
def g48_0:List Ghost:=[.keep [2,3,7,8]]
noncomputable def F48_0 (s2:Int) (w0_0:Int) (w0_1:ByteArray) (w0_2:(List ByteArray)) (w0_3:(List Node)):(Int×Int)→St:=fun (s7,s8)=>⟨[J,J,iv s2,.ptr 0 0,J,J,J,iv s7,iv s8,J,J,J,J,J,J,J,J,J,J,J,J,J,J,J,J,J,J,J,J,J,J,J,J,J,J,J,J,J,J,J,J,J,J],[.var [iv w0_0,.p (.v (.string w0_1)),.p (.lst false w0_2.length (encL zdn w0_2)),.p (.lst false w0_3.length (encL en_Node w0_3))]],0⟩
theorem z5u {rec:Node→Int→Int→Option Int} (hrec:∀ x0 x1 x2 r,rec x0 x1 x2=some r→callW Try.prog A0 48 [.p (.agg (zag x0)),iv x1,iv x2] []=some (.p (.v (.int .i64 r)),[])) (s2:Int) (w0_0:Int) (w0_1:ByteArray) (w0_2:(List ByteArray)) (w0_3:(List Node)):∀ s st o,zak g48_0 st=some (F48_0 s2 w0_0 w0_1 w0_2 w0_3 s)→iter (zhd rec s2 w0_0 w0_1 w0_2 w0_3) s=some o →
    Wp (evW Try.prog A0 48 (.loop L48_0) st) (OutQ (F48_0 s2 w0_0 w0_1 w0_2 w0_3) g48_0 (fun n s st=>n=0∧zak [.keep [2,3,7,8]] st=some (F48_0 s2 w0_0 w0_1 w0_2 w0_3 s)) (fun r st=>zap Try.prog A0 48 Try.f48 st=some (.p (.v (.int .i64 r)),[])) o):=by
 refine Wp.iter ?_
 intro s st o hg h
 obtain ⟨s7,s8⟩:=s
 unfold zhd at h;unfold g48_0 F48_0 at hg ⊢
 (try simp only [] at h hg)
 unfold L48_0 zae Try.f48;simp only [zal,ens]
 revert h
 repeat' first | (with_reducible refine gR fun _ _ _ _=>?_) | (with_reducible refine gB fun _ _=>?_) | (with_reducible refine gI (fun _ _=>?_) (fun _ _=>?_))
 all_goals
  intro h;obtain rfl:=Option.some.inj h
  first | (simp (maxSteps:=10000000) (implicitDefEqProofs:=false) (disch:=first | with_reducible assumption | exact rfl | exact im_ _ | (fail_if_success show Kn _ _);omega) only [bs,rs48,ls48,Nat.reduceAdd,↓reduceIte,zqe hrec,zaj u23,zaf a25 z25,zab a23,hg];first | (refine ⟨(rfl:Ex.ret=Ex.ret), ?_⟩;exact zco rfl rfl rfl rfl) | (exact ⟨(rfl:Ex.normal=Ex.normal),by kernel_rfl⟩) | (exact ⟨(rfl:Ex.exit 0=Ex.exit 0),rfl,by kernel_rfl⟩)) | (exfalso;omega)
theorem ye6 {rec:Node→Int→Int→Option Int} (hrec:∀ x0 x1 x2 r,rec x0 x1 x2=some r→callW Try.prog A0 48 [.p (.agg (zag x0)),iv x1,iv x2] []=some (.p (.v (.int .i64 r)),[]))  (x0:Node) (x1:Int) (x2:Int) (r:Int) (h:R06_left.body rec x0 x1 x2=some r):callW Try.prog A0 48 [.p (.agg (zag x0)),iv x1,iv x2] []=some (.p (.v (.int .i64 r)),[]):=by
 refine zax (fn:=Try.f48) (c:=zae Try.f48) 40 rfl rfl (by kernel_rfl) (by kernel_rfl) (by kernel_rfl) ?_
 unfold R06_left.body at h;unfold zae Try.f48;simp only [ens]
 revert h
 refine gI (fun h1 _=>?_) (fun h1 _=>?_)
 ·intro h;obtain rfl:=Option.some.inj h
  simp (maxSteps:=10000000) (implicitDefEqProofs:=false) (disch:=first | with_reducible assumption | exact rfl | exact im_ _ | (fail_if_success show Kn _ _);omega) only [bs,rs48,ls48,Nat.reduceAdd,↓reduceIte,zqe hrec,zaj u23,zaf a25 z25,zab a23]
  refine ⟨by simp, ?_⟩;exact zco rfl rfl rfl rfl
 ·refine gI (fun h2 _=>?_) (fun h2 _=>?_)
  ·intro h;obtain rfl:=Option.some.inj h
   simp (maxSteps:=10000000) (implicitDefEqProofs:=false) (disch:=first | with_reducible assumption | exact rfl | exact im_ _ | (fail_if_success show Kn _ _);omega) only [bs,rs48,ls48,Nat.reduceAdd,↓reduceIte,zqe hrec,zaj u23,zaf a25 z25,zab a23]
   refine ⟨by simp, ?_⟩;exact zco rfl rfl rfl rfl
  ·refine gI (fun h3 _=>?_) (fun h3 _=>?_)
   ·intro h;obtain rfl:=Option.some.inj h
    simp (maxSteps:=10000000) (implicitDefEqProofs:=false) (disch:=first | with_reducible assumption | exact rfl | exact im_ _ | (fail_if_success show Kn _ _);omega) only [bs,rs48,ls48,Nat.reduceAdd,↓reduceIte,zqe hrec,zaj u23,zaf a25 z25,zab a23]
    refine ⟨by simp, ?_⟩;exact zco rfl rfl rfl rfl
   ·refine gB fun o h12=>?_
    intro h
    simp (maxSteps:=10000000) (implicitDefEqProofs:=false) (disch:=first | with_reducible assumption | exact rfl | exact im_ _ | (fail_if_success show Kn _ _);omega) only [bs,rs48,ls48,Nat.reduceAdd,↓reduceIte,zqe hrec,zaj u23,zaf a25 z25,zab a23]
    refine Wp.ctx (fun x=>seqW _ _ _ _ (za5 _ (x))) (z5u hrec x2 x0.Kind x0.Text x0.Gaps x0.Kids (w64 (x1 - (1:Int)),(0:Int)) _ o (by kernel_rfl) h12) ?_
    intro e st hq
    cases o with
    | next _=>(first | cases h | (simp at h))
    | jmp n_ s_ =>
     obtain ⟨rfl,rfl,hq⟩:=hq
     obtain ⟨s7_13,s8_13⟩:=s_
     unfold F48_0 at hq
     (try simp only [] at h hq)
     revert h
     intro h;obtain rfl:=Option.some.inj h
     simp (maxSteps:=10000000) (implicitDefEqProofs:=false) (disch:=first | with_reducible assumption | exact rfl | exact im_ _ | (fail_if_success show Kn _ _);omega) only [bs,rs48,ls48,Nat.reduceAdd,↓reduceIte,zqe hrec,zaj u23,zaf a25 z25,zab a23,hq]
     refine ⟨by simp, ?_⟩;exact zco rfl rfl rfl rfl
    | ret r14 =>
     obtain ⟨rfl,hq⟩:=hq
     obtain rfl:=Option.some.inj h
     simp (maxSteps:=10000000) (implicitDefEqProofs:=false) (disch:=first | with_reducible assumption | exact rfl | exact im_ _ | (fail_if_success show Kn _ _);omega) only [bs,rs48,ls48,Nat.reduceAdd,↓reduceIte,zqe hrec,zaj u23,zaf a25 z25,zab a23]
     exact ⟨by simp,hq⟩
theorem z8e:∀ (x0:Node) (x1:Int) (x2:Int) r,zgr x0 x1 x2=some r→callW Try.prog A0 48 [.p (.agg (zag x0)),iv x1,iv x2] []=some (.p (.v (.int .i64 r)),[]):=by
 have key:∀ n (x0:Node) (x1:Int) (x2:Int) r,ze9 x0 x1 x2<n→zgr x0 x1 x2=some r→callW Try.prog A0 48 [.p (.agg (zag x0)),iv x1,iv x2] []=some (.p (.v (.int .i64 r)),[]):=by
  intro n
  induction n with
  | zero=>intro x0 x1 x2 r h;omega
  | succ n ih =>
   intro x0 x1 x2 r hn h
   refine ye6 (rec:=fun x0' x1' x2'=>if ze9 x0' x1' x2'<ze9 x0 x1 x2 then zgr x0' x1' x2' else none) ?_ x0 x1 x2 r (zql x0 x1 x2 r h)
   intro x0' x1' x2' r' h'
   by_cases hm:ze9 x0' x1' x2'<ze9 x0 x1 x2
   ·rw [if_pos hm] at h';exact ih x0' x1' x2' r' (by omega) h'
   ·rw [if_neg hm] at h';cases h'
 intro x0 x1 x2 r h
 exact key _ x0 x1 x2 r (Nat.lt_succ_self _) h
def ls30:=@zcn
theorem c48_1 {H:List Ob}{a1:Node}{a2 a3:Int}{r:Int} (h:zgr a1 a2 a3=some r):callD (callW Try.prog A0) A0 H 48 [.p (.agg (zag a1)),iv a2,iv a3]=some (.p (.v (.int .i64 r)),none) :=
 zbp (args:=[.agg (zag a1),.v (.int .i64 a2),.v (.int .i64 a3)]) rfl rfl rfl (by simp only [List.map_cons,List.map_nil,wk,wks,wkL];exact z8e a1 a2 a3 _ h)
theorem yht  (x0:Node) (x1:Int) (x2:Int) (r:Bool) (h:zm3 x0 x1 x2=some r):callW Try.prog A0 30 [.p (.agg (zag x0)),iv x1,iv x2] []=some (.p (.v (.bool r)),[]):=by
 refine zax (fn:=Try.f30) (c:=zae Try.f30) 9 rfl rfl (by kernel_rfl) (by kernel_rfl) (by kernel_rfl) ?_
 unfold zm3 at h;unfold zae Try.f30;simp only [ens]
 revert h
 repeat' (with_reducible refine gB fun _ _=>?_)
 intro h;obtain rfl:=Option.some.inj h
 simp (maxSteps:=10000000) (implicitDefEqProofs:=false) (disch:=first | with_reducible assumption | exact rfl | exact im_ _ | (fail_if_success show Kn _ _);omega) only [bs,rs30,ls30,Nat.reduceAdd,↓reduceIte,c48_1,zah a25 z25]
 refine ⟨by simp, ?_⟩;exact zco rfl rfl rfl rfl
def ls31:=And.intro @ygm (And.intro @zoo (And.intro @z6u (And.intro @zha (And.intro @yc4 (And.intro @zhg (And.intro @zff (And.intro @zko (And.intro @zvr (@ze2)))))))))
theorem c30_0 {H:List Ob}{a1:Node}{a2 a3:Int}{r:Bool} (h:zm3 a1 a2 a3=some r):callD (callW Try.prog A0) A0 H 30 [.p (.agg (zag a1)),iv a2,iv a3]=some (.p (.v (.bool r)),none) :=
 zbp (args:=[.agg (zag a1),.v (.int .i64 a2),.v (.int .i64 a3)]) rfl rfl rfl (by simp only [List.map_cons,List.map_nil,wk,wks,wkL];exact yht a1 a2 a3 _ h)
theorem zng {rec:Node→Int→Option Int} (hrec:∀ x0 x1 r,rec x0 x1=some r→callW Try.prog A0 31 [.p (.agg (zag x0)),iv x1] []=some (.p (.v (.int .i64 r)),[])) {H:List Ob}{a1:Node}{a2:Int}{r:Int} (h:rec a1 a2=some r):callD (callW Try.prog A0) A0 H 31 [.p (.agg (zag a1)),iv a2]=some (.p (.v (.int .i64 r)),none) :=
 zbp (args:=[.agg (zag a1),.v (.int .i64 a2)]) rfl rfl rfl (by simp only [List.map_cons,List.map_nil,wk,wks,wkL];exact hrec a1 a2 _ h)
noncomputable def L31_1:Code:=(zal (zae Try.f31)).getD 1 .skip
def g31_1:List Ghost:=[.keep [2,5,7]]
noncomputable def F31_1 (w0_0:Int) (w0_1:ByteArray) (w0_2:(List ByteArray)) (w0_3:(List Node)):(Int×Int)→St:=fun (s5,s7)=>⟨[J,J,.ptr 0 0,J,J,iv s5,J,iv s7,J,J,J,J,J,J,J,J,J,J,J,J,J,J,J,J,J,J,J,J,J,J,J,J,J,J,J,J,J,J,J,J,J,J,J,J,J,J,J,J,J,J,J,J,J,J,J,J,J,J,J,J,J,J,J,J,J,J],[.var [iv w0_0,.p (.v (.string w0_1)),.p (.lst false w0_2.length (encL zdn w0_2)),.p (.lst false w0_3.length (encL en_Node w0_3))]],0⟩
theorem z5r {rec:Node→Int→Option Int} (hrec:∀ x0 x1 r,rec x0 x1=some r→callW Try.prog A0 31 [.p (.agg (zag x0)),iv x1] []=some (.p (.v (.int .i64 r)),[])) (w0_0:Int) (w0_1:ByteArray) (w0_2:(List ByteArray)) (w0_3:(List Node)):∀ s st o,zak g31_1 st=some (F31_1 w0_0 w0_1 w0_2 w0_3 s)→iter (zfs rec w0_0 w0_1 w0_2 w0_3) s=some o →
    Wp (evW Try.prog A0 31 (.loop L31_1) st) (OutQ (F31_1 w0_0 w0_1 w0_2 w0_3) g31_1 (fun n s st=>n=2∧zak [.keep [2,5,7]] st=some (F31_1 w0_0 w0_1 w0_2 w0_3 s)) (fun r st=>zap Try.prog A0 31 Try.f31 st=some (.p (.v (.int .i64 r)),[])) o):=by
 refine Wp.iter ?_
 intro s st o hg h
 obtain ⟨s5,s7⟩:=s
 unfold zfs at h;unfold g31_1 F31_1 at hg ⊢
 (try simp only [] at h hg)
 unfold L31_1 zae Try.f31;simp only [zal,ens]
 revert h
 repeat' first | (with_reducible refine gR fun _ _ _ _=>?_) | (with_reducible refine gB fun _ _=>?_) | (with_reducible refine gI (fun _ _=>?_) (fun _ _=>?_))
 all_goals
  intro h;obtain rfl:=Option.some.inj h
  first | (simp (maxSteps:=10000000) (implicitDefEqProofs:=false) (disch:=first | with_reducible assumption | exact rfl | exact im_ _ | (fail_if_success show Kn _ _);omega) only [bs,rs31,ls31,Nat.reduceAdd,↓reduceIte,zng hrec,zaj u22,zaj u23,zgc u9,zaf a25 z25,za7 a9,zab a22,zab a23,zab a9,hg];first | (refine ⟨(rfl:Ex.ret=Ex.ret), ?_⟩;exact zco rfl rfl rfl rfl) | (exact ⟨(rfl:Ex.normal=Ex.normal),by kernel_rfl⟩) | (exact ⟨(rfl:Ex.exit 2=Ex.exit 2),rfl,by kernel_rfl⟩)) | (exfalso;omega)
noncomputable def L31_0:Code:=(zal (zae Try.f31)).getD 0 .skip
def g31_0:List Ghost:=[.keep [2,5,6]]
noncomputable def F31_0 (w0_0:Int) (w0_1:ByteArray) (w0_2:(List ByteArray)) (w0_3:(List Node)):(Int×Int)→St:=fun (s5,s6)=>⟨[J,J,.ptr 0 0,J,J,iv s5,iv s6,J,J,J,J,J,J,J,J,J,J,J,J,J,J,J,J,J,J,J,J,J,J,J,J,J,J,J,J,J,J,J,J,J,J,J,J,J,J,J,J,J,J,J,J,J,J,J,J,J,J,J,J,J,J,J,J,J,J,J],[.var [iv w0_0,.p (.v (.string w0_1)),.p (.lst false w0_2.length (encL zdn w0_2)),.p (.lst false w0_3.length (encL en_Node w0_3))]],0⟩
theorem z9v {rec:Node→Int→Option Int} (hrec:∀ x0 x1 r,rec x0 x1=some r→callW Try.prog A0 31 [.p (.agg (zag x0)),iv x1] []=some (.p (.v (.int .i64 r)),[])) (w0_0:Int) (w0_1:ByteArray) (w0_2:(List ByteArray)) (w0_3:(List Node)):∀ s st o,zak g31_0 st=some (F31_0 w0_0 w0_1 w0_2 w0_3 s)→iter (zfo rec w0_0 w0_1 w0_2 w0_3) s=some o →
    Wp (evW Try.prog A0 31 (.loop L31_0) st) (OutQ (F31_0 w0_0 w0_1 w0_2 w0_3) g31_0 (fun n s st=>n=0∧zak [.keep [2,5,6]] st=some (F31_0 w0_0 w0_1 w0_2 w0_3 s)) (fun r st=>zap Try.prog A0 31 Try.f31 st=some (.p (.v (.int .i64 r)),[])) o):=by
 refine Wp.iter ?_
 intro s st o hg h
 obtain ⟨s5,s6⟩:=s
 unfold zfo at h;unfold g31_0 F31_0 at hg ⊢
 (try simp only [] at h hg)
 unfold L31_0 zae Try.f31;simp only [zal,ens]
 revert h
 repeat' first | (with_reducible refine gR fun _ _ _ _=>?_) | (with_reducible refine gI (fun _ _=>?_) (fun _ _=>?_))
 all_goals
  intro h;obtain rfl:=Option.some.inj h
  first | (simp (maxSteps:=10000000) (implicitDefEqProofs:=false) (disch:=first | with_reducible assumption | exact rfl | exact im_ _ | (fail_if_success show Kn _ _);omega) only [bs,rs31,ls31,Nat.reduceAdd,↓reduceIte,zng hrec,zaj u22,zaj u23,zgc u9,zaf a25 z25,za7 a9,zab a22,zab a23,zab a9,hg];first | (refine ⟨(rfl:Ex.ret=Ex.ret), ?_⟩;exact zco rfl rfl rfl rfl) | (exact ⟨(rfl:Ex.normal=Ex.normal),by kernel_rfl⟩) | (exact ⟨(rfl:Ex.exit 0=Ex.exit 0),rfl,by kernel_rfl⟩)) | (exfalso;omega)
theorem yje {rec:Node→Int→Option Int} (hrec:∀ x0 x1 r,rec x0 x1=some r→callW Try.prog A0 31 [.p (.agg (zag x0)),iv x1] []=some (.p (.v (.int .i64 r)),[]))  (x0:Node) (x1:Int) (r:Int) (h:R06_weigh.body rec x0 x1=some r):callW Try.prog A0 31 [.p (.agg (zag x0)),iv x1] []=some (.p (.v (.int .i64 r)),[]):=by
 refine zax (fn:=Try.f31) (c:=zae Try.f31) 64 rfl rfl (by kernel_rfl) (by kernel_rfl) (by kernel_rfl) ?_
 unfold R06_weigh.body at h;unfold zae Try.f31;simp only [ens]
 revert h
 refine gI (fun h1 _=>?_) (fun h1 _=>?_)
 ·intro h;obtain rfl:=Option.some.inj h
  simp (maxSteps:=10000000) (implicitDefEqProofs:=false) (disch:=first | with_reducible assumption | exact rfl | exact im_ _ | (fail_if_success show Kn _ _);omega) only [bs,rs31,ls31,Nat.reduceAdd,↓reduceIte,zng hrec,zaj u22,zaj u23,zgc u9,zaf a25 z25,za7 a9,zab a22,zab a23,zab a9]
  refine ⟨by simp, ?_⟩;exact zco rfl rfl rfl rfl
 ·refine gI (fun h2 _=>?_) (fun h2 _=>?_)
  ·intro h;obtain rfl:=Option.some.inj h
   simp (maxSteps:=10000000) (implicitDefEqProofs:=false) (disch:=first | with_reducible assumption | exact rfl | exact im_ _ | (fail_if_success show Kn _ _);omega) only [bs,rs31,ls31,Nat.reduceAdd,↓reduceIte,zng hrec,zaj u22,zaj u23,zgc u9,zaf a25 z25,za7 a9,zab a22,zab a23,zab a9]
   refine ⟨by simp, ?_⟩;exact zco rfl rfl rfl rfl
  ·refine gB fun o h9=>?_
   intro h
   simp (maxSteps:=10000000) (implicitDefEqProofs:=false) (disch:=first | with_reducible assumption | exact rfl | exact im_ _ | (fail_if_success show Kn _ _);omega) only [bs,rs31,ls31,Nat.reduceAdd,↓reduceIte,zng hrec,zaj u22,zaj u23,zgc u9,zaf a25 z25,za7 a9,zab a22,zab a23,zab a9]
   refine Wp.ctx (fun x=>seqW _ _ _ _ (za5 _ (x))) (z9v hrec x0.Kind x0.Text x0.Gaps x0.Kids (w64 (x1 - (x0.Text.size:Int)),(0:Int)) _ o (by kernel_rfl) h9) ?_
   intro e st hq
   cases o with
   | next _=>(first | cases h | (simp at h))
   | jmp n_ s_ =>
    obtain ⟨rfl,rfl,hq⟩:=hq
    obtain ⟨s5_10,s6_10⟩:=s_
    unfold F31_0 at hq
    (try simp only [] at h hq)
    revert h
    refine gB fun o h19=>?_
    intro h
    simp (maxSteps:=10000000) (implicitDefEqProofs:=false) (disch:=first | with_reducible assumption | exact rfl | exact im_ _ | (fail_if_success show Kn _ _);omega) only [bs,rs31,ls31,Nat.reduceAdd,↓reduceIte,zng hrec,zaj u22,zaj u23,zgc u9,zaf a25 z25,za7 a9,zab a22,zab a23,zab a9,hq]
    refine Wp.ctx (fun x=>seqW _ _ _ _ (za5 _ (x))) (z5r hrec x0.Kind x0.Text x0.Gaps x0.Kids (s5_10,(0:Int)) _ o (by kernel_rfl) h19) ?_
    intro e st hq
    cases o with
    | next _=>(first | cases h | (simp at h))
    | jmp n_ s_ =>
     obtain ⟨rfl,rfl,hq⟩:=hq
     obtain ⟨s5_20,s7_20⟩:=s_
     unfold F31_1 at hq
     (try simp only [] at h hq)
     revert h
     intro h;obtain rfl:=Option.some.inj h
     simp (maxSteps:=10000000) (implicitDefEqProofs:=false) (disch:=first | with_reducible assumption | exact rfl | exact im_ _ | (fail_if_success show Kn _ _);omega) only [bs,rs31,ls31,Nat.reduceAdd,↓reduceIte,zng hrec,zaj u22,zaj u23,zgc u9,zaf a25 z25,za7 a9,zab a22,zab a23,zab a9,hq,hq]
     refine ⟨by simp, ?_⟩;exact zco rfl rfl rfl rfl
    | ret r21 =>
     obtain ⟨rfl,hq⟩:=hq
     obtain rfl:=Option.some.inj h
     simp (maxSteps:=10000000) (implicitDefEqProofs:=false) (disch:=first | with_reducible assumption | exact rfl | exact im_ _ | (fail_if_success show Kn _ _);omega) only [bs,rs31,ls31,Nat.reduceAdd,↓reduceIte,zng hrec,zaj u22,zaj u23,zgc u9,zaf a25 z25,za7 a9,zab a22,zab a23,zab a9]
     exact ⟨by simp,hq⟩
   | ret r22 =>
    obtain ⟨rfl,hq⟩:=hq
    obtain rfl:=Option.some.inj h
    simp (maxSteps:=10000000) (implicitDefEqProofs:=false) (disch:=first | with_reducible assumption | exact rfl | exact im_ _ | (fail_if_success show Kn _ _);omega) only [bs,rs31,ls31,Nat.reduceAdd,↓reduceIte,zng hrec,zaj u22,zaj u23,zgc u9,zaf a25 z25,za7 a9,zab a22,zab a23,zab a9]
    exact ⟨by simp,hq⟩
theorem z6r:∀ (x0:Node) (x1:Int) r,zfl x0 x1=some r→callW Try.prog A0 31 [.p (.agg (zag x0)),iv x1] []=some (.p (.v (.int .i64 r)),[]):=by
 have key:∀ n (x0:Node) (x1:Int) r,zcz x0 x1<n→zfl x0 x1=some r→callW Try.prog A0 31 [.p (.agg (zag x0)),iv x1] []=some (.p (.v (.int .i64 r)),[]):=by
  intro n
  induction n with
  | zero=>intro x0 x1 r h;omega
  | succ n ih =>
   intro x0 x1 r hn h
   refine yje (rec:=fun x0' x1'=>if zcz x0' x1'<zcz x0 x1 then zfl x0' x1' else none) ?_ x0 x1 r (zqf x0 x1 r h)
   intro x0' x1' r' h'
   by_cases hm:zcz x0' x1'<zcz x0 x1
   ·rw [if_pos hm] at h';exact ih x0' x1' r' (by omega) h'
   ·rw [if_neg hm] at h';cases h'
 intro x0 x1 r h
 exact key _ x0 x1 r (Nat.lt_succ_self _) h
def ls9:=@zcn
theorem c31_1 {H:List Ob}{a1:Node}{a2:Int}{r:Int} (h:zfl a1 a2=some r):callD (callW Try.prog A0) A0 H 31 [.p (.agg (zag a1)),iv a2]=some (.p (.v (.int .i64 r)),none) :=
 zbp (args:=[.agg (zag a1),.v (.int .i64 a2)]) rfl rfl rfl (by simp only [List.map_cons,List.map_nil,wk,wks,wkL];exact z6r a1 a2 _ h)
theorem f9_ok  (x0:Node) (x1:Int) (x2:Int) (x3:Int) (r:Bool) (h:zjg x0 x1 x2 x3=some r):callW Try.prog A0 9 [.p (.agg (zag x0)),iv x1,iv x2,iv x3] []=some (.p (.v (.bool r)),[]):=by
 refine zax (fn:=Try.f9) (c:=zae Try.f9) 15 rfl rfl (by kernel_rfl) (by kernel_rfl) (by kernel_rfl) ?_
 unfold zjg at h;unfold zae Try.f9;simp only [ens]
 revert h
 repeat' first | (with_reducible refine gB fun _ _=>?_) | (with_reducible refine gT (fun _ _=>?_) (fun _ _=>?_))
 all_goals
  intro h;obtain rfl:=Option.some.inj h
  first | (simp (maxSteps:=10000000) (implicitDefEqProofs:=false) (disch:=first | with_reducible assumption | exact rfl | exact im_ _ | (fail_if_success show Kn _ _);omega) only [bs,rs9,ls9,Nat.reduceAdd,↓reduceIte,c30_0,c31_1,zah a25 z25];refine ⟨by simp, ?_⟩;exact zco rfl rfl rfl rfl) | (exfalso;omega)
def ls46:=And.intro @zox (And.intro @zs7 (And.intro @zha (And.intro @zhg (And.intro @zff (And.intro @ze2 (@zcn))))))
theorem zl7 {rec:(List Node)→Node→Option (List Node)} (hrec:∀ x0 x1 r,rec x0 x1=some r→callW Try.prog A0 46 [.ref 0 0 x0.length 4,.p (.agg (zag x1))] [.arr (encL en_Node x0)]=some (.ref 1 0 r.length 4,[.dead,.arr (encL en_Node r)])) {H:List Ob}{id n:Nat}{b1 b2:Bool}{x0:(List Node)}{x1:Node}{r:(List Node)}:H[id]?=some (.arr (encL en_Node x0))→n=x0.length→∀ (h:rec x0 x1=some r),callD (callW Try.prog A0) A0 H 46 [.ref id 0 n 4,.p (.agg [.v (.int .i64 x1.Kind),.v (.string x1.Text),.lst b1 x1.Gaps.length (encL zdn x1.Gaps),.lst b2 x1.Kids.length (encL en_Node x1.Kids)])]=some (.ref H.length 0 r.length 4,some (H.set id .dead++[.arr (encL en_Node r)])):=by
 intro hid hn h;subst hn;exact zrq (args:=[.agg (zag x1)]) (by simp only [List.map_cons,List.map_nil,wkDv,wk,wks,wkL]) rfl hid (hrec x0 x1 _ h)
theorem c9_0 {H:List Ob}{a1:Node}{a2 a3 a4:Int}{r:Bool} (h:zjg a1 a2 a3 a4=some r):callD (callW Try.prog A0) A0 H 9 [.p (.agg (zag a1)),iv a2,iv a3,iv a4]=some (.p (.v (.bool r)),none) :=
 zbp (args:=[.agg (zag a1),.v (.int .i64 a2),.v (.int .i64 a3),.v (.int .i64 a4)]) rfl rfl rfl (by simp only [List.map_cons,List.map_nil,wk,wks,wkL];exact f9_ok a1 a2 a3 a4 _ h)
theorem q46_0 {rec:(List Node)→Node→Option (List Node)} (hrec:∀ x0 x1 r,rec x0 x1=some r→callW Try.prog A0 46 [.ref 0 0 x0.length 4,.p (.agg (zag x1))] [.arr (encL en_Node x0)]=some (.ref 1 0 r.length 4,[.dead,.arr (encL en_Node r)])) {a1:List Node}{a2:Node}{r9001:(List Node)}{X2:Ob} (h9002:rec a1 a2=some r9001):callD (callW Try.prog A0) A0 [.dead,.arr (encL en_Node a1),X2] 46 [.ref 1 0 a1.length 4,.p (.agg (zag a2))]=some (.ref 3 0 r9001.length 4,some [.dead,.dead,X2,.arr (encL en_Node r9001)]):=zl7 hrec (H:=[.dead,.arr (encL en_Node a1),X2]) (id:=1) rfl (by first | rfl | omega) h9002
theorem q46_1 {rec:(List Node)→Node→Option (List Node)} (hrec:∀ x0 x1 r,rec x0 x1=some r→callW Try.prog A0 46 [.ref 0 0 x0.length 4,.p (.agg (zag x1))] [.arr (encL en_Node x0)]=some (.ref 1 0 r.length 4,[.dead,.arr (encL en_Node r)])) {a1:List Node}{a2:Node}{r9001:(List Node)}{X1:Ob} (h9002:rec a1 a2=some r9001):callD (callW Try.prog A0) A0 [.arr (encL en_Node a1),X1] 46 [.ref 0 0 a1.length 4,.p (.agg (zag a2))]=some (.ref 2 0 r9001.length 4,some [.dead,X1,.arr (encL en_Node r9001)]):=zl7 hrec (H:=[.arr (encL en_Node a1),X1]) (id:=0) rfl (by first | rfl | omega) h9002
noncomputable def L46_0:Code:=(zal (zae Try.f46)).getD 0 .skip
def g46_0:List Ghost:=[.keep [0,3,5]]
noncomputable def F46_0 (w2_0:Int) (w2_1:ByteArray) (w2_2:(List ByteArray)) (w2_3:(List Node)):(Int×(List Node))→St:=fun (s5,y1)=>⟨[.ref 1 0 y1.length 4,J,J,.ptr 2 0,J,iv s5,J,J,J,J,J,J,J,J,J,J,J,J,J,J,J,J,J,J,J],[.dead,.arr (encL en_Node y1),.var [iv w2_0,.p (.v (.string w2_1)),.p (.lst false w2_2.length (encL zdn w2_2)),.p (.lst false w2_3.length (encL en_Node w2_3))]],1⟩
theorem z5s {rec:(List Node)→Node→Option (List Node)} (hrec:∀ x0 x1 r,rec x0 x1=some r→callW Try.prog A0 46 [.ref 0 0 x0.length 4,.p (.agg (zag x1))] [.arr (encL en_Node x0)]=some (.ref 1 0 r.length 4,[.dead,.arr (encL en_Node r)])) (w2_0:Int) (w2_1:ByteArray) (w2_2:(List ByteArray)) (w2_3:(List Node)):∀ s st o,zak g46_0 st=some (F46_0 w2_0 w2_1 w2_2 w2_3 s)→iter (zgd rec w2_0 w2_1 w2_2 w2_3) s=some o →
    Wp (evW Try.prog A0 46 (.loop L46_0) st) (OutQ (F46_0 w2_0 w2_1 w2_2 w2_3) g46_0 (fun n s st=>n=0∧zak [.keep [0,3,5]] st=some (F46_0 w2_0 w2_1 w2_2 w2_3 s)) (fun r st=>zap Try.prog A0 46 Try.f46 st=some (.ref 1 0 r.length 4,[.dead,.arr (encL en_Node r)])) o):=by
 refine Wp.iter ?_
 intro s st o hg h
 obtain ⟨s5,y1⟩:=s
 unfold zgd at h;unfold g46_0 F46_0 at hg ⊢
 (try simp only [] at h hg)
 unfold L46_0 zae Try.f46;simp only [zal,ens]
 revert h
 repeat' first | (with_reducible refine gR fun _ _ _ _=>?_) | (with_reducible refine gB fun _ _=>?_) | (with_reducible refine gI (fun _ _=>?_) (fun _ _=>?_))
 all_goals
  intro h;obtain rfl:=Option.some.inj h
  first | (simp (maxSteps:=10000000) (implicitDefEqProofs:=false) (disch:=first | with_reducible assumption | exact rfl | exact im_ _ | (fail_if_success show Kn _ _);omega) only [bs,rs46,ls46,Nat.reduceAdd,↓reduceIte,zaj u23,zaf a25 z25,zah a25 z25,zab a23,zgg,q46_0 hrec,zdo,zd8,zbl,hg];first | (exact ⟨(rfl:Ex.normal=Ex.normal),by kernel_rfl⟩) | (exact ⟨(rfl:Ex.exit 0=Ex.exit 0),rfl,by kernel_rfl⟩)) | (exfalso;omega)
theorem ygk {rec:(List Node)→Node→Option (List Node)} (hrec:∀ x0 x1 r,rec x0 x1=some r→callW Try.prog A0 46 [.ref 0 0 x0.length 4,.p (.agg (zag x1))] [.arr (encL en_Node x0)]=some (.ref 1 0 r.length 4,[.dead,.arr (encL en_Node r)]))  (x0:(List Node)) (x1:Node) (r:(List Node)) (h:R06_list.body rec x0 x1=some r):callW Try.prog A0 46 [.ref 0 0 x0.length 4,.p (.agg (zag x1))] [.arr (encL en_Node x0)]=some (.ref 1 0 r.length 4,[.dead,.arr (encL en_Node r)]):=by
 refine zax (fn:=Try.f46) (c:=zae Try.f46) 23 rfl rfl (by kernel_rfl) (by kernel_rfl) (by kernel_rfl) ?_
 unfold R06_list.body at h;unfold zae Try.f46;simp only [ens]
 revert h
 refine gW fun h2=>?_
 have h1:∀ (H:List Ob) (id:Nat),apOb H id 0 x0.length 1 4 4 72 [.v (.int .i64 x1.Kind),.v (.string x1.Text),.lst false x1.Gaps.length (encL zdn x1.Gaps),.lst false x1.Kids.length (encL en_Node x1.Kids)] (some (.arr (encL en_Node x0)))=some (.ref H.length 0 (x0++[x1]).length 4,H.set id .dead++[.arr (encL en_Node (x0++[x1]))]):=fun H id=>zm4 (y:=[x1]) zfu (by first | rfl | omega) rfl (by first | (simp only [zce,zgk,zec,List.cons_append,List.nil_append];done) | (simp only [zce,zgk,zec,List.cons_append,List.nil_append];rfl) | rfl) (by assumption)
 refine gB fun o h10=>?_
 intro h
 simp (maxSteps:=10000000) (implicitDefEqProofs:=false) (disch:=first | with_reducible assumption | exact rfl | exact im_ _ | (fail_if_success show Kn _ _);omega) only [bs,rs46,ls46,Nat.reduceAdd,↓reduceIte,zaj u23,zaf a25 z25,zah a25 z25,zab a23,zgg,q46_0 hrec,zdo,zd8,zbl,h1]
 refine Wp.ctx (fun x=>seqW _ _ _ _ (za5 _ (x))) (z5s hrec x1.Kind x1.Text x1.Gaps x1.Kids ((0:Int),(x0++[x1])) _ o (by kernel_rfl) h10) ?_
 intro e st hq
 cases o with
 | next _=>(first | cases h | (simp at h))
 | jmp n_ s_ =>
  obtain ⟨rfl,rfl,hq⟩:=hq
  obtain ⟨s5_11,y1_11⟩:=s_
  unfold F46_0 at hq
  (try simp only [] at h hq)
  revert h
  intro h;obtain rfl:=Option.some.inj h
  simp (maxSteps:=10000000) (implicitDefEqProofs:=false) (disch:=first | with_reducible assumption | exact rfl | exact im_ _ | (fail_if_success show Kn _ _);omega) only [bs,rs46,ls46,Nat.reduceAdd,↓reduceIte,zaj u23,zaf a25 z25,zah a25 z25,zab a23,zgg,q46_0 hrec,zdo,zd8,zbl,h1,hq]
  refine ⟨by simp, ?_⟩;show _=_;kernel_rfl
 | ret _=>(first | cases h | (simp at h))
def ls46n:=And.intro @zox (And.intro @zs7 (And.intro @zha (And.intro @zhg (And.intro @zff (And.intro @ze2 (@zcn))))))
noncomputable def zuq (w1_0:Int) (w1_1:ByteArray) (w1_2:(List ByteArray)) (w1_3:(List Node)):(Int×(List Node))→St:=fun (s5,y0)=>⟨[.ref 0 0 y0.length 4,J,J,.ptr 1 0,J,iv s5,J,J,J,J,J,J,J,J,J,J,J,J,J,J,J,J,J,J,J],[.arr (encL en_Node y0),.var [iv w1_0,.p (.v (.string w1_1)),.p (.lst false w1_2.length (encL zdn w1_2)),.p (.lst false w1_3.length (encL en_Node w1_3))]],0⟩
theorem z3i {rec:(List Node)→Node→Option (List Node)} (hrec:∀ x0 x1 r,rec x0 x1=some r→callW Try.prog A0 46 [.ref 0 0 x0.length 4,.p (.agg (zag x1))] [.arr (encL en_Node x0)]=some (.ref 1 0 r.length 4,[.dead,.arr (encL en_Node r)])) (w1_0:Int) (w1_1:ByteArray) (w1_2:(List ByteArray)) (w1_3:(List Node)):∀ s st o,zak g46_0 st=some (zuq w1_0 w1_1 w1_2 w1_3 s)→iter (zgd rec w1_0 w1_1 w1_2 w1_3) s=some o →
    Wp (evW Try.prog A0 46 (.loop L46_0) st) (OutQ (zuq w1_0 w1_1 w1_2 w1_3) g46_0 (fun n s st=>n=0∧zak [.keep [0,3,5]] st=some (zuq w1_0 w1_1 w1_2 w1_3 s)) (fun r st=>zap Try.prog A0 46 Try.f46 st=some (.ref 0 0 r.length 4,[.arr (encL en_Node r)])) o):=by
 refine Wp.iter ?_
 intro s st o hg h
 obtain ⟨s5,y0⟩:=s
 unfold zgd at h;unfold g46_0 zuq at hg ⊢
 (try simp only [] at h hg)
 unfold L46_0 zae Try.f46;simp only [zal,ens]
 revert h
 repeat' first | (with_reducible refine gR fun _ _ _ _=>?_) | (with_reducible refine gB fun _ _=>?_) | (with_reducible refine gI (fun _ _=>?_) (fun _ _=>?_))
 all_goals
  intro h;obtain rfl:=Option.some.inj h
  first | (simp (maxSteps:=10000000) (implicitDefEqProofs:=false) (disch:=first | with_reducible assumption | exact rfl | exact im_ _ | (fail_if_success show Kn _ _);omega) only [bs,rs46,ls46n,Nat.reduceAdd,↓reduceIte,zaj u23,zaf a25 z25,zah a25 z25,zab a23,zgg,q46_1 hrec,zdo,zd8,zbl,hg];first | (exact ⟨(rfl:Ex.normal=Ex.normal),by kernel_rfl⟩) | (exact ⟨(rfl:Ex.exit 0=Ex.exit 0),rfl,by kernel_rfl⟩)) | (exfalso;omega)
theorem yb6 {rec:(List Node)→Node→Option (List Node)} (hrec:∀ x0 x1 r,rec x0 x1=some r→callW Try.prog A0 46 [.ref 0 0 x0.length 4,.p (.agg (zag x1))] [.arr (encL en_Node x0)]=some (.ref 1 0 r.length 4,[.dead,.arr (encL en_Node r)]))  (x0:(List Node)) (x1:Node) (hx0:x0=[]) (r:(List Node)) (h:R06_list.body rec x0 x1=some r):callW Try.prog A0 46 [.p (.lst true 0 []),.p (.agg (zag x1))] []=some (.ref 0 0 r.length 4,[.arr (encL en_Node r)]):=by
 refine zax (fn:=Try.f46) (c:=zae Try.f46) 23 rfl rfl (by kernel_rfl) (by kernel_rfl) (by kernel_rfl) ?_
 unfold R06_list.body at h;unfold zae Try.f46;simp only [ens]
 have hown:=zs3 (en:=en_Node) hx0 4
 revert h
 refine gW fun h2=>?_
 have h1:∀ (H:List Ob) (id:Nat),apOb H id 0 x0.length 1 4 4 72 [.v (.int .i64 x1.Kind),.v (.string x1.Text),.lst false x1.Gaps.length (encL zdn x1.Gaps),.lst false x1.Kids.length (encL en_Node x1.Kids)] (some (.arr (encL en_Node x0)))=some (.ref H.length 0 (x0++[x1]).length 4,H.set id .dead++[.arr (encL en_Node (x0++[x1]))]):=fun H id=>zm4 (y:=[x1]) zfu (by first | rfl | omega) rfl (by first | (simp only [zce,zgk,zec,List.cons_append,List.nil_append];done) | (simp only [zce,zgk,zec,List.cons_append,List.nil_append];rfl) | rfl) (by assumption)
 refine gB fun o h10=>?_
 intro h
 simp (maxSteps:=10000000) (implicitDefEqProofs:=false) (disch:=first | with_reducible assumption | exact rfl | exact im_ _ | (fail_if_success show Kn _ _);omega) only [bs,rs46,ls46n,Nat.reduceAdd,↓reduceIte,zaj u23,zaf a25 z25,zah a25 z25,zab a23,zgg,q46_1 hrec,zdo,zd8,zbl,hown,h1]
 refine Wp.ctx (fun x=>seqW _ _ _ _ (za5 _ (x))) (z3i hrec x1.Kind x1.Text x1.Gaps x1.Kids ((0:Int),(x0++[x1])) _ o (by kernel_rfl) h10) ?_
 intro e st hq
 cases o with
 | next _=>(first | cases h | (simp at h))
 | jmp n_ s_ =>
  obtain ⟨rfl,rfl,hq⟩:=hq
  obtain ⟨s5_11,y0_11⟩:=s_
  unfold zuq at hq
  (try simp only [] at h hq)
  revert h
  intro h;obtain rfl:=Option.some.inj h
  simp (maxSteps:=10000000) (implicitDefEqProofs:=false) (disch:=first | with_reducible assumption | exact rfl | exact im_ _ | (fail_if_success show Kn _ _);omega) only [bs,rs46,ls46n,Nat.reduceAdd,↓reduceIte,zaj u23,zaf a25 z25,zah a25 z25,zab a23,zgg,q46_1 hrec,zdo,zd8,zbl,hown,h1,hq]
  refine ⟨by simp, ?_⟩;show _=_;kernel_rfl
 | ret _=>(first | cases h | (simp at h))
theorem z68:∀ (x0:(List Node)) (x1:Node) r,zfg x0 x1=some r→callW Try.prog A0 46 [.ref 0 0 x0.length 4,.p (.agg (zag x1))] [.arr (encL en_Node x0)]=some (.ref 1 0 r.length 4,[.dead,.arr (encL en_Node r)]):=by
 have key:∀ n (x0:(List Node)) (x1:Node) r,zcf x0 x1<n→zfg x0 x1=some r→callW Try.prog A0 46 [.ref 0 0 x0.length 4,.p (.agg (zag x1))] [.arr (encL en_Node x0)]=some (.ref 1 0 r.length 4,[.dead,.arr (encL en_Node r)]):=by
  intro n
  induction n with
  | zero=>intro x0 x1 r h;omega
  | succ n ih =>
   intro x0 x1 r hn h
   refine ygk (rec:=fun x0' x1'=>if zcf x0' x1'<zcf x0 x1 then zfg x0' x1' else none) ?_ x0 x1 r (zl8 x0 x1 r h)
   intro x0' x1' r' h'
   by_cases hm:zcf x0' x1'<zcf x0 x1
   ·rw [if_pos hm] at h';exact ih x0' x1' r' (by omega) h'
   ·rw [if_neg hm] at h';cases h'
 intro x0 x1 r h
 exact key _ x0 x1 r (Nat.lt_succ_self _) h
theorem z0o (x1:Node) r (h:zfg ([]:List Node) x1=some r):callW Try.prog A0 46 [.p (.lst true 0 []),.p (.agg (zag x1))] []=some (.ref 0 0 r.length 4,[.arr (encL en_Node r)]):=by
 refine yb6 (rec:=fun x0' x1'=>if zcf x0' x1'<zcf ([]:List Node) x1 then zfg x0' x1' else none) ?_ ([]:List Node) x1 rfl r (zl8 ([]:List Node) x1 r h)
 intro x0' x1' r' h'
 by_cases hm:zcf x0' x1'<zcf ([]:List Node) x1
 ·rw [if_pos hm] at h';exact z68 x0' x1' r' h'
 ·rw [if_neg hm] at h';cases h'
theorem zqi {b1 b2:Bool}{H:List Ob}{x1:Node}{r:(List Node)} (h:zfg ([]:List Node) x1=some r):callD (callW Try.prog A0) A0 H 46 [.p (.lst true 0 []),.p (.agg [.v (.int .i64 x1.Kind),.v (.string x1.Text),.lst b1 x1.Gaps.length (encL zdn x1.Gaps),.lst b2 x1.Kids.length (encL en_Node x1.Kids)])]=some (.ref H.length 0 r.length 4,some (H++[.arr (encL en_Node r)])) :=
 zrm (args:=[.lst true 0 [],.agg (zag x1)]) (by simp only [List.map_cons,List.map_nil,wkDv,wk,wks,wkL]) rfl (z0o x1 _ h)
def ls22:=@zcn
theorem q46_2 {a1:Node}{H:List Ob}{r9001:(List Node)} (h9002:zfg ([]:List Node) a1=some r9001):callD (callW Try.prog A0) A0 H 46 [.p (.lst true 0 []),.p (.agg (zag a1))]=some (.ref H.length 0 r9001.length 4,some (H++[.arr (encL en_Node r9001)])):=zqi (H:=H) h9002
theorem yfr  (x0:Node) (r:(List Node)) (h:zkd x0=some r):callW Try.prog A0 22 [.p (.agg (zag x0))] []=some (.p (.lst false r.length (encL en_Node r)),[]):=by
 refine zax (fn:=Try.f22) (c:=zae Try.f22) 6 rfl rfl (by kernel_rfl) (by kernel_rfl) (by kernel_rfl) ?_
 unfold zkd at h;unfold zae Try.f22;simp only [ens]
 revert h
 repeat' (with_reducible refine gB fun _ _=>?_)
 intro h;obtain rfl:=Option.some.inj h
 simp (maxSteps:=10000000) (implicitDefEqProofs:=false) (disch:=first | with_reducible assumption | exact rfl | exact im_ _ | (fail_if_success show Kn _ _);omega) only [bs,rs22,ls22,Nat.reduceAdd,↓reduceIte,zah a25 z25,q46_2]
 refine ⟨by simp, ?_⟩;exact zj7 (l:=[1]) rfl rfl rfl (zi5 zfu rfl (by first | rfl | omega | simp)) (by first | rfl | (simp only [wk,wks,wkL];first | done | rfl))
def ls27:=And.intro @zha (And.intro @zhg (And.intro @zff (@ze2)))
theorem c22_0 {H:List Ob}{a1:Node}{r:(List Node)} (h:zkd a1=some r):callD (callW Try.prog A0) A0 H 22 [.p (.agg (zag a1))]=some (.p (.lst false r.length (encL en_Node r)),none) :=
 zbp (args:=[.agg (zag a1)]) rfl rfl rfl (by simp only [List.map_cons,List.map_nil,wk,wks,wkL];exact yfr a1 _ h)
theorem z4h {rec:Node→Option Int} (hrec:∀ x0 r,rec x0=some r→callW Try.prog A0 27 [.p (.agg (zag x0))] []=some (.p (.v (.int .i64 r)),[])) {H:List Ob}{a1:Node}{r:Int} (h:rec a1=some r):callD (callW Try.prog A0) A0 H 27 [.p (.agg (zag a1))]=some (.p (.v (.int .i64 r)),none) :=
 zbp (args:=[.agg (zag a1)]) rfl rfl rfl (by simp only [List.map_cons,List.map_nil,wk,wks,wkL];exact hrec a1 _ h)
noncomputable def L27_0:Code:=(zal (zae Try.f27)).getD 0 .skip
def g27_0:List Ghost:=[.keep [1,3,4]]
noncomputable def F27_0 (w0_0:Int) (w0_1:ByteArray) (w0_2:(List ByteArray)) (w0_3:(List Node)):(Int×Int)→St:=fun (s3,s4)=>⟨[J,.ptr 0 0,J,iv s3,iv s4,J,J,J,J,J,J,J,J,J,J,J,J,J,J,J,J],[.var [iv w0_0,.p (.v (.string w0_1)),.p (.lst false w0_2.length (encL zdn w0_2)),.p (.lst false w0_3.length (encL en_Node w0_3))]],0⟩
theorem z6g {rec:Node→Option Int} (hrec:∀ x0 r,rec x0=some r→callW Try.prog A0 27 [.p (.agg (zag x0))] []=some (.p (.v (.int .i64 r)),[])) (w0_0:Int) (w0_1:ByteArray) (w0_2:(List ByteArray)) (w0_3:(List Node)):∀ s st o,zak g27_0 st=some (F27_0 w0_0 w0_1 w0_2 w0_3 s)→iter (zia rec w0_0 w0_1 w0_2 w0_3) s=some o →
    Wp (evW Try.prog A0 27 (.loop L27_0) st) (OutQ (F27_0 w0_0 w0_1 w0_2 w0_3) g27_0 (fun n s st=>n=0∧zak [.keep [1,3,4]] st=some (F27_0 w0_0 w0_1 w0_2 w0_3 s)) (fun r st=>zap Try.prog A0 27 Try.f27 st=some (.p (.v (.int .i64 r)),[])) o):=by
 refine Wp.iter ?_
 intro s st o hg h
 obtain ⟨s3,s4⟩:=s
 unfold zia at h;unfold g27_0 F27_0 at hg ⊢
 (try simp only [] at h hg)
 unfold L27_0 zae Try.f27;simp only [zal,ens]
 revert h
 repeat' first | (with_reducible refine gR fun _ _ _ _=>?_) | (with_reducible refine gB fun _ _=>?_) | (with_reducible refine gI (fun _ _=>?_) (fun _ _=>?_))
 all_goals
  intro h;obtain rfl:=Option.some.inj h
  first | (simp (maxSteps:=10000000) (implicitDefEqProofs:=false) (disch:=first | with_reducible assumption | exact rfl | exact im_ _ | (fail_if_success show Kn _ _);omega) only [bs,rs27,ls27,Nat.reduceAdd,↓reduceIte,z4h hrec,zaj u23,zaf a25 z25,zab a23,hg];first | (exact ⟨(rfl:Ex.normal=Ex.normal),by kernel_rfl⟩) | (exact ⟨(rfl:Ex.exit 0=Ex.exit 0),rfl,by kernel_rfl⟩)) | (exfalso;omega)
theorem ygo {rec:Node→Option Int} (hrec:∀ x0 r,rec x0=some r→callW Try.prog A0 27 [.p (.agg (zag x0))] []=some (.p (.v (.int .i64 r)),[]))  (x0:Node) (r:Int) (h:R06_Size.body rec x0=some r):callW Try.prog A0 27 [.p (.agg (zag x0))] []=some (.p (.v (.int .i64 r)),[]):=by
 refine zax (fn:=Try.f27) (c:=zae Try.f27) 20 rfl rfl (by kernel_rfl) (by kernel_rfl) (by kernel_rfl) ?_
 unfold R06_Size.body at h;unfold zae Try.f27;simp only [ens]
 revert h
 refine gB fun o h8=>?_
 intro h
 simp (maxSteps:=10000000) (implicitDefEqProofs:=false) (disch:=first | with_reducible assumption | exact rfl | exact im_ _ | (fail_if_success show Kn _ _);omega) only [bs,rs27,ls27,Nat.reduceAdd,↓reduceIte,z4h hrec,zaj u23,zaf a25 z25,zab a23]
 refine Wp.ctx (fun x=>seqW _ _ _ _ (za5 _ (x))) (z6g hrec x0.Kind x0.Text x0.Gaps x0.Kids ((1:Int),(0:Int)) _ o (by kernel_rfl) h8) ?_
 intro e st hq
 cases o with
 | next _=>(first | cases h | (simp at h))
 | jmp n_ s_ =>
  obtain ⟨rfl,rfl,hq⟩:=hq
  obtain ⟨s3_9,s4_9⟩:=s_
  unfold F27_0 at hq
  (try simp only [] at h hq)
  revert h
  intro h;obtain rfl:=Option.some.inj h
  simp (maxSteps:=10000000) (implicitDefEqProofs:=false) (disch:=first | with_reducible assumption | exact rfl | exact im_ _ | (fail_if_success show Kn _ _);omega) only [bs,rs27,ls27,Nat.reduceAdd,↓reduceIte,z4h hrec,zaj u23,zaf a25 z25,zab a23,hq]
  refine ⟨by simp, ?_⟩;exact zco rfl rfl rfl rfl
 | ret _=>(first | cases h | (simp at h))
theorem z6s:∀ (x0:Node) r,zgs x0=some r→callW Try.prog A0 27 [.p (.agg (zag x0))] []=some (.p (.v (.int .i64 r)),[]):=by
 have key:∀ n (x0:Node) r,zfb x0<n→zgs x0=some r→callW Try.prog A0 27 [.p (.agg (zag x0))] []=some (.p (.v (.int .i64 r)),[]):=by
  intro n
  induction n with
  | zero=>intro x0 r h;omega
  | succ n ih =>
   intro x0 r hn h
   refine ygo (rec:=fun x0'=>if zfb x0'<zfb x0 then zgs x0' else none) ?_ x0 r (zqk x0 r h)
   intro x0' r' h'
   by_cases hm:zfb x0'<zfb x0
   ·rw [if_pos hm] at h';exact ih x0' r' (by omega) h'
   ·rw [if_neg hm] at h';cases h'
 intro x0 r h
 exact key _ x0 r (Nat.lt_succ_self _) h
def ls23:=And.intro @z7l (And.intro @ybv (And.intro @zhg (@zff)))
theorem c27_1 {H:List Ob}{a1:Node}{r:Int} (h:zgs a1=some r):callD (callW Try.prog A0) A0 H 27 [.p (.agg (zag a1))]=some (.p (.v (.int .i64 r)),none) :=
 zbp (args:=[.agg (zag a1)]) rfl rfl rfl (by simp only [List.map_cons,List.map_nil,wk,wks,wkL];exact z6s a1 _ h)
noncomputable def L23_0:Code:=(zal (zae Try.f23)).getD 0 .skip
def g23_0:List Ghost:=[.own 3 1,.weak [0],.keep [0,3,4]]
noncomputable def F23_0 (s0:(List Node)):(Int×(List Int))→St:=fun (s4,y0)=>⟨[.p (.lst false s0.length (encL en_Node s0)),J,J,.ref 0 0 y0.length 1,iv s4,J,J,J,J,J,J,J,J,J,J,J,J,J,J,J],[.arr (encL zad y0)],0⟩
theorem z7m (s0:(List Node)):∀ s st o,zak g23_0 st=some (F23_0 s0 s)→iter (zhp s0) s=some o →
    Wp (evW Try.prog A0 23 (.loop L23_0) st) (OutQ (F23_0 s0) g23_0 (fun n s st=>n=0∧zak [.keep [0,3,4]] st=some (F23_0 s0 s)) (fun r st=>zap Try.prog A0 23 Try.f23 st=some (.p (.lst false r.length (encL zad r)),[])) o):=by
 refine Wp.iter ?_
 intro s st o hg h
 obtain ⟨s4,y0⟩:=s
 unfold zhp at h;unfold g23_0 F23_0 at hg ⊢
 (try simp only [] at h hg)
 unfold L23_0 zae Try.f23;simp only [zal,ens]
 revert h
 refine gI (fun h1 _=>?_) (fun h1 _=>?_)
 ·refine gR fun v2 h3 h3a h3b=>?_
  refine gB fun r5 h6=>?_
  refine gW fun h9=>?_
  have h8:∀ (H:List Ob) (id:Nat),apOb H id 0 y0.length 1 1 1 8 [.v (.int .i64 r5)] (some (.arr (encL zad y0)))=some (.ref H.length 0 (y0++[r5]).length 1,H.set id .dead++[.arr (encL zad (y0++[r5]))]):=fun H id=>zm4 (y:=[r5]) zf3 (by first | rfl | omega) rfl (by first | (simp only [zce,zgk,zik,List.cons_append,List.nil_append];done) | (simp only [zce,zgk,zik,List.cons_append,List.nil_append];rfl) | rfl) (by assumption)
  intro h;obtain rfl:=Option.some.inj h
  simp (maxSteps:=10000000) (implicitDefEqProofs:=false) (disch:=first | with_reducible assumption | exact rfl | exact im_ _ | (fail_if_success show Kn _ _);omega) only [bs,rs23,ls23,Nat.reduceAdd,↓reduceIte,c27_1,zaj u23,zaf a25 z25,zbl,hg,h8]
  exact ⟨(rfl:Ex.normal=Ex.normal),by kernel_rfl⟩
 ·intro h;obtain rfl:=Option.some.inj h
  simp (maxSteps:=10000000) (implicitDefEqProofs:=false) (disch:=first | with_reducible assumption | exact rfl | exact im_ _ | (fail_if_success show Kn _ _);omega) only [bs,rs23,ls23,Nat.reduceAdd,↓reduceIte,c27_1,zaj u23,zaf a25 z25,zbl,hg]
  exact ⟨(rfl:Ex.exit 0=Ex.exit 0),rfl,by kernel_rfl⟩
theorem yhi  (x0:(List Node)) (r:(List Int)) (h:zj4 x0=some r):callW Try.prog A0 23 [.p (.lst false x0.length (encL en_Node x0))] []=some (.p (.lst false r.length (encL zad r)),[]):=by
 refine zax (fn:=Try.f23) (c:=zae Try.f23) 19 rfl rfl (by kernel_rfl) (by kernel_rfl) (by kernel_rfl) ?_
 unfold zj4 at h;unfold zae Try.f23;simp only [ens]
 revert h
 refine gB fun o h10=>?_
 intro h
 simp (maxSteps:=10000000) (implicitDefEqProofs:=false) (disch:=first | with_reducible assumption | exact rfl | exact im_ _ | (fail_if_success show Kn _ _);omega) only [bs,rs23,ls23,Nat.reduceAdd,↓reduceIte,c27_1,zaj u23,zaf a25 z25,zbl]
 refine Wp.ctx (fun x=>seqW _ _ _ _ (za5 _ (x))) (z7m x0 ((0:Int),([]:List Int)) _ o (by kernel_rfl) h10) ?_
 intro e st hq
 cases o with
 | next _=>(first | cases h | (simp at h))
 | jmp n_ s_ =>
  obtain ⟨rfl,rfl,hq⟩:=hq
  obtain ⟨s4_11,y0_11⟩:=s_
  unfold F23_0 at hq
  (try simp only [] at h hq)
  revert h
  intro h;obtain rfl:=Option.some.inj h
  simp (maxSteps:=10000000) (implicitDefEqProofs:=false) (disch:=first | with_reducible assumption | exact rfl | exact im_ _ | (fail_if_success show Kn _ _);omega) only [bs,rs23,ls23,Nat.reduceAdd,↓reduceIte,c27_1,zaj u23,zaf a25 z25,zbl,hq]
  refine ⟨by simp, ?_⟩;exact zj7 (l:=[0]) rfl rfl rfl (zi5 zf3 rfl (by first | rfl | omega | simp)) (by first | rfl | (simp only [wk,wks,wkL];first | done | rfl))
 | ret _=>(first | cases h | (simp at h))
theorem r42_0 {o d s}:RG 42 0 [] o d s:=zaa
theorem r42_1 {o d s}:RG 42 1 [] o d s:=zaa
theorem r90_0 {o d s}:RG 90 0 [] o d s:=zaa
theorem r90_1 {o d s}:RG 90 1 [] o d s:=zaa
theorem r90_2 {o d s}:RG 90 2 [.keep [1,2,3,4,8]] o d s:=zaa
theorem r90_4 {o d s}:RG 90 4 [] o d s:=zaa
theorem r90_3 {o d s}:RG 90 3 [] o d s:=zaa
theorem r84_0 {o d s}:RG 84 0 [] o d s:=zaa
theorem r84_1 {o d s}:RG 84 1 [] o d s:=zaa
theorem r84_2 {o d s}:RG 84 2 [] o d s:=zaa
theorem r84_3 {o d s}:RG 84 3 [.keep [2,4,8,9]] o d s:=zaa
theorem r84_4 {o d s}:RG 84 4 [] o d s:=zaa
theorem r84_5 {o d s}:RG 84 5 [] o d s:=zaa
theorem r84_6 {o d s}:RG 84 6 [] o d s:=zaa
theorem r84_7 {o d s}:RG 84 7 [] o d s:=zaa
theorem r84_8 {o d s}:RG 84 8 [] o d s:=zaa
theorem r84_9 {o d s}:RG 84 9 [.keep [2,4,8,9]] o d s:=zaa
theorem r74_0 {o d s}:RG 74 0 [] o d s:=zaa
theorem r74_1 {o d s}:RG 74 1 [] o d s:=zaa
theorem r74_2 {o d s}:RG 74 2 [] o d s:=zaa
theorem r74_3 {o d s}:RG 74 3 [] o d s:=zaa
theorem r74_4 {o d s}:RG 74 4 [.keep [1,4,8,9]] o d s:=zaa
theorem r74_5 {o d s}:RG 74 5 [] o d s:=zaa
theorem r74_6 {o d s}:RG 74 6 [] o d s:=zaa
theorem r74_7 {o d s}:RG 74 7 [] o d s:=zaa
theorem r74_8 {o d s}:RG 74 8 [] o d s:=zaa
theorem r74_9 {o d s}:RG 74 9 [.keep [1,4,8,9]] o d s:=zaa
theorem yfm {o d s}:RG 74 10 [.keep [4,8,11]] o d s:=zaa
theorem yds {o d s}:RG 74 12 [] o d s:=zaa
theorem yf1 {o d s}:RG 74 11 [] o d s:=zaa
theorem ygt {o d s}:RG 74 13 [] o d s:=zaa
theorem yjp {o d s}:RG 74 14 [] o d s:=zaa
theorem yi8 {o d s}:RG 74 15 [] o d s:=zaa
theorem yia {o d s}:RG 74 16 [.keep [2,4,12,13]] o d s:=zaa
theorem yhf {o d s}:RG 74 17 [] o d s:=zaa
theorem yib {o d s}:RG 74 18 [] o d s:=zaa
theorem yhw {o d s}:RG 74 19 [] o d s:=zaa
theorem yis {o d s}:RG 74 20 [] o d s:=zaa
theorem ydo {o d s}:RG 74 21 [.keep [2,4,12,13]] o d s:=zaa
theorem yjk {o d s}:RG 74 22 [.keep [4,12,15]] o d s:=zaa
theorem yjl {o d s}:RG 74 24 [] o d s:=zaa
theorem yh5 {o d s}:RG 74 23 [] o d s:=zaa
theorem yem {o d s}:RG 74 25 [] o d s:=zaa
theorem yjq {o d s}:RG 74 26 [] o d s:=zaa
theorem ygc {o d s}:RG 74 27 [] o d s:=zaa
theorem yeq {o d s}:RG 74 28 [] o d s:=zaa
theorem yd6 {o d s}:RG 74 29 [] o d s:=zaa
theorem yjo {o d s}:RG 74 30 [] o d s:=zaa
theorem yd7 {o d s}:RG 74 31 [] o d s:=zaa
theorem yfw {o d s}:RG 74 32 [] o d s:=zaa
theorem ye8 {o d s}:RG 74 33 [] o d s:=zaa
theorem ygz {o d s}:RG 74 34 [.keep [1,2,3,4,16,17,18,19,20]] o d s:=zaa
theorem yho {o d s}:RG 74 35 [] o d s:=zaa
theorem yf8 {o d s}:RG 74 36 [] o d s:=zaa
theorem yif {o d s}:RG 74 37 [] o d s:=zaa
theorem ygd {o d s}:RG 74 38 [] o d s:=zaa
theorem yhc {o d s}:RG 74 39 [.keep [1,2,3,4,16,17,18,19,20]] o d s:=zaa
theorem yjt {o d s}:RG 74 40 [] o d s:=zaa
theorem yir {o d s}:RG 74 41 [] o d s:=zaa
theorem ydr {o d s}:RG 74 42 [] o d s:=zaa
theorem ydv {o d s}:RG 74 43 [] o d s:=zaa
theorem yhm {o d s}:RG 74 44 [] o d s:=zaa
theorem yfj {o d s}:RG 74 45 [] o d s:=zaa
theorem r57_0 {o d s}:RG 57 0 [] o d s:=zaa
theorem r57_1 {o d s}:RG 57 1 [] o d s:=zaa
theorem r57_2 {o d s}:RG 57 2 [] o d s:=zaa
theorem r57_3 {o d s}:RG 57 3 [.keep [1,2,4,5,6]] o d s:=zaa
theorem r57_4 {o d s}:RG 57 4 [] o d s:=zaa
theorem r57_5 {o d s}:RG 57 5 [] o d s:=zaa
theorem r57_6 {o d s}:RG 57 6 [] o d s:=zaa
theorem r57_7 {o d s}:RG 57 7 [.keep [1,2,4,5,6]] o d s:=zaa
theorem r57_8 {o d s}:RG 57 8 [.keep [1,2,4]] o d s:=zaa
theorem r57_9 {o d s}:RG 57 9 [] o d s:=zaa
theorem yh2 {o d s}:RG 57 10 [.keep [1,2,4,5,6]] o d s:=zaa
theorem ygv {o d s}:RG 57 11 [] o d s:=zaa
theorem yew {o d s}:RG 57 12 [] o d s:=zaa
theorem ye4 {o d s}:RG 57 13 [] o d s:=zaa
theorem yff {o d s}:RG 57 14 [.keep [1,2,4,5,6]] o d s:=zaa
theorem yie {o d s}:RG 57 15 [] o d s:=zaa
theorem yg2 {o d s}:RG 57 16 [] o d s:=zaa
theorem yjj {o d s}:RG 57 17 [] o d s:=zaa
theorem r41_0 {o d s}:RG 41 0 [] o d s:=zaa
theorem r41_1 {o d s}:RG 41 1 [] o d s:=zaa
theorem r41_2 {o d s}:RG 41 2 [] o d s:=zaa
set_option linter.defProp false in
def rs42:=And.intro @r42_0 (@r42_1)
set_option linter.defProp false in
def rs90:=And.intro @r90_0 (And.intro @r90_1 (And.intro @r90_2 (And.intro @r90_4 (@r90_3))))
set_option linter.defProp false in
def rs84:=And.intro @r84_0 (And.intro @r84_1 (And.intro @r84_2 (And.intro @r84_3 (And.intro @r84_4 (And.intro @r84_5 (And.intro @r84_6 (And.intro @r84_7 (And.intro @r84_8 (@r84_9)))))))))
set_option linter.defProp false in
def rs74:=And.intro @r74_0 (And.intro @r74_1 (And.intro @r74_2 (And.intro @r74_3 (And.intro @r74_4 (And.intro @r74_5 (And.intro @r74_6 (And.intro @r74_7 (And.intro @r74_8 (And.intro @r74_9 (And.intro @yfm (And.intro @yds (And.intro @yf1 (And.intro @ygt (And.intro @yjp (And.intro @yi8 (And.intro @yia (And.intro @yhf (And.intro @yib (And.intro @yhw (And.intro @yis (And.intro @ydo (And.intro @yjk (And.intro @yjl (And.intro @yh5 (And.intro @yem (And.intro @yjq (And.intro @ygc (And.intro @yeq (And.intro @yd6 (And.intro @yjo (And.intro @yd7 (And.intro @yfw (And.intro @ye8 (And.intro @ygz (And.intro @yho (And.intro @yf8 (And.intro @yif (And.intro @ygd (And.intro @yhc (And.intro @yjt (And.intro @yir (And.intro @ydr (And.intro @ydv (And.intro @yhm (@yfj)))))))))))))))))))))))))))))))))))))))))))))
set_option linter.defProp false in
def rs57:=And.intro @r57_0 (And.intro @r57_1 (And.intro @r57_2 (And.intro @r57_3 (And.intro @r57_4 (And.intro @r57_5 (And.intro @r57_6 (And.intro @r57_7 (And.intro @r57_8 (And.intro @r57_9 (And.intro @yh2 (And.intro @ygv (And.intro @yew (And.intro @ye4 (And.intro @yff (And.intro @yie (And.intro @yg2 (@yjj)))))))))))))))))
set_option linter.defProp false in
def rs41:=And.intro @r41_0 (And.intro @r41_1 (@r41_2))
def ls42Z:=And.intro @z0m (And.intro @zww (And.intro @z4z (@zlb)))
theorem ycz  (x0:Int) (x1:Int) (o0:(List Int)) (o2:(List Int)) (r:Bool) (h:ze6 x0 x1 o0 o2=some r):callW Try.prog A0 42 [iv x0,iv x1,.ptr 0 0,.ptr 1 0] [.var [.p (.lst false o0.length (encL zad o0))],.var [.ref 2 0 o2.length 1],.arr (encL zad o2)]=some (.p (.v (.bool r)),[.var [.p (.lst false o0.length (encL zad o0))],.var [.ref 2 0 o2.length 1],.arr (encL zad o2)]):=by
 refine zax (fn:=Try.f42) (c:=zae Try.f42) 18 rfl rfl (by kernel_rfl) (by kernel_rfl) (by kernel_rfl) ?_
 unfold ze6 at h;unfold zae Try.f42;simp only [ens]
 revert h
 repeat' (with_reducible refine gR fun _ _ _ _=>?_)
 intro h;obtain rfl:=Option.some.inj h
 simp (maxSteps:=10000000) (implicitDefEqProofs:=false) (disch:=first | with_reducible assumption | exact rfl | exact im_ _ | (fail_if_success show Kn _ _);omega) only [bs,rs42,ls42Z,Nat.reduceAdd,↓reduceIte,za7 a3,zab a3,zab a40]
 refine ⟨by simp, ?_⟩;show _=_;kernel_rfl
def ls73Z:=And.intro @zix (And.intro @zhu (And.intro @zfv (@ze0)))
theorem zgj {a1:List Int}{a2 a3:Int}{r9003:_}{X0 X1 X3:Ob} (h9001:swapL a2 a3 a1=some r9003):callD (callW Try.prog A0) A0 [X0,X1,.arr (encL zad a1),X3] 68 [iv a2,iv a3,.ref 2 0 a1.length 1,.p (.v (typeHandle Try.prog 3))]=some (.p (.tup []),some [X0,X1,.arr (encL zad r9003),X3]):=(zbe (dsw:=[iv a2,iv a3,.ref 2 0 a1.length 1,.p (.v (typeHandle Try.prog 3))]) (ds':=[iv a2,iv a3,.ref 0 0 a1.length 1,.p (.v (typeHandle Try.prog 3))]) (i:=2) (ids:=[]) (o:=.arr (encL zad a1)) (os:=[]) (o':=.arr (encL zad r9003)) (os':=[]) rfl (by kernel_rfl) (by kernel_rfl) (by kernel_rfl) (by kernel_rfl) (by kernel_rfl) (zt9 h9001) rfl rfl).trans (by kernel_rfl)
theorem zg8 {a1 a3:List Int}{a4 a5:Int}{r9001:Bool}{X3:Ob} (h9002:ze6 a4 a5 a3 a1=some r9001):callD (callW Try.prog A0) A0 [.var [.p (.lst false a3.length (encL zad a3))],.var [.ref 2 0 a1.length 1],.arr (encL zad a1),X3] 42 [iv a4,iv a5,.ptr 0 0,.ptr 1 0]=some (.p (.v (.bool r9001)),some [.var [.p (.lst false a3.length (encL zad a3))],.var [.ref 2 0 a1.length 1],.arr (encL zad a1),X3]):=(zbe (dsw:=[iv a4,iv a5,.ptr 0 0,.ptr 1 0]) (ds':=[iv a4,iv a5,.ptr 0 0,.ptr 1 0]) (i:=0) (ids:=[1,2]) (o:=.var [.p (.lst false a3.length (encL zad a3))]) (os:=[.var [.ref 2 0 a1.length 1],.arr (encL zad a1)]) (o':=.var [.p (.lst false a3.length (encL zad a3))]) (os':=[.var [.ref 2 0 a1.length 1],.arr (encL zad a1)]) rfl (by kernel_rfl) (by kernel_rfl) (by kernel_rfl) (by kernel_rfl) (by kernel_rfl) (ycz _ _ _ _ _ h9002) rfl rfl).trans (by kernel_rfl)
noncomputable def yas:Code:=(zal (zae Try.f73)).getD 1 .skip
def z5h:List Ghost:=[.keep [1,2,3,6,7]]
noncomputable def ztw (s1:Int) (s2:Int) (s6:Int) (w0_0:(List Int)):(Int×(List Int))→St:=fun (s7,y2)=>⟨[J,iv s1,iv s2,.ptr 3 0,J,J,iv s6,iv s7,J,J,J,J,J,J,J,J,J,J,J,J,J,J,J,J,J,J,J,J,J,J,J,J,J,J,J],[.var [.p (.lst false w0_0.length (encL zad w0_0))],.var [.ref 2 0 y2.length 1],.arr (encL zad y2),.var [.fn (.func 42) [.ptr 0 0,.ptr 1 0],sw68 2 y2.length]],3⟩
theorem z26 (s1:Int) (s2:Int) (s6:Int) (w0_0:(List Int)):∀ s st o,zak z5h st=some (ztw s1 s2 s6 w0_0 s)→iter (zcc s1 s2 s6 w0_0) s=some o →
    Wp (evW Try.prog A0 73 (.loop yas) st) (OutQ (ztw s1 s2 s6 w0_0) z5h (fun n s st=>n=2∧zak [.keep [1,2,3,6,7]] st=some (ztw s1 s2 s6 w0_0 s)) (fun r st=>zap Try.prog A0 73 Try.f73 st=some (.p (.tup []),[.var [.p (.lst false r.1.length (encL zad r.1))],.var [.ref 2 0 r.2.length 1],.arr (encL zad r.2)])) o):=by
 refine Wp.iter ?_
 intro s st o hg h
 obtain ⟨s7,y2⟩:=s
 unfold zcc at h;unfold z5h ztw at hg ⊢
 (try simp only [] at h hg)
 unfold yas zae Try.f73;simp only [zal,ens]
 revert h
 repeat' first | (with_reducible refine gB fun _ _=>?_) | (with_reducible refine gW fun _=>?_) | (with_reducible refine gT (fun _ _=>?_) (fun _ _=>?_)) | (with_reducible refine gI (fun _ _=>?_) (fun _ _=>?_))
 all_goals
  intro h;obtain rfl:=Option.some.inj h
  first | (simp (maxSteps:=10000000) (implicitDefEqProofs:=false) (disch:=first | with_reducible assumption | exact rfl | exact im_ _ | (fail_if_success show Kn _ _);omega) only [bs,rs73,ls73Z,Nat.reduceAdd,↓reduceIte,zai,zab a64,zab a80,zg8,zgj,hg];first | (exact ⟨(rfl:Ex.normal=Ex.normal),by (try simp only [List.length_set,zbx, *]);kernel_rfl⟩) | (exact ⟨(rfl:Ex.exit 2=Ex.exit 2),rfl,by kernel_rfl⟩)) | (exfalso;omega)
noncomputable def yab:Code:=(zal (zae Try.f73)).getD 0 .skip
def z3d:List Ghost:=[.keep [1,2,3,6]]
noncomputable def z15 (s1:Int) (s2:Int) (w0_0:(List Int)):(Int×(List Int))→St:=fun (s6,y2)=>⟨[J,iv s1,iv s2,.ptr 3 0,J,J,iv s6,J,J,J,J,J,J,J,J,J,J,J,J,J,J,J,J,J,J,J,J,J,J,J,J,J,J,J,J],[.var [.p (.lst false w0_0.length (encL zad w0_0))],.var [.ref 2 0 y2.length 1],.arr (encL zad y2),.var [.fn (.func 42) [.ptr 0 0,.ptr 1 0],sw68 2 y2.length]],3⟩
theorem z47 (s1:Int) (s2:Int) (w0_0:(List Int)):∀ s st o,zak z3d st=some (z15 s1 s2 w0_0 s)→iter (zb9 s1 s2 w0_0) s=some o →
    Wp (evW Try.prog A0 73 (.loop yab) st) (OutQ (z15 s1 s2 w0_0) z3d (fun n s st=>n=0∧(match s with | (s6,y2)=>zap Try.prog A0 73 Try.f73 st=some (.p (.tup []),[.var [.p (.lst false ((w0_0,y2).1).length (encL zad ((w0_0,y2).1)))],.var [.ref 2 0 (((w0_0,y2).2).length) 1],.arr (encL zad ((w0_0,y2).2))]))) (fun r st=>zap Try.prog A0 73 Try.f73 st=some (.p (.tup []),[.var [.p (.lst false r.1.length (encL zad r.1))],.var [.ref 2 0 r.2.length 1],.arr (encL zad r.2)])) o):=by
 refine Wp.iter ?_
 intro s st o hg h
 obtain ⟨s6,y2⟩:=s
 unfold zb9 at h;unfold z3d z15 at hg ⊢
 (try simp only [] at h hg)
 unfold yab zae Try.f73;simp only [zal,ens]
 revert h
 refine gI (fun h1 _=>?_) (fun h1 _=>?_)
 ·refine gB fun o h11=>?_
  intro h
  simp (maxSteps:=10000000) (implicitDefEqProofs:=false) (disch:=first | with_reducible assumption | exact rfl | exact im_ _ | (fail_if_success show Kn _ _);omega) only [bs,rs73,ls73Z,Nat.reduceAdd,↓reduceIte,zai,zab a64,zab a80,zg8,zgj,hg]
  refine Wp.ctx (fun x=>seqW _ _ _ _ (za5 _ (za5 _ (x)))) (z26 s1 s2 s6 w0_0 (s6,y2) _ o (by kernel_rfl) h11) ?_
  intro e st hq
  cases o with
  | next _=>(first | cases h | (simp at h))
  | jmp n_ s_ =>
   obtain ⟨rfl,rfl,hq⟩:=hq
   obtain ⟨s7_12,y2_12⟩:=s_
   unfold ztw at hq
   (try simp only [] at h hq)
   revert h
   intro h;obtain rfl:=Option.some.inj h
   simp (maxSteps:=10000000) (implicitDefEqProofs:=false) (disch:=first | with_reducible assumption | exact rfl | exact im_ _ | (fail_if_success show Kn _ _);omega) only [bs,rs73,ls73Z,Nat.reduceAdd,↓reduceIte,zai,zab a64,zab a80,zg8,zgj,hg,hq]
   exact ⟨(rfl:Ex.normal=Ex.normal),by kernel_rfl⟩
  | ret _=>(first | cases h | (simp at h))
 ·intro h;obtain rfl:=Option.some.inj h
  simp (maxSteps:=10000000) (implicitDefEqProofs:=false) (disch:=first | with_reducible assumption | exact rfl | exact im_ _ | (fail_if_success show Kn _ _);omega) only [bs,rs73,ls73Z,Nat.reduceAdd,↓reduceIte,zai,zab a64,zab a80,zg8,zgj,hg]
  refine ⟨(rfl:Ex.exit 0=Ex.exit 0),rfl, ?_⟩;show _=_;kernel_rfl
theorem yct  (x1:Int) (x2:Int) (o0:(List Int)) (o2:(List Int)) (r:((List Int)×(List Int))) (h:zcd x1 x2 o0 o2=some r):callW Try.prog A0 73 [.agg [.fn (.func 42) [.ptr 0 0,.ptr 1 0],sw68 2 o2.length],iv x1,iv x2] [.var [.p (.lst false o0.length (encL zad o0))],.var [.ref 2 0 o2.length 1],.arr (encL zad o2)]=some (.p (.tup []),[.var [.p (.lst false r.1.length (encL zad r.1))],.var [.ref 2 0 r.2.length 1],.arr (encL zad r.2)]):=by
 refine zax (fn:=Try.f73) (c:=zae Try.f73) 32 rfl rfl (by kernel_rfl) (by kernel_rfl) (by kernel_rfl) ?_
 unfold zcd at h;unfold zae Try.f73;simp only [ens]
 revert h
 refine gB fun o h13=>?_
 intro h
 simp (maxSteps:=10000000) (implicitDefEqProofs:=false) (disch:=first | with_reducible assumption | exact rfl | exact im_ _ | (fail_if_success show Kn _ _);omega) only [bs,rs73,ls73Z,Nat.reduceAdd,↓reduceIte,zai,zab a64,zab a80,zg8,zgj]
 refine Wp.ctx (fun x=>za5 _ (x)) (z47 x1 x2 o0 (w64 (x1+(1:Int)),o2) _ o (by kernel_rfl) h13) ?_
 intro e st hq
 cases o with
 | next _=>(first | cases h | (simp at h))
 | jmp n_ s_ =>
  obtain ⟨rfl,rfl,hq⟩:=hq
  obtain ⟨s6_14,y2_14⟩:=s_
  obtain rfl:=Option.some.inj h
  simp (maxSteps:=10000000) (implicitDefEqProofs:=false) (disch:=first | with_reducible assumption | exact rfl | exact im_ _ | (fail_if_success show Kn _ _);omega) only [bs,rs73,ls73Z,Nat.reduceAdd,↓reduceIte,zai,zab a64,zab a80,zg8,zgj]
  exact ⟨by simp,hq⟩
 | ret _=>(first | cases h | (simp at h))
def ls90Z:=And.intro @zhu (@ze0)
theorem zof {a1 a3:List Int}{a4 a5:Int}{r9001:((List Int)×(List Int))}{X3:Ob} (h9002:zcd a4 a5 a3 a1=some r9001):callD (callW Try.prog A0) A0 [.var [.p (.lst false a3.length (encL zad a3))],.var [.ref 2 0 a1.length 1],.arr (encL zad a1),X3] 73 [.agg [.fn (.func 42) [.ptr 0 0,.ptr 1 0],sw68 2 a1.length],iv a4,iv a5]=some (.p (.tup []),some [.var [.p (.lst false r9001.1.length (encL zad r9001.1))],.var [.ref 2 0 r9001.2.length 1],.arr (encL zad r9001.2),X3]):=(zbe (dsw:=[.agg [.fn (.func 42) [.ptr 0 0,.ptr 1 0],sw68 2 a1.length],iv a4,iv a5]) (ds':=[.agg [.fn (.func 42) [.ptr 0 0,.ptr 1 0],sw68 2 a1.length],iv a4,iv a5]) (i:=0) (ids:=[1,2]) (o:=.var [.p (.lst false a3.length (encL zad a3))]) (os:=[.var [.ref 2 0 a1.length 1],.arr (encL zad a1)]) (o':=.var [.p (.lst false r9001.1.length (encL zad r9001.1))]) (os':=[.var [.ref 2 0 r9001.2.length 1],.arr (encL zad r9001.2)]) rfl (by kernel_rfl) (by kernel_rfl) (by kernel_rfl) (by kernel_rfl) (by kernel_rfl) (yct _ _ _ _ _ h9002) rfl rfl).trans (by kernel_rfl)
noncomputable def yaq:Code:=(zal (zae Try.f90)).getD 0 .skip
def z1y:List Ghost:=[.keep [1,2,3,4,8]]
noncomputable def z21 (s1:Int) (s2:Int) (s3:Int) (w0_0:(List Int)):(Int×(List Int))→St:=fun (s8,y2)=>⟨[J,iv s1,iv s2,iv s3,.ptr 3 0,J,J,J,iv s8,J,J,J,J,J,J,J,J,J,J,J,J,J,J],[.var [.p (.lst false w0_0.length (encL zad w0_0))],.var [.ref 2 0 y2.length 1],.arr (encL zad y2),.var [.fn (.func 42) [.ptr 0 0,.ptr 1 0],sw68 2 y2.length]],3⟩
theorem z29 (s1:Int) (s2:Int) (s3:Int) (w0_0:(List Int)):∀ s st o,zak z1y st=some (z21 s1 s2 s3 w0_0 s)→iter (zcu s1 s2 s3 w0_0) s=some o →
    Wp (evW Try.prog A0 90 (.loop yaq) st) (OutQ (z21 s1 s2 s3 w0_0) z1y (fun n s st=>n=0∧(match s with | (s8,y2)=>zap Try.prog A0 90 Try.f90 st=some (.p (.tup []),[.var [.p (.lst false ((w0_0,y2).1).length (encL zad ((w0_0,y2).1)))],.var [.ref 2 0 (((w0_0,y2).2).length) 1],.arr (encL zad ((w0_0,y2).2))]))) (fun r st=>zap Try.prog A0 90 Try.f90 st=some (.p (.tup []),[.var [.p (.lst false r.1.length (encL zad r.1))],.var [.ref 2 0 r.2.length 1],.arr (encL zad r.2)])) o):=by
 refine Wp.iter ?_
 intro s st o hg h
 obtain ⟨s8,y2⟩:=s
 unfold zcu at h;unfold z1y z21 at hg ⊢
 (try simp only [] at h hg)
 unfold yaq zae Try.f90;simp only [zal,ens]
 revert h
 repeat' first | (with_reducible refine gB fun _ _=>?_) | (with_reducible refine gW fun _=>?_) | (with_reducible refine gI (fun _ _=>?_) (fun _ _=>?_))
 all_goals
  intro h;obtain rfl:=Option.some.inj h
  first | (simp (maxSteps:=10000000) (implicitDefEqProofs:=false) (disch:=first | with_reducible assumption | exact rfl | exact im_ _ | (fail_if_success show Kn _ _);omega) only [bs,rs90,ls90Z,Nat.reduceAdd,↓reduceIte,zai,zab a80,zgj,hg];first | (exact ⟨(rfl:Ex.normal=Ex.normal),by (try simp only [List.length_set,zbx, *]);kernel_rfl⟩) | (refine ⟨(rfl:Ex.exit 0=Ex.exit 0),rfl, ?_⟩;show _=_;kernel_rfl)) | (exfalso;omega)
theorem yce  (x1:Int) (x2:Int) (x3:Int) (o0:(List Int)) (o2:(List Int)) (r:((List Int)×(List Int))) (h:zcl x1 x2 x3 o0 o2=some r):callW Try.prog A0 90 [.agg [.fn (.func 42) [.ptr 0 0,.ptr 1 0],sw68 2 o2.length],iv x1,iv x2,iv x3] [.var [.p (.lst false o0.length (encL zad o0))],.var [.ref 2 0 o2.length 1],.arr (encL zad o2)]=some (.p (.tup []),[.var [.p (.lst false r.1.length (encL zad r.1))],.var [.ref 2 0 r.2.length 1],.arr (encL zad r.2)]):=by
 refine zax (fn:=Try.f90) (c:=zae Try.f90) 19 rfl rfl (by kernel_rfl) (by kernel_rfl) (by kernel_rfl) ?_
 unfold zcl at h;unfold zae Try.f90;simp only [ens]
 revert h
 refine gB fun o h11=>?_
 intro h
 simp (maxSteps:=10000000) (implicitDefEqProofs:=false) (disch:=first | with_reducible assumption | exact rfl | exact im_ _ | (fail_if_success show Kn _ _);omega) only [bs,rs90,ls90Z,Nat.reduceAdd,↓reduceIte,zai,zab a80,zgj]
 refine Wp.ctx (fun x=>za5 _ (x)) (z29 x1 x2 x3 o0 ((0:Int),o2) _ o (by kernel_rfl) h11) ?_
 intro e st hq
 cases o with
 | next _=>(first | cases h | (simp at h))
 | jmp n_ s_ =>
  obtain ⟨rfl,rfl,hq⟩:=hq
  obtain ⟨s8_12,y2_12⟩:=s_
  obtain rfl:=Option.some.inj h
  simp (maxSteps:=10000000) (implicitDefEqProofs:=false) (disch:=first | with_reducible assumption | exact rfl | exact im_ _ | (fail_if_success show Kn _ _);omega) only [bs,rs90,ls90Z,Nat.reduceAdd,↓reduceIte,zai,zab a80,zgj]
  exact ⟨by simp,hq⟩
 | ret _=>(first | cases h | (simp at h))
def ls84Z:=@zjk
theorem z2i {a1 a3:List Int}{a4 a5 a6:Int}{r9001:((List Int)×(List Int))}{X3:Ob} (h9002:zcl a4 a5 a6 a3 a1=some r9001):callD (callW Try.prog A0) A0 [.var [.p (.lst false a3.length (encL zad a3))],.var [.ref 2 0 a1.length 1],.arr (encL zad a1),X3] 90 [.agg [.fn (.func 42) [.ptr 0 0,.ptr 1 0],sw68 2 a1.length],iv a4,iv a5,iv a6]=some (.p (.tup []),some [.var [.p (.lst false r9001.1.length (encL zad r9001.1))],.var [.ref 2 0 r9001.2.length 1],.arr (encL zad r9001.2),X3]):=(zbe (dsw:=[.agg [.fn (.func 42) [.ptr 0 0,.ptr 1 0],sw68 2 a1.length],iv a4,iv a5,iv a6]) (ds':=[.agg [.fn (.func 42) [.ptr 0 0,.ptr 1 0],sw68 2 a1.length],iv a4,iv a5,iv a6]) (i:=0) (ids:=[1,2]) (o:=.var [.p (.lst false a3.length (encL zad a3))]) (os:=[.var [.ref 2 0 a1.length 1],.arr (encL zad a1)]) (o':=.var [.p (.lst false r9001.1.length (encL zad r9001.1))]) (os':=[.var [.ref 2 0 r9001.2.length 1],.arr (encL zad r9001.2)]) rfl (by kernel_rfl) (by kernel_rfl) (by kernel_rfl) (by kernel_rfl) (by kernel_rfl) (yce _ _ _ _ _ _ h9002) rfl rfl).trans (by kernel_rfl)
noncomputable def yan:Code:=(zal (zae Try.f84)).getD 0 .skip
def z3q:List Ghost:=[.keep [2,4,8,9]]
noncomputable def ztt (s2:Int):(Int×Int×(List Int)×(List Int))→St:=fun (s8,s9,w0_0,y2)=>⟨[J,J,iv s2,J,.ptr 3 0,J,J,J,iv s8,iv s9,J,J,J,J,J,J,J,J,J,J,J,J,J,J,J,J,J,J,J,J,J,J,J,J,J,J,J,J,J,J,J,J,J,J,J,J,J,J,J,J,J,J,J],[.var [.p (.lst false w0_0.length (encL zad w0_0))],.var [.ref 2 0 y2.length 1],.arr (encL zad y2),.var [.fn (.func 42) [.ptr 0 0,.ptr 1 0],sw68 2 y2.length]],3⟩
theorem z3e (s2:Int):∀ s st o,zak z3q st=some (ztt s2 s)→iter (zdt s2) s=some o →
    Wp (evW Try.prog A0 84 (.loop yan) st) (OutQ (ztt s2) z3q (fun n s st=>n=0∧zak [.keep [2,4,8,9]] st=some (ztt s2 s)) (fun r st=>zap Try.prog A0 84 Try.f84 st=some (.p (.tup []),[.var [.p (.lst false r.1.length (encL zad r.1))],.var [.ref 2 0 r.2.length 1],.arr (encL zad r.2)])) o):=by
 refine Wp.iter ?_
 intro s st o hg h
 obtain ⟨s8,s9,w0_0,y2⟩:=s
 unfold zdt at h;unfold z3q ztt at hg ⊢
 (try simp only [] at h hg)
 unfold yan zae Try.f84;simp only [zal,ens]
 revert h
 repeat' first | (with_reducible refine gB fun _ _=>?_) | (with_reducible refine gW fun _=>?_) | (with_reducible refine gI (fun _ _=>?_) (fun _ _=>?_))
 all_goals
  intro h;obtain rfl:=Option.some.inj h
  first | (simp (maxSteps:=10000000) (implicitDefEqProofs:=false) (disch:=first | with_reducible assumption | exact rfl | exact im_ _ | (fail_if_success show Kn _ _);omega) only [bs,rs84,ls84Z,Nat.reduceAdd,↓reduceIte,zai,zah a84 z84,z2i,hg];first | (exact ⟨(rfl:Ex.exit 0=Ex.exit 0),rfl,by kernel_rfl⟩) | (exact ⟨(rfl:Ex.normal=Ex.normal),by (try simp only [List.length_set,zbx, *]);kernel_rfl⟩)) | (exfalso;omega)
theorem ydl  (x1:Int) (x2:Int) (x3:Int) (o0:(List Int)) (o2:(List Int)) (r:((List Int)×(List Int))) (h:zdk x1 x2 x3 o0 o2=some r):callW Try.prog A0 84 [.agg [.fn (.func 42) [.ptr 0 0,.ptr 1 0],sw68 2 o2.length],iv x1,iv x2,iv x3] [.var [.p (.lst false o0.length (encL zad o0))],.var [.ref 2 0 o2.length 1],.arr (encL zad o2)]=some (.p (.tup []),[.var [.p (.lst false r.1.length (encL zad r.1))],.var [.ref 2 0 r.2.length 1],.arr (encL zad r.2)]):=by
 refine zax (fn:=Try.f84) (c:=zae Try.f84) 49 rfl rfl (by kernel_rfl) (by kernel_rfl) (by kernel_rfl) ?_
 unfold zdk at h;unfold zae Try.f84;simp only [ens]
 revert h
 refine gB fun o h11=>?_
 intro h
 simp (maxSteps:=10000000) (implicitDefEqProofs:=false) (disch:=first | with_reducible assumption | exact rfl | exact im_ _ | (fail_if_success show Kn _ _);omega) only [bs,rs84,ls84Z,Nat.reduceAdd,↓reduceIte,zai,zah a84 z84,z2i]
 refine Wp.ctx (fun x=>seqW _ _ _ _ (za5 _ (x))) (z3e x2 (w64 (x2 - x1),w64 (x3 - x2),o0,o2) _ o (by kernel_rfl) h11) ?_
 intro e st hq
 cases o with
 | next _=>(first | cases h | (simp at h))
 | jmp n_ s_ =>
  obtain ⟨rfl,rfl,hq⟩:=hq
  obtain ⟨s8_12,s9_12,w0_0_12,y2_12⟩:=s_
  unfold ztt at hq
  (try simp only [] at h hq)
  revert h
  repeat' first | (with_reducible refine gB fun _ _=>?_) | (with_reducible refine gW fun _=>?_)
  intro h;obtain rfl:=Option.some.inj h
  simp (maxSteps:=10000000) (implicitDefEqProofs:=false) (disch:=first | with_reducible assumption | exact rfl | exact im_ _ | (fail_if_success show Kn _ _);omega) only [bs,rs84,ls84Z,Nat.reduceAdd,↓reduceIte,zai,zah a84 z84,z2i,hq]
  refine ⟨by simp, ?_⟩;show _=_;(try simp only [List.length_set,zbx, *]);kernel_rfl
 | ret _=>(first | cases h | (simp at h))
def ls74Z:=And.intro @zsr (And.intro @z2t (And.intro @zix (And.intro @zhu (And.intro @zfv (And.intro @ze0 (@zjk))))))
theorem zje {rec:Int→Int→Int→(List Int)→(List Int)→Option ((List Int)×(List Int))} (hrec:∀ x1 x2 x3 o0 o2 r,rec x1 x2 x3 o0 o2=some r→callW Try.prog A0 74 [.agg [.fn (.func 42) [.ptr 0 0,.ptr 1 0],sw68 2 o2.length],iv x1,iv x2,iv x3] [.var [.p (.lst false o0.length (encL zad o0))],.var [.ref 2 0 o2.length 1],.arr (encL zad o2)]=some (.p (.tup []),[.var [.p (.lst false r.1.length (encL zad r.1))],.var [.ref 2 0 r.2.length 1],.arr (encL zad r.2)])) {a1 a3:List Int}{n4:Nat}{a5 a6 a7:Int}{r9001:((List Int)×(List Int))}{X3:Ob} (k0:n4=a1.length) (h9002:rec a5 a6 a7 a3 a1=some r9001):callD (callW Try.prog A0) A0 [.var [.p (.lst false a3.length (encL zad a3))],.var [.ref 2 0 a1.length 1],.arr (encL zad a1),X3] 74 [.agg [.fn (.func 42) [.ptr 0 0,.ptr 1 0],sw68 2 n4],iv a5,iv a6,iv a7]=some (.p (.tup []),some [.var [.p (.lst false r9001.1.length (encL zad r9001.1))],.var [.ref 2 0 r9001.2.length 1],.arr (encL zad r9001.2),X3]):=by
  rw [show n4=a1.length from by omega];exact (zbe (dsw:=[.agg [.fn (.func 42) [.ptr 0 0,.ptr 1 0],sw68 2 a1.length],iv a5,iv a6,iv a7]) (ds':=[.agg [.fn (.func 42) [.ptr 0 0,.ptr 1 0],sw68 2 a1.length],iv a5,iv a6,iv a7]) (i:=0) (ids:=[1,2]) (o:=.var [.p (.lst false a3.length (encL zad a3))]) (os:=[.var [.ref 2 0 a1.length 1],.arr (encL zad a1)]) (o':=.var [.p (.lst false r9001.1.length (encL zad r9001.1))]) (os':=[.var [.ref 2 0 r9001.2.length 1],.arr (encL zad r9001.2)]) rfl (by kernel_rfl) (by kernel_rfl) (by kernel_rfl) (by kernel_rfl) (by kernel_rfl) (hrec _ _ _ _ _ _ h9002) rfl rfl).trans (by kernel_rfl)
theorem zi9 {a1 a3:List Int}{a4 a5 a6:Int}{r9001:((List Int)×(List Int))}{X3:Ob} (h9002:zdk a4 a5 a6 a3 a1=some r9001):callD (callW Try.prog A0) A0 [.var [.p (.lst false a3.length (encL zad a3))],.var [.ref 2 0 a1.length 1],.arr (encL zad a1),X3] 84 [.agg [.fn (.func 42) [.ptr 0 0,.ptr 1 0],sw68 2 a1.length],iv a4,iv a5,iv a6]=some (.p (.tup []),some [.var [.p (.lst false r9001.1.length (encL zad r9001.1))],.var [.ref 2 0 r9001.2.length 1],.arr (encL zad r9001.2),X3]):=(zbe (dsw:=[.agg [.fn (.func 42) [.ptr 0 0,.ptr 1 0],sw68 2 a1.length],iv a4,iv a5,iv a6]) (ds':=[.agg [.fn (.func 42) [.ptr 0 0,.ptr 1 0],sw68 2 a1.length],iv a4,iv a5,iv a6]) (i:=0) (ids:=[1,2]) (o:=.var [.p (.lst false a3.length (encL zad a3))]) (os:=[.var [.ref 2 0 a1.length 1],.arr (encL zad a1)]) (o':=.var [.p (.lst false r9001.1.length (encL zad r9001.1))]) (os':=[.var [.ref 2 0 r9001.2.length 1],.arr (encL zad r9001.2)]) rfl (by kernel_rfl) (by kernel_rfl) (by kernel_rfl) (by kernel_rfl) (by kernel_rfl) (ydl _ _ _ _ _ _ h9002) rfl rfl).trans (by kernel_rfl)
theorem zjb {rec:Int→Int→Int→(List Int)→(List Int)→Option ((List Int)×(List Int))} (hrec:∀ x1 x2 x3 o0 o2 r,rec x1 x2 x3 o0 o2=some r→callW Try.prog A0 74 [.agg [.fn (.func 42) [.ptr 0 0,.ptr 1 0],sw68 2 o2.length],iv x1,iv x2,iv x3] [.var [.p (.lst false o0.length (encL zad o0))],.var [.ref 2 0 o2.length 1],.arr (encL zad o2)]=some (.p (.tup []),[.var [.p (.lst false r.1.length (encL zad r.1))],.var [.ref 2 0 r.2.length 1],.arr (encL zad r.2)])) {a1 a3:List Int}{a4 a5 a6:Int}{r9001:((List Int)×(List Int))}{X3:Ob} (h9002:rec a4 a5 a6 a3 a1=some r9001):callD (callW Try.prog A0) A0 [.var [.p (.lst false a3.length (encL zad a3))],.var [.ref 2 0 a1.length 1],.arr (encL zad a1),X3] 74 [.agg [.fn (.func 42) [.ptr 0 0,.ptr 1 0],sw68 2 a1.length],iv a4,iv a5,iv a6]=some (.p (.tup []),some [.var [.p (.lst false r9001.1.length (encL zad r9001.1))],.var [.ref 2 0 r9001.2.length 1],.arr (encL zad r9001.2),X3]):=(zbe (dsw:=[.agg [.fn (.func 42) [.ptr 0 0,.ptr 1 0],sw68 2 a1.length],iv a4,iv a5,iv a6]) (ds':=[.agg [.fn (.func 42) [.ptr 0 0,.ptr 1 0],sw68 2 a1.length],iv a4,iv a5,iv a6]) (i:=0) (ids:=[1,2]) (o:=.var [.p (.lst false a3.length (encL zad a3))]) (os:=[.var [.ref 2 0 a1.length 1],.arr (encL zad a1)]) (o':=.var [.p (.lst false r9001.1.length (encL zad r9001.1))]) (os':=[.var [.ref 2 0 r9001.2.length 1],.arr (encL zad r9001.2)]) rfl (by kernel_rfl) (by kernel_rfl) (by kernel_rfl) (by kernel_rfl) (by kernel_rfl) (hrec _ _ _ _ _ _ h9002) rfl rfl).trans (by kernel_rfl)
noncomputable def z97:Code:=(zal (zae Try.f74)).getD 4 .skip
def z1z:List Ghost:=[.keep [1,2,3,4,16,17,18,19,20]]
noncomputable def zqs (s1:Int) (s2:Int) (s3:Int) (s16:Int) (s17:Int) (s20:Int) (w0_0:(List Int)) (y2:(List Int)):(Int×Int)→St:=fun (s18,s19)=>⟨[J,iv s1,iv s2,iv s3,.ptr 3 0,J,J,J,J,J,J,J,J,J,J,J,iv s16,iv s17,iv s18,iv s19,iv s20,J,J,J,J,J,J,J,J,J,J,J,J,J,J,J,J,J,J,J,J,J,J,J,J,J,J,J,J,J,J,J,J,J,J,J,J,J,J,J,J,J,J,J,J,J,J,J,J,J,J,J,J,J,J,J,J,J,J,J,J,J,J,J,J,J,J,J,J,J,J,J,J,J,J,J,J,J,J,J,J,J,J,J,J,J,J,J,J,J,J,J,J,J,J,J,J,J,J,J,J,J,J,J,J,J,J,J,J,J,J,J,J,J,J,J,J,J,J,J,J,J,J,J,J,J,J,J,J,J,J,J,J,J,J,J,J,J,J,J,J,J,J,J,J,J,J,J,J,J,J,J,J,J,J,J,J],[.var [.p (.lst false w0_0.length (encL zad w0_0))],.var [.ref 2 0 y2.length 1],.arr (encL zad y2),.var [.fn (.func 42) [.ptr 0 0,.ptr 1 0],sw68 2 y2.length]],3⟩
theorem zt5 {rec:Int→Int→Int→(List Int)→(List Int)→Option ((List Int)×(List Int))} (hrec:∀ x1 x2 x3 o0 o2 r,rec x1 x2 x3 o0 o2=some r→callW Try.prog A0 74 [.agg [.fn (.func 42) [.ptr 0 0,.ptr 1 0],sw68 2 o2.length],iv x1,iv x2,iv x3] [.var [.p (.lst false o0.length (encL zad o0))],.var [.ref 2 0 o2.length 1],.arr (encL zad o2)]=some (.p (.tup []),[.var [.p (.lst false r.1.length (encL zad r.1))],.var [.ref 2 0 r.2.length 1],.arr (encL zad r.2)])) (s1:Int) (s2:Int) (s3:Int) (s16:Int) (s17:Int) (s20:Int) (w0_0:(List Int)) (y2:(List Int)):∀ s st o,zak z1z st=some (zqs s1 s2 s3 s16 s17 s20 w0_0 y2 s)→iter (zb6 rec s1 s2 s3 s16 s17 s20 w0_0 y2) s=some o →
    Wp (evW Try.prog A0 74 (.loop z97) st) (OutQ (zqs s1 s2 s3 s16 s17 s20 w0_0 y2) z1z (fun n s st=>n=8∧zak [.keep [1,2,3,4,16,17,18,19,20]] st=some (zqs s1 s2 s3 s16 s17 s20 w0_0 y2 s)) (fun r st=>zap Try.prog A0 74 Try.f74 st=some (.p (.tup []),[.var [.p (.lst false r.1.length (encL zad r.1))],.var [.ref 2 0 r.2.length 1],.arr (encL zad r.2)])) o):=by
 refine Wp.iter ?_
 intro s st o hg h
 obtain ⟨s18,s19⟩:=s
 unfold zb6 at h;unfold z1z zqs at hg ⊢
 (try simp only [] at h hg)
 unfold z97 zae Try.f74;simp only [zal,ens]
 revert h
 repeat' first | (with_reducible refine gB fun _ _=>?_) | (with_reducible refine gT (fun _ _=>?_) (fun _ _=>?_)) | (with_reducible refine gI (fun _ _=>?_) (fun _ _=>?_))
 all_goals
  intro h;obtain rfl:=Option.some.inj h
  first | (simp (maxSteps:=10000000) (implicitDefEqProofs:=false) (disch:=first | with_reducible assumption | exact rfl | exact im_ _ | (fail_if_success show Kn _ _);omega) only [bs,rs74,ls74Z,Nat.reduceAdd,↓reduceIte,zbw,zai,zah a84 z84,zab a64,zab a80,zg8,zgj,zje hrec,zjb hrec,zi9,hg];first | (exact ⟨(rfl:Ex.normal=Ex.normal),by kernel_rfl⟩) | (exact ⟨(rfl:Ex.exit 8=Ex.exit 8),rfl,by kernel_rfl⟩)) | (exfalso;omega)
noncomputable def yao:Code:=(zal (zae Try.f74)).getD 3 .skip
def z1x:List Ghost:=[.keep [4,12,15]]
noncomputable def z2h (s12:Int) (w0_0:(List Int)):(Int×(List Int))→St:=fun (s15,y2)=>⟨[J,J,J,J,.ptr 3 0,J,J,J,J,J,J,J,iv s12,J,J,iv s15,J,J,J,J,J,J,J,J,J,J,J,J,J,J,J,J,J,J,J,J,J,J,J,J,J,J,J,J,J,J,J,J,J,J,J,J,J,J,J,J,J,J,J,J,J,J,J,J,J,J,J,J,J,J,J,J,J,J,J,J,J,J,J,J,J,J,J,J,J,J,J,J,J,J,J,J,J,J,J,J,J,J,J,J,J,J,J,J,J,J,J,J,J,J,J,J,J,J,J,J,J,J,J,J,J,J,J,J,J,J,J,J,J,J,J,J,J,J,J,J,J,J,J,J,J,J,J,J,J,J,J,J,J,J,J,J,J,J,J,J,J,J,J,J,J,J,J,J,J,J,J,J,J,J,J,J,J,J,J,J,J],[.var [.p (.lst false w0_0.length (encL zad w0_0))],.var [.ref 2 0 y2.length 1],.arr (encL zad y2),.var [.fn (.func 42) [.ptr 0 0,.ptr 1 0],sw68 2 y2.length]],3⟩
theorem z49 {rec:Int→Int→Int→(List Int)→(List Int)→Option ((List Int)×(List Int))} (hrec:∀ x1 x2 x3 o0 o2 r,rec x1 x2 x3 o0 o2=some r→callW Try.prog A0 74 [.agg [.fn (.func 42) [.ptr 0 0,.ptr 1 0],sw68 2 o2.length],iv x1,iv x2,iv x3] [.var [.p (.lst false o0.length (encL zad o0))],.var [.ref 2 0 o2.length 1],.arr (encL zad o2)]=some (.p (.tup []),[.var [.p (.lst false r.1.length (encL zad r.1))],.var [.ref 2 0 r.2.length 1],.arr (encL zad r.2)])) (s12:Int) (w0_0:(List Int)):∀ s st o,zak z1x st=some (z2h s12 w0_0 s)→iter (zde rec s12 w0_0) s=some o →
    Wp (evW Try.prog A0 74 (.loop yao) st) (OutQ (z2h s12 w0_0) z1x (fun n s st=>n=6∧(match s with | (s15,y2)=>zap Try.prog A0 74 Try.f74 st=some (.p (.tup []),[.var [.p (.lst false ((w0_0,y2).1).length (encL zad ((w0_0,y2).1)))],.var [.ref 2 0 (((w0_0,y2).2).length) 1],.arr (encL zad ((w0_0,y2).2))]))) (fun r st=>zap Try.prog A0 74 Try.f74 st=some (.p (.tup []),[.var [.p (.lst false r.1.length (encL zad r.1))],.var [.ref 2 0 r.2.length 1],.arr (encL zad r.2)])) o):=by
 refine Wp.iter ?_
 intro s st o hg h
 obtain ⟨s15,y2⟩:=s
 unfold zde at h;unfold z1x z2h at hg ⊢
 (try simp only [] at h hg)
 unfold yao zae Try.f74;simp only [zal,ens]
 revert h
 repeat' first | (with_reducible refine gB fun _ _=>?_) | (with_reducible refine gW fun _=>?_) | (with_reducible refine gI (fun _ _=>?_) (fun _ _=>?_))
 all_goals
  intro h;obtain rfl:=Option.some.inj h
  first | (simp (maxSteps:=10000000) (implicitDefEqProofs:=false) (disch:=first | with_reducible assumption | exact rfl | exact im_ _ | (fail_if_success show Kn _ _);omega) only [bs,rs74,ls74Z,Nat.reduceAdd,↓reduceIte,zbw,zai,zah a84 z84,zab a64,zab a80,zg8,zgj,zje hrec,zjb hrec,zi9,hg];first | (exact ⟨(rfl:Ex.normal=Ex.normal),by (try simp only [List.length_set,zbx, *]);kernel_rfl⟩) | (refine ⟨(rfl:Ex.exit 6=Ex.exit 6),rfl, ?_⟩;show _=_;kernel_rfl)) | (exfalso;omega)
noncomputable def yar:Code:=(zal (zae Try.f74)).getD 2 .skip
def z1n:List Ghost:=[.keep [2,4,12,13]]
noncomputable def zu3 (s2:Int) (w0_0:(List Int)) (y2:(List Int)):(Int×Int)→St:=fun (s12,s13)=>⟨[J,J,iv s2,J,.ptr 3 0,J,J,J,J,J,J,J,iv s12,iv s13,J,J,J,J,J,J,J,J,J,J,J,J,J,J,J,J,J,J,J,J,J,J,J,J,J,J,J,J,J,J,J,J,J,J,J,J,J,J,J,J,J,J,J,J,J,J,J,J,J,J,J,J,J,J,J,J,J,J,J,J,J,J,J,J,J,J,J,J,J,J,J,J,J,J,J,J,J,J,J,J,J,J,J,J,J,J,J,J,J,J,J,J,J,J,J,J,J,J,J,J,J,J,J,J,J,J,J,J,J,J,J,J,J,J,J,J,J,J,J,J,J,J,J,J,J,J,J,J,J,J,J,J,J,J,J,J,J,J,J,J,J,J,J,J,J,J,J,J,J,J,J,J,J,J,J,J,J,J,J,J,J,J,J],[.var [.p (.lst false w0_0.length (encL zad w0_0))],.var [.ref 2 0 y2.length 1],.arr (encL zad y2),.var [.fn (.func 42) [.ptr 0 0,.ptr 1 0],sw68 2 y2.length]],3⟩
theorem z4r {rec:Int→Int→Int→(List Int)→(List Int)→Option ((List Int)×(List Int))} (hrec:∀ x1 x2 x3 o0 o2 r,rec x1 x2 x3 o0 o2=some r→callW Try.prog A0 74 [.agg [.fn (.func 42) [.ptr 0 0,.ptr 1 0],sw68 2 o2.length],iv x1,iv x2,iv x3] [.var [.p (.lst false o0.length (encL zad o0))],.var [.ref 2 0 o2.length 1],.arr (encL zad o2)]=some (.p (.tup []),[.var [.p (.lst false r.1.length (encL zad r.1))],.var [.ref 2 0 r.2.length 1],.arr (encL zad r.2)])) (s2:Int) (w0_0:(List Int)) (y2:(List Int)):∀ s st o,zak z1n st=some (zu3 s2 w0_0 y2 s)→iter (zc9 rec s2 w0_0 y2) s=some o →
    Wp (evW Try.prog A0 74 (.loop yar) st) (OutQ (zu3 s2 w0_0 y2) z1n (fun n s st=>n=4∧zak [.keep [2,4,12,13]] st=some (zu3 s2 w0_0 y2 s)) (fun r st=>zap Try.prog A0 74 Try.f74 st=some (.p (.tup []),[.var [.p (.lst false r.1.length (encL zad r.1))],.var [.ref 2 0 r.2.length 1],.arr (encL zad r.2)])) o):=by
 refine Wp.iter ?_
 intro s st o hg h
 obtain ⟨s12,s13⟩:=s
 unfold zc9 at h;unfold z1n zu3 at hg ⊢
 (try simp only [] at h hg)
 unfold yar zae Try.f74;simp only [zal,ens]
 revert h
 repeat' first | (with_reducible refine gB fun _ _=>?_) | (with_reducible refine gT (fun _ _=>?_) (fun _ _=>?_)) | (with_reducible refine gI (fun _ _=>?_) (fun _ _=>?_))
 all_goals
  intro h;obtain rfl:=Option.some.inj h
  first | (simp (maxSteps:=10000000) (implicitDefEqProofs:=false) (disch:=first | with_reducible assumption | exact rfl | exact im_ _ | (fail_if_success show Kn _ _);omega) only [bs,rs74,ls74Z,Nat.reduceAdd,↓reduceIte,zbw,zai,zah a84 z84,zab a64,zab a80,zg8,zgj,zje hrec,zjb hrec,zi9,hg];first | (exact ⟨(rfl:Ex.normal=Ex.normal),by kernel_rfl⟩) | (exact ⟨(rfl:Ex.exit 4=Ex.exit 4),rfl,by kernel_rfl⟩)) | (exfalso;omega)
noncomputable def yaa:Code:=(zal (zae Try.f74)).getD 1 .skip
def z1c:List Ghost:=[.keep [4,8,11]]
noncomputable def z4u (s8:Int) (w0_0:(List Int)):(Int×(List Int))→St:=fun (s11,y2)=>⟨[J,J,J,J,.ptr 3 0,J,J,J,iv s8,J,J,iv s11,J,J,J,J,J,J,J,J,J,J,J,J,J,J,J,J,J,J,J,J,J,J,J,J,J,J,J,J,J,J,J,J,J,J,J,J,J,J,J,J,J,J,J,J,J,J,J,J,J,J,J,J,J,J,J,J,J,J,J,J,J,J,J,J,J,J,J,J,J,J,J,J,J,J,J,J,J,J,J,J,J,J,J,J,J,J,J,J,J,J,J,J,J,J,J,J,J,J,J,J,J,J,J,J,J,J,J,J,J,J,J,J,J,J,J,J,J,J,J,J,J,J,J,J,J,J,J,J,J,J,J,J,J,J,J,J,J,J,J,J,J,J,J,J,J,J,J,J,J,J,J,J,J,J,J,J,J,J,J,J,J,J,J,J,J],[.var [.p (.lst false w0_0.length (encL zad w0_0))],.var [.ref 2 0 y2.length 1],.arr (encL zad y2),.var [.fn (.func 42) [.ptr 0 0,.ptr 1 0],sw68 2 y2.length]],3⟩
theorem z27 {rec:Int→Int→Int→(List Int)→(List Int)→Option ((List Int)×(List Int))} (hrec:∀ x1 x2 x3 o0 o2 r,rec x1 x2 x3 o0 o2=some r→callW Try.prog A0 74 [.agg [.fn (.func 42) [.ptr 0 0,.ptr 1 0],sw68 2 o2.length],iv x1,iv x2,iv x3] [.var [.p (.lst false o0.length (encL zad o0))],.var [.ref 2 0 o2.length 1],.arr (encL zad o2)]=some (.p (.tup []),[.var [.p (.lst false r.1.length (encL zad r.1))],.var [.ref 2 0 r.2.length 1],.arr (encL zad r.2)])) (s8:Int) (w0_0:(List Int)):∀ s st o,zak z1c st=some (z4u s8 w0_0 s)→iter (zdd rec s8 w0_0) s=some o →
    Wp (evW Try.prog A0 74 (.loop yaa) st) (OutQ (z4u s8 w0_0) z1c (fun n s st=>n=2∧(match s with | (s11,y2)=>zap Try.prog A0 74 Try.f74 st=some (.p (.tup []),[.var [.p (.lst false ((w0_0,y2).1).length (encL zad ((w0_0,y2).1)))],.var [.ref 2 0 (((w0_0,y2).2).length) 1],.arr (encL zad ((w0_0,y2).2))]))) (fun r st=>zap Try.prog A0 74 Try.f74 st=some (.p (.tup []),[.var [.p (.lst false r.1.length (encL zad r.1))],.var [.ref 2 0 r.2.length 1],.arr (encL zad r.2)])) o):=by
 refine Wp.iter ?_
 intro s st o hg h
 obtain ⟨s11,y2⟩:=s
 unfold zdd at h;unfold z1c z4u at hg ⊢
 (try simp only [] at h hg)
 unfold yaa zae Try.f74;simp only [zal,ens]
 revert h
 repeat' first | (with_reducible refine gB fun _ _=>?_) | (with_reducible refine gW fun _=>?_) | (with_reducible refine gI (fun _ _=>?_) (fun _ _=>?_))
 all_goals
  intro h;obtain rfl:=Option.some.inj h
  first | (simp (maxSteps:=10000000) (implicitDefEqProofs:=false) (disch:=first | with_reducible assumption | exact rfl | exact im_ _ | (fail_if_success show Kn _ _);omega) only [bs,rs74,ls74Z,Nat.reduceAdd,↓reduceIte,zbw,zai,zah a84 z84,zab a64,zab a80,zg8,zgj,zje hrec,zjb hrec,zi9,hg];first | (exact ⟨(rfl:Ex.normal=Ex.normal),by (try simp only [List.length_set,zbx, *]);kernel_rfl⟩) | (refine ⟨(rfl:Ex.exit 2=Ex.exit 2),rfl, ?_⟩;show _=_;kernel_rfl)) | (exfalso;omega)
noncomputable def yag:Code:=(zal (zae Try.f74)).getD 0 .skip
def z1l:List Ghost:=[.keep [1,4,8,9]]
noncomputable def zta (s1:Int) (w0_0:(List Int)) (y2:(List Int)):(Int×Int)→St:=fun (s8,s9)=>⟨[J,iv s1,J,J,.ptr 3 0,J,J,J,iv s8,iv s9,J,J,J,J,J,J,J,J,J,J,J,J,J,J,J,J,J,J,J,J,J,J,J,J,J,J,J,J,J,J,J,J,J,J,J,J,J,J,J,J,J,J,J,J,J,J,J,J,J,J,J,J,J,J,J,J,J,J,J,J,J,J,J,J,J,J,J,J,J,J,J,J,J,J,J,J,J,J,J,J,J,J,J,J,J,J,J,J,J,J,J,J,J,J,J,J,J,J,J,J,J,J,J,J,J,J,J,J,J,J,J,J,J,J,J,J,J,J,J,J,J,J,J,J,J,J,J,J,J,J,J,J,J,J,J,J,J,J,J,J,J,J,J,J,J,J,J,J,J,J,J,J,J,J,J,J,J,J,J,J,J,J,J,J,J,J,J],[.var [.p (.lst false w0_0.length (encL zad w0_0))],.var [.ref 2 0 y2.length 1],.arr (encL zad y2),.var [.fn (.func 42) [.ptr 0 0,.ptr 1 0],sw68 2 y2.length]],3⟩
theorem z35 {rec:Int→Int→Int→(List Int)→(List Int)→Option ((List Int)×(List Int))} (hrec:∀ x1 x2 x3 o0 o2 r,rec x1 x2 x3 o0 o2=some r→callW Try.prog A0 74 [.agg [.fn (.func 42) [.ptr 0 0,.ptr 1 0],sw68 2 o2.length],iv x1,iv x2,iv x3] [.var [.p (.lst false o0.length (encL zad o0))],.var [.ref 2 0 o2.length 1],.arr (encL zad o2)]=some (.p (.tup []),[.var [.p (.lst false r.1.length (encL zad r.1))],.var [.ref 2 0 r.2.length 1],.arr (encL zad r.2)])) (s1:Int) (w0_0:(List Int)) (y2:(List Int)):∀ s st o,zak z1l st=some (zta s1 w0_0 y2 s)→iter (zdb rec s1 w0_0 y2) s=some o →
    Wp (evW Try.prog A0 74 (.loop yag) st) (OutQ (zta s1 w0_0 y2) z1l (fun n s st=>n=0∧zak [.keep [1,4,8,9]] st=some (zta s1 w0_0 y2 s)) (fun r st=>zap Try.prog A0 74 Try.f74 st=some (.p (.tup []),[.var [.p (.lst false r.1.length (encL zad r.1))],.var [.ref 2 0 r.2.length 1],.arr (encL zad r.2)])) o):=by
 refine Wp.iter ?_
 intro s st o hg h
 obtain ⟨s8,s9⟩:=s
 unfold zdb at h;unfold z1l zta at hg ⊢
 (try simp only [] at h hg)
 unfold yag zae Try.f74;simp only [zal,ens]
 revert h
 repeat' first | (with_reducible refine gB fun _ _=>?_) | (with_reducible refine gT (fun _ _=>?_) (fun _ _=>?_)) | (with_reducible refine gI (fun _ _=>?_) (fun _ _=>?_))
 all_goals
  intro h;obtain rfl:=Option.some.inj h
  first | (simp (maxSteps:=10000000) (implicitDefEqProofs:=false) (disch:=first | with_reducible assumption | exact rfl | exact im_ _ | (fail_if_success show Kn _ _);omega) only [bs,rs74,ls74Z,Nat.reduceAdd,↓reduceIte,zbw,zai,zah a84 z84,zab a64,zab a80,zg8,zgj,zje hrec,zjb hrec,zi9,hg];first | (exact ⟨(rfl:Ex.normal=Ex.normal),by kernel_rfl⟩) | (exact ⟨(rfl:Ex.exit 0=Ex.exit 0),rfl,by kernel_rfl⟩)) | (exfalso;omega)
theorem ydc {rec:Int→Int→Int→(List Int)→(List Int)→Option ((List Int)×(List Int))} (hrec:∀ x1 x2 x3 o0 o2 r,rec x1 x2 x3 o0 o2=some r→callW Try.prog A0 74 [.agg [.fn (.func 42) [.ptr 0 0,.ptr 1 0],sw68 2 o2.length],iv x1,iv x2,iv x3] [.var [.p (.lst false o0.length (encL zad o0))],.var [.ref 2 0 o2.length 1],.arr (encL zad o2)]=some (.p (.tup []),[.var [.p (.lst false r.1.length (encL zad r.1))],.var [.ref 2 0 r.2.length 1],.arr (encL zad r.2)]))  (x1:Int) (x2:Int) (x3:Int) (o0:(List Int)) (o2:(List Int)) (r:((List Int)×(List Int))) (h:sort_symMerge_funcZ.body rec x1 x2 x3 o0 o2=some r):callW Try.prog A0 74 [.agg [.fn (.func 42) [.ptr 0 0,.ptr 1 0],sw68 2 o2.length],iv x1,iv x2,iv x3] [.var [.p (.lst false o0.length (encL zad o0))],.var [.ref 2 0 o2.length 1],.arr (encL zad o2)]=some (.p (.tup []),[.var [.p (.lst false r.1.length (encL zad r.1))],.var [.ref 2 0 r.2.length 1],.arr (encL zad r.2)]):=by
 refine zax (fn:=Try.f74) (c:=zae Try.f74) 173 rfl rfl (by kernel_rfl) (by kernel_rfl) (by kernel_rfl) ?_
 unfold sort_symMerge_funcZ.body at h;unfold zae Try.f74;simp only [ens]
 revert h
 refine gI (fun h1 _=>?_) (fun h1 _=>?_)
 ·refine gB fun o h10=>?_
  intro h
  simp (maxSteps:=10000000) (implicitDefEqProofs:=false) (disch:=first | with_reducible assumption | exact rfl | exact im_ _ | (fail_if_success show Kn _ _);omega) only [bs,rs74,ls74Z,Nat.reduceAdd,↓reduceIte,zbw,zai,zah a84 z84,zab a64,zab a80,zg8,zgj,zje hrec,zjb hrec,zi9]
  refine Wp.ctx (fun x=>seqW _ _ _ _ (seqW _ _ _ _ (za5 _ (x)))) (z35 hrec x1 o0 o2 (x2,x3) _ o (by kernel_rfl) h10) ?_
  intro e st hq
  cases o with
  | next _=>(first | cases h | (simp at h))
  | jmp n_ s_ =>
   obtain ⟨rfl,rfl,hq⟩:=hq
   obtain ⟨s8_11,s9_11⟩:=s_
   unfold zta at hq
   (try simp only [] at h hq)
   revert h
   refine gB fun o h17=>?_
   intro h
   simp (maxSteps:=10000000) (implicitDefEqProofs:=false) (disch:=first | with_reducible assumption | exact rfl | exact im_ _ | (fail_if_success show Kn _ _);omega) only [bs,rs74,ls74Z,Nat.reduceAdd,↓reduceIte,zbw,zai,zah a84 z84,zab a64,zab a80,zg8,zgj,zje hrec,zjb hrec,zi9,hq]
   refine Wp.ctx (fun x=>seqW _ _ _ _ (seqW _ _ _ _ (za5 _ (x)))) (z27 hrec s8_11 o0 (x1,o2) _ o (by kernel_rfl) h17) ?_
   intro e st hq
   cases o with
   | next _=>(first | cases h | (simp at h))
   | jmp n_ s_ =>
    obtain ⟨rfl,rfl,hq⟩:=hq
    obtain ⟨s11_18,y2_18⟩:=s_
    obtain rfl:=Option.some.inj h
    simp (maxSteps:=10000000) (implicitDefEqProofs:=false) (disch:=first | with_reducible assumption | exact rfl | exact im_ _ | (fail_if_success show Kn _ _);omega) only [bs,rs74,ls74Z,Nat.reduceAdd,↓reduceIte,zbw,zai,zah a84 z84,zab a64,zab a80,zg8,zgj,zje hrec,zjb hrec,zi9]
    exact ⟨by simp,hq⟩
   | ret _=>(first | cases h | (simp at h))
  | ret _=>(first | cases h | (simp at h))
 ·refine gI (fun h19 _=>?_) (fun h19 _=>?_)
  ·refine gB fun o h28=>?_
   intro h
   simp (maxSteps:=10000000) (implicitDefEqProofs:=false) (disch:=first | with_reducible assumption | exact rfl | exact im_ _ | (fail_if_success show Kn _ _);omega) only [bs,rs74,ls74Z,Nat.reduceAdd,↓reduceIte,zbw,zai,zah a84 z84,zab a64,zab a80,zg8,zgj,zje hrec,zjb hrec,zi9]
   refine Wp.ctx (fun x=>seqW _ _ _ _ (seqW _ _ _ _ (za5 _ (x)))) (z4r hrec x2 o0 o2 (x1,x2) _ o (by kernel_rfl) h28) ?_
   intro e st hq
   cases o with
   | next _=>(first | cases h | (simp at h))
   | jmp n_ s_ =>
    obtain ⟨rfl,rfl,hq⟩:=hq
    obtain ⟨s12_29,s13_29⟩:=s_
    unfold zu3 at hq
    (try simp only [] at h hq)
    revert h
    refine gB fun o h35=>?_
    intro h
    simp (maxSteps:=10000000) (implicitDefEqProofs:=false) (disch:=first | with_reducible assumption | exact rfl | exact im_ _ | (fail_if_success show Kn _ _);omega) only [bs,rs74,ls74Z,Nat.reduceAdd,↓reduceIte,zbw,zai,zah a84 z84,zab a64,zab a80,zg8,zgj,zje hrec,zjb hrec,zi9,hq]
    refine Wp.ctx (fun x=>seqW _ _ _ _ (seqW _ _ _ _ (za5 _ (x)))) (z49 hrec s12_29 o0 (x2,o2) _ o (by kernel_rfl) h35) ?_
    intro e st hq
    cases o with
    | next _=>(first | cases h | (simp at h))
    | jmp n_ s_ =>
     obtain ⟨rfl,rfl,hq⟩:=hq
     obtain ⟨s15_36,y2_36⟩:=s_
     obtain rfl:=Option.some.inj h
     simp (maxSteps:=10000000) (implicitDefEqProofs:=false) (disch:=first | with_reducible assumption | exact rfl | exact im_ _ | (fail_if_success show Kn _ _);omega) only [bs,rs74,ls74Z,Nat.reduceAdd,↓reduceIte,zbw,zai,zah a84 z84,zab a64,zab a80,zg8,zgj,zje hrec,zjb hrec,zi9]
     exact ⟨by simp,hq⟩
    | ret _=>(first | cases h | (simp at h))
   | ret _=>(first | cases h | (simp at h))
  ·refine gB fun q37 h38=>?_
   refine gI (fun h40 _=>?_) (fun h40 _=>?_)
   ·refine gB fun o h49=>?_
    intro h
    simp (maxSteps:=10000000) (implicitDefEqProofs:=false) (disch:=first | with_reducible assumption | exact rfl | exact im_ _ | (fail_if_success show Kn _ _);omega) only [bs,rs74,ls74Z,Nat.reduceAdd,↓reduceIte,zbw,zai,zah a84 z84,zab a64,zab a80,zg8,zgj,zje hrec,zjb hrec,zi9]
    refine Wp.ctx (fun x=>seqW _ _ _ _ (za5 _ (x))) (zt5 hrec x1 x2 x3 (IntKind.wrap .i64 q37) (w64 ((IntKind.wrap .i64 q37)+x2)) (w64 ((w64 ((IntKind.wrap .i64 q37)+x2)) - (1:Int))) o0 o2 (w64 ((w64 ((IntKind.wrap .i64 q37)+x2)) - x3),IntKind.wrap .i64 q37) _ o (by kernel_rfl) h49) ?_
    intro e st hq
    cases o with
    | next _=>(first | cases h | (simp at h))
    | jmp n_ s_ =>
     obtain ⟨rfl,rfl,hq⟩:=hq
     obtain ⟨s18_50,s19_50⟩:=s_
     unfold zqs at hq
     (try simp only [] at h hq)
     revert h
     repeat' first | (with_reducible refine gB fun _ _=>?_) | (with_reducible refine gW fun _=>?_) | (with_reducible refine gI (fun _ _=>?_) (fun _ _=>?_))
     all_goals
      intro h;obtain rfl:=Option.some.inj h
      first | (simp (maxSteps:=10000000) (implicitDefEqProofs:=false) (disch:=first | with_reducible assumption | exact rfl | exact im_ _ | (fail_if_success show Kn _ _);omega) only [bs,rs74,ls74Z,Nat.reduceAdd,↓reduceIte,zbw,zai,zah a84 z84,zab a64,zab a80,zg8,zgj,zje hrec,zjb hrec,zi9,hq];first | (refine ⟨by simp, ?_⟩;show _=_;(try simp only [List.length_set,zbx, *]);kernel_rfl) | (refine ⟨by simp, ?_⟩;show _=_;kernel_rfl)) | (exfalso;omega)
    | ret _=>(first | cases h | (simp at h))
   ·refine gB fun o h137=>?_
    intro h
    simp (maxSteps:=10000000) (implicitDefEqProofs:=false) (disch:=first | with_reducible assumption | exact rfl | exact im_ _ | (fail_if_success show Kn _ _);omega) only [bs,rs74,ls74Z,Nat.reduceAdd,↓reduceIte,zbw,zai,zah a84 z84,zab a64,zab a80,zg8,zgj,zje hrec,zjb hrec,zi9]
    refine Wp.ctx (fun x=>seqW _ _ _ _ (za5 _ (x))) (zt5 hrec x1 x2 x3 (IntKind.wrap .i64 q37) (w64 ((IntKind.wrap .i64 q37)+x2)) (w64 ((w64 ((IntKind.wrap .i64 q37)+x2)) - (1:Int))) o0 o2 (x1,x2) _ o (by kernel_rfl) h137) ?_
    intro e st hq
    cases o with
    | next _=>(first | cases h | (simp at h))
    | jmp n_ s_ =>
     obtain ⟨rfl,rfl,hq⟩:=hq
     obtain ⟨s18_138,s19_138⟩:=s_
     unfold zqs at hq
     (try simp only [] at h hq)
     revert h
     repeat' first | (with_reducible refine gB fun _ _=>?_) | (with_reducible refine gW fun _=>?_) | (with_reducible refine gI (fun _ _=>?_) (fun _ _=>?_))
     all_goals
      intro h;obtain rfl:=Option.some.inj h
      first | (simp (maxSteps:=10000000) (implicitDefEqProofs:=false) (disch:=first | with_reducible assumption | exact rfl | exact im_ _ | (fail_if_success show Kn _ _);omega) only [bs,rs74,ls74Z,Nat.reduceAdd,↓reduceIte,zbw,zai,zah a84 z84,zab a64,zab a80,zg8,zgj,zje hrec,zjb hrec,zi9,hq];first | (refine ⟨by simp, ?_⟩;show _=_;(try simp only [List.length_set,zbx, *]);kernel_rfl) | (refine ⟨by simp, ?_⟩;show _=_;kernel_rfl)) | (exfalso;omega)
    | ret _=>(first | cases h | (simp at h))
theorem z5a:∀ (x1:Int) (x2:Int) (x3:Int) (o0:(List Int)) (o2:(List Int)) r,symF x1 x2 x3 o0 o2=some r→callW Try.prog A0 74 [.agg [.fn (.func 42) [.ptr 0 0,.ptr 1 0],sw68 2 o2.length],iv x1,iv x2,iv x3] [.var [.p (.lst false o0.length (encL zad o0))],.var [.ref 2 0 o2.length 1],.arr (encL zad o2)]=some (.p (.tup []),[.var [.p (.lst false r.1.length (encL zad r.1))],.var [.ref 2 0 r.2.length 1],.arr (encL zad r.2)]):=by
 have key:∀ n (x1:Int) (x2:Int) (x3:Int) (o0:(List Int)) (o2:(List Int)) r,zkw x1 x2 x3 o0 o2<n→symF x1 x2 x3 o0 o2=some r→callW Try.prog A0 74 [.agg [.fn (.func 42) [.ptr 0 0,.ptr 1 0],sw68 2 o2.length],iv x1,iv x2,iv x3] [.var [.p (.lst false o0.length (encL zad o0))],.var [.ref 2 0 o2.length 1],.arr (encL zad o2)]=some (.p (.tup []),[.var [.p (.lst false r.1.length (encL zad r.1))],.var [.ref 2 0 r.2.length 1],.arr (encL zad r.2)]):=by
  intro n
  induction n with
  | zero=>intro x1 x2 x3 o0 o2 r h;omega
  | succ n ih =>
   intro x1 x2 x3 o0 o2 r hn h
   refine ydc (rec:=fun x1' x2' x3' o0' o2'=>if zkw x1' x2' x3' o0' o2'<zkw x1 x2 x3 o0 o2 then symF x1' x2' x3' o0' o2' else none) ?_ x1 x2 x3 o0 o2 r (z48 x1 x2 x3 o0 o2 r h)
   intro x1' x2' x3' o0' o2' r' h'
   by_cases hm:zkw x1' x2' x3' o0' o2'<zkw x1 x2 x3 o0 o2
   ·rw [if_pos hm] at h';exact ih x1' x2' x3' o0' o2' r' (by omega) h'
   ·rw [if_neg hm] at h';cases h'
 intro x1 x2 x3 o0 o2 r h
 exact key _ x1 x2 x3 o0 o2 r (Nat.lt_succ_self _) h
def ls57Z:=@zjk
theorem zob {a1 a3:List Int}{a4 a5 a6:Int}{r9001:((List Int)×(List Int))}{X3:Ob} (h9002:symF a4 a5 a6 a3 a1=some r9001):callD (callW Try.prog A0) A0 [.var [.p (.lst false a3.length (encL zad a3))],.var [.ref 2 0 a1.length 1],.arr (encL zad a1),X3] 74 [.agg [.fn (.func 42) [.ptr 0 0,.ptr 1 0],sw68 2 a1.length],iv a4,iv a5,iv a6]=some (.p (.tup []),some [.var [.p (.lst false r9001.1.length (encL zad r9001.1))],.var [.ref 2 0 r9001.2.length 1],.arr (encL zad r9001.2),X3]):=(zbe (dsw:=[.agg [.fn (.func 42) [.ptr 0 0,.ptr 1 0],sw68 2 a1.length],iv a4,iv a5,iv a6]) (ds':=[.agg [.fn (.func 42) [.ptr 0 0,.ptr 1 0],sw68 2 a1.length],iv a4,iv a5,iv a6]) (i:=0) (ids:=[1,2]) (o:=.var [.p (.lst false a3.length (encL zad a3))]) (os:=[.var [.ref 2 0 a1.length 1],.arr (encL zad a1)]) (o':=.var [.p (.lst false r9001.1.length (encL zad r9001.1))]) (os':=[.var [.ref 2 0 r9001.2.length 1],.arr (encL zad r9001.2)]) rfl (by kernel_rfl) (by kernel_rfl) (by kernel_rfl) (by kernel_rfl) (by kernel_rfl) (z5a _ _ _ _ _ _ h9002) rfl rfl).trans (by kernel_rfl)
noncomputable def yak:Code:=(zal (zae Try.f57)).getD 2 .skip
def z17:List Ghost:=[.keep [1,2,4,5,6]]
noncomputable def ztx (s1:Int) (s4:Int):(Int×Int×(List Int)×(List Int))→St:=fun (s5,s6,w0_0,y2)=>⟨[J,iv s1,.ptr 3 0,J,iv s4,iv s5,iv s6,J,J,J,J,J,J,J,J,J,J,J,J,J,J,J,J,J,J,J,J,J,J,J,J,J,J,J,J,J,J,J,J,J,J,J,J,J,J,J,J,J,J,J,J,J,J,J,J,J,J],[.var [.p (.lst false w0_0.length (encL zad w0_0))],.var [.ref 2 0 y2.length 1],.arr (encL zad y2),.var [.fn (.func 42) [.ptr 0 0,.ptr 1 0],sw68 2 y2.length]],3⟩
theorem z3v (s1:Int) (s4:Int):∀ s st o,zak z17 st=some (ztx s1 s4 s)→iter (zds s1 s4) s=some o →
    Wp (evW Try.prog A0 57 (.loop yak) st) (OutQ (ztx s1 s4) z17 (fun n s st=>n=4∧zak [.keep [1,2,4,5,6]] st=some (ztx s1 s4 s)) (fun r st=>zap Try.prog A0 57 Try.f57 st=some (.p (.tup []),[.var [.p (.lst false r.1.length (encL zad r.1))],.var [.ref 2 0 r.2.length 1],.arr (encL zad r.2)])) o):=by
 refine Wp.iter ?_
 intro s st o hg h
 obtain ⟨s5,s6,w0_0,y2⟩:=s
 unfold zds at h;unfold z17 ztx at hg ⊢
 (try simp only [] at h hg)
 unfold yak zae Try.f57;simp only [zal,ens]
 revert h
 repeat' first | (with_reducible refine gB fun _ _=>?_) | (with_reducible refine gW fun _=>?_) | (with_reducible refine gI (fun _ _=>?_) (fun _ _=>?_))
 all_goals
  intro h;obtain rfl:=Option.some.inj h
  first | (simp (maxSteps:=10000000) (implicitDefEqProofs:=false) (disch:=first | with_reducible assumption | exact rfl | exact im_ _ | (fail_if_success show Kn _ _);omega) only [bs,rs57,ls57Z,Nat.reduceAdd,↓reduceIte,zai,zah a84 z84,zof,zob,hg];first | (exact ⟨(rfl:Ex.normal=Ex.normal),by (try simp only [List.length_set,zbx, *]);kernel_rfl⟩) | (exact ⟨(rfl:Ex.exit 4=Ex.exit 4),rfl,by kernel_rfl⟩)) | (exfalso;omega)
noncomputable def z94:Code:=(zal (zae Try.f57)).getD 1 .skip
def z1f:List Ghost:=[.keep [1,2,4]]
noncomputable def zxt (s1:Int):(Int×(List Int)×(List Int))→St:=fun (s4,w0_0,y2)=>⟨[J,iv s1,.ptr 3 0,J,iv s4,J,J,J,J,J,J,J,J,J,J,J,J,J,J,J,J,J,J,J,J,J,J,J,J,J,J,J,J,J,J,J,J,J,J,J,J,J,J,J,J,J,J,J,J,J,J,J,J,J,J,J,J],[.var [.p (.lst false w0_0.length (encL zad w0_0))],.var [.ref 2 0 y2.length 1],.arr (encL zad y2),.var [.fn (.func 42) [.ptr 0 0,.ptr 1 0],sw68 2 y2.length]],3⟩
theorem z1e (s1:Int):∀ s st o,zak z1f st=some (zxt s1 s)→iter (zdw s1) s=some o →
    Wp (evW Try.prog A0 57 (.loop z94) st) (OutQ (zxt s1) z1f (fun n s st=>n=2∧(match s with | (s4,w0_0,y2)=>zap Try.prog A0 57 Try.f57 st=some (.p (.tup []),[.var [.p (.lst false ((w0_0,y2).1).length (encL zad ((w0_0,y2).1)))],.var [.ref 2 0 (((w0_0,y2).2).length) 1],.arr (encL zad ((w0_0,y2).2))]))) (fun r st=>zap Try.prog A0 57 Try.f57 st=some (.p (.tup []),[.var [.p (.lst false r.1.length (encL zad r.1))],.var [.ref 2 0 r.2.length 1],.arr (encL zad r.2)])) o):=by
 refine Wp.iter ?_
 intro s st o hg h
 obtain ⟨s4,w0_0,y2⟩:=s
 unfold zdw at h;unfold z1f zxt at hg ⊢
 (try simp only [] at h hg)
 unfold z94 zae Try.f57;simp only [zal,ens]
 revert h
 refine gI (fun h12 _=>?_) (fun h12 _=>?_)
 ·refine gB fun o h18=>?_
  intro h
  simp (maxSteps:=10000000) (implicitDefEqProofs:=false) (disch:=first | with_reducible assumption | exact rfl | exact im_ _ | (fail_if_success show Kn _ _);omega) only [bs,rs57,ls57Z,Nat.reduceAdd,↓reduceIte,zai,zah a84 z84,zof,zob,hg]
  refine Wp.ctx (fun x=>za5 _ (seqW _ _ _ _ (za5 _ (x)))) (z3v s1 s4 ((0:Int),w64 ((2:Int)*s4),w0_0,y2) _ o (by kernel_rfl) h18) ?_
  intro e st hq
  cases o with
  | next _=>(first | cases h | (simp at h))
  | jmp n_ s_ =>
   obtain ⟨rfl,rfl,hq⟩:=hq
   obtain ⟨s5_19,s6_19,w0_0_19,y2_19⟩:=s_
   unfold ztx at hq
   (try simp only [] at h hq)
   revert h
   repeat' first | (with_reducible refine gB fun _ _=>?_) | (with_reducible refine gW fun _=>?_) | (with_reducible refine gI (fun _ _=>?_) (fun _ _=>?_))
   all_goals
    intro h;obtain rfl:=Option.some.inj h
    first | (simp (maxSteps:=10000000) (implicitDefEqProofs:=false) (disch:=first | with_reducible assumption | exact rfl | exact im_ _ | (fail_if_success show Kn _ _);omega) only [bs,rs57,ls57Z,Nat.reduceAdd,↓reduceIte,zai,zah a84 z84,zof,zob,hg,hq];first | (exact ⟨(rfl:Ex.normal=Ex.normal),by (try simp only [List.length_set,zbx, *]);kernel_rfl⟩) | (exact ⟨(rfl:Ex.normal=Ex.normal),by kernel_rfl⟩)) | (exfalso;omega)
  | ret _=>(first | cases h | (simp at h))
 ·intro h;obtain rfl:=Option.some.inj h
  simp (maxSteps:=10000000) (implicitDefEqProofs:=false) (disch:=first | with_reducible assumption | exact rfl | exact im_ _ | (fail_if_success show Kn _ _);omega) only [bs,rs57,ls57Z,Nat.reduceAdd,↓reduceIte,zai,zah a84 z84,zof,zob,hg]
  refine ⟨(rfl:Ex.exit 2=Ex.exit 2),rfl, ?_⟩;show _=_;kernel_rfl
noncomputable def z90:Code:=(zal (zae Try.f57)).getD 0 .skip
def z22:List Ghost:=[.keep [1,2,4,5,6]]
noncomputable def zuy (s1:Int) (s4:Int):(Int×Int×(List Int)×(List Int))→St:=fun (s5,s6,w0_0,y2)=>⟨[J,iv s1,.ptr 3 0,J,iv s4,iv s5,iv s6,J,J,J,J,J,J,J,J,J,J,J,J,J,J,J,J,J,J,J,J,J,J,J,J,J,J,J,J,J,J,J,J,J,J,J,J,J,J,J,J,J,J,J,J,J,J,J,J,J,J],[.var [.p (.lst false w0_0.length (encL zad w0_0))],.var [.ref 2 0 y2.length 1],.arr (encL zad y2),.var [.fn (.func 42) [.ptr 0 0,.ptr 1 0],sw68 2 y2.length]],3⟩
theorem z2g (s1:Int) (s4:Int):∀ s st o,zak z22 st=some (zuy s1 s4 s)→iter (zdv s1 s4) s=some o →
    Wp (evW Try.prog A0 57 (.loop z90) st) (OutQ (zuy s1 s4) z22 (fun n s st=>n=0∧zak [.keep [1,2,4,5,6]] st=some (zuy s1 s4 s)) (fun r st=>zap Try.prog A0 57 Try.f57 st=some (.p (.tup []),[.var [.p (.lst false r.1.length (encL zad r.1))],.var [.ref 2 0 r.2.length 1],.arr (encL zad r.2)])) o):=by
 refine Wp.iter ?_
 intro s st o hg h
 obtain ⟨s5,s6,w0_0,y2⟩:=s
 unfold zdv at h;unfold z22 zuy at hg ⊢
 (try simp only [] at h hg)
 unfold z90 zae Try.f57;simp only [zal,ens]
 revert h
 repeat' first | (with_reducible refine gB fun _ _=>?_) | (with_reducible refine gW fun _=>?_) | (with_reducible refine gI (fun _ _=>?_) (fun _ _=>?_))
 all_goals
  intro h;obtain rfl:=Option.some.inj h
  first | (simp (maxSteps:=10000000) (implicitDefEqProofs:=false) (disch:=first | with_reducible assumption | exact rfl | exact im_ _ | (fail_if_success show Kn _ _);omega) only [bs,rs57,ls57Z,Nat.reduceAdd,↓reduceIte,zai,zah a84 z84,zof,zob,hg];first | (exact ⟨(rfl:Ex.normal=Ex.normal),by (try simp only [List.length_set,zbx, *]);kernel_rfl⟩) | (exact ⟨(rfl:Ex.exit 0=Ex.exit 0),rfl,by kernel_rfl⟩)) | (exfalso;omega)
theorem ydg  (x1:Int) (o0:(List Int)) (o2:(List Int)) (r:((List Int)×(List Int))) (h:zfc x1 o0 o2=some r):callW Try.prog A0 57 [.agg [.fn (.func 42) [.ptr 0 0,.ptr 1 0],sw68 2 o2.length],iv x1] [.var [.p (.lst false o0.length (encL zad o0))],.var [.ref 2 0 o2.length 1],.arr (encL zad o2)]=some (.p (.tup []),[.var [.p (.lst false r.1.length (encL zad r.1))],.var [.ref 2 0 r.2.length 1],.arr (encL zad r.2)]):=by
 refine zax (fn:=Try.f57) (c:=zae Try.f57) 55 rfl rfl (by kernel_rfl) (by kernel_rfl) (by kernel_rfl) ?_
 unfold zfc at h;unfold zae Try.f57;simp only [ens]
 revert h
 refine gB fun o h6=>?_
 intro h
 simp (maxSteps:=10000000) (implicitDefEqProofs:=false) (disch:=first | with_reducible assumption | exact rfl | exact im_ _ | (fail_if_success show Kn _ _);omega) only [bs,rs57,ls57Z,Nat.reduceAdd,↓reduceIte,zai,zah a84 z84,zof,zob]
 refine Wp.ctx (fun x=>seqW _ _ _ _ (za5 _ (x))) (z2g x1 (20:Int) ((0:Int),(20:Int),o0,o2) _ o (by kernel_rfl) h6) ?_
 intro e st hq
 cases o with
 | next _=>(first | cases h | (simp at h))
 | jmp n_ s_ =>
  obtain ⟨rfl,rfl,hq⟩:=hq
  obtain ⟨s5_7,s6_7,w0_0_7,y2_7⟩:=s_
  unfold zuy at hq
  (try simp only [] at h hq)
  revert h
  refine gB fun r8 h9=>?_
  refine gW fun h11=>?_
  refine gB fun o h25=>?_
  intro h
  simp (maxSteps:=10000000) (implicitDefEqProofs:=false) (disch:=first | with_reducible assumption | exact rfl | exact im_ _ | (fail_if_success show Kn _ _);omega) only [bs,rs57,ls57Z,Nat.reduceAdd,↓reduceIte,zai,zah a84 z84,zof,zob,hq]
  refine Wp.ctx (fun x=>za5 _ (x)) (z1e x1 ((20:Int),r8.1,r8.2) _ o (by unfold zxt;simp only [List.length_set,zbx,h11];kernel_rfl) h25) ?_
  intro e st hq
  cases o with
  | next _=>(first | cases h | (simp at h))
  | jmp n_ s_ =>
   obtain ⟨rfl,rfl,hq⟩:=hq
   obtain ⟨s4_26,w0_0_26,y2_26⟩:=s_
   obtain rfl:=Option.some.inj h
   simp (maxSteps:=10000000) (implicitDefEqProofs:=false) (disch:=first | with_reducible assumption | exact rfl | exact im_ _ | (fail_if_success show Kn _ _);omega) only [bs,rs57,ls57Z,Nat.reduceAdd,↓reduceIte,zai,zah a84 z84,zof,zob]
   exact ⟨by simp,hq⟩
  | ret _=>(first | cases h | (simp at h))
 | ret _=>(first | cases h | (simp at h))
def ls41Z:=And.intro @al_78 (And.intro @zyb (And.intro @zqm (@zud)))
theorem yg4 {a1 a3:List Int}{a4:Int}{r9001:((List Int)×(List Int))}{X3 X4:Ob} (h9002:zfc a4 a3 a1=some r9001):callD (callW Try.prog A0) A0 [.arr (encL zad a1),.var [.p (.lst false a3.length (encL zad a3))],.var [.ref 0 0 a1.length 1],X3,X4] 57 [.agg [.fn (.func 42) [.ptr 1 0,.ptr 2 0],sw68 0 a1.length],iv a4]=some (.p (.tup []),some [.arr (encL zad r9001.2),.var [.p (.lst false r9001.1.length (encL zad r9001.1))],.var [.ref 0 0 r9001.2.length 1],X3,X4]):=(zbe (dsw:=[.agg [.fn (.func 42) [.ptr 1 0,.ptr 2 0],sw68 0 a1.length],iv a4]) (ds':=[.agg [.fn (.func 42) [.ptr 0 0,.ptr 1 0],sw68 2 a1.length],iv a4]) (i:=1) (ids:=[2,0]) (o:=.var [.p (.lst false a3.length (encL zad a3))]) (os:=[.var [.ref 2 0 a1.length 1],.arr (encL zad a1)]) (o':=.var [.p (.lst false r9001.1.length (encL zad r9001.1))]) (os':=[.var [.ref 2 0 r9001.2.length 1],.arr (encL zad r9001.2)]) rfl (by kernel_rfl) (by kernel_rfl) (by kernel_rfl) (by kernel_rfl) (by kernel_rfl) (ydg _ _ _ _ h9002) rfl rfl).trans (by kernel_rfl)
theorem yj0 {a1:List Int}{X1 X2 X4:Ob}:callD (callW Try.prog A0) A0 [.arr (encL zad a1),X1,X2,.var [.ref 0 0 a1.length 1],X4] 58 [.agg [.p (.v (typeHandle Try.prog 40)),.ptr 3 0,.p (.v (.int .u64 (151:Int)))]]=some (iv (a1.length:Int),some [.arr (encL zad a1),X1,X2,.var [.ref 0 0 a1.length 1],X4]):=(zka (dsw:=[.agg [.p (.v (typeHandle Try.prog 40)),.ptr 3 0,.p (.v (.int .u64 (151:Int)))]]) (ds':=[.agg [.p (.v (typeHandle Try.prog 40)),.ptr 0 0,.p (.v (.int .u64 151))]]) (i:=3) (ids:=[0]) (o:=.var [.ref 1 0 a1.length 1]) (os:=[.arr (encL zad a1)]) (x:=.p (.v (.int .i64 (a1.length:Int)))) (o':=.var [.ref 1 0 a1.length 1]) (os':=[.arr (encL zad a1)]) rfl (by kernel_rfl) (by kernel_rfl) (by kernel_rfl) (by kernel_rfl) (by kernel_rfl) (zod rfl (by kernel_rfl) (by kernel_rfl) (by kernel_rfl) u40) rfl rfl).trans (by kernel_rfl)
theorem ydw {a1:List Int}{X1 X2 X3 X4:Ob} (h9003:2≤a1.length):callD (callW Try.prog A0) A0 [.arr (encL zad a1),X1,X2,X3,X4] 56 [.ifc 40 (.ref 0 0 a1.length 1)]=some (sw68 0 a1.length,some [.arr (encL zad a1),X1,X2,X3,X4]):=(zka (dsw:=[.ifc 40 (.ref 0 0 a1.length 1)]) (ds':=[.ifc 40 (.ref 0 0 a1.length 1)]) (i:=0) (ids:=[]) (o:=.arr (encL zad a1)) (os:=[]) (x:=.fn (.func 68) [.ref 0 0 a1.length 1,.p (.v (typeHandle Try.prog 3))]) (o':=.arr (encL zad a1)) (os':=[]) rfl (by kernel_rfl) (by kernel_rfl) (by kernel_rfl) (by kernel_rfl) (by kernel_rfl) (zmq rfl rfl (by assumption)) rfl rfl).trans (by kernel_rfl)
theorem yfk {a1:List Int}{X1 X2:Ob}:callD (callW Try.prog A0) A0 [.arr (encL zad a1),X1,X2] 55 [.ifc 40 (.ref 0 0 a1.length 1)]=some (.agg [.p (.v (typeHandle Try.prog 40)),.ptr 3 0,.p (.v (.int .u64 (151:Int)))],some [.arr (encL zad a1),X1,X2,.var [.ref 0 0 a1.length 1]]):=(zka (dsw:=[.ifc 40 (.ref 0 0 a1.length 1)]) (ds':=[.ifc 40 (.ref 0 0 a1.length 1)]) (i:=0) (ids:=[]) (o:=.arr (encL zad a1)) (os:=[]) (x:=.agg [.p (.v (typeHandle Try.prog 40)),.ptr 1 0,.p (.v (.int .u64 151))]) (o':=.arr (encL zad a1)) (os':=[.var [.ref 0 0 a1.length 1]]) rfl (by kernel_rfl) (by kernel_rfl) (by kernel_rfl) (by kernel_rfl) (by kernel_rfl) (zm1 rfl (by kernel_rfl)) rfl rfl).trans (by kernel_rfl)
theorem ya0  (o0:(List Int)) (o1:(List Int)) (r:((List Int)×(List Int))) (h:zg0 o0 o1=some r):callW Try.prog A0 41 [.ifc 40 (.ref 0 0 o0.length 1),.fn (.func 42) [.ptr 1 0,.ptr 2 0]] [.arr (encL zad o0),.var [.p (.lst false o1.length (encL zad o1))],.var [.ref 0 0 o0.length 1]]=some (.p (.tup []),[.arr (encL zad r.1),.var [.p (.lst false r.2.length (encL zad r.2))],.var [.ref 0 0 r.1.length 1]]):=by
 refine zax (fn:=Try.f41) (c:=zae Try.f41) 14 rfl rfl (by kernel_rfl) (by kernel_rfl) (by kernel_rfl) ?_
 unfold zg0 at h;unfold zae Try.f41;simp only [ens]
 revert h
 repeat' first | (with_reducible refine gB fun _ _=>?_) | (with_reducible refine gW fun _=>?_)
 intro h;obtain rfl:=Option.some.inj h
 simp (maxSteps:=10000000) (implicitDefEqProofs:=false) (disch:=first | with_reducible assumption | exact rfl | exact im_ _ | (fail_if_success show Kn _ _);omega) only [bs,rs41,ls41Z,Nat.reduceAdd,↓reduceIte,zah a78 z78,yfk,ydw,yg4,yj0,zoy z78]
 refine ⟨by simp, ?_⟩;show _=_;(try simp only [List.length_set,zbx, *]);kernel_rfl
theorem zj1 {o0:(List Int)}{o1:(List Int)}{r:((List Int)×(List Int))} (h:zew o0 o1=some r):callW Try.prog A0 41 [.ifc 40 (.ref 0 0 o0.length 1),.fn (.func 42) [.ptr 1 0,.ptr 2 0]] [.arr (encL zad o0),.var [.p (.lst false o1.length (encL zad o1))],.var [.ref 0 0 o0.length 1]]=some (.p (.tup []),[.arr (encL zad r.1),.var [.p (.lst false r.2.length (encL zad r.2))],.var [.ref 0 0 r.1.length 1]]):=by
 unfold zew at h
 match o0,h with
 | [],h=>rw [if_pos (by simp)] at h;obtain rfl:=Option.some.inj h;exact zeb.2 ⟨60,by kernel_rfl⟩
 | [y],h=>rw [if_pos (by simp)] at h;obtain rfl:=Option.some.inj h;exact zeb.2 ⟨60,by kernel_rfl⟩
 | y :: z :: l,h=>rw [if_neg (by simp only [List.length_cons];omega)] at h;exact ya0 _ _ _ h
def ls76:=And.intro @zwc (@yjf)
theorem c23_0 {H:List Ob}{a1:Bool}{a2:List Node}{r:(List Int)} (h:zj4 a2=some r):callD (callW Try.prog A0) A0 H 23 [.p (.lst a1 a2.length (encL en_Node a2))]=some (.p (.lst false r.length (encL zad r)),none) :=
 zbp (args:=[.lst a1 a2.length (encL en_Node a2)]) rfl rfl rfl (by simp only [List.map_cons,List.map_nil,wk,wks,wkL];exact yhi a2 _ h)
theorem ydu  (x0:Int) (r:Int) (h:zdq x0=some r):callW Try.prog A0 76 [.p (.v (.int .u64 x0))] []=some (.p (.v (.int .i64 r)),[]):=by
 refine zax (fn:=Try.f76) (c:=zae Try.f76) 24 rfl rfl (by kernel_rfl) (by kernel_rfl) (by kernel_rfl) ?_
 unfold zdq at h;unfold zae Try.f76;simp only [ens]
 revert h
 repeat' first | (with_reducible refine gB fun _ _=>?_) | (with_reducible refine gI (fun _ _=>?_) (fun _ _=>?_))
 all_goals
  intro h;obtain rfl:=Option.some.inj h
  first | (simp (maxSteps:=10000000) (implicitDefEqProofs:=false) (disch:=first | with_reducible assumption | exact rfl | exact im_ _ | (fail_if_success show Kn _ _);omega) only [bs,rs76,ls76,Nat.reduceAdd,↓reduceIte,zzg,zbw,zh0 Try.underlying9];refine ⟨by simp, ?_⟩;exact zco rfl rfl rfl rfl) | (exfalso;omega)
theorem c76_0 {H:List Ob}{a1:Int}{r:Int} (h:zdq a1=some r):callD (callW Try.prog A0) A0 H 76 [.p (.v (.int .u64 a1))]=some (.p (.v (.int .i64 r)),none) :=
 zbp (args:=[.v (.int .u64 a1)]) rfl rfl rfl (by simp only [List.map_cons,List.map_nil,wk,wks,wkL];exact ydu a1 _ h)
theorem yj3  (x0:Int) (r:Int) (h:zdj x0=some r):callW Try.prog A0 59 [.p (.v (.int .u64 x0))] []=some (.p (.v (.int .i64 r)),[]):=by
 refine zax (fn:=Try.f59) (c:=zae Try.f59) 7 rfl rfl (by kernel_rfl) (by kernel_rfl) (by kernel_rfl) ?_
 unfold zdj at h;unfold zae Try.f59;simp only [ens]
 revert h
 repeat' (with_reducible refine gB fun _ _=>?_)
 intro h;obtain rfl:=Option.some.inj h
 simp (maxSteps:=10000000) (implicitDefEqProofs:=false) (disch:=first | with_reducible assumption | exact rfl | exact im_ _ | (fail_if_success show Kn _ _);omega) only [bs,rs59,Nat.reduceAdd,↓reduceIte,c76_0]
 refine ⟨by simp, ?_⟩;exact zco rfl rfl rfl rfl
def ls44:=And.intro @zsz (And.intro @zx9 (And.intro @ya9 (@zlb)))
theorem c59_0 {H:List Ob}{a1:Int}{r:Int} (h:zdj a1=some r):callD (callW Try.prog A0) A0 H 59 [.p (.v (.int .u64 a1))]=some (.p (.v (.int .i64 r)),none) :=
 zbp (args:=[.v (.int .u64 a1)]) rfl rfl rfl (by simp only [List.map_cons,List.map_nil,wk,wks,wkL];exact yj3 a1 _ h)
theorem yah  (x0:Int) (x1:Int) (o1:(List Pair)) (r:Bool) (h:zay x0 x1 o1=some r):callW Try.prog A0 44 [iv x0,iv x1,.ptr 0 0] [.var [.ref 1 0 o1.length 2],.arr (encL zac o1)]=some (.p (.v (.bool r)),[.var [.ref 1 0 o1.length 2],.arr (encL zac o1)]):=by
 refine zax (fn:=Try.f44) (c:=zae Try.f44) 14 rfl rfl (by kernel_rfl) (by kernel_rfl) (by kernel_rfl) ?_
 unfold zay at h;unfold zae Try.f44;simp only [ens]
 revert h
 repeat' (with_reducible refine gR fun _ _ _ _=>?_)
 intro h;obtain rfl:=Option.some.inj h
 simp (maxSteps:=10000000) (implicitDefEqProofs:=false) (disch:=first | with_reducible assumption | exact rfl | exact im_ _ | (fail_if_success show Kn _ _);omega) only [bs,rs44,ls44,Nat.reduceAdd,↓reduceIte,zab a3,zab a36]
 refine ⟨by simp, ?_⟩;show _=_;kernel_rfl
def ls73:=And.intro @zix (And.intro @zhu (And.intro @zfv (@ze0)))
theorem q72_0 {a1:List Pair}{a2 a3:Int}{r9003:_}{X0 X2:Ob} (h9001:swapL a2 a3 a1=some r9003):callD (callW Try.prog A0) A0 [X0,.arr (encL zac a1),X2] 72 [iv a2,iv a3,.ref 1 0 a1.length 2,.p (.v (typeHandle Try.prog 43))]=some (.p (.tup []),some [X0,.arr (encL zac r9003),X2]):=(zbe (dsw:=[iv a2,iv a3,.ref 1 0 a1.length 2,.p (.v (typeHandle Try.prog 43))]) (ds':=[iv a2,iv a3,.ref 0 0 a1.length 2,.p (.v (typeHandle Try.prog 43))]) (i:=1) (ids:=[]) (o:=.arr (encL zac a1)) (os:=[]) (o':=.arr (encL zac r9003)) (os':=[]) rfl (by kernel_rfl) (by kernel_rfl) (by kernel_rfl) (by kernel_rfl) (by kernel_rfl) (zn5 h9001) rfl rfl).trans (by kernel_rfl)
theorem q44_0 {a1:List Pair}{a2 a3:Int}{r9001:Bool}{X2:Ob} (h9002:zay a2 a3 a1=some r9001):callD (callW Try.prog A0) A0 [.var [.ref 1 0 a1.length 2],.arr (encL zac a1),X2] 44 [iv a2,iv a3,.ptr 0 0]=some (.p (.v (.bool r9001)),some [.var [.ref 1 0 a1.length 2],.arr (encL zac a1),X2]):=(zbe (dsw:=[iv a2,iv a3,.ptr 0 0]) (ds':=[iv a2,iv a3,.ptr 0 0]) (i:=0) (ids:=[1]) (o:=.var [.ref 1 0 a1.length 2]) (os:=[.arr (encL zac a1)]) (o':=.var [.ref 1 0 a1.length 2]) (os':=[.arr (encL zac a1)]) rfl (by kernel_rfl) (by kernel_rfl) (by kernel_rfl) (by kernel_rfl) (by kernel_rfl) (yah _ _ _ _ h9002) rfl rfl).trans (by kernel_rfl)
noncomputable def L73_1:Code:=(zal (zae Try.f73)).getD 1 .skip
def g73_1:List Ghost:=[.keep [1,2,3,6,7]]
noncomputable def F73_1 (s1:Int) (s2:Int) (s6:Int):(Int×(List Pair))→St:=fun (s7,y1)=>⟨[J,iv s1,iv s2,.ptr 2 0,J,J,iv s6,iv s7,J,J,J,J,J,J,J,J,J,J,J,J,J,J,J,J,J,J,J,J,J,J,J,J,J,J,J],[.var [.ref 1 0 y1.length 2],.arr (encL zac y1),.var [.fn (.func 44) [.ptr 0 0],sw72 1 y1.length]],2⟩
theorem z9k (s1:Int) (s2:Int) (s6:Int):∀ s st o,zak g73_1 st=some (F73_1 s1 s2 s6 s)→iter (zc1 s1 s2 s6) s=some o →
    Wp (evW Try.prog A0 73 (.loop L73_1) st) (OutQ (F73_1 s1 s2 s6) g73_1 (fun n s st=>n=2∧zak [.keep [1,2,3,6,7]] st=some (F73_1 s1 s2 s6 s)) (fun r st=>zap Try.prog A0 73 Try.f73 st=some (.p (.tup []),[.var [.ref 1 0 r.length 2],.arr (encL zac r)])) o):=by
 refine Wp.iter ?_
 intro s st o hg h
 obtain ⟨s7,y1⟩:=s
 unfold zc1 at h;unfold g73_1 F73_1 at hg ⊢
 (try simp only [] at h hg)
 unfold L73_1 zae Try.f73;simp only [zal,ens]
 revert h
 repeat' first | (with_reducible refine gB fun _ _=>?_) | (with_reducible refine gW fun _=>?_) | (with_reducible refine gT (fun _ _=>?_) (fun _ _=>?_)) | (with_reducible refine gI (fun _ _=>?_) (fun _ _=>?_))
 all_goals
  intro h;obtain rfl:=Option.some.inj h
  first | (simp (maxSteps:=10000000) (implicitDefEqProofs:=false) (disch:=first | with_reducible assumption | exact rfl | exact im_ _ | (fail_if_success show Kn _ _);omega) only [bs,rs73,ls73,Nat.reduceAdd,↓reduceIte,zai,zab a64,zab a80,q44_0,q72_0,hg];first | (exact ⟨(rfl:Ex.normal=Ex.normal),by (try simp only [List.length_set,zbx, *]);kernel_rfl⟩) | (exact ⟨(rfl:Ex.exit 2=Ex.exit 2),rfl,by kernel_rfl⟩)) | (exfalso;omega)
noncomputable def L73_0:Code:=(zal (zae Try.f73)).getD 0 .skip
def g73_0:List Ghost:=[.keep [1,2,3,6]]
noncomputable def F73_0 (s1:Int) (s2:Int):(Int×(List Pair))→St:=fun (s6,y1)=>⟨[J,iv s1,iv s2,.ptr 2 0,J,J,iv s6,J,J,J,J,J,J,J,J,J,J,J,J,J,J,J,J,J,J,J,J,J,J,J,J,J,J,J,J],[.var [.ref 1 0 y1.length 2],.arr (encL zac y1),.var [.fn (.func 44) [.ptr 0 0],sw72 1 y1.length]],2⟩
theorem z5t (s1:Int) (s2:Int):∀ s st o,zak g73_0 st=some (F73_0 s1 s2 s)→iter (zc0 s1 s2) s=some o →
    Wp (evW Try.prog A0 73 (.loop L73_0) st) (OutQ (F73_0 s1 s2) g73_0 (fun n s st=>n=0∧(match s with | (s6,y1)=>zap Try.prog A0 73 Try.f73 st=some (.p (.tup []),[.var [.ref 1 0 y1.length 2],.arr (encL zac y1)]))) (fun r st=>zap Try.prog A0 73 Try.f73 st=some (.p (.tup []),[.var [.ref 1 0 r.length 2],.arr (encL zac r)])) o):=by
 refine Wp.iter ?_
 intro s st o hg h
 obtain ⟨s6,y1⟩:=s
 unfold zc0 at h;unfold g73_0 F73_0 at hg ⊢
 (try simp only [] at h hg)
 unfold L73_0 zae Try.f73;simp only [zal,ens]
 revert h
 refine gI (fun h1 _=>?_) (fun h1 _=>?_)
 ·refine gB fun o h11=>?_
  intro h
  simp (maxSteps:=10000000) (implicitDefEqProofs:=false) (disch:=first | with_reducible assumption | exact rfl | exact im_ _ | (fail_if_success show Kn _ _);omega) only [bs,rs73,ls73,Nat.reduceAdd,↓reduceIte,zai,zab a64,zab a80,q44_0,q72_0,hg]
  refine Wp.ctx (fun x=>seqW _ _ _ _ (za5 _ (za5 _ (x)))) (z9k s1 s2 s6 (s6,y1) _ o (by kernel_rfl) h11) ?_
  intro e st hq
  cases o with
  | next _=>(first | cases h | (simp at h))
  | jmp n_ s_ =>
   obtain ⟨rfl,rfl,hq⟩:=hq
   obtain ⟨s7_12,y1_12⟩:=s_
   unfold F73_1 at hq
   (try simp only [] at h hq)
   revert h
   intro h;obtain rfl:=Option.some.inj h
   simp (maxSteps:=10000000) (implicitDefEqProofs:=false) (disch:=first | with_reducible assumption | exact rfl | exact im_ _ | (fail_if_success show Kn _ _);omega) only [bs,rs73,ls73,Nat.reduceAdd,↓reduceIte,zai,zab a64,zab a80,q44_0,q72_0,hg,hq]
   exact ⟨(rfl:Ex.normal=Ex.normal),by kernel_rfl⟩
  | ret _=>(first | cases h | (simp at h))
 ·intro h;obtain rfl:=Option.some.inj h
  simp (maxSteps:=10000000) (implicitDefEqProofs:=false) (disch:=first | with_reducible assumption | exact rfl | exact im_ _ | (fail_if_success show Kn _ _);omega) only [bs,rs73,ls73,Nat.reduceAdd,↓reduceIte,zai,zab a64,zab a80,q44_0,q72_0,hg]
  refine ⟨(rfl:Ex.exit 0=Ex.exit 0),rfl, ?_⟩;show _=_;kernel_rfl
theorem ygh  (x1:Int) (x2:Int) (o1:(List Pair)) (r:(List Pair)) (h:zcv x1 x2 o1=some r):callW Try.prog A0 73 [.agg [.fn (.func 44) [.ptr 0 0],sw72 1 o1.length],iv x1,iv x2] [.var [.ref 1 0 o1.length 2],.arr (encL zac o1)]=some (.p (.tup []),[.var [.ref 1 0 r.length 2],.arr (encL zac r)]):=by
 refine zax (fn:=Try.f73) (c:=zae Try.f73) 32 rfl rfl (by kernel_rfl) (by kernel_rfl) (by kernel_rfl) ?_
 unfold zcv at h;unfold zae Try.f73;simp only [ens]
 revert h
 refine gB fun o h13=>?_
 intro h
 simp (maxSteps:=10000000) (implicitDefEqProofs:=false) (disch:=first | with_reducible assumption | exact rfl | exact im_ _ | (fail_if_success show Kn _ _);omega) only [bs,rs73,ls73,Nat.reduceAdd,↓reduceIte,zai,zab a64,zab a80,q44_0,q72_0]
 refine Wp.ctx (fun x=>za5 _ (x)) (z5t x1 x2 (w64 (x1+(1:Int)),o1) _ o (by kernel_rfl) h13) ?_
 intro e st hq
 cases o with
 | next _=>(first | cases h | (simp at h))
 | jmp n_ s_ =>
  obtain ⟨rfl,rfl,hq⟩:=hq
  obtain ⟨s6_14,y1_14⟩:=s_
  obtain rfl:=Option.some.inj h
  simp (maxSteps:=10000000) (implicitDefEqProofs:=false) (disch:=first | with_reducible assumption | exact rfl | exact im_ _ | (fail_if_success show Kn _ _);omega) only [bs,rs73,ls73,Nat.reduceAdd,↓reduceIte,zai,zab a64,zab a80,q44_0,q72_0]
  exact ⟨by simp,hq⟩
 | ret _=>(first | cases h | (simp at h))
def ls85:=And.intro @zix (And.intro @zhu (And.intro @zfv (@ze0)))
theorem q73_0 {a1:List Pair}{a2 a3:Int}{r9001:(List Pair)}{X2:Ob} (h9002:zcv a2 a3 a1=some r9001):callD (callW Try.prog A0) A0 [.var [.ref 1 0 a1.length 2],.arr (encL zac a1),X2] 73 [.agg [.fn (.func 44) [.ptr 0 0],sw72 1 a1.length],iv a2,iv a3]=some (.p (.tup []),some [.var [.ref 1 0 r9001.length 2],.arr (encL zac r9001),X2]):=(zbe (dsw:=[.agg [.fn (.func 44) [.ptr 0 0],sw72 1 a1.length],iv a2,iv a3]) (ds':=[.agg [.fn (.func 44) [.ptr 0 0],sw72 1 a1.length],iv a2,iv a3]) (i:=0) (ids:=[1]) (o:=.var [.ref 1 0 a1.length 2]) (os:=[.arr (encL zac a1)]) (o':=.var [.ref 1 0 r9001.length 2]) (os':=[.arr (encL zac r9001)]) rfl (by kernel_rfl) (by kernel_rfl) (by kernel_rfl) (by kernel_rfl) (by kernel_rfl) (ygh _ _ _ _ h9002) rfl rfl).trans (by kernel_rfl)
noncomputable def L85_0:Code:=(zal (zae Try.f85)).getD 0 .skip
def g85_0:List Ghost:=[.keep [2,3,4,8]]
noncomputable def F85_0 (s2:Int) (s3:Int):(Int×(List Pair))→St:=fun (s8,y1)=>⟨[J,J,iv s2,iv s3,.ptr 2 0,J,J,J,iv s8,J,J,J,J,J,J,J,J,J,J,J,J,J,J,J,J,J,J,J,J,J,J,J,J,J,J,J,J,J,J,J,J,J,J,J,J,J,J,J,J,J,J,J,J,J,J],[.var [.ref 1 0 y1.length 2],.arr (encL zac y1),.var [.fn (.func 44) [.ptr 0 0],sw72 1 y1.length]],2⟩
theorem z7r (s2:Int) (s3:Int):∀ s st o,zak g85_0 st=some (F85_0 s2 s3 s)→iter (zek s2 s3) s=some o →
    Wp (evW Try.prog A0 85 (.loop L85_0) st) (OutQ (F85_0 s2 s3) g85_0 (fun n s st=>n=0∧(match s with | (s8,y1)=>zap Try.prog A0 85 Try.f85 st=some (.p (.tup []),[.var [.ref 1 0 y1.length 2],.arr (encL zac y1)]))) (fun r st=>zap Try.prog A0 85 Try.f85 st=some (.p (.tup []),[.var [.ref 1 0 r.length 2],.arr (encL zac r)])) o):=by
 refine Wp.iter ?_
 intro s st o hg h
 obtain ⟨s8,y1⟩:=s
 unfold zek at h;unfold g85_0 F85_0 at hg ⊢
 (try simp only [] at h hg)
 unfold L85_0 zae Try.f85;simp only [zal,ens]
 revert h
 repeat' first | (with_reducible refine gB fun _ _=>?_) | (with_reducible refine gW fun _=>?_) | (with_reducible refine gT (fun _ _=>?_) (fun _ _=>?_)) | (with_reducible refine gI (fun _ _=>?_) (fun _ _=>?_))
 all_goals
  intro h;obtain rfl:=Option.some.inj h
  first | (simp (maxSteps:=10000000) (implicitDefEqProofs:=false) (disch:=first | with_reducible assumption | exact rfl | exact im_ _ | (fail_if_success show Kn _ _);omega) only [bs,rs85,ls85,Nat.reduceAdd,↓reduceIte,zai,zab a64,zab a80,q44_0,q72_0,hg];first | (refine ⟨(rfl:Ex.exit 0=Ex.exit 0),rfl, ?_⟩;show _=_;kernel_rfl) | (exact ⟨(rfl:Ex.normal=Ex.normal),by (try simp only [List.length_set,zbx, *]);kernel_rfl⟩) | (refine ⟨(rfl:Ex.ret=Ex.ret), ?_⟩;show _=_;kernel_rfl)) | (exfalso;omega)
theorem z98  (x1:Int) (x2:Int) (x3:Int) (o1:(List Pair)) (r:(List Pair)) (h:zc7 x1 x2 x3 o1=some r):callW Try.prog A0 85 [.agg [.fn (.func 44) [.ptr 0 0],sw72 1 o1.length],iv x1,iv x2,iv x3] [.var [.ref 1 0 o1.length 2],.arr (encL zac o1)]=some (.p (.tup []),[.var [.ref 1 0 r.length 2],.arr (encL zac r)]):=by
 refine zax (fn:=Try.f85) (c:=zae Try.f85) 51 rfl rfl (by kernel_rfl) (by kernel_rfl) (by kernel_rfl) ?_
 unfold zc7 at h;unfold zae Try.f85;simp only [ens]
 revert h
 refine gB fun o h61=>?_
 intro h
 simp (maxSteps:=10000000) (implicitDefEqProofs:=false) (disch:=first | with_reducible assumption | exact rfl | exact im_ _ | (fail_if_success show Kn _ _);omega) only [bs,rs85,ls85,Nat.reduceAdd,↓reduceIte,zai,zab a64,zab a80,q44_0,q72_0]
 refine Wp.ctx (fun x=>za5 _ (x)) (z7r x2 x3 (x1,o1) _ o (by kernel_rfl) h61) ?_
 intro e st hq
 cases o with
 | next _=>(first | cases h | (simp at h))
 | jmp n_ s_ =>
  obtain ⟨rfl,rfl,hq⟩:=hq
  obtain ⟨s8_62,y1_62⟩:=s_
  obtain rfl:=Option.some.inj h
  simp (maxSteps:=10000000) (implicitDefEqProofs:=false) (disch:=first | with_reducible assumption | exact rfl | exact im_ _ | (fail_if_success show Kn _ _);omega) only [bs,rs85,ls85,Nat.reduceAdd,↓reduceIte,zai,zab a64,zab a80,q44_0,q72_0]
  exact ⟨by simp,hq⟩
 | ret r63 =>
  obtain ⟨rfl,hq⟩:=hq
  obtain rfl:=Option.some.inj h
  simp (maxSteps:=10000000) (implicitDefEqProofs:=false) (disch:=first | with_reducible assumption | exact rfl | exact im_ _ | (fail_if_success show Kn _ _);omega) only [bs,rs85,ls85,Nat.reduceAdd,↓reduceIte,zai,zab a64,zab a80,q44_0,q72_0]
  exact ⟨by simp,hq⟩
def ls77:=And.intro @zhu (And.intro @ze0 (@zjk))
theorem q85_0 {a1:List Pair}{a2 a3 a4:Int}{r9001:(List Pair)}{X2:Ob} (h9002:zc7 a2 a3 a4 a1=some r9001):callD (callW Try.prog A0) A0 [.var [.ref 1 0 a1.length 2],.arr (encL zac a1),X2] 85 [.agg [.fn (.func 44) [.ptr 0 0],sw72 1 a1.length],iv a2,iv a3,iv a4]=some (.p (.tup []),some [.var [.ref 1 0 r9001.length 2],.arr (encL zac r9001),X2]):=(zbe (dsw:=[.agg [.fn (.func 44) [.ptr 0 0],sw72 1 a1.length],iv a2,iv a3,iv a4]) (ds':=[.agg [.fn (.func 44) [.ptr 0 0],sw72 1 a1.length],iv a2,iv a3,iv a4]) (i:=0) (ids:=[1]) (o:=.var [.ref 1 0 a1.length 2]) (os:=[.arr (encL zac a1)]) (o':=.var [.ref 1 0 r9001.length 2]) (os':=[.arr (encL zac r9001)]) rfl (by kernel_rfl) (by kernel_rfl) (by kernel_rfl) (by kernel_rfl) (by kernel_rfl) (z98 _ _ _ _ _ h9002) rfl rfl).trans (by kernel_rfl)
theorem q85_1 {a1:List Pair}{n2:Nat}{a3 a4 a5:Int}{r9001:(List Pair)}{X2:Ob} (k0:n2=a1.length) (h9002:zc7 a3 a4 a5 a1=some r9001):callD (callW Try.prog A0) A0 [.var [.ref 1 0 n2 2],.arr (encL zac a1),X2] 85 [.agg [.fn (.func 44) [.ptr 0 0],sw72 1 n2],iv a3,iv a4,iv a5]=some (.p (.tup []),some [.var [.ref 1 0 r9001.length 2],.arr (encL zac r9001),X2]):=by
  rw [show n2=a1.length from by omega];exact (zbe (dsw:=[.agg [.fn (.func 44) [.ptr 0 0],sw72 1 a1.length],iv a3,iv a4,iv a5]) (ds':=[.agg [.fn (.func 44) [.ptr 0 0],sw72 1 a1.length],iv a3,iv a4,iv a5]) (i:=0) (ids:=[1]) (o:=.var [.ref 1 0 a1.length 2]) (os:=[.arr (encL zac a1)]) (o':=.var [.ref 1 0 r9001.length 2]) (os':=[.arr (encL zac r9001)]) rfl (by kernel_rfl) (by kernel_rfl) (by kernel_rfl) (by kernel_rfl) (by kernel_rfl) (z98 _ _ _ _ _ h9002) rfl rfl).trans (by kernel_rfl)
noncomputable def L77_1:Code:=(zal (zae Try.f77)).getD 1 .skip
def g77_1:List Ghost:=[.keep [3,6,7,10]]
noncomputable def F77_1 (s6:Int) (s7:Int):(Int×(List Pair))→St:=fun (s10,y1)=>⟨[J,J,J,.ptr 2 0,J,J,iv s6,iv s7,J,J,iv s10,J,J,J,J,J,J,J,J,J,J,J,J,J,J,J,J,J,J,J,J,J,J,J,J,J,J,J,J,J,J,J,J,J,J],[.var [.ref 1 0 y1.length 2],.arr (encL zac y1),.var [.fn (.func 44) [.ptr 0 0],sw72 1 y1.length]],2⟩
theorem z9b (s6:Int) (s7:Int):∀ s st o,zak g77_1 st=some (F77_1 s6 s7 s)→iter (zen s6 s7) s=some o →
    Wp (evW Try.prog A0 77 (.loop L77_1) st) (OutQ (F77_1 s6 s7) g77_1 (fun n s st=>n=2∧(match s with | (s10,y1)=>zap Try.prog A0 77 Try.f77 st=some (.p (.tup []),[.var [.ref 1 0 y1.length 2],.arr (encL zac y1)]))) (fun r st=>zap Try.prog A0 77 Try.f77 st=some (.p (.tup []),[.var [.ref 1 0 r.length 2],.arr (encL zac r)])) o):=by
 refine Wp.iter ?_
 intro s st o hg h
 obtain ⟨s10,y1⟩:=s
 unfold zen at h;unfold g77_1 F77_1 at hg ⊢
 (try simp only [] at h hg)
 unfold L77_1 zae Try.f77;simp only [zal,ens]
 revert h
 repeat' first | (with_reducible refine gB fun _ _=>?_) | (with_reducible refine gW fun _=>?_) | (with_reducible refine gI (fun _ _=>?_) (fun _ _=>?_))
 all_goals
  intro h;obtain rfl:=Option.some.inj h
  first | (simp (maxSteps:=10000000) (implicitDefEqProofs:=false) (disch:=first | with_reducible assumption | exact rfl | exact im_ _ | (fail_if_success show Kn _ _);omega) only [bs,rs77,ls77,Nat.reduceAdd,↓reduceIte,zfd,zai,zah a84 z84,zab a80,q72_0,q85_0,q85_1,hg];first | (exact ⟨(rfl:Ex.normal=Ex.normal),by (try simp only [List.length_set,zbx, *]);kernel_rfl⟩) | (refine ⟨(rfl:Ex.exit 2=Ex.exit 2),rfl, ?_⟩;show _=_;kernel_rfl)) | (exfalso;omega)
noncomputable def L77_0:Code:=(zal (zae Try.f77)).getD 0 .skip
def g77_0:List Ghost:=[.keep [3,6,7,8,9]]
noncomputable def F77_0 (s6:Int) (s7:Int) (s8:Int):(Int×(List Pair))→St:=fun (s9,y1)=>⟨[J,J,J,.ptr 2 0,J,J,iv s6,iv s7,iv s8,iv s9,J,J,J,J,J,J,J,J,J,J,J,J,J,J,J,J,J,J,J,J,J,J,J,J,J,J,J,J,J,J,J,J,J,J,J],[.var [.ref 1 0 y1.length 2],.arr (encL zac y1),.var [.fn (.func 44) [.ptr 0 0],sw72 1 y1.length]],2⟩
theorem z6z (s6:Int) (s7:Int) (s8:Int):∀ s st o,zak g77_0 st=some (F77_0 s6 s7 s8 s)→iter (zep s6 s7 s8) s=some o →
    Wp (evW Try.prog A0 77 (.loop L77_0) st) (OutQ (F77_0 s6 s7 s8) g77_0 (fun n s st=>n=0∧zak [.keep [3,6,7,8,9]] st=some (F77_0 s6 s7 s8 s)) (fun r st=>zap Try.prog A0 77 Try.f77 st=some (.p (.tup []),[.var [.ref 1 0 r.length 2],.arr (encL zac r)])) o):=by
 refine Wp.iter ?_
 intro s st o hg h
 obtain ⟨s9,y1⟩:=s
 unfold zep at h;unfold g77_0 F77_0 at hg ⊢
 (try simp only [] at h hg)
 unfold L77_0 zae Try.f77;simp only [zal,ens]
 revert h
 repeat' first | (with_reducible refine gB fun _ _=>?_) | (with_reducible refine gW fun _=>?_) | (with_reducible refine gI (fun _ _=>?_) (fun _ _=>?_))
 all_goals
  intro h;obtain rfl:=Option.some.inj h
  first | (simp (maxSteps:=10000000) (implicitDefEqProofs:=false) (disch:=first | with_reducible assumption | exact rfl | exact im_ _ | (fail_if_success show Kn _ _);omega) only [bs,rs77,ls77,Nat.reduceAdd,↓reduceIte,zfd,zai,zah a84 z84,zab a80,q72_0,q85_0,q85_1,hg];first | (exact ⟨(rfl:Ex.normal=Ex.normal),by (try simp only [List.length_set,zbx, *]);kernel_rfl⟩) | (exact ⟨(rfl:Ex.exit 0=Ex.exit 0),rfl,by kernel_rfl⟩)) | (exfalso;omega)
theorem yfg  (x1:Int) (x2:Int) (o1:(List Pair)) (r:(List Pair)) (h:zer x1 x2 o1=some r):callW Try.prog A0 77 [.agg [.fn (.func 44) [.ptr 0 0],sw72 1 o1.length],iv x1,iv x2] [.var [.ref 1 0 o1.length 2],.arr (encL zac o1)]=some (.p (.tup []),[.var [.ref 1 0 r.length 2],.arr (encL zac r)]):=by
 refine zax (fn:=Try.f77) (c:=zae Try.f77) 42 rfl rfl (by kernel_rfl) (by kernel_rfl) (by kernel_rfl) ?_
 unfold zer at h;unfold zae Try.f77;simp only [ens]
 revert h
 refine gB fun q1 h2=>?_
 refine gB fun o h9=>?_
 intro h
 simp (maxSteps:=10000000) (implicitDefEqProofs:=false) (disch:=first | with_reducible assumption | exact rfl | exact im_ _ | (fail_if_success show Kn _ _);omega) only [bs,rs77,ls77,Nat.reduceAdd,↓reduceIte,zfd,zai,zah a84 z84,zab a80,q72_0,q85_0,q85_1]
 refine Wp.ctx (fun x=>seqW _ _ _ _ (za5 _ (x))) (z6z x1 (0:Int) (w64 (x2 - x1)) (q1,o1) _ o (by kernel_rfl) h9) ?_
 intro e st hq
 cases o with
 | next _=>(first | cases h | (simp at h))
 | jmp n_ s_ =>
  obtain ⟨rfl,rfl,hq⟩:=hq
  obtain ⟨s9_10,y1_10⟩:=s_
  unfold F77_0 at hq
  (try simp only [] at h hq)
  revert h
  refine gB fun o h20=>?_
  intro h
  simp (maxSteps:=10000000) (implicitDefEqProofs:=false) (disch:=first | with_reducible assumption | exact rfl | exact im_ _ | (fail_if_success show Kn _ _);omega) only [bs,rs77,ls77,Nat.reduceAdd,↓reduceIte,zfd,zai,zah a84 z84,zab a80,q72_0,q85_0,q85_1,hq]
  refine Wp.ctx (fun x=>za5 _ (x)) (z9b x1 (0:Int) (w64 ((w64 (x2 - x1)) - (1:Int)),y1_10) _ o (by kernel_rfl) h20) ?_
  intro e st hq
  cases o with
  | next _=>(first | cases h | (simp at h))
  | jmp n_ s_ =>
   obtain ⟨rfl,rfl,hq⟩:=hq
   obtain ⟨s10_21,y1_21⟩:=s_
   obtain rfl:=Option.some.inj h
   simp (maxSteps:=10000000) (implicitDefEqProofs:=false) (disch:=first | with_reducible assumption | exact rfl | exact im_ _ | (fail_if_success show Kn _ _);omega) only [bs,rs77,ls77,Nat.reduceAdd,↓reduceIte,zfd,zai,zah a84 z84,zab a80,q72_0,q85_0,q85_1]
   exact ⟨by simp,hq⟩
  | ret _=>(first | cases h | (simp at h))
 | ret _=>(first | cases h | (simp at h))
def ls91:=And.intro @zix (And.intro @zst (And.intro @zlb (@zfv)))
theorem q77_0 {a1:List Pair}{a2 a3:Int}{r9001:(List Pair)}{X2:Ob} (h9002:zer a2 a3 a1=some r9001):callD (callW Try.prog A0) A0 [.var [.ref 1 0 a1.length 2],.arr (encL zac a1),X2] 77 [.agg [.fn (.func 44) [.ptr 0 0],sw72 1 a1.length],iv a2,iv a3]=some (.p (.tup []),some [.var [.ref 1 0 r9001.length 2],.arr (encL zac r9001),X2]):=(zbe (dsw:=[.agg [.fn (.func 44) [.ptr 0 0],sw72 1 a1.length],iv a2,iv a3]) (ds':=[.agg [.fn (.func 44) [.ptr 0 0],sw72 1 a1.length],iv a2,iv a3]) (i:=0) (ids:=[1]) (o:=.var [.ref 1 0 a1.length 2]) (os:=[.arr (encL zac a1)]) (o':=.var [.ref 1 0 r9001.length 2]) (os':=[.arr (encL zac r9001)]) rfl (by kernel_rfl) (by kernel_rfl) (by kernel_rfl) (by kernel_rfl) (by kernel_rfl) (yfg _ _ _ _ h9002) rfl rfl).trans (by kernel_rfl)
theorem q44_1 {a1:List Pair}{a2 a3:Int}{r9001:Bool}{X2 X3:Ob} (h9002:zay a2 a3 a1=some r9001):callD (callW Try.prog A0) A0 [.var [.ref 1 0 a1.length 2],.arr (encL zac a1),X2,X3] 44 [iv a2,iv a3,.ptr 0 0]=some (.p (.v (.bool r9001)),some [.var [.ref 1 0 a1.length 2],.arr (encL zac a1),X2,X3]):=(zbe (dsw:=[iv a2,iv a3,.ptr 0 0]) (ds':=[iv a2,iv a3,.ptr 0 0]) (i:=0) (ids:=[1]) (o:=.var [.ref 1 0 a1.length 2]) (os:=[.arr (encL zac a1)]) (o':=.var [.ref 1 0 a1.length 2]) (os':=[.arr (encL zac a1)]) rfl (by kernel_rfl) (by kernel_rfl) (by kernel_rfl) (by kernel_rfl) (by kernel_rfl) (yah _ _ _ _ h9002) rfl rfl).trans (by kernel_rfl)
theorem yiy  (x1:Int) (x2:Int) (o1:(List Pair)) (o2:Int) (r:(Int×Int×Int)) (h:zck x1 x2 o1 o2=some r):callW Try.prog A0 91 [.agg [.fn (.func 44) [.ptr 0 0],sw72 1 o1.length],iv x1,iv x2,.ptr 2 0] [.var [.ref 1 0 o1.length 2],.arr (encL zac o1),.var [iv o2]]=some (.p (.tup [.v (.int .i64 r.1),.v (.int .i64 r.2.1)]),[.var [.ref 1 0 o1.length 2],.arr (encL zac o1),.var [iv r.2.2]]):=by
 refine zax (fn:=Try.f91) (c:=zae Try.f91) 20 rfl rfl (by kernel_rfl) (by kernel_rfl) (by kernel_rfl) ?_
 unfold zck at h;unfold zae Try.f91;simp only [ens]
 revert h
 repeat' first | (with_reducible refine gB fun _ _=>?_) | (with_reducible refine gT (fun _ _=>?_) (fun _ _=>?_))
 all_goals
  intro h;obtain rfl:=Option.some.inj h
  first | (simp (maxSteps:=10000000) (implicitDefEqProofs:=false) (disch:=first | with_reducible assumption | exact rfl | exact im_ _ | (fail_if_success show Kn _ _);omega) only [bs,rs91,ls91,Nat.reduceAdd,↓reduceIte,zai,zab a3,zab a64,zmu,zoc,q44_1,zdu z3];refine ⟨by simp, ?_⟩;show _=_;kernel_rfl) | (exfalso;omega)
def ls89:=And.intro @z96 (And.intro @z9w (@zjk))
theorem q91_0 {a1:List Pair}{a2 a3 a4:Int}{r9001:(Int×Int×Int)}{X3:Ob} (h9002:zck a3 a4 a1 a2=some r9001):callD (callW Try.prog A0) A0 [.var [.ref 1 0 a1.length 2],.arr (encL zac a1),.var [iv a2],X3] 91 [.agg [.fn (.func 44) [.ptr 0 0],sw72 1 a1.length],iv a3,iv a4,.ptr 2 0]=some (.p (.tup [.v (.int .i64 r9001.1),.v (.int .i64 r9001.2.1)]),some [.var [.ref 1 0 a1.length 2],.arr (encL zac a1),.var [iv r9001.2.2],X3]):=(zbe (dsw:=[.agg [.fn (.func 44) [.ptr 0 0],sw72 1 a1.length],iv a3,iv a4,.ptr 2 0]) (ds':=[.agg [.fn (.func 44) [.ptr 0 0],sw72 1 a1.length],iv a3,iv a4,.ptr 2 0]) (i:=0) (ids:=[1,2]) (o:=.var [.ref 1 0 a1.length 2]) (os:=[.arr (encL zac a1),.var [iv a2]]) (o':=.var [.ref 1 0 a1.length 2]) (os':=[.arr (encL zac a1),.var [iv r9001.2.2]]) rfl (by kernel_rfl) (by kernel_rfl) (by kernel_rfl) (by kernel_rfl) (by kernel_rfl) (yiy _ _ _ _ _ h9002) rfl rfl).trans (by kernel_rfl)
theorem yaf  (x1:Int) (x2:Int) (x3:Int) (o1:(List Pair)) (o2:Int) (r:(Int×Int)) (h:zb7 x1 x2 x3 o1 o2=some r):callW Try.prog A0 89 [.agg [.fn (.func 44) [.ptr 0 0],sw72 1 o1.length],iv x1,iv x2,iv x3,.ptr 2 0] [.var [.ref 1 0 o1.length 2],.arr (encL zac o1),.var [iv o2]]=some (.p (.v (.int .i64 r.1)),[.var [.ref 1 0 o1.length 2],.arr (encL zac o1),.var [iv r.2]]):=by
 refine zax (fn:=Try.f89) (c:=zae Try.f89) 31 rfl rfl (by kernel_rfl) (by kernel_rfl) (by kernel_rfl) ?_
 unfold zb7 at h;unfold zae Try.f89;simp only [ens]
 revert h
 repeat' (with_reducible refine gB fun _ _=>?_)
 intro h;obtain rfl:=Option.some.inj h
 simp (maxSteps:=10000000) (implicitDefEqProofs:=false) (disch:=first | with_reducible assumption | exact rfl | exact im_ _ | (fail_if_success show Kn _ _);omega) only [bs,rs89,ls89,Nat.reduceAdd,↓reduceIte,zai,zah a84 z84,q91_0]
 refine ⟨by simp, ?_⟩;show _=_;kernel_rfl
def ls88:=@zjk
theorem q89_0 {a1:List Pair}{a2 a3 a4 a5:Int}{r9001:(Int×Int)}{X3:Ob} (h9002:zb7 a3 a4 a5 a1 a2=some r9001):callD (callW Try.prog A0) A0 [.var [.ref 1 0 a1.length 2],.arr (encL zac a1),.var [iv a2],X3] 89 [.agg [.fn (.func 44) [.ptr 0 0],sw72 1 a1.length],iv a3,iv a4,iv a5,.ptr 2 0]=some (.p (.v (.int .i64 r9001.1)),some [.var [.ref 1 0 a1.length 2],.arr (encL zac a1),.var [iv r9001.2],X3]):=(zbe (dsw:=[.agg [.fn (.func 44) [.ptr 0 0],sw72 1 a1.length],iv a3,iv a4,iv a5,.ptr 2 0]) (ds':=[.agg [.fn (.func 44) [.ptr 0 0],sw72 1 a1.length],iv a3,iv a4,iv a5,.ptr 2 0]) (i:=0) (ids:=[1,2]) (o:=.var [.ref 1 0 a1.length 2]) (os:=[.arr (encL zac a1),.var [iv a2]]) (o':=.var [.ref 1 0 a1.length 2]) (os':=[.arr (encL zac a1),.var [iv r9001.2]]) rfl (by kernel_rfl) (by kernel_rfl) (by kernel_rfl) (by kernel_rfl) (by kernel_rfl) (yaf _ _ _ _ _ _ h9002) rfl rfl).trans (by kernel_rfl)
theorem yfo  (x1:Int) (o1:(List Pair)) (o2:Int) (r:(Int×Int)) (h:za6 x1 o1 o2=some r):callW Try.prog A0 88 [.agg [.fn (.func 44) [.ptr 0 0],sw72 1 o1.length],iv x1,.ptr 2 0] [.var [.ref 1 0 o1.length 2],.arr (encL zac o1),.var [iv o2]]=some (.p (.v (.int .i64 r.1)),[.var [.ref 1 0 o1.length 2],.arr (encL zac o1),.var [iv r.2]]):=by
 refine zax (fn:=Try.f88) (c:=zae Try.f88) 12 rfl rfl (by kernel_rfl) (by kernel_rfl) (by kernel_rfl) ?_
 unfold za6 at h;unfold zae Try.f88;simp only [ens]
 revert h
 repeat' (with_reducible refine gB fun _ _=>?_)
 intro h;obtain rfl:=Option.some.inj h
 simp (maxSteps:=10000000) (implicitDefEqProofs:=false) (disch:=first | with_reducible assumption | exact rfl | exact im_ _ | (fail_if_success show Kn _ _);omega) only [bs,rs88,ls88,Nat.reduceAdd,↓reduceIte,zai,zah a84 z84,q89_0]
 refine ⟨by simp, ?_⟩;show _=_;kernel_rfl
def ls79:=And.intro @al_3 (And.intro @zlb (@zjk))
theorem q89_1 {a1:List Pair}{a2 a3 a4 a5:Int}{r9001:(Int×Int)}{X2:Ob} (h9002:zb7 a3 a4 a5 a1 a2=some r9001):callD (callW Try.prog A0) A0 [.var [.ref 1 0 a1.length 2],.arr (encL zac a1),X2,.var [iv a2]] 89 [.agg [.fn (.func 44) [.ptr 0 0],sw72 1 a1.length],iv a3,iv a4,iv a5,.ptr 3 0]=some (.p (.v (.int .i64 r9001.1)),some [.var [.ref 1 0 a1.length 2],.arr (encL zac a1),X2,.var [iv r9001.2]]):=(zbe (dsw:=[.agg [.fn (.func 44) [.ptr 0 0],sw72 1 a1.length],iv a3,iv a4,iv a5,.ptr 3 0]) (ds':=[.agg [.fn (.func 44) [.ptr 0 0],sw72 1 a1.length],iv a3,iv a4,iv a5,.ptr 2 0]) (i:=0) (ids:=[1,3]) (o:=.var [.ref 1 0 a1.length 2]) (os:=[.arr (encL zac a1),.var [iv a2]]) (o':=.var [.ref 1 0 a1.length 2]) (os':=[.arr (encL zac a1),.var [iv r9001.2]]) rfl (by kernel_rfl) (by kernel_rfl) (by kernel_rfl) (by kernel_rfl) (by kernel_rfl) (yaf _ _ _ _ _ _ h9002) rfl rfl).trans (by kernel_rfl)
theorem q88_0 {a1:List Pair}{a2 a3:Int}{r9001:(Int×Int)}{X2:Ob} (h9002:za6 a3 a1 a2=some r9001):callD (callW Try.prog A0) A0 [.var [.ref 1 0 a1.length 2],.arr (encL zac a1),X2,.var [iv a2]] 88 [.agg [.fn (.func 44) [.ptr 0 0],sw72 1 a1.length],iv a3,.ptr 3 0]=some (.p (.v (.int .i64 r9001.1)),some [.var [.ref 1 0 a1.length 2],.arr (encL zac a1),X2,.var [iv r9001.2]]):=(zbe (dsw:=[.agg [.fn (.func 44) [.ptr 0 0],sw72 1 a1.length],iv a3,.ptr 3 0]) (ds':=[.agg [.fn (.func 44) [.ptr 0 0],sw72 1 a1.length],iv a3,.ptr 2 0]) (i:=0) (ids:=[1,3]) (o:=.var [.ref 1 0 a1.length 2]) (os:=[.arr (encL zac a1),.var [iv a2]]) (o':=.var [.ref 1 0 a1.length 2]) (os':=[.arr (encL zac a1),.var [iv r9001.2]]) rfl (by kernel_rfl) (by kernel_rfl) (by kernel_rfl) (by kernel_rfl) (by kernel_rfl) (yfo _ _ _ _ h9002) rfl rfl).trans (by kernel_rfl)
theorem z9x  (x1:Int) (x2:Int) (o1:(List Pair)) (r:(Int×Int)) (h:zcg x1 x2 o1=some r):callW Try.prog A0 79 [.agg [.fn (.func 44) [.ptr 0 0],sw72 1 o1.length],iv x1,iv x2] [.var [.ref 1 0 o1.length 2],.arr (encL zac o1)]=some (.p (.tup [.v (.int .i64 r.1),.v (.int .i64 r.2)]),[.var [.ref 1 0 o1.length 2],.arr (encL zac o1)]):=by
 refine zax (fn:=Try.f79) (c:=zae Try.f79) 54 rfl rfl (by kernel_rfl) (by kernel_rfl) (by kernel_rfl) ?_
 unfold zcg at h;unfold zae Try.f79;simp only [ens]
 revert h
 repeat' first | (with_reducible refine gB fun _ _=>?_) | (with_reducible refine gI (fun _ _=>?_) (fun _ _=>?_))
 all_goals
  intro h;obtain rfl:=Option.some.inj h
  first | (simp (maxSteps:=10000000) (implicitDefEqProofs:=false) (disch:=first | with_reducible assumption | exact rfl | exact im_ _ | (fail_if_success show Kn _ _);omega) only [bs,rs79,ls79,Nat.reduceAdd,↓reduceIte,Int.reduceEq,Int.reduceLE,Int.reduceLT,zfd,zai,zah a84 z84,zab a3,q88_0,q89_1];refine ⟨by simp, ?_⟩;show _=_;kernel_rfl) | (exfalso;omega)
def ls80:=And.intro @zhu (@ze0)
noncomputable def L80_0:Code:=(zal (zae Try.f80)).getD 0 .skip
def g80_0:List Ghost:=[.keep [3,6,7]]
noncomputable def F80_0:(Int×Int×(List Pair))→St:=fun (s6,s7,y1)=>⟨[J,J,J,.ptr 2 0,J,J,iv s6,iv s7,J,J,J,J,J,J,J,J,J,J,J,J,J,J,J],[.var [.ref 1 0 y1.length 2],.arr (encL zac y1),.var [.fn (.func 44) [.ptr 0 0],sw72 1 y1.length]],2⟩
theorem z9j:∀ s st o,zak g80_0 st=some (F80_0 s)→iter (zdg) s=some o →
    Wp (evW Try.prog A0 80 (.loop L80_0) st) (OutQ (F80_0) g80_0 (fun n s st=>n=0∧(match s with | (s6,s7,y1)=>zap Try.prog A0 80 Try.f80 st=some (.p (.tup []),[.var [.ref 1 0 y1.length 2],.arr (encL zac y1)]))) (fun r st=>zap Try.prog A0 80 Try.f80 st=some (.p (.tup []),[.var [.ref 1 0 r.length 2],.arr (encL zac r)])) o):=by
 refine Wp.iter ?_
 intro s st o hg h
 obtain ⟨s6,s7,y1⟩:=s
 unfold zdg at h;unfold g80_0 F80_0 at hg ⊢
 (try simp only [] at h hg)
 unfold L80_0 zae Try.f80;simp only [zal,ens]
 revert h
 repeat' first | (with_reducible refine gB fun _ _=>?_) | (with_reducible refine gW fun _=>?_) | (with_reducible refine gI (fun _ _=>?_) (fun _ _=>?_))
 all_goals
  intro h;obtain rfl:=Option.some.inj h
  first | (simp (maxSteps:=10000000) (implicitDefEqProofs:=false) (disch:=first | with_reducible assumption | exact rfl | exact im_ _ | (fail_if_success show Kn _ _);omega) only [bs,rs80,ls80,Nat.reduceAdd,↓reduceIte,zai,zab a80,q72_0,hg];first | (exact ⟨(rfl:Ex.normal=Ex.normal),by (try simp only [List.length_set,zbx, *]);kernel_rfl⟩) | (refine ⟨(rfl:Ex.exit 0=Ex.exit 0),rfl, ?_⟩;show _=_;kernel_rfl)) | (exfalso;omega)
theorem yay  (x1:Int) (x2:Int) (o1:(List Pair)) (r:(List Pair)) (h:zb5 x1 x2 o1=some r):callW Try.prog A0 80 [.agg [.fn (.func 44) [.ptr 0 0],sw72 1 o1.length],iv x1,iv x2] [.var [.ref 1 0 o1.length 2],.arr (encL zac o1)]=some (.p (.tup []),[.var [.ref 1 0 r.length 2],.arr (encL zac r)]):=by
 refine zax (fn:=Try.f80) (c:=zae Try.f80) 20 rfl rfl (by kernel_rfl) (by kernel_rfl) (by kernel_rfl) ?_
 unfold zb5 at h;unfold zae Try.f80;simp only [ens]
 revert h
 refine gB fun o h11=>?_
 intro h
 simp (maxSteps:=10000000) (implicitDefEqProofs:=false) (disch:=first | with_reducible assumption | exact rfl | exact im_ _ | (fail_if_success show Kn _ _);omega) only [bs,rs80,ls80,Nat.reduceAdd,↓reduceIte,zai,zab a80,q72_0]
 refine Wp.ctx (fun x=>za5 _ (x)) (z9j (x1,w64 (x2 - (1:Int)),o1) _ o (by kernel_rfl) h11) ?_
 intro e st hq
 cases o with
 | next _=>(first | cases h | (simp at h))
 | jmp n_ s_ =>
  obtain ⟨rfl,rfl,hq⟩:=hq
  obtain ⟨s6_12,s7_12,y1_12⟩:=s_
  obtain rfl:=Option.some.inj h
  simp (maxSteps:=10000000) (implicitDefEqProofs:=false) (disch:=first | with_reducible assumption | exact rfl | exact im_ _ | (fail_if_success show Kn _ _);omega) only [bs,rs80,ls80,Nat.reduceAdd,↓reduceIte,zai,zab a80,q72_0]
  exact ⟨by simp,hq⟩
 | ret _=>(first | cases h | (simp at h))
def ls81:=And.intro @zix (And.intro @zhu (And.intro @zfv (@ze0)))
noncomputable def L81_3:Code:=(zal (zae Try.f81)).getD 3 .skip
def g81_3:List Ghost:=[.keep [1,2,3,7,8,10]]
noncomputable def F81_3 (s1:Int) (s2:Int) (s7:Int) (s8:Int):(Int×(List Pair))→St:=fun (s10,y1)=>⟨[J,iv s1,iv s2,.ptr 2 0,J,J,J,iv s7,iv s8,J,iv s10,J,J,J,J,J,J,J,J,J,J,J,J,J,J,J,J,J,J,J,J,J,J,J,J,J,J,J,J,J,J,J,J,J,J,J,J,J,J,J,J,J,J,J,J,J,J,J,J,J,J,J,J,J,J,J,J,J,J,J,J,J,J,J,J,J,J,J,J,J,J,J,J,J,J,J,J,J,J,J,J],[.var [.ref 1 0 y1.length 2],.arr (encL zac y1),.var [.fn (.func 44) [.ptr 0 0],sw72 1 y1.length]],2⟩
theorem zxm (s1:Int) (s2:Int) (s7:Int) (s8:Int):∀ s st o,zak g81_3 st=some (F81_3 s1 s2 s7 s8 s)→iter (zbi s1 s2 s7 s8) s=some o →
    Wp (evW Try.prog A0 81 (.loop L81_3) st) (OutQ (F81_3 s1 s2 s7 s8) g81_3 (fun n s st=>n=6∧zak [.keep [1,2,3,7,8,10]] st=some (F81_3 s1 s2 s7 s8 s)) (fun r st=>zap Try.prog A0 81 Try.f81 st=some (.p (.v (.bool r.1)),[.var [.ref 1 0 r.2.length 2],.arr (encL zac r.2)])) o):=by
 refine Wp.iter ?_
 intro s st o hg h
 obtain ⟨s10,y1⟩:=s
 unfold zbi at h;unfold g81_3 F81_3 at hg ⊢
 (try simp only [] at h hg)
 unfold L81_3 zae Try.f81;simp only [zal,ens]
 revert h
 repeat' first | (with_reducible refine gB fun _ _=>?_) | (with_reducible refine gW fun _=>?_) | (with_reducible refine gT (fun _ _=>?_) (fun _ _=>?_)) | (with_reducible refine gI (fun _ _=>?_) (fun _ _=>?_))
 all_goals
  intro h;obtain rfl:=Option.some.inj h
  first | (simp (maxSteps:=10000000) (implicitDefEqProofs:=false) (disch:=first | with_reducible assumption | exact rfl | exact im_ _ | (fail_if_success show Kn _ _);omega) only [bs,rs81,ls81,Nat.reduceAdd,↓reduceIte,zai,zab a64,zab a80,q44_0,q72_0,hg];first | (exact ⟨(rfl:Ex.normal=Ex.normal),by (try simp only [List.length_set,zbx, *]);kernel_rfl⟩) | (exact ⟨(rfl:Ex.exit 6=Ex.exit 6),rfl,by kernel_rfl⟩)) | (exfalso;omega)
noncomputable def L81_2:Code:=(zal (zae Try.f81)).getD 2 .skip
def g81_2:List Ghost:=[.keep [1,2,3,7,8,9]]
noncomputable def F81_2 (s1:Int) (s2:Int) (s7:Int) (s8:Int):(Int×(List Pair))→St:=fun (s9,y1)=>⟨[J,iv s1,iv s2,.ptr 2 0,J,J,J,iv s7,iv s8,iv s9,J,J,J,J,J,J,J,J,J,J,J,J,J,J,J,J,J,J,J,J,J,J,J,J,J,J,J,J,J,J,J,J,J,J,J,J,J,J,J,J,J,J,J,J,J,J,J,J,J,J,J,J,J,J,J,J,J,J,J,J,J,J,J,J,J,J,J,J,J,J,J,J,J,J,J,J,J,J,J,J,J],[.var [.ref 1 0 y1.length 2],.arr (encL zac y1),.var [.fn (.func 44) [.ptr 0 0],sw72 1 y1.length]],2⟩
theorem z8g (s1:Int) (s2:Int) (s7:Int) (s8:Int):∀ s st o,zak g81_2 st=some (F81_2 s1 s2 s7 s8 s)→iter (zby s1 s2 s7 s8) s=some o →
    Wp (evW Try.prog A0 81 (.loop L81_2) st) (OutQ (F81_2 s1 s2 s7 s8) g81_2 (fun n s st=>n=4∧zak [.keep [1,2,3,7,8,9]] st=some (F81_2 s1 s2 s7 s8 s)) (fun r st=>zap Try.prog A0 81 Try.f81 st=some (.p (.v (.bool r.1)),[.var [.ref 1 0 r.2.length 2],.arr (encL zac r.2)])) o):=by
 refine Wp.iter ?_
 intro s st o hg h
 obtain ⟨s9,y1⟩:=s
 unfold zby at h;unfold g81_2 F81_2 at hg ⊢
 (try simp only [] at h hg)
 unfold L81_2 zae Try.f81;simp only [zal,ens]
 revert h
 repeat' first | (with_reducible refine gB fun _ _=>?_) | (with_reducible refine gW fun _=>?_) | (with_reducible refine gT (fun _ _=>?_) (fun _ _=>?_)) | (with_reducible refine gI (fun _ _=>?_) (fun _ _=>?_))
 all_goals
  intro h;obtain rfl:=Option.some.inj h
  first | (simp (maxSteps:=10000000) (implicitDefEqProofs:=false) (disch:=first | with_reducible assumption | exact rfl | exact im_ _ | (fail_if_success show Kn _ _);omega) only [bs,rs81,ls81,Nat.reduceAdd,↓reduceIte,zai,zab a64,zab a80,q44_0,q72_0,hg];first | (exact ⟨(rfl:Ex.normal=Ex.normal),by (try simp only [List.length_set,zbx, *]);kernel_rfl⟩) | (exact ⟨(rfl:Ex.exit 4=Ex.exit 4),rfl,by kernel_rfl⟩)) | (exfalso;omega)
noncomputable def L81_1:Code:=(zal (zae Try.f81)).getD 1 .skip
def g81_1:List Ghost:=[.keep [1,2,3,7,8]]
noncomputable def F81_1 (s1:Int) (s2:Int) (s8:Int) (y1:(List Pair)):Int→St:=fun s7=>⟨[J,iv s1,iv s2,.ptr 2 0,J,J,J,iv s7,iv s8,J,J,J,J,J,J,J,J,J,J,J,J,J,J,J,J,J,J,J,J,J,J,J,J,J,J,J,J,J,J,J,J,J,J,J,J,J,J,J,J,J,J,J,J,J,J,J,J,J,J,J,J,J,J,J,J,J,J,J,J,J,J,J,J,J,J,J,J,J,J,J,J,J,J,J,J,J,J,J,J,J,J],[.var [.ref 1 0 y1.length 2],.arr (encL zac y1),.var [.fn (.func 44) [.ptr 0 0],sw72 1 y1.length]],2⟩
theorem z69 (s1:Int) (s2:Int) (s8:Int) (y1:(List Pair)):∀ s st o,zak g81_1 st=some (F81_1 s1 s2 s8 y1 s)→iter (zb0 s1 s2 s8 y1) s=some o →
    Wp (evW Try.prog A0 81 (.loop L81_1) st) (OutQ (F81_1 s1 s2 s8 y1) g81_1 (fun n s st=>n=2∧zak [.keep [1,2,3,7,8]] st=some (F81_1 s1 s2 s8 y1 s)) (fun r st=>zap Try.prog A0 81 Try.f81 st=some (.p (.v (.bool r.1)),[.var [.ref 1 0 r.2.length 2],.arr (encL zac r.2)])) o):=by
 refine Wp.iter ?_
 intro s st o hg h
 generalize s=s7 at hg h
 unfold zb0 at h;unfold g81_1 F81_1 at hg ⊢
 (try simp only [] at h hg)
 unfold L81_1 zae Try.f81;simp only [zal,ens]
 revert h
 repeat' first | (with_reducible refine gB fun _ _=>?_) | (with_reducible refine gT (fun _ _=>?_) (fun _ _=>?_)) | (with_reducible refine gI (fun _ _=>?_) (fun _ _=>?_))
 all_goals
  intro h;obtain rfl:=Option.some.inj h
  first | (simp (maxSteps:=10000000) (implicitDefEqProofs:=false) (disch:=first | with_reducible assumption | exact rfl | exact im_ _ | (fail_if_success show Kn _ _);omega) only [bs,rs81,ls81,Nat.reduceAdd,↓reduceIte,zai,zab a64,zab a80,q44_0,q72_0,hg];first | (exact ⟨(rfl:Ex.exit 2=Ex.exit 2),rfl,by kernel_rfl⟩) | (exact ⟨(rfl:Ex.normal=Ex.normal),by kernel_rfl⟩)) | (exfalso;omega)
noncomputable def L81_0:Code:=(zal (zae Try.f81)).getD 0 .skip
def g81_0:List Ghost:=[.keep [1,2,3,7,8]]
noncomputable def F81_0 (s1:Int) (s2:Int):(Int×Int×(List Pair))→St:=fun (s7,s8,y1)=>⟨[J,iv s1,iv s2,.ptr 2 0,J,J,J,iv s7,iv s8,J,J,J,J,J,J,J,J,J,J,J,J,J,J,J,J,J,J,J,J,J,J,J,J,J,J,J,J,J,J,J,J,J,J,J,J,J,J,J,J,J,J,J,J,J,J,J,J,J,J,J,J,J,J,J,J,J,J,J,J,J,J,J,J,J,J,J,J,J,J,J,J,J,J,J,J,J,J,J,J,J,J],[.var [.ref 1 0 y1.length 2],.arr (encL zac y1),.var [.fn (.func 44) [.ptr 0 0],sw72 1 y1.length]],2⟩
theorem z9q (s1:Int) (s2:Int):∀ s st o,zak g81_0 st=some (F81_0 s1 s2 s)→iter (zb1 s1 s2) s=some o →
    Wp (evW Try.prog A0 81 (.loop L81_0) st) (OutQ (F81_0 s1 s2) g81_0 (fun n s st=>n=0∧zak [.keep [1,2,3,7,8]] st=some (F81_0 s1 s2 s)) (fun r st=>zap Try.prog A0 81 Try.f81 st=some (.p (.v (.bool r.1)),[.var [.ref 1 0 r.2.length 2],.arr (encL zac r.2)])) o):=by
 refine Wp.iter ?_
 intro s st o hg h
 obtain ⟨s7,s8,y1⟩:=s
 unfold zb1 at h;unfold g81_0 F81_0 at hg ⊢
 (try simp only [] at h hg)
 unfold L81_0 zae Try.f81;simp only [zal,ens]
 revert h
 refine gI (fun h1 _=>?_) (fun h1 _=>?_)
 ·refine gB fun o h7=>?_
  intro h
  simp (maxSteps:=10000000) (implicitDefEqProofs:=false) (disch:=first | with_reducible assumption | exact rfl | exact im_ _ | (fail_if_success show Kn _ _);omega) only [bs,rs81,ls81,Nat.reduceAdd,↓reduceIte,zai,zab a64,zab a80,q44_0,q72_0,hg]
  refine Wp.ctx (fun x=>seqW _ _ _ _ (za5 _ (seqW _ _ _ _ (za5 _ (x))))) (z69 s1 s2 s8 y1 s7 _ o (by kernel_rfl) h7) ?_
  intro e st hq
  cases o with
  | next _=>(first | cases h | (simp at h))
  | jmp n_ s_ =>
   obtain ⟨rfl,rfl,hq⟩:=hq
   generalize s_=s7_8 at h hq
   unfold F81_1 at hq
   (try simp only [] at h hq)
   revert h
   refine gI (fun h9 _=>?_) (fun h9 _=>?_)
   ·intro h;obtain rfl:=Option.some.inj h
    simp (maxSteps:=10000000) (implicitDefEqProofs:=false) (disch:=first | with_reducible assumption | exact rfl | exact im_ _ | (fail_if_success show Kn _ _);omega) only [bs,rs81,ls81,Nat.reduceAdd,↓reduceIte,zai,zab a64,zab a80,q44_0,q72_0,hg,hq]
    refine ⟨(rfl:Ex.ret=Ex.ret), ?_⟩;show _=_;kernel_rfl
   ·refine gI (fun h10 _=>?_) (fun h10 _=>?_)
    ·intro h;obtain rfl:=Option.some.inj h
     simp (maxSteps:=10000000) (implicitDefEqProofs:=false) (disch:=first | with_reducible assumption | exact rfl | exact im_ _ | (fail_if_success show Kn _ _);omega) only [bs,rs81,ls81,Nat.reduceAdd,↓reduceIte,zai,zab a64,zab a80,q44_0,q72_0,hg,hq]
     refine ⟨(rfl:Ex.ret=Ex.ret), ?_⟩;show _=_;kernel_rfl
    ·refine gB fun r13 h11=>?_
     refine gW fun h14=>?_
     refine gI (fun h15 _=>?_) (fun h15 _=>?_)
     ·refine gB fun o h25=>?_
      intro h
      simp (maxSteps:=10000000) (implicitDefEqProofs:=false) (disch:=first | with_reducible assumption | exact rfl | exact im_ _ | (fail_if_success show Kn _ _);omega) only [bs,rs81,ls81,Nat.reduceAdd,↓reduceIte,zai,zab a64,zab a80,q44_0,q72_0,hg,hq]
      refine Wp.ctx (fun x=>seqW _ _ _ _ (za5 _ (seqW _ _ _ _ (za5 _ (x))))) (z8g s1 s2 s7_8 s8 (w64 (s7_8 - (1:Int)),r13) _ o (by unfold F81_2;simp only [List.length_set,zbx,h14];kernel_rfl) h25) ?_
      intro e st hq
      cases o with
      | next _=>(first | cases h | (simp at h))
      | jmp n_ s_ =>
       obtain ⟨rfl,rfl,hq⟩:=hq
       obtain ⟨s9_26,y1_26⟩:=s_
       unfold F81_2 at hq
       (try simp only [] at h hq)
       revert h
       refine gI (fun h27 _=>?_) (fun h27 _=>?_)
       ·refine gB fun o h37=>?_
        intro h
        simp (maxSteps:=10000000) (implicitDefEqProofs:=false) (disch:=first | with_reducible assumption | exact rfl | exact im_ _ | (fail_if_success show Kn _ _);omega) only [bs,rs81,ls81,Nat.reduceAdd,↓reduceIte,zai,zab a64,zab a80,q44_0,q72_0,hg,hq,hq]
        refine Wp.ctx (fun x=>seqW _ _ _ _ (za5 _ (za5 _ (x)))) (zxm s1 s2 s7_8 s8 (w64 (s7_8+(1:Int)),y1_26) _ o (by kernel_rfl) h37) ?_
        intro e st hq
        cases o with
        | next _=>(first | cases h | (simp at h))
        | jmp n_ s_ =>
         obtain ⟨rfl,rfl,hq⟩:=hq
         obtain ⟨s10_38,y1_38⟩:=s_
         unfold F81_3 at hq
         (try simp only [] at h hq)
         revert h
         intro h;obtain rfl:=Option.some.inj h
         simp (maxSteps:=10000000) (implicitDefEqProofs:=false) (disch:=first | with_reducible assumption | exact rfl | exact im_ _ | (fail_if_success show Kn _ _);omega) only [bs,rs81,ls81,Nat.reduceAdd,↓reduceIte,zai,zab a64,zab a80,q44_0,q72_0,hg,hq,hq,hq]
         exact ⟨(rfl:Ex.normal=Ex.normal),by kernel_rfl⟩
        | ret _=>(first | cases h | (simp at h))
       ·intro h
        simp (maxSteps:=10000000) (implicitDefEqProofs:=false) (disch:=first | with_reducible assumption | exact rfl | exact im_ _ | (fail_if_success show Kn _ _);omega) only [bs,rs81,ls81,Nat.reduceAdd,↓reduceIte,zai,zab a64,zab a80,q44_0,q72_0,hg,hq,hq]
        refine Wp.gh (fun x=>regW _ _ _ _ _ x) ⟨[J,iv s1,iv s2,.ptr 2 0,J,J,J,iv s7_8,iv s8,J,J,J,J,J,J,J,J,J,J,J,J,J,J,J,J,J,J,J,J,J,J,J,J,J,J,J,J,J,J,J,J,J,J,J,J,J,J,J,J,J,J,J,J,J,J,J,J,J,J,J,J,J,J,J,J,J,J,J,J,J,J,J,J,J,J,J,J,J,J,J,J,J,J,J,J,J,J,J,J,J,J],[.var [.ref 1 0 y1_26.length 2],.arr (encL zac y1_26),.var [.fn (.func 44) [.ptr 0 0],sw72 1 y1_26.length]],2⟩ (by kernel_rfl) ?_
        revert h
        intro h;obtain rfl:=Option.some.inj h
        simp (maxSteps:=10000000) (implicitDefEqProofs:=false) (disch:=first | with_reducible assumption | exact rfl | exact im_ _ | (fail_if_success show Kn _ _);omega) only [bs,rs81,ls81,Nat.reduceAdd,↓reduceIte,zai,zab a64,zab a80,q44_0,q72_0,hg,hq,hq]
        exact ⟨(rfl:Ex.normal=Ex.normal),by kernel_rfl⟩
      | ret _=>(first | cases h | (simp at h))
     ·intro h
      simp (maxSteps:=10000000) (implicitDefEqProofs:=false) (disch:=first | with_reducible assumption | exact rfl | exact im_ _ | (fail_if_success show Kn _ _);omega) only [bs,rs81,ls81,Nat.reduceAdd,↓reduceIte,zai,zab a64,zab a80,q44_0,q72_0,hg,hq]
      refine Wp.gh (fun x=>seqW _ _ _ _ (za5 _ (seqW _ _ _ _ (regW _ _ _ _ _ x)))) ⟨[J,iv s1,iv s2,.ptr 2 0,J,J,J,iv s7_8,iv s8,J,J,J,J,J,J,J,J,J,J,J,J,J,J,J,J,J,J,J,J,J,J,J,J,J,J,J,J,J,J,J,J,J,J,J,J,J,J,J,J,J,J,J,J,J,J,J,J,J,J,J,J,J,J,J,J,J,J,J,J,J,J,J,J,J,J,J,J,J,J,J,J,J,J,J,J,J,J,J,J,J,J],[.var [.ref 1 0 r13.length 2],.arr (encL zac r13),.var [.fn (.func 44) [.ptr 0 0],sw72 1 r13.length]],2⟩ (by simp only [List.length_set,zbx,h14];kernel_rfl) ?_
      revert h
      refine gI (fun h39 _=>?_) (fun h39 _=>?_)
      ·refine gB fun o h49=>?_
       intro h
       simp (maxSteps:=10000000) (implicitDefEqProofs:=false) (disch:=first | with_reducible assumption | exact rfl | exact im_ _ | (fail_if_success show Kn _ _);omega) only [bs,rs81,ls81,Nat.reduceAdd,↓reduceIte,zai,zab a64,zab a80,q44_0,q72_0,hg,hq]
       refine Wp.ctx (fun x=>seqW _ _ _ _ (za5 _ (za5 _ (x)))) (zxm s1 s2 s7_8 s8 (w64 (s7_8+(1:Int)),r13) _ o (by kernel_rfl) h49) ?_
       intro e st hq
       cases o with
       | next _=>(first | cases h | (simp at h))
       | jmp n_ s_ =>
        obtain ⟨rfl,rfl,hq⟩:=hq
        obtain ⟨s10_50,y1_50⟩:=s_
        unfold F81_3 at hq
        (try simp only [] at h hq)
        revert h
        intro h;obtain rfl:=Option.some.inj h
        simp (maxSteps:=10000000) (implicitDefEqProofs:=false) (disch:=first | with_reducible assumption | exact rfl | exact im_ _ | (fail_if_success show Kn _ _);omega) only [bs,rs81,ls81,Nat.reduceAdd,↓reduceIte,zai,zab a64,zab a80,q44_0,q72_0,hg,hq,hq]
        exact ⟨(rfl:Ex.normal=Ex.normal),by kernel_rfl⟩
       | ret _=>(first | cases h | (simp at h))
      ·intro h
       simp (maxSteps:=10000000) (implicitDefEqProofs:=false) (disch:=first | with_reducible assumption | exact rfl | exact im_ _ | (fail_if_success show Kn _ _);omega) only [bs,rs81,ls81,Nat.reduceAdd,↓reduceIte,zai,zab a64,zab a80,q44_0,q72_0,hg,hq]
       refine Wp.gh (fun x=>regW _ _ _ _ _ x) ⟨[J,iv s1,iv s2,.ptr 2 0,J,J,J,iv s7_8,iv s8,J,J,J,J,J,J,J,J,J,J,J,J,J,J,J,J,J,J,J,J,J,J,J,J,J,J,J,J,J,J,J,J,J,J,J,J,J,J,J,J,J,J,J,J,J,J,J,J,J,J,J,J,J,J,J,J,J,J,J,J,J,J,J,J,J,J,J,J,J,J,J,J,J,J,J,J,J,J,J,J,J,J],[.var [.ref 1 0 r13.length 2],.arr (encL zac r13),.var [.fn (.func 44) [.ptr 0 0],sw72 1 r13.length]],2⟩ (by kernel_rfl) ?_
       revert h
       intro h;obtain rfl:=Option.some.inj h
       simp (maxSteps:=10000000) (implicitDefEqProofs:=false) (disch:=first | with_reducible assumption | exact rfl | exact im_ _ | (fail_if_success show Kn _ _);omega) only [bs,rs81,ls81,Nat.reduceAdd,↓reduceIte,zai,zab a64,zab a80,q44_0,q72_0,hg,hq]
       exact ⟨(rfl:Ex.normal=Ex.normal),by kernel_rfl⟩
  | ret _=>(first | cases h | (simp at h))
 ·intro h;obtain rfl:=Option.some.inj h
  simp (maxSteps:=10000000) (implicitDefEqProofs:=false) (disch:=first | with_reducible assumption | exact rfl | exact im_ _ | (fail_if_success show Kn _ _);omega) only [bs,rs81,ls81,Nat.reduceAdd,↓reduceIte,zai,zab a64,zab a80,q44_0,q72_0,hg]
  exact ⟨(rfl:Ex.exit 0=Ex.exit 0),rfl,by kernel_rfl⟩
theorem yad  (x1:Int) (x2:Int) (o1:(List Pair)) (r:(Bool×(List Pair))) (h:zba x1 x2 o1=some r):callW Try.prog A0 81 [.agg [.fn (.func 44) [.ptr 0 0],sw72 1 o1.length],iv x1,iv x2] [.var [.ref 1 0 o1.length 2],.arr (encL zac o1)]=some (.p (.v (.bool r.1)),[.var [.ref 1 0 r.2.length 2],.arr (encL zac r.2)]):=by
 refine zax (fn:=Try.f81) (c:=zae Try.f81) 88 rfl rfl (by kernel_rfl) (by kernel_rfl) (by kernel_rfl) ?_
 unfold zba at h;unfold zae Try.f81;simp only [ens]
 revert h
 refine gB fun o h51=>?_
 intro h
 simp (maxSteps:=10000000) (implicitDefEqProofs:=false) (disch:=first | with_reducible assumption | exact rfl | exact im_ _ | (fail_if_success show Kn _ _);omega) only [bs,rs81,ls81,Nat.reduceAdd,↓reduceIte,zai,zab a64,zab a80,q44_0,q72_0]
 refine Wp.ctx (fun x=>seqW _ _ _ _ (za5 _ (x))) (z9q x1 x2 (w64 (x1+(1:Int)),(0:Int),o1) _ o (by kernel_rfl) h51) ?_
 intro e st hq
 cases o with
 | next _=>(first | cases h | (simp at h))
 | jmp n_ s_ =>
  obtain ⟨rfl,rfl,hq⟩:=hq
  obtain ⟨s7_52,s8_52,y1_52⟩:=s_
  unfold F81_0 at hq
  (try simp only [] at h hq)
  revert h
  intro h;obtain rfl:=Option.some.inj h
  simp (maxSteps:=10000000) (implicitDefEqProofs:=false) (disch:=first | with_reducible assumption | exact rfl | exact im_ _ | (fail_if_success show Kn _ _);omega) only [bs,rs81,ls81,Nat.reduceAdd,↓reduceIte,zai,zab a64,zab a80,q44_0,q72_0,hq]
  refine ⟨by simp, ?_⟩;show _=_;kernel_rfl
 | ret r53 =>
  obtain ⟨rfl,hq⟩:=hq
  obtain rfl:=Option.some.inj h
  simp (maxSteps:=10000000) (implicitDefEqProofs:=false) (disch:=first | with_reducible assumption | exact rfl | exact im_ _ | (fail_if_success show Kn _ _);omega) only [bs,rs81,ls81,Nat.reduceAdd,↓reduceIte,zai,zab a64,zab a80,q44_0,q72_0]
  exact ⟨by simp,hq⟩
def ls83:=And.intro @zix (And.intro @zhu (And.intro @zfv (@ze0)))
noncomputable def L83_4:Code:=(zal (zae Try.f83)).getD 4 .skip
def g83_4:List Ghost:=[.keep [1,4,10,11],.keep [1,4,10,11]]
noncomputable def F83_4 (s1:Int) (s10:Int) (y1:(List Pair)):Int→St:=fun s11=>⟨[J,iv s1,J,J,.ptr 2 0,J,J,J,J,J,iv s10,iv s11,J,J,J,J,J,J,J,J,J,J,J,J,J,J,J,J,J,J,J,J,J,J,J,J,J,J,J,J,J,J,J,J,J,J,J,J,J,J,J,J,J,J,J,J,J,J,J,J,J,J,J,J,J,J,J,J,J,J,J,J,J,J,J,J,J,J,J,J,J,J,J,J,J,J,J,J,J,J,J,J,J,J,J,J,J,J,J,J,J,J,J,J,J,J,J],[.var [.ref 1 0 y1.length 2],.arr (encL zac y1),.var [.fn (.func 44) [.ptr 0 0],sw72 1 y1.length]],2⟩
theorem z71 (s1:Int) (s10:Int) (y1:(List Pair)):∀ s st o,zak g83_4 st=some (F83_4 s1 s10 y1 s)→iter (zd6 s1 s10 y1) s=some o →
    Wp (evW Try.prog A0 83 (.loop L83_4) st) (OutQ (F83_4 s1 s10 y1) g83_4 (fun n s st=>n=8∧zak [.keep [1,4,10,11]] st=some (F83_4 s1 s10 y1 s)) (fun r st=>zap Try.prog A0 83 Try.f83 st=some (.p (.tup [.v (.int .i64 r.1),.v (.bool r.2.1)]),[.var [.ref 1 0 r.2.2.length 2],.arr (encL zac r.2.2)])) o):=by
 refine Wp.iter ?_
 intro s st o hg h
 generalize s=s11 at hg h
 unfold zd6 at h;unfold g83_4 F83_4 at hg ⊢
 (try simp only [] at h hg)
 unfold L83_4 zae Try.f83;simp only [zal,ens]
 revert h
 repeat' first | (with_reducible refine gB fun _ _=>?_) | (with_reducible refine gT (fun _ _=>?_) (fun _ _=>?_)) | (with_reducible refine gI (fun _ _=>?_) (fun _ _=>?_))
 all_goals
  intro h;obtain rfl:=Option.some.inj h
  first | (simp (maxSteps:=10000000) (implicitDefEqProofs:=false) (disch:=first | with_reducible assumption | exact rfl | exact im_ _ | (fail_if_success show Kn _ _);omega) only [bs,rs83,ls83,Nat.reduceAdd,↓reduceIte,zai,zab a64,zab a80,q44_0,q72_0,hg];first | (exact ⟨(rfl:Ex.exit 8=Ex.exit 8),rfl,by kernel_rfl⟩) | (exact ⟨(rfl:Ex.normal=Ex.normal),by kernel_rfl⟩)) | (exfalso;omega)
noncomputable def L83_3:Code:=(zal (zae Try.f83)).getD 3 .skip
def g83_3:List Ghost:=[.keep [1,4,10,11],.keep [1,4,10,11]]
noncomputable def F83_3 (s1:Int) (s11:Int) (y1:(List Pair)):Int→St:=fun s10=>⟨[J,iv s1,J,J,.ptr 2 0,J,J,J,J,J,iv s10,iv s11,J,J,J,J,J,J,J,J,J,J,J,J,J,J,J,J,J,J,J,J,J,J,J,J,J,J,J,J,J,J,J,J,J,J,J,J,J,J,J,J,J,J,J,J,J,J,J,J,J,J,J,J,J,J,J,J,J,J,J,J,J,J,J,J,J,J,J,J,J,J,J,J,J,J,J,J,J,J,J,J,J,J,J,J,J,J,J,J,J,J,J,J,J,J,J],[.var [.ref 1 0 y1.length 2],.arr (encL zac y1),.var [.fn (.func 44) [.ptr 0 0],sw72 1 y1.length]],2⟩
theorem z6w (s1:Int) (s11:Int) (y1:(List Pair)):∀ s st o,zak g83_3 st=some (F83_3 s1 s11 y1 s)→iter (zd7 s1 s11 y1) s=some o →
    Wp (evW Try.prog A0 83 (.loop L83_3) st) (OutQ (F83_3 s1 s11 y1) g83_3 (fun n s st=>n=6∧zak [.keep [1,4,10,11]] st=some (F83_3 s1 s11 y1 s)) (fun r st=>zap Try.prog A0 83 Try.f83 st=some (.p (.tup [.v (.int .i64 r.1),.v (.bool r.2.1)]),[.var [.ref 1 0 r.2.2.length 2],.arr (encL zac r.2.2)])) o):=by
 refine Wp.iter ?_
 intro s st o hg h
 generalize s=s10 at hg h
 unfold zd7 at h;unfold g83_3 F83_3 at hg ⊢
 (try simp only [] at h hg)
 unfold L83_3 zae Try.f83;simp only [zal,ens]
 revert h
 repeat' first | (with_reducible refine gB fun _ _=>?_) | (with_reducible refine gT (fun _ _=>?_) (fun _ _=>?_)) | (with_reducible refine gI (fun _ _=>?_) (fun _ _=>?_))
 all_goals
  intro h;obtain rfl:=Option.some.inj h
  first | (simp (maxSteps:=10000000) (implicitDefEqProofs:=false) (disch:=first | with_reducible assumption | exact rfl | exact im_ _ | (fail_if_success show Kn _ _);omega) only [bs,rs83,ls83,Nat.reduceAdd,↓reduceIte,zai,zab a64,zab a80,q44_0,q72_0,hg];first | (exact ⟨(rfl:Ex.normal=Ex.normal),by kernel_rfl⟩) | (exact ⟨(rfl:Ex.exit 6=Ex.exit 6),rfl,by kernel_rfl⟩)) | (exfalso;omega)
noncomputable def L83_2:Code:=(zal (zae Try.f83)).getD 2 .skip
def g83_2:List Ghost:=[.keep [1,4,10,11]]
noncomputable def F83_2 (s1:Int):(Int×Int×(List Pair))→St:=fun (s10,s11,y1)=>⟨[J,iv s1,J,J,.ptr 2 0,J,J,J,J,J,iv s10,iv s11,J,J,J,J,J,J,J,J,J,J,J,J,J,J,J,J,J,J,J,J,J,J,J,J,J,J,J,J,J,J,J,J,J,J,J,J,J,J,J,J,J,J,J,J,J,J,J,J,J,J,J,J,J,J,J,J,J,J,J,J,J,J,J,J,J,J,J,J,J,J,J,J,J,J,J,J,J,J,J,J,J,J,J,J,J,J,J,J,J,J,J,J,J,J,J],[.var [.ref 1 0 y1.length 2],.arr (encL zac y1),.var [.fn (.func 44) [.ptr 0 0],sw72 1 y1.length]],2⟩
theorem z6d (s1:Int):∀ s st o,zak g83_2 st=some (F83_2 s1 s)→iter (zd5 s1) s=some o →
    Wp (evW Try.prog A0 83 (.loop L83_2) st) (OutQ (F83_2 s1) g83_2 (fun n s st=>n=4∧zak [.keep [1,4,10,11]] st=some (F83_2 s1 s)) (fun r st=>zap Try.prog A0 83 Try.f83 st=some (.p (.tup [.v (.int .i64 r.1),.v (.bool r.2.1)]),[.var [.ref 1 0 r.2.2.length 2],.arr (encL zac r.2.2)])) o):=by
 refine Wp.iter ?_
 intro s st o hg h
 obtain ⟨s10,s11,y1⟩:=s
 unfold zd5 at h;unfold g83_2 F83_2 at hg ⊢
 (try simp only [] at h hg)
 unfold L83_2 zae Try.f83;simp only [zal,ens]
 revert h
 refine gB fun o h33=>?_
 intro h
 simp (maxSteps:=10000000) (implicitDefEqProofs:=false) (disch:=first | with_reducible assumption | exact rfl | exact im_ _ | (fail_if_success show Kn _ _);omega) only [bs,rs83,ls83,Nat.reduceAdd,↓reduceIte,zai,zab a64,zab a80,q44_0,q72_0,hg]
 refine Wp.ctx (fun x=>za5 _ (seqW _ _ _ _ (za5 _ (x)))) (z6w s1 s11 y1 s10 _ o (show zak g83_3 _=some _ from zi0 (a:=[.keep [1,4,10,11]]) (b:=[.keep [1,4,10,11]]) hg (by kernel_rfl)) h33) ?_
 intro e st hq
 cases o with
 | next _=>(first | cases h | (simp at h))
 | jmp n_ s_ =>
  obtain ⟨rfl,rfl,hq⟩:=hq
  generalize s_=s10_34 at h hq
  unfold F83_3 at hq
  (try simp only [] at h hq)
  revert h
  refine gB fun o h40=>?_
  intro h
  simp (maxSteps:=10000000) (implicitDefEqProofs:=false) (disch:=first | with_reducible assumption | exact rfl | exact im_ _ | (fail_if_success show Kn _ _);omega) only [bs,rs83,ls83,Nat.reduceAdd,↓reduceIte,zai,zab a64,zab a80,q44_0,q72_0,hg,hq]
  refine Wp.ctx (fun x=>za5 _ (seqW _ _ _ _ (za5 _ (x)))) (z71 s1 s10_34 y1 s11 _ o (show zak g83_4 _=some _ from zi0 (a:=[.keep [1,4,10,11]]) (b:=[.keep [1,4,10,11]]) hq (by kernel_rfl)) h40) ?_
  intro e st hq
  cases o with
  | next _=>(first | cases h | (simp at h))
  | jmp n_ s_ =>
   obtain ⟨rfl,rfl,hq⟩:=hq
   generalize s_=s11_41 at h hq
   unfold F83_4 at hq
   (try simp only [] at h hq)
   revert h
   repeat' first | (with_reducible refine gB fun _ _=>?_) | (with_reducible refine gW fun _=>?_) | (with_reducible refine gI (fun _ _=>?_) (fun _ _=>?_))
   all_goals
    intro h;obtain rfl:=Option.some.inj h
    first | (simp (maxSteps:=10000000) (implicitDefEqProofs:=false) (disch:=first | with_reducible assumption | exact rfl | exact im_ _ | (fail_if_success show Kn _ _);omega) only [bs,rs83,ls83,Nat.reduceAdd,↓reduceIte,zai,zab a64,zab a80,q44_0,q72_0,hg,hq,hq];first | (exact ⟨(rfl:Ex.exit 4=Ex.exit 4),rfl,by kernel_rfl⟩) | (exact ⟨(rfl:Ex.normal=Ex.normal),by (try simp only [List.length_set,zbx, *]);kernel_rfl⟩)) | (exfalso;omega)
  | ret _=>(first | cases h | (simp at h))
 | ret _=>(first | cases h | (simp at h))
noncomputable def L83_1:Code:=(zal (zae Try.f83)).getD 1 .skip
def g83_1:List Ghost:=[.keep [1,4,10,11],.keep [1,4,10,11]]
noncomputable def F83_1 (s1:Int) (s10:Int) (y1:(List Pair)):Int→St:=fun s11=>⟨[J,iv s1,J,J,.ptr 2 0,J,J,J,J,J,iv s10,iv s11,J,J,J,J,J,J,J,J,J,J,J,J,J,J,J,J,J,J,J,J,J,J,J,J,J,J,J,J,J,J,J,J,J,J,J,J,J,J,J,J,J,J,J,J,J,J,J,J,J,J,J,J,J,J,J,J,J,J,J,J,J,J,J,J,J,J,J,J,J,J,J,J,J,J,J,J,J,J,J,J,J,J,J,J,J,J,J,J,J,J,J,J,J,J,J],[.var [.ref 1 0 y1.length 2],.arr (encL zac y1),.var [.fn (.func 44) [.ptr 0 0],sw72 1 y1.length]],2⟩
theorem z8x (s1:Int) (s10:Int) (y1:(List Pair)):∀ s st o,zak g83_1 st=some (F83_1 s1 s10 y1 s)→iter (zd2 s1 s10 y1) s=some o →
    Wp (evW Try.prog A0 83 (.loop L83_1) st) (OutQ (F83_1 s1 s10 y1) g83_1 (fun n s st=>n=2∧zak [.keep [1,4,10,11]] st=some (F83_1 s1 s10 y1 s)) (fun r st=>zap Try.prog A0 83 Try.f83 st=some (.p (.tup [.v (.int .i64 r.1),.v (.bool r.2.1)]),[.var [.ref 1 0 r.2.2.length 2],.arr (encL zac r.2.2)])) o):=by
 refine Wp.iter ?_
 intro s st o hg h
 generalize s=s11 at hg h
 unfold zd2 at h;unfold g83_1 F83_1 at hg ⊢
 (try simp only [] at h hg)
 unfold L83_1 zae Try.f83;simp only [zal,ens]
 revert h
 repeat' first | (with_reducible refine gB fun _ _=>?_) | (with_reducible refine gT (fun _ _=>?_) (fun _ _=>?_)) | (with_reducible refine gI (fun _ _=>?_) (fun _ _=>?_))
 all_goals
  intro h;obtain rfl:=Option.some.inj h
  first | (simp (maxSteps:=10000000) (implicitDefEqProofs:=false) (disch:=first | with_reducible assumption | exact rfl | exact im_ _ | (fail_if_success show Kn _ _);omega) only [bs,rs83,ls83,Nat.reduceAdd,↓reduceIte,zai,zab a64,zab a80,q44_0,q72_0,hg];first | (exact ⟨(rfl:Ex.exit 2=Ex.exit 2),rfl,by kernel_rfl⟩) | (exact ⟨(rfl:Ex.normal=Ex.normal),by kernel_rfl⟩)) | (exfalso;omega)
noncomputable def L83_0:Code:=(zal (zae Try.f83)).getD 0 .skip
def g83_0:List Ghost:=[.keep [1,4,10,11]]
noncomputable def F83_0 (s1:Int) (s11:Int) (y1:(List Pair)):Int→St:=fun s10=>⟨[J,iv s1,J,J,.ptr 2 0,J,J,J,J,J,iv s10,iv s11,J,J,J,J,J,J,J,J,J,J,J,J,J,J,J,J,J,J,J,J,J,J,J,J,J,J,J,J,J,J,J,J,J,J,J,J,J,J,J,J,J,J,J,J,J,J,J,J,J,J,J,J,J,J,J,J,J,J,J,J,J,J,J,J,J,J,J,J,J,J,J,J,J,J,J,J,J,J,J,J,J,J,J,J,J,J,J,J,J,J,J,J,J,J,J],[.var [.ref 1 0 y1.length 2],.arr (encL zac y1),.var [.fn (.func 44) [.ptr 0 0],sw72 1 y1.length]],2⟩
theorem z74 (s1:Int) (s11:Int) (y1:(List Pair)):∀ s st o,zak g83_0 st=some (F83_0 s1 s11 y1 s)→iter (zd3 s1 s11 y1) s=some o →
    Wp (evW Try.prog A0 83 (.loop L83_0) st) (OutQ (F83_0 s1 s11 y1) g83_0 (fun n s st=>n=0∧zak [.keep [1,4,10,11]] st=some (F83_0 s1 s11 y1 s)) (fun r st=>zap Try.prog A0 83 Try.f83 st=some (.p (.tup [.v (.int .i64 r.1),.v (.bool r.2.1)]),[.var [.ref 1 0 r.2.2.length 2],.arr (encL zac r.2.2)])) o):=by
 refine Wp.iter ?_
 intro s st o hg h
 generalize s=s10 at hg h
 unfold zd3 at h;unfold g83_0 F83_0 at hg ⊢
 (try simp only [] at h hg)
 unfold L83_0 zae Try.f83;simp only [zal,ens]
 revert h
 repeat' first | (with_reducible refine gB fun _ _=>?_) | (with_reducible refine gT (fun _ _=>?_) (fun _ _=>?_)) | (with_reducible refine gI (fun _ _=>?_) (fun _ _=>?_))
 all_goals
  intro h;obtain rfl:=Option.some.inj h
  first | (simp (maxSteps:=10000000) (implicitDefEqProofs:=false) (disch:=first | with_reducible assumption | exact rfl | exact im_ _ | (fail_if_success show Kn _ _);omega) only [bs,rs83,ls83,Nat.reduceAdd,↓reduceIte,zai,zab a64,zab a80,q44_0,q72_0,hg];first | (exact ⟨(rfl:Ex.normal=Ex.normal),by kernel_rfl⟩) | (exact ⟨(rfl:Ex.exit 0=Ex.exit 0),rfl,by kernel_rfl⟩)) | (exfalso;omega)
theorem z9y  (x1:Int) (x2:Int) (x3:Int) (o1:(List Pair)) (r:(Int×Bool×(List Pair))) (h:zas x1 x2 x3 o1=some r):callW Try.prog A0 83 [.agg [.fn (.func 44) [.ptr 0 0],sw72 1 o1.length],iv x1,iv x2,iv x3] [.var [.ref 1 0 o1.length 2],.arr (encL zac o1)]=some (.p (.tup [.v (.int .i64 r.1),.v (.bool r.2.1)]),[.var [.ref 1 0 r.2.2.length 2],.arr (encL zac r.2.2)]):=by
 refine zax (fn:=Try.f83) (c:=zae Try.f83) 103 rfl rfl (by kernel_rfl) (by kernel_rfl) (by kernel_rfl) ?_
 unfold zas at h;unfold zae Try.f83;simp only [ens]
 revert h
 refine gB fun r3 h1=>?_
 refine gW fun h4=>?_
 refine gB fun o h10=>?_
 intro h
 simp (maxSteps:=10000000) (implicitDefEqProofs:=false) (disch:=first | with_reducible assumption | exact rfl | exact im_ _ | (fail_if_success show Kn _ _);omega) only [bs,rs83,ls83,Nat.reduceAdd,↓reduceIte,zai,zab a64,zab a80,q44_0,q72_0]
 refine Wp.ctx (fun x=>seqW _ _ _ _ (za5 _ (x))) (z74 x1 (w64 (x2 - (1:Int))) r3 (w64 (x1+(1:Int))) _ o (by unfold F83_0;simp only [List.length_set,zbx,h4];kernel_rfl) h10) ?_
 intro e st hq
 cases o with
 | next _=>(first | cases h | (simp at h))
 | jmp n_ s_ =>
  obtain ⟨rfl,rfl,hq⟩:=hq
  generalize s_=s10_11 at h hq
  unfold F83_0 at hq
  (try simp only [] at h hq)
  revert h
  refine gB fun o h17=>?_
  intro h
  simp (maxSteps:=10000000) (implicitDefEqProofs:=false) (disch:=first | with_reducible assumption | exact rfl | exact im_ _ | (fail_if_success show Kn _ _);omega) only [bs,rs83,ls83,Nat.reduceAdd,↓reduceIte,zai,zab a64,zab a80,q44_0,q72_0,hq]
  refine Wp.ctx (fun x=>seqW _ _ _ _ (za5 _ (x))) (z8x x1 s10_11 r3 (w64 (x2 - (1:Int))) _ o (show zak g83_1 _=some _ from zi0 (a:=[.keep [1,4,10,11]]) (b:=[.keep [1,4,10,11]]) hq (by kernel_rfl)) h17) ?_
  intro e st hq
  cases o with
  | next _=>(first | cases h | (simp at h))
  | jmp n_ s_ =>
   obtain ⟨rfl,rfl,hq⟩:=hq
   generalize s_=s11_18 at h hq
   unfold F83_1 at hq
   (try simp only [] at h hq)
   revert h
   refine gI (fun h19 _=>?_) (fun h19 _=>?_)
   ·repeat' first | (with_reducible refine gB fun _ _=>?_) | (with_reducible refine gW fun _=>?_)
    intro h;obtain rfl:=Option.some.inj h
    simp (maxSteps:=10000000) (implicitDefEqProofs:=false) (disch:=first | with_reducible assumption | exact rfl | exact im_ _ | (fail_if_success show Kn _ _);omega) only [bs,rs83,ls83,Nat.reduceAdd,↓reduceIte,zai,zab a64,zab a80,q44_0,q72_0,hq,hq]
    refine ⟨by simp, ?_⟩;show _=_;(try simp only [List.length_set,zbx, *]);kernel_rfl
   ·refine gB fun r26 h24=>?_
    refine gW fun h27=>?_
    refine gB fun o h47=>?_
    intro h
    simp (maxSteps:=10000000) (implicitDefEqProofs:=false) (disch:=first | with_reducible assumption | exact rfl | exact im_ _ | (fail_if_success show Kn _ _);omega) only [bs,rs83,ls83,Nat.reduceAdd,↓reduceIte,zai,zab a64,zab a80,q44_0,q72_0,hq,hq]
    refine Wp.ctx (fun x=>seqW _ _ _ _ (za5 _ (x))) (z6d x1 (w64 (s10_11+(1:Int)),w64 (s11_18 - (1:Int)),r26) _ o (by unfold F83_2;simp only [List.length_set,zbx,h4,h27];kernel_rfl) h47) ?_
    intro e st hq
    cases o with
    | next _=>(first | cases h | (simp at h))
    | jmp n_ s_ =>
     obtain ⟨rfl,rfl,hq⟩:=hq
     obtain ⟨s10_48,s11_48,y1_48⟩:=s_
     unfold F83_2 at hq
     (try simp only [] at h hq)
     revert h
     repeat' first | (with_reducible refine gB fun _ _=>?_) | (with_reducible refine gW fun _=>?_)
     intro h;obtain rfl:=Option.some.inj h
     simp (maxSteps:=10000000) (implicitDefEqProofs:=false) (disch:=first | with_reducible assumption | exact rfl | exact im_ _ | (fail_if_success show Kn _ _);omega) only [bs,rs83,ls83,Nat.reduceAdd,↓reduceIte,zai,zab a64,zab a80,q44_0,q72_0,hq,hq,hq]
     refine ⟨by simp, ?_⟩;show _=_;(try simp only [List.length_set,zbx, *]);kernel_rfl
    | ret _=>(first | cases h | (simp at h))
  | ret _=>(first | cases h | (simp at h))
 | ret _=>(first | cases h | (simp at h))
def ls82:=And.intro @zix (And.intro @zhu (And.intro @zfv (@ze0)))
theorem q60_0 {rec:Int→Int→Int→(List Pair)→Option (List Pair)} (hrec:∀ x1 x2 x3 o1 r,rec x1 x2 x3 o1=some r→callW Try.prog A0 60 [.agg [.fn (.func 44) [.ptr 0 0],sw72 1 o1.length],iv x1,iv x2,iv x3] [.var [.ref 1 0 o1.length 2],.arr (encL zac o1)]=some (.p (.tup []),[.var [.ref 1 0 r.length 2],.arr (encL zac r)])) {a1:List Pair}{n2:Nat}{a3 a4 a5:Int}{r9001:(List Pair)}{X2:Ob} (k0:n2=a1.length) (h9002:rec a3 a4 a5 a1=some r9001):callD (callW Try.prog A0) A0 [.var [.ref 1 0 a1.length 2],.arr (encL zac a1),X2] 60 [.agg [.fn (.func 44) [.ptr 0 0],sw72 1 n2],iv a3,iv a4,iv a5]=some (.p (.tup []),some [.var [.ref 1 0 r9001.length 2],.arr (encL zac r9001),X2]):=by
  rw [show n2=a1.length from by omega];exact (zbe (dsw:=[.agg [.fn (.func 44) [.ptr 0 0],sw72 1 a1.length],iv a3,iv a4,iv a5]) (ds':=[.agg [.fn (.func 44) [.ptr 0 0],sw72 1 a1.length],iv a3,iv a4,iv a5]) (i:=0) (ids:=[1]) (o:=.var [.ref 1 0 a1.length 2]) (os:=[.arr (encL zac a1)]) (o':=.var [.ref 1 0 r9001.length 2]) (os':=[.arr (encL zac r9001)]) rfl (by kernel_rfl) (by kernel_rfl) (by kernel_rfl) (by kernel_rfl) (by kernel_rfl) (hrec _ _ _ _ _ h9002) rfl rfl).trans (by kernel_rfl)
theorem q83_0 {a1:List Pair}{n2:Nat}{a3 a4 a5:Int}{r9001:(Int×Bool×(List Pair))}{X2:Ob} (k0:n2=a1.length) (h9002:zas a3 a4 a5 a1=some r9001):callD (callW Try.prog A0) A0 [.var [.ref 1 0 a1.length 2],.arr (encL zac a1),X2] 83 [.agg [.fn (.func 44) [.ptr 0 0],sw72 1 n2],iv a3,iv a4,iv a5]=some (.p (.tup [.v (.int .i64 r9001.1),.v (.bool r9001.2.1)]),some [.var [.ref 1 0 r9001.2.2.length 2],.arr (encL zac r9001.2.2),X2]):=by
  rw [show n2=a1.length from by omega];exact (zbe (dsw:=[.agg [.fn (.func 44) [.ptr 0 0],sw72 1 a1.length],iv a3,iv a4,iv a5]) (ds':=[.agg [.fn (.func 44) [.ptr 0 0],sw72 1 a1.length],iv a3,iv a4,iv a5]) (i:=0) (ids:=[1]) (o:=.var [.ref 1 0 a1.length 2]) (os:=[.arr (encL zac a1)]) (o':=.var [.ref 1 0 r9001.2.2.length 2]) (os':=[.arr (encL zac r9001.2.2)]) rfl (by kernel_rfl) (by kernel_rfl) (by kernel_rfl) (by kernel_rfl) (by kernel_rfl) (z9y _ _ _ _ _ h9002) rfl rfl).trans (by kernel_rfl)
noncomputable def L82_2:Code:=(zal (zae Try.f82)).getD 2 .skip
def g82_2:List Ghost:=[.keep [1,4,9,10],.keep [1,4,9,10]]
noncomputable def F82_2 (s1:Int) (s9:Int) (y1:(List Pair)):Int→St:=fun s10=>⟨[J,iv s1,J,J,.ptr 2 0,J,J,J,J,iv s9,iv s10,J,J,J,J,J,J,J,J,J,J,J,J,J,J,J,J,J,J,J,J,J,J,J,J,J,J,J,J,J,J,J,J,J,J,J,J,J,J,J,J,J,J,J,J,J,J,J],[.var [.ref 1 0 y1.length 2],.arr (encL zac y1),.var [.fn (.func 44) [.ptr 0 0],sw72 1 y1.length]],2⟩
theorem z9r (s1:Int) (s9:Int) (y1:(List Pair)):∀ s st o,zak g82_2 st=some (F82_2 s1 s9 y1 s)→iter (zcp s1 s9 y1) s=some o →
    Wp (evW Try.prog A0 82 (.loop L82_2) st) (OutQ (F82_2 s1 s9 y1) g82_2 (fun n s st=>n=4∧zak [.keep [1,4,9,10]] st=some (F82_2 s1 s9 y1 s)) (fun r st=>zap Try.prog A0 82 Try.f82 st=some (.p (.v (.int .i64 r.1)),[.var [.ref 1 0 r.2.length 2],.arr (encL zac r.2)])) o):=by
 refine Wp.iter ?_
 intro s st o hg h
 generalize s=s10 at hg h
 unfold zcp at h;unfold g82_2 F82_2 at hg ⊢
 (try simp only [] at h hg)
 unfold L82_2 zae Try.f82;simp only [zal,ens]
 revert h
 repeat' first | (with_reducible refine gB fun _ _=>?_) | (with_reducible refine gT (fun _ _=>?_) (fun _ _=>?_)) | (with_reducible refine gI (fun _ _=>?_) (fun _ _=>?_))
 all_goals
  intro h;obtain rfl:=Option.some.inj h
  first | (simp (maxSteps:=10000000) (implicitDefEqProofs:=false) (disch:=first | with_reducible assumption | exact rfl | exact im_ _ | (fail_if_success show Kn _ _);omega) only [bs,rs82,ls82,Nat.reduceAdd,↓reduceIte,zai,zab a64,zab a80,q44_0,q72_0,hg];first | (exact ⟨(rfl:Ex.normal=Ex.normal),by kernel_rfl⟩) | (exact ⟨(rfl:Ex.exit 4=Ex.exit 4),rfl,by kernel_rfl⟩)) | (exfalso;omega)
noncomputable def L82_1:Code:=(zal (zae Try.f82)).getD 1 .skip
def g82_1:List Ghost:=[.keep [1,4,9,10],.keep [1,4,9,10]]
noncomputable def F82_1 (s1:Int) (s10:Int) (y1:(List Pair)):Int→St:=fun s9=>⟨[J,iv s1,J,J,.ptr 2 0,J,J,J,J,iv s9,iv s10,J,J,J,J,J,J,J,J,J,J,J,J,J,J,J,J,J,J,J,J,J,J,J,J,J,J,J,J,J,J,J,J,J,J,J,J,J,J,J,J,J,J,J,J,J,J,J],[.var [.ref 1 0 y1.length 2],.arr (encL zac y1),.var [.fn (.func 44) [.ptr 0 0],sw72 1 y1.length]],2⟩
theorem z7g (s1:Int) (s10:Int) (y1:(List Pair)):∀ s st o,zak g82_1 st=some (F82_1 s1 s10 y1 s)→iter (zcr s1 s10 y1) s=some o →
    Wp (evW Try.prog A0 82 (.loop L82_1) st) (OutQ (F82_1 s1 s10 y1) g82_1 (fun n s st=>n=2∧zak [.keep [1,4,9,10]] st=some (F82_1 s1 s10 y1 s)) (fun r st=>zap Try.prog A0 82 Try.f82 st=some (.p (.v (.int .i64 r.1)),[.var [.ref 1 0 r.2.length 2],.arr (encL zac r.2)])) o):=by
 refine Wp.iter ?_
 intro s st o hg h
 generalize s=s9 at hg h
 unfold zcr at h;unfold g82_1 F82_1 at hg ⊢
 (try simp only [] at h hg)
 unfold L82_1 zae Try.f82;simp only [zal,ens]
 revert h
 repeat' first | (with_reducible refine gB fun _ _=>?_) | (with_reducible refine gT (fun _ _=>?_) (fun _ _=>?_)) | (with_reducible refine gI (fun _ _=>?_) (fun _ _=>?_))
 all_goals
  intro h;obtain rfl:=Option.some.inj h
  first | (simp (maxSteps:=10000000) (implicitDefEqProofs:=false) (disch:=first | with_reducible assumption | exact rfl | exact im_ _ | (fail_if_success show Kn _ _);omega) only [bs,rs82,ls82,Nat.reduceAdd,↓reduceIte,zai,zab a64,zab a80,q44_0,q72_0,hg];first | (exact ⟨(rfl:Ex.exit 2=Ex.exit 2),rfl,by kernel_rfl⟩) | (exact ⟨(rfl:Ex.normal=Ex.normal),by kernel_rfl⟩)) | (exfalso;omega)
noncomputable def L82_0:Code:=(zal (zae Try.f82)).getD 0 .skip
def g82_0:List Ghost:=[.keep [1,4,9,10]]
noncomputable def F82_0 (s1:Int):(Int×Int×(List Pair))→St:=fun (s9,s10,y1)=>⟨[J,iv s1,J,J,.ptr 2 0,J,J,J,J,iv s9,iv s10,J,J,J,J,J,J,J,J,J,J,J,J,J,J,J,J,J,J,J,J,J,J,J,J,J,J,J,J,J,J,J,J,J,J,J,J,J,J,J,J,J,J,J,J,J,J,J],[.var [.ref 1 0 y1.length 2],.arr (encL zac y1),.var [.fn (.func 44) [.ptr 0 0],sw72 1 y1.length]],2⟩
theorem z7k (s1:Int):∀ s st o,zak g82_0 st=some (F82_0 s1 s)→iter (zcq s1) s=some o →
    Wp (evW Try.prog A0 82 (.loop L82_0) st) (OutQ (F82_0 s1) g82_0 (fun n s st=>n=0∧zak [.keep [1,4,9,10]] st=some (F82_0 s1 s)) (fun r st=>zap Try.prog A0 82 Try.f82 st=some (.p (.v (.int .i64 r.1)),[.var [.ref 1 0 r.2.length 2],.arr (encL zac r.2)])) o):=by
 refine Wp.iter ?_
 intro s st o hg h
 obtain ⟨s9,s10,y1⟩:=s
 unfold zcq at h;unfold g82_0 F82_0 at hg ⊢
 (try simp only [] at h hg)
 unfold L82_0 zae Try.f82;simp only [zal,ens]
 revert h
 refine gB fun o h10=>?_
 intro h
 simp (maxSteps:=10000000) (implicitDefEqProofs:=false) (disch:=first | with_reducible assumption | exact rfl | exact im_ _ | (fail_if_success show Kn _ _);omega) only [bs,rs82,ls82,Nat.reduceAdd,↓reduceIte,zai,zab a64,zab a80,q44_0,q72_0,hg]
 refine Wp.ctx (fun x=>za5 _ (seqW _ _ _ _ (za5 _ (x)))) (z7g s1 s10 y1 s9 _ o (show zak g82_1 _=some _ from zi0 (a:=[.keep [1,4,9,10]]) (b:=[.keep [1,4,9,10]]) hg (by kernel_rfl)) h10) ?_
 intro e st hq
 cases o with
 | next _=>(first | cases h | (simp at h))
 | jmp n_ s_ =>
  obtain ⟨rfl,rfl,hq⟩:=hq
  generalize s_=s9_11 at h hq
  unfold F82_1 at hq
  (try simp only [] at h hq)
  revert h
  refine gB fun o h17=>?_
  intro h
  simp (maxSteps:=10000000) (implicitDefEqProofs:=false) (disch:=first | with_reducible assumption | exact rfl | exact im_ _ | (fail_if_success show Kn _ _);omega) only [bs,rs82,ls82,Nat.reduceAdd,↓reduceIte,zai,zab a64,zab a80,q44_0,q72_0,hg,hq]
  refine Wp.ctx (fun x=>za5 _ (seqW _ _ _ _ (za5 _ (x)))) (z9r s1 s9_11 y1 s10 _ o (show zak g82_2 _=some _ from zi0 (a:=[.keep [1,4,9,10]]) (b:=[.keep [1,4,9,10]]) hq (by kernel_rfl)) h17) ?_
  intro e st hq
  cases o with
  | next _=>(first | cases h | (simp at h))
  | jmp n_ s_ =>
   obtain ⟨rfl,rfl,hq⟩:=hq
   generalize s_=s10_18 at h hq
   unfold F82_2 at hq
   (try simp only [] at h hq)
   revert h
   repeat' first | (with_reducible refine gB fun _ _=>?_) | (with_reducible refine gW fun _=>?_) | (with_reducible refine gI (fun _ _=>?_) (fun _ _=>?_))
   all_goals
    intro h;obtain rfl:=Option.some.inj h
    first | (simp (maxSteps:=10000000) (implicitDefEqProofs:=false) (disch:=first | with_reducible assumption | exact rfl | exact im_ _ | (fail_if_success show Kn _ _);omega) only [bs,rs82,ls82,Nat.reduceAdd,↓reduceIte,zai,zab a64,zab a80,q44_0,q72_0,hg,hq,hq];first | (exact ⟨(rfl:Ex.exit 0=Ex.exit 0),rfl,by kernel_rfl⟩) | (exact ⟨(rfl:Ex.normal=Ex.normal),by (try simp only [List.length_set,zbx, *]);kernel_rfl⟩)) | (exfalso;omega)
  | ret _=>(first | cases h | (simp at h))
 | ret _=>(first | cases h | (simp at h))
theorem yae  (x1:Int) (x2:Int) (x3:Int) (o1:(List Pair)) (r:(Int×(List Pair))) (h:zaw x1 x2 x3 o1=some r):callW Try.prog A0 82 [.agg [.fn (.func 44) [.ptr 0 0],sw72 1 o1.length],iv x1,iv x2,iv x3] [.var [.ref 1 0 o1.length 2],.arr (encL zac o1)]=some (.p (.v (.int .i64 r.1)),[.var [.ref 1 0 r.2.length 2],.arr (encL zac r.2)]):=by
 refine zax (fn:=Try.f82) (c:=zae Try.f82) 54 rfl rfl (by kernel_rfl) (by kernel_rfl) (by kernel_rfl) ?_
 unfold zaw at h;unfold zae Try.f82;simp only [ens]
 revert h
 refine gB fun r3 h1=>?_
 refine gW fun h4=>?_
 refine gB fun o h24=>?_
 intro h
 simp (maxSteps:=10000000) (implicitDefEqProofs:=false) (disch:=first | with_reducible assumption | exact rfl | exact im_ _ | (fail_if_success show Kn _ _);omega) only [bs,rs82,ls82,Nat.reduceAdd,↓reduceIte,zai,zab a64,zab a80,q44_0,q72_0]
 refine Wp.ctx (fun x=>seqW _ _ _ _ (za5 _ (x))) (z7k x1 (w64 (x1+(1:Int)),w64 (x2 - (1:Int)),r3) _ o (by unfold F82_0;simp only [List.length_set,zbx,h4];kernel_rfl) h24) ?_
 intro e st hq
 cases o with
 | next _=>(first | cases h | (simp at h))
 | jmp n_ s_ =>
  obtain ⟨rfl,rfl,hq⟩:=hq
  obtain ⟨s9_25,s10_25,y1_25⟩:=s_
  unfold F82_0 at hq
  (try simp only [] at h hq)
  revert h
  intro h;obtain rfl:=Option.some.inj h
  simp (maxSteps:=10000000) (implicitDefEqProofs:=false) (disch:=first | with_reducible assumption | exact rfl | exact im_ _ | (fail_if_success show Kn _ _);omega) only [bs,rs82,ls82,Nat.reduceAdd,↓reduceIte,zai,zab a64,zab a80,q44_0,q72_0,hq]
  refine ⟨by simp, ?_⟩;show _=_;kernel_rfl
 | ret _=>(first | cases h | (simp at h))
def ls86:=@zsr
theorem q82_0 {a1:List Pair}{n2:Nat}{a3 a4 a5:Int}{r9001:(Int×(List Pair))}{X2:Ob} (k0:n2=a1.length) (h9002:zaw a3 a4 a5 a1=some r9001):callD (callW Try.prog A0) A0 [.var [.ref 1 0 a1.length 2],.arr (encL zac a1),X2] 82 [.agg [.fn (.func 44) [.ptr 0 0],sw72 1 n2],iv a3,iv a4,iv a5]=some (.p (.v (.int .i64 r9001.1)),some [.var [.ref 1 0 r9001.2.length 2],.arr (encL zac r9001.2),X2]):=by
  rw [show n2=a1.length from by omega];exact (zbe (dsw:=[.agg [.fn (.func 44) [.ptr 0 0],sw72 1 a1.length],iv a3,iv a4,iv a5]) (ds':=[.agg [.fn (.func 44) [.ptr 0 0],sw72 1 a1.length],iv a3,iv a4,iv a5]) (i:=0) (ids:=[1]) (o:=.var [.ref 1 0 a1.length 2]) (os:=[.arr (encL zac a1)]) (o':=.var [.ref 1 0 r9001.2.length 2]) (os':=[.arr (encL zac r9001.2)]) rfl (by kernel_rfl) (by kernel_rfl) (by kernel_rfl) (by kernel_rfl) (by kernel_rfl) (yae _ _ _ _ _ h9002) rfl rfl).trans (by kernel_rfl)
theorem q81_0 {a1:List Pair}{n2:Nat}{a3 a4:Int}{r9001:(Bool×(List Pair))}{X2:Ob} (k0:n2=a1.length) (h9002:zba a3 a4 a1=some r9001):callD (callW Try.prog A0) A0 [.var [.ref 1 0 a1.length 2],.arr (encL zac a1),X2] 81 [.agg [.fn (.func 44) [.ptr 0 0],sw72 1 n2],iv a3,iv a4]=some (.p (.v (.bool r9001.1)),some [.var [.ref 1 0 r9001.2.length 2],.arr (encL zac r9001.2),X2]):=by
  rw [show n2=a1.length from by omega];exact (zbe (dsw:=[.agg [.fn (.func 44) [.ptr 0 0],sw72 1 a1.length],iv a3,iv a4]) (ds':=[.agg [.fn (.func 44) [.ptr 0 0],sw72 1 a1.length],iv a3,iv a4]) (i:=0) (ids:=[1]) (o:=.var [.ref 1 0 a1.length 2]) (os:=[.arr (encL zac a1)]) (o':=.var [.ref 1 0 r9001.2.length 2]) (os':=[.arr (encL zac r9001.2)]) rfl (by kernel_rfl) (by kernel_rfl) (by kernel_rfl) (by kernel_rfl) (by kernel_rfl) (yad _ _ _ _ h9002) rfl rfl).trans (by kernel_rfl)
theorem q80_0 {a1:List Pair}{a2 a3:Int}{r9001:(List Pair)}{X2:Ob} (h9002:zb5 a2 a3 a1=some r9001):callD (callW Try.prog A0) A0 [.var [.ref 1 0 a1.length 2],.arr (encL zac a1),X2] 80 [.agg [.fn (.func 44) [.ptr 0 0],sw72 1 a1.length],iv a2,iv a3]=some (.p (.tup []),some [.var [.ref 1 0 r9001.length 2],.arr (encL zac r9001),X2]):=(zbe (dsw:=[.agg [.fn (.func 44) [.ptr 0 0],sw72 1 a1.length],iv a2,iv a3]) (ds':=[.agg [.fn (.func 44) [.ptr 0 0],sw72 1 a1.length],iv a2,iv a3]) (i:=0) (ids:=[1]) (o:=.var [.ref 1 0 a1.length 2]) (os:=[.arr (encL zac a1)]) (o':=.var [.ref 1 0 r9001.length 2]) (os':=[.arr (encL zac r9001)]) rfl (by kernel_rfl) (by kernel_rfl) (by kernel_rfl) (by kernel_rfl) (by kernel_rfl) (yay _ _ _ _ h9002) rfl rfl).trans (by kernel_rfl)
theorem q81_1 {a1:List Pair}{a2 a3:Int}{r9001:(Bool×(List Pair))}{X2:Ob} (h9002:zba a2 a3 a1=some r9001):callD (callW Try.prog A0) A0 [.var [.ref 1 0 a1.length 2],.arr (encL zac a1),X2] 81 [.agg [.fn (.func 44) [.ptr 0 0],sw72 1 a1.length],iv a2,iv a3]=some (.p (.v (.bool r9001.1)),some [.var [.ref 1 0 r9001.2.length 2],.arr (encL zac r9001.2),X2]):=(zbe (dsw:=[.agg [.fn (.func 44) [.ptr 0 0],sw72 1 a1.length],iv a2,iv a3]) (ds':=[.agg [.fn (.func 44) [.ptr 0 0],sw72 1 a1.length],iv a2,iv a3]) (i:=0) (ids:=[1]) (o:=.var [.ref 1 0 a1.length 2]) (os:=[.arr (encL zac a1)]) (o':=.var [.ref 1 0 r9001.2.length 2]) (os':=[.arr (encL zac r9001.2)]) rfl (by kernel_rfl) (by kernel_rfl) (by kernel_rfl) (by kernel_rfl) (by kernel_rfl) (yad _ _ _ _ h9002) rfl rfl).trans (by kernel_rfl)
theorem q83_1 {a1:List Pair}{a2 a3 a4:Int}{r9001:(Int×Bool×(List Pair))}{X2:Ob} (h9002:zas a2 a3 a4 a1=some r9001):callD (callW Try.prog A0) A0 [.var [.ref 1 0 a1.length 2],.arr (encL zac a1),X2] 83 [.agg [.fn (.func 44) [.ptr 0 0],sw72 1 a1.length],iv a2,iv a3,iv a4]=some (.p (.tup [.v (.int .i64 r9001.1),.v (.bool r9001.2.1)]),some [.var [.ref 1 0 r9001.2.2.length 2],.arr (encL zac r9001.2.2),X2]):=(zbe (dsw:=[.agg [.fn (.func 44) [.ptr 0 0],sw72 1 a1.length],iv a2,iv a3,iv a4]) (ds':=[.agg [.fn (.func 44) [.ptr 0 0],sw72 1 a1.length],iv a2,iv a3,iv a4]) (i:=0) (ids:=[1]) (o:=.var [.ref 1 0 a1.length 2]) (os:=[.arr (encL zac a1)]) (o':=.var [.ref 1 0 r9001.2.2.length 2]) (os':=[.arr (encL zac r9001.2.2)]) rfl (by kernel_rfl) (by kernel_rfl) (by kernel_rfl) (by kernel_rfl) (by kernel_rfl) (z9y _ _ _ _ _ h9002) rfl rfl).trans (by kernel_rfl)
theorem q82_1 {a1:List Pair}{a2 a3 a4:Int}{r9001:(Int×(List Pair))}{X2:Ob} (h9002:zaw a2 a3 a4 a1=some r9001):callD (callW Try.prog A0) A0 [.var [.ref 1 0 a1.length 2],.arr (encL zac a1),X2] 82 [.agg [.fn (.func 44) [.ptr 0 0],sw72 1 a1.length],iv a2,iv a3,iv a4]=some (.p (.v (.int .i64 r9001.1)),some [.var [.ref 1 0 r9001.2.length 2],.arr (encL zac r9001.2),X2]):=(zbe (dsw:=[.agg [.fn (.func 44) [.ptr 0 0],sw72 1 a1.length],iv a2,iv a3,iv a4]) (ds':=[.agg [.fn (.func 44) [.ptr 0 0],sw72 1 a1.length],iv a2,iv a3,iv a4]) (i:=0) (ids:=[1]) (o:=.var [.ref 1 0 a1.length 2]) (os:=[.arr (encL zac a1)]) (o':=.var [.ref 1 0 r9001.2.length 2]) (os':=[.arr (encL zac r9001.2)]) rfl (by kernel_rfl) (by kernel_rfl) (by kernel_rfl) (by kernel_rfl) (by kernel_rfl) (yae _ _ _ _ _ h9002) rfl rfl).trans (by kernel_rfl)
theorem q79_0 {a1:List Pair}{a2 a3:Int}{r9001:(Int×Int)}{X2:Ob} (h9002:zcg a2 a3 a1=some r9001):callD (callW Try.prog A0) A0 [.var [.ref 1 0 a1.length 2],.arr (encL zac a1),X2] 79 [.agg [.fn (.func 44) [.ptr 0 0],sw72 1 a1.length],iv a2,iv a3]=some (.p (.tup [.v (.int .i64 r9001.1),.v (.int .i64 r9001.2)]),some [.var [.ref 1 0 a1.length 2],.arr (encL zac a1),X2]):=(zbe (dsw:=[.agg [.fn (.func 44) [.ptr 0 0],sw72 1 a1.length],iv a2,iv a3]) (ds':=[.agg [.fn (.func 44) [.ptr 0 0],sw72 1 a1.length],iv a2,iv a3]) (i:=0) (ids:=[1]) (o:=.var [.ref 1 0 a1.length 2]) (os:=[.arr (encL zac a1)]) (o':=.var [.ref 1 0 a1.length 2]) (os':=[.arr (encL zac a1)]) rfl (by kernel_rfl) (by kernel_rfl) (by kernel_rfl) (by kernel_rfl) (by kernel_rfl) (z9x _ _ _ _ h9002) rfl rfl).trans (by kernel_rfl)
theorem yf9  (x0:Int) (r:Int) (h:zd9 x0=some r):callW Try.prog A0 86 [iv x0] []=some (.p (.v (.int .u64 r)),[]):=by
 refine zax (fn:=Try.f86) (c:=zae Try.f86) 9 rfl rfl (by kernel_rfl) (by kernel_rfl) (by kernel_rfl) ?_
 unfold zd9 at h;unfold zae Try.f86;simp only [ens]
 revert h
 repeat' (with_reducible refine gB fun _ _=>?_)
 intro h;obtain rfl:=Option.some.inj h
 simp (maxSteps:=10000000) (implicitDefEqProofs:=false) (disch:=first | with_reducible assumption | exact rfl | exact im_ _ | (fail_if_success show Kn _ _);omega) only [bs,rs86,ls86,Nat.reduceAdd,↓reduceIte,zrl,c59_0]
 refine ⟨by simp, ?_⟩;exact zco rfl rfl rfl rfl
def ls87:=And.intro @zst (@zlb)
theorem c86_0 {H:List Ob}{a1:Int}{r:Int} (h:zd9 a1=some r):callD (callW Try.prog A0) A0 H 86 [iv a1]=some (.p (.v (.int .u64 r)),none) :=
 zbp (args:=[.v (.int .i64 a1)]) rfl rfl rfl (by simp only [List.map_cons,List.map_nil,wk,wks,wkL];exact yf9 a1 _ h)
theorem yfe  (x0:Int) (r:(Int×Int)) (h:zfq x0=some r):callW Try.prog A0 87 [.ptr 0 0] [.var [.p (.v (.int .u64 x0))]]=some (.p (.v (.int .u64 r.1)),[.var [.p (.v (.int .u64 r.2))]]):=by
 refine zax (fn:=Try.f87) (c:=zae Try.f87) 32 rfl rfl (by kernel_rfl) (by kernel_rfl) (by kernel_rfl) ?_
 unfold zfq at h;unfold zae Try.f87;simp only [ens]
 revert h
 repeat' (with_reducible refine gB fun _ _=>?_)
 intro h;obtain rfl:=Option.some.inj h
 simp (maxSteps:=10000000) (implicitDefEqProofs:=false) (disch:=first | with_reducible assumption | exact rfl | exact im_ _ | (fail_if_success show Kn _ _);omega) only [bs,rs87,ls87,Nat.reduceAdd,↓reduceIte,zrl,zbw,znk,zab a105,zmu,zoc,zdu z105]
 refine ⟨by simp, ?_⟩;show _=_;kernel_rfl
def ls78:=And.intro @yd8 (And.intro @z6o (And.intro @z2t (And.intro @zhu (And.intro @zst (@ze0)))))
theorem q72_1 {a1:List Pair}{a2 a3:Int}{r9003:_}{X0 X2 X3:Ob} (h9001:swapL a2 a3 a1=some r9003):callD (callW Try.prog A0) A0 [X0,.arr (encL zac a1),X2,X3] 72 [iv a2,iv a3,.ref 1 0 a1.length 2,.p (.v (typeHandle Try.prog 43))]=some (.p (.tup []),some [X0,.arr (encL zac r9003),X2,X3]):=(zbe (dsw:=[iv a2,iv a3,.ref 1 0 a1.length 2,.p (.v (typeHandle Try.prog 43))]) (ds':=[iv a2,iv a3,.ref 0 0 a1.length 2,.p (.v (typeHandle Try.prog 43))]) (i:=1) (ids:=[]) (o:=.arr (encL zac a1)) (os:=[]) (o':=.arr (encL zac r9003)) (os':=[]) rfl (by kernel_rfl) (by kernel_rfl) (by kernel_rfl) (by kernel_rfl) (by kernel_rfl) (zn5 h9001) rfl rfl).trans (by kernel_rfl)
theorem q87_0 {a1:Int}{r9001:(Int×Int)}{X0 X1 X2:Ob} (h9002:zfq a1=some r9001):callD (callW Try.prog A0) A0 [X0,X1,X2,.var [.p (.v (.int .u64 a1))]] 87 [.ptr 3 0]=some (.p (.v (.int .u64 r9001.1)),some [X0,X1,X2,.var [.p (.v (.int .u64 r9001.2))]]):=(zbe (dsw:=[.ptr 3 0]) (ds':=[.ptr 0 0]) (i:=3) (ids:=[]) (o:=.var [.p (.v (.int .u64 a1))]) (os:=[]) (o':=.var [.p (.v (.int .u64 r9001.2))]) (os':=[]) rfl (by kernel_rfl) (by kernel_rfl) (by kernel_rfl) (by kernel_rfl) (by kernel_rfl) (yfe _ _ h9002) rfl rfl).trans (by kernel_rfl)
noncomputable def L78_0:Code:=(zal (zae Try.f78)).getD 0 .skip
def g78_0:List Ghost:=[.keep [1,3,6,7,8,9]]
noncomputable def F78_0 (s1:Int) (s6:Int) (s8:Int):(Int×(List Pair)×Int)→St:=fun (s9,y1,w3_0)=>⟨[J,iv s1,J,.ptr 2 0,J,J,iv s6,.ptr 3 0,.p (.v (.int .u64 s8)),iv s9,J,J,J,J,J,J,J,J,J,J,J,J,J,J,J,J,J,J,J,J,J,J,J,J,J,J,J,J,J,J,J,J,J,J,J,J,J,J,J,J,J,J,J,J],[.var [.ref 1 0 y1.length 2],.arr (encL zac y1),.var [.fn (.func 44) [.ptr 0 0],sw72 1 y1.length],.var [.p (.v (.int .u64 w3_0))]],2⟩
theorem z7t (s1:Int) (s6:Int) (s8:Int):∀ s st o,zak g78_0 st=some (F78_0 s1 s6 s8 s)→iter (zc2 s1 s6 s8) s=some o →
    Wp (evW Try.prog A0 78 (.loop L78_0) st) (OutQ (F78_0 s1 s6 s8) g78_0 (fun n s st=>n=0∧(match s with | (s9,y1,w3_0)=>zap Try.prog A0 78 Try.f78 st=some (.p (.tup []),[.var [.ref 1 0 y1.length 2],.arr (encL zac y1)]))) (fun r st=>zap Try.prog A0 78 Try.f78 st=some (.p (.tup []),[.var [.ref 1 0 r.length 2],.arr (encL zac r)])) o):=by
 refine Wp.iter ?_
 intro s st o hg h
 obtain ⟨s9,y1,w3_0⟩:=s
 unfold zc2 at h;unfold g78_0 F78_0 at hg ⊢
 (try simp only [] at h hg)
 unfold L78_0 zae Try.f78;simp only [zal,ens]
 revert h
 repeat' first | (with_reducible refine gB fun _ _=>?_) | (with_reducible refine gW fun _=>?_) | (with_reducible refine gI (fun _ _=>?_) (fun _ _=>?_))
 all_goals
  intro h;obtain rfl:=Option.some.inj h
  first | (simp (maxSteps:=10000000) (implicitDefEqProofs:=false) (disch:=first | with_reducible assumption | exact rfl | exact im_ _ | (fail_if_success show Kn _ _);omega) only [bs,rs78,ls78,Nat.reduceAdd,↓reduceIte,zlv,zfd,zl0 (k:=.u64),zai,c86_0,zab a80,q72_1,q87_0,zdu z105,hg];first | (exact ⟨(rfl:Ex.normal=Ex.normal),by (try simp only [List.length_set,zbx, *]);kernel_rfl⟩) | (refine ⟨(rfl:Ex.exit 0=Ex.exit 0),rfl, ?_⟩;show _=_;kernel_rfl)) | (exfalso;omega)
theorem yf5  (x1:Int) (x2:Int) (o1:(List Pair)) (r:(List Pair)) (h:zcw x1 x2 o1=some r):callW Try.prog A0 78 [.agg [.fn (.func 44) [.ptr 0 0],sw72 1 o1.length],iv x1,iv x2] [.var [.ref 1 0 o1.length 2],.arr (encL zac o1)]=some (.p (.tup []),[.var [.ref 1 0 r.length 2],.arr (encL zac r)]):=by
 refine zax (fn:=Try.f78) (c:=zae Try.f78) 51 rfl rfl (by kernel_rfl) (by kernel_rfl) (by kernel_rfl) ?_
 unfold zcw at h;unfold zae Try.f78;simp only [ens]
 revert h
 refine gI (fun h1 _=>?_) (fun h1 _=>?_)
 ·refine gB fun r2 h3=>?_
  refine gB fun q5 h6=>?_
  refine gB fun o h40=>?_
  intro h
  simp (maxSteps:=10000000) (implicitDefEqProofs:=false) (disch:=first | with_reducible assumption | exact rfl | exact im_ _ | (fail_if_success show Kn _ _);omega) only [bs,rs78,ls78,Nat.reduceAdd,↓reduceIte,zlv,zfd,zl0 (k:=.u64),zai,c86_0,zab a80,q72_1,q87_0,zdu z105]
  refine Wp.ctx (fun x=>za5 _ (x)) (z7t x1 (w64 (x2 - x1)) r2 (w64 ((w64 (x1+(w64 (q5*(2:Int))))) - (1:Int)),o1,IntKind.wrap .u64 (w64 (x2 - x1))) _ o (by kernel_rfl) h40) ?_
  intro e st hq
  cases o with
  | next _=>(first | cases h | (simp at h))
  | jmp n_ s_ =>
   obtain ⟨rfl,rfl,hq⟩:=hq
   obtain ⟨s9_41,y1_41,w3_0_41⟩:=s_
   obtain rfl:=Option.some.inj h
   simp (maxSteps:=10000000) (implicitDefEqProofs:=false) (disch:=first | with_reducible assumption | exact rfl | exact im_ _ | (fail_if_success show Kn _ _);omega) only [bs,rs78,ls78,Nat.reduceAdd,↓reduceIte,zlv,zfd,zl0 (k:=.u64),zai,c86_0,zab a80,q72_1,q87_0,zdu z105]
   exact ⟨by simp,hq⟩
  | ret _=>(first | cases h | (simp at h))
 ·intro h;obtain rfl:=Option.some.inj h
  simp (maxSteps:=10000000) (implicitDefEqProofs:=false) (disch:=first | with_reducible assumption | exact rfl | exact im_ _ | (fail_if_success show Kn _ _);omega) only [bs,rs78,ls78,Nat.reduceAdd,↓reduceIte,zlv,zfd,zl0 (k:=.u64),zai,c86_0,zab a80,q72_1,q87_0,zdu z105]
  refine ⟨by simp, ?_⟩;show _=_;kernel_rfl
def ls60:=And.intro @z96 (And.intro @z9w (And.intro @zix (And.intro @zfv (@zjk))))
theorem q80_1 {a1:List Pair}{n2:Nat}{a3 a4:Int}{r9001:(List Pair)}{X2:Ob} (k0:n2=a1.length) (h9002:zb5 a3 a4 a1=some r9001):callD (callW Try.prog A0) A0 [.var [.ref 1 0 a1.length 2],.arr (encL zac a1),X2] 80 [.agg [.fn (.func 44) [.ptr 0 0],sw72 1 n2],iv a3,iv a4]=some (.p (.tup []),some [.var [.ref 1 0 r9001.length 2],.arr (encL zac r9001),X2]):=by
  rw [show n2=a1.length from by omega];exact (zbe (dsw:=[.agg [.fn (.func 44) [.ptr 0 0],sw72 1 a1.length],iv a3,iv a4]) (ds':=[.agg [.fn (.func 44) [.ptr 0 0],sw72 1 a1.length],iv a3,iv a4]) (i:=0) (ids:=[1]) (o:=.var [.ref 1 0 a1.length 2]) (os:=[.arr (encL zac a1)]) (o':=.var [.ref 1 0 r9001.length 2]) (os':=[.arr (encL zac r9001)]) rfl (by kernel_rfl) (by kernel_rfl) (by kernel_rfl) (by kernel_rfl) (by kernel_rfl) (yay _ _ _ _ h9002) rfl rfl).trans (by kernel_rfl)
theorem q79_1 {a1:List Pair}{n2:Nat}{a3 a4:Int}{r9001:(Int×Int)}{X2:Ob} (k0:n2=a1.length) (h9002:zcg a3 a4 a1=some r9001):callD (callW Try.prog A0) A0 [.var [.ref 1 0 a1.length 2],.arr (encL zac a1),X2] 79 [.agg [.fn (.func 44) [.ptr 0 0],sw72 1 n2],iv a3,iv a4]=some (.p (.tup [.v (.int .i64 r9001.1),.v (.int .i64 r9001.2)]),some [.var [.ref 1 0 a1.length 2],.arr (encL zac a1),X2]):=by
  rw [show n2=a1.length from by omega];exact (zbe (dsw:=[.agg [.fn (.func 44) [.ptr 0 0],sw72 1 a1.length],iv a3,iv a4]) (ds':=[.agg [.fn (.func 44) [.ptr 0 0],sw72 1 a1.length],iv a3,iv a4]) (i:=0) (ids:=[1]) (o:=.var [.ref 1 0 a1.length 2]) (os:=[.arr (encL zac a1)]) (o':=.var [.ref 1 0 a1.length 2]) (os':=[.arr (encL zac a1)]) rfl (by kernel_rfl) (by kernel_rfl) (by kernel_rfl) (by kernel_rfl) (by kernel_rfl) (z9x _ _ _ _ h9002) rfl rfl).trans (by kernel_rfl)
theorem q78_0 {a1:List Pair}{a2 a3:Int}{r9001:(List Pair)}{X2:Ob} (h9002:zcw a2 a3 a1=some r9001):callD (callW Try.prog A0) A0 [.var [.ref 1 0 a1.length 2],.arr (encL zac a1),X2] 78 [.agg [.fn (.func 44) [.ptr 0 0],sw72 1 a1.length],iv a2,iv a3]=some (.p (.tup []),some [.var [.ref 1 0 r9001.length 2],.arr (encL zac r9001),X2]):=(zbe (dsw:=[.agg [.fn (.func 44) [.ptr 0 0],sw72 1 a1.length],iv a2,iv a3]) (ds':=[.agg [.fn (.func 44) [.ptr 0 0],sw72 1 a1.length],iv a2,iv a3]) (i:=0) (ids:=[1]) (o:=.var [.ref 1 0 a1.length 2]) (os:=[.arr (encL zac a1)]) (o':=.var [.ref 1 0 r9001.length 2]) (os':=[.arr (encL zac r9001)]) rfl (by kernel_rfl) (by kernel_rfl) (by kernel_rfl) (by kernel_rfl) (by kernel_rfl) (yf5 _ _ _ _ h9002) rfl rfl).trans (by kernel_rfl)
noncomputable def L60_0:Code:=(zal (zae Try.f60)).getD 0 .skip
def g60_0:List Ghost:=[.keep [1,2,3,4,8,9]]
noncomputable def F60_0:(Int×Int×Int×Bool×Bool×(List Pair))→St:=fun (s1,s2,s3,s8,s9,y1)=>⟨[J,iv s1,iv s2,iv s3,.ptr 2 0,J,J,J,bv s8,bv s9,J,J,J,J,J,J,J,J,J,J,J,J,J,J,J,J,J,J,J,J,J,J,J,J,J,J,J,J,J,J,J,J,J,J,J,J,J,J,J,J,J,J,J,J,J,J,J,J,J,J,J,J,J,J,J,J,J,J,J,J,J,J,J,J,J,J,J,J,J,J,J,J,J,J,J,J,J,J,J,J,J,J,J,J,J,J,J,J,J,J,J,J,J,J,J,J,J,J,J,J,J,J,J,J,J,J,J,J,J,J,J,J,J,J,J,J,J,J,J,J],[.var [.ref 1 0 y1.length 2],.arr (encL zac y1),.var [.fn (.func 44) [.ptr 0 0],sw72 1 y1.length]],2⟩
theorem z5x {rec:Int→Int→Int→(List Pair)→Option (List Pair)} (hrec:∀ x1 x2 x3 o1 r,rec x1 x2 x3 o1=some r→callW Try.prog A0 60 [.agg [.fn (.func 44) [.ptr 0 0],sw72 1 o1.length],iv x1,iv x2,iv x3] [.var [.ref 1 0 o1.length 2],.arr (encL zac o1)]=some (.p (.tup []),[.var [.ref 1 0 r.length 2],.arr (encL zac r)])):∀ s st o,zak g60_0 st=some (F60_0 s)→iter (ze3 rec) s=some o →
    Wp (evW Try.prog A0 60 (.loop L60_0) st) (OutQ (F60_0) g60_0 (fun n s st=>False) (fun r st=>zap Try.prog A0 60 Try.f60 st=some (.p (.tup []),[.var [.ref 1 0 r.length 2],.arr (encL zac r)])) o):=by
 refine Wp.iter ?_
 intro s st o hg h
 obtain ⟨s1,s2,s3,s8,s9,y1⟩:=s
 unfold ze3 at h;unfold g60_0 F60_0 at hg ⊢
 (try simp only [] at h hg)
 unfold L60_0 zae Try.f60;simp only [zal,ens]
 revert h
 repeat' first | (with_reducible refine gB fun _ _=>?_) | (with_reducible refine gW fun _=>?_) | (with_reducible refine gT (fun _ _=>?_) (fun _ _=>?_)) | (with_reducible refine gI (fun _ _=>?_) (fun _ _=>?_))
 all_goals
  intro h;obtain rfl:=Option.some.inj h
  first | (simp (maxSteps:=10000000) (implicitDefEqProofs:=false) (disch:=first | with_reducible assumption | exact rfl | exact im_ _ | (fail_if_success show Kn _ _);omega) only [bs,rs60,ls60,Nat.reduceAdd,↓reduceIte,Int.reduceEq,Int.reduceLE,Int.reduceLT,zfd,zai,zah a84 z84,zab a64,q44_0,q60_0 hrec,q73_0,q77_0,q78_0,q79_0,q79_1,q80_0,q80_1,q81_0,q81_1,q82_0,q82_1,q83_0,q83_1,hg];first | (refine ⟨(rfl:Ex.ret=Ex.ret), ?_⟩;show _=_;(try simp only [List.length_set,zbx, *]);kernel_rfl) | (exact ⟨(rfl:Ex.normal=Ex.normal),by (try simp only [List.length_set,zbx, *]);kernel_rfl⟩)) | (exfalso;omega)
theorem yeh {rec:Int→Int→Int→(List Pair)→Option (List Pair)} (hrec:∀ x1 x2 x3 o1 r,rec x1 x2 x3 o1=some r→callW Try.prog A0 60 [.agg [.fn (.func 44) [.ptr 0 0],sw72 1 o1.length],iv x1,iv x2,iv x3] [.var [.ref 1 0 o1.length 2],.arr (encL zac o1)]=some (.p (.tup []),[.var [.ref 1 0 r.length 2],.arr (encL zac r)]))  (x1:Int) (x2:Int) (x3:Int) (o1:(List Pair)) (r:(List Pair)) (h:sort_pdqsort_func.body rec x1 x2 x3 o1=some r):callW Try.prog A0 60 [.agg [.fn (.func 44) [.ptr 0 0],sw72 1 o1.length],iv x1,iv x2,iv x3] [.var [.ref 1 0 o1.length 2],.arr (encL zac o1)]=some (.p (.tup []),[.var [.ref 1 0 r.length 2],.arr (encL zac r)]):=by
 refine zax (fn:=Try.f60) (c:=zae Try.f60) 126 rfl rfl (by kernel_rfl) (by kernel_rfl) (by kernel_rfl) ?_
 unfold sort_pdqsort_func.body at h;unfold zae Try.f60;simp only [ens]
 revert h
 refine gB fun o h663=>?_
 intro h
 simp (maxSteps:=10000000) (implicitDefEqProofs:=false) (disch:=first | with_reducible assumption | exact rfl | exact im_ _ | (fail_if_success show Kn _ _);omega) only [bs,rs60,ls60,Nat.reduceAdd,↓reduceIte,Int.reduceEq,Int.reduceLE,Int.reduceLT,zfd,zai,zah a84 z84,zab a64,q44_0,q60_0 hrec,q73_0,q77_0,q78_0,q79_0,q79_1,q80_0,q80_1,q81_0,q81_1,q82_0,q82_1,q83_0,q83_1]
 refine Wp.ctx (fun x=>za5 _ (x)) (z5x hrec (x1,x2,x3,true,true,o1) _ o (by kernel_rfl) h663) ?_
 intro e st hq
 cases o with
 | next _=>(first | cases h | (simp at h))
 | jmp n_ s_=>exact hq.2.elim
 | ret r665 =>
  obtain ⟨rfl,hq⟩:=hq
  obtain rfl:=Option.some.inj h
  simp (maxSteps:=10000000) (implicitDefEqProofs:=false) (disch:=first | with_reducible assumption | exact rfl | exact im_ _ | (fail_if_success show Kn _ _);omega) only [bs,rs60,ls60,Nat.reduceAdd,↓reduceIte,Int.reduceEq,Int.reduceLE,Int.reduceLT,zfd,zai,zah a84 z84,zab a64,q44_0,q60_0 hrec,q73_0,q77_0,q78_0,q79_0,q79_1,q80_0,q80_1,q81_0,q81_1,q82_0,q82_1,q83_0,q83_1]
  exact ⟨by simp,hq⟩
theorem z9i:∀ (x1:Int) (x2:Int) (x3:Int) (o1:(List Pair)) r,pdqF x1 x2 x3 o1=some r→callW Try.prog A0 60 [.agg [.fn (.func 44) [.ptr 0 0],sw72 1 o1.length],iv x1,iv x2,iv x3] [.var [.ref 1 0 o1.length 2],.arr (encL zac o1)]=some (.p (.tup []),[.var [.ref 1 0 r.length 2],.arr (encL zac r)]):=by
 have key:∀ n (x1:Int) (x2:Int) (x3:Int) (o1:(List Pair)) r,zml x1 x2 x3 o1<n→pdqF x1 x2 x3 o1=some r→callW Try.prog A0 60 [.agg [.fn (.func 44) [.ptr 0 0],sw72 1 o1.length],iv x1,iv x2,iv x3] [.var [.ref 1 0 o1.length 2],.arr (encL zac o1)]=some (.p (.tup []),[.var [.ref 1 0 r.length 2],.arr (encL zac r)]):=by
  intro n
  induction n with
  | zero=>intro x1 x2 x3 o1 r h;omega
  | succ n ih =>
   intro x1 x2 x3 o1 r hn h
   refine yeh (rec:=fun x1' x2' x3' o1'=>if zml x1' x2' x3' o1'<zml x1 x2 x3 o1 then pdqF x1' x2' x3' o1' else none) ?_ x1 x2 x3 o1 r (z4k x1 x2 x3 o1 r h)
   intro x1' x2' x3' o1' r' h'
   by_cases hm:zml x1' x2' x3' o1'<zml x1 x2 x3 o1
   ·rw [if_pos hm] at h';exact ih x1' x2' x3' o1' r' (by omega) h'
   ·rw [if_neg hm] at h';cases h'
 intro x1 x2 x3 o1 r h
 exact key _ x1 x2 x3 o1 r (Nat.lt_succ_self _) h
end Xr

