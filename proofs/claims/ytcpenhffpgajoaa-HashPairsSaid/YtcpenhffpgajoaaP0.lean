/- A part of the proof: P0. No conditions of its own. -/
import Derived.Test.YtcpenhffpgajoaaL
namespace Xr
open Go Go.Ev Go.Proofs
set_option linter.unusedSimpArgs false
set_option linter.unusedVariables false
set_option linter.defProp false
set_option maxRecDepth 8000
set_option maxHeartbeats 40000000
def ls48:=And.intro @zhb (And.intro @zhe (And.intro @zfd (@ze0)))
theorem zp4 {rec:Node→Int→Int→Option Int} (hrec:∀ x0 x1 x2 r,rec x0 x1 x2=some r→callW Try.prog A0 48 [.p (.agg (zaf x0)),iv x1,iv x2] []=some (.p (.v (.int .i64 r)),[])) {H:List Ob}{a1:Node}{a2 a3:Int}{r:Int} (h:rec a1 a2 a3=some r):callD (callW Try.prog A0) A0 H 48 [.p (.agg (zaf a1)),iv a2,iv a3]=some (.p (.v (.int .i64 r)),none) :=
 zbi (args:=[.agg (zaf a1),.v (.int .i64 a2),.v (.int .i64 a3)]) rfl rfl rfl (by simp only [List.map_cons,List.map_nil,wk,wks,wkL];exact hrec a1 a2 a3 _ h)
noncomputable def L48_0:Code:=(zak (zae Try.f48)).getD 0 .skip
def g48_0:List Ghost:=[.keep [2,3,7,8]]
noncomputable def F48_0 (s2:Int) (w0_0:Int) (w0_1:ByteArray) (w0_2:(List ByteArray)) (w0_3:(List Node)):(Int×Int)→St:=fun (s7,s8)=>⟨[J,J,iv s2,.ptr 0 0,J,J,J,iv s7,iv s8,J,J,J,J,J,J,J,J,J,J,J,J,J,J,J,J,J,J,J,J,J,J,J,J,J,J,J,J,J,J,J,J,J,J],[.var [iv w0_0,.p (.v (.string w0_1)),.p (.lst false w0_2.length (encL zeh w0_2)),.p (.lst false w0_3.length (encL en_Node w0_3))]],0⟩
theorem z62 {rec:Node→Int→Int→Option Int} (hrec:∀ x0 x1 x2 r,rec x0 x1 x2=some r→callW Try.prog A0 48 [.p (.agg (zaf x0)),iv x1,iv x2] []=some (.p (.v (.int .i64 r)),[])) (s2:Int) (w0_0:Int) (w0_1:ByteArray) (w0_2:(List ByteArray)) (w0_3:(List Node)):∀ s st o,zaj g48_0 st=some (F48_0 s2 w0_0 w0_1 w0_2 w0_3 s)→iter (zhc rec s2 w0_0 w0_1 w0_2 w0_3) s=some o →
    Wp (evW Try.prog A0 48 (.loop L48_0) st) (OutQ (F48_0 s2 w0_0 w0_1 w0_2 w0_3) g48_0 (fun n s st=>n=0∧zaj [.keep [2,3,7,8]] st=some (F48_0 s2 w0_0 w0_1 w0_2 w0_3 s)) (fun r st=>zap Try.prog A0 48 Try.f48 st=some (.p (.v (.int .i64 r)),[])) o):=by
 refine Wp.iter ?_
 intro s st o hg h
 obtain ⟨s7,s8⟩:=s
 unfold zhc at h;unfold g48_0 F48_0 at hg ⊢
 (try simp only [] at h hg)
 unfold L48_0 zae Try.f48;simp only [zak,ens]
 revert h
 repeat' first | (with_reducible refine gR fun _ _ _ _=>?_) | (with_reducible refine gB fun _ _=>?_) | (with_reducible refine gI (fun _ _=>?_) (fun _ _=>?_))
 all_goals
  intro h;obtain rfl:=Option.some.inj h
  first | (simp (maxSteps:=10000000) (implicitDefEqProofs:=false) (disch:=first | with_reducible assumption | exact rfl | exact im_ _ | (fail_if_success show Kn _ _);omega) only [bs,rs48,ls48,Nat.reduceAdd,↓reduceIte,zp4 hrec,zal u23,zai a25 z25,zab a23,hg];first | (refine ⟨(rfl:Ex.ret=Ex.ret), ?_⟩;exact zdk rfl rfl rfl rfl) | (exact ⟨(rfl:Ex.normal=Ex.normal),by kernel_rfl⟩) | (exact ⟨(rfl:Ex.exit 0=Ex.exit 0),rfl,by kernel_rfl⟩)) | (exfalso;omega)
theorem yjm {rec:Node→Int→Int→Option Int} (hrec:∀ x0 x1 x2 r,rec x0 x1 x2=some r→callW Try.prog A0 48 [.p (.agg (zaf x0)),iv x1,iv x2] []=some (.p (.v (.int .i64 r)),[]))  (x0:Node) (x1:Int) (x2:Int) (r:Int) (h:R06_left.body rec x0 x1 x2=some r):callW Try.prog A0 48 [.p (.agg (zaf x0)),iv x1,iv x2] []=some (.p (.v (.int .i64 r)),[]):=by
 refine zax (fn:=Try.f48) (c:=zae Try.f48) 40 rfl rfl (by kernel_rfl) (by kernel_rfl) (by kernel_rfl) ?_
 unfold R06_left.body at h;unfold zae Try.f48;simp only [ens]
 revert h
 refine gI (fun h1 _=>?_) (fun h1 _=>?_)
 ·intro h;obtain rfl:=Option.some.inj h
  simp (maxSteps:=10000000) (implicitDefEqProofs:=false) (disch:=first | with_reducible assumption | exact rfl | exact im_ _ | (fail_if_success show Kn _ _);omega) only [bs,rs48,ls48,Nat.reduceAdd,↓reduceIte,zp4 hrec,zal u23,zai a25 z25,zab a23]
  refine ⟨by simp, ?_⟩;exact zdk rfl rfl rfl rfl
 ·refine gI (fun h2 _=>?_) (fun h2 _=>?_)
  ·intro h;obtain rfl:=Option.some.inj h
   simp (maxSteps:=10000000) (implicitDefEqProofs:=false) (disch:=first | with_reducible assumption | exact rfl | exact im_ _ | (fail_if_success show Kn _ _);omega) only [bs,rs48,ls48,Nat.reduceAdd,↓reduceIte,zp4 hrec,zal u23,zai a25 z25,zab a23]
   refine ⟨by simp, ?_⟩;exact zdk rfl rfl rfl rfl
  ·refine gI (fun h3 _=>?_) (fun h3 _=>?_)
   ·intro h;obtain rfl:=Option.some.inj h
    simp (maxSteps:=10000000) (implicitDefEqProofs:=false) (disch:=first | with_reducible assumption | exact rfl | exact im_ _ | (fail_if_success show Kn _ _);omega) only [bs,rs48,ls48,Nat.reduceAdd,↓reduceIte,zp4 hrec,zal u23,zai a25 z25,zab a23]
    refine ⟨by simp, ?_⟩;exact zdk rfl rfl rfl rfl
   ·refine gB fun o h12=>?_
    intro h
    simp (maxSteps:=10000000) (implicitDefEqProofs:=false) (disch:=first | with_reducible assumption | exact rfl | exact im_ _ | (fail_if_success show Kn _ _);omega) only [bs,rs48,ls48,Nat.reduceAdd,↓reduceIte,zp4 hrec,zal u23,zai a25 z25,zab a23]
    refine Wp.ctx (fun x=>seqW _ _ _ _ (za6 _ (x))) (z62 hrec x2 x0.Kind x0.Text x0.Gaps x0.Kids (w64 (x1 - (1:Int)),(0:Int)) _ o (by kernel_rfl) h12) ?_
    intro e st hq
    cases o with
    | next _=>(first | cases h | (simp at h))
    | jmp n_ s_ =>
     obtain ⟨rfl,rfl,hq⟩:=hq
     obtain ⟨s7_13,s8_13⟩:=s_
     unfold F48_0 at hq
     (try simp only [] at h hq)
     revert h
     intro h;obtain rfl:=Option.some.inj h
     simp (maxSteps:=10000000) (implicitDefEqProofs:=false) (disch:=first | with_reducible assumption | exact rfl | exact im_ _ | (fail_if_success show Kn _ _);omega) only [bs,rs48,ls48,Nat.reduceAdd,↓reduceIte,zp4 hrec,zal u23,zai a25 z25,zab a23,hq]
     refine ⟨by simp, ?_⟩;exact zdk rfl rfl rfl rfl
    | ret r14 =>
     obtain ⟨rfl,hq⟩:=hq
     obtain rfl:=Option.some.inj h
     simp (maxSteps:=10000000) (implicitDefEqProofs:=false) (disch:=first | with_reducible assumption | exact rfl | exact im_ _ | (fail_if_success show Kn _ _);omega) only [bs,rs48,ls48,Nat.reduceAdd,↓reduceIte,zp4 hrec,zal u23,zai a25 z25,zab a23]
     exact ⟨by simp,hq⟩
theorem z8m:∀ (x0:Node) (x1:Int) (x2:Int) r,zgn x0 x1 x2=some r→callW Try.prog A0 48 [.p (.agg (zaf x0)),iv x1,iv x2] []=some (.p (.v (.int .i64 r)),[]):=by
 have key:∀ n (x0:Node) (x1:Int) (x2:Int) r,ze8 x0 x1 x2<n→zgn x0 x1 x2=some r→callW Try.prog A0 48 [.p (.agg (zaf x0)),iv x1,iv x2] []=some (.p (.v (.int .i64 r)),[]):=by
  intro n
  induction n with
  | zero=>intro x0 x1 x2 r h;omega
  | succ n ih =>
   intro x0 x1 x2 r hn h
   refine yjm (rec:=fun x0' x1' x2'=>if ze8 x0' x1' x2'<ze8 x0 x1 x2 then zgn x0' x1' x2' else none) ?_ x0 x1 x2 r (zqn x0 x1 x2 r h)
   intro x0' x1' x2' r' h'
   by_cases hm:ze8 x0' x1' x2'<ze8 x0 x1 x2
   ·rw [if_pos hm] at h';exact ih x0' x1' x2' r' (by omega) h'
   ·rw [if_neg hm] at h';cases h'
 intro x0 x1 x2 r h
 exact key _ x0 x1 x2 r (Nat.lt_succ_self _) h
def ls30:=@zck
theorem c48_1 {H:List Ob}{a1:Node}{a2 a3:Int}{r:Int} (h:zgn a1 a2 a3=some r):callD (callW Try.prog A0) A0 H 48 [.p (.agg (zaf a1)),iv a2,iv a3]=some (.p (.v (.int .i64 r)),none) :=
 zbi (args:=[.agg (zaf a1),.v (.int .i64 a2),.v (.int .i64 a3)]) rfl rfl rfl (by simp only [List.map_cons,List.map_nil,wk,wks,wkL];exact z8m a1 a2 a3 _ h)
theorem yid  (x0:Node) (x1:Int) (x2:Int) (r:Bool) (h:zm4 x0 x1 x2=some r):callW Try.prog A0 30 [.p (.agg (zaf x0)),iv x1,iv x2] []=some (.p (.v (.bool r)),[]):=by
 refine zax (fn:=Try.f30) (c:=zae Try.f30) 9 rfl rfl (by kernel_rfl) (by kernel_rfl) (by kernel_rfl) ?_
 unfold zm4 at h;unfold zae Try.f30;simp only [ens]
 revert h
 repeat' (with_reducible refine gB fun _ _=>?_)
 intro h;obtain rfl:=Option.some.inj h
 simp (maxSteps:=10000000) (implicitDefEqProofs:=false) (disch:=first | with_reducible assumption | exact rfl | exact im_ _ | (fail_if_success show Kn _ _);omega) only [bs,rs30,ls30,Nat.reduceAdd,↓reduceIte,c48_1,zag a25 z25]
 refine ⟨by simp, ?_⟩;exact zdk rfl rfl rfl rfl
def ls31:=And.intro @yjk (And.intro @zoz (And.intro @z67 (And.intro @zhb (And.intro @ybr (And.intro @zhe (And.intro @zfd (And.intro @zkq (And.intro @zwf (@ze0)))))))))
theorem c30_0 {H:List Ob}{a1:Node}{a2 a3:Int}{r:Bool} (h:zm4 a1 a2 a3=some r):callD (callW Try.prog A0) A0 H 30 [.p (.agg (zaf a1)),iv a2,iv a3]=some (.p (.v (.bool r)),none) :=
 zbi (args:=[.agg (zaf a1),.v (.int .i64 a2),.v (.int .i64 a3)]) rfl rfl rfl (by simp only [List.map_cons,List.map_nil,wk,wks,wkL];exact yid a1 a2 a3 _ h)
theorem znf {rec:Node→Int→Option Int} (hrec:∀ x0 x1 r,rec x0 x1=some r→callW Try.prog A0 31 [.p (.agg (zaf x0)),iv x1] []=some (.p (.v (.int .i64 r)),[])) {H:List Ob}{a1:Node}{a2:Int}{r:Int} (h:rec a1 a2=some r):callD (callW Try.prog A0) A0 H 31 [.p (.agg (zaf a1)),iv a2]=some (.p (.v (.int .i64 r)),none) :=
 zbi (args:=[.agg (zaf a1),.v (.int .i64 a2)]) rfl rfl rfl (by simp only [List.map_cons,List.map_nil,wk,wks,wkL];exact hrec a1 a2 _ h)
noncomputable def L31_1:Code:=(zak (zae Try.f31)).getD 1 .skip
def g31_1:List Ghost:=[.keep [2,5,7]]
noncomputable def F31_1 (w0_0:Int) (w0_1:ByteArray) (w0_2:(List ByteArray)) (w0_3:(List Node)):(Int×Int)→St:=fun (s5,s7)=>⟨[J,J,.ptr 0 0,J,J,iv s5,J,iv s7,J,J,J,J,J,J,J,J,J,J,J,J,J,J,J,J,J,J,J,J,J,J,J,J,J,J,J,J,J,J,J,J,J,J,J,J,J,J,J,J,J,J,J,J,J,J,J,J,J,J,J,J,J,J,J,J,J,J],[.var [iv w0_0,.p (.v (.string w0_1)),.p (.lst false w0_2.length (encL zeh w0_2)),.p (.lst false w0_3.length (encL en_Node w0_3))]],0⟩
theorem z52 {rec:Node→Int→Option Int} (hrec:∀ x0 x1 r,rec x0 x1=some r→callW Try.prog A0 31 [.p (.agg (zaf x0)),iv x1] []=some (.p (.v (.int .i64 r)),[])) (w0_0:Int) (w0_1:ByteArray) (w0_2:(List ByteArray)) (w0_3:(List Node)):∀ s st o,zaj g31_1 st=some (F31_1 w0_0 w0_1 w0_2 w0_3 s)→iter (zfq rec w0_0 w0_1 w0_2 w0_3) s=some o →
    Wp (evW Try.prog A0 31 (.loop L31_1) st) (OutQ (F31_1 w0_0 w0_1 w0_2 w0_3) g31_1 (fun n s st=>n=2∧zaj [.keep [2,5,7]] st=some (F31_1 w0_0 w0_1 w0_2 w0_3 s)) (fun r st=>zap Try.prog A0 31 Try.f31 st=some (.p (.v (.int .i64 r)),[])) o):=by
 refine Wp.iter ?_
 intro s st o hg h
 obtain ⟨s5,s7⟩:=s
 unfold zfq at h;unfold g31_1 F31_1 at hg ⊢
 (try simp only [] at h hg)
 unfold L31_1 zae Try.f31;simp only [zak,ens]
 revert h
 repeat' first | (with_reducible refine gR fun _ _ _ _=>?_) | (with_reducible refine gB fun _ _=>?_) | (with_reducible refine gI (fun _ _=>?_) (fun _ _=>?_))
 all_goals
  intro h;obtain rfl:=Option.some.inj h
  first | (simp (maxSteps:=10000000) (implicitDefEqProofs:=false) (disch:=first | with_reducible assumption | exact rfl | exact im_ _ | (fail_if_success show Kn _ _);omega) only [bs,rs31,ls31,Nat.reduceAdd,↓reduceIte,znf hrec,zal u22,zal u23,zf9 u9,zai a25 z25,za5 a9,zab a22,zab a23,zab a9,hg];first | (refine ⟨(rfl:Ex.ret=Ex.ret), ?_⟩;exact zdk rfl rfl rfl rfl) | (exact ⟨(rfl:Ex.normal=Ex.normal),by kernel_rfl⟩) | (exact ⟨(rfl:Ex.exit 2=Ex.exit 2),rfl,by kernel_rfl⟩)) | (exfalso;omega)
noncomputable def L31_0:Code:=(zak (zae Try.f31)).getD 0 .skip
def g31_0:List Ghost:=[.keep [2,5,6]]
noncomputable def F31_0 (w0_0:Int) (w0_1:ByteArray) (w0_2:(List ByteArray)) (w0_3:(List Node)):(Int×Int)→St:=fun (s5,s6)=>⟨[J,J,.ptr 0 0,J,J,iv s5,iv s6,J,J,J,J,J,J,J,J,J,J,J,J,J,J,J,J,J,J,J,J,J,J,J,J,J,J,J,J,J,J,J,J,J,J,J,J,J,J,J,J,J,J,J,J,J,J,J,J,J,J,J,J,J,J,J,J,J,J,J],[.var [iv w0_0,.p (.v (.string w0_1)),.p (.lst false w0_2.length (encL zeh w0_2)),.p (.lst false w0_3.length (encL en_Node w0_3))]],0⟩
theorem z6l {rec:Node→Int→Option Int} (hrec:∀ x0 x1 r,rec x0 x1=some r→callW Try.prog A0 31 [.p (.agg (zaf x0)),iv x1] []=some (.p (.v (.int .i64 r)),[])) (w0_0:Int) (w0_1:ByteArray) (w0_2:(List ByteArray)) (w0_3:(List Node)):∀ s st o,zaj g31_0 st=some (F31_0 w0_0 w0_1 w0_2 w0_3 s)→iter (zfo rec w0_0 w0_1 w0_2 w0_3) s=some o →
    Wp (evW Try.prog A0 31 (.loop L31_0) st) (OutQ (F31_0 w0_0 w0_1 w0_2 w0_3) g31_0 (fun n s st=>n=0∧zaj [.keep [2,5,6]] st=some (F31_0 w0_0 w0_1 w0_2 w0_3 s)) (fun r st=>zap Try.prog A0 31 Try.f31 st=some (.p (.v (.int .i64 r)),[])) o):=by
 refine Wp.iter ?_
 intro s st o hg h
 obtain ⟨s5,s6⟩:=s
 unfold zfo at h;unfold g31_0 F31_0 at hg ⊢
 (try simp only [] at h hg)
 unfold L31_0 zae Try.f31;simp only [zak,ens]
 revert h
 repeat' first | (with_reducible refine gR fun _ _ _ _=>?_) | (with_reducible refine gI (fun _ _=>?_) (fun _ _=>?_))
 all_goals
  intro h;obtain rfl:=Option.some.inj h
  first | (simp (maxSteps:=10000000) (implicitDefEqProofs:=false) (disch:=first | with_reducible assumption | exact rfl | exact im_ _ | (fail_if_success show Kn _ _);omega) only [bs,rs31,ls31,Nat.reduceAdd,↓reduceIte,znf hrec,zal u22,zal u23,zf9 u9,zai a25 z25,za5 a9,zab a22,zab a23,zab a9,hg];first | (refine ⟨(rfl:Ex.ret=Ex.ret), ?_⟩;exact zdk rfl rfl rfl rfl) | (exact ⟨(rfl:Ex.normal=Ex.normal),by kernel_rfl⟩) | (exact ⟨(rfl:Ex.exit 0=Ex.exit 0),rfl,by kernel_rfl⟩)) | (exfalso;omega)
theorem yg6 {rec:Node→Int→Option Int} (hrec:∀ x0 x1 r,rec x0 x1=some r→callW Try.prog A0 31 [.p (.agg (zaf x0)),iv x1] []=some (.p (.v (.int .i64 r)),[]))  (x0:Node) (x1:Int) (r:Int) (h:R06_weigh.body rec x0 x1=some r):callW Try.prog A0 31 [.p (.agg (zaf x0)),iv x1] []=some (.p (.v (.int .i64 r)),[]):=by
 refine zax (fn:=Try.f31) (c:=zae Try.f31) 64 rfl rfl (by kernel_rfl) (by kernel_rfl) (by kernel_rfl) ?_
 unfold R06_weigh.body at h;unfold zae Try.f31;simp only [ens]
 revert h
 refine gI (fun h1 _=>?_) (fun h1 _=>?_)
 ·intro h;obtain rfl:=Option.some.inj h
  simp (maxSteps:=10000000) (implicitDefEqProofs:=false) (disch:=first | with_reducible assumption | exact rfl | exact im_ _ | (fail_if_success show Kn _ _);omega) only [bs,rs31,ls31,Nat.reduceAdd,↓reduceIte,znf hrec,zal u22,zal u23,zf9 u9,zai a25 z25,za5 a9,zab a22,zab a23,zab a9]
  refine ⟨by simp, ?_⟩;exact zdk rfl rfl rfl rfl
 ·refine gI (fun h2 _=>?_) (fun h2 _=>?_)
  ·intro h;obtain rfl:=Option.some.inj h
   simp (maxSteps:=10000000) (implicitDefEqProofs:=false) (disch:=first | with_reducible assumption | exact rfl | exact im_ _ | (fail_if_success show Kn _ _);omega) only [bs,rs31,ls31,Nat.reduceAdd,↓reduceIte,znf hrec,zal u22,zal u23,zf9 u9,zai a25 z25,za5 a9,zab a22,zab a23,zab a9]
   refine ⟨by simp, ?_⟩;exact zdk rfl rfl rfl rfl
  ·refine gB fun o h9=>?_
   intro h
   simp (maxSteps:=10000000) (implicitDefEqProofs:=false) (disch:=first | with_reducible assumption | exact rfl | exact im_ _ | (fail_if_success show Kn _ _);omega) only [bs,rs31,ls31,Nat.reduceAdd,↓reduceIte,znf hrec,zal u22,zal u23,zf9 u9,zai a25 z25,za5 a9,zab a22,zab a23,zab a9]
   refine Wp.ctx (fun x=>seqW _ _ _ _ (za6 _ (x))) (z6l hrec x0.Kind x0.Text x0.Gaps x0.Kids (w64 (x1 - (x0.Text.size:Int)),(0:Int)) _ o (by kernel_rfl) h9) ?_
   intro e st hq
   cases o with
   | next _=>(first | cases h | (simp at h))
   | jmp n_ s_ =>
    obtain ⟨rfl,rfl,hq⟩:=hq
    obtain ⟨s5_10,s6_10⟩:=s_
    unfold F31_0 at hq
    (try simp only [] at h hq)
    revert h
    refine gB fun o h19=>?_
    intro h
    simp (maxSteps:=10000000) (implicitDefEqProofs:=false) (disch:=first | with_reducible assumption | exact rfl | exact im_ _ | (fail_if_success show Kn _ _);omega) only [bs,rs31,ls31,Nat.reduceAdd,↓reduceIte,znf hrec,zal u22,zal u23,zf9 u9,zai a25 z25,za5 a9,zab a22,zab a23,zab a9,hq]
    refine Wp.ctx (fun x=>seqW _ _ _ _ (za6 _ (x))) (z52 hrec x0.Kind x0.Text x0.Gaps x0.Kids (s5_10,(0:Int)) _ o (by kernel_rfl) h19) ?_
    intro e st hq
    cases o with
    | next _=>(first | cases h | (simp at h))
    | jmp n_ s_ =>
     obtain ⟨rfl,rfl,hq⟩:=hq
     obtain ⟨s5_20,s7_20⟩:=s_
     unfold F31_1 at hq
     (try simp only [] at h hq)
     revert h
     intro h;obtain rfl:=Option.some.inj h
     simp (maxSteps:=10000000) (implicitDefEqProofs:=false) (disch:=first | with_reducible assumption | exact rfl | exact im_ _ | (fail_if_success show Kn _ _);omega) only [bs,rs31,ls31,Nat.reduceAdd,↓reduceIte,znf hrec,zal u22,zal u23,zf9 u9,zai a25 z25,za5 a9,zab a22,zab a23,zab a9,hq,hq]
     refine ⟨by simp, ?_⟩;exact zdk rfl rfl rfl rfl
    | ret r21 =>
     obtain ⟨rfl,hq⟩:=hq
     obtain rfl:=Option.some.inj h
     simp (maxSteps:=10000000) (implicitDefEqProofs:=false) (disch:=first | with_reducible assumption | exact rfl | exact im_ _ | (fail_if_success show Kn _ _);omega) only [bs,rs31,ls31,Nat.reduceAdd,↓reduceIte,znf hrec,zal u22,zal u23,zf9 u9,zai a25 z25,za5 a9,zab a22,zab a23,zab a9]
     exact ⟨by simp,hq⟩
   | ret r22 =>
    obtain ⟨rfl,hq⟩:=hq
    obtain rfl:=Option.some.inj h
    simp (maxSteps:=10000000) (implicitDefEqProofs:=false) (disch:=first | with_reducible assumption | exact rfl | exact im_ _ | (fail_if_success show Kn _ _);omega) only [bs,rs31,ls31,Nat.reduceAdd,↓reduceIte,znf hrec,zal u22,zal u23,zf9 u9,zai a25 z25,za5 a9,zab a22,zab a23,zab a9]
    exact ⟨by simp,hq⟩
theorem z55:∀ (x0:Node) (x1:Int) r,zfj x0 x1=some r→callW Try.prog A0 31 [.p (.agg (zaf x0)),iv x1] []=some (.p (.v (.int .i64 r)),[]):=by
 have key:∀ n (x0:Node) (x1:Int) r,zcx x0 x1<n→zfj x0 x1=some r→callW Try.prog A0 31 [.p (.agg (zaf x0)),iv x1] []=some (.p (.v (.int .i64 r)),[]):=by
  intro n
  induction n with
  | zero=>intro x0 x1 r h;omega
  | succ n ih =>
   intro x0 x1 r hn h
   refine yg6 (rec:=fun x0' x1'=>if zcx x0' x1'<zcx x0 x1 then zfj x0' x1' else none) ?_ x0 x1 r (zo5 x0 x1 r h)
   intro x0' x1' r' h'
   by_cases hm:zcx x0' x1'<zcx x0 x1
   ·rw [if_pos hm] at h';exact ih x0' x1' r' (by omega) h'
   ·rw [if_neg hm] at h';cases h'
 intro x0 x1 r h
 exact key _ x0 x1 r (Nat.lt_succ_self _) h
def ls9:=@zck
theorem c31_1 {H:List Ob}{a1:Node}{a2:Int}{r:Int} (h:zfj a1 a2=some r):callD (callW Try.prog A0) A0 H 31 [.p (.agg (zaf a1)),iv a2]=some (.p (.v (.int .i64 r)),none) :=
 zbi (args:=[.agg (zaf a1),.v (.int .i64 a2)]) rfl rfl rfl (by simp only [List.map_cons,List.map_nil,wk,wks,wkL];exact z55 a1 a2 _ h)
theorem f9_ok  (x0:Node) (x1:Int) (x2:Int) (x3:Int) (r:Bool) (h:zjd x0 x1 x2 x3=some r):callW Try.prog A0 9 [.p (.agg (zaf x0)),iv x1,iv x2,iv x3] []=some (.p (.v (.bool r)),[]):=by
 refine zax (fn:=Try.f9) (c:=zae Try.f9) 15 rfl rfl (by kernel_rfl) (by kernel_rfl) (by kernel_rfl) ?_
 unfold zjd at h;unfold zae Try.f9;simp only [ens]
 revert h
 repeat' first | (with_reducible refine gB fun _ _=>?_) | (with_reducible refine gT (fun _ _=>?_) (fun _ _=>?_))
 all_goals
  intro h;obtain rfl:=Option.some.inj h
  first | (simp (maxSteps:=10000000) (implicitDefEqProofs:=false) (disch:=first | with_reducible assumption | exact rfl | exact im_ _ | (fail_if_success show Kn _ _);omega) only [bs,rs9,ls9,Nat.reduceAdd,↓reduceIte,c30_0,c31_1,zag a25 z25];refine ⟨by simp, ?_⟩;exact zdk rfl rfl rfl rfl) | (exfalso;omega)
def ls61:=@z3k
theorem c9_0 {H:List Ob}{a1:Node}{a2 a3 a4:Int}{r:Bool} (h:zjd a1 a2 a3 a4=some r):callD (callW Try.prog A0) A0 H 9 [.p (.agg (zaf a1)),iv a2,iv a3,iv a4]=some (.p (.v (.bool r)),none) :=
 zbi (args:=[.agg (zaf a1),.v (.int .i64 a2),.v (.int .i64 a3),.v (.int .i64 a4)]) rfl rfl rfl (by simp only [List.map_cons,List.map_nil,wk,wks,wkL];exact f9_ok a1 a2 a3 a4 _ h)
theorem yjc  (x0:Int) (x1:Int) (r:Int) (h:zib x0 x1=some r):callW Try.prog A0 61 [.p (.v (.int .u64 x0)),.p (.v (.int .u8 x1))] []=some (.p (.v (.int .u64 r)),[]):=by
 refine zax (fn:=Try.f61) (c:=zae Try.f61) 8 rfl rfl (by kernel_rfl) (by kernel_rfl) (by kernel_rfl) ?_
 unfold zib at h;unfold zae Try.f61;simp only [ens]
 revert h
 intro h;obtain rfl:=Option.some.inj h
 simp (maxSteps:=10000000) (implicitDefEqProofs:=false) (disch:=first | with_reducible assumption | exact rfl | exact im_ _ | (fail_if_success show Kn _ _);omega) only [bs,rs61,ls61,Nat.reduceAdd,↓reduceIte,zrh (k:=.u64),zny]
 refine ⟨by simp, ?_⟩;exact zdk rfl rfl rfl rfl
def ls49:=And.intro @z1c (And.intro @zsy (@zvw))
theorem c61_0 {H:List Ob}{a1 a2:Int}{r:Int} (h:zib a1 a2=some r):callD (callW Try.prog A0) A0 H 61 [.p (.v (.int .u64 a1)),.p (.v (.int .u8 a2))]=some (.p (.v (.int .u64 r)),none) :=
 zbi (args:=[.v (.int .u64 a1),.v (.int .u8 a2)]) rfl rfl rfl (by simp only [List.map_cons,List.map_nil,wk,wks,wkL];exact yjc a1 a2 _ h)
noncomputable def L49_1:Code:=(zak (zae Try.f49)).getD 1 .skip
def g49_1:List Ghost:=[.keep [5,7,8,11,12]]
noncomputable def F49_1 (s7:Int) (a11_0:Int) (a11_1:Int) (s12:Int):(Int×Int)→St:=fun (s5,s8)=>⟨[J,J,J,J,J,.p (.v (.int .u64 s5)),J,.p (.v (.int .u64 s7)),iv s8,J,J,.p (.agg [.v (.int .u64 a11_0),.v (.int .u64 a11_1)]),iv s12,J,J,J,J,J,J,J,J,J,J,J,J,J,J,J],[],0⟩
theorem z8f (s7:Int) (a11_0:Int) (a11_1:Int) (s12:Int):∀ s st o,zaj g49_1 st=some (F49_1 s7 a11_0 a11_1 s12 s)→iter (zf6 s7 a11_0 a11_1 s12) s=some o →
    Wp (evW Try.prog A0 49 (.loop L49_1) st) (OutQ (F49_1 s7 a11_0 a11_1 s12) g49_1 (fun n s st=>n=2∧zaj [.keep [5,7,8,11,12]] st=some (F49_1 s7 a11_0 a11_1 s12 s)) (fun r st=>zap Try.prog A0 49 Try.f49 st=some (.p (.v (.int .u64 r)),[])) o):=by
 refine Wp.iter ?_
 intro s st o hg h
 obtain ⟨s5,s8⟩:=s
 unfold zf6 at h;unfold g49_1 F49_1 at hg ⊢
 (try simp only [] at h hg)
 unfold L49_1 zae Try.f49;simp only [zak,ens]
 revert h
 repeat' first | (with_reducible refine gB fun _ _=>?_) | (with_reducible refine gI (fun _ _=>?_) (fun _ _=>?_))
 all_goals
  intro h;obtain rfl:=Option.some.inj h
  first | (simp (maxSteps:=10000000) (implicitDefEqProofs:=false) (disch:=first | with_reducible assumption | exact rfl | exact im_ _ | (fail_if_success show Kn _ _);omega) only [bs,rs49,ls49,Nat.reduceAdd,↓reduceIte,zbu,c61_0,zqr,hg];first | (exact ⟨(rfl:Ex.normal=Ex.normal),by kernel_rfl⟩) | (exact ⟨(rfl:Ex.exit 2=Ex.exit 2),rfl,by kernel_rfl⟩)) | (exfalso;omega)
noncomputable def L49_0:Code:=(zak (zae Try.f49)).getD 0 .skip
def g49_0:List Ghost:=[.keep [5,11,12]]
noncomputable def F49_0 (a11_0:Int) (a11_1:Int):(Int×Int)→St:=fun (s5,s12)=>⟨[J,J,J,J,J,.p (.v (.int .u64 s5)),J,J,J,J,J,.p (.agg [.v (.int .u64 a11_0),.v (.int .u64 a11_1)]),iv s12,J,J,J,J,J,J,J,J,J,J,J,J,J,J,J],[],0⟩
theorem z7w (a11_0:Int) (a11_1:Int):∀ s st o,zaj g49_0 st=some (F49_0 a11_0 a11_1 s)→iter (zej a11_0 a11_1) s=some o →
    Wp (evW Try.prog A0 49 (.loop L49_0) st) (OutQ (F49_0 a11_0 a11_1) g49_0 (fun n s st=>n=0∧zaj [.keep [5,11,12]] st=some (F49_0 a11_0 a11_1 s)) (fun r st=>zap Try.prog A0 49 Try.f49 st=some (.p (.v (.int .u64 r)),[])) o):=by
 refine Wp.iter ?_
 intro s st o hg h
 obtain ⟨s5,s12⟩:=s
 unfold zej at h;unfold g49_0 F49_0 at hg ⊢
 (try simp only [] at h hg)
 unfold L49_0 zae Try.f49;simp only [zak,ens]
 revert h
 refine gI (fun h1 _=>?_) (fun h1 _=>?_)
 ·refine gB fun q2 h3=>?_
  refine gB fun o h12=>?_
  intro h
  simp (maxSteps:=10000000) (implicitDefEqProofs:=false) (disch:=first | with_reducible assumption | exact rfl | exact im_ _ | (fail_if_success show Kn _ _);omega) only [bs,rs49,ls49,Nat.reduceAdd,↓reduceIte,zbu,c61_0,zqr,hg]
  refine Wp.ctx (fun x=>seqW _ _ _ _ (za6 _ (za6 _ (x)))) (z8f q2 a11_0 a11_1 s12 (s5,(56:Int)) _ o (by kernel_rfl) h12) ?_
  intro e st hq
  cases o with
  | next _=>(first | cases h | (simp at h))
  | jmp n_ s_ =>
   obtain ⟨rfl,rfl,hq⟩:=hq
   obtain ⟨s5_13,s8_13⟩:=s_
   unfold F49_1 at hq
   (try simp only [] at h hq)
   revert h
   intro h;obtain rfl:=Option.some.inj h
   simp (maxSteps:=10000000) (implicitDefEqProofs:=false) (disch:=first | with_reducible assumption | exact rfl | exact im_ _ | (fail_if_success show Kn _ _);omega) only [bs,rs49,ls49,Nat.reduceAdd,↓reduceIte,zbu,c61_0,zqr,hg,hq]
   exact ⟨(rfl:Ex.normal=Ex.normal),by kernel_rfl⟩
  | ret _=>(first | cases h | (simp at h))
 ·intro h;obtain rfl:=Option.some.inj h
  simp (maxSteps:=10000000) (implicitDefEqProofs:=false) (disch:=first | with_reducible assumption | exact rfl | exact im_ _ | (fail_if_success show Kn _ _);omega) only [bs,rs49,ls49,Nat.reduceAdd,↓reduceIte,zbu,c61_0,zqr,hg]
  exact ⟨(rfl:Ex.exit 0=Ex.exit 0),rfl,by kernel_rfl⟩
theorem yat  (x0:Int) (x1:Int) (r:Int) (h:zhq x0 x1=some r):callW Try.prog A0 49 [.p (.v (.int .u64 x0)),.p (.v (.int .u64 x1))] []=some (.p (.v (.int .u64 r)),[]):=by
 refine zax (fn:=Try.f49) (c:=zae Try.f49) 26 rfl rfl (by kernel_rfl) (by kernel_rfl) (by kernel_rfl) ?_
 unfold zhq at h;unfold zae Try.f49;simp only [ens]
 revert h
 refine gB fun o h14=>?_
 intro h
 simp (maxSteps:=10000000) (implicitDefEqProofs:=false) (disch:=first | with_reducible assumption | exact rfl | exact im_ _ | (fail_if_success show Kn _ _);omega) only [bs,rs49,ls49,Nat.reduceAdd,↓reduceIte,zbu,c61_0,zqr]
 refine Wp.ctx (fun x=>seqW _ _ _ _ (za6 _ (x))) (z7w x0 x1 ((14695981039346656037:Int),(0:Int)) _ o (by kernel_rfl) h14) ?_
 intro e st hq
 cases o with
 | next _=>(first | cases h | (simp at h))
 | jmp n_ s_ =>
  obtain ⟨rfl,rfl,hq⟩:=hq
  obtain ⟨s5_15,s12_15⟩:=s_
  unfold F49_0 at hq
  (try simp only [] at h hq)
  revert h
  intro h;obtain rfl:=Option.some.inj h
  simp (maxSteps:=10000000) (implicitDefEqProofs:=false) (disch:=first | with_reducible assumption | exact rfl | exact im_ _ | (fail_if_success show Kn _ _);omega) only [bs,rs49,ls49,Nat.reduceAdd,↓reduceIte,zbu,c61_0,zqr,hq]
  refine ⟨by simp, ?_⟩;exact zdk rfl rfl rfl rfl
 | ret _=>(first | cases h | (simp at h))
noncomputable def L50_0:Code:=(zak (zae Try.f50)).getD 0 .skip
def g50_0:List Ghost:=[.keep [0,3,6,7]]
noncomputable def F50_0 (s0:ByteArray) (s6:Int):(Int×Int)→St:=fun (s3,s7)=>⟨[.p (.v (.string s0)),J,J,.p (.v (.int .u64 s3)),J,J,iv s6,iv s7,J,J,J,J,J,J,J,J,J],[],0⟩
theorem z92 (s0:ByteArray) (s6:Int):∀ s st o,zaj g50_0 st=some (F50_0 s0 s6 s)→iter (zf5 s0 s6) s=some o →
    Wp (evW Try.prog A0 50 (.loop L50_0) st) (OutQ (F50_0 s0 s6) g50_0 (fun n s st=>n=0∧zaj [.keep [0,3,6,7]] st=some (F50_0 s0 s6 s)) (fun r st=>zap Try.prog A0 50 Try.f50 st=some (.p (.v (.int .u64 r)),[])) o):=by
 refine Wp.iter ?_
 intro s st o hg h
 obtain ⟨s3,s7⟩:=s
 unfold zf5 at h;unfold g50_0 F50_0 at hg ⊢
 (try simp only [] at h hg)
 unfold L50_0 zae Try.f50;simp only [zak,ens]
 revert h
 repeat' first | (with_reducible refine gB fun _ _=>?_) | (with_reducible refine gI (fun _ _=>?_) (fun _ _=>?_))
 all_goals
  intro h;obtain rfl:=Option.some.inj h
  first | (simp (maxSteps:=10000000) (implicitDefEqProofs:=false) (disch:=first | with_reducible assumption | exact rfl | exact im_ _ | (fail_if_success show Kn _ _);omega) only [bs,rs50,Nat.reduceAdd,↓reduceIte,c61_0,zh3 Try.underlying9,zf9 u9,hg];first | (exact ⟨(rfl:Ex.normal=Ex.normal),by kernel_rfl⟩) | (exact ⟨(rfl:Ex.exit 0=Ex.exit 0),rfl,by kernel_rfl⟩)) | (exfalso;omega)
theorem ybd  (x0:ByteArray) (r:Int) (h:zi4 x0=some r):callW Try.prog A0 50 [.p (.v (.string x0))] []=some (.p (.v (.int .u64 r)),[]):=by
 refine zax (fn:=Try.f50) (c:=zae Try.f50) 16 rfl rfl (by kernel_rfl) (by kernel_rfl) (by kernel_rfl) ?_
 unfold zi4 at h;unfold zae Try.f50;simp only [ens]
 revert h
 refine gB fun o h8=>?_
 intro h
 simp (maxSteps:=10000000) (implicitDefEqProofs:=false) (disch:=first | with_reducible assumption | exact rfl | exact im_ _ | (fail_if_success show Kn _ _);omega) only [bs,rs50,Nat.reduceAdd,↓reduceIte,c61_0,zh3 Try.underlying9,zf9 u9]
 refine Wp.ctx (fun x=>seqW _ _ _ _ (za6 _ (x))) (z92 x0 (x0.size:Int) ((14695981039346656037:Int),(0:Int)) _ o (by kernel_rfl) h8) ?_
 intro e st hq
 cases o with
 | next _=>(first | cases h | (simp at h))
 | jmp n_ s_ =>
  obtain ⟨rfl,rfl,hq⟩:=hq
  obtain ⟨s3_9,s7_9⟩:=s_
  unfold F50_0 at hq
  (try simp only [] at h hq)
  revert h
  intro h;obtain rfl:=Option.some.inj h
  simp (maxSteps:=10000000) (implicitDefEqProofs:=false) (disch:=first | with_reducible assumption | exact rfl | exact im_ _ | (fail_if_success show Kn _ _);omega) only [bs,rs50,Nat.reduceAdd,↓reduceIte,c61_0,zh3 Try.underlying9,zf9 u9,hq]
  refine ⟨by simp, ?_⟩;exact zdk rfl rfl rfl rfl
 | ret _=>(first | cases h | (simp at h))
def ls63:=@z3k
theorem yie  (x0:Int) (x1:Int) (r:Int) (h:zki x0 x1=some r):callW Try.prog A0 63 [.p (.v (.int .u64 x0)),.p (.v (.int .u8 x1))] []=some (.p (.v (.int .u64 r)),[]):=by
 refine zax (fn:=Try.f63) (c:=zae Try.f63) 8 rfl rfl (by kernel_rfl) (by kernel_rfl) (by kernel_rfl) ?_
 unfold zki at h;unfold zae Try.f63;simp only [ens]
 revert h
 intro h;obtain rfl:=Option.some.inj h
 simp (maxSteps:=10000000) (implicitDefEqProofs:=false) (disch:=first | with_reducible assumption | exact rfl | exact im_ _ | (fail_if_success show Kn _ _);omega) only [bs,rs63,ls63,Nat.reduceAdd,↓reduceIte,zrh (k:=.u64),zny]
 refine ⟨by simp, ?_⟩;exact zdk rfl rfl rfl rfl
theorem c63_0 {H:List Ob}{a1 a2:Int}{r:Int} (h:zki a1 a2=some r):callD (callW Try.prog A0) A0 H 63 [.p (.v (.int .u64 a1)),.p (.v (.int .u8 a2))]=some (.p (.v (.int .u64 r)),none) :=
 zbi (args:=[.v (.int .u64 a1),.v (.int .u8 a2)]) rfl rfl rfl (by simp only [List.map_cons,List.map_nil,wk,wks,wkL];exact yie a1 a2 _ h)
noncomputable def L52_0:Code:=(zak (zae Try.f52)).getD 0 .skip
def g52_0:List Ghost:=[.keep [0,3,4]]
noncomputable def F52_0 (s0:ByteArray):(Int×Int)→St:=fun (s3,s4)=>⟨[.p (.v (.string s0)),J,J,.p (.v (.int .u64 s3)),iv s4,J,J,J,J,J,J,J,J,J,J,J,J],[],0⟩
theorem z7a (s0:ByteArray):∀ s st o,zaj g52_0 st=some (F52_0 s0 s)→iter (zh1 s0) s=some o →
    Wp (evW Try.prog A0 52 (.loop L52_0) st) (OutQ (F52_0 s0) g52_0 (fun n s st=>n=0∧zaj [.keep [0,3,4]] st=some (F52_0 s0 s)) (fun r st=>zap Try.prog A0 52 Try.f52 st=some (.p (.v (.int .u64 r)),[])) o):=by
 refine Wp.iter ?_
 intro s st o hg h
 obtain ⟨s3,s4⟩:=s
 unfold zh1 at h;unfold g52_0 F52_0 at hg ⊢
 (try simp only [] at h hg)
 unfold L52_0 zae Try.f52;simp only [zak,ens]
 revert h
 repeat' first | (with_reducible refine gB fun _ _=>?_) | (with_reducible refine gI (fun _ _=>?_) (fun _ _=>?_))
 all_goals
  intro h;obtain rfl:=Option.some.inj h
  first | (simp (maxSteps:=10000000) (implicitDefEqProofs:=false) (disch:=first | with_reducible assumption | exact rfl | exact im_ _ | (fail_if_success show Kn _ _);omega) only [bs,rs52,Nat.reduceAdd,↓reduceIte,c63_0,zh3 Try.underlying9,zf9 u9,hg];first | (exact ⟨(rfl:Ex.normal=Ex.normal),by kernel_rfl⟩) | (exact ⟨(rfl:Ex.exit 0=Ex.exit 0),rfl,by kernel_rfl⟩)) | (exfalso;omega)
theorem ya3  (x0:ByteArray) (r:Int) (h:znu x0=some r):callW Try.prog A0 52 [.p (.v (.string x0))] []=some (.p (.v (.int .u64 r)),[]):=by
 refine zax (fn:=Try.f52) (c:=zae Try.f52) 16 rfl rfl (by kernel_rfl) (by kernel_rfl) (by kernel_rfl) ?_
 unfold znu at h;unfold zae Try.f52;simp only [ens]
 revert h
 refine gB fun o h8=>?_
 intro h
 simp (maxSteps:=10000000) (implicitDefEqProofs:=false) (disch:=first | with_reducible assumption | exact rfl | exact im_ _ | (fail_if_success show Kn _ _);omega) only [bs,rs52,Nat.reduceAdd,↓reduceIte,c63_0,zh3 Try.underlying9,zf9 u9]
 refine Wp.ctx (fun x=>seqW _ _ _ _ (za6 _ (x))) (z7a x0 ((14695981039346656037:Int),(0:Int)) _ o (by kernel_rfl) h8) ?_
 intro e st hq
 cases o with
 | next _=>(first | cases h | (simp at h))
 | jmp n_ s_ =>
  obtain ⟨rfl,rfl,hq⟩:=hq
  obtain ⟨s3_9,s4_9⟩:=s_
  unfold F52_0 at hq
  (try simp only [] at h hq)
  revert h
  intro h;obtain rfl:=Option.some.inj h
  simp (maxSteps:=10000000) (implicitDefEqProofs:=false) (disch:=first | with_reducible assumption | exact rfl | exact im_ _ | (fail_if_success show Kn _ _);omega) only [bs,rs52,Nat.reduceAdd,↓reduceIte,c63_0,zh3 Try.underlying9,zf9 u9,hq]
  refine ⟨by simp, ?_⟩;exact zdk rfl rfl rfl rfl
 | ret _=>(first | cases h | (simp at h))
def ls62:=@zvw
theorem c52_0 {H:List Ob}{a1:ByteArray}{r:Int} (h:znu a1=some r):callD (callW Try.prog A0) A0 H 52 [.p (.v (.string a1))]=some (.p (.v (.int .u64 r)),none) :=
 zbi (args:=[.v (.string a1)]) rfl rfl rfl (by simp only [List.map_cons,List.map_nil,wk,wks,wkL];exact ya3 a1 _ h)
noncomputable def L62_0:Code:=(zak (zae Try.f62)).getD 0 .skip
def g62_0:List Ghost:=[.keep [1,5,6]]
noncomputable def F62_0 (s1:Int):(Int×Int)→St:=fun (s5,s6)=>⟨[J,.p (.v (.int .u64 s1)),J,J,J,.p (.v (.int .u64 s5)),iv s6,J,J,J,J,J,J,J,J,J,J,J,J],[],0⟩
theorem z63 (s1:Int):∀ s st o,zaj g62_0 st=some (F62_0 s1 s)→iter (zgb s1) s=some o →
    Wp (evW Try.prog A0 62 (.loop L62_0) st) (OutQ (F62_0 s1) g62_0 (fun n s st=>n=0∧zaj [.keep [1,5,6]] st=some (F62_0 s1 s)) (fun r st=>zap Try.prog A0 62 Try.f62 st=some (.p (.v (.int .u64 r)),[])) o):=by
 refine Wp.iter ?_
 intro s st o hg h
 obtain ⟨s5,s6⟩:=s
 unfold zgb at h;unfold g62_0 F62_0 at hg ⊢
 (try simp only [] at h hg)
 unfold L62_0 zae Try.f62;simp only [zak,ens]
 revert h
 repeat' first | (with_reducible refine gB fun _ _=>?_) | (with_reducible refine gI (fun _ _=>?_) (fun _ _=>?_))
 all_goals
  intro h;obtain rfl:=Option.some.inj h
  first | (simp (maxSteps:=10000000) (implicitDefEqProofs:=false) (disch:=first | with_reducible assumption | exact rfl | exact im_ _ | (fail_if_success show Kn _ _);omega) only [bs,rs62,ls62,Nat.reduceAdd,↓reduceIte,zbu,c63_0,hg];first | (exact ⟨(rfl:Ex.normal=Ex.normal),by kernel_rfl⟩) | (exact ⟨(rfl:Ex.exit 0=Ex.exit 0),rfl,by kernel_rfl⟩)) | (exfalso;omega)
theorem ye6  (x0:Int) (x1:Int) (r:Int) (h:zh5 x0 x1=some r):callW Try.prog A0 62 [.p (.v (.int .u64 x0)),.p (.v (.int .u64 x1))] []=some (.p (.v (.int .u64 r)),[]):=by
 refine zax (fn:=Try.f62) (c:=zae Try.f62) 17 rfl rfl (by kernel_rfl) (by kernel_rfl) (by kernel_rfl) ?_
 unfold zh5 at h;unfold zae Try.f62;simp only [ens]
 revert h
 refine gB fun o h8=>?_
 intro h
 simp (maxSteps:=10000000) (implicitDefEqProofs:=false) (disch:=first | with_reducible assumption | exact rfl | exact im_ _ | (fail_if_success show Kn _ _);omega) only [bs,rs62,ls62,Nat.reduceAdd,↓reduceIte,zbu,c63_0]
 refine Wp.ctx (fun x=>seqW _ _ _ _ (za6 _ (x))) (z63 x1 (x0,(56:Int)) _ o (by kernel_rfl) h8) ?_
 intro e st hq
 cases o with
 | next _=>(first | cases h | (simp at h))
 | jmp n_ s_ =>
  obtain ⟨rfl,rfl,hq⟩:=hq
  obtain ⟨s5_9,s6_9⟩:=s_
  unfold F62_0 at hq
  (try simp only [] at h hq)
  revert h
  intro h;obtain rfl:=Option.some.inj h
  simp (maxSteps:=10000000) (implicitDefEqProofs:=false) (disch:=first | with_reducible assumption | exact rfl | exact im_ _ | (fail_if_success show Kn _ _);omega) only [bs,rs62,ls62,Nat.reduceAdd,↓reduceIte,zbu,c63_0,hq]
  refine ⟨by simp, ?_⟩;exact zdk rfl rfl rfl rfl
 | ret _=>(first | cases h | (simp at h))
theorem c62_0 {H:List Ob}{a1 a2:Int}{r:Int} (h:zh5 a1 a2=some r):callD (callW Try.prog A0) A0 H 62 [.p (.v (.int .u64 a1)),.p (.v (.int .u64 a2))]=some (.p (.v (.int .u64 r)),none) :=
 zbi (args:=[.v (.int .u64 a1),.v (.int .u64 a2)]) rfl rfl rfl (by simp only [List.map_cons,List.map_nil,wk,wks,wkL];exact ye6 a1 a2 _ h)
theorem yg8  (x0:Int) (x1:Int) (r:Int) (h:zs3 x0 x1=some r):callW Try.prog A0 51 [.p (.v (.int .u64 x0)),.p (.v (.int .u64 x1))] []=some (.p (.v (.int .u64 r)),[]):=by
 refine zax (fn:=Try.f51) (c:=zae Try.f51) 8 rfl rfl (by kernel_rfl) (by kernel_rfl) (by kernel_rfl) ?_
 unfold zs3 at h;unfold zae Try.f51;simp only [ens]
 revert h
 repeat' (with_reducible refine gB fun _ _=>?_)
 intro h;obtain rfl:=Option.some.inj h
 simp (maxSteps:=10000000) (implicitDefEqProofs:=false) (disch:=first | with_reducible assumption | exact rfl | exact im_ _ | (fail_if_success show Kn _ _);omega) only [bs,rs51,Nat.reduceAdd,↓reduceIte,c52_0,c62_0]
 refine ⟨by simp, ?_⟩;exact zdk rfl rfl rfl rfl
def sums_ (f:Nat) (args:List Dv) (H:List Ob):Option (Dv×List Ob) :=
 match H with
 | []=>bif Nat.beq f 49 then mixS args else bif Nat.beq f 51 then mixS args else bif Nat.beq f 50 then sumS args else bif Nat.beq f 52 then sumS args else none
 | _=>none
theorem ydn:zkx sums_ (callW Try.prog A0):=by
 intro f args H r h
 cases H with
 | cons o H=>cases h
 | nil =>
 unfold sums_ at h
 cases h1:Nat.beq f 49 with
 | true =>
  obtain rfl:=Nat.eq_of_beq_eq_true h1
  obtain ⟨a,b,rfl,rfl⟩:=z45 h
  exact yat a b _ (zkg a b)
 | false =>
 cases h2:Nat.beq f 51 with
 | true =>
  obtain rfl:=Nat.eq_of_beq_eq_true h2
  obtain ⟨a,b,rfl,rfl⟩:=z45 h
  exact yg8 a b _ (z0c a b)
 | false =>
 cases h3:Nat.beq f 50 with
 | true =>
  obtain rfl:=Nat.eq_of_beq_eq_true h3
  obtain ⟨s,rfl,hs,rfl⟩:=z02 h
  exact ybd s _ (zmv hs)
 | false =>
 cases h4:Nat.beq f 52 with
 | true =>
  obtain rfl:=Nat.eq_of_beq_eq_true h4
  obtain ⟨s,rfl,hs,rfl⟩:=z02 h
  exact ya3 s _ (zrt hs)
 | false=>simp only [h1,h2,h3,h4,cond_false] at h;cases h
theorem yfd (r:Bool) (h:zh9=some r):callW Try.prog A0 10 [] []=some (.p (.v (.bool r)),[]):=by
 cases h;exact zs0 ydn 200 _ _ _ _ (by kernel_rfl)
theorem r42_0 {o d s}:RG 42 0 [] o d s:=zaa
theorem r42_1 {o d s}:RG 42 1 [] o d s:=zaa
theorem r90_0 {o d s}:RG 90 0 [] o d s:=zaa
theorem r90_1 {o d s}:RG 90 1 [] o d s:=zaa
theorem r90_2 {o d s}:RG 90 2 [.keep [1,2,3,4,8]] o d s:=zaa
theorem r90_4 {o d s}:RG 90 4 [] o d s:=zaa
theorem r90_3 {o d s}:RG 90 3 [] o d s:=zaa
theorem r84_0 {o d s}:RG 84 0 [] o d s:=zaa
theorem r84_1 {o d s}:RG 84 1 [] o d s:=zaa
theorem r84_2 {o d s}:RG 84 2 [] o d s:=zaa
theorem r84_3 {o d s}:RG 84 3 [.keep [2,4,8,9]] o d s:=zaa
theorem r84_4 {o d s}:RG 84 4 [] o d s:=zaa
theorem r84_5 {o d s}:RG 84 5 [] o d s:=zaa
theorem r84_6 {o d s}:RG 84 6 [] o d s:=zaa
theorem r84_7 {o d s}:RG 84 7 [] o d s:=zaa
theorem r84_8 {o d s}:RG 84 8 [] o d s:=zaa
theorem r84_9 {o d s}:RG 84 9 [.keep [2,4,8,9]] o d s:=zaa
theorem r74_0 {o d s}:RG 74 0 [] o d s:=zaa
theorem r74_1 {o d s}:RG 74 1 [] o d s:=zaa
theorem r74_2 {o d s}:RG 74 2 [] o d s:=zaa
theorem r74_3 {o d s}:RG 74 3 [] o d s:=zaa
theorem r74_4 {o d s}:RG 74 4 [.keep [1,4,8,9]] o d s:=zaa
theorem r74_5 {o d s}:RG 74 5 [] o d s:=zaa
theorem r74_6 {o d s}:RG 74 6 [] o d s:=zaa
theorem r74_7 {o d s}:RG 74 7 [] o d s:=zaa
theorem r74_8 {o d s}:RG 74 8 [] o d s:=zaa
theorem r74_9 {o d s}:RG 74 9 [.keep [1,4,8,9]] o d s:=zaa
theorem yhy {o d s}:RG 74 10 [.keep [4,8,11]] o d s:=zaa
theorem yj8 {o d s}:RG 74 12 [] o d s:=zaa
theorem yg7 {o d s}:RG 74 11 [] o d s:=zaa
theorem yee {o d s}:RG 74 13 [] o d s:=zaa
theorem yj5 {o d s}:RG 74 14 [] o d s:=zaa
theorem yef {o d s}:RG 74 15 [] o d s:=zaa
theorem yka {o d s}:RG 74 16 [.keep [2,4,12,13]] o d s:=zaa
theorem ygi {o d s}:RG 74 17 [] o d s:=zaa
theorem ygq {o d s}:RG 74 18 [] o d s:=zaa
theorem yh6 {o d s}:RG 74 19 [] o d s:=zaa
theorem ygc {o d s}:RG 74 20 [] o d s:=zaa
theorem yha {o d s}:RG 74 21 [.keep [2,4,12,13]] o d s:=zaa
theorem ye2 {o d s}:RG 74 22 [.keep [4,12,15]] o d s:=zaa
theorem yfm {o d s}:RG 74 24 [] o d s:=zaa
theorem yhg {o d s}:RG 74 23 [] o d s:=zaa
theorem ykb {o d s}:RG 74 25 [] o d s:=zaa
theorem ye9 {o d s}:RG 74 26 [] o d s:=zaa
theorem yeg {o d s}:RG 74 27 [] o d s:=zaa
theorem ygv {o d s}:RG 74 28 [] o d s:=zaa
theorem ykr {o d s}:RG 74 29 [] o d s:=zaa
theorem yhv {o d s}:RG 74 30 [] o d s:=zaa
theorem yfo {o d s}:RG 74 31 [] o d s:=zaa
theorem ykp {o d s}:RG 74 32 [] o d s:=zaa
theorem yho {o d s}:RG 74 33 [] o d s:=zaa
theorem yjo {o d s}:RG 74 34 [.keep [1,2,3,4,16,17,18,19,20]] o d s:=zaa
theorem yd0 {o d s}:RG 74 35 [] o d s:=zaa
theorem yi1 {o d s}:RG 74 36 [] o d s:=zaa
theorem yhc {o d s}:RG 74 37 [] o d s:=zaa
theorem yf1 {o d s}:RG 74 38 [] o d s:=zaa
theorem yip {o d s}:RG 74 39 [.keep [1,2,3,4,16,17,18,19,20]] o d s:=zaa
theorem yf6 {o d s}:RG 74 40 [] o d s:=zaa
theorem yj6 {o d s}:RG 74 41 [] o d s:=zaa
theorem yer {o d s}:RG 74 42 [] o d s:=zaa
theorem yhl {o d s}:RG 74 43 [] o d s:=zaa
theorem yej {o d s}:RG 74 44 [] o d s:=zaa
theorem yjx {o d s}:RG 74 45 [] o d s:=zaa
theorem r57_0 {o d s}:RG 57 0 [] o d s:=zaa
theorem r57_1 {o d s}:RG 57 1 [] o d s:=zaa
theorem r57_2 {o d s}:RG 57 2 [] o d s:=zaa
theorem r57_3 {o d s}:RG 57 3 [.keep [1,2,4,5,6]] o d s:=zaa
theorem r57_4 {o d s}:RG 57 4 [] o d s:=zaa
theorem r57_5 {o d s}:RG 57 5 [] o d s:=zaa
theorem r57_6 {o d s}:RG 57 6 [] o d s:=zaa
theorem r57_7 {o d s}:RG 57 7 [.keep [1,2,4,5,6]] o d s:=zaa
theorem r57_8 {o d s}:RG 57 8 [.keep [1,2,4]] o d s:=zaa
theorem r57_9 {o d s}:RG 57 9 [] o d s:=zaa
theorem yi4 {o d s}:RG 57 10 [.keep [1,2,4,5,6]] o d s:=zaa
theorem yf2 {o d s}:RG 57 11 [] o d s:=zaa
theorem ygu {o d s}:RG 57 12 [] o d s:=zaa
theorem yf3 {o d s}:RG 57 13 [] o d s:=zaa
theorem yen {o d s}:RG 57 14 [.keep [1,2,4,5,6]] o d s:=zaa
theorem yju {o d s}:RG 57 15 [] o d s:=zaa
theorem ygb {o d s}:RG 57 16 [] o d s:=zaa
theorem yhi {o d s}:RG 57 17 [] o d s:=zaa
theorem r41_0 {o d s}:RG 41 0 [] o d s:=zaa
theorem r41_1 {o d s}:RG 41 1 [] o d s:=zaa
theorem r41_2 {o d s}:RG 41 2 [] o d s:=zaa
set_option linter.defProp false in
def rs42:=And.intro @r42_0 (@r42_1)
set_option linter.defProp false in
def rs90:=And.intro @r90_0 (And.intro @r90_1 (And.intro @r90_2 (And.intro @r90_4 (@r90_3))))
set_option linter.defProp false in
def rs84:=And.intro @r84_0 (And.intro @r84_1 (And.intro @r84_2 (And.intro @r84_3 (And.intro @r84_4 (And.intro @r84_5 (And.intro @r84_6 (And.intro @r84_7 (And.intro @r84_8 (@r84_9)))))))))
set_option linter.defProp false in
def rs74:=And.intro @r74_0 (And.intro @r74_1 (And.intro @r74_2 (And.intro @r74_3 (And.intro @r74_4 (And.intro @r74_5 (And.intro @r74_6 (And.intro @r74_7 (And.intro @r74_8 (And.intro @r74_9 (And.intro @yhy (And.intro @yj8 (And.intro @yg7 (And.intro @yee (And.intro @yj5 (And.intro @yef (And.intro @yka (And.intro @ygi (And.intro @ygq (And.intro @yh6 (And.intro @ygc (And.intro @yha (And.intro @ye2 (And.intro @yfm (And.intro @yhg (And.intro @ykb (And.intro @ye9 (And.intro @yeg (And.intro @ygv (And.intro @ykr (And.intro @yhv (And.intro @yfo (And.intro @ykp (And.intro @yho (And.intro @yjo (And.intro @yd0 (And.intro @yi1 (And.intro @yhc (And.intro @yf1 (And.intro @yip (And.intro @yf6 (And.intro @yj6 (And.intro @yer (And.intro @yhl (And.intro @yej (@yjx)))))))))))))))))))))))))))))))))))))))))))))
set_option linter.defProp false in
def rs57:=And.intro @r57_0 (And.intro @r57_1 (And.intro @r57_2 (And.intro @r57_3 (And.intro @r57_4 (And.intro @r57_5 (And.intro @r57_6 (And.intro @r57_7 (And.intro @r57_8 (And.intro @r57_9 (And.intro @yi4 (And.intro @yf2 (And.intro @ygu (And.intro @yf3 (And.intro @yen (And.intro @yju (And.intro @ygb (@yhi)))))))))))))))))
set_option linter.defProp false in
def rs41:=And.intro @r41_0 (And.intro @r41_1 (@r41_2))
def ls42Z:=And.intro @z2l (And.intro @zwv (And.intro @z0x (@zlh)))
theorem yc8  (x0:Int) (x1:Int) (o0:(List Int)) (o2:(List Int)) (r:Bool) (h:ze4 x0 x1 o0 o2=some r):callW Try.prog A0 42 [iv x0,iv x1,.ptr 0 0,.ptr 1 0] [.var [.p (.lst false o0.length (encL zad o0))],.var [.ref 2 0 o2.length 1],.arr (encL zad o2)]=some (.p (.v (.bool r)),[.var [.p (.lst false o0.length (encL zad o0))],.var [.ref 2 0 o2.length 1],.arr (encL zad o2)]):=by
 refine zax (fn:=Try.f42) (c:=zae Try.f42) 18 rfl rfl (by kernel_rfl) (by kernel_rfl) (by kernel_rfl) ?_
 unfold ze4 at h;unfold zae Try.f42;simp only [ens]
 revert h
 repeat' (with_reducible refine gR fun _ _ _ _=>?_)
 intro h;obtain rfl:=Option.some.inj h
 simp (maxSteps:=10000000) (implicitDefEqProofs:=false) (disch:=first | with_reducible assumption | exact rfl | exact im_ _ | (fail_if_success show Kn _ _);omega) only [bs,rs42,ls42Z,Nat.reduceAdd,↓reduceIte,za5 a3,zab a3,zab a40]
 refine ⟨by simp, ?_⟩;show _=_;kernel_rfl
def ls73Z:=And.intro @zix (And.intro @zhv (And.intro @zft (@zfg)))
theorem zgi {a1:List Int}{a2 a3:Int}{r9003:_}{X0 X1 X3:Ob} (h9001:swapL a2 a3 a1=some r9003):callD (callW Try.prog A0) A0 [X0,X1,.arr (encL zad a1),X3] 68 [iv a2,iv a3,.ref 2 0 a1.length 1,.p (.v (typeHandle Try.prog 3))]=some (.p (.tup []),some [X0,X1,.arr (encL zad r9003),X3]):=(zbd (dsw:=[iv a2,iv a3,.ref 2 0 a1.length 1,.p (.v (typeHandle Try.prog 3))]) (ds':=[iv a2,iv a3,.ref 0 0 a1.length 1,.p (.v (typeHandle Try.prog 3))]) (i:=2) (ids:=[]) (o:=.arr (encL zad a1)) (os:=[]) (o':=.arr (encL zad r9003)) (os':=[]) rfl (by kernel_rfl) (by kernel_rfl) (by kernel_rfl) (by kernel_rfl) (by kernel_rfl) (ztv h9001) rfl rfl).trans (by kernel_rfl)
theorem zg6 {a1 a3:List Int}{a4 a5:Int}{r9001:Bool}{X3:Ob} (h9002:ze4 a4 a5 a3 a1=some r9001):callD (callW Try.prog A0) A0 [.var [.p (.lst false a3.length (encL zad a3))],.var [.ref 2 0 a1.length 1],.arr (encL zad a1),X3] 42 [iv a4,iv a5,.ptr 0 0,.ptr 1 0]=some (.p (.v (.bool r9001)),some [.var [.p (.lst false a3.length (encL zad a3))],.var [.ref 2 0 a1.length 1],.arr (encL zad a1),X3]):=(zbd (dsw:=[iv a4,iv a5,.ptr 0 0,.ptr 1 0]) (ds':=[iv a4,iv a5,.ptr 0 0,.ptr 1 0]) (i:=0) (ids:=[1,2]) (o:=.var [.p (.lst false a3.length (encL zad a3))]) (os:=[.var [.ref 2 0 a1.length 1],.arr (encL zad a1)]) (o':=.var [.p (.lst false a3.length (encL zad a3))]) (os':=[.var [.ref 2 0 a1.length 1],.arr (encL zad a1)]) rfl (by kernel_rfl) (by kernel_rfl) (by kernel_rfl) (by kernel_rfl) (by kernel_rfl) (yc8 _ _ _ _ _ h9002) rfl rfl).trans (by kernel_rfl)
noncomputable def ya2:Code:=(zak (zae Try.f73)).getD 1 .skip
def z4a:List Ghost:=[.keep [1,2,3,6,7]]
noncomputable def zuc (s1:Int) (s2:Int) (s6:Int) (w0_0:(List Int)):(Int×(List Int))→St:=fun (s7,y2)=>⟨[J,iv s1,iv s2,.ptr 3 0,J,J,iv s6,iv s7,J,J,J,J,J,J,J,J,J,J,J,J,J,J,J,J,J,J,J,J,J,J,J,J,J,J,J],[.var [.p (.lst false w0_0.length (encL zad w0_0))],.var [.ref 2 0 y2.length 1],.arr (encL zad y2),.var [.fn (.func 42) [.ptr 0 0,.ptr 1 0],sw68 2 y2.length]],3⟩
theorem z1u (s1:Int) (s2:Int) (s6:Int) (w0_0:(List Int)):∀ s st o,zaj z4a st=some (zuc s1 s2 s6 w0_0 s)→iter (zca s1 s2 s6 w0_0) s=some o →
    Wp (evW Try.prog A0 73 (.loop ya2) st) (OutQ (zuc s1 s2 s6 w0_0) z4a (fun n s st=>n=2∧zaj [.keep [1,2,3,6,7]] st=some (zuc s1 s2 s6 w0_0 s)) (fun r st=>zap Try.prog A0 73 Try.f73 st=some (.p (.tup []),[.var [.p (.lst false r.1.length (encL zad r.1))],.var [.ref 2 0 r.2.length 1],.arr (encL zad r.2)])) o):=by
 refine Wp.iter ?_
 intro s st o hg h
 obtain ⟨s7,y2⟩:=s
 unfold zca at h;unfold z4a zuc at hg ⊢
 (try simp only [] at h hg)
 unfold ya2 zae Try.f73;simp only [zak,ens]
 revert h
 repeat' first | (with_reducible refine gB fun _ _=>?_) | (with_reducible refine gW fun _=>?_) | (with_reducible refine gT (fun _ _=>?_) (fun _ _=>?_)) | (with_reducible refine gI (fun _ _=>?_) (fun _ _=>?_))
 all_goals
  intro h;obtain rfl:=Option.some.inj h
  first | (simp (maxSteps:=10000000) (implicitDefEqProofs:=false) (disch:=first | with_reducible assumption | exact rfl | exact im_ _ | (fail_if_success show Kn _ _);omega) only [bs,rs73,ls73Z,Nat.reduceAdd,↓reduceIte,zah,zab a64,zab a80,zg6,zgi,hg];first | (exact ⟨(rfl:Ex.normal=Ex.normal),by (try simp only [List.length_set,zbv, *]);kernel_rfl⟩) | (exact ⟨(rfl:Ex.exit 2=Ex.exit 2),rfl,by kernel_rfl⟩)) | (exfalso;omega)
noncomputable def yay:Code:=(zak (zae Try.f73)).getD 0 .skip
def z3z:List Ghost:=[.keep [1,2,3,6]]
noncomputable def z1n (s1:Int) (s2:Int) (w0_0:(List Int)):(Int×(List Int))→St:=fun (s6,y2)=>⟨[J,iv s1,iv s2,.ptr 3 0,J,J,iv s6,J,J,J,J,J,J,J,J,J,J,J,J,J,J,J,J,J,J,J,J,J,J,J,J,J,J,J,J],[.var [.p (.lst false w0_0.length (encL zad w0_0))],.var [.ref 2 0 y2.length 1],.arr (encL zad y2),.var [.fn (.func 42) [.ptr 0 0,.ptr 1 0],sw68 2 y2.length]],3⟩
theorem z1w (s1:Int) (s2:Int) (w0_0:(List Int)):∀ s st o,zaj z3z st=some (z1n s1 s2 w0_0 s)→iter (zb7 s1 s2 w0_0) s=some o →
    Wp (evW Try.prog A0 73 (.loop yay) st) (OutQ (z1n s1 s2 w0_0) z3z (fun n s st=>n=0∧(match s with | (s6,y2)=>zap Try.prog A0 73 Try.f73 st=some (.p (.tup []),[.var [.p (.lst false ((w0_0,y2).1).length (encL zad ((w0_0,y2).1)))],.var [.ref 2 0 (((w0_0,y2).2).length) 1],.arr (encL zad ((w0_0,y2).2))]))) (fun r st=>zap Try.prog A0 73 Try.f73 st=some (.p (.tup []),[.var [.p (.lst false r.1.length (encL zad r.1))],.var [.ref 2 0 r.2.length 1],.arr (encL zad r.2)])) o):=by
 refine Wp.iter ?_
 intro s st o hg h
 obtain ⟨s6,y2⟩:=s
 unfold zb7 at h;unfold z3z z1n at hg ⊢
 (try simp only [] at h hg)
 unfold yay zae Try.f73;simp only [zak,ens]
 revert h
 refine gI (fun h1 _=>?_) (fun h1 _=>?_)
 ·refine gB fun o h11=>?_
  intro h
  simp (maxSteps:=10000000) (implicitDefEqProofs:=false) (disch:=first | with_reducible assumption | exact rfl | exact im_ _ | (fail_if_success show Kn _ _);omega) only [bs,rs73,ls73Z,Nat.reduceAdd,↓reduceIte,zah,zab a64,zab a80,zg6,zgi,hg]
  refine Wp.ctx (fun x=>seqW _ _ _ _ (za6 _ (za6 _ (x)))) (z1u s1 s2 s6 w0_0 (s6,y2) _ o (by kernel_rfl) h11) ?_
  intro e st hq
  cases o with
  | next _=>(first | cases h | (simp at h))
  | jmp n_ s_ =>
   obtain ⟨rfl,rfl,hq⟩:=hq
   obtain ⟨s7_12,y2_12⟩:=s_
   unfold zuc at hq
   (try simp only [] at h hq)
   revert h
   intro h;obtain rfl:=Option.some.inj h
   simp (maxSteps:=10000000) (implicitDefEqProofs:=false) (disch:=first | with_reducible assumption | exact rfl | exact im_ _ | (fail_if_success show Kn _ _);omega) only [bs,rs73,ls73Z,Nat.reduceAdd,↓reduceIte,zah,zab a64,zab a80,zg6,zgi,hg,hq]
   exact ⟨(rfl:Ex.normal=Ex.normal),by kernel_rfl⟩
  | ret _=>(first | cases h | (simp at h))
 ·intro h;obtain rfl:=Option.some.inj h
  simp (maxSteps:=10000000) (implicitDefEqProofs:=false) (disch:=first | with_reducible assumption | exact rfl | exact im_ _ | (fail_if_success show Kn _ _);omega) only [bs,rs73,ls73Z,Nat.reduceAdd,↓reduceIte,zah,zab a64,zab a80,zg6,zgi,hg]
  refine ⟨(rfl:Ex.exit 0=Ex.exit 0),rfl, ?_⟩;show _=_;kernel_rfl
theorem ybx  (x1:Int) (x2:Int) (o0:(List Int)) (o2:(List Int)) (r:((List Int)×(List Int))) (h:zb8 x1 x2 o0 o2=some r):callW Try.prog A0 73 [.agg [.fn (.func 42) [.ptr 0 0,.ptr 1 0],sw68 2 o2.length],iv x1,iv x2] [.var [.p (.lst false o0.length (encL zad o0))],.var [.ref 2 0 o2.length 1],.arr (encL zad o2)]=some (.p (.tup []),[.var [.p (.lst false r.1.length (encL zad r.1))],.var [.ref 2 0 r.2.length 1],.arr (encL zad r.2)]):=by
 refine zax (fn:=Try.f73) (c:=zae Try.f73) 32 rfl rfl (by kernel_rfl) (by kernel_rfl) (by kernel_rfl) ?_
 unfold zb8 at h;unfold zae Try.f73;simp only [ens]
 revert h
 refine gB fun o h13=>?_
 intro h
 simp (maxSteps:=10000000) (implicitDefEqProofs:=false) (disch:=first | with_reducible assumption | exact rfl | exact im_ _ | (fail_if_success show Kn _ _);omega) only [bs,rs73,ls73Z,Nat.reduceAdd,↓reduceIte,zah,zab a64,zab a80,zg6,zgi]
 refine Wp.ctx (fun x=>za6 _ (x)) (z1w x1 x2 o0 (w64 (x1+(1:Int)),o2) _ o (by kernel_rfl) h13) ?_
 intro e st hq
 cases o with
 | next _=>(first | cases h | (simp at h))
 | jmp n_ s_ =>
  obtain ⟨rfl,rfl,hq⟩:=hq
  obtain ⟨s6_14,y2_14⟩:=s_
  obtain rfl:=Option.some.inj h
  simp (maxSteps:=10000000) (implicitDefEqProofs:=false) (disch:=first | with_reducible assumption | exact rfl | exact im_ _ | (fail_if_success show Kn _ _);omega) only [bs,rs73,ls73Z,Nat.reduceAdd,↓reduceIte,zah,zab a64,zab a80,zg6,zgi]
  exact ⟨by simp,hq⟩
 | ret _=>(first | cases h | (simp at h))
def ls90Z:=And.intro @zhv (@zfg)
theorem zoe {a1 a3:List Int}{a4 a5:Int}{r9001:((List Int)×(List Int))}{X3:Ob} (h9002:zb8 a4 a5 a3 a1=some r9001):callD (callW Try.prog A0) A0 [.var [.p (.lst false a3.length (encL zad a3))],.var [.ref 2 0 a1.length 1],.arr (encL zad a1),X3] 73 [.agg [.fn (.func 42) [.ptr 0 0,.ptr 1 0],sw68 2 a1.length],iv a4,iv a5]=some (.p (.tup []),some [.var [.p (.lst false r9001.1.length (encL zad r9001.1))],.var [.ref 2 0 r9001.2.length 1],.arr (encL zad r9001.2),X3]):=(zbd (dsw:=[.agg [.fn (.func 42) [.ptr 0 0,.ptr 1 0],sw68 2 a1.length],iv a4,iv a5]) (ds':=[.agg [.fn (.func 42) [.ptr 0 0,.ptr 1 0],sw68 2 a1.length],iv a4,iv a5]) (i:=0) (ids:=[1,2]) (o:=.var [.p (.lst false a3.length (encL zad a3))]) (os:=[.var [.ref 2 0 a1.length 1],.arr (encL zad a1)]) (o':=.var [.p (.lst false r9001.1.length (encL zad r9001.1))]) (os':=[.var [.ref 2 0 r9001.2.length 1],.arr (encL zad r9001.2)]) rfl (by kernel_rfl) (by kernel_rfl) (by kernel_rfl) (by kernel_rfl) (by kernel_rfl) (ybx _ _ _ _ _ h9002) rfl rfl).trans (by kernel_rfl)
noncomputable def yba:Code:=(zak (zae Try.f90)).getD 0 .skip
def z3x:List Ghost:=[.keep [1,2,3,4,8]]
noncomputable def z12 (s1:Int) (s2:Int) (s3:Int) (w0_0:(List Int)):(Int×(List Int))→St:=fun (s8,y2)=>⟨[J,iv s1,iv s2,iv s3,.ptr 3 0,J,J,J,iv s8,J,J,J,J,J,J,J,J,J,J,J,J,J,J],[.var [.p (.lst false w0_0.length (encL zad w0_0))],.var [.ref 2 0 y2.length 1],.arr (encL zad y2),.var [.fn (.func 42) [.ptr 0 0,.ptr 1 0],sw68 2 y2.length]],3⟩
theorem z2n (s1:Int) (s2:Int) (s3:Int) (w0_0:(List Int)):∀ s st o,zaj z3x st=some (z12 s1 s2 s3 w0_0 s)→iter (zct s1 s2 s3 w0_0) s=some o →
    Wp (evW Try.prog A0 90 (.loop yba) st) (OutQ (z12 s1 s2 s3 w0_0) z3x (fun n s st=>n=0∧(match s with | (s8,y2)=>zap Try.prog A0 90 Try.f90 st=some (.p (.tup []),[.var [.p (.lst false ((w0_0,y2).1).length (encL zad ((w0_0,y2).1)))],.var [.ref 2 0 (((w0_0,y2).2).length) 1],.arr (encL zad ((w0_0,y2).2))]))) (fun r st=>zap Try.prog A0 90 Try.f90 st=some (.p (.tup []),[.var [.p (.lst false r.1.length (encL zad r.1))],.var [.ref 2 0 r.2.length 1],.arr (encL zad r.2)])) o):=by
 refine Wp.iter ?_
 intro s st o hg h
 obtain ⟨s8,y2⟩:=s
 unfold zct at h;unfold z3x z12 at hg ⊢
 (try simp only [] at h hg)
 unfold yba zae Try.f90;simp only [zak,ens]
 revert h
 repeat' first | (with_reducible refine gB fun _ _=>?_) | (with_reducible refine gW fun _=>?_) | (with_reducible refine gI (fun _ _=>?_) (fun _ _=>?_))
 all_goals
  intro h;obtain rfl:=Option.some.inj h
  first | (simp (maxSteps:=10000000) (implicitDefEqProofs:=false) (disch:=first | with_reducible assumption | exact rfl | exact im_ _ | (fail_if_success show Kn _ _);omega) only [bs,rs90,ls90Z,Nat.reduceAdd,↓reduceIte,zah,zab a80,zgi,hg];first | (exact ⟨(rfl:Ex.normal=Ex.normal),by (try simp only [List.length_set,zbv, *]);kernel_rfl⟩) | (refine ⟨(rfl:Ex.exit 0=Ex.exit 0),rfl, ?_⟩;show _=_;kernel_rfl)) | (exfalso;omega)
theorem ydv  (x1:Int) (x2:Int) (x3:Int) (o0:(List Int)) (o2:(List Int)) (r:((List Int)×(List Int))) (h:zci x1 x2 x3 o0 o2=some r):callW Try.prog A0 90 [.agg [.fn (.func 42) [.ptr 0 0,.ptr 1 0],sw68 2 o2.length],iv x1,iv x2,iv x3] [.var [.p (.lst false o0.length (encL zad o0))],.var [.ref 2 0 o2.length 1],.arr (encL zad o2)]=some (.p (.tup []),[.var [.p (.lst false r.1.length (encL zad r.1))],.var [.ref 2 0 r.2.length 1],.arr (encL zad r.2)]):=by
 refine zax (fn:=Try.f90) (c:=zae Try.f90) 19 rfl rfl (by kernel_rfl) (by kernel_rfl) (by kernel_rfl) ?_
 unfold zci at h;unfold zae Try.f90;simp only [ens]
 revert h
 refine gB fun o h11=>?_
 intro h
 simp (maxSteps:=10000000) (implicitDefEqProofs:=false) (disch:=first | with_reducible assumption | exact rfl | exact im_ _ | (fail_if_success show Kn _ _);omega) only [bs,rs90,ls90Z,Nat.reduceAdd,↓reduceIte,zah,zab a80,zgi]
 refine Wp.ctx (fun x=>za6 _ (x)) (z2n x1 x2 x3 o0 ((0:Int),o2) _ o (by kernel_rfl) h11) ?_
 intro e st hq
 cases o with
 | next _=>(first | cases h | (simp at h))
 | jmp n_ s_ =>
  obtain ⟨rfl,rfl,hq⟩:=hq
  obtain ⟨s8_12,y2_12⟩:=s_
  obtain rfl:=Option.some.inj h
  simp (maxSteps:=10000000) (implicitDefEqProofs:=false) (disch:=first | with_reducible assumption | exact rfl | exact im_ _ | (fail_if_success show Kn _ _);omega) only [bs,rs90,ls90Z,Nat.reduceAdd,↓reduceIte,zah,zab a80,zgi]
  exact ⟨by simp,hq⟩
 | ret _=>(first | cases h | (simp at h))
def ls84Z:=@zjy
theorem z2x {a1 a3:List Int}{a4 a5 a6:Int}{r9001:((List Int)×(List Int))}{X3:Ob} (h9002:zci a4 a5 a6 a3 a1=some r9001):callD (callW Try.prog A0) A0 [.var [.p (.lst false a3.length (encL zad a3))],.var [.ref 2 0 a1.length 1],.arr (encL zad a1),X3] 90 [.agg [.fn (.func 42) [.ptr 0 0,.ptr 1 0],sw68 2 a1.length],iv a4,iv a5,iv a6]=some (.p (.tup []),some [.var [.p (.lst false r9001.1.length (encL zad r9001.1))],.var [.ref 2 0 r9001.2.length 1],.arr (encL zad r9001.2),X3]):=(zbd (dsw:=[.agg [.fn (.func 42) [.ptr 0 0,.ptr 1 0],sw68 2 a1.length],iv a4,iv a5,iv a6]) (ds':=[.agg [.fn (.func 42) [.ptr 0 0,.ptr 1 0],sw68 2 a1.length],iv a4,iv a5,iv a6]) (i:=0) (ids:=[1,2]) (o:=.var [.p (.lst false a3.length (encL zad a3))]) (os:=[.var [.ref 2 0 a1.length 1],.arr (encL zad a1)]) (o':=.var [.p (.lst false r9001.1.length (encL zad r9001.1))]) (os':=[.var [.ref 2 0 r9001.2.length 1],.arr (encL zad r9001.2)]) rfl (by kernel_rfl) (by kernel_rfl) (by kernel_rfl) (by kernel_rfl) (by kernel_rfl) (ydv _ _ _ _ _ _ h9002) rfl rfl).trans (by kernel_rfl)
noncomputable def yal:Code:=(zak (zae Try.f84)).getD 0 .skip
def z3g:List Ghost:=[.keep [2,4,8,9]]
noncomputable def zu4 (s2:Int):(Int×Int×(List Int)×(List Int))→St:=fun (s8,s9,w0_0,y2)=>⟨[J,J,iv s2,J,.ptr 3 0,J,J,J,iv s8,iv s9,J,J,J,J,J,J,J,J,J,J,J,J,J,J,J,J,J,J,J,J,J,J,J,J,J,J,J,J,J,J,J,J,J,J,J,J,J,J,J,J,J,J,J],[.var [.p (.lst false w0_0.length (encL zad w0_0))],.var [.ref 2 0 y2.length 1],.arr (encL zad y2),.var [.fn (.func 42) [.ptr 0 0,.ptr 1 0],sw68 2 y2.length]],3⟩
theorem z3e (s2:Int):∀ s st o,zaj z3g st=some (zu4 s2 s)→iter (zdy s2) s=some o →
    Wp (evW Try.prog A0 84 (.loop yal) st) (OutQ (zu4 s2) z3g (fun n s st=>n=0∧zaj [.keep [2,4,8,9]] st=some (zu4 s2 s)) (fun r st=>zap Try.prog A0 84 Try.f84 st=some (.p (.tup []),[.var [.p (.lst false r.1.length (encL zad r.1))],.var [.ref 2 0 r.2.length 1],.arr (encL zad r.2)])) o):=by
 refine Wp.iter ?_
 intro s st o hg h
 obtain ⟨s8,s9,w0_0,y2⟩:=s
 unfold zdy at h;unfold z3g zu4 at hg ⊢
 (try simp only [] at h hg)
 unfold yal zae Try.f84;simp only [zak,ens]
 revert h
 repeat' first | (with_reducible refine gB fun _ _=>?_) | (with_reducible refine gW fun _=>?_) | (with_reducible refine gI (fun _ _=>?_) (fun _ _=>?_))
 all_goals
  intro h;obtain rfl:=Option.some.inj h
  first | (simp (maxSteps:=10000000) (implicitDefEqProofs:=false) (disch:=first | with_reducible assumption | exact rfl | exact im_ _ | (fail_if_success show Kn _ _);omega) only [bs,rs84,ls84Z,Nat.reduceAdd,↓reduceIte,zah,zag a84 z84,z2x,hg];first | (exact ⟨(rfl:Ex.exit 0=Ex.exit 0),rfl,by kernel_rfl⟩) | (exact ⟨(rfl:Ex.normal=Ex.normal),by (try simp only [List.length_set,zbv, *]);kernel_rfl⟩)) | (exfalso;omega)
theorem ycz  (x1:Int) (x2:Int) (x3:Int) (o0:(List Int)) (o2:(List Int)) (r:((List Int)×(List Int))) (h:zdo x1 x2 x3 o0 o2=some r):callW Try.prog A0 84 [.agg [.fn (.func 42) [.ptr 0 0,.ptr 1 0],sw68 2 o2.length],iv x1,iv x2,iv x3] [.var [.p (.lst false o0.length (encL zad o0))],.var [.ref 2 0 o2.length 1],.arr (encL zad o2)]=some (.p (.tup []),[.var [.p (.lst false r.1.length (encL zad r.1))],.var [.ref 2 0 r.2.length 1],.arr (encL zad r.2)]):=by
 refine zax (fn:=Try.f84) (c:=zae Try.f84) 49 rfl rfl (by kernel_rfl) (by kernel_rfl) (by kernel_rfl) ?_
 unfold zdo at h;unfold zae Try.f84;simp only [ens]
 revert h
 refine gB fun o h11=>?_
 intro h
 simp (maxSteps:=10000000) (implicitDefEqProofs:=false) (disch:=first | with_reducible assumption | exact rfl | exact im_ _ | (fail_if_success show Kn _ _);omega) only [bs,rs84,ls84Z,Nat.reduceAdd,↓reduceIte,zah,zag a84 z84,z2x]
 refine Wp.ctx (fun x=>seqW _ _ _ _ (za6 _ (x))) (z3e x2 (w64 (x2 - x1),w64 (x3 - x2),o0,o2) _ o (by kernel_rfl) h11) ?_
 intro e st hq
 cases o with
 | next _=>(first | cases h | (simp at h))
 | jmp n_ s_ =>
  obtain ⟨rfl,rfl,hq⟩:=hq
  obtain ⟨s8_12,s9_12,w0_0_12,y2_12⟩:=s_
  unfold zu4 at hq
  (try simp only [] at h hq)
  revert h
  repeat' first | (with_reducible refine gB fun _ _=>?_) | (with_reducible refine gW fun _=>?_)
  intro h;obtain rfl:=Option.some.inj h
  simp (maxSteps:=10000000) (implicitDefEqProofs:=false) (disch:=first | with_reducible assumption | exact rfl | exact im_ _ | (fail_if_success show Kn _ _);omega) only [bs,rs84,ls84Z,Nat.reduceAdd,↓reduceIte,zah,zag a84 z84,z2x,hq]
  refine ⟨by simp, ?_⟩;show _=_;(try simp only [List.length_set,zbv, *]);kernel_rfl
 | ret _=>(first | cases h | (simp at h))
def ls74Z:=And.intro @zsy (And.intro @z5u (And.intro @zix (And.intro @zhv (And.intro @zft (And.intro @zfg (@zjy))))))
theorem zjf {rec:Int→Int→Int→(List Int)→(List Int)→Option ((List Int)×(List Int))} (hrec:∀ x1 x2 x3 o0 o2 r,rec x1 x2 x3 o0 o2=some r→callW Try.prog A0 74 [.agg [.fn (.func 42) [.ptr 0 0,.ptr 1 0],sw68 2 o2.length],iv x1,iv x2,iv x3] [.var [.p (.lst false o0.length (encL zad o0))],.var [.ref 2 0 o2.length 1],.arr (encL zad o2)]=some (.p (.tup []),[.var [.p (.lst false r.1.length (encL zad r.1))],.var [.ref 2 0 r.2.length 1],.arr (encL zad r.2)])) {a1 a3:List Int}{n4:Nat}{a5 a6 a7:Int}{r9001:((List Int)×(List Int))}{X3:Ob} (k0:n4=a1.length) (h9002:rec a5 a6 a7 a3 a1=some r9001):callD (callW Try.prog A0) A0 [.var [.p (.lst false a3.length (encL zad a3))],.var [.ref 2 0 a1.length 1],.arr (encL zad a1),X3] 74 [.agg [.fn (.func 42) [.ptr 0 0,.ptr 1 0],sw68 2 n4],iv a5,iv a6,iv a7]=some (.p (.tup []),some [.var [.p (.lst false r9001.1.length (encL zad r9001.1))],.var [.ref 2 0 r9001.2.length 1],.arr (encL zad r9001.2),X3]):=by
  rw [show n4=a1.length from by omega];exact (zbd (dsw:=[.agg [.fn (.func 42) [.ptr 0 0,.ptr 1 0],sw68 2 a1.length],iv a5,iv a6,iv a7]) (ds':=[.agg [.fn (.func 42) [.ptr 0 0,.ptr 1 0],sw68 2 a1.length],iv a5,iv a6,iv a7]) (i:=0) (ids:=[1,2]) (o:=.var [.p (.lst false a3.length (encL zad a3))]) (os:=[.var [.ref 2 0 a1.length 1],.arr (encL zad a1)]) (o':=.var [.p (.lst false r9001.1.length (encL zad r9001.1))]) (os':=[.var [.ref 2 0 r9001.2.length 1],.arr (encL zad r9001.2)]) rfl (by kernel_rfl) (by kernel_rfl) (by kernel_rfl) (by kernel_rfl) (by kernel_rfl) (hrec _ _ _ _ _ _ h9002) rfl rfl).trans (by kernel_rfl)
theorem zjc {a1 a3:List Int}{a4 a5 a6:Int}{r9001:((List Int)×(List Int))}{X3:Ob} (h9002:zdo a4 a5 a6 a3 a1=some r9001):callD (callW Try.prog A0) A0 [.var [.p (.lst false a3.length (encL zad a3))],.var [.ref 2 0 a1.length 1],.arr (encL zad a1),X3] 84 [.agg [.fn (.func 42) [.ptr 0 0,.ptr 1 0],sw68 2 a1.length],iv a4,iv a5,iv a6]=some (.p (.tup []),some [.var [.p (.lst false r9001.1.length (encL zad r9001.1))],.var [.ref 2 0 r9001.2.length 1],.arr (encL zad r9001.2),X3]):=(zbd (dsw:=[.agg [.fn (.func 42) [.ptr 0 0,.ptr 1 0],sw68 2 a1.length],iv a4,iv a5,iv a6]) (ds':=[.agg [.fn (.func 42) [.ptr 0 0,.ptr 1 0],sw68 2 a1.length],iv a4,iv a5,iv a6]) (i:=0) (ids:=[1,2]) (o:=.var [.p (.lst false a3.length (encL zad a3))]) (os:=[.var [.ref 2 0 a1.length 1],.arr (encL zad a1)]) (o':=.var [.p (.lst false r9001.1.length (encL zad r9001.1))]) (os':=[.var [.ref 2 0 r9001.2.length 1],.arr (encL zad r9001.2)]) rfl (by kernel_rfl) (by kernel_rfl) (by kernel_rfl) (by kernel_rfl) (by kernel_rfl) (ycz _ _ _ _ _ _ h9002) rfl rfl).trans (by kernel_rfl)
theorem zi8 {rec:Int→Int→Int→(List Int)→(List Int)→Option ((List Int)×(List Int))} (hrec:∀ x1 x2 x3 o0 o2 r,rec x1 x2 x3 o0 o2=some r→callW Try.prog A0 74 [.agg [.fn (.func 42) [.ptr 0 0,.ptr 1 0],sw68 2 o2.length],iv x1,iv x2,iv x3] [.var [.p (.lst false o0.length (encL zad o0))],.var [.ref 2 0 o2.length 1],.arr (encL zad o2)]=some (.p (.tup []),[.var [.p (.lst false r.1.length (encL zad r.1))],.var [.ref 2 0 r.2.length 1],.arr (encL zad r.2)])) {a1 a3:List Int}{a4 a5 a6:Int}{r9001:((List Int)×(List Int))}{X3:Ob} (h9002:rec a4 a5 a6 a3 a1=some r9001):callD (callW Try.prog A0) A0 [.var [.p (.lst false a3.length (encL zad a3))],.var [.ref 2 0 a1.length 1],.arr (encL zad a1),X3] 74 [.agg [.fn (.func 42) [.ptr 0 0,.ptr 1 0],sw68 2 a1.length],iv a4,iv a5,iv a6]=some (.p (.tup []),some [.var [.p (.lst false r9001.1.length (encL zad r9001.1))],.var [.ref 2 0 r9001.2.length 1],.arr (encL zad r9001.2),X3]):=(zbd (dsw:=[.agg [.fn (.func 42) [.ptr 0 0,.ptr 1 0],sw68 2 a1.length],iv a4,iv a5,iv a6]) (ds':=[.agg [.fn (.func 42) [.ptr 0 0,.ptr 1 0],sw68 2 a1.length],iv a4,iv a5,iv a6]) (i:=0) (ids:=[1,2]) (o:=.var [.p (.lst false a3.length (encL zad a3))]) (os:=[.var [.ref 2 0 a1.length 1],.arr (encL zad a1)]) (o':=.var [.p (.lst false r9001.1.length (encL zad r9001.1))]) (os':=[.var [.ref 2 0 r9001.2.length 1],.arr (encL zad r9001.2)]) rfl (by kernel_rfl) (by kernel_rfl) (by kernel_rfl) (by kernel_rfl) (by kernel_rfl) (hrec _ _ _ _ _ _ h9002) rfl rfl).trans (by kernel_rfl)
noncomputable def ya6:Code:=(zak (zae Try.f74)).getD 4 .skip
def z4l:List Ghost:=[.keep [1,2,3,4,16,17,18,19,20]]
noncomputable def zqs (s1:Int) (s2:Int) (s3:Int) (s16:Int) (s17:Int) (s20:Int) (w0_0:(List Int)) (y2:(List Int)):(Int×Int)→St:=fun (s18,s19)=>⟨[J,iv s1,iv s2,iv s3,.ptr 3 0,J,J,J,J,J,J,J,J,J,J,J,iv s16,iv s17,iv s18,iv s19,iv s20,J,J,J,J,J,J,J,J,J,J,J,J,J,J,J,J,J,J,J,J,J,J,J,J,J,J,J,J,J,J,J,J,J,J,J,J,J,J,J,J,J,J,J,J,J,J,J,J,J,J,J,J,J,J,J,J,J,J,J,J,J,J,J,J,J,J,J,J,J,J,J,J,J,J,J,J,J,J,J,J,J,J,J,J,J,J,J,J,J,J,J,J,J,J,J,J,J,J,J,J,J,J,J,J,J,J,J,J,J,J,J,J,J,J,J,J,J,J,J,J,J,J,J,J,J,J,J,J,J,J,J,J,J,J,J,J,J,J,J,J,J,J,J,J,J,J,J,J,J,J,J,J,J,J,J,J],[.var [.p (.lst false w0_0.length (encL zad w0_0))],.var [.ref 2 0 y2.length 1],.arr (encL zad y2),.var [.fn (.func 42) [.ptr 0 0,.ptr 1 0],sw68 2 y2.length]],3⟩
theorem ztm {rec:Int→Int→Int→(List Int)→(List Int)→Option ((List Int)×(List Int))} (hrec:∀ x1 x2 x3 o0 o2 r,rec x1 x2 x3 o0 o2=some r→callW Try.prog A0 74 [.agg [.fn (.func 42) [.ptr 0 0,.ptr 1 0],sw68 2 o2.length],iv x1,iv x2,iv x3] [.var [.p (.lst false o0.length (encL zad o0))],.var [.ref 2 0 o2.length 1],.arr (encL zad o2)]=some (.p (.tup []),[.var [.p (.lst false r.1.length (encL zad r.1))],.var [.ref 2 0 r.2.length 1],.arr (encL zad r.2)])) (s1:Int) (s2:Int) (s3:Int) (s16:Int) (s17:Int) (s20:Int) (w0_0:(List Int)) (y2:(List Int)):∀ s st o,zaj z4l st=some (zqs s1 s2 s3 s16 s17 s20 w0_0 y2 s)→iter (zb4 rec s1 s2 s3 s16 s17 s20 w0_0 y2) s=some o →
    Wp (evW Try.prog A0 74 (.loop ya6) st) (OutQ (zqs s1 s2 s3 s16 s17 s20 w0_0 y2) z4l (fun n s st=>n=8∧zaj [.keep [1,2,3,4,16,17,18,19,20]] st=some (zqs s1 s2 s3 s16 s17 s20 w0_0 y2 s)) (fun r st=>zap Try.prog A0 74 Try.f74 st=some (.p (.tup []),[.var [.p (.lst false r.1.length (encL zad r.1))],.var [.ref 2 0 r.2.length 1],.arr (encL zad r.2)])) o):=by
 refine Wp.iter ?_
 intro s st o hg h
 obtain ⟨s18,s19⟩:=s
 unfold zb4 at h;unfold z4l zqs at hg ⊢
 (try simp only [] at h hg)
 unfold ya6 zae Try.f74;simp only [zak,ens]
 revert h
 repeat' first | (with_reducible refine gB fun _ _=>?_) | (with_reducible refine gT (fun _ _=>?_) (fun _ _=>?_)) | (with_reducible refine gI (fun _ _=>?_) (fun _ _=>?_))
 all_goals
  intro h;obtain rfl:=Option.some.inj h
  first | (simp (maxSteps:=10000000) (implicitDefEqProofs:=false) (disch:=first | with_reducible assumption | exact rfl | exact im_ _ | (fail_if_success show Kn _ _);omega) only [bs,rs74,ls74Z,Nat.reduceAdd,↓reduceIte,zbu,zah,zag a84 z84,zab a64,zab a80,zg6,zgi,zjf hrec,zi8 hrec,zjc,hg];first | (exact ⟨(rfl:Ex.normal=Ex.normal),by kernel_rfl⟩) | (exact ⟨(rfl:Ex.exit 8=Ex.exit 8),rfl,by kernel_rfl⟩)) | (exfalso;omega)
noncomputable def yaj:Code:=(zak (zae Try.f74)).getD 3 .skip
def z0t:List Ghost:=[.keep [4,12,15]]
noncomputable def z4y (s12:Int) (w0_0:(List Int)):(Int×(List Int))→St:=fun (s15,y2)=>⟨[J,J,J,J,.ptr 3 0,J,J,J,J,J,J,J,iv s12,J,J,iv s15,J,J,J,J,J,J,J,J,J,J,J,J,J,J,J,J,J,J,J,J,J,J,J,J,J,J,J,J,J,J,J,J,J,J,J,J,J,J,J,J,J,J,J,J,J,J,J,J,J,J,J,J,J,J,J,J,J,J,J,J,J,J,J,J,J,J,J,J,J,J,J,J,J,J,J,J,J,J,J,J,J,J,J,J,J,J,J,J,J,J,J,J,J,J,J,J,J,J,J,J,J,J,J,J,J,J,J,J,J,J,J,J,J,J,J,J,J,J,J,J,J,J,J,J,J,J,J,J,J,J,J,J,J,J,J,J,J,J,J,J,J,J,J,J,J,J,J,J,J,J,J,J,J,J,J,J,J,J,J,J,J],[.var [.p (.lst false w0_0.length (encL zad w0_0))],.var [.ref 2 0 y2.length 1],.arr (encL zad y2),.var [.fn (.func 42) [.ptr 0 0,.ptr 1 0],sw68 2 y2.length]],3⟩
theorem z13 {rec:Int→Int→Int→(List Int)→(List Int)→Option ((List Int)×(List Int))} (hrec:∀ x1 x2 x3 o0 o2 r,rec x1 x2 x3 o0 o2=some r→callW Try.prog A0 74 [.agg [.fn (.func 42) [.ptr 0 0,.ptr 1 0],sw68 2 o2.length],iv x1,iv x2,iv x3] [.var [.p (.lst false o0.length (encL zad o0))],.var [.ref 2 0 o2.length 1],.arr (encL zad o2)]=some (.p (.tup []),[.var [.p (.lst false r.1.length (encL zad r.1))],.var [.ref 2 0 r.2.length 1],.arr (encL zad r.2)])) (s12:Int) (w0_0:(List Int)):∀ s st o,zaj z0t st=some (z4y s12 w0_0 s)→iter (zc9 rec s12 w0_0) s=some o →
    Wp (evW Try.prog A0 74 (.loop yaj) st) (OutQ (z4y s12 w0_0) z0t (fun n s st=>n=6∧(match s with | (s15,y2)=>zap Try.prog A0 74 Try.f74 st=some (.p (.tup []),[.var [.p (.lst false ((w0_0,y2).1).length (encL zad ((w0_0,y2).1)))],.var [.ref 2 0 (((w0_0,y2).2).length) 1],.arr (encL zad ((w0_0,y2).2))]))) (fun r st=>zap Try.prog A0 74 Try.f74 st=some (.p (.tup []),[.var [.p (.lst false r.1.length (encL zad r.1))],.var [.ref 2 0 r.2.length 1],.arr (encL zad r.2)])) o):=by
 refine Wp.iter ?_
 intro s st o hg h
 obtain ⟨s15,y2⟩:=s
 unfold zc9 at h;unfold z0t z4y at hg ⊢
 (try simp only [] at h hg)
 unfold yaj zae Try.f74;simp only [zak,ens]
 revert h
 repeat' first | (with_reducible refine gB fun _ _=>?_) | (with_reducible refine gW fun _=>?_) | (with_reducible refine gI (fun _ _=>?_) (fun _ _=>?_))
 all_goals
  intro h;obtain rfl:=Option.some.inj h
  first | (simp (maxSteps:=10000000) (implicitDefEqProofs:=false) (disch:=first | with_reducible assumption | exact rfl | exact im_ _ | (fail_if_success show Kn _ _);omega) only [bs,rs74,ls74Z,Nat.reduceAdd,↓reduceIte,zbu,zah,zag a84 z84,zab a64,zab a80,zg6,zgi,zjf hrec,zi8 hrec,zjc,hg];first | (exact ⟨(rfl:Ex.normal=Ex.normal),by (try simp only [List.length_set,zbv, *]);kernel_rfl⟩) | (refine ⟨(rfl:Ex.exit 6=Ex.exit 6),rfl, ?_⟩;show _=_;kernel_rfl)) | (exfalso;omega)
noncomputable def ybb:Code:=(zak (zae Try.f74)).getD 2 .skip
def z26:List Ghost:=[.keep [2,4,12,13]]
noncomputable def zup (s2:Int) (w0_0:(List Int)) (y2:(List Int)):(Int×Int)→St:=fun (s12,s13)=>⟨[J,J,iv s2,J,.ptr 3 0,J,J,J,J,J,J,J,iv s12,iv s13,J,J,J,J,J,J,J,J,J,J,J,J,J,J,J,J,J,J,J,J,J,J,J,J,J,J,J,J,J,J,J,J,J,J,J,J,J,J,J,J,J,J,J,J,J,J,J,J,J,J,J,J,J,J,J,J,J,J,J,J,J,J,J,J,J,J,J,J,J,J,J,J,J,J,J,J,J,J,J,J,J,J,J,J,J,J,J,J,J,J,J,J,J,J,J,J,J,J,J,J,J,J,J,J,J,J,J,J,J,J,J,J,J,J,J,J,J,J,J,J,J,J,J,J,J,J,J,J,J,J,J,J,J,J,J,J,J,J,J,J,J,J,J,J,J,J,J,J,J,J,J,J,J,J,J,J,J,J,J,J,J,J,J],[.var [.p (.lst false w0_0.length (encL zad w0_0))],.var [.ref 2 0 y2.length 1],.arr (encL zad y2),.var [.fn (.func 42) [.ptr 0 0,.ptr 1 0],sw68 2 y2.length]],3⟩
theorem z5a {rec:Int→Int→Int→(List Int)→(List Int)→Option ((List Int)×(List Int))} (hrec:∀ x1 x2 x3 o0 o2 r,rec x1 x2 x3 o0 o2=some r→callW Try.prog A0 74 [.agg [.fn (.func 42) [.ptr 0 0,.ptr 1 0],sw68 2 o2.length],iv x1,iv x2,iv x3] [.var [.p (.lst false o0.length (encL zad o0))],.var [.ref 2 0 o2.length 1],.arr (encL zad o2)]=some (.p (.tup []),[.var [.p (.lst false r.1.length (encL zad r.1))],.var [.ref 2 0 r.2.length 1],.arr (encL zad r.2)])) (s2:Int) (w0_0:(List Int)) (y2:(List Int)):∀ s st o,zaj z26 st=some (zup s2 w0_0 y2 s)→iter (zda rec s2 w0_0 y2) s=some o →
    Wp (evW Try.prog A0 74 (.loop ybb) st) (OutQ (zup s2 w0_0 y2) z26 (fun n s st=>n=4∧zaj [.keep [2,4,12,13]] st=some (zup s2 w0_0 y2 s)) (fun r st=>zap Try.prog A0 74 Try.f74 st=some (.p (.tup []),[.var [.p (.lst false r.1.length (encL zad r.1))],.var [.ref 2 0 r.2.length 1],.arr (encL zad r.2)])) o):=by
 refine Wp.iter ?_
 intro s st o hg h
 obtain ⟨s12,s13⟩:=s
 unfold zda at h;unfold z26 zup at hg ⊢
 (try simp only [] at h hg)
 unfold ybb zae Try.f74;simp only [zak,ens]
 revert h
 repeat' first | (with_reducible refine gB fun _ _=>?_) | (with_reducible refine gT (fun _ _=>?_) (fun _ _=>?_)) | (with_reducible refine gI (fun _ _=>?_) (fun _ _=>?_))
 all_goals
  intro h;obtain rfl:=Option.some.inj h
  first | (simp (maxSteps:=10000000) (implicitDefEqProofs:=false) (disch:=first | with_reducible assumption | exact rfl | exact im_ _ | (fail_if_success show Kn _ _);omega) only [bs,rs74,ls74Z,Nat.reduceAdd,↓reduceIte,zbu,zah,zag a84 z84,zab a64,zab a80,zg6,zgi,zjf hrec,zi8 hrec,zjc,hg];first | (exact ⟨(rfl:Ex.normal=Ex.normal),by kernel_rfl⟩) | (exact ⟨(rfl:Ex.exit 4=Ex.exit 4),rfl,by kernel_rfl⟩)) | (exfalso;omega)
noncomputable def yap:Code:=(zak (zae Try.f74)).getD 1 .skip
def z33:List Ghost:=[.keep [4,8,11]]
noncomputable def z1j (s8:Int) (w0_0:(List Int)):(Int×(List Int))→St:=fun (s11,y2)=>⟨[J,J,J,J,.ptr 3 0,J,J,J,iv s8,J,J,iv s11,J,J,J,J,J,J,J,J,J,J,J,J,J,J,J,J,J,J,J,J,J,J,J,J,J,J,J,J,J,J,J,J,J,J,J,J,J,J,J,J,J,J,J,J,J,J,J,J,J,J,J,J,J,J,J,J,J,J,J,J,J,J,J,J,J,J,J,J,J,J,J,J,J,J,J,J,J,J,J,J,J,J,J,J,J,J,J,J,J,J,J,J,J,J,J,J,J,J,J,J,J,J,J,J,J,J,J,J,J,J,J,J,J,J,J,J,J,J,J,J,J,J,J,J,J,J,J,J,J,J,J,J,J,J,J,J,J,J,J,J,J,J,J,J,J,J,J,J,J,J,J,J,J,J,J,J,J,J,J,J,J,J,J,J,J],[.var [.p (.lst false w0_0.length (encL zad w0_0))],.var [.ref 2 0 y2.length 1],.arr (encL zad y2),.var [.fn (.func 42) [.ptr 0 0,.ptr 1 0],sw68 2 y2.length]],3⟩
theorem z4e {rec:Int→Int→Int→(List Int)→(List Int)→Option ((List Int)×(List Int))} (hrec:∀ x1 x2 x3 o0 o2 r,rec x1 x2 x3 o0 o2=some r→callW Try.prog A0 74 [.agg [.fn (.func 42) [.ptr 0 0,.ptr 1 0],sw68 2 o2.length],iv x1,iv x2,iv x3] [.var [.p (.lst false o0.length (encL zad o0))],.var [.ref 2 0 o2.length 1],.arr (encL zad o2)]=some (.p (.tup []),[.var [.p (.lst false r.1.length (encL zad r.1))],.var [.ref 2 0 r.2.length 1],.arr (encL zad r.2)])) (s8:Int) (w0_0:(List Int)):∀ s st o,zaj z33 st=some (z1j s8 w0_0 s)→iter (zdd rec s8 w0_0) s=some o →
    Wp (evW Try.prog A0 74 (.loop yap) st) (OutQ (z1j s8 w0_0) z33 (fun n s st=>n=2∧(match s with | (s11,y2)=>zap Try.prog A0 74 Try.f74 st=some (.p (.tup []),[.var [.p (.lst false ((w0_0,y2).1).length (encL zad ((w0_0,y2).1)))],.var [.ref 2 0 (((w0_0,y2).2).length) 1],.arr (encL zad ((w0_0,y2).2))]))) (fun r st=>zap Try.prog A0 74 Try.f74 st=some (.p (.tup []),[.var [.p (.lst false r.1.length (encL zad r.1))],.var [.ref 2 0 r.2.length 1],.arr (encL zad r.2)])) o):=by
 refine Wp.iter ?_
 intro s st o hg h
 obtain ⟨s11,y2⟩:=s
 unfold zdd at h;unfold z33 z1j at hg ⊢
 (try simp only [] at h hg)
 unfold yap zae Try.f74;simp only [zak,ens]
 revert h
 repeat' first | (with_reducible refine gB fun _ _=>?_) | (with_reducible refine gW fun _=>?_) | (with_reducible refine gI (fun _ _=>?_) (fun _ _=>?_))
 all_goals
  intro h;obtain rfl:=Option.some.inj h
  first | (simp (maxSteps:=10000000) (implicitDefEqProofs:=false) (disch:=first | with_reducible assumption | exact rfl | exact im_ _ | (fail_if_success show Kn _ _);omega) only [bs,rs74,ls74Z,Nat.reduceAdd,↓reduceIte,zbu,zah,zag a84 z84,zab a64,zab a80,zg6,zgi,zjf hrec,zi8 hrec,zjc,hg];first | (exact ⟨(rfl:Ex.normal=Ex.normal),by (try simp only [List.length_set,zbv, *]);kernel_rfl⟩) | (refine ⟨(rfl:Ex.exit 2=Ex.exit 2),rfl, ?_⟩;show _=_;kernel_rfl)) | (exfalso;omega)
noncomputable def yax:Code:=(zak (zae Try.f74)).getD 0 .skip
def z08:List Ghost:=[.keep [1,4,8,9]]
noncomputable def zt4 (s1:Int) (w0_0:(List Int)) (y2:(List Int)):(Int×Int)→St:=fun (s8,s9)=>⟨[J,iv s1,J,J,.ptr 3 0,J,J,J,iv s8,iv s9,J,J,J,J,J,J,J,J,J,J,J,J,J,J,J,J,J,J,J,J,J,J,J,J,J,J,J,J,J,J,J,J,J,J,J,J,J,J,J,J,J,J,J,J,J,J,J,J,J,J,J,J,J,J,J,J,J,J,J,J,J,J,J,J,J,J,J,J,J,J,J,J,J,J,J,J,J,J,J,J,J,J,J,J,J,J,J,J,J,J,J,J,J,J,J,J,J,J,J,J,J,J,J,J,J,J,J,J,J,J,J,J,J,J,J,J,J,J,J,J,J,J,J,J,J,J,J,J,J,J,J,J,J,J,J,J,J,J,J,J,J,J,J,J,J,J,J,J,J,J,J,J,J,J,J,J,J,J,J,J,J,J,J,J,J,J,J],[.var [.p (.lst false w0_0.length (encL zad w0_0))],.var [.ref 2 0 y2.length 1],.arr (encL zad y2),.var [.fn (.func 42) [.ptr 0 0,.ptr 1 0],sw68 2 y2.length]],3⟩
theorem z3b {rec:Int→Int→Int→(List Int)→(List Int)→Option ((List Int)×(List Int))} (hrec:∀ x1 x2 x3 o0 o2 r,rec x1 x2 x3 o0 o2=some r→callW Try.prog A0 74 [.agg [.fn (.func 42) [.ptr 0 0,.ptr 1 0],sw68 2 o2.length],iv x1,iv x2,iv x3] [.var [.p (.lst false o0.length (encL zad o0))],.var [.ref 2 0 o2.length 1],.arr (encL zad o2)]=some (.p (.tup []),[.var [.p (.lst false r.1.length (encL zad r.1))],.var [.ref 2 0 r.2.length 1],.arr (encL zad r.2)])) (s1:Int) (w0_0:(List Int)) (y2:(List Int)):∀ s st o,zaj z08 st=some (zt4 s1 w0_0 y2 s)→iter (zdb rec s1 w0_0 y2) s=some o →
    Wp (evW Try.prog A0 74 (.loop yax) st) (OutQ (zt4 s1 w0_0 y2) z08 (fun n s st=>n=0∧zaj [.keep [1,4,8,9]] st=some (zt4 s1 w0_0 y2 s)) (fun r st=>zap Try.prog A0 74 Try.f74 st=some (.p (.tup []),[.var [.p (.lst false r.1.length (encL zad r.1))],.var [.ref 2 0 r.2.length 1],.arr (encL zad r.2)])) o):=by
 refine Wp.iter ?_
 intro s st o hg h
 obtain ⟨s8,s9⟩:=s
 unfold zdb at h;unfold z08 zt4 at hg ⊢
 (try simp only [] at h hg)
 unfold yax zae Try.f74;simp only [zak,ens]
 revert h
 repeat' first | (with_reducible refine gB fun _ _=>?_) | (with_reducible refine gT (fun _ _=>?_) (fun _ _=>?_)) | (with_reducible refine gI (fun _ _=>?_) (fun _ _=>?_))
 all_goals
  intro h;obtain rfl:=Option.some.inj h
  first | (simp (maxSteps:=10000000) (implicitDefEqProofs:=false) (disch:=first | with_reducible assumption | exact rfl | exact im_ _ | (fail_if_success show Kn _ _);omega) only [bs,rs74,ls74Z,Nat.reduceAdd,↓reduceIte,zbu,zah,zag a84 z84,zab a64,zab a80,zg6,zgi,zjf hrec,zi8 hrec,zjc,hg];first | (exact ⟨(rfl:Ex.normal=Ex.normal),by kernel_rfl⟩) | (exact ⟨(rfl:Ex.exit 0=Ex.exit 0),rfl,by kernel_rfl⟩)) | (exfalso;omega)
theorem ydt {rec:Int→Int→Int→(List Int)→(List Int)→Option ((List Int)×(List Int))} (hrec:∀ x1 x2 x3 o0 o2 r,rec x1 x2 x3 o0 o2=some r→callW Try.prog A0 74 [.agg [.fn (.func 42) [.ptr 0 0,.ptr 1 0],sw68 2 o2.length],iv x1,iv x2,iv x3] [.var [.p (.lst false o0.length (encL zad o0))],.var [.ref 2 0 o2.length 1],.arr (encL zad o2)]=some (.p (.tup []),[.var [.p (.lst false r.1.length (encL zad r.1))],.var [.ref 2 0 r.2.length 1],.arr (encL zad r.2)]))  (x1:Int) (x2:Int) (x3:Int) (o0:(List Int)) (o2:(List Int)) (r:((List Int)×(List Int))) (h:sort_symMerge_funcZ.body rec x1 x2 x3 o0 o2=some r):callW Try.prog A0 74 [.agg [.fn (.func 42) [.ptr 0 0,.ptr 1 0],sw68 2 o2.length],iv x1,iv x2,iv x3] [.var [.p (.lst false o0.length (encL zad o0))],.var [.ref 2 0 o2.length 1],.arr (encL zad o2)]=some (.p (.tup []),[.var [.p (.lst false r.1.length (encL zad r.1))],.var [.ref 2 0 r.2.length 1],.arr (encL zad r.2)]):=by
 refine zax (fn:=Try.f74) (c:=zae Try.f74) 173 rfl rfl (by kernel_rfl) (by kernel_rfl) (by kernel_rfl) ?_
 unfold sort_symMerge_funcZ.body at h;unfold zae Try.f74;simp only [ens]
 revert h
 refine gI (fun h1 _=>?_) (fun h1 _=>?_)
 ·refine gB fun o h10=>?_
  intro h
  simp (maxSteps:=10000000) (implicitDefEqProofs:=false) (disch:=first | with_reducible assumption | exact rfl | exact im_ _ | (fail_if_success show Kn _ _);omega) only [bs,rs74,ls74Z,Nat.reduceAdd,↓reduceIte,zbu,zah,zag a84 z84,zab a64,zab a80,zg6,zgi,zjf hrec,zi8 hrec,zjc]
  refine Wp.ctx (fun x=>seqW _ _ _ _ (seqW _ _ _ _ (za6 _ (x)))) (z3b hrec x1 o0 o2 (x2,x3) _ o (by kernel_rfl) h10) ?_
  intro e st hq
  cases o with
  | next _=>(first | cases h | (simp at h))
  | jmp n_ s_ =>
   obtain ⟨rfl,rfl,hq⟩:=hq
   obtain ⟨s8_11,s9_11⟩:=s_
   unfold zt4 at hq
   (try simp only [] at h hq)
   revert h
   refine gB fun o h17=>?_
   intro h
   simp (maxSteps:=10000000) (implicitDefEqProofs:=false) (disch:=first | with_reducible assumption | exact rfl | exact im_ _ | (fail_if_success show Kn _ _);omega) only [bs,rs74,ls74Z,Nat.reduceAdd,↓reduceIte,zbu,zah,zag a84 z84,zab a64,zab a80,zg6,zgi,zjf hrec,zi8 hrec,zjc,hq]
   refine Wp.ctx (fun x=>seqW _ _ _ _ (seqW _ _ _ _ (za6 _ (x)))) (z4e hrec s8_11 o0 (x1,o2) _ o (by kernel_rfl) h17) ?_
   intro e st hq
   cases o with
   | next _=>(first | cases h | (simp at h))
   | jmp n_ s_ =>
    obtain ⟨rfl,rfl,hq⟩:=hq
    obtain ⟨s11_18,y2_18⟩:=s_
    obtain rfl:=Option.some.inj h
    simp (maxSteps:=10000000) (implicitDefEqProofs:=false) (disch:=first | with_reducible assumption | exact rfl | exact im_ _ | (fail_if_success show Kn _ _);omega) only [bs,rs74,ls74Z,Nat.reduceAdd,↓reduceIte,zbu,zah,zag a84 z84,zab a64,zab a80,zg6,zgi,zjf hrec,zi8 hrec,zjc]
    exact ⟨by simp,hq⟩
   | ret _=>(first | cases h | (simp at h))
  | ret _=>(first | cases h | (simp at h))
 ·refine gI (fun h19 _=>?_) (fun h19 _=>?_)
  ·refine gB fun o h28=>?_
   intro h
   simp (maxSteps:=10000000) (implicitDefEqProofs:=false) (disch:=first | with_reducible assumption | exact rfl | exact im_ _ | (fail_if_success show Kn _ _);omega) only [bs,rs74,ls74Z,Nat.reduceAdd,↓reduceIte,zbu,zah,zag a84 z84,zab a64,zab a80,zg6,zgi,zjf hrec,zi8 hrec,zjc]
   refine Wp.ctx (fun x=>seqW _ _ _ _ (seqW _ _ _ _ (za6 _ (x)))) (z5a hrec x2 o0 o2 (x1,x2) _ o (by kernel_rfl) h28) ?_
   intro e st hq
   cases o with
   | next _=>(first | cases h | (simp at h))
   | jmp n_ s_ =>
    obtain ⟨rfl,rfl,hq⟩:=hq
    obtain ⟨s12_29,s13_29⟩:=s_
    unfold zup at hq
    (try simp only [] at h hq)
    revert h
    refine gB fun o h35=>?_
    intro h
    simp (maxSteps:=10000000) (implicitDefEqProofs:=false) (disch:=first | with_reducible assumption | exact rfl | exact im_ _ | (fail_if_success show Kn _ _);omega) only [bs,rs74,ls74Z,Nat.reduceAdd,↓reduceIte,zbu,zah,zag a84 z84,zab a64,zab a80,zg6,zgi,zjf hrec,zi8 hrec,zjc,hq]
    refine Wp.ctx (fun x=>seqW _ _ _ _ (seqW _ _ _ _ (za6 _ (x)))) (z13 hrec s12_29 o0 (x2,o2) _ o (by kernel_rfl) h35) ?_
    intro e st hq
    cases o with
    | next _=>(first | cases h | (simp at h))
    | jmp n_ s_ =>
     obtain ⟨rfl,rfl,hq⟩:=hq
     obtain ⟨s15_36,y2_36⟩:=s_
     obtain rfl:=Option.some.inj h
     simp (maxSteps:=10000000) (implicitDefEqProofs:=false) (disch:=first | with_reducible assumption | exact rfl | exact im_ _ | (fail_if_success show Kn _ _);omega) only [bs,rs74,ls74Z,Nat.reduceAdd,↓reduceIte,zbu,zah,zag a84 z84,zab a64,zab a80,zg6,zgi,zjf hrec,zi8 hrec,zjc]
     exact ⟨by simp,hq⟩
    | ret _=>(first | cases h | (simp at h))
   | ret _=>(first | cases h | (simp at h))
  ·refine gB fun q37 h38=>?_
   refine gI (fun h40 _=>?_) (fun h40 _=>?_)
   ·refine gB fun o h49=>?_
    intro h
    simp (maxSteps:=10000000) (implicitDefEqProofs:=false) (disch:=first | with_reducible assumption | exact rfl | exact im_ _ | (fail_if_success show Kn _ _);omega) only [bs,rs74,ls74Z,Nat.reduceAdd,↓reduceIte,zbu,zah,zag a84 z84,zab a64,zab a80,zg6,zgi,zjf hrec,zi8 hrec,zjc]
    refine Wp.ctx (fun x=>seqW _ _ _ _ (za6 _ (x))) (ztm hrec x1 x2 x3 (IntKind.wrap .i64 q37) (w64 ((IntKind.wrap .i64 q37)+x2)) (w64 ((w64 ((IntKind.wrap .i64 q37)+x2)) - (1:Int))) o0 o2 (w64 ((w64 ((IntKind.wrap .i64 q37)+x2)) - x3),IntKind.wrap .i64 q37) _ o (by kernel_rfl) h49) ?_
    intro e st hq
    cases o with
    | next _=>(first | cases h | (simp at h))
    | jmp n_ s_ =>
     obtain ⟨rfl,rfl,hq⟩:=hq
     obtain ⟨s18_50,s19_50⟩:=s_
     unfold zqs at hq
     (try simp only [] at h hq)
     revert h
     repeat' first | (with_reducible refine gB fun _ _=>?_) | (with_reducible refine gW fun _=>?_) | (with_reducible refine gI (fun _ _=>?_) (fun _ _=>?_))
     all_goals
      intro h;obtain rfl:=Option.some.inj h
      first | (simp (maxSteps:=10000000) (implicitDefEqProofs:=false) (disch:=first | with_reducible assumption | exact rfl | exact im_ _ | (fail_if_success show Kn _ _);omega) only [bs,rs74,ls74Z,Nat.reduceAdd,↓reduceIte,zbu,zah,zag a84 z84,zab a64,zab a80,zg6,zgi,zjf hrec,zi8 hrec,zjc,hq];first | (refine ⟨by simp, ?_⟩;show _=_;(try simp only [List.length_set,zbv, *]);kernel_rfl) | (refine ⟨by simp, ?_⟩;show _=_;kernel_rfl)) | (exfalso;omega)
    | ret _=>(first | cases h | (simp at h))
   ·refine gB fun o h137=>?_
    intro h
    simp (maxSteps:=10000000) (implicitDefEqProofs:=false) (disch:=first | with_reducible assumption | exact rfl | exact im_ _ | (fail_if_success show Kn _ _);omega) only [bs,rs74,ls74Z,Nat.reduceAdd,↓reduceIte,zbu,zah,zag a84 z84,zab a64,zab a80,zg6,zgi,zjf hrec,zi8 hrec,zjc]
    refine Wp.ctx (fun x=>seqW _ _ _ _ (za6 _ (x))) (ztm hrec x1 x2 x3 (IntKind.wrap .i64 q37) (w64 ((IntKind.wrap .i64 q37)+x2)) (w64 ((w64 ((IntKind.wrap .i64 q37)+x2)) - (1:Int))) o0 o2 (x1,x2) _ o (by kernel_rfl) h137) ?_
    intro e st hq
    cases o with
    | next _=>(first | cases h | (simp at h))
    | jmp n_ s_ =>
     obtain ⟨rfl,rfl,hq⟩:=hq
     obtain ⟨s18_138,s19_138⟩:=s_
     unfold zqs at hq
     (try simp only [] at h hq)
     revert h
     repeat' first | (with_reducible refine gB fun _ _=>?_) | (with_reducible refine gW fun _=>?_) | (with_reducible refine gI (fun _ _=>?_) (fun _ _=>?_))
     all_goals
      intro h;obtain rfl:=Option.some.inj h
      first | (simp (maxSteps:=10000000) (implicitDefEqProofs:=false) (disch:=first | with_reducible assumption | exact rfl | exact im_ _ | (fail_if_success show Kn _ _);omega) only [bs,rs74,ls74Z,Nat.reduceAdd,↓reduceIte,zbu,zah,zag a84 z84,zab a64,zab a80,zg6,zgi,zjf hrec,zi8 hrec,zjc,hq];first | (refine ⟨by simp, ?_⟩;show _=_;(try simp only [List.length_set,zbv, *]);kernel_rfl) | (refine ⟨by simp, ?_⟩;show _=_;kernel_rfl)) | (exfalso;omega)
    | ret _=>(first | cases h | (simp at h))
theorem z5t:∀ (x1:Int) (x2:Int) (x3:Int) (o0:(List Int)) (o2:(List Int)) r,symF x1 x2 x3 o0 o2=some r→callW Try.prog A0 74 [.agg [.fn (.func 42) [.ptr 0 0,.ptr 1 0],sw68 2 o2.length],iv x1,iv x2,iv x3] [.var [.p (.lst false o0.length (encL zad o0))],.var [.ref 2 0 o2.length 1],.arr (encL zad o2)]=some (.p (.tup []),[.var [.p (.lst false r.1.length (encL zad r.1))],.var [.ref 2 0 r.2.length 1],.arr (encL zad r.2)]):=by
 have key:∀ n (x1:Int) (x2:Int) (x3:Int) (o0:(List Int)) (o2:(List Int)) r,zlf x1 x2 x3 o0 o2<n→symF x1 x2 x3 o0 o2=some r→callW Try.prog A0 74 [.agg [.fn (.func 42) [.ptr 0 0,.ptr 1 0],sw68 2 o2.length],iv x1,iv x2,iv x3] [.var [.p (.lst false o0.length (encL zad o0))],.var [.ref 2 0 o2.length 1],.arr (encL zad o2)]=some (.p (.tup []),[.var [.p (.lst false r.1.length (encL zad r.1))],.var [.ref 2 0 r.2.length 1],.arr (encL zad r.2)]):=by
  intro n
  induction n with
  | zero=>intro x1 x2 x3 o0 o2 r h;omega
  | succ n ih =>
   intro x1 x2 x3 o0 o2 r hn h
   refine ydt (rec:=fun x1' x2' x3' o0' o2'=>if zlf x1' x2' x3' o0' o2'<zlf x1 x2 x3 o0 o2 then symF x1' x2' x3' o0' o2' else none) ?_ x1 x2 x3 o0 o2 r (z4c x1 x2 x3 o0 o2 r h)
   intro x1' x2' x3' o0' o2' r' h'
   by_cases hm:zlf x1' x2' x3' o0' o2'<zlf x1 x2 x3 o0 o2
   ·rw [if_pos hm] at h';exact ih x1' x2' x3' o0' o2' r' (by omega) h'
   ·rw [if_neg hm] at h';cases h'
 intro x1 x2 x3 o0 o2 r h
 exact key _ x1 x2 x3 o0 o2 r (Nat.lt_succ_self _) h
def ls57Z:=@zjy
theorem zog {a1 a3:List Int}{a4 a5 a6:Int}{r9001:((List Int)×(List Int))}{X3:Ob} (h9002:symF a4 a5 a6 a3 a1=some r9001):callD (callW Try.prog A0) A0 [.var [.p (.lst false a3.length (encL zad a3))],.var [.ref 2 0 a1.length 1],.arr (encL zad a1),X3] 74 [.agg [.fn (.func 42) [.ptr 0 0,.ptr 1 0],sw68 2 a1.length],iv a4,iv a5,iv a6]=some (.p (.tup []),some [.var [.p (.lst false r9001.1.length (encL zad r9001.1))],.var [.ref 2 0 r9001.2.length 1],.arr (encL zad r9001.2),X3]):=(zbd (dsw:=[.agg [.fn (.func 42) [.ptr 0 0,.ptr 1 0],sw68 2 a1.length],iv a4,iv a5,iv a6]) (ds':=[.agg [.fn (.func 42) [.ptr 0 0,.ptr 1 0],sw68 2 a1.length],iv a4,iv a5,iv a6]) (i:=0) (ids:=[1,2]) (o:=.var [.p (.lst false a3.length (encL zad a3))]) (os:=[.var [.ref 2 0 a1.length 1],.arr (encL zad a1)]) (o':=.var [.p (.lst false r9001.1.length (encL zad r9001.1))]) (os':=[.var [.ref 2 0 r9001.2.length 1],.arr (encL zad r9001.2)]) rfl (by kernel_rfl) (by kernel_rfl) (by kernel_rfl) (by kernel_rfl) (by kernel_rfl) (z5t _ _ _ _ _ _ h9002) rfl rfl).trans (by kernel_rfl)
noncomputable def yag:Code:=(zak (zae Try.f57)).getD 2 .skip
def z4i:List Ghost:=[.keep [1,2,4,5,6]]
noncomputable def zub (s1:Int) (s4:Int):(Int×Int×(List Int)×(List Int))→St:=fun (s5,s6,w0_0,y2)=>⟨[J,iv s1,.ptr 3 0,J,iv s4,iv s5,iv s6,J,J,J,J,J,J,J,J,J,J,J,J,J,J,J,J,J,J,J,J,J,J,J,J,J,J,J,J,J,J,J,J,J,J,J,J,J,J,J,J,J,J,J,J,J,J,J,J,J,J],[.var [.p (.lst false w0_0.length (encL zad w0_0))],.var [.ref 2 0 y2.length 1],.arr (encL zad y2),.var [.fn (.func 42) [.ptr 0 0,.ptr 1 0],sw68 2 y2.length]],3⟩
theorem z5f (s1:Int) (s4:Int):∀ s st o,zaj z4i st=some (zub s1 s4 s)→iter (zdv s1 s4) s=some o →
    Wp (evW Try.prog A0 57 (.loop yag) st) (OutQ (zub s1 s4) z4i (fun n s st=>n=4∧zaj [.keep [1,2,4,5,6]] st=some (zub s1 s4 s)) (fun r st=>zap Try.prog A0 57 Try.f57 st=some (.p (.tup []),[.var [.p (.lst false r.1.length (encL zad r.1))],.var [.ref 2 0 r.2.length 1],.arr (encL zad r.2)])) o):=by
 refine Wp.iter ?_
 intro s st o hg h
 obtain ⟨s5,s6,w0_0,y2⟩:=s
 unfold zdv at h;unfold z4i zub at hg ⊢
 (try simp only [] at h hg)
 unfold yag zae Try.f57;simp only [zak,ens]
 revert h
 repeat' first | (with_reducible refine gB fun _ _=>?_) | (with_reducible refine gW fun _=>?_) | (with_reducible refine gI (fun _ _=>?_) (fun _ _=>?_))
 all_goals
  intro h;obtain rfl:=Option.some.inj h
  first | (simp (maxSteps:=10000000) (implicitDefEqProofs:=false) (disch:=first | with_reducible assumption | exact rfl | exact im_ _ | (fail_if_success show Kn _ _);omega) only [bs,rs57,ls57Z,Nat.reduceAdd,↓reduceIte,zah,zag a84 z84,zoe,zog,hg];first | (exact ⟨(rfl:Ex.normal=Ex.normal),by (try simp only [List.length_set,zbv, *]);kernel_rfl⟩) | (exact ⟨(rfl:Ex.exit 4=Ex.exit 4),rfl,by kernel_rfl⟩)) | (exfalso;omega)
noncomputable def yas:Code:=(zak (zae Try.f57)).getD 1 .skip
def z31:List Ghost:=[.keep [1,2,4]]
noncomputable def zxd (s1:Int):(Int×(List Int)×(List Int))→St:=fun (s4,w0_0,y2)=>⟨[J,iv s1,.ptr 3 0,J,iv s4,J,J,J,J,J,J,J,J,J,J,J,J,J,J,J,J,J,J,J,J,J,J,J,J,J,J,J,J,J,J,J,J,J,J,J,J,J,J,J,J,J,J,J,J,J,J,J,J,J,J,J,J],[.var [.p (.lst false w0_0.length (encL zad w0_0))],.var [.ref 2 0 y2.length 1],.arr (encL zad y2),.var [.fn (.func 42) [.ptr 0 0,.ptr 1 0],sw68 2 y2.length]],3⟩
theorem z20 (s1:Int):∀ s st o,zaj z31 st=some (zxd s1 s)→iter (zdz s1) s=some o →
    Wp (evW Try.prog A0 57 (.loop yas) st) (OutQ (zxd s1) z31 (fun n s st=>n=2∧(match s with | (s4,w0_0,y2)=>zap Try.prog A0 57 Try.f57 st=some (.p (.tup []),[.var [.p (.lst false ((w0_0,y2).1).length (encL zad ((w0_0,y2).1)))],.var [.ref 2 0 (((w0_0,y2).2).length) 1],.arr (encL zad ((w0_0,y2).2))]))) (fun r st=>zap Try.prog A0 57 Try.f57 st=some (.p (.tup []),[.var [.p (.lst false r.1.length (encL zad r.1))],.var [.ref 2 0 r.2.length 1],.arr (encL zad r.2)])) o):=by
 refine Wp.iter ?_
 intro s st o hg h
 obtain ⟨s4,w0_0,y2⟩:=s
 unfold zdz at h;unfold z31 zxd at hg ⊢
 (try simp only [] at h hg)
 unfold yas zae Try.f57;simp only [zak,ens]
 revert h
 refine gI (fun h12 _=>?_) (fun h12 _=>?_)
 ·refine gB fun o h18=>?_
  intro h
  simp (maxSteps:=10000000) (implicitDefEqProofs:=false) (disch:=first | with_reducible assumption | exact rfl | exact im_ _ | (fail_if_success show Kn _ _);omega) only [bs,rs57,ls57Z,Nat.reduceAdd,↓reduceIte,zah,zag a84 z84,zoe,zog,hg]
  refine Wp.ctx (fun x=>za6 _ (seqW _ _ _ _ (za6 _ (x)))) (z5f s1 s4 ((0:Int),w64 ((2:Int)*s4),w0_0,y2) _ o (by kernel_rfl) h18) ?_
  intro e st hq
  cases o with
  | next _=>(first | cases h | (simp at h))
  | jmp n_ s_ =>
   obtain ⟨rfl,rfl,hq⟩:=hq
   obtain ⟨s5_19,s6_19,w0_0_19,y2_19⟩:=s_
   unfold zub at hq
   (try simp only [] at h hq)
   revert h
   repeat' first | (with_reducible refine gB fun _ _=>?_) | (with_reducible refine gW fun _=>?_) | (with_reducible refine gI (fun _ _=>?_) (fun _ _=>?_))
   all_goals
    intro h;obtain rfl:=Option.some.inj h
    first | (simp (maxSteps:=10000000) (implicitDefEqProofs:=false) (disch:=first | with_reducible assumption | exact rfl | exact im_ _ | (fail_if_success show Kn _ _);omega) only [bs,rs57,ls57Z,Nat.reduceAdd,↓reduceIte,zah,zag a84 z84,zoe,zog,hg,hq];first | (exact ⟨(rfl:Ex.normal=Ex.normal),by (try simp only [List.length_set,zbv, *]);kernel_rfl⟩) | (exact ⟨(rfl:Ex.normal=Ex.normal),by kernel_rfl⟩)) | (exfalso;omega)
  | ret _=>(first | cases h | (simp at h))
 ·intro h;obtain rfl:=Option.some.inj h
  simp (maxSteps:=10000000) (implicitDefEqProofs:=false) (disch:=first | with_reducible assumption | exact rfl | exact im_ _ | (fail_if_success show Kn _ _);omega) only [bs,rs57,ls57Z,Nat.reduceAdd,↓reduceIte,zah,zag a84 z84,zoe,zog,hg]
  refine ⟨(rfl:Ex.exit 2=Ex.exit 2),rfl, ?_⟩;show _=_;kernel_rfl
noncomputable def yam:Code:=(zak (zae Try.f57)).getD 0 .skip
def z4w:List Ghost:=[.keep [1,2,4,5,6]]
noncomputable def zth (s1:Int) (s4:Int):(Int×Int×(List Int)×(List Int))→St:=fun (s5,s6,w0_0,y2)=>⟨[J,iv s1,.ptr 3 0,J,iv s4,iv s5,iv s6,J,J,J,J,J,J,J,J,J,J,J,J,J,J,J,J,J,J,J,J,J,J,J,J,J,J,J,J,J,J,J,J,J,J,J,J,J,J,J,J,J,J,J,J,J,J,J,J,J,J],[.var [.p (.lst false w0_0.length (encL zad w0_0))],.var [.ref 2 0 y2.length 1],.arr (encL zad y2),.var [.fn (.func 42) [.ptr 0 0,.ptr 1 0],sw68 2 y2.length]],3⟩
theorem z3r (s1:Int) (s4:Int):∀ s st o,zaj z4w st=some (zth s1 s4 s)→iter (zdu s1 s4) s=some o →
    Wp (evW Try.prog A0 57 (.loop yam) st) (OutQ (zth s1 s4) z4w (fun n s st=>n=0∧zaj [.keep [1,2,4,5,6]] st=some (zth s1 s4 s)) (fun r st=>zap Try.prog A0 57 Try.f57 st=some (.p (.tup []),[.var [.p (.lst false r.1.length (encL zad r.1))],.var [.ref 2 0 r.2.length 1],.arr (encL zad r.2)])) o):=by
 refine Wp.iter ?_
 intro s st o hg h
 obtain ⟨s5,s6,w0_0,y2⟩:=s
 unfold zdu at h;unfold z4w zth at hg ⊢
 (try simp only [] at h hg)
 unfold yam zae Try.f57;simp only [zak,ens]
 revert h
 repeat' first | (with_reducible refine gB fun _ _=>?_) | (with_reducible refine gW fun _=>?_) | (with_reducible refine gI (fun _ _=>?_) (fun _ _=>?_))
 all_goals
  intro h;obtain rfl:=Option.some.inj h
  first | (simp (maxSteps:=10000000) (implicitDefEqProofs:=false) (disch:=first | with_reducible assumption | exact rfl | exact im_ _ | (fail_if_success show Kn _ _);omega) only [bs,rs57,ls57Z,Nat.reduceAdd,↓reduceIte,zah,zag a84 z84,zoe,zog,hg];first | (exact ⟨(rfl:Ex.normal=Ex.normal),by (try simp only [List.length_set,zbv, *]);kernel_rfl⟩) | (exact ⟨(rfl:Ex.exit 0=Ex.exit 0),rfl,by kernel_rfl⟩)) | (exfalso;omega)
theorem ycl  (x1:Int) (o0:(List Int)) (o2:(List Int)) (r:((List Int)×(List Int))) (h:zfb x1 o0 o2=some r):callW Try.prog A0 57 [.agg [.fn (.func 42) [.ptr 0 0,.ptr 1 0],sw68 2 o2.length],iv x1] [.var [.p (.lst false o0.length (encL zad o0))],.var [.ref 2 0 o2.length 1],.arr (encL zad o2)]=some (.p (.tup []),[.var [.p (.lst false r.1.length (encL zad r.1))],.var [.ref 2 0 r.2.length 1],.arr (encL zad r.2)]):=by
 refine zax (fn:=Try.f57) (c:=zae Try.f57) 55 rfl rfl (by kernel_rfl) (by kernel_rfl) (by kernel_rfl) ?_
 unfold zfb at h;unfold zae Try.f57;simp only [ens]
 revert h
 refine gB fun o h6=>?_
 intro h
 simp (maxSteps:=10000000) (implicitDefEqProofs:=false) (disch:=first | with_reducible assumption | exact rfl | exact im_ _ | (fail_if_success show Kn _ _);omega) only [bs,rs57,ls57Z,Nat.reduceAdd,↓reduceIte,zah,zag a84 z84,zoe,zog]
 refine Wp.ctx (fun x=>seqW _ _ _ _ (za6 _ (x))) (z3r x1 (20:Int) ((0:Int),(20:Int),o0,o2) _ o (by kernel_rfl) h6) ?_
 intro e st hq
 cases o with
 | next _=>(first | cases h | (simp at h))
 | jmp n_ s_ =>
  obtain ⟨rfl,rfl,hq⟩:=hq
  obtain ⟨s5_7,s6_7,w0_0_7,y2_7⟩:=s_
  unfold zth at hq
  (try simp only [] at h hq)
  revert h
  refine gB fun r8 h9=>?_
  refine gW fun h11=>?_
  refine gB fun o h25=>?_
  intro h
  simp (maxSteps:=10000000) (implicitDefEqProofs:=false) (disch:=first | with_reducible assumption | exact rfl | exact im_ _ | (fail_if_success show Kn _ _);omega) only [bs,rs57,ls57Z,Nat.reduceAdd,↓reduceIte,zah,zag a84 z84,zoe,zog,hq]
  refine Wp.ctx (fun x=>za6 _ (x)) (z20 x1 ((20:Int),r8.1,r8.2) _ o (by unfold zxd;simp only [List.length_set,zbv,h11];kernel_rfl) h25) ?_
  intro e st hq
  cases o with
  | next _=>(first | cases h | (simp at h))
  | jmp n_ s_ =>
   obtain ⟨rfl,rfl,hq⟩:=hq
   obtain ⟨s4_26,w0_0_26,y2_26⟩:=s_
   obtain rfl:=Option.some.inj h
   simp (maxSteps:=10000000) (implicitDefEqProofs:=false) (disch:=first | with_reducible assumption | exact rfl | exact im_ _ | (fail_if_success show Kn _ _);omega) only [bs,rs57,ls57Z,Nat.reduceAdd,↓reduceIte,zah,zag a84 z84,zoe,zog]
   exact ⟨by simp,hq⟩
  | ret _=>(first | cases h | (simp at h))
 | ret _=>(first | cases h | (simp at h))
def ls41Z:=And.intro @al_78 (And.intro @zxe (And.intro @zrr (@zuo)))
theorem yhz {a1 a3:List Int}{a4:Int}{r9001:((List Int)×(List Int))}{X3 X4:Ob} (h9002:zfb a4 a3 a1=some r9001):callD (callW Try.prog A0) A0 [.arr (encL zad a1),.var [.p (.lst false a3.length (encL zad a3))],.var [.ref 0 0 a1.length 1],X3,X4] 57 [.agg [.fn (.func 42) [.ptr 1 0,.ptr 2 0],sw68 0 a1.length],iv a4]=some (.p (.tup []),some [.arr (encL zad r9001.2),.var [.p (.lst false r9001.1.length (encL zad r9001.1))],.var [.ref 0 0 r9001.2.length 1],X3,X4]):=(zbd (dsw:=[.agg [.fn (.func 42) [.ptr 1 0,.ptr 2 0],sw68 0 a1.length],iv a4]) (ds':=[.agg [.fn (.func 42) [.ptr 0 0,.ptr 1 0],sw68 2 a1.length],iv a4]) (i:=1) (ids:=[2,0]) (o:=.var [.p (.lst false a3.length (encL zad a3))]) (os:=[.var [.ref 2 0 a1.length 1],.arr (encL zad a1)]) (o':=.var [.p (.lst false r9001.1.length (encL zad r9001.1))]) (os':=[.var [.ref 2 0 r9001.2.length 1],.arr (encL zad r9001.2)]) rfl (by kernel_rfl) (by kernel_rfl) (by kernel_rfl) (by kernel_rfl) (by kernel_rfl) (ycl _ _ _ _ h9002) rfl rfl).trans (by kernel_rfl)
theorem yh3 {a1:List Int}{X1 X2 X4:Ob}:callD (callW Try.prog A0) A0 [.arr (encL zad a1),X1,X2,.var [.ref 0 0 a1.length 1],X4] 58 [.agg [.p (.v (typeHandle Try.prog 40)),.ptr 3 0,.p (.v (.int .u64 (151:Int)))]]=some (iv (a1.length:Int),some [.arr (encL zad a1),X1,X2,.var [.ref 0 0 a1.length 1],X4]):=(zka (dsw:=[.agg [.p (.v (typeHandle Try.prog 40)),.ptr 3 0,.p (.v (.int .u64 (151:Int)))]]) (ds':=[.agg [.p (.v (typeHandle Try.prog 40)),.ptr 0 0,.p (.v (.int .u64 151))]]) (i:=3) (ids:=[0]) (o:=.var [.ref 1 0 a1.length 1]) (os:=[.arr (encL zad a1)]) (x:=.p (.v (.int .i64 (a1.length:Int)))) (o':=.var [.ref 1 0 a1.length 1]) (os':=[.arr (encL zad a1)]) rfl (by kernel_rfl) (by kernel_rfl) (by kernel_rfl) (by kernel_rfl) (by kernel_rfl) (zn4 rfl (by kernel_rfl) (by kernel_rfl) (by kernel_rfl) u40) rfl rfl).trans (by kernel_rfl)
theorem ye5 {a1:List Int}{X1 X2 X3 X4:Ob} (h9003:2≤a1.length):callD (callW Try.prog A0) A0 [.arr (encL zad a1),X1,X2,X3,X4] 56 [.ifc 40 (.ref 0 0 a1.length 1)]=some (sw68 0 a1.length,some [.arr (encL zad a1),X1,X2,X3,X4]):=(zka (dsw:=[.ifc 40 (.ref 0 0 a1.length 1)]) (ds':=[.ifc 40 (.ref 0 0 a1.length 1)]) (i:=0) (ids:=[]) (o:=.arr (encL zad a1)) (os:=[]) (x:=.fn (.func 68) [.ref 0 0 a1.length 1,.p (.v (typeHandle Try.prog 3))]) (o':=.arr (encL zad a1)) (os':=[]) rfl (by kernel_rfl) (by kernel_rfl) (by kernel_rfl) (by kernel_rfl) (by kernel_rfl) (zne rfl rfl (by assumption)) rfl rfl).trans (by kernel_rfl)
theorem yix {a1:List Int}{X1 X2:Ob}:callD (callW Try.prog A0) A0 [.arr (encL zad a1),X1,X2] 55 [.ifc 40 (.ref 0 0 a1.length 1)]=some (.agg [.p (.v (typeHandle Try.prog 40)),.ptr 3 0,.p (.v (.int .u64 (151:Int)))],some [.arr (encL zad a1),X1,X2,.var [.ref 0 0 a1.length 1]]):=(zka (dsw:=[.ifc 40 (.ref 0 0 a1.length 1)]) (ds':=[.ifc 40 (.ref 0 0 a1.length 1)]) (i:=0) (ids:=[]) (o:=.arr (encL zad a1)) (os:=[]) (x:=.agg [.p (.v (typeHandle Try.prog 40)),.ptr 1 0,.p (.v (.int .u64 151))]) (o':=.arr (encL zad a1)) (os':=[.var [.ref 0 0 a1.length 1]]) rfl (by kernel_rfl) (by kernel_rfl) (by kernel_rfl) (by kernel_rfl) (by kernel_rfl) (zng rfl (by kernel_rfl)) rfl rfl).trans (by kernel_rfl)
theorem yck  (o0:(List Int)) (o1:(List Int)) (r:((List Int)×(List Int))) (h:zgz o0 o1=some r):callW Try.prog A0 41 [.ifc 40 (.ref 0 0 o0.length 1),.fn (.func 42) [.ptr 1 0,.ptr 2 0]] [.arr (encL zad o0),.var [.p (.lst false o1.length (encL zad o1))],.var [.ref 0 0 o0.length 1]]=some (.p (.tup []),[.arr (encL zad r.1),.var [.p (.lst false r.2.length (encL zad r.2))],.var [.ref 0 0 r.1.length 1]]):=by
 refine zax (fn:=Try.f41) (c:=zae Try.f41) 14 rfl rfl (by kernel_rfl) (by kernel_rfl) (by kernel_rfl) ?_
 unfold zgz at h;unfold zae Try.f41;simp only [ens]
 revert h
 repeat' first | (with_reducible refine gB fun _ _=>?_) | (with_reducible refine gW fun _=>?_)
 intro h;obtain rfl:=Option.some.inj h
 simp (maxSteps:=10000000) (implicitDefEqProofs:=false) (disch:=first | with_reducible assumption | exact rfl | exact im_ _ | (fail_if_success show Kn _ _);omega) only [bs,rs41,ls41Z,Nat.reduceAdd,↓reduceIte,zag a78 z78,yix,ye5,yhz,yh3,zpg z78]
 refine ⟨by simp, ?_⟩;show _=_;(try simp only [List.length_set,zbv, *]);kernel_rfl
theorem zj5 {o0:(List Int)}{o1:(List Int)}{r:((List Int)×(List Int))} (h:zew o0 o1=some r):callW Try.prog A0 41 [.ifc 40 (.ref 0 0 o0.length 1),.fn (.func 42) [.ptr 1 0,.ptr 2 0]] [.arr (encL zad o0),.var [.p (.lst false o1.length (encL zad o1))],.var [.ref 0 0 o0.length 1]]=some (.p (.tup []),[.arr (encL zad r.1),.var [.p (.lst false r.2.length (encL zad r.2))],.var [.ref 0 0 r.1.length 1]]):=by
 unfold zew at h
 match o0,h with
 | [],h=>rw [if_pos (by simp)] at h;obtain rfl:=Option.some.inj h;exact zee.2 ⟨60,by kernel_rfl⟩
 | [y],h=>rw [if_pos (by simp)] at h;obtain rfl:=Option.some.inj h;exact zee.2 ⟨60,by kernel_rfl⟩
 | y :: z :: l,h=>rw [if_neg (by simp only [List.length_cons];omega)] at h;exact yck _ _ _ h
def ls76:=And.intro @zvw (@yg5)
theorem c10_0 {H:List Ob}  {r:Bool} (h:zh9 =some r):callD (callW Try.prog A0) A0 H 10 []=some (.p (.v (.bool r)),none) :=
 zbi (args:=[]) rfl rfl rfl (by simp only [List.map_cons,List.map_nil,wk,wks,wkL];exact yfd  _ h)
theorem yg2  (x0:Int) (r:Int) (h:zdr x0=some r):callW Try.prog A0 76 [.p (.v (.int .u64 x0))] []=some (.p (.v (.int .i64 r)),[]):=by
 refine zax (fn:=Try.f76) (c:=zae Try.f76) 24 rfl rfl (by kernel_rfl) (by kernel_rfl) (by kernel_rfl) ?_
 unfold zdr at h;unfold zae Try.f76;simp only [ens]
 revert h
 repeat' first | (with_reducible refine gB fun _ _=>?_) | (with_reducible refine gI (fun _ _=>?_) (fun _ _=>?_))
 all_goals
  intro h;obtain rfl:=Option.some.inj h
  first | (simp (maxSteps:=10000000) (implicitDefEqProofs:=false) (disch:=first | with_reducible assumption | exact rfl | exact im_ _ | (fail_if_success show Kn _ _);omega) only [bs,rs76,ls76,Nat.reduceAdd,↓reduceIte,z0f,zbu,zh3 Try.underlying9];refine ⟨by simp, ?_⟩;exact zdk rfl rfl rfl rfl) | (exfalso;omega)
theorem c76_0 {H:List Ob}{a1:Int}{r:Int} (h:zdr a1=some r):callD (callW Try.prog A0) A0 H 76 [.p (.v (.int .u64 a1))]=some (.p (.v (.int .i64 r)),none) :=
 zbi (args:=[.v (.int .u64 a1)]) rfl rfl rfl (by simp only [List.map_cons,List.map_nil,wk,wks,wkL];exact yg2 a1 _ h)
theorem yd1  (x0:Int) (r:Int) (h:zdj x0=some r):callW Try.prog A0 59 [.p (.v (.int .u64 x0))] []=some (.p (.v (.int .i64 r)),[]):=by
 refine zax (fn:=Try.f59) (c:=zae Try.f59) 7 rfl rfl (by kernel_rfl) (by kernel_rfl) (by kernel_rfl) ?_
 unfold zdj at h;unfold zae Try.f59;simp only [ens]
 revert h
 repeat' (with_reducible refine gB fun _ _=>?_)
 intro h;obtain rfl:=Option.some.inj h
 simp (maxSteps:=10000000) (implicitDefEqProofs:=false) (disch:=first | with_reducible assumption | exact rfl | exact im_ _ | (fail_if_success show Kn _ _);omega) only [bs,rs59,Nat.reduceAdd,↓reduceIte,c76_0]
 refine ⟨by simp, ?_⟩;exact zdk rfl rfl rfl rfl
def ls44:=And.intro @zsr (And.intro @zxl (And.intro @yb5 (@zlh)))
theorem c59_0 {H:List Ob}{a1:Int}{r:Int} (h:zdj a1=some r):callD (callW Try.prog A0) A0 H 59 [.p (.v (.int .u64 a1))]=some (.p (.v (.int .i64 r)),none) :=
 zbi (args:=[.v (.int .u64 a1)]) rfl rfl rfl (by simp only [List.map_cons,List.map_nil,wk,wks,wkL];exact yd1 a1 _ h)
theorem yao  (x0:Int) (x1:Int) (o1:(List Pair)) (r:Bool) (h:zaz x0 x1 o1=some r):callW Try.prog A0 44 [iv x0,iv x1,.ptr 0 0] [.var [.ref 1 0 o1.length 2],.arr (encL zac o1)]=some (.p (.v (.bool r)),[.var [.ref 1 0 o1.length 2],.arr (encL zac o1)]):=by
 refine zax (fn:=Try.f44) (c:=zae Try.f44) 14 rfl rfl (by kernel_rfl) (by kernel_rfl) (by kernel_rfl) ?_
 unfold zaz at h;unfold zae Try.f44;simp only [ens]
 revert h
 repeat' (with_reducible refine gR fun _ _ _ _=>?_)
 intro h;obtain rfl:=Option.some.inj h
 simp (maxSteps:=10000000) (implicitDefEqProofs:=false) (disch:=first | with_reducible assumption | exact rfl | exact im_ _ | (fail_if_success show Kn _ _);omega) only [bs,rs44,ls44,Nat.reduceAdd,↓reduceIte,zab a3,zab a36]
 refine ⟨by simp, ?_⟩;show _=_;kernel_rfl
def ls73:=And.intro @zix (And.intro @zhv (And.intro @zft (@zfg)))
theorem q72_0 {a1:List Pair}{a2 a3:Int}{r9003:_}{X0 X2:Ob} (h9001:swapL a2 a3 a1=some r9003):callD (callW Try.prog A0) A0 [X0,.arr (encL zac a1),X2] 72 [iv a2,iv a3,.ref 1 0 a1.length 2,.p (.v (typeHandle Try.prog 43))]=some (.p (.tup []),some [X0,.arr (encL zac r9003),X2]):=(zbd (dsw:=[iv a2,iv a3,.ref 1 0 a1.length 2,.p (.v (typeHandle Try.prog 43))]) (ds':=[iv a2,iv a3,.ref 0 0 a1.length 2,.p (.v (typeHandle Try.prog 43))]) (i:=1) (ids:=[]) (o:=.arr (encL zac a1)) (os:=[]) (o':=.arr (encL zac r9003)) (os':=[]) rfl (by kernel_rfl) (by kernel_rfl) (by kernel_rfl) (by kernel_rfl) (by kernel_rfl) (zn1 h9001) rfl rfl).trans (by kernel_rfl)
theorem q44_0 {a1:List Pair}{a2 a3:Int}{r9001:Bool}{X2:Ob} (h9002:zaz a2 a3 a1=some r9001):callD (callW Try.prog A0) A0 [.var [.ref 1 0 a1.length 2],.arr (encL zac a1),X2] 44 [iv a2,iv a3,.ptr 0 0]=some (.p (.v (.bool r9001)),some [.var [.ref 1 0 a1.length 2],.arr (encL zac a1),X2]):=(zbd (dsw:=[iv a2,iv a3,.ptr 0 0]) (ds':=[iv a2,iv a3,.ptr 0 0]) (i:=0) (ids:=[1]) (o:=.var [.ref 1 0 a1.length 2]) (os:=[.arr (encL zac a1)]) (o':=.var [.ref 1 0 a1.length 2]) (os':=[.arr (encL zac a1)]) rfl (by kernel_rfl) (by kernel_rfl) (by kernel_rfl) (by kernel_rfl) (by kernel_rfl) (yao _ _ _ _ h9002) rfl rfl).trans (by kernel_rfl)
noncomputable def L73_1:Code:=(zak (zae Try.f73)).getD 1 .skip
def g73_1:List Ghost:=[.keep [1,2,3,6,7]]
noncomputable def F73_1 (s1:Int) (s2:Int) (s6:Int):(Int×(List Pair))→St:=fun (s7,y1)=>⟨[J,iv s1,iv s2,.ptr 2 0,J,J,iv s6,iv s7,J,J,J,J,J,J,J,J,J,J,J,J,J,J,J,J,J,J,J,J,J,J,J,J,J,J,J],[.var [.ref 1 0 y1.length 2],.arr (encL zac y1),.var [.fn (.func 44) [.ptr 0 0],sw72 1 y1.length]],2⟩
theorem z6s (s1:Int) (s2:Int) (s6:Int):∀ s st o,zaj g73_1 st=some (F73_1 s1 s2 s6 s)→iter (zc0 s1 s2 s6) s=some o →
    Wp (evW Try.prog A0 73 (.loop L73_1) st) (OutQ (F73_1 s1 s2 s6) g73_1 (fun n s st=>n=2∧zaj [.keep [1,2,3,6,7]] st=some (F73_1 s1 s2 s6 s)) (fun r st=>zap Try.prog A0 73 Try.f73 st=some (.p (.tup []),[.var [.ref 1 0 r.length 2],.arr (encL zac r)])) o):=by
 refine Wp.iter ?_
 intro s st o hg h
 obtain ⟨s7,y1⟩:=s
 unfold zc0 at h;unfold g73_1 F73_1 at hg ⊢
 (try simp only [] at h hg)
 unfold L73_1 zae Try.f73;simp only [zak,ens]
 revert h
 repeat' first | (with_reducible refine gB fun _ _=>?_) | (with_reducible refine gW fun _=>?_) | (with_reducible refine gT (fun _ _=>?_) (fun _ _=>?_)) | (with_reducible refine gI (fun _ _=>?_) (fun _ _=>?_))
 all_goals
  intro h;obtain rfl:=Option.some.inj h
  first | (simp (maxSteps:=10000000) (implicitDefEqProofs:=false) (disch:=first | with_reducible assumption | exact rfl | exact im_ _ | (fail_if_success show Kn _ _);omega) only [bs,rs73,ls73,Nat.reduceAdd,↓reduceIte,zah,zab a64,zab a80,q44_0,q72_0,hg];first | (exact ⟨(rfl:Ex.normal=Ex.normal),by (try simp only [List.length_set,zbv, *]);kernel_rfl⟩) | (exact ⟨(rfl:Ex.exit 2=Ex.exit 2),rfl,by kernel_rfl⟩)) | (exfalso;omega)
noncomputable def L73_0:Code:=(zak (zae Try.f73)).getD 0 .skip
def g73_0:List Ghost:=[.keep [1,2,3,6]]
noncomputable def F73_0 (s1:Int) (s2:Int):(Int×(List Pair))→St:=fun (s6,y1)=>⟨[J,iv s1,iv s2,.ptr 2 0,J,J,iv s6,J,J,J,J,J,J,J,J,J,J,J,J,J,J,J,J,J,J,J,J,J,J,J,J,J,J,J,J],[.var [.ref 1 0 y1.length 2],.arr (encL zac y1),.var [.fn (.func 44) [.ptr 0 0],sw72 1 y1.length]],2⟩
theorem z66 (s1:Int) (s2:Int):∀ s st o,zaj g73_0 st=some (F73_0 s1 s2 s)→iter (zc2 s1 s2) s=some o →
    Wp (evW Try.prog A0 73 (.loop L73_0) st) (OutQ (F73_0 s1 s2) g73_0 (fun n s st=>n=0∧(match s with | (s6,y1)=>zap Try.prog A0 73 Try.f73 st=some (.p (.tup []),[.var [.ref 1 0 y1.length 2],.arr (encL zac y1)]))) (fun r st=>zap Try.prog A0 73 Try.f73 st=some (.p (.tup []),[.var [.ref 1 0 r.length 2],.arr (encL zac r)])) o):=by
 refine Wp.iter ?_
 intro s st o hg h
 obtain ⟨s6,y1⟩:=s
 unfold zc2 at h;unfold g73_0 F73_0 at hg ⊢
 (try simp only [] at h hg)
 unfold L73_0 zae Try.f73;simp only [zak,ens]
 revert h
 refine gI (fun h1 _=>?_) (fun h1 _=>?_)
 ·refine gB fun o h11=>?_
  intro h
  simp (maxSteps:=10000000) (implicitDefEqProofs:=false) (disch:=first | with_reducible assumption | exact rfl | exact im_ _ | (fail_if_success show Kn _ _);omega) only [bs,rs73,ls73,Nat.reduceAdd,↓reduceIte,zah,zab a64,zab a80,q44_0,q72_0,hg]
  refine Wp.ctx (fun x=>seqW _ _ _ _ (za6 _ (za6 _ (x)))) (z6s s1 s2 s6 (s6,y1) _ o (by kernel_rfl) h11) ?_
  intro e st hq
  cases o with
  | next _=>(first | cases h | (simp at h))
  | jmp n_ s_ =>
   obtain ⟨rfl,rfl,hq⟩:=hq
   obtain ⟨s7_12,y1_12⟩:=s_
   unfold F73_1 at hq
   (try simp only [] at h hq)
   revert h
   intro h;obtain rfl:=Option.some.inj h
   simp (maxSteps:=10000000) (implicitDefEqProofs:=false) (disch:=first | with_reducible assumption | exact rfl | exact im_ _ | (fail_if_success show Kn _ _);omega) only [bs,rs73,ls73,Nat.reduceAdd,↓reduceIte,zah,zab a64,zab a80,q44_0,q72_0,hg,hq]
   exact ⟨(rfl:Ex.normal=Ex.normal),by kernel_rfl⟩
  | ret _=>(first | cases h | (simp at h))
 ·intro h;obtain rfl:=Option.some.inj h
  simp (maxSteps:=10000000) (implicitDefEqProofs:=false) (disch:=first | with_reducible assumption | exact rfl | exact im_ _ | (fail_if_success show Kn _ _);omega) only [bs,rs73,ls73,Nat.reduceAdd,↓reduceIte,zah,zab a64,zab a80,q44_0,q72_0,hg]
  refine ⟨(rfl:Ex.exit 0=Ex.exit 0),rfl, ?_⟩;show _=_;kernel_rfl
theorem ykk  (x1:Int) (x2:Int) (o1:(List Pair)) (r:(List Pair)) (h:zcz x1 x2 o1=some r):callW Try.prog A0 73 [.agg [.fn (.func 44) [.ptr 0 0],sw72 1 o1.length],iv x1,iv x2] [.var [.ref 1 0 o1.length 2],.arr (encL zac o1)]=some (.p (.tup []),[.var [.ref 1 0 r.length 2],.arr (encL zac r)]):=by
 refine zax (fn:=Try.f73) (c:=zae Try.f73) 32 rfl rfl (by kernel_rfl) (by kernel_rfl) (by kernel_rfl) ?_
 unfold zcz at h;unfold zae Try.f73;simp only [ens]
 revert h
 refine gB fun o h13=>?_
 intro h
 simp (maxSteps:=10000000) (implicitDefEqProofs:=false) (disch:=first | with_reducible assumption | exact rfl | exact im_ _ | (fail_if_success show Kn _ _);omega) only [bs,rs73,ls73,Nat.reduceAdd,↓reduceIte,zah,zab a64,zab a80,q44_0,q72_0]
 refine Wp.ctx (fun x=>za6 _ (x)) (z66 x1 x2 (w64 (x1+(1:Int)),o1) _ o (by kernel_rfl) h13) ?_
 intro e st hq
 cases o with
 | next _=>(first | cases h | (simp at h))
 | jmp n_ s_ =>
  obtain ⟨rfl,rfl,hq⟩:=hq
  obtain ⟨s6_14,y1_14⟩:=s_
  obtain rfl:=Option.some.inj h
  simp (maxSteps:=10000000) (implicitDefEqProofs:=false) (disch:=first | with_reducible assumption | exact rfl | exact im_ _ | (fail_if_success show Kn _ _);omega) only [bs,rs73,ls73,Nat.reduceAdd,↓reduceIte,zah,zab a64,zab a80,q44_0,q72_0]
  exact ⟨by simp,hq⟩
 | ret _=>(first | cases h | (simp at h))
def ls85:=And.intro @zix (And.intro @zhv (And.intro @zft (@zfg)))
theorem q73_0 {a1:List Pair}{a2 a3:Int}{r9001:(List Pair)}{X2:Ob} (h9002:zcz a2 a3 a1=some r9001):callD (callW Try.prog A0) A0 [.var [.ref 1 0 a1.length 2],.arr (encL zac a1),X2] 73 [.agg [.fn (.func 44) [.ptr 0 0],sw72 1 a1.length],iv a2,iv a3]=some (.p (.tup []),some [.var [.ref 1 0 r9001.length 2],.arr (encL zac r9001),X2]):=(zbd (dsw:=[.agg [.fn (.func 44) [.ptr 0 0],sw72 1 a1.length],iv a2,iv a3]) (ds':=[.agg [.fn (.func 44) [.ptr 0 0],sw72 1 a1.length],iv a2,iv a3]) (i:=0) (ids:=[1]) (o:=.var [.ref 1 0 a1.length 2]) (os:=[.arr (encL zac a1)]) (o':=.var [.ref 1 0 r9001.length 2]) (os':=[.arr (encL zac r9001)]) rfl (by kernel_rfl) (by kernel_rfl) (by kernel_rfl) (by kernel_rfl) (by kernel_rfl) (ykk _ _ _ _ h9002) rfl rfl).trans (by kernel_rfl)
noncomputable def L85_0:Code:=(zak (zae Try.f85)).getD 0 .skip
def g85_0:List Ghost:=[.keep [2,3,4,8]]
noncomputable def F85_0 (s2:Int) (s3:Int):(Int×(List Pair))→St:=fun (s8,y1)=>⟨[J,J,iv s2,iv s3,.ptr 2 0,J,J,J,iv s8,J,J,J,J,J,J,J,J,J,J,J,J,J,J,J,J,J,J,J,J,J,J,J,J,J,J,J,J,J,J,J,J,J,J,J,J,J,J,J,J,J,J,J,J,J,J],[.var [.ref 1 0 y1.length 2],.arr (encL zac y1),.var [.fn (.func 44) [.ptr 0 0],sw72 1 y1.length]],2⟩
theorem z7t (s2:Int) (s3:Int):∀ s st o,zaj g85_0 st=some (F85_0 s2 s3 s)→iter (zeo s2 s3) s=some o →
    Wp (evW Try.prog A0 85 (.loop L85_0) st) (OutQ (F85_0 s2 s3) g85_0 (fun n s st=>n=0∧(match s with | (s8,y1)=>zap Try.prog A0 85 Try.f85 st=some (.p (.tup []),[.var [.ref 1 0 y1.length 2],.arr (encL zac y1)]))) (fun r st=>zap Try.prog A0 85 Try.f85 st=some (.p (.tup []),[.var [.ref 1 0 r.length 2],.arr (encL zac r)])) o):=by
 refine Wp.iter ?_
 intro s st o hg h
 obtain ⟨s8,y1⟩:=s
 unfold zeo at h;unfold g85_0 F85_0 at hg ⊢
 (try simp only [] at h hg)
 unfold L85_0 zae Try.f85;simp only [zak,ens]
 revert h
 repeat' first | (with_reducible refine gB fun _ _=>?_) | (with_reducible refine gW fun _=>?_) | (with_reducible refine gT (fun _ _=>?_) (fun _ _=>?_)) | (with_reducible refine gI (fun _ _=>?_) (fun _ _=>?_))
 all_goals
  intro h;obtain rfl:=Option.some.inj h
  first | (simp (maxSteps:=10000000) (implicitDefEqProofs:=false) (disch:=first | with_reducible assumption | exact rfl | exact im_ _ | (fail_if_success show Kn _ _);omega) only [bs,rs85,ls85,Nat.reduceAdd,↓reduceIte,zah,zab a64,zab a80,q44_0,q72_0,hg];first | (refine ⟨(rfl:Ex.exit 0=Ex.exit 0),rfl, ?_⟩;show _=_;kernel_rfl) | (exact ⟨(rfl:Ex.normal=Ex.normal),by (try simp only [List.length_set,zbv, *]);kernel_rfl⟩) | (refine ⟨(rfl:Ex.ret=Ex.ret), ?_⟩;show _=_;kernel_rfl)) | (exfalso;omega)
theorem ybg  (x1:Int) (x2:Int) (x3:Int) (o1:(List Pair)) (r:(List Pair)) (h:zc8 x1 x2 x3 o1=some r):callW Try.prog A0 85 [.agg [.fn (.func 44) [.ptr 0 0],sw72 1 o1.length],iv x1,iv x2,iv x3] [.var [.ref 1 0 o1.length 2],.arr (encL zac o1)]=some (.p (.tup []),[.var [.ref 1 0 r.length 2],.arr (encL zac r)]):=by
 refine zax (fn:=Try.f85) (c:=zae Try.f85) 51 rfl rfl (by kernel_rfl) (by kernel_rfl) (by kernel_rfl) ?_
 unfold zc8 at h;unfold zae Try.f85;simp only [ens]
 revert h
 refine gB fun o h61=>?_
 intro h
 simp (maxSteps:=10000000) (implicitDefEqProofs:=false) (disch:=first | with_reducible assumption | exact rfl | exact im_ _ | (fail_if_success show Kn _ _);omega) only [bs,rs85,ls85,Nat.reduceAdd,↓reduceIte,zah,zab a64,zab a80,q44_0,q72_0]
 refine Wp.ctx (fun x=>za6 _ (x)) (z7t x2 x3 (x1,o1) _ o (by kernel_rfl) h61) ?_
 intro e st hq
 cases o with
 | next _=>(first | cases h | (simp at h))
 | jmp n_ s_ =>
  obtain ⟨rfl,rfl,hq⟩:=hq
  obtain ⟨s8_62,y1_62⟩:=s_
  obtain rfl:=Option.some.inj h
  simp (maxSteps:=10000000) (implicitDefEqProofs:=false) (disch:=first | with_reducible assumption | exact rfl | exact im_ _ | (fail_if_success show Kn _ _);omega) only [bs,rs85,ls85,Nat.reduceAdd,↓reduceIte,zah,zab a64,zab a80,q44_0,q72_0]
  exact ⟨by simp,hq⟩
 | ret r63 =>
  obtain ⟨rfl,hq⟩:=hq
  obtain rfl:=Option.some.inj h
  simp (maxSteps:=10000000) (implicitDefEqProofs:=false) (disch:=first | with_reducible assumption | exact rfl | exact im_ _ | (fail_if_success show Kn _ _);omega) only [bs,rs85,ls85,Nat.reduceAdd,↓reduceIte,zah,zab a64,zab a80,q44_0,q72_0]
  exact ⟨by simp,hq⟩
def ls77:=And.intro @zhv (And.intro @zfg (@zjy))
theorem q85_0 {a1:List Pair}{a2 a3 a4:Int}{r9001:(List Pair)}{X2:Ob} (h9002:zc8 a2 a3 a4 a1=some r9001):callD (callW Try.prog A0) A0 [.var [.ref 1 0 a1.length 2],.arr (encL zac a1),X2] 85 [.agg [.fn (.func 44) [.ptr 0 0],sw72 1 a1.length],iv a2,iv a3,iv a4]=some (.p (.tup []),some [.var [.ref 1 0 r9001.length 2],.arr (encL zac r9001),X2]):=(zbd (dsw:=[.agg [.fn (.func 44) [.ptr 0 0],sw72 1 a1.length],iv a2,iv a3,iv a4]) (ds':=[.agg [.fn (.func 44) [.ptr 0 0],sw72 1 a1.length],iv a2,iv a3,iv a4]) (i:=0) (ids:=[1]) (o:=.var [.ref 1 0 a1.length 2]) (os:=[.arr (encL zac a1)]) (o':=.var [.ref 1 0 r9001.length 2]) (os':=[.arr (encL zac r9001)]) rfl (by kernel_rfl) (by kernel_rfl) (by kernel_rfl) (by kernel_rfl) (by kernel_rfl) (ybg _ _ _ _ _ h9002) rfl rfl).trans (by kernel_rfl)
theorem q85_1 {a1:List Pair}{n2:Nat}{a3 a4 a5:Int}{r9001:(List Pair)}{X2:Ob} (k0:n2=a1.length) (h9002:zc8 a3 a4 a5 a1=some r9001):callD (callW Try.prog A0) A0 [.var [.ref 1 0 n2 2],.arr (encL zac a1),X2] 85 [.agg [.fn (.func 44) [.ptr 0 0],sw72 1 n2],iv a3,iv a4,iv a5]=some (.p (.tup []),some [.var [.ref 1 0 r9001.length 2],.arr (encL zac r9001),X2]):=by
  rw [show n2=a1.length from by omega];exact (zbd (dsw:=[.agg [.fn (.func 44) [.ptr 0 0],sw72 1 a1.length],iv a3,iv a4,iv a5]) (ds':=[.agg [.fn (.func 44) [.ptr 0 0],sw72 1 a1.length],iv a3,iv a4,iv a5]) (i:=0) (ids:=[1]) (o:=.var [.ref 1 0 a1.length 2]) (os:=[.arr (encL zac a1)]) (o':=.var [.ref 1 0 r9001.length 2]) (os':=[.arr (encL zac r9001)]) rfl (by kernel_rfl) (by kernel_rfl) (by kernel_rfl) (by kernel_rfl) (by kernel_rfl) (ybg _ _ _ _ _ h9002) rfl rfl).trans (by kernel_rfl)
noncomputable def L77_1:Code:=(zak (zae Try.f77)).getD 1 .skip
def g77_1:List Ghost:=[.keep [3,6,7,10]]
noncomputable def F77_1 (s6:Int) (s7:Int):(Int×(List Pair))→St:=fun (s10,y1)=>⟨[J,J,J,.ptr 2 0,J,J,iv s6,iv s7,J,J,iv s10,J,J,J,J,J,J,J,J,J,J,J,J,J,J,J,J,J,J,J,J,J,J,J,J,J,J,J,J,J,J,J,J,J,J],[.var [.ref 1 0 y1.length 2],.arr (encL zac y1),.var [.fn (.func 44) [.ptr 0 0],sw72 1 y1.length]],2⟩
theorem z8g (s6:Int) (s7:Int):∀ s st o,zaj g77_1 st=some (F77_1 s6 s7 s)→iter (zeq s6 s7) s=some o →
    Wp (evW Try.prog A0 77 (.loop L77_1) st) (OutQ (F77_1 s6 s7) g77_1 (fun n s st=>n=2∧(match s with | (s10,y1)=>zap Try.prog A0 77 Try.f77 st=some (.p (.tup []),[.var [.ref 1 0 y1.length 2],.arr (encL zac y1)]))) (fun r st=>zap Try.prog A0 77 Try.f77 st=some (.p (.tup []),[.var [.ref 1 0 r.length 2],.arr (encL zac r)])) o):=by
 refine Wp.iter ?_
 intro s st o hg h
 obtain ⟨s10,y1⟩:=s
 unfold zeq at h;unfold g77_1 F77_1 at hg ⊢
 (try simp only [] at h hg)
 unfold L77_1 zae Try.f77;simp only [zak,ens]
 revert h
 repeat' first | (with_reducible refine gB fun _ _=>?_) | (with_reducible refine gW fun _=>?_) | (with_reducible refine gI (fun _ _=>?_) (fun _ _=>?_))
 all_goals
  intro h;obtain rfl:=Option.some.inj h
  first | (simp (maxSteps:=10000000) (implicitDefEqProofs:=false) (disch:=first | with_reducible assumption | exact rfl | exact im_ _ | (fail_if_success show Kn _ _);omega) only [bs,rs77,ls77,Nat.reduceAdd,↓reduceIte,zfc,zah,zag a84 z84,zab a80,q72_0,q85_0,q85_1,hg];first | (exact ⟨(rfl:Ex.normal=Ex.normal),by (try simp only [List.length_set,zbv, *]);kernel_rfl⟩) | (refine ⟨(rfl:Ex.exit 2=Ex.exit 2),rfl, ?_⟩;show _=_;kernel_rfl)) | (exfalso;omega)
noncomputable def L77_0:Code:=(zak (zae Try.f77)).getD 0 .skip
def g77_0:List Ghost:=[.keep [3,6,7,8,9]]
noncomputable def F77_0 (s6:Int) (s7:Int) (s8:Int):(Int×(List Pair))→St:=fun (s9,y1)=>⟨[J,J,J,.ptr 2 0,J,J,iv s6,iv s7,iv s8,iv s9,J,J,J,J,J,J,J,J,J,J,J,J,J,J,J,J,J,J,J,J,J,J,J,J,J,J,J,J,J,J,J,J,J,J,J],[.var [.ref 1 0 y1.length 2],.arr (encL zac y1),.var [.fn (.func 44) [.ptr 0 0],sw72 1 y1.length]],2⟩
theorem z76 (s6:Int) (s7:Int) (s8:Int):∀ s st o,zaj g77_0 st=some (F77_0 s6 s7 s8 s)→iter (zet s6 s7 s8) s=some o →
    Wp (evW Try.prog A0 77 (.loop L77_0) st) (OutQ (F77_0 s6 s7 s8) g77_0 (fun n s st=>n=0∧zaj [.keep [3,6,7,8,9]] st=some (F77_0 s6 s7 s8 s)) (fun r st=>zap Try.prog A0 77 Try.f77 st=some (.p (.tup []),[.var [.ref 1 0 r.length 2],.arr (encL zac r)])) o):=by
 refine Wp.iter ?_
 intro s st o hg h
 obtain ⟨s9,y1⟩:=s
 unfold zet at h;unfold g77_0 F77_0 at hg ⊢
 (try simp only [] at h hg)
 unfold L77_0 zae Try.f77;simp only [zak,ens]
 revert h
 repeat' first | (with_reducible refine gB fun _ _=>?_) | (with_reducible refine gW fun _=>?_) | (with_reducible refine gI (fun _ _=>?_) (fun _ _=>?_))
 all_goals
  intro h;obtain rfl:=Option.some.inj h
  first | (simp (maxSteps:=10000000) (implicitDefEqProofs:=false) (disch:=first | with_reducible assumption | exact rfl | exact im_ _ | (fail_if_success show Kn _ _);omega) only [bs,rs77,ls77,Nat.reduceAdd,↓reduceIte,zfc,zah,zag a84 z84,zab a80,q72_0,q85_0,q85_1,hg];first | (exact ⟨(rfl:Ex.normal=Ex.normal),by (try simp only [List.length_set,zbv, *]);kernel_rfl⟩) | (exact ⟨(rfl:Ex.exit 0=Ex.exit 0),rfl,by kernel_rfl⟩)) | (exfalso;omega)
theorem yfw  (x1:Int) (x2:Int) (o1:(List Pair)) (r:(List Pair)) (h:zex x1 x2 o1=some r):callW Try.prog A0 77 [.agg [.fn (.func 44) [.ptr 0 0],sw72 1 o1.length],iv x1,iv x2] [.var [.ref 1 0 o1.length 2],.arr (encL zac o1)]=some (.p (.tup []),[.var [.ref 1 0 r.length 2],.arr (encL zac r)]):=by
 refine zax (fn:=Try.f77) (c:=zae Try.f77) 42 rfl rfl (by kernel_rfl) (by kernel_rfl) (by kernel_rfl) ?_
 unfold zex at h;unfold zae Try.f77;simp only [ens]
 revert h
 refine gB fun q1 h2=>?_
 refine gB fun o h9=>?_
 intro h
 simp (maxSteps:=10000000) (implicitDefEqProofs:=false) (disch:=first | with_reducible assumption | exact rfl | exact im_ _ | (fail_if_success show Kn _ _);omega) only [bs,rs77,ls77,Nat.reduceAdd,↓reduceIte,zfc,zah,zag a84 z84,zab a80,q72_0,q85_0,q85_1]
 refine Wp.ctx (fun x=>seqW _ _ _ _ (za6 _ (x))) (z76 x1 (0:Int) (w64 (x2 - x1)) (q1,o1) _ o (by kernel_rfl) h9) ?_
 intro e st hq
 cases o with
 | next _=>(first | cases h | (simp at h))
 | jmp n_ s_ =>
  obtain ⟨rfl,rfl,hq⟩:=hq
  obtain ⟨s9_10,y1_10⟩:=s_
  unfold F77_0 at hq
  (try simp only [] at h hq)
  revert h
  refine gB fun o h20=>?_
  intro h
  simp (maxSteps:=10000000) (implicitDefEqProofs:=false) (disch:=first | with_reducible assumption | exact rfl | exact im_ _ | (fail_if_success show Kn _ _);omega) only [bs,rs77,ls77,Nat.reduceAdd,↓reduceIte,zfc,zah,zag a84 z84,zab a80,q72_0,q85_0,q85_1,hq]
  refine Wp.ctx (fun x=>za6 _ (x)) (z8g x1 (0:Int) (w64 ((w64 (x2 - x1)) - (1:Int)),y1_10) _ o (by kernel_rfl) h20) ?_
  intro e st hq
  cases o with
  | next _=>(first | cases h | (simp at h))
  | jmp n_ s_ =>
   obtain ⟨rfl,rfl,hq⟩:=hq
   obtain ⟨s10_21,y1_21⟩:=s_
   obtain rfl:=Option.some.inj h
   simp (maxSteps:=10000000) (implicitDefEqProofs:=false) (disch:=first | with_reducible assumption | exact rfl | exact im_ _ | (fail_if_success show Kn _ _);omega) only [bs,rs77,ls77,Nat.reduceAdd,↓reduceIte,zfc,zah,zag a84 z84,zab a80,q72_0,q85_0,q85_1]
   exact ⟨by simp,hq⟩
  | ret _=>(first | cases h | (simp at h))
 | ret _=>(first | cases h | (simp at h))
def ls91:=And.intro @zix (And.intro @zr7 (And.intro @zlh (@zft)))
theorem q77_0 {a1:List Pair}{a2 a3:Int}{r9001:(List Pair)}{X2:Ob} (h9002:zex a2 a3 a1=some r9001):callD (callW Try.prog A0) A0 [.var [.ref 1 0 a1.length 2],.arr (encL zac a1),X2] 77 [.agg [.fn (.func 44) [.ptr 0 0],sw72 1 a1.length],iv a2,iv a3]=some (.p (.tup []),some [.var [.ref 1 0 r9001.length 2],.arr (encL zac r9001),X2]):=(zbd (dsw:=[.agg [.fn (.func 44) [.ptr 0 0],sw72 1 a1.length],iv a2,iv a3]) (ds':=[.agg [.fn (.func 44) [.ptr 0 0],sw72 1 a1.length],iv a2,iv a3]) (i:=0) (ids:=[1]) (o:=.var [.ref 1 0 a1.length 2]) (os:=[.arr (encL zac a1)]) (o':=.var [.ref 1 0 r9001.length 2]) (os':=[.arr (encL zac r9001)]) rfl (by kernel_rfl) (by kernel_rfl) (by kernel_rfl) (by kernel_rfl) (by kernel_rfl) (yfw _ _ _ _ h9002) rfl rfl).trans (by kernel_rfl)
theorem q44_1 {a1:List Pair}{a2 a3:Int}{r9001:Bool}{X2 X3:Ob} (h9002:zaz a2 a3 a1=some r9001):callD (callW Try.prog A0) A0 [.var [.ref 1 0 a1.length 2],.arr (encL zac a1),X2,X3] 44 [iv a2,iv a3,.ptr 0 0]=some (.p (.v (.bool r9001)),some [.var [.ref 1 0 a1.length 2],.arr (encL zac a1),X2,X3]):=(zbd (dsw:=[iv a2,iv a3,.ptr 0 0]) (ds':=[iv a2,iv a3,.ptr 0 0]) (i:=0) (ids:=[1]) (o:=.var [.ref 1 0 a1.length 2]) (os:=[.arr (encL zac a1)]) (o':=.var [.ref 1 0 a1.length 2]) (os':=[.arr (encL zac a1)]) rfl (by kernel_rfl) (by kernel_rfl) (by kernel_rfl) (by kernel_rfl) (by kernel_rfl) (yao _ _ _ _ h9002) rfl rfl).trans (by kernel_rfl)
theorem yji  (x1:Int) (x2:Int) (o1:(List Pair)) (o2:Int) (r:(Int×Int×Int)) (h:zcg x1 x2 o1 o2=some r):callW Try.prog A0 91 [.agg [.fn (.func 44) [.ptr 0 0],sw72 1 o1.length],iv x1,iv x2,.ptr 2 0] [.var [.ref 1 0 o1.length 2],.arr (encL zac o1),.var [iv o2]]=some (.p (.tup [.v (.int .i64 r.1),.v (.int .i64 r.2.1)]),[.var [.ref 1 0 o1.length 2],.arr (encL zac o1),.var [iv r.2.2]]):=by
 refine zax (fn:=Try.f91) (c:=zae Try.f91) 20 rfl rfl (by kernel_rfl) (by kernel_rfl) (by kernel_rfl) ?_
 unfold zcg at h;unfold zae Try.f91;simp only [ens]
 revert h
 repeat' first | (with_reducible refine gB fun _ _=>?_) | (with_reducible refine gT (fun _ _=>?_) (fun _ _=>?_))
 all_goals
  intro h;obtain rfl:=Option.some.inj h
  first | (simp (maxSteps:=10000000) (implicitDefEqProofs:=false) (disch:=first | with_reducible assumption | exact rfl | exact im_ _ | (fail_if_success show Kn _ _);omega) only [bs,rs91,ls91,Nat.reduceAdd,↓reduceIte,zah,zab a3,zab a64,znk,zob,q44_1,zdx z3];refine ⟨by simp, ?_⟩;show _=_;kernel_rfl) | (exfalso;omega)
def ls89:=And.intro @ya5 (And.intro @yah (@zjy))
theorem q91_0 {a1:List Pair}{a2 a3 a4:Int}{r9001:(Int×Int×Int)}{X3:Ob} (h9002:zcg a3 a4 a1 a2=some r9001):callD (callW Try.prog A0) A0 [.var [.ref 1 0 a1.length 2],.arr (encL zac a1),.var [iv a2],X3] 91 [.agg [.fn (.func 44) [.ptr 0 0],sw72 1 a1.length],iv a3,iv a4,.ptr 2 0]=some (.p (.tup [.v (.int .i64 r9001.1),.v (.int .i64 r9001.2.1)]),some [.var [.ref 1 0 a1.length 2],.arr (encL zac a1),.var [iv r9001.2.2],X3]):=(zbd (dsw:=[.agg [.fn (.func 44) [.ptr 0 0],sw72 1 a1.length],iv a3,iv a4,.ptr 2 0]) (ds':=[.agg [.fn (.func 44) [.ptr 0 0],sw72 1 a1.length],iv a3,iv a4,.ptr 2 0]) (i:=0) (ids:=[1,2]) (o:=.var [.ref 1 0 a1.length 2]) (os:=[.arr (encL zac a1),.var [iv a2]]) (o':=.var [.ref 1 0 a1.length 2]) (os':=[.arr (encL zac a1),.var [iv r9001.2.2]]) rfl (by kernel_rfl) (by kernel_rfl) (by kernel_rfl) (by kernel_rfl) (by kernel_rfl) (yji _ _ _ _ _ h9002) rfl rfl).trans (by kernel_rfl)
theorem ya4  (x1:Int) (x2:Int) (x3:Int) (o1:(List Pair)) (o2:Int) (r:(Int×Int)) (h:zb5 x1 x2 x3 o1 o2=some r):callW Try.prog A0 89 [.agg [.fn (.func 44) [.ptr 0 0],sw72 1 o1.length],iv x1,iv x2,iv x3,.ptr 2 0] [.var [.ref 1 0 o1.length 2],.arr (encL zac o1),.var [iv o2]]=some (.p (.v (.int .i64 r.1)),[.var [.ref 1 0 o1.length 2],.arr (encL zac o1),.var [iv r.2]]):=by
 refine zax (fn:=Try.f89) (c:=zae Try.f89) 31 rfl rfl (by kernel_rfl) (by kernel_rfl) (by kernel_rfl) ?_
 unfold zb5 at h;unfold zae Try.f89;simp only [ens]
 revert h
 repeat' (with_reducible refine gB fun _ _=>?_)
 intro h;obtain rfl:=Option.some.inj h
 simp (maxSteps:=10000000) (implicitDefEqProofs:=false) (disch:=first | with_reducible assumption | exact rfl | exact im_ _ | (fail_if_success show Kn _ _);omega) only [bs,rs89,ls89,Nat.reduceAdd,↓reduceIte,zah,zag a84 z84,q91_0]
 refine ⟨by simp, ?_⟩;show _=_;kernel_rfl
def ls88:=@zjy
theorem q89_0 {a1:List Pair}{a2 a3 a4 a5:Int}{r9001:(Int×Int)}{X3:Ob} (h9002:zb5 a3 a4 a5 a1 a2=some r9001):callD (callW Try.prog A0) A0 [.var [.ref 1 0 a1.length 2],.arr (encL zac a1),.var [iv a2],X3] 89 [.agg [.fn (.func 44) [.ptr 0 0],sw72 1 a1.length],iv a3,iv a4,iv a5,.ptr 2 0]=some (.p (.v (.int .i64 r9001.1)),some [.var [.ref 1 0 a1.length 2],.arr (encL zac a1),.var [iv r9001.2],X3]):=(zbd (dsw:=[.agg [.fn (.func 44) [.ptr 0 0],sw72 1 a1.length],iv a3,iv a4,iv a5,.ptr 2 0]) (ds':=[.agg [.fn (.func 44) [.ptr 0 0],sw72 1 a1.length],iv a3,iv a4,iv a5,.ptr 2 0]) (i:=0) (ids:=[1,2]) (o:=.var [.ref 1 0 a1.length 2]) (os:=[.arr (encL zac a1),.var [iv a2]]) (o':=.var [.ref 1 0 a1.length 2]) (os':=[.arr (encL zac a1),.var [iv r9001.2]]) rfl (by kernel_rfl) (by kernel_rfl) (by kernel_rfl) (by kernel_rfl) (by kernel_rfl) (ya4 _ _ _ _ _ _ h9002) rfl rfl).trans (by kernel_rfl)
theorem ygl  (x1:Int) (o1:(List Pair)) (o2:Int) (r:(Int×Int)) (h:za4 x1 o1 o2=some r):callW Try.prog A0 88 [.agg [.fn (.func 44) [.ptr 0 0],sw72 1 o1.length],iv x1,.ptr 2 0] [.var [.ref 1 0 o1.length 2],.arr (encL zac o1),.var [iv o2]]=some (.p (.v (.int .i64 r.1)),[.var [.ref 1 0 o1.length 2],.arr (encL zac o1),.var [iv r.2]]):=by
 refine zax (fn:=Try.f88) (c:=zae Try.f88) 12 rfl rfl (by kernel_rfl) (by kernel_rfl) (by kernel_rfl) ?_
 unfold za4 at h;unfold zae Try.f88;simp only [ens]
 revert h
 repeat' (with_reducible refine gB fun _ _=>?_)
 intro h;obtain rfl:=Option.some.inj h
 simp (maxSteps:=10000000) (implicitDefEqProofs:=false) (disch:=first | with_reducible assumption | exact rfl | exact im_ _ | (fail_if_success show Kn _ _);omega) only [bs,rs88,ls88,Nat.reduceAdd,↓reduceIte,zah,zag a84 z84,q89_0]
 refine ⟨by simp, ?_⟩;show _=_;kernel_rfl
def ls79:=And.intro @al_3 (And.intro @zlh (@zjy))
theorem q89_1 {a1:List Pair}{a2 a3 a4 a5:Int}{r9001:(Int×Int)}{X2:Ob} (h9002:zb5 a3 a4 a5 a1 a2=some r9001):callD (callW Try.prog A0) A0 [.var [.ref 1 0 a1.length 2],.arr (encL zac a1),X2,.var [iv a2]] 89 [.agg [.fn (.func 44) [.ptr 0 0],sw72 1 a1.length],iv a3,iv a4,iv a5,.ptr 3 0]=some (.p (.v (.int .i64 r9001.1)),some [.var [.ref 1 0 a1.length 2],.arr (encL zac a1),X2,.var [iv r9001.2]]):=(zbd (dsw:=[.agg [.fn (.func 44) [.ptr 0 0],sw72 1 a1.length],iv a3,iv a4,iv a5,.ptr 3 0]) (ds':=[.agg [.fn (.func 44) [.ptr 0 0],sw72 1 a1.length],iv a3,iv a4,iv a5,.ptr 2 0]) (i:=0) (ids:=[1,3]) (o:=.var [.ref 1 0 a1.length 2]) (os:=[.arr (encL zac a1),.var [iv a2]]) (o':=.var [.ref 1 0 a1.length 2]) (os':=[.arr (encL zac a1),.var [iv r9001.2]]) rfl (by kernel_rfl) (by kernel_rfl) (by kernel_rfl) (by kernel_rfl) (by kernel_rfl) (ya4 _ _ _ _ _ _ h9002) rfl rfl).trans (by kernel_rfl)
theorem q88_0 {a1:List Pair}{a2 a3:Int}{r9001:(Int×Int)}{X2:Ob} (h9002:za4 a3 a1 a2=some r9001):callD (callW Try.prog A0) A0 [.var [.ref 1 0 a1.length 2],.arr (encL zac a1),X2,.var [iv a2]] 88 [.agg [.fn (.func 44) [.ptr 0 0],sw72 1 a1.length],iv a3,.ptr 3 0]=some (.p (.v (.int .i64 r9001.1)),some [.var [.ref 1 0 a1.length 2],.arr (encL zac a1),X2,.var [iv r9001.2]]):=(zbd (dsw:=[.agg [.fn (.func 44) [.ptr 0 0],sw72 1 a1.length],iv a3,.ptr 3 0]) (ds':=[.agg [.fn (.func 44) [.ptr 0 0],sw72 1 a1.length],iv a3,.ptr 2 0]) (i:=0) (ids:=[1,3]) (o:=.var [.ref 1 0 a1.length 2]) (os:=[.arr (encL zac a1),.var [iv a2]]) (o':=.var [.ref 1 0 a1.length 2]) (os':=[.arr (encL zac a1),.var [iv r9001.2]]) rfl (by kernel_rfl) (by kernel_rfl) (by kernel_rfl) (by kernel_rfl) (by kernel_rfl) (ygl _ _ _ _ h9002) rfl rfl).trans (by kernel_rfl)
theorem ya0  (x1:Int) (x2:Int) (o1:(List Pair)) (r:(Int×Int)) (h:zcc x1 x2 o1=some r):callW Try.prog A0 79 [.agg [.fn (.func 44) [.ptr 0 0],sw72 1 o1.length],iv x1,iv x2] [.var [.ref 1 0 o1.length 2],.arr (encL zac o1)]=some (.p (.tup [.v (.int .i64 r.1),.v (.int .i64 r.2)]),[.var [.ref 1 0 o1.length 2],.arr (encL zac o1)]):=by
 refine zax (fn:=Try.f79) (c:=zae Try.f79) 54 rfl rfl (by kernel_rfl) (by kernel_rfl) (by kernel_rfl) ?_
 unfold zcc at h;unfold zae Try.f79;simp only [ens]
 revert h
 repeat' first | (with_reducible refine gB fun _ _=>?_) | (with_reducible refine gI (fun _ _=>?_) (fun _ _=>?_))
 all_goals
  intro h;obtain rfl:=Option.some.inj h
  first | (simp (maxSteps:=10000000) (implicitDefEqProofs:=false) (disch:=first | with_reducible assumption | exact rfl | exact im_ _ | (fail_if_success show Kn _ _);omega) only [bs,rs79,ls79,Nat.reduceAdd,↓reduceIte,Int.reduceEq,Int.reduceLE,Int.reduceLT,zfc,zah,zag a84 z84,zab a3,q88_0,q89_1];refine ⟨by simp, ?_⟩;show _=_;kernel_rfl) | (exfalso;omega)
def ls80:=And.intro @zhv (@zfg)
noncomputable def L80_0:Code:=(zak (zae Try.f80)).getD 0 .skip
def g80_0:List Ghost:=[.keep [3,6,7]]
noncomputable def F80_0:(Int×Int×(List Pair))→St:=fun (s6,s7,y1)=>⟨[J,J,J,.ptr 2 0,J,J,iv s6,iv s7,J,J,J,J,J,J,J,J,J,J,J,J,J,J,J],[.var [.ref 1 0 y1.length 2],.arr (encL zac y1),.var [.fn (.func 44) [.ptr 0 0],sw72 1 y1.length]],2⟩
theorem z7n:∀ s st o,zaj g80_0 st=some (F80_0 s)→iter (zdg) s=some o →
    Wp (evW Try.prog A0 80 (.loop L80_0) st) (OutQ (F80_0) g80_0 (fun n s st=>n=0∧(match s with | (s6,s7,y1)=>zap Try.prog A0 80 Try.f80 st=some (.p (.tup []),[.var [.ref 1 0 y1.length 2],.arr (encL zac y1)]))) (fun r st=>zap Try.prog A0 80 Try.f80 st=some (.p (.tup []),[.var [.ref 1 0 r.length 2],.arr (encL zac r)])) o):=by
 refine Wp.iter ?_
 intro s st o hg h
 obtain ⟨s6,s7,y1⟩:=s
 unfold zdg at h;unfold g80_0 F80_0 at hg ⊢
 (try simp only [] at h hg)
 unfold L80_0 zae Try.f80;simp only [zak,ens]
 revert h
 repeat' first | (with_reducible refine gB fun _ _=>?_) | (with_reducible refine gW fun _=>?_) | (with_reducible refine gI (fun _ _=>?_) (fun _ _=>?_))
 all_goals
  intro h;obtain rfl:=Option.some.inj h
  first | (simp (maxSteps:=10000000) (implicitDefEqProofs:=false) (disch:=first | with_reducible assumption | exact rfl | exact im_ _ | (fail_if_success show Kn _ _);omega) only [bs,rs80,ls80,Nat.reduceAdd,↓reduceIte,zah,zab a80,q72_0,hg];first | (exact ⟨(rfl:Ex.normal=Ex.normal),by (try simp only [List.length_set,zbv, *]);kernel_rfl⟩) | (refine ⟨(rfl:Ex.exit 0=Ex.exit 0),rfl, ?_⟩;show _=_;kernel_rfl)) | (exfalso;omega)
theorem yaq  (x1:Int) (x2:Int) (o1:(List Pair)) (r:(List Pair)) (h:zb3 x1 x2 o1=some r):callW Try.prog A0 80 [.agg [.fn (.func 44) [.ptr 0 0],sw72 1 o1.length],iv x1,iv x2] [.var [.ref 1 0 o1.length 2],.arr (encL zac o1)]=some (.p (.tup []),[.var [.ref 1 0 r.length 2],.arr (encL zac r)]):=by
 refine zax (fn:=Try.f80) (c:=zae Try.f80) 20 rfl rfl (by kernel_rfl) (by kernel_rfl) (by kernel_rfl) ?_
 unfold zb3 at h;unfold zae Try.f80;simp only [ens]
 revert h
 refine gB fun o h11=>?_
 intro h
 simp (maxSteps:=10000000) (implicitDefEqProofs:=false) (disch:=first | with_reducible assumption | exact rfl | exact im_ _ | (fail_if_success show Kn _ _);omega) only [bs,rs80,ls80,Nat.reduceAdd,↓reduceIte,zah,zab a80,q72_0]
 refine Wp.ctx (fun x=>za6 _ (x)) (z7n (x1,w64 (x2 - (1:Int)),o1) _ o (by kernel_rfl) h11) ?_
 intro e st hq
 cases o with
 | next _=>(first | cases h | (simp at h))
 | jmp n_ s_ =>
  obtain ⟨rfl,rfl,hq⟩:=hq
  obtain ⟨s6_12,s7_12,y1_12⟩:=s_
  obtain rfl:=Option.some.inj h
  simp (maxSteps:=10000000) (implicitDefEqProofs:=false) (disch:=first | with_reducible assumption | exact rfl | exact im_ _ | (fail_if_success show Kn _ _);omega) only [bs,rs80,ls80,Nat.reduceAdd,↓reduceIte,zah,zab a80,q72_0]
  exact ⟨by simp,hq⟩
 | ret _=>(first | cases h | (simp at h))
def ls81:=And.intro @zix (And.intro @zhv (And.intro @zft (@zfg)))
noncomputable def L81_3:Code:=(zak (zae Try.f81)).getD 3 .skip
def g81_3:List Ghost:=[.keep [1,2,3,7,8,10]]
noncomputable def F81_3 (s1:Int) (s2:Int) (s7:Int) (s8:Int):(Int×(List Pair))→St:=fun (s10,y1)=>⟨[J,iv s1,iv s2,.ptr 2 0,J,J,J,iv s7,iv s8,J,iv s10,J,J,J,J,J,J,J,J,J,J,J,J,J,J,J,J,J,J,J,J,J,J,J,J,J,J,J,J,J,J,J,J,J,J,J,J,J,J,J,J,J,J,J,J,J,J,J,J,J,J,J,J,J,J,J,J,J,J,J,J,J,J,J,J,J,J,J,J,J,J,J,J,J,J,J,J,J,J,J,J],[.var [.ref 1 0 y1.length 2],.arr (encL zac y1),.var [.fn (.func 44) [.ptr 0 0],sw72 1 y1.length]],2⟩
theorem zyu (s1:Int) (s2:Int) (s7:Int) (s8:Int):∀ s st o,zaj g81_3 st=some (F81_3 s1 s2 s7 s8 s)→iter (zbh s1 s2 s7 s8) s=some o →
    Wp (evW Try.prog A0 81 (.loop L81_3) st) (OutQ (F81_3 s1 s2 s7 s8) g81_3 (fun n s st=>n=6∧zaj [.keep [1,2,3,7,8,10]] st=some (F81_3 s1 s2 s7 s8 s)) (fun r st=>zap Try.prog A0 81 Try.f81 st=some (.p (.v (.bool r.1)),[.var [.ref 1 0 r.2.length 2],.arr (encL zac r.2)])) o):=by
 refine Wp.iter ?_
 intro s st o hg h
 obtain ⟨s10,y1⟩:=s
 unfold zbh at h;unfold g81_3 F81_3 at hg ⊢
 (try simp only [] at h hg)
 unfold L81_3 zae Try.f81;simp only [zak,ens]
 revert h
 repeat' first | (with_reducible refine gB fun _ _=>?_) | (with_reducible refine gW fun _=>?_) | (with_reducible refine gT (fun _ _=>?_) (fun _ _=>?_)) | (with_reducible refine gI (fun _ _=>?_) (fun _ _=>?_))
 all_goals
  intro h;obtain rfl:=Option.some.inj h
  first | (simp (maxSteps:=10000000) (implicitDefEqProofs:=false) (disch:=first | with_reducible assumption | exact rfl | exact im_ _ | (fail_if_success show Kn _ _);omega) only [bs,rs81,ls81,Nat.reduceAdd,↓reduceIte,zah,zab a64,zab a80,q44_0,q72_0,hg];first | (exact ⟨(rfl:Ex.normal=Ex.normal),by (try simp only [List.length_set,zbv, *]);kernel_rfl⟩) | (exact ⟨(rfl:Ex.exit 6=Ex.exit 6),rfl,by kernel_rfl⟩)) | (exfalso;omega)
noncomputable def L81_2:Code:=(zak (zae Try.f81)).getD 2 .skip
def g81_2:List Ghost:=[.keep [1,2,3,7,8,9]]
noncomputable def F81_2 (s1:Int) (s2:Int) (s7:Int) (s8:Int):(Int×(List Pair))→St:=fun (s9,y1)=>⟨[J,iv s1,iv s2,.ptr 2 0,J,J,J,iv s7,iv s8,iv s9,J,J,J,J,J,J,J,J,J,J,J,J,J,J,J,J,J,J,J,J,J,J,J,J,J,J,J,J,J,J,J,J,J,J,J,J,J,J,J,J,J,J,J,J,J,J,J,J,J,J,J,J,J,J,J,J,J,J,J,J,J,J,J,J,J,J,J,J,J,J,J,J,J,J,J,J,J,J,J,J,J],[.var [.ref 1 0 y1.length 2],.arr (encL zac y1),.var [.fn (.func 44) [.ptr 0 0],sw72 1 y1.length]],2⟩
theorem z8o (s1:Int) (s2:Int) (s7:Int) (s8:Int):∀ s st o,zaj g81_2 st=some (F81_2 s1 s2 s7 s8 s)→iter (zby s1 s2 s7 s8) s=some o →
    Wp (evW Try.prog A0 81 (.loop L81_2) st) (OutQ (F81_2 s1 s2 s7 s8) g81_2 (fun n s st=>n=4∧zaj [.keep [1,2,3,7,8,9]] st=some (F81_2 s1 s2 s7 s8 s)) (fun r st=>zap Try.prog A0 81 Try.f81 st=some (.p (.v (.bool r.1)),[.var [.ref 1 0 r.2.length 2],.arr (encL zac r.2)])) o):=by
 refine Wp.iter ?_
 intro s st o hg h
 obtain ⟨s9,y1⟩:=s
 unfold zby at h;unfold g81_2 F81_2 at hg ⊢
 (try simp only [] at h hg)
 unfold L81_2 zae Try.f81;simp only [zak,ens]
 revert h
 repeat' first | (with_reducible refine gB fun _ _=>?_) | (with_reducible refine gW fun _=>?_) | (with_reducible refine gT (fun _ _=>?_) (fun _ _=>?_)) | (with_reducible refine gI (fun _ _=>?_) (fun _ _=>?_))
 all_goals
  intro h;obtain rfl:=Option.some.inj h
  first | (simp (maxSteps:=10000000) (implicitDefEqProofs:=false) (disch:=first | with_reducible assumption | exact rfl | exact im_ _ | (fail_if_success show Kn _ _);omega) only [bs,rs81,ls81,Nat.reduceAdd,↓reduceIte,zah,zab a64,zab a80,q44_0,q72_0,hg];first | (exact ⟨(rfl:Ex.normal=Ex.normal),by (try simp only [List.length_set,zbv, *]);kernel_rfl⟩) | (exact ⟨(rfl:Ex.exit 4=Ex.exit 4),rfl,by kernel_rfl⟩)) | (exfalso;omega)
noncomputable def L81_1:Code:=(zak (zae Try.f81)).getD 1 .skip
def g81_1:List Ghost:=[.keep [1,2,3,7,8]]
noncomputable def F81_1 (s1:Int) (s2:Int) (s8:Int) (y1:(List Pair)):Int→St:=fun s7=>⟨[J,iv s1,iv s2,.ptr 2 0,J,J,J,iv s7,iv s8,J,J,J,J,J,J,J,J,J,J,J,J,J,J,J,J,J,J,J,J,J,J,J,J,J,J,J,J,J,J,J,J,J,J,J,J,J,J,J,J,J,J,J,J,J,J,J,J,J,J,J,J,J,J,J,J,J,J,J,J,J,J,J,J,J,J,J,J,J,J,J,J,J,J,J,J,J,J,J,J,J,J],[.var [.ref 1 0 y1.length 2],.arr (encL zac y1),.var [.fn (.func 44) [.ptr 0 0],sw72 1 y1.length]],2⟩
theorem z6t (s1:Int) (s2:Int) (s8:Int) (y1:(List Pair)):∀ s st o,zaj g81_1 st=some (F81_1 s1 s2 s8 y1 s)→iter (zbx s1 s2 s8 y1) s=some o →
    Wp (evW Try.prog A0 81 (.loop L81_1) st) (OutQ (F81_1 s1 s2 s8 y1) g81_1 (fun n s st=>n=2∧zaj [.keep [1,2,3,7,8]] st=some (F81_1 s1 s2 s8 y1 s)) (fun r st=>zap Try.prog A0 81 Try.f81 st=some (.p (.v (.bool r.1)),[.var [.ref 1 0 r.2.length 2],.arr (encL zac r.2)])) o):=by
 refine Wp.iter ?_
 intro s st o hg h
 generalize s=s7 at hg h
 unfold zbx at h;unfold g81_1 F81_1 at hg ⊢
 (try simp only [] at h hg)
 unfold L81_1 zae Try.f81;simp only [zak,ens]
 revert h
 repeat' first | (with_reducible refine gB fun _ _=>?_) | (with_reducible refine gT (fun _ _=>?_) (fun _ _=>?_)) | (with_reducible refine gI (fun _ _=>?_) (fun _ _=>?_))
 all_goals
  intro h;obtain rfl:=Option.some.inj h
  first | (simp (maxSteps:=10000000) (implicitDefEqProofs:=false) (disch:=first | with_reducible assumption | exact rfl | exact im_ _ | (fail_if_success show Kn _ _);omega) only [bs,rs81,ls81,Nat.reduceAdd,↓reduceIte,zah,zab a64,zab a80,q44_0,q72_0,hg];first | (exact ⟨(rfl:Ex.exit 2=Ex.exit 2),rfl,by kernel_rfl⟩) | (exact ⟨(rfl:Ex.normal=Ex.normal),by kernel_rfl⟩)) | (exfalso;omega)
noncomputable def L81_0:Code:=(zak (zae Try.f81)).getD 0 .skip
def g81_0:List Ghost:=[.keep [1,2,3,7,8]]
noncomputable def F81_0 (s1:Int) (s2:Int):(Int×Int×(List Pair))→St:=fun (s7,s8,y1)=>⟨[J,iv s1,iv s2,.ptr 2 0,J,J,J,iv s7,iv s8,J,J,J,J,J,J,J,J,J,J,J,J,J,J,J,J,J,J,J,J,J,J,J,J,J,J,J,J,J,J,J,J,J,J,J,J,J,J,J,J,J,J,J,J,J,J,J,J,J,J,J,J,J,J,J,J,J,J,J,J,J,J,J,J,J,J,J,J,J,J,J,J,J,J,J,J,J,J,J,J,J,J],[.var [.ref 1 0 y1.length 2],.arr (encL zac y1),.var [.fn (.func 44) [.ptr 0 0],sw72 1 y1.length]],2⟩
theorem z7i (s1:Int) (s2:Int):∀ s st o,zaj g81_0 st=some (F81_0 s1 s2 s)→iter (zbw s1 s2) s=some o →
    Wp (evW Try.prog A0 81 (.loop L81_0) st) (OutQ (F81_0 s1 s2) g81_0 (fun n s st=>n=0∧zaj [.keep [1,2,3,7,8]] st=some (F81_0 s1 s2 s)) (fun r st=>zap Try.prog A0 81 Try.f81 st=some (.p (.v (.bool r.1)),[.var [.ref 1 0 r.2.length 2],.arr (encL zac r.2)])) o):=by
 refine Wp.iter ?_
 intro s st o hg h
 obtain ⟨s7,s8,y1⟩:=s
 unfold zbw at h;unfold g81_0 F81_0 at hg ⊢
 (try simp only [] at h hg)
 unfold L81_0 zae Try.f81;simp only [zak,ens]
 revert h
 refine gI (fun h1 _=>?_) (fun h1 _=>?_)
 ·refine gB fun o h7=>?_
  intro h
  simp (maxSteps:=10000000) (implicitDefEqProofs:=false) (disch:=first | with_reducible assumption | exact rfl | exact im_ _ | (fail_if_success show Kn _ _);omega) only [bs,rs81,ls81,Nat.reduceAdd,↓reduceIte,zah,zab a64,zab a80,q44_0,q72_0,hg]
  refine Wp.ctx (fun x=>seqW _ _ _ _ (za6 _ (seqW _ _ _ _ (za6 _ (x))))) (z6t s1 s2 s8 y1 s7 _ o (by kernel_rfl) h7) ?_
  intro e st hq
  cases o with
  | next _=>(first | cases h | (simp at h))
  | jmp n_ s_ =>
   obtain ⟨rfl,rfl,hq⟩:=hq
   generalize s_=s7_8 at h hq
   unfold F81_1 at hq
   (try simp only [] at h hq)
   revert h
   refine gI (fun h9 _=>?_) (fun h9 _=>?_)
   ·intro h;obtain rfl:=Option.some.inj h
    simp (maxSteps:=10000000) (implicitDefEqProofs:=false) (disch:=first | with_reducible assumption | exact rfl | exact im_ _ | (fail_if_success show Kn _ _);omega) only [bs,rs81,ls81,Nat.reduceAdd,↓reduceIte,zah,zab a64,zab a80,q44_0,q72_0,hg,hq]
    refine ⟨(rfl:Ex.ret=Ex.ret), ?_⟩;show _=_;kernel_rfl
   ·refine gI (fun h10 _=>?_) (fun h10 _=>?_)
    ·intro h;obtain rfl:=Option.some.inj h
     simp (maxSteps:=10000000) (implicitDefEqProofs:=false) (disch:=first | with_reducible assumption | exact rfl | exact im_ _ | (fail_if_success show Kn _ _);omega) only [bs,rs81,ls81,Nat.reduceAdd,↓reduceIte,zah,zab a64,zab a80,q44_0,q72_0,hg,hq]
     refine ⟨(rfl:Ex.ret=Ex.ret), ?_⟩;show _=_;kernel_rfl
    ·refine gB fun r13 h11=>?_
     refine gW fun h14=>?_
     refine gI (fun h15 _=>?_) (fun h15 _=>?_)
     ·refine gB fun o h25=>?_
      intro h
      simp (maxSteps:=10000000) (implicitDefEqProofs:=false) (disch:=first | with_reducible assumption | exact rfl | exact im_ _ | (fail_if_success show Kn _ _);omega) only [bs,rs81,ls81,Nat.reduceAdd,↓reduceIte,zah,zab a64,zab a80,q44_0,q72_0,hg,hq]
      refine Wp.ctx (fun x=>seqW _ _ _ _ (za6 _ (seqW _ _ _ _ (za6 _ (x))))) (z8o s1 s2 s7_8 s8 (w64 (s7_8 - (1:Int)),r13) _ o (by unfold F81_2;simp only [List.length_set,zbv,h14];kernel_rfl) h25) ?_
      intro e st hq
      cases o with
      | next _=>(first | cases h | (simp at h))
      | jmp n_ s_ =>
       obtain ⟨rfl,rfl,hq⟩:=hq
       obtain ⟨s9_26,y1_26⟩:=s_
       unfold F81_2 at hq
       (try simp only [] at h hq)
       revert h
       refine gI (fun h27 _=>?_) (fun h27 _=>?_)
       ·refine gB fun o h37=>?_
        intro h
        simp (maxSteps:=10000000) (implicitDefEqProofs:=false) (disch:=first | with_reducible assumption | exact rfl | exact im_ _ | (fail_if_success show Kn _ _);omega) only [bs,rs81,ls81,Nat.reduceAdd,↓reduceIte,zah,zab a64,zab a80,q44_0,q72_0,hg,hq,hq]
        refine Wp.ctx (fun x=>seqW _ _ _ _ (za6 _ (za6 _ (x)))) (zyu s1 s2 s7_8 s8 (w64 (s7_8+(1:Int)),y1_26) _ o (by kernel_rfl) h37) ?_
        intro e st hq
        cases o with
        | next _=>(first | cases h | (simp at h))
        | jmp n_ s_ =>
         obtain ⟨rfl,rfl,hq⟩:=hq
         obtain ⟨s10_38,y1_38⟩:=s_
         unfold F81_3 at hq
         (try simp only [] at h hq)
         revert h
         intro h;obtain rfl:=Option.some.inj h
         simp (maxSteps:=10000000) (implicitDefEqProofs:=false) (disch:=first | with_reducible assumption | exact rfl | exact im_ _ | (fail_if_success show Kn _ _);omega) only [bs,rs81,ls81,Nat.reduceAdd,↓reduceIte,zah,zab a64,zab a80,q44_0,q72_0,hg,hq,hq,hq]
         exact ⟨(rfl:Ex.normal=Ex.normal),by kernel_rfl⟩
        | ret _=>(first | cases h | (simp at h))
       ·intro h
        simp (maxSteps:=10000000) (implicitDefEqProofs:=false) (disch:=first | with_reducible assumption | exact rfl | exact im_ _ | (fail_if_success show Kn _ _);omega) only [bs,rs81,ls81,Nat.reduceAdd,↓reduceIte,zah,zab a64,zab a80,q44_0,q72_0,hg,hq,hq]
        refine Wp.gh (fun x=>regW _ _ _ _ _ x) ⟨[J,iv s1,iv s2,.ptr 2 0,J,J,J,iv s7_8,iv s8,J,J,J,J,J,J,J,J,J,J,J,J,J,J,J,J,J,J,J,J,J,J,J,J,J,J,J,J,J,J,J,J,J,J,J,J,J,J,J,J,J,J,J,J,J,J,J,J,J,J,J,J,J,J,J,J,J,J,J,J,J,J,J,J,J,J,J,J,J,J,J,J,J,J,J,J,J,J,J,J,J,J],[.var [.ref 1 0 y1_26.length 2],.arr (encL zac y1_26),.var [.fn (.func 44) [.ptr 0 0],sw72 1 y1_26.length]],2⟩ (by kernel_rfl) ?_
        revert h
        intro h;obtain rfl:=Option.some.inj h
        simp (maxSteps:=10000000) (implicitDefEqProofs:=false) (disch:=first | with_reducible assumption | exact rfl | exact im_ _ | (fail_if_success show Kn _ _);omega) only [bs,rs81,ls81,Nat.reduceAdd,↓reduceIte,zah,zab a64,zab a80,q44_0,q72_0,hg,hq,hq]
        exact ⟨(rfl:Ex.normal=Ex.normal),by kernel_rfl⟩
      | ret _=>(first | cases h | (simp at h))
     ·intro h
      simp (maxSteps:=10000000) (implicitDefEqProofs:=false) (disch:=first | with_reducible assumption | exact rfl | exact im_ _ | (fail_if_success show Kn _ _);omega) only [bs,rs81,ls81,Nat.reduceAdd,↓reduceIte,zah,zab a64,zab a80,q44_0,q72_0,hg,hq]
      refine Wp.gh (fun x=>seqW _ _ _ _ (za6 _ (seqW _ _ _ _ (regW _ _ _ _ _ x)))) ⟨[J,iv s1,iv s2,.ptr 2 0,J,J,J,iv s7_8,iv s8,J,J,J,J,J,J,J,J,J,J,J,J,J,J,J,J,J,J,J,J,J,J,J,J,J,J,J,J,J,J,J,J,J,J,J,J,J,J,J,J,J,J,J,J,J,J,J,J,J,J,J,J,J,J,J,J,J,J,J,J,J,J,J,J,J,J,J,J,J,J,J,J,J,J,J,J,J,J,J,J,J,J],[.var [.ref 1 0 r13.length 2],.arr (encL zac r13),.var [.fn (.func 44) [.ptr 0 0],sw72 1 r13.length]],2⟩ (by simp only [List.length_set,zbv,h14];kernel_rfl) ?_
      revert h
      refine gI (fun h39 _=>?_) (fun h39 _=>?_)
      ·refine gB fun o h49=>?_
       intro h
       simp (maxSteps:=10000000) (implicitDefEqProofs:=false) (disch:=first | with_reducible assumption | exact rfl | exact im_ _ | (fail_if_success show Kn _ _);omega) only [bs,rs81,ls81,Nat.reduceAdd,↓reduceIte,zah,zab a64,zab a80,q44_0,q72_0,hg,hq]
       refine Wp.ctx (fun x=>seqW _ _ _ _ (za6 _ (za6 _ (x)))) (zyu s1 s2 s7_8 s8 (w64 (s7_8+(1:Int)),r13) _ o (by kernel_rfl) h49) ?_
       intro e st hq
       cases o with
       | next _=>(first | cases h | (simp at h))
       | jmp n_ s_ =>
        obtain ⟨rfl,rfl,hq⟩:=hq
        obtain ⟨s10_50,y1_50⟩:=s_
        unfold F81_3 at hq
        (try simp only [] at h hq)
        revert h
        intro h;obtain rfl:=Option.some.inj h
        simp (maxSteps:=10000000) (implicitDefEqProofs:=false) (disch:=first | with_reducible assumption | exact rfl | exact im_ _ | (fail_if_success show Kn _ _);omega) only [bs,rs81,ls81,Nat.reduceAdd,↓reduceIte,zah,zab a64,zab a80,q44_0,q72_0,hg,hq,hq]
        exact ⟨(rfl:Ex.normal=Ex.normal),by kernel_rfl⟩
       | ret _=>(first | cases h | (simp at h))
      ·intro h
       simp (maxSteps:=10000000) (implicitDefEqProofs:=false) (disch:=first | with_reducible assumption | exact rfl | exact im_ _ | (fail_if_success show Kn _ _);omega) only [bs,rs81,ls81,Nat.reduceAdd,↓reduceIte,zah,zab a64,zab a80,q44_0,q72_0,hg,hq]
       refine Wp.gh (fun x=>regW _ _ _ _ _ x) ⟨[J,iv s1,iv s2,.ptr 2 0,J,J,J,iv s7_8,iv s8,J,J,J,J,J,J,J,J,J,J,J,J,J,J,J,J,J,J,J,J,J,J,J,J,J,J,J,J,J,J,J,J,J,J,J,J,J,J,J,J,J,J,J,J,J,J,J,J,J,J,J,J,J,J,J,J,J,J,J,J,J,J,J,J,J,J,J,J,J,J,J,J,J,J,J,J,J,J,J,J,J,J],[.var [.ref 1 0 r13.length 2],.arr (encL zac r13),.var [.fn (.func 44) [.ptr 0 0],sw72 1 r13.length]],2⟩ (by kernel_rfl) ?_
       revert h
       intro h;obtain rfl:=Option.some.inj h
       simp (maxSteps:=10000000) (implicitDefEqProofs:=false) (disch:=first | with_reducible assumption | exact rfl | exact im_ _ | (fail_if_success show Kn _ _);omega) only [bs,rs81,ls81,Nat.reduceAdd,↓reduceIte,zah,zab a64,zab a80,q44_0,q72_0,hg,hq]
       exact ⟨(rfl:Ex.normal=Ex.normal),by kernel_rfl⟩
  | ret _=>(first | cases h | (simp at h))
 ·intro h;obtain rfl:=Option.some.inj h
  simp (maxSteps:=10000000) (implicitDefEqProofs:=false) (disch:=first | with_reducible assumption | exact rfl | exact im_ _ | (fail_if_success show Kn _ _);omega) only [bs,rs81,ls81,Nat.reduceAdd,↓reduceIte,zah,zab a64,zab a80,q44_0,q72_0,hg]
  exact ⟨(rfl:Ex.exit 0=Ex.exit 0),rfl,by kernel_rfl⟩
theorem ybc  (x1:Int) (x2:Int) (o1:(List Pair)) (r:(Bool×(List Pair))) (h:za9 x1 x2 o1=some r):callW Try.prog A0 81 [.agg [.fn (.func 44) [.ptr 0 0],sw72 1 o1.length],iv x1,iv x2] [.var [.ref 1 0 o1.length 2],.arr (encL zac o1)]=some (.p (.v (.bool r.1)),[.var [.ref 1 0 r.2.length 2],.arr (encL zac r.2)]):=by
 refine zax (fn:=Try.f81) (c:=zae Try.f81) 88 rfl rfl (by kernel_rfl) (by kernel_rfl) (by kernel_rfl) ?_
 unfold za9 at h;unfold zae Try.f81;simp only [ens]
 revert h
 refine gB fun o h51=>?_
 intro h
 simp (maxSteps:=10000000) (implicitDefEqProofs:=false) (disch:=first | with_reducible assumption | exact rfl | exact im_ _ | (fail_if_success show Kn _ _);omega) only [bs,rs81,ls81,Nat.reduceAdd,↓reduceIte,zah,zab a64,zab a80,q44_0,q72_0]
 refine Wp.ctx (fun x=>seqW _ _ _ _ (za6 _ (x))) (z7i x1 x2 (w64 (x1+(1:Int)),(0:Int),o1) _ o (by kernel_rfl) h51) ?_
 intro e st hq
 cases o with
 | next _=>(first | cases h | (simp at h))
 | jmp n_ s_ =>
  obtain ⟨rfl,rfl,hq⟩:=hq
  obtain ⟨s7_52,s8_52,y1_52⟩:=s_
  unfold F81_0 at hq
  (try simp only [] at h hq)
  revert h
  intro h;obtain rfl:=Option.some.inj h
  simp (maxSteps:=10000000) (implicitDefEqProofs:=false) (disch:=first | with_reducible assumption | exact rfl | exact im_ _ | (fail_if_success show Kn _ _);omega) only [bs,rs81,ls81,Nat.reduceAdd,↓reduceIte,zah,zab a64,zab a80,q44_0,q72_0,hq]
  refine ⟨by simp, ?_⟩;show _=_;kernel_rfl
 | ret r53 =>
  obtain ⟨rfl,hq⟩:=hq
  obtain rfl:=Option.some.inj h
  simp (maxSteps:=10000000) (implicitDefEqProofs:=false) (disch:=first | with_reducible assumption | exact rfl | exact im_ _ | (fail_if_success show Kn _ _);omega) only [bs,rs81,ls81,Nat.reduceAdd,↓reduceIte,zah,zab a64,zab a80,q44_0,q72_0]
  exact ⟨by simp,hq⟩
def ls83:=And.intro @zix (And.intro @zhv (And.intro @zft (@zfg)))
noncomputable def L83_4:Code:=(zak (zae Try.f83)).getD 4 .skip
def g83_4:List Ghost:=[.keep [1,4,10,11],.keep [1,4,10,11]]
noncomputable def F83_4 (s1:Int) (s10:Int) (y1:(List Pair)):Int→St:=fun s11=>⟨[J,iv s1,J,J,.ptr 2 0,J,J,J,J,J,iv s10,iv s11,J,J,J,J,J,J,J,J,J,J,J,J,J,J,J,J,J,J,J,J,J,J,J,J,J,J,J,J,J,J,J,J,J,J,J,J,J,J,J,J,J,J,J,J,J,J,J,J,J,J,J,J,J,J,J,J,J,J,J,J,J,J,J,J,J,J,J,J,J,J,J,J,J,J,J,J,J,J,J,J,J,J,J,J,J,J,J,J,J,J,J,J,J,J,J],[.var [.ref 1 0 y1.length 2],.arr (encL zac y1),.var [.fn (.func 44) [.ptr 0 0],sw72 1 y1.length]],2⟩
theorem z6b (s1:Int) (s10:Int) (y1:(List Pair)):∀ s st o,zaj g83_4 st=some (F83_4 s1 s10 y1 s)→iter (zd9 s1 s10 y1) s=some o →
    Wp (evW Try.prog A0 83 (.loop L83_4) st) (OutQ (F83_4 s1 s10 y1) g83_4 (fun n s st=>n=8∧zaj [.keep [1,4,10,11]] st=some (F83_4 s1 s10 y1 s)) (fun r st=>zap Try.prog A0 83 Try.f83 st=some (.p (.tup [.v (.int .i64 r.1),.v (.bool r.2.1)]),[.var [.ref 1 0 r.2.2.length 2],.arr (encL zac r.2.2)])) o):=by
 refine Wp.iter ?_
 intro s st o hg h
 generalize s=s11 at hg h
 unfold zd9 at h;unfold g83_4 F83_4 at hg ⊢
 (try simp only [] at h hg)
 unfold L83_4 zae Try.f83;simp only [zak,ens]
 revert h
 repeat' first | (with_reducible refine gB fun _ _=>?_) | (with_reducible refine gT (fun _ _=>?_) (fun _ _=>?_)) | (with_reducible refine gI (fun _ _=>?_) (fun _ _=>?_))
 all_goals
  intro h;obtain rfl:=Option.some.inj h
  first | (simp (maxSteps:=10000000) (implicitDefEqProofs:=false) (disch:=first | with_reducible assumption | exact rfl | exact im_ _ | (fail_if_success show Kn _ _);omega) only [bs,rs83,ls83,Nat.reduceAdd,↓reduceIte,zah,zab a64,zab a80,q44_0,q72_0,hg];first | (exact ⟨(rfl:Ex.exit 8=Ex.exit 8),rfl,by kernel_rfl⟩) | (exact ⟨(rfl:Ex.normal=Ex.normal),by kernel_rfl⟩)) | (exfalso;omega)
noncomputable def L83_3:Code:=(zak (zae Try.f83)).getD 3 .skip
def g83_3:List Ghost:=[.keep [1,4,10,11],.keep [1,4,10,11]]
noncomputable def F83_3 (s1:Int) (s11:Int) (y1:(List Pair)):Int→St:=fun s10=>⟨[J,iv s1,J,J,.ptr 2 0,J,J,J,J,J,iv s10,iv s11,J,J,J,J,J,J,J,J,J,J,J,J,J,J,J,J,J,J,J,J,J,J,J,J,J,J,J,J,J,J,J,J,J,J,J,J,J,J,J,J,J,J,J,J,J,J,J,J,J,J,J,J,J,J,J,J,J,J,J,J,J,J,J,J,J,J,J,J,J,J,J,J,J,J,J,J,J,J,J,J,J,J,J,J,J,J,J,J,J,J,J,J,J,J,J],[.var [.ref 1 0 y1.length 2],.arr (encL zac y1),.var [.fn (.func 44) [.ptr 0 0],sw72 1 y1.length]],2⟩
theorem z8x (s1:Int) (s11:Int) (y1:(List Pair)):∀ s st o,zaj g83_3 st=some (F83_3 s1 s11 y1 s)→iter (zd7 s1 s11 y1) s=some o →
    Wp (evW Try.prog A0 83 (.loop L83_3) st) (OutQ (F83_3 s1 s11 y1) g83_3 (fun n s st=>n=6∧zaj [.keep [1,4,10,11]] st=some (F83_3 s1 s11 y1 s)) (fun r st=>zap Try.prog A0 83 Try.f83 st=some (.p (.tup [.v (.int .i64 r.1),.v (.bool r.2.1)]),[.var [.ref 1 0 r.2.2.length 2],.arr (encL zac r.2.2)])) o):=by
 refine Wp.iter ?_
 intro s st o hg h
 generalize s=s10 at hg h
 unfold zd7 at h;unfold g83_3 F83_3 at hg ⊢
 (try simp only [] at h hg)
 unfold L83_3 zae Try.f83;simp only [zak,ens]
 revert h
 repeat' first | (with_reducible refine gB fun _ _=>?_) | (with_reducible refine gT (fun _ _=>?_) (fun _ _=>?_)) | (with_reducible refine gI (fun _ _=>?_) (fun _ _=>?_))
 all_goals
  intro h;obtain rfl:=Option.some.inj h
  first | (simp (maxSteps:=10000000) (implicitDefEqProofs:=false) (disch:=first | with_reducible assumption | exact rfl | exact im_ _ | (fail_if_success show Kn _ _);omega) only [bs,rs83,ls83,Nat.reduceAdd,↓reduceIte,zah,zab a64,zab a80,q44_0,q72_0,hg];first | (exact ⟨(rfl:Ex.normal=Ex.normal),by kernel_rfl⟩) | (exact ⟨(rfl:Ex.exit 6=Ex.exit 6),rfl,by kernel_rfl⟩)) | (exfalso;omega)
noncomputable def L83_2:Code:=(zak (zae Try.f83)).getD 2 .skip
def g83_2:List Ghost:=[.keep [1,4,10,11]]
noncomputable def F83_2 (s1:Int):(Int×Int×(List Pair))→St:=fun (s10,s11,y1)=>⟨[J,iv s1,J,J,.ptr 2 0,J,J,J,J,J,iv s10,iv s11,J,J,J,J,J,J,J,J,J,J,J,J,J,J,J,J,J,J,J,J,J,J,J,J,J,J,J,J,J,J,J,J,J,J,J,J,J,J,J,J,J,J,J,J,J,J,J,J,J,J,J,J,J,J,J,J,J,J,J,J,J,J,J,J,J,J,J,J,J,J,J,J,J,J,J,J,J,J,J,J,J,J,J,J,J,J,J,J,J,J,J,J,J,J,J],[.var [.ref 1 0 y1.length 2],.arr (encL zac y1),.var [.fn (.func 44) [.ptr 0 0],sw72 1 y1.length]],2⟩
theorem z8h (s1:Int):∀ s st o,zaj g83_2 st=some (F83_2 s1 s)→iter (zd4 s1) s=some o →
    Wp (evW Try.prog A0 83 (.loop L83_2) st) (OutQ (F83_2 s1) g83_2 (fun n s st=>n=4∧zaj [.keep [1,4,10,11]] st=some (F83_2 s1 s)) (fun r st=>zap Try.prog A0 83 Try.f83 st=some (.p (.tup [.v (.int .i64 r.1),.v (.bool r.2.1)]),[.var [.ref 1 0 r.2.2.length 2],.arr (encL zac r.2.2)])) o):=by
 refine Wp.iter ?_
 intro s st o hg h
 obtain ⟨s10,s11,y1⟩:=s
 unfold zd4 at h;unfold g83_2 F83_2 at hg ⊢
 (try simp only [] at h hg)
 unfold L83_2 zae Try.f83;simp only [zak,ens]
 revert h
 refine gB fun o h33=>?_
 intro h
 simp (maxSteps:=10000000) (implicitDefEqProofs:=false) (disch:=first | with_reducible assumption | exact rfl | exact im_ _ | (fail_if_success show Kn _ _);omega) only [bs,rs83,ls83,Nat.reduceAdd,↓reduceIte,zah,zab a64,zab a80,q44_0,q72_0,hg]
 refine Wp.ctx (fun x=>za6 _ (seqW _ _ _ _ (za6 _ (x)))) (z8x s1 s11 y1 s10 _ o (show zaj g83_3 _=some _ from zi5 (a:=[.keep [1,4,10,11]]) (b:=[.keep [1,4,10,11]]) hg (by kernel_rfl)) h33) ?_
 intro e st hq
 cases o with
 | next _=>(first | cases h | (simp at h))
 | jmp n_ s_ =>
  obtain ⟨rfl,rfl,hq⟩:=hq
  generalize s_=s10_34 at h hq
  unfold F83_3 at hq
  (try simp only [] at h hq)
  revert h
  refine gB fun o h40=>?_
  intro h
  simp (maxSteps:=10000000) (implicitDefEqProofs:=false) (disch:=first | with_reducible assumption | exact rfl | exact im_ _ | (fail_if_success show Kn _ _);omega) only [bs,rs83,ls83,Nat.reduceAdd,↓reduceIte,zah,zab a64,zab a80,q44_0,q72_0,hg,hq]
  refine Wp.ctx (fun x=>za6 _ (seqW _ _ _ _ (za6 _ (x)))) (z6b s1 s10_34 y1 s11 _ o (show zaj g83_4 _=some _ from zi5 (a:=[.keep [1,4,10,11]]) (b:=[.keep [1,4,10,11]]) hq (by kernel_rfl)) h40) ?_
  intro e st hq
  cases o with
  | next _=>(first | cases h | (simp at h))
  | jmp n_ s_ =>
   obtain ⟨rfl,rfl,hq⟩:=hq
   generalize s_=s11_41 at h hq
   unfold F83_4 at hq
   (try simp only [] at h hq)
   revert h
   repeat' first | (with_reducible refine gB fun _ _=>?_) | (with_reducible refine gW fun _=>?_) | (with_reducible refine gI (fun _ _=>?_) (fun _ _=>?_))
   all_goals
    intro h;obtain rfl:=Option.some.inj h
    first | (simp (maxSteps:=10000000) (implicitDefEqProofs:=false) (disch:=first | with_reducible assumption | exact rfl | exact im_ _ | (fail_if_success show Kn _ _);omega) only [bs,rs83,ls83,Nat.reduceAdd,↓reduceIte,zah,zab a64,zab a80,q44_0,q72_0,hg,hq,hq];first | (exact ⟨(rfl:Ex.exit 4=Ex.exit 4),rfl,by kernel_rfl⟩) | (exact ⟨(rfl:Ex.normal=Ex.normal),by (try simp only [List.length_set,zbv, *]);kernel_rfl⟩)) | (exfalso;omega)
  | ret _=>(first | cases h | (simp at h))
 | ret _=>(first | cases h | (simp at h))
noncomputable def L83_1:Code:=(zak (zae Try.f83)).getD 1 .skip
def g83_1:List Ghost:=[.keep [1,4,10,11],.keep [1,4,10,11]]
noncomputable def F83_1 (s1:Int) (s10:Int) (y1:(List Pair)):Int→St:=fun s11=>⟨[J,iv s1,J,J,.ptr 2 0,J,J,J,J,J,iv s10,iv s11,J,J,J,J,J,J,J,J,J,J,J,J,J,J,J,J,J,J,J,J,J,J,J,J,J,J,J,J,J,J,J,J,J,J,J,J,J,J,J,J,J,J,J,J,J,J,J,J,J,J,J,J,J,J,J,J,J,J,J,J,J,J,J,J,J,J,J,J,J,J,J,J,J,J,J,J,J,J,J,J,J,J,J,J,J,J,J,J,J,J,J,J,J,J,J],[.var [.ref 1 0 y1.length 2],.arr (encL zac y1),.var [.fn (.func 44) [.ptr 0 0],sw72 1 y1.length]],2⟩
theorem z9i (s1:Int) (s10:Int) (y1:(List Pair)):∀ s st o,zaj g83_1 st=some (F83_1 s1 s10 y1 s)→iter (zd5 s1 s10 y1) s=some o →
    Wp (evW Try.prog A0 83 (.loop L83_1) st) (OutQ (F83_1 s1 s10 y1) g83_1 (fun n s st=>n=2∧zaj [.keep [1,4,10,11]] st=some (F83_1 s1 s10 y1 s)) (fun r st=>zap Try.prog A0 83 Try.f83 st=some (.p (.tup [.v (.int .i64 r.1),.v (.bool r.2.1)]),[.var [.ref 1 0 r.2.2.length 2],.arr (encL zac r.2.2)])) o):=by
 refine Wp.iter ?_
 intro s st o hg h
 generalize s=s11 at hg h
 unfold zd5 at h;unfold g83_1 F83_1 at hg ⊢
 (try simp only [] at h hg)
 unfold L83_1 zae Try.f83;simp only [zak,ens]
 revert h
 repeat' first | (with_reducible refine gB fun _ _=>?_) | (with_reducible refine gT (fun _ _=>?_) (fun _ _=>?_)) | (with_reducible refine gI (fun _ _=>?_) (fun _ _=>?_))
 all_goals
  intro h;obtain rfl:=Option.some.inj h
  first | (simp (maxSteps:=10000000) (implicitDefEqProofs:=false) (disch:=first | with_reducible assumption | exact rfl | exact im_ _ | (fail_if_success show Kn _ _);omega) only [bs,rs83,ls83,Nat.reduceAdd,↓reduceIte,zah,zab a64,zab a80,q44_0,q72_0,hg];first | (exact ⟨(rfl:Ex.exit 2=Ex.exit 2),rfl,by kernel_rfl⟩) | (exact ⟨(rfl:Ex.normal=Ex.normal),by kernel_rfl⟩)) | (exfalso;omega)
noncomputable def L83_0:Code:=(zak (zae Try.f83)).getD 0 .skip
def g83_0:List Ghost:=[.keep [1,4,10,11]]
noncomputable def F83_0 (s1:Int) (s11:Int) (y1:(List Pair)):Int→St:=fun s10=>⟨[J,iv s1,J,J,.ptr 2 0,J,J,J,J,J,iv s10,iv s11,J,J,J,J,J,J,J,J,J,J,J,J,J,J,J,J,J,J,J,J,J,J,J,J,J,J,J,J,J,J,J,J,J,J,J,J,J,J,J,J,J,J,J,J,J,J,J,J,J,J,J,J,J,J,J,J,J,J,J,J,J,J,J,J,J,J,J,J,J,J,J,J,J,J,J,J,J,J,J,J,J,J,J,J,J,J,J,J,J,J,J,J,J,J,J],[.var [.ref 1 0 y1.length 2],.arr (encL zac y1),.var [.fn (.func 44) [.ptr 0 0],sw72 1 y1.length]],2⟩
theorem z6a (s1:Int) (s11:Int) (y1:(List Pair)):∀ s st o,zaj g83_0 st=some (F83_0 s1 s11 y1 s)→iter (zd6 s1 s11 y1) s=some o →
    Wp (evW Try.prog A0 83 (.loop L83_0) st) (OutQ (F83_0 s1 s11 y1) g83_0 (fun n s st=>n=0∧zaj [.keep [1,4,10,11]] st=some (F83_0 s1 s11 y1 s)) (fun r st=>zap Try.prog A0 83 Try.f83 st=some (.p (.tup [.v (.int .i64 r.1),.v (.bool r.2.1)]),[.var [.ref 1 0 r.2.2.length 2],.arr (encL zac r.2.2)])) o):=by
 refine Wp.iter ?_
 intro s st o hg h
 generalize s=s10 at hg h
 unfold zd6 at h;unfold g83_0 F83_0 at hg ⊢
 (try simp only [] at h hg)
 unfold L83_0 zae Try.f83;simp only [zak,ens]
 revert h
 repeat' first | (with_reducible refine gB fun _ _=>?_) | (with_reducible refine gT (fun _ _=>?_) (fun _ _=>?_)) | (with_reducible refine gI (fun _ _=>?_) (fun _ _=>?_))
 all_goals
  intro h;obtain rfl:=Option.some.inj h
  first | (simp (maxSteps:=10000000) (implicitDefEqProofs:=false) (disch:=first | with_reducible assumption | exact rfl | exact im_ _ | (fail_if_success show Kn _ _);omega) only [bs,rs83,ls83,Nat.reduceAdd,↓reduceIte,zah,zab a64,zab a80,q44_0,q72_0,hg];first | (exact ⟨(rfl:Ex.normal=Ex.normal),by kernel_rfl⟩) | (exact ⟨(rfl:Ex.exit 0=Ex.exit 0),rfl,by kernel_rfl⟩)) | (exfalso;omega)
theorem yaz  (x1:Int) (x2:Int) (x3:Int) (o1:(List Pair)) (r:(Int×Bool×(List Pair))) (h:zas x1 x2 x3 o1=some r):callW Try.prog A0 83 [.agg [.fn (.func 44) [.ptr 0 0],sw72 1 o1.length],iv x1,iv x2,iv x3] [.var [.ref 1 0 o1.length 2],.arr (encL zac o1)]=some (.p (.tup [.v (.int .i64 r.1),.v (.bool r.2.1)]),[.var [.ref 1 0 r.2.2.length 2],.arr (encL zac r.2.2)]):=by
 refine zax (fn:=Try.f83) (c:=zae Try.f83) 103 rfl rfl (by kernel_rfl) (by kernel_rfl) (by kernel_rfl) ?_
 unfold zas at h;unfold zae Try.f83;simp only [ens]
 revert h
 refine gB fun r3 h1=>?_
 refine gW fun h4=>?_
 refine gB fun o h10=>?_
 intro h
 simp (maxSteps:=10000000) (implicitDefEqProofs:=false) (disch:=first | with_reducible assumption | exact rfl | exact im_ _ | (fail_if_success show Kn _ _);omega) only [bs,rs83,ls83,Nat.reduceAdd,↓reduceIte,zah,zab a64,zab a80,q44_0,q72_0]
 refine Wp.ctx (fun x=>seqW _ _ _ _ (za6 _ (x))) (z6a x1 (w64 (x2 - (1:Int))) r3 (w64 (x1+(1:Int))) _ o (by unfold F83_0;simp only [List.length_set,zbv,h4];kernel_rfl) h10) ?_
 intro e st hq
 cases o with
 | next _=>(first | cases h | (simp at h))
 | jmp n_ s_ =>
  obtain ⟨rfl,rfl,hq⟩:=hq
  generalize s_=s10_11 at h hq
  unfold F83_0 at hq
  (try simp only [] at h hq)
  revert h
  refine gB fun o h17=>?_
  intro h
  simp (maxSteps:=10000000) (implicitDefEqProofs:=false) (disch:=first | with_reducible assumption | exact rfl | exact im_ _ | (fail_if_success show Kn _ _);omega) only [bs,rs83,ls83,Nat.reduceAdd,↓reduceIte,zah,zab a64,zab a80,q44_0,q72_0,hq]
  refine Wp.ctx (fun x=>seqW _ _ _ _ (za6 _ (x))) (z9i x1 s10_11 r3 (w64 (x2 - (1:Int))) _ o (show zaj g83_1 _=some _ from zi5 (a:=[.keep [1,4,10,11]]) (b:=[.keep [1,4,10,11]]) hq (by kernel_rfl)) h17) ?_
  intro e st hq
  cases o with
  | next _=>(first | cases h | (simp at h))
  | jmp n_ s_ =>
   obtain ⟨rfl,rfl,hq⟩:=hq
   generalize s_=s11_18 at h hq
   unfold F83_1 at hq
   (try simp only [] at h hq)
   revert h
   refine gI (fun h19 _=>?_) (fun h19 _=>?_)
   ·repeat' first | (with_reducible refine gB fun _ _=>?_) | (with_reducible refine gW fun _=>?_)
    intro h;obtain rfl:=Option.some.inj h
    simp (maxSteps:=10000000) (implicitDefEqProofs:=false) (disch:=first | with_reducible assumption | exact rfl | exact im_ _ | (fail_if_success show Kn _ _);omega) only [bs,rs83,ls83,Nat.reduceAdd,↓reduceIte,zah,zab a64,zab a80,q44_0,q72_0,hq,hq]
    refine ⟨by simp, ?_⟩;show _=_;(try simp only [List.length_set,zbv, *]);kernel_rfl
   ·refine gB fun r26 h24=>?_
    refine gW fun h27=>?_
    refine gB fun o h47=>?_
    intro h
    simp (maxSteps:=10000000) (implicitDefEqProofs:=false) (disch:=first | with_reducible assumption | exact rfl | exact im_ _ | (fail_if_success show Kn _ _);omega) only [bs,rs83,ls83,Nat.reduceAdd,↓reduceIte,zah,zab a64,zab a80,q44_0,q72_0,hq,hq]
    refine Wp.ctx (fun x=>seqW _ _ _ _ (za6 _ (x))) (z8h x1 (w64 (s10_11+(1:Int)),w64 (s11_18 - (1:Int)),r26) _ o (by unfold F83_2;simp only [List.length_set,zbv,h4,h27];kernel_rfl) h47) ?_
    intro e st hq
    cases o with
    | next _=>(first | cases h | (simp at h))
    | jmp n_ s_ =>
     obtain ⟨rfl,rfl,hq⟩:=hq
     obtain ⟨s10_48,s11_48,y1_48⟩:=s_
     unfold F83_2 at hq
     (try simp only [] at h hq)
     revert h
     repeat' first | (with_reducible refine gB fun _ _=>?_) | (with_reducible refine gW fun _=>?_)
     intro h;obtain rfl:=Option.some.inj h
     simp (maxSteps:=10000000) (implicitDefEqProofs:=false) (disch:=first | with_reducible assumption | exact rfl | exact im_ _ | (fail_if_success show Kn _ _);omega) only [bs,rs83,ls83,Nat.reduceAdd,↓reduceIte,zah,zab a64,zab a80,q44_0,q72_0,hq,hq,hq]
     refine ⟨by simp, ?_⟩;show _=_;(try simp only [List.length_set,zbv, *]);kernel_rfl
    | ret _=>(first | cases h | (simp at h))
  | ret _=>(first | cases h | (simp at h))
 | ret _=>(first | cases h | (simp at h))
def ls82:=And.intro @zix (And.intro @zhv (And.intro @zft (@zfg)))
theorem q60_0 {rec:Int→Int→Int→(List Pair)→Option (List Pair)} (hrec:∀ x1 x2 x3 o1 r,rec x1 x2 x3 o1=some r→callW Try.prog A0 60 [.agg [.fn (.func 44) [.ptr 0 0],sw72 1 o1.length],iv x1,iv x2,iv x3] [.var [.ref 1 0 o1.length 2],.arr (encL zac o1)]=some (.p (.tup []),[.var [.ref 1 0 r.length 2],.arr (encL zac r)])) {a1:List Pair}{n2:Nat}{a3 a4 a5:Int}{r9001:(List Pair)}{X2:Ob} (k0:n2=a1.length) (h9002:rec a3 a4 a5 a1=some r9001):callD (callW Try.prog A0) A0 [.var [.ref 1 0 a1.length 2],.arr (encL zac a1),X2] 60 [.agg [.fn (.func 44) [.ptr 0 0],sw72 1 n2],iv a3,iv a4,iv a5]=some (.p (.tup []),some [.var [.ref 1 0 r9001.length 2],.arr (encL zac r9001),X2]):=by
  rw [show n2=a1.length from by omega];exact (zbd (dsw:=[.agg [.fn (.func 44) [.ptr 0 0],sw72 1 a1.length],iv a3,iv a4,iv a5]) (ds':=[.agg [.fn (.func 44) [.ptr 0 0],sw72 1 a1.length],iv a3,iv a4,iv a5]) (i:=0) (ids:=[1]) (o:=.var [.ref 1 0 a1.length 2]) (os:=[.arr (encL zac a1)]) (o':=.var [.ref 1 0 r9001.length 2]) (os':=[.arr (encL zac r9001)]) rfl (by kernel_rfl) (by kernel_rfl) (by kernel_rfl) (by kernel_rfl) (by kernel_rfl) (hrec _ _ _ _ _ h9002) rfl rfl).trans (by kernel_rfl)
theorem q83_0 {a1:List Pair}{n2:Nat}{a3 a4 a5:Int}{r9001:(Int×Bool×(List Pair))}{X2:Ob} (k0:n2=a1.length) (h9002:zas a3 a4 a5 a1=some r9001):callD (callW Try.prog A0) A0 [.var [.ref 1 0 a1.length 2],.arr (encL zac a1),X2] 83 [.agg [.fn (.func 44) [.ptr 0 0],sw72 1 n2],iv a3,iv a4,iv a5]=some (.p (.tup [.v (.int .i64 r9001.1),.v (.bool r9001.2.1)]),some [.var [.ref 1 0 r9001.2.2.length 2],.arr (encL zac r9001.2.2),X2]):=by
  rw [show n2=a1.length from by omega];exact (zbd (dsw:=[.agg [.fn (.func 44) [.ptr 0 0],sw72 1 a1.length],iv a3,iv a4,iv a5]) (ds':=[.agg [.fn (.func 44) [.ptr 0 0],sw72 1 a1.length],iv a3,iv a4,iv a5]) (i:=0) (ids:=[1]) (o:=.var [.ref 1 0 a1.length 2]) (os:=[.arr (encL zac a1)]) (o':=.var [.ref 1 0 r9001.2.2.length 2]) (os':=[.arr (encL zac r9001.2.2)]) rfl (by kernel_rfl) (by kernel_rfl) (by kernel_rfl) (by kernel_rfl) (by kernel_rfl) (yaz _ _ _ _ _ h9002) rfl rfl).trans (by kernel_rfl)
noncomputable def L82_2:Code:=(zak (zae Try.f82)).getD 2 .skip
def g82_2:List Ghost:=[.keep [1,4,9,10],.keep [1,4,9,10]]
noncomputable def F82_2 (s1:Int) (s9:Int) (y1:(List Pair)):Int→St:=fun s10=>⟨[J,iv s1,J,J,.ptr 2 0,J,J,J,J,iv s9,iv s10,J,J,J,J,J,J,J,J,J,J,J,J,J,J,J,J,J,J,J,J,J,J,J,J,J,J,J,J,J,J,J,J,J,J,J,J,J,J,J,J,J,J,J,J,J,J,J],[.var [.ref 1 0 y1.length 2],.arr (encL zac y1),.var [.fn (.func 44) [.ptr 0 0],sw72 1 y1.length]],2⟩
theorem z7d (s1:Int) (s9:Int) (y1:(List Pair)):∀ s st o,zaj g82_2 st=some (F82_2 s1 s9 y1 s)→iter (zcq s1 s9 y1) s=some o →
    Wp (evW Try.prog A0 82 (.loop L82_2) st) (OutQ (F82_2 s1 s9 y1) g82_2 (fun n s st=>n=4∧zaj [.keep [1,4,9,10]] st=some (F82_2 s1 s9 y1 s)) (fun r st=>zap Try.prog A0 82 Try.f82 st=some (.p (.v (.int .i64 r.1)),[.var [.ref 1 0 r.2.length 2],.arr (encL zac r.2)])) o):=by
 refine Wp.iter ?_
 intro s st o hg h
 generalize s=s10 at hg h
 unfold zcq at h;unfold g82_2 F82_2 at hg ⊢
 (try simp only [] at h hg)
 unfold L82_2 zae Try.f82;simp only [zak,ens]
 revert h
 repeat' first | (with_reducible refine gB fun _ _=>?_) | (with_reducible refine gT (fun _ _=>?_) (fun _ _=>?_)) | (with_reducible refine gI (fun _ _=>?_) (fun _ _=>?_))
 all_goals
  intro h;obtain rfl:=Option.some.inj h
  first | (simp (maxSteps:=10000000) (implicitDefEqProofs:=false) (disch:=first | with_reducible assumption | exact rfl | exact im_ _ | (fail_if_success show Kn _ _);omega) only [bs,rs82,ls82,Nat.reduceAdd,↓reduceIte,zah,zab a64,zab a80,q44_0,q72_0,hg];first | (exact ⟨(rfl:Ex.normal=Ex.normal),by kernel_rfl⟩) | (exact ⟨(rfl:Ex.exit 4=Ex.exit 4),rfl,by kernel_rfl⟩)) | (exfalso;omega)
noncomputable def L82_1:Code:=(zak (zae Try.f82)).getD 1 .skip
def g82_1:List Ghost:=[.keep [1,4,9,10],.keep [1,4,9,10]]
noncomputable def F82_1 (s1:Int) (s10:Int) (y1:(List Pair)):Int→St:=fun s9=>⟨[J,iv s1,J,J,.ptr 2 0,J,J,J,J,iv s9,iv s10,J,J,J,J,J,J,J,J,J,J,J,J,J,J,J,J,J,J,J,J,J,J,J,J,J,J,J,J,J,J,J,J,J,J,J,J,J,J,J,J,J,J,J,J,J,J,J],[.var [.ref 1 0 y1.length 2],.arr (encL zac y1),.var [.fn (.func 44) [.ptr 0 0],sw72 1 y1.length]],2⟩
theorem z71 (s1:Int) (s10:Int) (y1:(List Pair)):∀ s st o,zaj g82_1 st=some (F82_1 s1 s10 y1 s)→iter (zco s1 s10 y1) s=some o →
    Wp (evW Try.prog A0 82 (.loop L82_1) st) (OutQ (F82_1 s1 s10 y1) g82_1 (fun n s st=>n=2∧zaj [.keep [1,4,9,10]] st=some (F82_1 s1 s10 y1 s)) (fun r st=>zap Try.prog A0 82 Try.f82 st=some (.p (.v (.int .i64 r.1)),[.var [.ref 1 0 r.2.length 2],.arr (encL zac r.2)])) o):=by
 refine Wp.iter ?_
 intro s st o hg h
 generalize s=s9 at hg h
 unfold zco at h;unfold g82_1 F82_1 at hg ⊢
 (try simp only [] at h hg)
 unfold L82_1 zae Try.f82;simp only [zak,ens]
 revert h
 repeat' first | (with_reducible refine gB fun _ _=>?_) | (with_reducible refine gT (fun _ _=>?_) (fun _ _=>?_)) | (with_reducible refine gI (fun _ _=>?_) (fun _ _=>?_))
 all_goals
  intro h;obtain rfl:=Option.some.inj h
  first | (simp (maxSteps:=10000000) (implicitDefEqProofs:=false) (disch:=first | with_reducible assumption | exact rfl | exact im_ _ | (fail_if_success show Kn _ _);omega) only [bs,rs82,ls82,Nat.reduceAdd,↓reduceIte,zah,zab a64,zab a80,q44_0,q72_0,hg];first | (exact ⟨(rfl:Ex.exit 2=Ex.exit 2),rfl,by kernel_rfl⟩) | (exact ⟨(rfl:Ex.normal=Ex.normal),by kernel_rfl⟩)) | (exfalso;omega)
noncomputable def L82_0:Code:=(zak (zae Try.f82)).getD 0 .skip
def g82_0:List Ghost:=[.keep [1,4,9,10]]
noncomputable def F82_0 (s1:Int):(Int×Int×(List Pair))→St:=fun (s9,s10,y1)=>⟨[J,iv s1,J,J,.ptr 2 0,J,J,J,J,iv s9,iv s10,J,J,J,J,J,J,J,J,J,J,J,J,J,J,J,J,J,J,J,J,J,J,J,J,J,J,J,J,J,J,J,J,J,J,J,J,J,J,J,J,J,J,J,J,J,J,J],[.var [.ref 1 0 y1.length 2],.arr (encL zac y1),.var [.fn (.func 44) [.ptr 0 0],sw72 1 y1.length]],2⟩
theorem z9c (s1:Int):∀ s st o,zaj g82_0 st=some (F82_0 s1 s)→iter (zcr s1) s=some o →
    Wp (evW Try.prog A0 82 (.loop L82_0) st) (OutQ (F82_0 s1) g82_0 (fun n s st=>n=0∧zaj [.keep [1,4,9,10]] st=some (F82_0 s1 s)) (fun r st=>zap Try.prog A0 82 Try.f82 st=some (.p (.v (.int .i64 r.1)),[.var [.ref 1 0 r.2.length 2],.arr (encL zac r.2)])) o):=by
 refine Wp.iter ?_
 intro s st o hg h
 obtain ⟨s9,s10,y1⟩:=s
 unfold zcr at h;unfold g82_0 F82_0 at hg ⊢
 (try simp only [] at h hg)
 unfold L82_0 zae Try.f82;simp only [zak,ens]
 revert h
 refine gB fun o h10=>?_
 intro h
 simp (maxSteps:=10000000) (implicitDefEqProofs:=false) (disch:=first | with_reducible assumption | exact rfl | exact im_ _ | (fail_if_success show Kn _ _);omega) only [bs,rs82,ls82,Nat.reduceAdd,↓reduceIte,zah,zab a64,zab a80,q44_0,q72_0,hg]
 refine Wp.ctx (fun x=>za6 _ (seqW _ _ _ _ (za6 _ (x)))) (z71 s1 s10 y1 s9 _ o (show zaj g82_1 _=some _ from zi5 (a:=[.keep [1,4,9,10]]) (b:=[.keep [1,4,9,10]]) hg (by kernel_rfl)) h10) ?_
 intro e st hq
 cases o with
 | next _=>(first | cases h | (simp at h))
 | jmp n_ s_ =>
  obtain ⟨rfl,rfl,hq⟩:=hq
  generalize s_=s9_11 at h hq
  unfold F82_1 at hq
  (try simp only [] at h hq)
  revert h
  refine gB fun o h17=>?_
  intro h
  simp (maxSteps:=10000000) (implicitDefEqProofs:=false) (disch:=first | with_reducible assumption | exact rfl | exact im_ _ | (fail_if_success show Kn _ _);omega) only [bs,rs82,ls82,Nat.reduceAdd,↓reduceIte,zah,zab a64,zab a80,q44_0,q72_0,hg,hq]
  refine Wp.ctx (fun x=>za6 _ (seqW _ _ _ _ (za6 _ (x)))) (z7d s1 s9_11 y1 s10 _ o (show zaj g82_2 _=some _ from zi5 (a:=[.keep [1,4,9,10]]) (b:=[.keep [1,4,9,10]]) hq (by kernel_rfl)) h17) ?_
  intro e st hq
  cases o with
  | next _=>(first | cases h | (simp at h))
  | jmp n_ s_ =>
   obtain ⟨rfl,rfl,hq⟩:=hq
   generalize s_=s10_18 at h hq
   unfold F82_2 at hq
   (try simp only [] at h hq)
   revert h
   repeat' first | (with_reducible refine gB fun _ _=>?_) | (with_reducible refine gW fun _=>?_) | (with_reducible refine gI (fun _ _=>?_) (fun _ _=>?_))
   all_goals
    intro h;obtain rfl:=Option.some.inj h
    first | (simp (maxSteps:=10000000) (implicitDefEqProofs:=false) (disch:=first | with_reducible assumption | exact rfl | exact im_ _ | (fail_if_success show Kn _ _);omega) only [bs,rs82,ls82,Nat.reduceAdd,↓reduceIte,zah,zab a64,zab a80,q44_0,q72_0,hg,hq,hq];first | (exact ⟨(rfl:Ex.exit 0=Ex.exit 0),rfl,by kernel_rfl⟩) | (exact ⟨(rfl:Ex.normal=Ex.normal),by (try simp only [List.length_set,zbv, *]);kernel_rfl⟩)) | (exfalso;omega)
  | ret _=>(first | cases h | (simp at h))
 | ret _=>(first | cases h | (simp at h))
theorem ya9  (x1:Int) (x2:Int) (x3:Int) (o1:(List Pair)) (r:(Int×(List Pair))) (h:zay x1 x2 x3 o1=some r):callW Try.prog A0 82 [.agg [.fn (.func 44) [.ptr 0 0],sw72 1 o1.length],iv x1,iv x2,iv x3] [.var [.ref 1 0 o1.length 2],.arr (encL zac o1)]=some (.p (.v (.int .i64 r.1)),[.var [.ref 1 0 r.2.length 2],.arr (encL zac r.2)]):=by
 refine zax (fn:=Try.f82) (c:=zae Try.f82) 54 rfl rfl (by kernel_rfl) (by kernel_rfl) (by kernel_rfl) ?_
 unfold zay at h;unfold zae Try.f82;simp only [ens]
 revert h
 refine gB fun r3 h1=>?_
 refine gW fun h4=>?_
 refine gB fun o h24=>?_
 intro h
 simp (maxSteps:=10000000) (implicitDefEqProofs:=false) (disch:=first | with_reducible assumption | exact rfl | exact im_ _ | (fail_if_success show Kn _ _);omega) only [bs,rs82,ls82,Nat.reduceAdd,↓reduceIte,zah,zab a64,zab a80,q44_0,q72_0]
 refine Wp.ctx (fun x=>seqW _ _ _ _ (za6 _ (x))) (z9c x1 (w64 (x1+(1:Int)),w64 (x2 - (1:Int)),r3) _ o (by unfold F82_0;simp only [List.length_set,zbv,h4];kernel_rfl) h24) ?_
 intro e st hq
 cases o with
 | next _=>(first | cases h | (simp at h))
 | jmp n_ s_ =>
  obtain ⟨rfl,rfl,hq⟩:=hq
  obtain ⟨s9_25,s10_25,y1_25⟩:=s_
  unfold F82_0 at hq
  (try simp only [] at h hq)
  revert h
  intro h;obtain rfl:=Option.some.inj h
  simp (maxSteps:=10000000) (implicitDefEqProofs:=false) (disch:=first | with_reducible assumption | exact rfl | exact im_ _ | (fail_if_success show Kn _ _);omega) only [bs,rs82,ls82,Nat.reduceAdd,↓reduceIte,zah,zab a64,zab a80,q44_0,q72_0,hq]
  refine ⟨by simp, ?_⟩;show _=_;kernel_rfl
 | ret _=>(first | cases h | (simp at h))
def ls86:=@zsy
theorem q82_0 {a1:List Pair}{n2:Nat}{a3 a4 a5:Int}{r9001:(Int×(List Pair))}{X2:Ob} (k0:n2=a1.length) (h9002:zay a3 a4 a5 a1=some r9001):callD (callW Try.prog A0) A0 [.var [.ref 1 0 a1.length 2],.arr (encL zac a1),X2] 82 [.agg [.fn (.func 44) [.ptr 0 0],sw72 1 n2],iv a3,iv a4,iv a5]=some (.p (.v (.int .i64 r9001.1)),some [.var [.ref 1 0 r9001.2.length 2],.arr (encL zac r9001.2),X2]):=by
  rw [show n2=a1.length from by omega];exact (zbd (dsw:=[.agg [.fn (.func 44) [.ptr 0 0],sw72 1 a1.length],iv a3,iv a4,iv a5]) (ds':=[.agg [.fn (.func 44) [.ptr 0 0],sw72 1 a1.length],iv a3,iv a4,iv a5]) (i:=0) (ids:=[1]) (o:=.var [.ref 1 0 a1.length 2]) (os:=[.arr (encL zac a1)]) (o':=.var [.ref 1 0 r9001.2.length 2]) (os':=[.arr (encL zac r9001.2)]) rfl (by kernel_rfl) (by kernel_rfl) (by kernel_rfl) (by kernel_rfl) (by kernel_rfl) (ya9 _ _ _ _ _ h9002) rfl rfl).trans (by kernel_rfl)
theorem q81_0 {a1:List Pair}{n2:Nat}{a3 a4:Int}{r9001:(Bool×(List Pair))}{X2:Ob} (k0:n2=a1.length) (h9002:za9 a3 a4 a1=some r9001):callD (callW Try.prog A0) A0 [.var [.ref 1 0 a1.length 2],.arr (encL zac a1),X2] 81 [.agg [.fn (.func 44) [.ptr 0 0],sw72 1 n2],iv a3,iv a4]=some (.p (.v (.bool r9001.1)),some [.var [.ref 1 0 r9001.2.length 2],.arr (encL zac r9001.2),X2]):=by
  rw [show n2=a1.length from by omega];exact (zbd (dsw:=[.agg [.fn (.func 44) [.ptr 0 0],sw72 1 a1.length],iv a3,iv a4]) (ds':=[.agg [.fn (.func 44) [.ptr 0 0],sw72 1 a1.length],iv a3,iv a4]) (i:=0) (ids:=[1]) (o:=.var [.ref 1 0 a1.length 2]) (os:=[.arr (encL zac a1)]) (o':=.var [.ref 1 0 r9001.2.length 2]) (os':=[.arr (encL zac r9001.2)]) rfl (by kernel_rfl) (by kernel_rfl) (by kernel_rfl) (by kernel_rfl) (by kernel_rfl) (ybc _ _ _ _ h9002) rfl rfl).trans (by kernel_rfl)
theorem q80_0 {a1:List Pair}{a2 a3:Int}{r9001:(List Pair)}{X2:Ob} (h9002:zb3 a2 a3 a1=some r9001):callD (callW Try.prog A0) A0 [.var [.ref 1 0 a1.length 2],.arr (encL zac a1),X2] 80 [.agg [.fn (.func 44) [.ptr 0 0],sw72 1 a1.length],iv a2,iv a3]=some (.p (.tup []),some [.var [.ref 1 0 r9001.length 2],.arr (encL zac r9001),X2]):=(zbd (dsw:=[.agg [.fn (.func 44) [.ptr 0 0],sw72 1 a1.length],iv a2,iv a3]) (ds':=[.agg [.fn (.func 44) [.ptr 0 0],sw72 1 a1.length],iv a2,iv a3]) (i:=0) (ids:=[1]) (o:=.var [.ref 1 0 a1.length 2]) (os:=[.arr (encL zac a1)]) (o':=.var [.ref 1 0 r9001.length 2]) (os':=[.arr (encL zac r9001)]) rfl (by kernel_rfl) (by kernel_rfl) (by kernel_rfl) (by kernel_rfl) (by kernel_rfl) (yaq _ _ _ _ h9002) rfl rfl).trans (by kernel_rfl)
theorem q81_1 {a1:List Pair}{a2 a3:Int}{r9001:(Bool×(List Pair))}{X2:Ob} (h9002:za9 a2 a3 a1=some r9001):callD (callW Try.prog A0) A0 [.var [.ref 1 0 a1.length 2],.arr (encL zac a1),X2] 81 [.agg [.fn (.func 44) [.ptr 0 0],sw72 1 a1.length],iv a2,iv a3]=some (.p (.v (.bool r9001.1)),some [.var [.ref 1 0 r9001.2.length 2],.arr (encL zac r9001.2),X2]):=(zbd (dsw:=[.agg [.fn (.func 44) [.ptr 0 0],sw72 1 a1.length],iv a2,iv a3]) (ds':=[.agg [.fn (.func 44) [.ptr 0 0],sw72 1 a1.length],iv a2,iv a3]) (i:=0) (ids:=[1]) (o:=.var [.ref 1 0 a1.length 2]) (os:=[.arr (encL zac a1)]) (o':=.var [.ref 1 0 r9001.2.length 2]) (os':=[.arr (encL zac r9001.2)]) rfl (by kernel_rfl) (by kernel_rfl) (by kernel_rfl) (by kernel_rfl) (by kernel_rfl) (ybc _ _ _ _ h9002) rfl rfl).trans (by kernel_rfl)
theorem q83_1 {a1:List Pair}{a2 a3 a4:Int}{r9001:(Int×Bool×(List Pair))}{X2:Ob} (h9002:zas a2 a3 a4 a1=some r9001):callD (callW Try.prog A0) A0 [.var [.ref 1 0 a1.length 2],.arr (encL zac a1),X2] 83 [.agg [.fn (.func 44) [.ptr 0 0],sw72 1 a1.length],iv a2,iv a3,iv a4]=some (.p (.tup [.v (.int .i64 r9001.1),.v (.bool r9001.2.1)]),some [.var [.ref 1 0 r9001.2.2.length 2],.arr (encL zac r9001.2.2),X2]):=(zbd (dsw:=[.agg [.fn (.func 44) [.ptr 0 0],sw72 1 a1.length],iv a2,iv a3,iv a4]) (ds':=[.agg [.fn (.func 44) [.ptr 0 0],sw72 1 a1.length],iv a2,iv a3,iv a4]) (i:=0) (ids:=[1]) (o:=.var [.ref 1 0 a1.length 2]) (os:=[.arr (encL zac a1)]) (o':=.var [.ref 1 0 r9001.2.2.length 2]) (os':=[.arr (encL zac r9001.2.2)]) rfl (by kernel_rfl) (by kernel_rfl) (by kernel_rfl) (by kernel_rfl) (by kernel_rfl) (yaz _ _ _ _ _ h9002) rfl rfl).trans (by kernel_rfl)
theorem q82_1 {a1:List Pair}{a2 a3 a4:Int}{r9001:(Int×(List Pair))}{X2:Ob} (h9002:zay a2 a3 a4 a1=some r9001):callD (callW Try.prog A0) A0 [.var [.ref 1 0 a1.length 2],.arr (encL zac a1),X2] 82 [.agg [.fn (.func 44) [.ptr 0 0],sw72 1 a1.length],iv a2,iv a3,iv a4]=some (.p (.v (.int .i64 r9001.1)),some [.var [.ref 1 0 r9001.2.length 2],.arr (encL zac r9001.2),X2]):=(zbd (dsw:=[.agg [.fn (.func 44) [.ptr 0 0],sw72 1 a1.length],iv a2,iv a3,iv a4]) (ds':=[.agg [.fn (.func 44) [.ptr 0 0],sw72 1 a1.length],iv a2,iv a3,iv a4]) (i:=0) (ids:=[1]) (o:=.var [.ref 1 0 a1.length 2]) (os:=[.arr (encL zac a1)]) (o':=.var [.ref 1 0 r9001.2.length 2]) (os':=[.arr (encL zac r9001.2)]) rfl (by kernel_rfl) (by kernel_rfl) (by kernel_rfl) (by kernel_rfl) (by kernel_rfl) (ya9 _ _ _ _ _ h9002) rfl rfl).trans (by kernel_rfl)
theorem q79_0 {a1:List Pair}{a2 a3:Int}{r9001:(Int×Int)}{X2:Ob} (h9002:zcc a2 a3 a1=some r9001):callD (callW Try.prog A0) A0 [.var [.ref 1 0 a1.length 2],.arr (encL zac a1),X2] 79 [.agg [.fn (.func 44) [.ptr 0 0],sw72 1 a1.length],iv a2,iv a3]=some (.p (.tup [.v (.int .i64 r9001.1),.v (.int .i64 r9001.2)]),some [.var [.ref 1 0 a1.length 2],.arr (encL zac a1),X2]):=(zbd (dsw:=[.agg [.fn (.func 44) [.ptr 0 0],sw72 1 a1.length],iv a2,iv a3]) (ds':=[.agg [.fn (.func 44) [.ptr 0 0],sw72 1 a1.length],iv a2,iv a3]) (i:=0) (ids:=[1]) (o:=.var [.ref 1 0 a1.length 2]) (os:=[.arr (encL zac a1)]) (o':=.var [.ref 1 0 a1.length 2]) (os':=[.arr (encL zac a1)]) rfl (by kernel_rfl) (by kernel_rfl) (by kernel_rfl) (by kernel_rfl) (by kernel_rfl) (ya0 _ _ _ _ h9002) rfl rfl).trans (by kernel_rfl)
theorem yj1  (x0:Int) (r:Int) (h:zec x0=some r):callW Try.prog A0 86 [iv x0] []=some (.p (.v (.int .u64 r)),[]):=by
 refine zax (fn:=Try.f86) (c:=zae Try.f86) 9 rfl rfl (by kernel_rfl) (by kernel_rfl) (by kernel_rfl) ?_
 unfold zec at h;unfold zae Try.f86;simp only [ens]
 revert h
 repeat' (with_reducible refine gB fun _ _=>?_)
 intro h;obtain rfl:=Option.some.inj h
 simp (maxSteps:=10000000) (implicitDefEqProofs:=false) (disch:=first | with_reducible assumption | exact rfl | exact im_ _ | (fail_if_success show Kn _ _);omega) only [bs,rs86,ls86,Nat.reduceAdd,↓reduceIte,zqu,c59_0]
 refine ⟨by simp, ?_⟩;exact zdk rfl rfl rfl rfl
def ls87:=And.intro @zr7 (@zlh)
theorem c86_0 {H:List Ob}{a1:Int}{r:Int} (h:zec a1=some r):callD (callW Try.prog A0) A0 H 86 [iv a1]=some (.p (.v (.int .u64 r)),none) :=
 zbi (args:=[.v (.int .i64 a1)]) rfl rfl rfl (by simp only [List.map_cons,List.map_nil,wk,wks,wkL];exact yj1 a1 _ h)
theorem yiv  (x0:Int) (r:(Int×Int)) (h:zfn x0=some r):callW Try.prog A0 87 [.ptr 0 0] [.var [.p (.v (.int .u64 x0))]]=some (.p (.v (.int .u64 r.1)),[.var [.p (.v (.int .u64 r.2))]]):=by
 refine zax (fn:=Try.f87) (c:=zae Try.f87) 32 rfl rfl (by kernel_rfl) (by kernel_rfl) (by kernel_rfl) ?_
 unfold zfn at h;unfold zae Try.f87;simp only [ens]
 revert h
 repeat' (with_reducible refine gB fun _ _=>?_)
 intro h;obtain rfl:=Option.some.inj h
 simp (maxSteps:=10000000) (implicitDefEqProofs:=false) (disch:=first | with_reducible assumption | exact rfl | exact im_ _ | (fail_if_success show Kn _ _);omega) only [bs,rs87,ls87,Nat.reduceAdd,↓reduceIte,zqu,zbu,zny,zab a105,znk,zob,zdx z105]
 refine ⟨by simp, ?_⟩;show _=_;kernel_rfl
def ls78:=And.intro @ye1 (And.intro @z54 (And.intro @z5u (And.intro @zhv (And.intro @zr7 (@zfg)))))
theorem q72_1 {a1:List Pair}{a2 a3:Int}{r9003:_}{X0 X2 X3:Ob} (h9001:swapL a2 a3 a1=some r9003):callD (callW Try.prog A0) A0 [X0,.arr (encL zac a1),X2,X3] 72 [iv a2,iv a3,.ref 1 0 a1.length 2,.p (.v (typeHandle Try.prog 43))]=some (.p (.tup []),some [X0,.arr (encL zac r9003),X2,X3]):=(zbd (dsw:=[iv a2,iv a3,.ref 1 0 a1.length 2,.p (.v (typeHandle Try.prog 43))]) (ds':=[iv a2,iv a3,.ref 0 0 a1.length 2,.p (.v (typeHandle Try.prog 43))]) (i:=1) (ids:=[]) (o:=.arr (encL zac a1)) (os:=[]) (o':=.arr (encL zac r9003)) (os':=[]) rfl (by kernel_rfl) (by kernel_rfl) (by kernel_rfl) (by kernel_rfl) (by kernel_rfl) (zn1 h9001) rfl rfl).trans (by kernel_rfl)
theorem q87_0 {a1:Int}{r9001:(Int×Int)}{X0 X1 X2:Ob} (h9002:zfn a1=some r9001):callD (callW Try.prog A0) A0 [X0,X1,X2,.var [.p (.v (.int .u64 a1))]] 87 [.ptr 3 0]=some (.p (.v (.int .u64 r9001.1)),some [X0,X1,X2,.var [.p (.v (.int .u64 r9001.2))]]):=(zbd (dsw:=[.ptr 3 0]) (ds':=[.ptr 0 0]) (i:=3) (ids:=[]) (o:=.var [.p (.v (.int .u64 a1))]) (os:=[]) (o':=.var [.p (.v (.int .u64 r9001.2))]) (os':=[]) rfl (by kernel_rfl) (by kernel_rfl) (by kernel_rfl) (by kernel_rfl) (by kernel_rfl) (yiv _ _ h9002) rfl rfl).trans (by kernel_rfl)
noncomputable def L78_0:Code:=(zak (zae Try.f78)).getD 0 .skip
def g78_0:List Ghost:=[.keep [1,3,6,7,8,9]]
noncomputable def F78_0 (s1:Int) (s6:Int) (s8:Int):(Int×(List Pair)×Int)→St:=fun (s9,y1,w3_0)=>⟨[J,iv s1,J,.ptr 2 0,J,J,iv s6,.ptr 3 0,.p (.v (.int .u64 s8)),iv s9,J,J,J,J,J,J,J,J,J,J,J,J,J,J,J,J,J,J,J,J,J,J,J,J,J,J,J,J,J,J,J,J,J,J,J,J,J,J,J,J,J,J,J,J],[.var [.ref 1 0 y1.length 2],.arr (encL zac y1),.var [.fn (.func 44) [.ptr 0 0],sw72 1 y1.length],.var [.p (.v (.int .u64 w3_0))]],2⟩
theorem z6n (s1:Int) (s6:Int) (s8:Int):∀ s st o,zaj g78_0 st=some (F78_0 s1 s6 s8 s)→iter (zc1 s1 s6 s8) s=some o →
    Wp (evW Try.prog A0 78 (.loop L78_0) st) (OutQ (F78_0 s1 s6 s8) g78_0 (fun n s st=>n=0∧(match s with | (s9,y1,w3_0)=>zap Try.prog A0 78 Try.f78 st=some (.p (.tup []),[.var [.ref 1 0 y1.length 2],.arr (encL zac y1)]))) (fun r st=>zap Try.prog A0 78 Try.f78 st=some (.p (.tup []),[.var [.ref 1 0 r.length 2],.arr (encL zac r)])) o):=by
 refine Wp.iter ?_
 intro s st o hg h
 obtain ⟨s9,y1,w3_0⟩:=s
 unfold zc1 at h;unfold g78_0 F78_0 at hg ⊢
 (try simp only [] at h hg)
 unfold L78_0 zae Try.f78;simp only [zak,ens]
 revert h
 repeat' first | (with_reducible refine gB fun _ _=>?_) | (with_reducible refine gW fun _=>?_) | (with_reducible refine gI (fun _ _=>?_) (fun _ _=>?_))
 all_goals
  intro h;obtain rfl:=Option.some.inj h
  first | (simp (maxSteps:=10000000) (implicitDefEqProofs:=false) (disch:=first | with_reducible assumption | exact rfl | exact im_ _ | (fail_if_success show Kn _ _);omega) only [bs,rs78,ls78,Nat.reduceAdd,↓reduceIte,zlq,zfc,zls (k:=.u64),zah,c86_0,zab a80,q72_1,q87_0,zdx z105,hg];first | (exact ⟨(rfl:Ex.normal=Ex.normal),by (try simp only [List.length_set,zbv, *]);kernel_rfl⟩) | (refine ⟨(rfl:Ex.exit 0=Ex.exit 0),rfl, ?_⟩;show _=_;kernel_rfl)) | (exfalso;omega)
theorem yh9  (x1:Int) (x2:Int) (o1:(List Pair)) (r:(List Pair)) (h:zcv x1 x2 o1=some r):callW Try.prog A0 78 [.agg [.fn (.func 44) [.ptr 0 0],sw72 1 o1.length],iv x1,iv x2] [.var [.ref 1 0 o1.length 2],.arr (encL zac o1)]=some (.p (.tup []),[.var [.ref 1 0 r.length 2],.arr (encL zac r)]):=by
 refine zax (fn:=Try.f78) (c:=zae Try.f78) 51 rfl rfl (by kernel_rfl) (by kernel_rfl) (by kernel_rfl) ?_
 unfold zcv at h;unfold zae Try.f78;simp only [ens]
 revert h
 refine gI (fun h1 _=>?_) (fun h1 _=>?_)
 ·refine gB fun r2 h3=>?_
  refine gB fun q5 h6=>?_
  refine gB fun o h40=>?_
  intro h
  simp (maxSteps:=10000000) (implicitDefEqProofs:=false) (disch:=first | with_reducible assumption | exact rfl | exact im_ _ | (fail_if_success show Kn _ _);omega) only [bs,rs78,ls78,Nat.reduceAdd,↓reduceIte,zlq,zfc,zls (k:=.u64),zah,c86_0,zab a80,q72_1,q87_0,zdx z105]
  refine Wp.ctx (fun x=>za6 _ (x)) (z6n x1 (w64 (x2 - x1)) r2 (w64 ((w64 (x1+(w64 (q5*(2:Int))))) - (1:Int)),o1,IntKind.wrap .u64 (w64 (x2 - x1))) _ o (by kernel_rfl) h40) ?_
  intro e st hq
  cases o with
  | next _=>(first | cases h | (simp at h))
  | jmp n_ s_ =>
   obtain ⟨rfl,rfl,hq⟩:=hq
   obtain ⟨s9_41,y1_41,w3_0_41⟩:=s_
   obtain rfl:=Option.some.inj h
   simp (maxSteps:=10000000) (implicitDefEqProofs:=false) (disch:=first | with_reducible assumption | exact rfl | exact im_ _ | (fail_if_success show Kn _ _);omega) only [bs,rs78,ls78,Nat.reduceAdd,↓reduceIte,zlq,zfc,zls (k:=.u64),zah,c86_0,zab a80,q72_1,q87_0,zdx z105]
   exact ⟨by simp,hq⟩
  | ret _=>(first | cases h | (simp at h))
 ·intro h;obtain rfl:=Option.some.inj h
  simp (maxSteps:=10000000) (implicitDefEqProofs:=false) (disch:=first | with_reducible assumption | exact rfl | exact im_ _ | (fail_if_success show Kn _ _);omega) only [bs,rs78,ls78,Nat.reduceAdd,↓reduceIte,zlq,zfc,zls (k:=.u64),zah,c86_0,zab a80,q72_1,q87_0,zdx z105]
  refine ⟨by simp, ?_⟩;show _=_;kernel_rfl
def ls60:=And.intro @ya5 (And.intro @yah (And.intro @zix (And.intro @zft (@zjy))))
theorem q80_1 {a1:List Pair}{n2:Nat}{a3 a4:Int}{r9001:(List Pair)}{X2:Ob} (k0:n2=a1.length) (h9002:zb3 a3 a4 a1=some r9001):callD (callW Try.prog A0) A0 [.var [.ref 1 0 a1.length 2],.arr (encL zac a1),X2] 80 [.agg [.fn (.func 44) [.ptr 0 0],sw72 1 n2],iv a3,iv a4]=some (.p (.tup []),some [.var [.ref 1 0 r9001.length 2],.arr (encL zac r9001),X2]):=by
  rw [show n2=a1.length from by omega];exact (zbd (dsw:=[.agg [.fn (.func 44) [.ptr 0 0],sw72 1 a1.length],iv a3,iv a4]) (ds':=[.agg [.fn (.func 44) [.ptr 0 0],sw72 1 a1.length],iv a3,iv a4]) (i:=0) (ids:=[1]) (o:=.var [.ref 1 0 a1.length 2]) (os:=[.arr (encL zac a1)]) (o':=.var [.ref 1 0 r9001.length 2]) (os':=[.arr (encL zac r9001)]) rfl (by kernel_rfl) (by kernel_rfl) (by kernel_rfl) (by kernel_rfl) (by kernel_rfl) (yaq _ _ _ _ h9002) rfl rfl).trans (by kernel_rfl)
theorem q79_1 {a1:List Pair}{n2:Nat}{a3 a4:Int}{r9001:(Int×Int)}{X2:Ob} (k0:n2=a1.length) (h9002:zcc a3 a4 a1=some r9001):callD (callW Try.prog A0) A0 [.var [.ref 1 0 a1.length 2],.arr (encL zac a1),X2] 79 [.agg [.fn (.func 44) [.ptr 0 0],sw72 1 n2],iv a3,iv a4]=some (.p (.tup [.v (.int .i64 r9001.1),.v (.int .i64 r9001.2)]),some [.var [.ref 1 0 a1.length 2],.arr (encL zac a1),X2]):=by
  rw [show n2=a1.length from by omega];exact (zbd (dsw:=[.agg [.fn (.func 44) [.ptr 0 0],sw72 1 a1.length],iv a3,iv a4]) (ds':=[.agg [.fn (.func 44) [.ptr 0 0],sw72 1 a1.length],iv a3,iv a4]) (i:=0) (ids:=[1]) (o:=.var [.ref 1 0 a1.length 2]) (os:=[.arr (encL zac a1)]) (o':=.var [.ref 1 0 a1.length 2]) (os':=[.arr (encL zac a1)]) rfl (by kernel_rfl) (by kernel_rfl) (by kernel_rfl) (by kernel_rfl) (by kernel_rfl) (ya0 _ _ _ _ h9002) rfl rfl).trans (by kernel_rfl)
theorem q78_0 {a1:List Pair}{a2 a3:Int}{r9001:(List Pair)}{X2:Ob} (h9002:zcv a2 a3 a1=some r9001):callD (callW Try.prog A0) A0 [.var [.ref 1 0 a1.length 2],.arr (encL zac a1),X2] 78 [.agg [.fn (.func 44) [.ptr 0 0],sw72 1 a1.length],iv a2,iv a3]=some (.p (.tup []),some [.var [.ref 1 0 r9001.length 2],.arr (encL zac r9001),X2]):=(zbd (dsw:=[.agg [.fn (.func 44) [.ptr 0 0],sw72 1 a1.length],iv a2,iv a3]) (ds':=[.agg [.fn (.func 44) [.ptr 0 0],sw72 1 a1.length],iv a2,iv a3]) (i:=0) (ids:=[1]) (o:=.var [.ref 1 0 a1.length 2]) (os:=[.arr (encL zac a1)]) (o':=.var [.ref 1 0 r9001.length 2]) (os':=[.arr (encL zac r9001)]) rfl (by kernel_rfl) (by kernel_rfl) (by kernel_rfl) (by kernel_rfl) (by kernel_rfl) (yh9 _ _ _ _ h9002) rfl rfl).trans (by kernel_rfl)
noncomputable def L60_0:Code:=(zak (zae Try.f60)).getD 0 .skip
def g60_0:List Ghost:=[.keep [1,2,3,4,8,9]]
noncomputable def F60_0:(Int×Int×Int×Bool×Bool×(List Pair))→St:=fun (s1,s2,s3,s8,s9,y1)=>⟨[J,iv s1,iv s2,iv s3,.ptr 2 0,J,J,J,bv s8,bv s9,J,J,J,J,J,J,J,J,J,J,J,J,J,J,J,J,J,J,J,J,J,J,J,J,J,J,J,J,J,J,J,J,J,J,J,J,J,J,J,J,J,J,J,J,J,J,J,J,J,J,J,J,J,J,J,J,J,J,J,J,J,J,J,J,J,J,J,J,J,J,J,J,J,J,J,J,J,J,J,J,J,J,J,J,J,J,J,J,J,J,J,J,J,J,J,J,J,J,J,J,J,J,J,J,J,J,J,J,J,J,J,J,J,J,J,J,J,J,J,J],[.var [.ref 1 0 y1.length 2],.arr (encL zac y1),.var [.fn (.func 44) [.ptr 0 0],sw72 1 y1.length]],2⟩
theorem z8s {rec:Int→Int→Int→(List Pair)→Option (List Pair)} (hrec:∀ x1 x2 x3 o1 r,rec x1 x2 x3 o1=some r→callW Try.prog A0 60 [.agg [.fn (.func 44) [.ptr 0 0],sw72 1 o1.length],iv x1,iv x2,iv x3] [.var [.ref 1 0 o1.length 2],.arr (encL zac o1)]=some (.p (.tup []),[.var [.ref 1 0 r.length 2],.arr (encL zac r)])):∀ s st o,zaj g60_0 st=some (F60_0 s)→iter (ze2 rec) s=some o →
    Wp (evW Try.prog A0 60 (.loop L60_0) st) (OutQ (F60_0) g60_0 (fun n s st=>False) (fun r st=>zap Try.prog A0 60 Try.f60 st=some (.p (.tup []),[.var [.ref 1 0 r.length 2],.arr (encL zac r)])) o):=by
 refine Wp.iter ?_
 intro s st o hg h
 obtain ⟨s1,s2,s3,s8,s9,y1⟩:=s
 unfold ze2 at h;unfold g60_0 F60_0 at hg ⊢
 (try simp only [] at h hg)
 unfold L60_0 zae Try.f60;simp only [zak,ens]
 revert h
 repeat' first | (with_reducible refine gB fun _ _=>?_) | (with_reducible refine gW fun _=>?_) | (with_reducible refine gT (fun _ _=>?_) (fun _ _=>?_)) | (with_reducible refine gI (fun _ _=>?_) (fun _ _=>?_))
 all_goals
  intro h;obtain rfl:=Option.some.inj h
  first | (simp (maxSteps:=10000000) (implicitDefEqProofs:=false) (disch:=first | with_reducible assumption | exact rfl | exact im_ _ | (fail_if_success show Kn _ _);omega) only [bs,rs60,ls60,Nat.reduceAdd,↓reduceIte,Int.reduceEq,Int.reduceLE,Int.reduceLT,zfc,zah,zag a84 z84,zab a64,q44_0,q60_0 hrec,q73_0,q77_0,q78_0,q79_0,q79_1,q80_0,q80_1,q81_0,q81_1,q82_0,q82_1,q83_0,q83_1,hg];first | (refine ⟨(rfl:Ex.ret=Ex.ret), ?_⟩;show _=_;(try simp only [List.length_set,zbv, *]);kernel_rfl) | (exact ⟨(rfl:Ex.normal=Ex.normal),by (try simp only [List.length_set,zbv, *]);kernel_rfl⟩)) | (exfalso;omega)
theorem yfc {rec:Int→Int→Int→(List Pair)→Option (List Pair)} (hrec:∀ x1 x2 x3 o1 r,rec x1 x2 x3 o1=some r→callW Try.prog A0 60 [.agg [.fn (.func 44) [.ptr 0 0],sw72 1 o1.length],iv x1,iv x2,iv x3] [.var [.ref 1 0 o1.length 2],.arr (encL zac o1)]=some (.p (.tup []),[.var [.ref 1 0 r.length 2],.arr (encL zac r)]))  (x1:Int) (x2:Int) (x3:Int) (o1:(List Pair)) (r:(List Pair)) (h:sort_pdqsort_func.body rec x1 x2 x3 o1=some r):callW Try.prog A0 60 [.agg [.fn (.func 44) [.ptr 0 0],sw72 1 o1.length],iv x1,iv x2,iv x3] [.var [.ref 1 0 o1.length 2],.arr (encL zac o1)]=some (.p (.tup []),[.var [.ref 1 0 r.length 2],.arr (encL zac r)]):=by
 refine zax (fn:=Try.f60) (c:=zae Try.f60) 126 rfl rfl (by kernel_rfl) (by kernel_rfl) (by kernel_rfl) ?_
 unfold sort_pdqsort_func.body at h;unfold zae Try.f60;simp only [ens]
 revert h
 refine gB fun o h663=>?_
 intro h
 simp (maxSteps:=10000000) (implicitDefEqProofs:=false) (disch:=first | with_reducible assumption | exact rfl | exact im_ _ | (fail_if_success show Kn _ _);omega) only [bs,rs60,ls60,Nat.reduceAdd,↓reduceIte,Int.reduceEq,Int.reduceLE,Int.reduceLT,zfc,zah,zag a84 z84,zab a64,q44_0,q60_0 hrec,q73_0,q77_0,q78_0,q79_0,q79_1,q80_0,q80_1,q81_0,q81_1,q82_0,q82_1,q83_0,q83_1]
 refine Wp.ctx (fun x=>za6 _ (x)) (z8s hrec (x1,x2,x3,true,true,o1) _ o (by kernel_rfl) h663) ?_
 intro e st hq
 cases o with
 | next _=>(first | cases h | (simp at h))
 | jmp n_ s_=>exact hq.2.elim
 | ret r665 =>
  obtain ⟨rfl,hq⟩:=hq
  obtain rfl:=Option.some.inj h
  simp (maxSteps:=10000000) (implicitDefEqProofs:=false) (disch:=first | with_reducible assumption | exact rfl | exact im_ _ | (fail_if_success show Kn _ _);omega) only [bs,rs60,ls60,Nat.reduceAdd,↓reduceIte,Int.reduceEq,Int.reduceLE,Int.reduceLT,zfc,zah,zag a84 z84,zab a64,q44_0,q60_0 hrec,q73_0,q77_0,q78_0,q79_0,q79_1,q80_0,q80_1,q81_0,q81_1,q82_0,q82_1,q83_0,q83_1]
  exact ⟨by simp,hq⟩
theorem z6i:∀ (x1:Int) (x2:Int) (x3:Int) (o1:(List Pair)) r,pdqF x1 x2 x3 o1=some r→callW Try.prog A0 60 [.agg [.fn (.func 44) [.ptr 0 0],sw72 1 o1.length],iv x1,iv x2,iv x3] [.var [.ref 1 0 o1.length 2],.arr (encL zac o1)]=some (.p (.tup []),[.var [.ref 1 0 r.length 2],.arr (encL zac r)]):=by
 have key:∀ n (x1:Int) (x2:Int) (x3:Int) (o1:(List Pair)) r,zmg x1 x2 x3 o1<n→pdqF x1 x2 x3 o1=some r→callW Try.prog A0 60 [.agg [.fn (.func 44) [.ptr 0 0],sw72 1 o1.length],iv x1,iv x2,iv x3] [.var [.ref 1 0 o1.length 2],.arr (encL zac o1)]=some (.p (.tup []),[.var [.ref 1 0 r.length 2],.arr (encL zac r)]):=by
  intro n
  induction n with
  | zero=>intro x1 x2 x3 o1 r h;omega
  | succ n ih =>
   intro x1 x2 x3 o1 r hn h
   refine yfc (rec:=fun x1' x2' x3' o1'=>if zmg x1' x2' x3' o1'<zmg x1 x2 x3 o1 then pdqF x1' x2' x3' o1' else none) ?_ x1 x2 x3 o1 r (z41 x1 x2 x3 o1 r h)
   intro x1' x2' x3' o1' r' h'
   by_cases hm:zmg x1' x2' x3' o1'<zmg x1 x2 x3 o1
   ·rw [if_pos hm] at h';exact ih x1' x2' x3' o1' r' (by omega) h'
   ·rw [if_neg hm] at h';cases h'
 intro x1 x2 x3 o1 r h
 exact key _ x1 x2 x3 o1 r (Nat.lt_succ_self _) h
def ls43:=And.intro @al_78 (And.intro @zxe (And.intro @zsy (And.intro @zrr (@zuo))))
theorem q60_1 {a1:List Pair}{a2 a3 a4:Int}{r9001:(List Pair)}{X2 X3:Ob} (h9002:pdqF a2 a3 a4 a1=some r9001):callD (callW Try.prog A0) A0 [.arr (encL zac a1),.var [.ref 0 0 a1.length 2],X2,X3] 60 [.agg [.fn (.func 44) [.ptr 1 0],sw72 0 a1.length],iv a2,iv a3,iv a4]=some (.p (.tup []),some [.arr (encL zac r9001),.var [.ref 0 0 r9001.length 2],X2,X3]):=(zbd (dsw:=[.agg [.fn (.func 44) [.ptr 1 0],sw72 0 a1.length],iv a2,iv a3,iv a4]) (ds':=[.agg [.fn (.func 44) [.ptr 0 0],sw72 1 a1.length],iv a2,iv a3,iv a4]) (i:=1) (ids:=[0]) (o:=.var [.ref 1 0 a1.length 2]) (os:=[.arr (encL zac a1)]) (o':=.var [.ref 1 0 r9001.length 2]) (os':=[.arr (encL zac r9001)]) rfl (by kernel_rfl) (by kernel_rfl) (by kernel_rfl) (by kernel_rfl) (by kernel_rfl) (z6i _ _ _ _ _ h9002) rfl rfl).trans (by kernel_rfl)
theorem q58_0 {a1:List Pair}{X1 X3:Ob}:callD (callW Try.prog A0) A0 [.arr (encL zac a1),X1,.var [.ref 0 0 a1.length 2],X3] 58 [.agg [.p (.v (typeHandle Try.prog 36)),.ptr 2 0,.p (.v (.int .u64 (151:Int)))]]=some (iv (a1.length:Int),some [.arr (encL zac a1),X1,.var [.ref 0 0 a1.length 2],X3]):=(zka (dsw:=[.agg [.p (.v (typeHandle Try.prog 36)),.ptr 2 0,.p (.v (.int .u64 (151:Int)))]]) (ds':=[.agg [.p (.v (typeHandle Try.prog 36)),.ptr 0 0,.p (.v (.int .u64 151))]]) (i:=2) (ids:=[0]) (o:=.var [.ref 1 0 a1.length 2]) (os:=[.arr (encL zac a1)]) (x:=.p (.v (.int .i64 (a1.length:Int)))) (o':=.var [.ref 1 0 a1.length 2]) (os':=[.arr (encL zac a1)]) rfl (by kernel_rfl) (by kernel_rfl) (by kernel_rfl) (by kernel_rfl) (by kernel_rfl) (zn4 rfl (by kernel_rfl) (by kernel_rfl) (by kernel_rfl) u36) rfl rfl).trans (by kernel_rfl)
theorem q56_0 {a1:List Pair}{X1 X2 X3:Ob} (h9003:2≤a1.length):callD (callW Try.prog A0) A0 [.arr (encL zac a1),X1,X2,X3] 56 [.ifc 36 (.ref 0 0 a1.length 2)]=some (sw72 0 a1.length,some [.arr (encL zac a1),X1,X2,X3]):=(zka (dsw:=[.ifc 36 (.ref 0 0 a1.length 2)]) (ds':=[.ifc 36 (.ref 0 0 a1.length 2)]) (i:=0) (ids:=[]) (o:=.arr (encL zac a1)) (os:=[]) (x:=.fn (.func 72) [.ref 0 0 a1.length 2,.p (.v (typeHandle Try.prog 43))]) (o':=.arr (encL zac a1)) (os':=[]) rfl (by kernel_rfl) (by kernel_rfl) (by kernel_rfl) (by kernel_rfl) (by kernel_rfl) (zne rfl rfl (by assumption)) rfl rfl).trans (by kernel_rfl)
theorem q55_0 {a1:List Pair}{X1:Ob}:callD (callW Try.prog A0) A0 [.arr (encL zac a1),X1] 55 [.ifc 36 (.ref 0 0 a1.length 2)]=some (.agg [.p (.v (typeHandle Try.prog 36)),.ptr 2 0,.p (.v (.int .u64 (151:Int)))],some [.arr (encL zac a1),X1,.var [.ref 0 0 a1.length 2]]):=(zka (dsw:=[.ifc 36 (.ref 0 0 a1.length 2)]) (ds':=[.ifc 36 (.ref 0 0 a1.length 2)]) (i:=0) (ids:=[]) (o:=.arr (encL zac a1)) (os:=[]) (x:=.agg [.p (.v (typeHandle Try.prog 36)),.ptr 1 0,.p (.v (.int .u64 151))]) (o':=.arr (encL zac a1)) (os':=[.var [.ref 0 0 a1.length 2]]) rfl (by kernel_rfl) (by kernel_rfl) (by kernel_rfl) (by kernel_rfl) (by kernel_rfl) (zng rfl (by kernel_rfl)) rfl rfl).trans (by kernel_rfl)
theorem yez  (o0:(List Pair)) (r:(List Pair)) (h:zlo o0=some r):callW Try.prog A0 43 [.ifc 36 (.ref 0 0 o0.length 2),.fn (.func 44) [.ptr 1 0]] [.arr (encL zac o0),.var [.ref 0 0 o0.length 2]]=some (.p (.tup []),[.arr (encL zac r),.var [.ref 0 0 r.length 2]]):=by
 refine zax (fn:=Try.f43) (c:=zae Try.f43) 21 rfl rfl (by kernel_rfl) (by kernel_rfl) (by kernel_rfl) ?_
 unfold zlo at h;unfold zae Try.f43;simp only [ens]
 revert h
 repeat' first | (with_reducible refine gB fun _ _=>?_) | (with_reducible refine gW fun _=>?_)
 intro h;obtain rfl:=Option.some.inj h
 simp (maxSteps:=10000000) (implicitDefEqProofs:=false) (disch:=first | with_reducible assumption | exact rfl | exact im_ _ | (fail_if_success show Kn _ _);omega) only [bs,rs43,ls43,Nat.reduceAdd,↓reduceIte,c59_0,zag a78 z78,q55_0,q56_0,q58_0,q60_1,zpg z78]
 refine ⟨by simp, ?_⟩;show _=_;(try simp only [List.length_set,zbv, *]);kernel_rfl
theorem znt {o0:(List Pair)}{r:(List Pair)} (h:zhf o0=some r):callW Try.prog A0 43 [.ifc 36 (.ref 0 0 o0.length 2),.fn (.func 44) [.ptr 1 0]] [.arr (encL zac o0),.var [.ref 0 0 o0.length 2]]=some (.p (.tup []),[.arr (encL zac r),.var [.ref 0 0 r.length 2]]):=by
 unfold zhf at h
 match o0,h with
 | [],h=>rw [if_pos (by simp)] at h;obtain rfl:=Option.some.inj h;exact zee.2 ⟨60,by kernel_rfl⟩
 | [y],h=>rw [if_pos (by simp)] at h;obtain rfl:=Option.some.inj h;exact zee.2 ⟨60,by kernel_rfl⟩
 | y :: z :: l,h=>rw [if_neg (by simp only [List.length_cons];omega)] at h;exact yez _ _ h
end Xr

