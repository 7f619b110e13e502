/- Whatever the program, gotype.Check and the document answer alike. Part 6 of 7 of the proof. -/
import Derived.Test.YtnfnbjjnjjdjdaaGreatDoorGotypeCheckse
set_option linter.unusedSimpArgs false
set_option linter.defProp false
set_option maxRecDepth 100000
set_option linter.unusedVariables false
set_option maxHeartbeats 16000000
namespace Go.Proofs.YtnfnbjjnjjdjdaaGreatDoor
open _root_.Go.Proofs.Tryz
open Go.RowKit Go.Av Go.Ab
theorem cy.tQ {P:Program} {I:Inv} {fn:FuncId} {f:Func} {body:Code} {args:List V} {S:Mem} {R:V→Mem→Prop} (n:Nat) (hf:P.funcs[fn]? = some f) (hb:f.body=some body) (wv:(f.name == "runtime.NumGoroutine")=false) (hn:f.ntmps=n) (hl:args.length≤n)
 (h:az P I (S.boxes.length,S.dG.length) fn [.code body] (cN n (mb 0 args)) S R):cy P I fn args S R :=
 cy.enter hf hb wv (by rw [hn,Gf n args hl];exact h)
theorem LJ {su:List eZ} {fu:List fL} {res:List bJ} {s:cL} {vs:List ep} {s':cL} {rZ:List ep} (h:jb su fu res s vs=some (s',rZ)):rZ=vs∨∃ n,rZ=vs++[⟨n,s.type⟩]:=by
 obtain ⟨k,ns,ty,ls,es,b,e,cs⟩:=s;unfold jb at h
 split at h
 ·split at h
  ·split at h
   ·rename_i n _ _;have:=(aR (ag h)).2;exact .inr ⟨n,this.symm⟩
   ·cases h
  ·cases h
 split at h
 ·split at h
  ·obtain ⟨x,_,e⟩:=aB.1 h;exact .inl (aR e).2.symm
  ·cases h
 split at h
 ·obtain ⟨x,_,e⟩:=aB.1 h;exact .inl (aR e).2.symm
 split at h
 ·split at h
  ·split at h
   ·split at h
    ·split at h
     ·obtain ⟨x,_,e⟩:=aB.1 h;exact .inl (aR e).2.symm
     ·cases h
    ·cases h
   ·cases h
  ·split at h
   ·split at h
    ·obtain ⟨x,_,e⟩:=aB.1 h;exact .inl (aR e).2.symm
    ·cases h
   ·cases h
 ·cases h
theorem LK (su:List eZ) (fu:List fL) (res:List bJ) (l:List cL) (vs:List ep) (i:Nat) (h:i < l.length):eD su fu res (l.drop i) vs=match jb su fu res l[i] vs with
 | some (s,vs)=>(eD su fu res (l.drop (i+1)) vs).map fun l=>s :: l
 | none=>none:=by
 rw [aJ h]
 conv=>lhs;unfold eD
 rfl
theorem Za (l:List cL) (i:Nat) (h:i < l.length):wL (l.drop i)=wS l[i]+wL (l.drop (i+1)):=by
 rw [aJ h,wL]
theorem acN (s:cL):1≤wS s:=by
 cases s;unfold wS;omega
structure BSt where
 i:Nat
 ys:List cL
 vs:List ep
 vv:V
 B:List (List V)
 K:List (Nat × Nat)
structure BOk (su:List eZ) (fu:List fL) (res:List bJ) (l:List cL) (c:Nat) (vv:V) (n:Nat) (B:bQ) (r:Option (List cL)) (a:BSt):Prop where
 le:a.i≤l.length
 len:a.ys.length=a.i
 gro:rH c vv n B a.B
 at':FB a.B c su fu a.vv res a.vs (wL (l.drop a.i))
 n:n≤a.vs.length
 box:∀ k,k < B.length→yd a.vv k→yd vv k
 res:(eD su fu res (l.drop a.i) a.vs).map (a.ys++·)=r
theorem oG {su:List eZ} {fu:List fL} {res:List bJ} {l:List cL} (hl:∀ s∈l,Od su fu res s) (hlen:l.length≤60000) (jU:∀ s∈l,TW s.type):Oe su fu res l:=by
 intro vs c vv B T hv;obtain ⟨N,hn⟩:=aV B.length;obtain ⟨M,hM⟩:=aV T.length;have hi:c < N:=by have:=hv.lt;omega
 have hb:=hv.bx;unfold mG at hb
 have S7:kU vv=some [vv]:=by
  rcases hv.var with ⟨_,h⟩ | ⟨i,cap,J,h,_⟩<;>rw [h]<;>rfl
 generalize dN:eD su fu res l vs=r;refine cy.tQ (body:=(kF Tryz.f31 0)) 41 Tryz.func31 cP cP cP (cm rfl) ?_;refine az.go 160 ?_;simp only [W,seval,b31,hn,hi,hb];refine az.token 7 [] (by rfl) 10 ak rfl ?_;simp only [fP,hM];refine az.dL (fun a:BSt=>(cN 41 [(0,.ptr c 0),(1,.d (.sl (l.map gE))),(6,vv),(7,.sl (a.ys.map gE) (.own M)),(8,.d (.int .i64 (a.i:Int)))],⟨a.B,T++(a.i,10) :: a.K⟩)) (BOk su fu res l c vv vs.length B r) (fun a=>l.length - a.i) ⟨0,[],vs,vv,B,[]⟩ ⟨bG _,rfl,rH.refl _ _ _ _,hv,aA _,fun _ _ h=>h,by rw [← dN];simp⟩ cx rfl ?_;rintro ⟨i,ys,vi,vvi,Bi,K⟩ ha ih;obtain ⟨h1,h2,h3,h4,h5,h6,h7⟩:=ha;dsimp only at h1 h2 h3 h4 h5 h6 h7 ih ⊢;have hbi:=h4.bx;have vN:=h4.lt;unfold mG at hbi
 by_cases bu:i < l.length
 case neg =>
  have e2:decide ((i:Int) < (l.length:Int))=false:=af ak;rw [ay ak] at h7;unfold eD at h7;have h7:some ys=r:=by rw [← h7];simp
  refine goN ?_;simp only [W,seval,b31,vN,hbi,e2,S7];refine az.oC 4 (ys.map gE) (.own M) (by rfl) ?_;simp only [fP];refine bN b31 (id ?_);refine ⟨_,_,rfl,h3.Y9 _,?_⟩;rw [← h7];refine ⟨rfl,?_⟩;rw [aC ak];rfl
 have e2:decide ((i:Int) < (l.length:Int))=true:=ah ak;have ie:=bE ((i:Int)+1) ak;have gV:(i:Int) < (l.length:Int):=ak;have hg:(l.map gE)[i]? = some (gE l[i]):=by simp [bu]
 have kz:=hl l[i] (aH bu);have Vh:=jU l[i] (aH bu);rw [LK _ _ _ _ _ i bu] at h7;have hwd:=Za l i bu;obtain ⟨x,hx⟩:=aV (l[i]);rw [hx] at hg kz Vh h7 hwd;have kz:=kz vi c vvi Bi (T++(i,10) :: K) ⟨h4.lt,h4.bx,h4.var,by have:=h4.few;omega,h4.tw⟩;unfold vS at kz;rw [iZ] at hg;refine goN ?_;simp only [W,seval,b31,vN,hbi,e2,hg,bu,gV];refine cz kz ?_;rintro v _ ⟨B1,K1,rfl,g1,g2⟩;cases hs:jb su fu res x vi with
 | none =>
  rw [hs] at g2 h7;obtain ⟨cs,q1,rfl⟩:=g2;refine goN ?_;simp only [W,seval,b31,q1];refine az.oC 4 [] .full (by rfl) ?_;simp only [fP];refine bN b31 (id ?_);refine ⟨_,_,rfl,h3.trans (g1.trans (rH.more _ _ _ _ _) (aA _) fun _ _ h=>h) h5 h6,?_⟩;rw [← h7];rfl
 | some p =>
  obtain ⟨s',rZ⟩:=p;rw [hs] at g2 h7;obtain ⟨rfl,vv',g3,g4,g5,g6⟩:=g2;have gh:(i+1) * 200≤140737488355328:=ak
  have bW:ys.map gE++[[.int .i64 s'.kind,.sl (gN s'.names),.int .i64 s'.type.kind,.str s'.type.name,.sl (s'.type.elem.map eH),.sl (s'.cq.map eL),.sl (s'.exprs.map eL),.sl (s'.body.map gE),.sl (s'.iS.map gE),.sl (s'.cases.map lV)]]=(ys++[s']).map gE:=by
   rw [cr,← iZ];rfl
  have ajT:fE 10 [[D.int .i64 s'.kind,.sl (gN s'.names),.int .i64 s'.type.kind,.str s'.type.name,.sl (s'.type.elem.map eH),.sl (s'.cq.map eL),.sl (s'.exprs.map eL),.sl (s'.body.map gE),.sl (s'.iS.map gE),.sl (s'.cases.map lV)]]=true:=rfl;refine goN ?_;simp only [W,seval,b31,vS,hn,hM,aK,bL,bC,Nat.reduceMul,gh,h2,bW,ajT,ie];refine ih ⟨i+1,ys++[s'],rZ,vv',B1++[F2 s'],K++K1⟩ ⟨gP,by simp [h2],h3.trans (g1.trans (rH.more _ _ _ _ _) (aA _) fun _ _ h=>h) h5 h6,?_,gP,fun k hk hb=>h6 k hk (g6 k (by have:=h3.1;omega) hb),?_⟩ gP _ _ ?_ rfl
  ·dsimp only;have ajU:c < B1.length:=(ai.1 g3).1;refine FB.more ⟨ajU,g3,g4,?_,?_⟩
   ·have:=h4.few;have hp:=acN x;rcases LJ hs with rfl | ⟨m,rfl⟩
    ·omega
    ·rw [av,iD];omega
   ·rcases LJ hs with rfl | ⟨m,rfl⟩
    ·exact h4.tw
    ·intro p hp;rcases dA.1 hp with h | h
     ·exact h4.tw p h
     ·obtain rfl:=bO.1 h;exact Vh
  ·dsimp only;rw [← h7];dsimp only;cases eD su fu res (l.drop (i+1)) rZ<;>simp
  ·skip
   refine eU.env _ ?_;simp only [qa,seval,hn]
theorem mj.can {B:bQ} {c:Nat} {vv:V} {vs:List ep} (h:mj B c vv vs) (hn:vs.length≤1000000000):M7 4 B vv:=by
 rcases h with ⟨rfl,rfl⟩ | ⟨i,cap,J,rfl,h2,h3,h4,h5,h6⟩
 ·trivial
 ·refine ⟨_,h3,?_,hn⟩;rw [av,aS,vk,h4,← ej]
  congr 1
  omega
theorem LL (vs:List ep) (p:ep):((vs++[p]).map jK).flatten.map V.d=(vs.map jK).flatten.map V.d++(jK p).map V.d:=dM
theorem Iq.vars {B:bQ} {T:eg} {c:Nat} {vv v:V} {vs:List ep} {p:ep} {S':Mem} (h:mj B c vv vs) (hc:c < B.length) (hn:vs.length≤1000000000) (hA:Iq 4 B T vv (jK p) v S') :
 ∃ BB,S' = ⟨BB,T⟩∧rH c vv vs.length B BB∧BB[c]? = B[c]?∧mj BB c v (vs++[p])∧(∀ k,k < B.length→yd v k→yd vv k)∧kU v=some [v]:=by
 have NO:(jK p).length=4:=rfl;have wI:=vk vs;rcases h with ⟨rfl,rfl⟩ | ⟨i,cap,J,rfl,h2,h3,h4,h5,h6⟩
 ·obtain ⟨gF,k1,k2,rfl,rfl⟩:=hA;refine ⟨_,rfl,.more _ _ _ _ _,bt hc,.inr ⟨B.length,gF,List.replicate ((gF - 1) * 4) .undef,rfl,ak,?_,dM,by simpa using k1,dM⟩,?_,rfl⟩
  ·rw [aN (aA _),iU];simp
  ·rintro k hk ⟨n,cap,e⟩;obtain ⟨e,_,_⟩:=V.bx.inj e;omega
 ·obtain ⟨X,hX,hA⟩:=hA;rw [h3] at hX;obtain rfl:=ag hX;have bu:=(ai.1 h3).1;have hfm:((vs.map jK).flatten.map V.d).length=vs.length * 4:=by rw [aS,wI]
  have hsn:=LL vs p;generalize hG:(vs.map jK).flatten.map V.d=G at h3 hfm hsn hA;have Ir:(G++J).take (vs.length * 4)=G:=by rw [gd ak,bS ak]
  have JN:(G++J).drop (vs.length * 4+4)=J.drop 4:=by
   rw [fQ,gv ak,dO]
   congr 1
   omega
  rw [Ir] at hA;rcases hA with ⟨rR,rfl,rfl⟩ | ⟨gF,k1,k2,rfl,rfl⟩
  ·rw [JN];have hJ4:4≤J.length:=by rw [h4];omega
   refine ⟨_,rfl,⟨dM,fun k hk hkc=>?_⟩,by rw [aj h2],.inr ⟨i,cap,J.drop 4,by rw [av];rfl,h2,?_,?_,by rw [av];exact rR,by rw [av,iD];omega⟩,?_,rfl⟩
   ·by_cases e:k=i
    ·subst e;refine .inr ⟨⟨_,_,rfl⟩,_,_,h3,aC hk,?_,?_⟩
     ·simp only [av,aS,NO,eG];omega
     ·rw [Ir,aE,gd ak,bS ak]
    ·exact .inl (aj fun h=>e h.symm)
   ·rw [aC bu,hsn]
   ·rw [eG,h4,av,iD];omega
   ·rintro k hk ⟨n,Im,e⟩;obtain ⟨rfl,_,_⟩:=V.bx.inj e;exact ⟨_,_,rfl⟩
  ·refine ⟨_,rfl,.more _ _ _ _ _,bt hc,.inr ⟨B.length,gF,List.replicate ((gF - (vs.length+1)) * 4) .undef,by rw [av];rfl,ak,?_,?_,by rw [av];exact k1,by rw [av,iD];omega⟩,?_,rfl⟩
   ·rw [aN (aA _),iU,hsn];rfl
   ·rw [qg,av,iD]
   ·rintro k hk ⟨n,Im,e⟩;obtain ⟨e,_,_⟩:=V.bx.inj e;omega
theorem G1:eT Tryz.prog 37=some ⟨TD.slice 71,1,24,false,[V.sl [] Tok.full]⟩:=cP
theorem acO:eT Tryz.prog 71=some ⟨TD.struct [(0,1),(1,3)],4,64,true,[V.d (.str []),V.d (.int .i64 0),V.d (.str []),V.sl [] Tok.full]⟩:=cP
def zS:List V:=[.d (.int .i64 0),.sl [] .full,.d (.int .i64 0),.d (.str []),.sl [] .full,.sl [] .full,.sl [] .full,.sl [] .full,.sl [] .full,.sl [] .full]
theorem Vp {su:List eZ} {fu:List fL} {res:List bJ} (hT:mh su fu) {n:List UInt8} {ty:bJ} (jU:TW ty):Od su fu res (.mk 1 [n] ty [] [] [] [] []):=by
 intro vs c vv B T hv;obtain ⟨N,hn⟩:=aV B.length;have hi:c < N:=by have:=hv.lt;omega
 have G2:c ≠ N:=ak;have ye:c ≠ N+1:=ak;have af7:vs.length≤1000000000:=by have:=hv.few;omega
 have hb:=hv.bx;have YK:=fun (J:bQ) T=>@Pz n c (B++J) T su fu vs vv res fk (by rw [bt hv.lt];exact hb) hv.var.more;obtain ⟨s,hs⟩:=aV (cL.mk 1 [n] ty [] [] [] [] []);have hk:decide (s.kind=1)=true:=by rw [← hs];rfl
 have Df:gN s.names=[[.str n]]:=by rw [← hs];rfl
 have af8:s.type=ty:=by rw [← hs];rfl
 have hr:jb su fu res s vs=if (kK ep.name vs n).isNone=true∧ku su fu n=true∧dH su ty=true then some (s,vs++[⟨n,ty⟩]) else none:=by
  rw [← hs];unfold jb;rw [if_pos rfl]
 rw [hs];generalize jb su fu res s vs=r at hr ⊢;unfold vS;rw [Df,af8];unfold mG at hb;refine cy.tQ (body:=(kF Tryz.f82 0)) 224 Tryz.func82 cP cP cP (cm rfl) ?_;refine az.go 160 ?_;simp only [W,seval,mL,hn,hi,hb,hk];refine cz (YK _ _) ?_;rintro v _ ⟨Vq,rfl⟩;obtain ⟨t,q,rfl,hw⟩:=Dq Vq;refine goN ?_;simp only [W,seval,mL,hn,cH];refine dj 14 [] [N,c] ?_;simp (maxSteps:=4000000) only [W,seval,mL,xw,hn,hi,hb,bL,bC,Nat.reduceMul];have hv3:=fun (J:bQ)=>(mj.more (J:=J) hv.var);refine Or.inl (QY (so:=.tmp 57) (xo:=.tmp 65) (s:=vv) (r:=jK ⟨n,ty⟩) G1 rfl acO G1 ⟨_,rfl⟩ bH bH (by rfl) (by rfl) ((hv3 _).can af7) rfl rfl ?_);intro v1 S1 hA;obtain ⟨BB,rfl,f1,f2,f3,f4,f5⟩:=Iq.vars (hv3 _) fk af7 hA;have hBl:N+3≤BB.length:=by have:=f1.1;simp at this;omega
 have nb:∀ k,N≤k→¬ yd vv k:=fun k hk h=>by have:=(hv.var.lt h).1;omega
 have f6:=f1.same (k:=N) fk (fun e=>G2 e.symm) (nb N ak);have f7:=f1.same (k:=N+1) fk (fun e=>ye e.symm) (nb (N+1) ak);rw [gp hn] at f6;rw [gS hn] at f7;simp only [bX,cu] at f6 f7;rw [bt hv.lt,hb] at f2;have qW:c < BB.length:=ak;refine ⟨?_,?_⟩
 ·refine ⟨?_,?_,trivial⟩
  ·show BB[N]? = _;rw [f6,gp hn];rfl
  ·show BB[c]? = _;rw [f2,bt hv.lt,hb]
 simp (maxSteps:=4000000) only [W,seval,mL,xw,hn,f2,f6,f7,f5,qW];refine ⟨by rw [bt hv.lt,hb],?_⟩;obtain ⟨B2,Wt⟩:=aV (BB.set c [V.d (.sl (su.map ki)),V.d (.sl (fu.map lT)),v1,V.d (.sl (res.map eH))]);rw [Wt];have g1:B2.length=BB.length:=by rw [← Wt,aG]
 have g2:B2[c]? = some (mG su fu v1 res):=by rw [← Wt,aC qW];rfl
 have g3:B2[N]? = BB[N]?:=by rw [← Wt,aj G2]
 have g4:B2[N+1]? = BB[N+1]?:=by rw [← Wt,aj ye]
 have g5:rH c vv vs.length B B2:=by rw [← Wt];exact f1.less.Y9 _
 have g6:mj B2 c v1 (vs++[⟨n,ty⟩]):=by rw [← Wt];exact f3.jC ((rH.refl _ _ _ _).Y9 _)
 rw [f6] at g3;rw [f7] at g4;have FF:c < B2.length:=ak;have lW:N < B2.length:=ak;have C4:N+1 < B2.length:=ak;clear Wt;have vI:=fun (Z:bQ)=>@Lf n c (B2++Z) T su fu v1 res hT (by rw [bt FF];exact g2);have kz:=fun (Z:bQ)=>@uK ty jU c (B2++Z) T su fu v1 res hT fk (by rw [bt FF];exact g2)
 have fin:∀ (b:Bool) (B3:bQ),B3=B2.set (N+1) [V.d (.int .i64 s.kind),.d (.sl [[.str n]]),.d (.int .i64 ty.kind),.d (.str ty.name),.d (.sl (ty.elem.map eH)),.d (.sl (s.cq.map eL)),.d (.sl (s.exprs.map eL)),.d (.sl (s.body.map gE)),.d (.sl (s.iS.map gE)),.d (.sl (s.cases.map lV))]→(b=true↔(kK ep.name vs n).isNone=true∧ku su fu n=true∧dH su ty=true)→RZ su fu res c vv B T r vs.length (.fZ [.agg [V.d (.int .i64 s.kind),.d (.sl [[.str n]]),.d (.int .i64 ty.kind),.d (.str ty.name),.d (.sl (ty.elem.map eH)),.d (.sl (s.cq.map eL)),.d (.sl (s.exprs.map eL)),.d (.sl (s.body.map gE)),.d (.sl (s.iS.map gE)),.d (.sl (s.cases.map lV))],.d (.bool b)]) ⟨B3,T⟩:=by
  rintro b B3 rfl Jx;rw [hr]
  have EX:rH c vv vs.length B (B2.set (N+1) [V.d (.int .i64 s.kind),.d (.sl [[.str n]]),.d (.int .i64 ty.kind),.d (.str ty.name),.d (.sl (ty.elem.map eH)),.d (.sl (s.cq.map eL)),.d (.sl (s.exprs.map eL)),.d (.sl (s.body.map gE)),.d (.sl (s.iS.map gE)),.d (.sl (s.cases.map lV))]):=⟨by rw [aG];exact g5.1,fun k hk hkc=>by
   rw [aj ak];exact g5.2 k hk hkc⟩
  refine ⟨_,[],by rw [aQ],EX,?_⟩
  by_cases hc:(kK ep.name vs n).isNone=true∧ku su fu n=true∧dH su ty=true
  ·rw [aD hc,Jx.2 hc];refine ⟨by unfold vS;rw [Df,af8],v1,by rw [List.getElem?_set_ne (fun e=>ye e.symm)];exact g2,?_,dM,fun k hk=>f4 k fk⟩;rcases g6 with h | ⟨i',gF,J',h1,h2,h3,h4⟩
   ·exact .inl h
   ·have gW:N+1 ≠ i':=fun e=>nb (N+1) ak (f4 (N+1) fk ⟨_,gF,by rw [h1,e]⟩);exact .inr ⟨i',gF,J',h1,h2,by rw [aj gW];exact h3,h4⟩
  ·rw [aq hc]
   have:b=false:=by
    cases b
    ·rfl
    ·exact absurd (Jx.1 rfl) hc
   rw [this];exact ⟨_,rfl,rfl⟩
 have hq:q=false↔(kK ep.name vs n).isNone=true:=by
  cases ha:kK ep.name vs n with
  | none=>rw [ha] at hw;cases q<;>simp at hw ⊢
  | some p=>rw [ha] at hw;cases q<;>simp at hw ⊢
 unfold cH at kz;cases q
 ·cases hf:ku su fu n
  ·rw [hf] at vI fin;refine goN ?_;simp only [W,seval,mL,hn];refine dj 18 [] [N] ?_;simp (maxSteps:=4000000) only [W,seval,mL,xw,hn,g3,g4,lW,C4];refine bK (fun Z=>vI Z) ?_;simp (maxSteps:=4000000) only [W,seval,mL,xw,hn,g3,g4,lW,C4];refine ⟨by rw [aj ak];exact g3,by rw [aj ak];exact g3,?_⟩;refine goN ?_;simp only [W,seval,mL,hn,g3,g4,lW,C4];refine dx mL (id ?_) (h1:=by simp only [W,seval,hn,g3,g4,lW,C4];exact rfl);exact fin false _ rfl ⟨(fun h=>by cases h),(fun h=>by cases h.2.1)⟩
  ·rw [hf] at vI fin;refine goN ?_;simp only [W,seval,mL,hn];refine dj 18 [] [N] ?_;simp (maxSteps:=4000000) only [W,seval,mL,xw,hn,g3,g4,lW,C4];refine bK (fun Z=>vI Z) ?_;simp (maxSteps:=4000000) only [W,seval,mL,xw,hn,g3,g4,lW,C4];refine bK (fun Z=>kz Z) ?_;simp (maxSteps:=4000000) only [W,seval,mL,xw,hn,g3,g4,lW,C4];refine ⟨by rw [aj ak];exact g3,by rw [aj ak];exact g3,?_⟩;refine goN ?_;simp only [W,seval,mL,hn,g3,g4,lW,C4];refine dx mL (id ?_) (h1:=by simp only [W,seval,hn,g3,g4,lW,C4];exact rfl);exact fin _ _ rfl ⟨fun h=>⟨hq.1 rfl,rfl,h⟩,fun h=>h.2.2⟩
 ·refine goN ?_;simp only [W,seval,mL,hn];refine dj 18 [] [N] ?_;simp (maxSteps:=4000000) only [W,seval,mL,xw,hn,g3,g4,lW,C4];refine ⟨by rw [aj ak];exact g3,by rw [aj ak];exact g3,?_⟩;refine goN ?_;simp only [W,seval,mL,hn,g3,g4,lW,C4];refine dx mL (id ?_) (h1:=by simp only [W,seval,hn,g3,g4,lW,C4];exact rfl);exact fin false _ rfl ⟨(fun h=>by cases h),(fun h=>by have:=hq.2 h.1;cases this)⟩
theorem rH.sj {c:Nat} {vv:V} {n:Nat} {B B':bQ} (h:rH c vv n B B') {k:Nat} (hk:B.length≤k) (x:List V):rH c vv n B (B'.set k x):=⟨by rw [aG];exact h.1,fun j hj hc=>by
 rw [aj ak];exact h.2 j hj hc⟩
theorem FB.jC {B B':bQ} {c:Nat} {su:List eZ} {fu:List fL} {vv:V} {res:List bJ} {vs:List ep} {m:Nat} (h:FB B c su fu vv res vs m) (hg:rH c vv vs.length B B') (hb:B'[c]? = some (mG su fu vv res)):FB B' c su fu vv res vs m :=
 ⟨eS h.lt hg.1,hb,h.var.jC hg,h.few,h.tw⟩
theorem FB.less {B:bQ} {c:Nat} {su:List eZ} {fu:List fL} {vv:V} {res:List bJ} {vs:List ep} {m m':Nat} (h:FB B c su fu vv res vs m) (hm:m'≤m):FB B c su fu vv res vs m':=⟨h.lt,h.bx,h.var,by have:=h.few;omega,h.tw⟩
theorem FB.nb {B:bQ} {c:Nat} {su:List eZ} {fu:List fL} {vv:V} {res:List bJ} {vs:List ep} {m:Nat} (h:FB B c su fu vv res vs m) {k:Nat} (hk:B.length≤k):¬ yd vv k:=fun e=>by have:=(h.var.lt e).1;omega
structure R1 (su:List eZ) (fu:List fL) (res:List bJ) (x:bh):Prop where
 t:∀ vs:List ep,(∀ p∈vs,TW p.type)→kM ⟨su,fu,vs⟩ res x
 k:∀ vs:List ep,(∀ p∈vs,TW p.type)→x.kind=7→(∀ y∈x.kids,kM ⟨su,fu,vs⟩ res y)∧x.kids.length≤60000
theorem xd {su:List eZ} {fu:List fL} {res:List bJ} {c:Nat} {vv:V} {B B':bQ} {T K:eg} {vs:List ep} {m:Nat} (h:FB B c su fu vv res vs m) (hg:rH c vv vs.length B B') (hb:B'[c]? = some (mG su fu vv res)) {s:cL} {v:V} (hv:v = .fZ [vS s,.d (.bool true)]) {r:Option (cL × List ep)} (hr:r=some (s,vs)):RZ su fu res c vv B T r vs.length v ⟨B',T++K⟩:=by
 subst hr;exact ⟨B',K,rfl,hg,hv,vv,hb,h.var.jC hg,aA _,fun _ _ h=>h⟩
theorem pW {su:List eZ} {fu:List fL} {res:List bJ} {c:Nat} {vv:V} {B B':bQ} {T K:eg} {n:Nat} (hg:rH c vv n B B') {cs:List V} (hc:cs.length=10) {v:V} (hv:v = .fZ [.agg cs,.d (.bool false)]) {r:Option (cL × List ep)} (hr:r=none):RZ su fu res c vv B T r n v ⟨B',T++K⟩:=by
 subst hr;exact ⟨B',K,rfl,hg,cs,hc,hv⟩
theorem R2 {su:List eZ} {fu:List fL} {res:List bJ} {c:Nat} {vv:V} {B B':bQ} {T:eg} {vs:List ep} {m:Nat} (h:FB B c su fu vv res vs m) (hg:rH c vv vs.length B B') (hb:B'[c]? = some (mG su fu vv res)) {s:cL} {v:V} (hv:v = .fZ [vS s,.d (.bool true)]) {r:Option (cL × List ep)} (hr:r=some (s,vs)):RZ su fu res c vv B T r vs.length v ⟨B',T⟩:=by
 have:=xd (T:=T) (K:=[]) h hg hb hv hr
 rwa [aQ] at this
theorem G3 {su:List eZ} {fu:List fL} {res:List bJ} {c:Nat} {vv:V} {B B':bQ} {T:eg} {n:Nat} (hg:rH c vv n B B') {cs:List V} (hc:cs.length=10) {v:V} (hv:v = .fZ [.agg cs,.d (.bool false)]) {r:Option (cL × List ep)} (hr:r=none):RZ su fu res c vv B T r n v ⟨B',T⟩:=by
 have:=pW (su:=su) (fu:=fu) (res:=res) (T:=T) (K:=[]) hg hc hv hr
 rwa [aQ] at this
section
variable {su:List eZ} {fu:List fL} {res:List bJ}
theorem Vr {es:List bh} (hT:mh su fu) (Bg:∀ x∈es,R1 su fu res x) (hlen:es.length≤60000) (dN:res.length≤60000):Od su fu res (.mk 6 [] eF [] es [] [] []):=by
 intro vs c vv B T hv;obtain ⟨N,hn⟩:=aV B.length;have hi:c < N:=by have:=hv.lt;omega
 have G2:c ≠ N:=ak;have ye:c ≠ N+1:=ak;have hb:=hv.bx;obtain ⟨s,hs⟩:=aV (cL.mk 6 [] eF [] es [] [] []);have k1:decide (s.kind=1)=false:=by rw [← hs];rfl
 have k2:decide (s.kind=2)=false:=by rw [← hs];rfl
 have k6:decide (s.kind=6)=true:=by rw [← hs];rfl
 have YK:=fun (J Z:bQ) T=>@EY ⟨su,fu,vs⟩ res c (B++J++Z) T es hT (fun x hx=>(Bg x hx).t vs hv.tw) ak (fun x hx h7=>(Bg x hx).k vs hv.tw h7) res dN hv.more.more.at;have hex:s.exprs=es:=by rw [← hs];rfl
 have hr:jb su fu res s vs=(iJ ⟨su,fu,vs⟩ es res).map fun es=>(.mk 6 [] eF [] es [] [] [],vs):=by
  rw [← hs];unfold jb;rw [if_neg bH,if_neg bH,if_pos rfl]
 rw [hs]
 have hsV:∀ l:List bh,vS (.mk 6 [] eF [] l [] [] []) = .agg [.d (.int .i64 s.kind),.d (.sl (gN s.names)),.d (.int .i64 s.type.kind),.d (.str s.type.name),.d (.sl (s.type.elem.map eH)),.d (.sl (s.cq.map eL)),.d (.sl (l.map eL)),.d (.sl (s.body.map gE)),.d (.sl (s.iS.map gE)),.d (.sl (s.cases.map lV))]:=by
  intro l;rw [← hs];rfl
 generalize jb su fu res s vs=r at hr ⊢;unfold vS;rw [hex];unfold mG at hb;refine cy.tQ (body:=(kF Tryz.f82 0)) 224 Tryz.func82 cP cP cP (cm rfl) ?_;refine az.go 160 ?_;simp only [W,seval,mL,hn,hi,hb,k1,k2,k6];refine dj 11 [] [N,c] ?_;simp (maxSteps:=4000000) only [W,seval,mL,xw,hn,hi,hb,bt hv.lt];refine iW (PS.ne _) (fun Z=>YK _ Z _) ?_;intro v Vq;obtain ⟨l,q,rfl,hw⟩:=Vi Vq;simp (maxSteps:=4000000) only [W,seval,mL,xw,hn,hi,hb,bt hv.lt];refine goN ?_;simp only [W,seval,mL,hn];refine dx mL (id ?_);have hg:=rH.more c vv vs.length B;rw [hw] at hr;cases q
 ·refine G3 (hg _) ?_ rfl hr;rfl
 ·exact R2 hv (hg _) (by rw [bt hv.lt];exact hv.bx) (by rw [hsV]) hr
end
section
variable {su:List eZ} {fu:List fL} {res:List bJ}
theorem LM {k:Int} {x:bh} {b e:List cL} (hk:k=3∨k=4) (hx:R1 su fu res x) (Ip:Oe su fu res b) (uq:Oe su fu res e):Od su fu res (.mk k [] eF [] [x] b e []):=by
 intro vs c vv B T hv;obtain ⟨N,hn⟩:=aV B.length;have hi:c < N:=by have:=hv.lt;omega
 have G2:c ≠ N:=ak;have ye:c ≠ N+1:=ak;have yf:N ≠ N+1:=ak;have hb:=hv.bx;have hwt:wS (.mk k [] eF [] [x] b e [])=1+wL b+wL e:=by rw [wS,wC];omega
 have hvb:FB B c su fu vv res vs (wL b):=hv.less ak;have Xb:FB B c su fu vv res vs (wL e):=hv.less ak;obtain ⟨s,hs⟩:=aV (cL.mk k [] eF [] [x] b e []);have k1:decide (s.kind=1)=false:=by rw [← hs];exact af (show ¬ k=1 by omega)
 have k2:decide (s.kind=2)=false:=by rw [← hs];exact af (show ¬ k=2 by omega)
 have k6:decide (s.kind=6)=false:=by rw [← hs];exact af (show ¬ k=6 by omega)
 have k5:decide (s.kind=5)=false:=by rw [← hs];exact af (show ¬ k=5 by omega)
 have j4:=fun (J:bQ) T=>@xL ⟨su,fu,vs⟩ res c (B++J) T [x] (by simpa using hx.t vs hv.tw) dM [cZ] .full hv.more.at;have hex:s.exprs=[x]:=by rw [← hs];rfl
 have Mm:s.body=b:=by rw [← hs];rfl
 have hse:s.iS=e:=by rw [← hs];rfl
 have hr:jb su fu res s vs=match dz (bP ⟨su,fu,vs⟩ x cZ) cZ with
  | some x=>(match eD su fu res b vs with
   | some b=>(eD su fu res e vs).map fun e=>(.mk k [] eF [] [x] b e [],vs)
   | none=>none)
  | none=>none:=by
  rw [← hs];conv=>lhs;unfold jb
  rw [aq ak,aq ak,aq ak];exact aq ak
 rw [hs]
 have hsV:∀ (l:List bh) (b e:List cL),vS (.mk k [] eF [] l b e []) = .agg [V.d (.int .i64 s.kind),.d (.sl (gN s.names)),.d (.int .i64 s.type.kind),.d (.str s.type.name),.d (.sl (s.type.elem.map eH)),.d (.sl (s.cq.map eL)),.d (.sl (l.map eL)),.d (.sl (b.map gE)),.d (.sl (e.map gE)),.d (.sl (s.cases.map lV))]:=by
  intro l b e;rw [← hs];rfl
 generalize jb su fu res s vs=r at hr ⊢;unfold vS;rw [hex,Mm,hse];unfold mG at hb;refine cy.tQ (body:=(kF Tryz.f82 0)) 224 Tryz.func82 cP cP cP (cm rfl) ?_;refine az.go 160 ?_;simp only [W,seval,mL,hn,hi,hb,bL,bC,Dl,Nat.reduceMul,k1,k2,k6,k5];refine cz (j4 _ _) ?_;rintro v _ ⟨Vq,rfl⟩;obtain ⟨l,q,rfl,hw⟩:=vt Vq;rw [N2] at hw;cases q
 ·have hr:r=none:=by
   rw [hr];cases JC:dz (bP ⟨su,fu,vs⟩ x cZ) cZ with
   | none=>rfl
   | some y=>rw [JC] at hw;cases hw
  refine goN ?_;simp only [W,seval,mL,hn];refine dx mL (id ?_);refine G3 (rH.more c vv vs.length B _) ?_ rfl hr;rfl
 obtain ⟨x',hx',hl⟩:=aB.1 hw;subst hl;rw [hx'] at hr;dsimp only at hr;refine goN ?_;simp only [W,seval,mL,hn];refine cz (Ip vs c vv _ _ hvb.more) ?_;rintro v _ ⟨B1,K1,rfl,g1,g2⟩;have af9:N+2≤B1.length:=by have:=g1.1;simp at this;omega
 have f6:=g1.same (k:=N) fk (fun e=>G2 e.symm) (hv.nb ak);have f7:=g1.same (k:=N+1) fk (fun e=>ye e.symm) (hv.nb ak);rw [gp hn] at f6;rw [gS hn] at f7;simp only [bX,cu] at f6 f7;have jI:N < B1.length:=ak;have BX:N+1 < B1.length:=ak;cases Mj:eD su fu res b vs with
 | none =>
  rw [Mj] at g2 hr;obtain rfl:v=_:=g2;refine goN ?_;simp only [W,seval,mL,f6,f7,jI,BX,aG,aj yf];refine dx mL (id ?_) (h1:=by simp only [W,seval,f6,f7,jI,BX,aG];exact rfl);refine pW ((g1.less.sj ak _).sj ak _) ?_ rfl hr;rfl
 | some b' =>
  rw [Mj] at g2 hr;dsimp only at hr;obtain ⟨rfl,g3⟩:=g2;refine goN ?_;simp only [W,seval,mL,f6,f7,jI,BX,aG,aj yf];refine cz (uq vs c vv _ _ (Xb.jC (g1.less.sj ak _) (by rw [aj (fun e=>G2 e.symm)];exact g3))) ?_;rintro v _ ⟨B3,K2,rfl,g4,g5⟩;have aga:N+2≤B3.length:=by have:=g4.1;rw [aG] at this;omega
  have f8:=g4.same (k:=N) (by rw [aG];omega) (fun e=>G2 e.symm) (hv.nb ak);have f9:=g4.same (k:=N+1) (by rw [aG];omega) (fun e=>ye e.symm) (hv.nb ak);rw [aC jI] at f8;rw [aj yf,f7] at f9;have uj:N < B3.length:=ak;have AR:N+1 < B3.length:=ak;have EX:rH c vv vs.length B B3:=(g1.less.sj (k:=N) ak _).trans g4 (aA _) fun _ _ h=>h;cases Ud:eD su fu res e vs with
  | none =>
   rw [Ud] at g5 hr;obtain rfl:v=_:=g5;refine goN ?_;simp only [W,seval,mL,f8,f9,uj,AR,aG,aj yf];refine dx mL (id ?_) (h1:=by simp only [W,seval,f8,f9,uj,AR,aG];exact rfl);refine pW ((EX.sj ak _).sj ak _) ?_ rfl hr;rfl
  | some e' =>
   rw [Ud] at g5 hr;obtain ⟨rfl,g6⟩:=g5;refine goN ?_;simp only [W,seval,mL,f8,f9,uj,AR,aG,aj yf];refine dx mL (id ?_) (h1:=by simp only [W,seval,f8,f9,uj,AR,aG];exact rfl);refine xd hv ((EX.sj ak _).sj ak _) ?_ ?_ hr
   ·rw [aj (fun e=>ye e.symm),aj (fun e=>G2 e.symm)];exact g6
   ·rw [hsV];rfl
end
theorem aaC {α:Type} (B:List α) (a b c d:α):B++[a,b,c,d]=(B++[a,b])++[c,d]:=dM
theorem Of (E:fm) (l:List bh) (i:Nat) (h:i < l.length):oN E (l.drop i)=match bP E l[i] eF with
 | some (_,t)=>(oN E (l.drop (i+1))).map fun ts=>t :: ts
 | none=>none:=by
 rw [aJ h]
 conv=>lhs;unfold oN
 rfl
section
variable {su:List eZ} {fu:List fL} {res:List bJ}
theorem Vs {ls es:List bh} (hT:mh su fu) (Co:∀ x∈ls,R1 su fu res x) (SG:ls.length≤60000) (Bg:∀ x∈es,R1 su fu res x) (hlen:es.length≤60000):Od su fu res (.mk 2 [] eF ls es [] [] []):=by
 intro vs c vv B T hv;obtain ⟨N,hn⟩:=aV B.length;have hi:c < N:=by have:=hv.lt;omega
 have G2:c ≠ N:=ak;have ye:c ≠ N+1:=ak;have hb:=hv.bx;obtain ⟨s,hs⟩:=aV (cL.mk 2 [] eF ls es [] [] []);have k1:decide (s.kind=1)=false:=by rw [← hs];rfl
 have k2:decide (s.kind=2)=true:=by rw [← hs];rfl
 obtain ⟨M,hM⟩:=aV T.length;have YK:=fun (J:bQ) T (ts:List bJ) (NF:ts.length≤60000)=>cy.less (fq.same (fq.same (fq.sl (tk:=.own M) .nil))) (@EY ⟨su,fu,vs⟩ res c (B++J) T es hT (fun x hx=>(Bg x hx).t vs hv.tw) ak (fun x hx h7=>(Bg x hx).k vs hv.tw h7) ts NF hv.more.at);have hex:s.exprs=es:=by rw [← hs];rfl
 have hle:s.cq=ls:=by rw [← hs];rfl
 have hr:jb su fu res s vs=match oN ⟨su,fu,vs⟩ ls with
  | some ts=>(iJ ⟨su,fu,vs⟩ es ts).map fun es=>(.mk 2 [] eF ls es [] [] [],vs)
  | none=>none:=by
  rw [← hs];conv=>lhs;unfold jb
  rw [aq bH,aD rfl];rfl
 rw [hs]
 have hsV:∀ l:List bh,vS (.mk 2 [] eF ls l [] [] []) = .agg [.d (.int .i64 s.kind),.d (.sl (gN s.names)),.d (.int .i64 s.type.kind),.d (.str s.type.name),.d (.sl (s.type.elem.map eH)),.d (.sl (ls.map eL)),.d (.sl (l.map eL)),.d (.sl (s.body.map gE)),.d (.sl (s.iS.map gE)),.d (.sl (s.cases.map lV))]:=by
  intro l;rw [← hs];rfl
 generalize jb su fu res s vs=r at hr ⊢;unfold vS;rw [hex,hle];unfold mG at hb;refine cy.tQ (body:=(kF Tryz.f82 0)) 224 Tryz.func82 cP cP cP (cm rfl) ?_;refine az.go 160 ?_;simp only [W,seval,mL,hn,hi,hb,k1,k2];refine az.fits fun hf=>?_;refine az.token 9 [] (by rfl) 3 ak rfl ?_;simp only [fP,hM];generalize dN:oN ⟨su,fu,vs⟩ ls=r1 at hr;refine az.m7 (fun a:Nat × List bJ × Bool=>(cN 224 [(0,.ptr c 0),(3,.ptr N 0),(4,.ptr (N+1) 0),(6,.d (.bool a.2.2)),(9,.sl (a.2.1.map eH) (.own M)),(10,.d (.int .i64 (a.1:Int)))],⟨B++[[.d (.int .i64 s.kind),.d (.sl (gN s.names)),.d (.int .i64 s.type.kind),.d (.str s.type.name),.d (.sl (s.type.elem.map eH)),.d (.sl (ls.map eL)),.d (.sl (es.map eL)),.d (.sl (s.body.map gE)),.d (.sl (s.iS.map gE)),.d (.sl (s.cases.map lV))],zS],T++[(a.1,3)]⟩)) (fun a=>a.1≤ls.length∧a.2.1.length=a.1∧(if a.2.2=true then (oN ⟨su,fu,vs⟩ (ls.drop a.1)).map (a.2.1++·) else none)=r1) (fun a=>ls.length - a.1) (0,[],true) ⟨dM,rfl,by rw [← dN];simp⟩ cx rfl ?_;rintro ⟨i,ts,g⟩ ⟨h1,h2,h3⟩ ih;dsimp only at h1 h2 h3 ih ⊢
 by_cases bu:i < ls.length
 case neg =>
  have e2:decide ((i:Int) < (ls.length:Int))=false:=af ak;rw [ay ak] at h3;unfold oN at h3;cases g
  ·refine goN ?_;simp only [W,seval,mL,hn,zS,e2];refine dx mL (id ?_);refine pW (rH.more c vv vs.length B _) ?_ rfl (by rw [hr,← h3];rfl);rfl
  have h3:r1=some ts:=by rw [← h3];simp
  rw [h3] at hr;dsimp only at hr;refine goN ?_;simp only [W,seval,mL,hn,zS,e2];refine cz (YK _ _ ts ak) ?_;rintro v _ ⟨Vq,rfl⟩;obtain ⟨l,q,rfl,hw⟩:=Vi Vq;rw [hw] at hr;refine goN ?_;simp only [W,seval,mL,hn];refine dx mL (id ?_);cases q
  ·refine pW (rH.more c vv vs.length B _) ?_ rfl hr;rfl
  ·exact xd hv (rH.more c vv vs.length B _) (by rw [bt hv.lt];exact hv.bx) (by rw [hsV]) hr
 have e2:decide ((i:Int) < (ls.length:Int))=true:=ah ak;have ie:=bE ((i:Int)+1) ak;have gV:(i:Int) < (ls.length:Int):=ak;have hg:(ls.map eL)[i]? = some (eL ls[i]):=by simp [bu]
 have hy:=(Co ls[i] (aH bu)).t vs hv.tw;rw [Of _ ls i bu] at h3;obtain ⟨x,hx⟩:=aV (ls[i]);rw [hx] at hg hy h3;rw [dF] at hg;have hy0:=fun (J:bQ) T=>cy.GL (m8.cons (.refl _) (m8.cons (.refl _) (m8.cons (xK 0 .full) .nil))) (hy eF c (B++J) T hv.more.at);unfold fK at hy0;refine goN ?_;simp only [W,seval,mL,hn,zS,e2,hg,bu,gV];refine cz (hy0 _ _) ?_;rintro v _ ⟨Vq,rfl⟩;obtain ⟨y,t,q,rfl,hw⟩:=mJ Vq;rw [hw] at h3
 have bW:ts.map eH++[[.int .i64 t.kind,.str t.name,.sl (t.elem.map eH)]]=(ts++[t]).map eH:=by
  rw [cr,← eK];rfl
 have WI:fE 3 [[D.int .i64 t.kind,.str t.name,.sl (t.elem.map eH)]]=true:=rfl;have gh:(i+1) * 48≤140737488355328:=ak;cases g
 ·refine goN ?_;simp only [W,seval,mL,hn,fK,cH,hM,aK,bL,bC,Nat.reduceMul,gh,h2,bW,WI,ie];rw [aaC];refine ih (i+1,ts++[t],false) ⟨gP,by simp [h2],?_⟩ gP _ _ _ _ rfl ⟨fk,fk⟩ ?_ ?_
  ·dsimp only at h3 ⊢;rw [← h3];rfl
  ·have:=Fits.more (X:=[]) (Y:=[(i+1,3)]) hf (fun vs hv=>absurd hv aT)
   rwa [aQ] at this
  ·have vT:M < M+1:=ak;refine gr.env _ ?_;simp only [zB,seval,hn,hi,hM,av,aP,aW,bf,vT,Nat.reduceAdd];simp only [aZ];omega
 ·refine goN ?_;simp only [W,seval,mL,hn,fK,cH,hM,aK,bL,bC,Nat.reduceMul,gh,h2,bW,WI,ie];rw [aaC];refine ih (i+1,ts++[t],q) ⟨gP,by simp [h2],?_⟩ gP _ _ _ _ rfl ⟨fk,fk⟩ ?_ ?_
  ·dsimp only at h3 ⊢;rw [← h3];cases q
   ·rfl
   ·cases oN ⟨su,fu,vs⟩ (ls.drop (i+1))<;>simp
  ·have:=Fits.more (X:=[]) (Y:=[(i+1,3)]) hf (fun vs hv=>absurd hv aT)
   rwa [aQ] at this
  ·have vT:M < M+1:=ak;refine gr.env _ ?_;simp only [zB,seval,hn,hi,hM,av,aP,aW,bf,vT,Nat.reduceAdd];simp only [aZ];omega
end
theorem CI (su:List eZ) (fu:List fL) (res:List bJ) (top:Int) (l:List iB) (vs:List ep) (i:Nat) (h:i < l.length):jv su fu res top (l.drop i) vs=if top < l[i].int then none else match eD su fu res l[i].body vs with
 | some b=>(jv su fu res top (l.drop (i+1)) vs).map fun t=>.mk l[i].int b :: t
 | none=>none:=by
 rw [aJ h];generalize l[i]=c;cases c
 conv=>lhs;unfold jv
 rfl
theorem Og:∀ {l:List iB} {c:iB},c∈l→wL c.body≤wC l
 | .mk i b :: l,c,h=>by
  unfold wC;rcases bB.1 h with rfl | h
  ·exact Nat.le_add_right _ _
  ·have:=Og h;omega
structure SSt where
 i:Nat
 ds:List iB
 g:Bool
 B:List (List V)
 K:List (Nat × Nat)
section
variable {su:List eZ} {fu:List fL} {res:List bJ}
theorem Vt {x:bh} {e:List cL} {cs:List iB} (hx:R1 su fu res x) (Vf:∀ d∈cs,Oe su fu res d.body) (qW:cs.length≤60000) (uq:Oe su fu res e):Od su fu res (.mk 5 [] eF [] [x] [] e cs):=by
 intro vs c vv B T hv;obtain ⟨N,hn⟩:=aV B.length;have hi:c < N:=by have:=hv.lt;omega
 have G2:c ≠ N:=ak;have ye:c ≠ N+1:=ak;have hb:=hv.bx;obtain ⟨s,hs⟩:=aV (cL.mk 5 [] eF [] [x] [] e cs);have k1:decide (s.kind=1)=false:=by rw [← hs];rfl
 have k2:decide (s.kind=2)=false:=by rw [← hs];rfl
 have k6:decide (s.kind=6)=false:=by rw [← hs];rfl
 have k5:decide (s.kind=5)=true:=by rw [← hs];rfl
 have yf:N ≠ N+1:=ak;obtain ⟨M,hM⟩:=aV T.length;have hwt:wS s=1+wL e+wC cs:=by rw [← hs,wS,wL]
 rw [hs] at hv;have Xb:FB B c su fu vv res vs (wL e):=hv.less ak;have agc:=fun (J:bQ) T=>cy.GL (m8.cons (.refl _) (m8.cons (.refl _) (m8.cons (xK 0 .full) .nil))) (hx.t vs hv.tw eF c (B++J) T hv.more.at);have qA:=fun (t:bJ) (J:bQ) T=>sB t (B++J) T;have hex:s.exprs=[x]:=by rw [← hs];rfl
 have hse:s.iS=e:=by rw [← hs];rfl
 have hsc:s.cases=cs:=by rw [← hs];rfl
 have hr:jb su fu res s vs=match bP ⟨su,fu,vs⟩ x eF with
  | some (x,t)=>if jz t.kind=true then (match jv su fu res (iQ t.kind) cs vs with
   | some cs=>(eD su fu res e vs).map fun e=>(.mk 5 [] eF [] [x] [] e cs,vs)
   | none=>none) else none
  | none=>none:=by
  rw [← hs];conv=>lhs;unfold jb
  rw [aq bH,aq bH,aq bH];rfl
 rw [hs]
 have hsV:∀ (y:bh) (e:List cL) (cs:List iB),vS (.mk 5 [] eF [] [y] [] e cs) = .agg [V.d (.int .i64 s.kind),.d (.sl (gN s.names)),.d (.int .i64 s.type.kind),.d (.str s.type.name),.d (.sl (s.type.elem.map eH)),.d (.sl (s.cq.map eL)),.d (.sl [eL y]),.d (.sl (s.body.map gE)),.d (.sl (e.map gE)),.d (.sl (cs.map lV))]:=by
  intro y e cs;rw [← hs];rfl
 generalize jb su fu res s vs=r at hr ⊢;unfold vS;rw [hex,hse,hsc,cw,eB];unfold fK at agc;unfold cH at qA;have vG:=hb;unfold mG at vG;rw [dF x];refine cy.tQ (body:=(kF Tryz.f82 0)) 224 Tryz.func82 cP cP cP (cm rfl) ?_;refine az.go 160 ?_;simp only [W,seval,mL,hn,hi,vG,k1,k2,k6,k5];refine cz (agc _ _) ?_;rintro v _ ⟨Vq,rfl⟩;obtain ⟨y,t,q,rfl,hw⟩:=mJ Vq;rw [hw] at hr;cases q
 ·refine goN ?_;simp only [W,seval,mL,hn,fK,cH,bL,bC,Nat.reduceMul,mw];refine az.BS 0 _ [V.d (.int .i64 s.kind),.d (.sl (gN s.names)),.d (.int .i64 s.type.kind),.d (.str s.type.name),.d (.sl (s.type.elem.map eH)),.d (.sl (s.cq.map eL)),.d (.sl [eL y]),.d (.sl (s.body.map gE)),.d (.sl (e.map gE)),.d (.sl (cs.map lV))] rfl (fq.same (fq.same (fq.same (fq.same (fq.same (fq.same (fq.sl (fq.acj _)))))))) ?_;simp only [cn];refine az.token 17 [] (by rfl) 2 ak rfl ?_;simp only [fP,hM]
  obtain ⟨r1,Bk,dN⟩:∃ r1,(r=match r1 with
   | some cs=>(eD su fu res e vs).map fun e=>(.mk 5 [] eF [] [y] [] e cs,vs)
   | none=>none)∧(if (false:Bool)=true then jv su fu res (iQ t.kind) cs vs else none)=r1:=⟨_,hr,rfl⟩
  refine az.dL (fun a:SSt=>(cN 224 [(0,.ptr c 0),(3,.ptr N 0),(4,.ptr (N+1) 0),(6,.d (.bool a.g)),(15,.ptr (N+3) 0),(17,.sl (a.ds.map lV) (.own M)),(18,.d (.int .i64 (a.i:Int)))],⟨a.B,T++(a.i,2) :: a.K⟩)) (fun a=>a.i≤cs.length∧a.ds.length=a.i∧rH c vv vs.length (B++[[V.d (.int .i64 s.kind),.d (.sl (gN s.names)),.d (.int .i64 s.type.kind),.d (.str s.type.name),.d (.sl (s.type.elem.map eH)),.d (.sl (s.cq.map eL)),.d (.sl [eL y]),.d (.sl (s.body.map gE)),.d (.sl (e.map gE)),.d (.sl (cs.map lV))],zS,mg y,jr t]) a.B∧(a.g=true→a.B[c]? = some (mG su fu vv res))∧(if a.g=true then (jv su fu res (iQ t.kind) (cs.drop a.i) vs).map (a.ds++·) else none)=r1) (fun a=>cs.length - a.i) ⟨0,[],(false:Bool),B++[[V.d (.int .i64 s.kind),.d (.sl (gN s.names)),.d (.int .i64 s.type.kind),.d (.str s.type.name),.d (.sl (s.type.elem.map eH)),.d (.sl (s.cq.map eL)),.d (.sl [eL y]),.d (.sl (s.body.map gE)),.d (.sl (e.map gE)),.d (.sl (cs.map lV))],zS,mg y,jr t],[]⟩ ⟨bG _,rfl,rH.refl _ _ _ _,fun _=>(bt hv.lt).trans hb,by rw [← dN];simp⟩ cx rfl ?_;rintro ⟨i,ds,g,B1,K⟩ ⟨h1,h2,ur,h4,h5⟩ ih;dsimp only at h1 h2 ur h4 h5 ih ⊢;have af9:N+4≤B1.length:=by have:=ur.1;simp at this;omega
  have f6:=ur.same (k:=N) fk (fun e=>G2 e.symm) (hv.nb ak);have f7:=ur.same (k:=N+1) fk (fun e=>ye e.symm) (hv.nb ak);have f8:=ur.same (k:=N+3) fk ak (hv.nb ak);rw [gp hn] at f6;rw [gS hn] at f7 f8;simp only [bX,cu,zS,jr] at f6 f7 f8;have jI:N < B1.length:=ak;have BX:N+1 < B1.length:=ak;have acP:N+3 < B1.length:=ak;have EX:rH c vv vs.length B B1:=ur.less;cases g
  ·refine az.oC 17 (ds.map lV) (.own M) (by rfl) ?_;simp only [fP];cases e2:decide ((i:Int) < (cs.length:Int))
   all_goals
    refine goN ?_;simp only [W,seval,mL,e2,f6,f7,jI,BX,aG,aj yf];refine dx mL (id ?_) (h1:=by simp only [W,seval,f6,f7,jI,BX,aG];exact rfl);refine pW ((EX.sj ak _).sj ak _) ?_ rfl (by rw [Bk,← h5];rfl);rfl
  have h4:=h4 rfl
  by_cases bu:i < cs.length
  case neg =>
   have e2:decide ((i:Int) < (cs.length:Int))=false:=af ak;rw [ay ak] at h5;unfold jv at h5;have h5:r1=some ds:=by rw [← h5];simp
   rw [h5] at Bk;dsimp only at Bk;refine az.oC 17 (ds.map lV) (.own M) (by rfl) ?_;simp only [fP];refine goN ?_;simp only [W,seval,mL,e2,f6,f7,jI,BX,aG,aj yf];refine cz (uq vs c vv _ _ (Xb.jC (EX.sj ak _) (by rw [aj (fun e=>G2 e.symm)];exact h4))) ?_;rintro v _ ⟨B3,K2,rfl,g4,g5⟩;have aga:N+2≤B3.length:=by have:=g4.1;rw [aG] at this;omega
   have q8:=g4.same (k:=N) (by rw [aG];omega) (fun e=>G2 e.symm) (hv.nb ak);have q9:=g4.same (k:=N+1) (by rw [aG];omega) (fun e=>ye e.symm) (hv.nb ak);rw [aC jI] at q8;rw [aj yf,f7] at q9;have uj:N < B3.length:=ak;have AR:N+1 < B3.length:=ak;have Vu:rH c vv vs.length B B3:=(EX.sj (k:=N) ak _).trans g4 (aA _) fun _ _ h=>h;cases Ud:eD su fu res e vs with
   | none =>
    rw [Ud] at g5 Bk;obtain rfl:v=_:=g5;refine goN ?_;simp only [W,seval,mL,q8,q9,uj,AR,aG,aj yf];refine dx mL (id ?_) (h1:=by simp only [W,seval,q8,q9,uj,AR,aG];exact rfl);refine pW ((Vu.sj ak _).sj ak _) ?_ rfl Bk;rfl
   | some e' =>
    rw [Ud] at g5 Bk;obtain ⟨rfl,g6⟩:=g5;refine goN ?_;simp only [W,seval,mL,q8,q9,uj,AR,aG,aj yf];refine dx mL (id ?_) (h1:=by simp only [W,seval,q8,q9,uj,AR,aG];exact rfl);refine xd hv ((Vu.sj ak _).sj ak _) ?_ ?_ Bk
    ·rw [aj (fun e=>ye e.symm),aj (fun e=>G2 e.symm)];exact g6
    ·rw [hsV]
  have e2:decide ((i:Int) < (cs.length:Int))=true:=ah ak;have ie:=bE ((i:Int)+1) ak;have gV:(i:Int) < (cs.length:Int):=ak;have xb:(cs.map lV)[i]? = some (lV cs[i]):=by simp [bu]
  have Ip:=Vf cs[i] (aH bu);have hwc:=Og (aH bu);rw [CI _ _ _ _ _ _ i bu] at h5;obtain ⟨d,hd⟩:=aV (cs[i]);rw [hd] at xb Ip hwc h5;rw [lN] at xb;refine goN ?_;simp only [W,seval,mL,e2,f6,f7,jI,BX,xb,bu,gV];refine cz (Ip vs c vv _ _ ((hv.less ak).jC EX h4)) ?_;rintro v _ ⟨B3,K2,rfl,g4,g5⟩;have q6:=g4.same (k:=N) jI (fun e=>G2 e.symm) (hv.nb ak);have q8:=g4.same (k:=N+3) acP ak (hv.nb ak);rw [f6] at q6;rw [f8] at q8;have hg3:=ur.trans g4 (aA _) fun _ _ h=>h;have uj:N < B3.length:=by have:=g4.1;omega
  have E1:N+3 < B3.length:=by have:=g4.1;omega
  have Mo:=fun (Z:bQ) T=>uJ t.kind (B3++Z) T;have gh:(i+1) * 32≤140737488355328:=ak;have hr2:∀ l:List cL,fE 2 [[D.int .u64 d.int,.sl (l.map gE)]]=true:=fun l=>rfl;have acQ:fE 2 [[D.int .u64 d.int,.sl []]]=true:=rfl
  have bW:∀ l:List cL,ds.map lV++[[.int .u64 d.int,.sl (l.map gE)]]=(ds++[iB.mk d.int l]).map lV:=fun l=>by
   rw [cr,cw,eB,lN];rfl
  have Vv:ds.map lV++[[.int .u64 d.int,.sl []]]=(ds++[iB.mk d.int []]).map lV:=bW [];cases Mj:eD su fu res d.body vs with
  | none =>
   rw [Mj] at g5 h5;obtain rfl:v=_:=g5;refine goN ?_;simp only [W,seval,mL,hn];refine dj 13 [] [N,N+3] ?_;simp (maxSteps:=4000000) only [W,seval,mL,xw,hn,q6,q8,uj,E1,xb,bu,gV];refine goN ?_;simp only [W,seval,mL,hn,hM,q6,q8,uj,E1,xb,bu,gV,bL,bC,Nat.reduceMul,gh,h2,Vv,acQ,ie];refine ih ⟨i+1,ds++[iB.mk d.int []],false,B3,K++K2⟩ ⟨gP,by simp [h2],hg3,(fun h=>by cases h),?_⟩ gP _ _ ?_ rfl
   ·dsimp only;rw [← h5]
    by_cases hle:iQ t.kind < d.int<;>simp [hle]
   ·skip
    refine eU.env _ ?_;simp only [qa,seval,hn]
  | some b' =>
   rw [Mj] at g5 h5;obtain ⟨rfl,g6⟩:=g5;refine goN ?_;simp only [W,seval,mL,hn];refine dj 13 [] [N,N+3] ?_;simp (maxSteps:=4000000) only [W,seval,mL,xw,hn,q6,q8,uj,E1,xb,bu,gV];refine bK (fun Z=>Mo Z _) ?_;simp (maxSteps:=4000000) only [W,seval,mL,xw,hn,q6,q8,uj,E1];refine goN ?_;simp only [W,seval,mL,hn,hM,q6,q8,uj,E1,xb,bu,gV,bL,bC,Nat.reduceMul,gh,h2,bW,hr2,ie];refine ih ⟨i+1,ds++[iB.mk d.int b'],decide (d.int≤iQ t.kind),B3,K++K2⟩ ⟨gP,by simp [h2],hg3,(fun _=>g6),?_⟩ gP _ _ ?_ rfl
   ·dsimp only;rw [← h5]
    by_cases hle:iQ t.kind < d.int
    ·have e:decide (d.int≤iQ t.kind)=false:=af ak;rw [e];simp [hle]
    ·have e:decide (d.int≤iQ t.kind)=true:=ah ak;rw [e];simp only [hle,gj,iF];cases jv su fu res (iQ t.kind) (cs.drop (i+1)) vs<;>simp
   ·skip
    refine eU.env _ ?_;simp only [qa,seval,hn]
 ·refine goN ?_;simp only [W,seval,mL,hn,fK,cH,bL,bC,Nat.reduceMul,mw];refine aX (qA t _ _) ?_;refine goN ?_;simp only [W,seval,mL,hn,fK,cH,bL,bC,Nat.reduceMul,mw];refine az.BS 0 _ [V.d (.int .i64 s.kind),.d (.sl (gN s.names)),.d (.int .i64 s.type.kind),.d (.str s.type.name),.d (.sl (s.type.elem.map eH)),.d (.sl (s.cq.map eL)),.d (.sl [eL y]),.d (.sl (s.body.map gE)),.d (.sl (e.map gE)),.d (.sl (cs.map lV))] rfl (fq.same (fq.same (fq.same (fq.same (fq.same (fq.same (fq.sl (fq.acj _)))))))) ?_;simp only [cn];refine az.token 17 [] (by rfl) 2 ak rfl ?_;simp only [fP,hM]
  obtain ⟨r1,Bk,dN⟩:∃ r1,(r=match r1 with
   | some cs=>(eD su fu res e vs).map fun e=>(.mk 5 [] eF [] [y] [] e cs,vs)
   | none=>none)∧(if jz t.kind=true then jv su fu res (iQ t.kind) cs vs else none)=r1:=⟨_,by rw [hr,if_pos rfl];dsimp only;cases jz t.kind<;>rfl,rfl⟩
  refine az.dL (fun a:SSt=>(cN 224 [(0,.ptr c 0),(3,.ptr N 0),(4,.ptr (N+1) 0),(6,.d (.bool a.g)),(15,.ptr (N+3) 0),(17,.sl (a.ds.map lV) (.own M)),(18,.d (.int .i64 (a.i:Int)))],⟨a.B,T++(a.i,2) :: a.K⟩)) (fun a=>a.i≤cs.length∧a.ds.length=a.i∧rH c vv vs.length (B++[[V.d (.int .i64 s.kind),.d (.sl (gN s.names)),.d (.int .i64 s.type.kind),.d (.str s.type.name),.d (.sl (s.type.elem.map eH)),.d (.sl (s.cq.map eL)),.d (.sl [eL y]),.d (.sl (s.body.map gE)),.d (.sl (e.map gE)),.d (.sl (cs.map lV))],zS,mg y,jr t]) a.B∧(a.g=true→a.B[c]? = some (mG su fu vv res))∧(if a.g=true then (jv su fu res (iQ t.kind) (cs.drop a.i) vs).map (a.ds++·) else none)=r1) (fun a=>cs.length - a.i) ⟨0,[],jz t.kind,B++[[V.d (.int .i64 s.kind),.d (.sl (gN s.names)),.d (.int .i64 s.type.kind),.d (.str s.type.name),.d (.sl (s.type.elem.map eH)),.d (.sl (s.cq.map eL)),.d (.sl [eL y]),.d (.sl (s.body.map gE)),.d (.sl (e.map gE)),.d (.sl (cs.map lV))],zS,mg y,jr t],[]⟩ ⟨bG _,rfl,rH.refl _ _ _ _,fun _=>(bt hv.lt).trans hb,by rw [← dN];simp⟩ cx rfl ?_;rintro ⟨i,ds,g,B1,K⟩ ⟨h1,h2,ur,h4,h5⟩ ih;dsimp only at h1 h2 ur h4 h5 ih ⊢;have af9:N+4≤B1.length:=by have:=ur.1;simp at this;omega
  have f6:=ur.same (k:=N) fk (fun e=>G2 e.symm) (hv.nb ak);have f7:=ur.same (k:=N+1) fk (fun e=>ye e.symm) (hv.nb ak);have f8:=ur.same (k:=N+3) fk ak (hv.nb ak);rw [gp hn] at f6;rw [gS hn] at f7 f8;simp only [bX,cu,zS,jr] at f6 f7 f8;have jI:N < B1.length:=ak;have BX:N+1 < B1.length:=ak;have acP:N+3 < B1.length:=ak;have EX:rH c vv vs.length B B1:=ur.less;cases g
  ·refine az.oC 17 (ds.map lV) (.own M) (by rfl) ?_;simp only [fP];cases e2:decide ((i:Int) < (cs.length:Int))
   all_goals
    refine goN ?_;simp only [W,seval,mL,e2,f6,f7,jI,BX,aG,aj yf];refine dx mL (id ?_) (h1:=by simp only [W,seval,f6,f7,jI,BX,aG];exact rfl);refine pW ((EX.sj ak _).sj ak _) ?_ rfl (by rw [Bk,← h5];rfl);rfl
  have h4:=h4 rfl
  by_cases bu:i < cs.length
  case neg =>
   have e2:decide ((i:Int) < (cs.length:Int))=false:=af ak;rw [ay ak] at h5;unfold jv at h5;have h5:r1=some ds:=by rw [← h5];simp
   rw [h5] at Bk;dsimp only at Bk;refine az.oC 17 (ds.map lV) (.own M) (by rfl) ?_;simp only [fP];refine goN ?_;simp only [W,seval,mL,e2,f6,f7,jI,BX,aG,aj yf];refine cz (uq vs c vv _ _ (Xb.jC (EX.sj ak _) (by rw [aj (fun e=>G2 e.symm)];exact h4))) ?_;rintro v _ ⟨B3,K2,rfl,g4,g5⟩;have aga:N+2≤B3.length:=by have:=g4.1;rw [aG] at this;omega
   have q8:=g4.same (k:=N) (by rw [aG];omega) (fun e=>G2 e.symm) (hv.nb ak);have q9:=g4.same (k:=N+1) (by rw [aG];omega) (fun e=>ye e.symm) (hv.nb ak);rw [aC jI] at q8;rw [aj yf,f7] at q9;have uj:N < B3.length:=ak;have AR:N+1 < B3.length:=ak;have Vu:rH c vv vs.length B B3:=(EX.sj (k:=N) ak _).trans g4 (aA _) fun _ _ h=>h;cases Ud:eD su fu res e vs with
   | none =>
    rw [Ud] at g5 Bk;obtain rfl:v=_:=g5;refine goN ?_;simp only [W,seval,mL,q8,q9,uj,AR,aG,aj yf];refine dx mL (id ?_) (h1:=by simp only [W,seval,q8,q9,uj,AR,aG];exact rfl);refine pW ((Vu.sj ak _).sj ak _) ?_ rfl Bk;rfl
   | some e' =>
    rw [Ud] at g5 Bk;obtain ⟨rfl,g6⟩:=g5;refine goN ?_;simp only [W,seval,mL,q8,q9,uj,AR,aG,aj yf];refine dx mL (id ?_) (h1:=by simp only [W,seval,q8,q9,uj,AR,aG];exact rfl);refine xd hv ((Vu.sj ak _).sj ak _) ?_ ?_ Bk
    ·rw [aj (fun e=>ye e.symm),aj (fun e=>G2 e.symm)];exact g6
    ·rw [hsV]
  have e2:decide ((i:Int) < (cs.length:Int))=true:=ah ak;have ie:=bE ((i:Int)+1) ak;have gV:(i:Int) < (cs.length:Int):=ak;have xb:(cs.map lV)[i]? = some (lV cs[i]):=by simp [bu]
  have Ip:=Vf cs[i] (aH bu);have hwc:=Og (aH bu);rw [CI _ _ _ _ _ _ i bu] at h5;obtain ⟨d,hd⟩:=aV (cs[i]);rw [hd] at xb Ip hwc h5;rw [lN] at xb;refine goN ?_;simp only [W,seval,mL,e2,f6,f7,jI,BX,xb,bu,gV];refine cz (Ip vs c vv _ _ ((hv.less ak).jC EX h4)) ?_;rintro v _ ⟨B3,K2,rfl,g4,g5⟩;have q6:=g4.same (k:=N) jI (fun e=>G2 e.symm) (hv.nb ak);have q8:=g4.same (k:=N+3) acP ak (hv.nb ak);rw [f6] at q6;rw [f8] at q8;have hg3:=ur.trans g4 (aA _) fun _ _ h=>h;have uj:N < B3.length:=by have:=g4.1;omega
  have E1:N+3 < B3.length:=by have:=g4.1;omega
  have Mo:=fun (Z:bQ) T=>uJ t.kind (B3++Z) T;have gh:(i+1) * 32≤140737488355328:=ak;have hr2:∀ l:List cL,fE 2 [[D.int .u64 d.int,.sl (l.map gE)]]=true:=fun l=>rfl;have acQ:fE 2 [[D.int .u64 d.int,.sl []]]=true:=rfl
  have bW:∀ l:List cL,ds.map lV++[[.int .u64 d.int,.sl (l.map gE)]]=(ds++[iB.mk d.int l]).map lV:=fun l=>by
   rw [cr,cw,eB,lN];rfl
  have Vv:ds.map lV++[[.int .u64 d.int,.sl []]]=(ds++[iB.mk d.int []]).map lV:=bW [];cases Mj:eD su fu res d.body vs with
  | none =>
   rw [Mj] at g5 h5;obtain rfl:v=_:=g5;refine goN ?_;simp only [W,seval,mL,hn];refine dj 13 [] [N,N+3] ?_;simp (maxSteps:=4000000) only [W,seval,mL,xw,hn,q6,q8,uj,E1,xb,bu,gV];refine goN ?_;simp only [W,seval,mL,hn,hM,q6,q8,uj,E1,xb,bu,gV,bL,bC,Nat.reduceMul,gh,h2,Vv,acQ,ie];refine ih ⟨i+1,ds++[iB.mk d.int []],false,B3,K++K2⟩ ⟨gP,by simp [h2],hg3,(fun h=>by cases h),?_⟩ gP _ _ ?_ rfl
   ·dsimp only;rw [← h5]
    by_cases hle:iQ t.kind < d.int<;>simp [hle]
   ·skip
    refine eU.env _ ?_;simp only [qa,seval,hn]
  | some b' =>
   rw [Mj] at g5 h5;obtain ⟨rfl,g6⟩:=g5;refine goN ?_;simp only [W,seval,mL,hn];refine dj 13 [] [N,N+3] ?_;simp (maxSteps:=4000000) only [W,seval,mL,xw,hn,q6,q8,uj,E1,xb,bu,gV];refine bK (fun Z=>Mo Z _) ?_;simp (maxSteps:=4000000) only [W,seval,mL,xw,hn,q6,q8,uj,E1];refine goN ?_;simp only [W,seval,mL,hn,hM,q6,q8,uj,E1,xb,bu,gV,bL,bC,Nat.reduceMul,gh,h2,bW,hr2,ie];refine ih ⟨i+1,ds++[iB.mk d.int b'],decide (d.int≤iQ t.kind),B3,K++K2⟩ ⟨gP,by simp [h2],hg3,(fun _=>g6),?_⟩ gP _ _ ?_ rfl
   ·dsimp only;rw [← h5]
    by_cases hle:iQ t.kind < d.int
    ·have e:decide (d.int≤iQ t.kind)=false:=af ak;rw [e];simp [hle]
    ·have e:decide (d.int≤iQ t.kind)=true:=ah ak;rw [e];simp only [hle,gj,iF];cases jv su fu res (iQ t.kind) (cs.drop (i+1)) vs<;>simp
   ·skip
    refine eU.env _ ?_;simp only [qa,seval,hn]
end
section
variable {su:List eZ} {fu:List fL} {res:List bJ}
theorem xR (hT:mh su fu) {d:Int} {x:bh} (h:rF d x) (hs:GW x):R1 su fu res x:=by
 refine ⟨fun vs hv=>Lv ⟨hT,hv⟩ h hs,fun vs hv h7=>⟨fun y hy=>?_,by have:=hs.len;omega⟩⟩
 have hk:∃ d,rF d y:=by
  cases h with
  | cal d t ks h1 h2 h3=>exact ⟨_,h3 y hy⟩
  | sgn d k y h1 h2 h3 =>
   simp only [bh.kind] at h7;omega
  | _=>exact absurd h7 (by simp [bh.kind])
 obtain ⟨d',hd'⟩:=hk;exact Lv ⟨hT,hv⟩ hd' (hs.r9 y hy)
theorem G4 {d:Int} {s:cL} (h:CU d s):TW s.type:=by
 cases h with
 | var d n t h1 h2 h3=>exact TW.Au h3
 | _=>exact .leaf 0 _ _ bH
theorem Vw (hT:mh su fu) (dN:res.length≤60000) {d:Int} {s:cL} (h:CU d s):F3 s→Od su fu res s:=by
 induction h with
 | var d n t h1 h2 h3=>exact fun _=>Vp hT (TW.Au h3)
 | set d ls es h1 h2 h3 h4 h5 h6 =>
  intro hs;cases hs with
  | mk _ a1 a2 a3 a4 a5 a6 a7 a8 a9 JH JI =>
   exact Vs hT (fun x hx=>xR hT (h5 x hx) (a6 x hx)) a1 (fun x hx=>xR hT (h6 x hx) (a7 x hx)) a2
 | iff d x b e h1 h2 h3 h4 h5 LG ih5 =>
  intro hs;cases hs with
  | mk _ a1 a2 a3 a4 a5 a6 a7 a8 a9 JH JI =>
   exact LM (.inl rfl) (xR hT h2 (a7 x aI)) (oG (fun y hy=>LG y hy (a8 y hy)) a4 fun y hy=>G4 (h4 y hy)) (oG (fun y hy=>ih5 y hy (a9 y hy)) a5 fun y hy=>G4 (h5 y hy))
 | fro d x b h1 h2 h3 h4 LG =>
  intro hs;cases hs with
  | mk _ a1 a2 a3 a4 a5 a6 a7 a8 a9 JH JI =>
   exact LM (.inr rfl) (xR hT h2 (a7 x aI)) (oG (fun y hy=>LG y hy (a8 y hy)) a4 fun y hy=>G4 (h4 y hy)) (oG (fun y hy=>absurd hy aT) a5 fun y hy=>absurd hy aT)
 | swi d x e cs h1 h2 h3 h4 h5 h6 LG ih6 =>
  intro hs;cases hs with
  | mk _ a1 a2 a3 a4 a5 a6 a7 a8 a9 JH JI =>
   exact Vt (xR hT h2 (a7 x aI)) (fun c hc=>oG (fun y hy=>ih6 c hc y hy (JI c hc y hy)) (JH c hc) fun y hy=>G4 (h6 c hc y hy)) a3 (oG (fun y hy=>LG y hy (a9 y hy)) a5 fun y hy=>G4 (h4 y hy))
 | ret d es h1 h2 h3 =>
  intro hs;cases hs with
  | mk _ a1 a2 a3 a4 a5 a6 a7 a8 a9 JH JI =>
   exact Vr hT (fun x hx=>xR hT (h3 x hx) (a7 x hx)) a2 dN
theorem R3 (hT:mh su fu) (dN:res.length≤60000) {d:Int} {l:List cL} (h:∀ s∈l,CU d s) (hs:∀ s∈l,F3 s) (hl:l.length≤60000):Oe su fu res l :=
 oG (fun s hm=>Vw hT dN (h s hm) (hs s hm)) hl fun s hm=>G4 (h s hm)
end
def F4:=KB Tryz.func81 87
def vX (su:List eZ) (m:List UInt8):List ep:=match kK eZ.name su m with
 | some s=>s.fields
 | none=>[]
def C6 (name:List UInt8):List ep→List (List UInt8)→Option (List (List UInt8))
 | [],met=>some met
 | p :: l,met=>if p.type.kind=7 then (if p.type.name=name then none else C6 name l (if met.contains p.type.name=true then met else met++[p.type.name])) else C6 name l met
def yG (su:List eZ) (name:List UInt8):Nat→List (List UInt8)→Nat→Option Bool
 | 0,_,_=>none
 | k+1,met,at'=>match met[at']? with
  | none=>some false
  | some m=>match C6 name (vX su m) met with
   | none=>some true
   | some acR=>yG su name k acR (at' + 1)
structure LSt where
 k:Nat
 met:List (List UInt8)
 i:Nat
theorem Jb (l:List (List UInt8)) (n:List UInt8):gN l++[[.str n]]=gN (l++[n]):=by simp [gN]
theorem aaD {P:Program} {I:Inv} {z:Nat × Nat} {fn:FuncId} {k:List Item} {env:List V} {B:bQ} {T:eg} {R:V→Mem→Prop} (h:az P I z fn k env ⟨B++[],T⟩ R):az P I z fn k env ⟨B,T⟩ R:=by rwa [aQ] at h
section
variable {c:Nat} {B:bQ} {T:eg} {su:List eZ} {fu:List fL} {vv:V} {res:List bJ}
theorem Vx (n:List UInt8) (hT:mh su fu) (hc:c < B.length) (hb:B[c]? = some (mG su fu vv res)) {k:Nat} (hk:k≤100000) {b:Bool} (h:yG su n k [n] 0=some b):cy Tryz.prog bI 81 [.ptr c 0,.d (.str n)] ⟨B,T⟩ (cF (.d (.bool b)) ⟨B,T⟩):=by
 obtain ⟨N,hn⟩:=aV B.length;obtain ⟨M,hM⟩:=aV T.length;have hi:c < N:=ak;have kz:=fun (m:List UInt8) T=>@Aw m c B T su fu vv res hT hb;have vG:=hb;unfold mG at vG;refine gL F4 fun cG=>?_;simp only [fH] at cG;simp only [W,seval,F4,hn,bL,bC,Nat.reduceMul];refine az.fits fun hf=>?_;refine az.token 5 [[.str n]] (by rfl) 1 ak rfl ?_;simp only [fP,hM];refine az.m7 (fun a:LSt=>(cN 87 [(0,.ptr c 0),(1,.d (.str n)),(5,.sl (gN a.met) (.own M)),(6,.d (.int .i64 (a.i:Int)))],⟨B,T++[(a.met.length,1)]⟩)) (fun a=>a.i+a.k=k∧a.met.length≤1+a.i * 60000∧yG su n a.k a.met a.i=some b) (fun a=>a.k) ⟨k,[n],0⟩ ⟨dM,dM,h⟩ cx rfl ?_;rintro ⟨k1,met,i⟩ ⟨h1,h2,h3⟩ ih;dsimp only at h1 h2 h3 ih ⊢;cases k1 with
 | zero=>cases h3
 | succ k1 =>
 unfold yG at h3;have hlm:((gN met).length:Int)=(met.length:Int):=by rw [eV]
 by_cases bu:i < met.length
 case neg =>
  have e2:decide ((i:Int) < (met.length:Int))=false:=af ak;rw [dP ak] at h3;refine goN ?_;simp only [W,seval,F4,hn,eV,e2];refine bN F4 (Left.tok ?_);exact ⟨by rw [← ag h3];rfl,rfl⟩
 have e2:decide ((i:Int) < (met.length:Int))=true:=ah ak;have gV:(i:Int) < (met.length:Int):=ak;have ie:=bE ((i:Int)+1) ak;rw [au bu] at h3;dsimp only at h3;have hg:(gN met)[i]? = some [.str met[i]]:=by simp [gN,bu]
 obtain ⟨m,hm⟩:=aV (met[i]);rw [hm] at hg h3;refine goN ?_;simp only [W,seval,F4,hn,eV,e2,hg,bu,gV];refine aX (kz m _) ?_;have hi5:i≤100000:=ak;have ajW:met.length≤1+(i+1) * 60000:=iT h2 (Nat.add_le_add_left (cD _ (Nat.le_succ i)) 1);rcases vj eZ.name su m 0 ak with ⟨p1,p2⟩ | ⟨j,st,p1,p2,p3⟩
 ·have wI:vX su m=[]:=by unfold vX;rw [p2]
  rw [wI] at h3;unfold C6 at h3;dsimp only at h3;rw [p1];refine goN ?_;simp only [W,seval,F4,hn];refine az.m7 (fun _:Unit=>(cN 87 [(0,.ptr c 0),(1,.d (.str n)),(5,.sl (gN met) (.own M)),(6,.d (.int .i64 (i:Int))),(7,.d (.int .i64 (-1))),(8,.d (.int .i64 0))],⟨B,T++[(met.length,1)]⟩)) (fun _=>True) (fun _=>0) () trivial cx rfl ?_;rintro _ _ _;dsimp only;have ajX:decide ((0:Int)≤-1)=false:=bH;refine goN ?_;simp only [W,seval,F4,hn,ie,ajX];refine aaD (ih ⟨k1,met,i+1⟩ ⟨gP,ajW,h3⟩ (qz k1) _ _ [] _ rfl ⟨ak,fk⟩ ?_ ?_)
  ·have:=Fits.more (X:=[]) (Y:=[(met.length,1)]) hf (fun vs hv=>absurd hv aT)
   rwa [aQ] at this
  ·have vT:M < M+1:=ak;refine gr.env _ ?_;simp only [zB,seval,hn,hi,hM,av,aP,aW,bf,vT]
 have p1:oW eZ.name su m 0=(j:Int):=ak;have hj:=(ai.1 p2).1;have WM:(j:Int) < (su.length:Int):=ak;have Wl:decide ((0:Int)≤(j:Int))=true:=ah ak;have cG:st∈su:=eM p2;have alS:=(hT.fl st cG).1;have wI:vX su m=st.fields:=by unfold vX;rw [p3]
 rw [wI] at h3;have hgs:(su.map ki)[j]? = some (ki st):=by rw [aL,p2];rfl
 rw [wQ] at hgs;rw [p1];refine goN ?_;simp only [W,seval,F4,hn];refine az.m7 (fun a:Nat × List (List UInt8)=>(cN 87 [(0,.ptr c 0),(1,.d (.str n)),(5,.sl (gN a.2) (.own M)),(6,.d (.int .i64 (i:Int))),(7,.d (.int .i64 (j:Int))),(8,.d (.int .i64 (a.1:Int)))],⟨B,T++[(a.2.length,1)]⟩)) (fun a=>a.1≤st.fields.length∧a.2.length≤1+i * 60000+a.1∧(match C6 n (st.fields.drop a.1) a.2 with | none=>some true | some acR=>yG su n k1 acR (i+1))=some b) (fun a=>st.fields.length - a.1) (0,met) ⟨dM,gP,h3⟩ cx rfl ?_;rintro ⟨x,mt⟩ ⟨g1,g2,g3⟩ o8;dsimp only at g1 g2 g3 o8 ⊢
 by_cases hx:x < st.fields.length
 case neg =>
  have e3:decide ((x:Int) < (st.fields.length:Int))=false:=af ak;rw [ay ak] at g3;unfold C6 at g3;dsimp only at g3;refine goN ?_;simp only [W,seval,F4,hn,hi,vG,Wl,WM,hj,hgs,e3,ie];refine aaD (ih ⟨k1,mt,i+1⟩ ⟨gP,gP,g3⟩ gP _ _ [] _ rfl ⟨ak,fk⟩ ?_ ?_)
  ·have:=Fits.more (X:=[]) (Y:=[(mt.length,1)]) hf (fun vs hv=>absurd hv aT)
   rwa [aQ] at this
  ·have vT:M < M+1:=ak;refine gr.env _ ?_;simp only [zB,seval,hn,hi,hM,av,aP,aW,bf,vT]
 have e3:decide ((x:Int) < (st.fields.length:Int))=true:=ah ak;have hxI:(x:Int) < (st.fields.length:Int):=ak;have hwx:=bE ((x:Int)+1) ak;have Ex:(st.fields.map jK)[x]? = some (jK st.fields[x]):=by simp [hx]
 rw [aJ hx] at g3;obtain ⟨p,hp⟩:=aV (st.fields[x]);rw [hp] at Ex g3;rw [qB] at Ex;unfold C6 at g3
 by_cases h7:p.type.kind=7
 case neg =>
  have e7:decide (p.type.kind=7)=false:=af h7;rw [aq h7] at g3;refine goN ?_;simp only [W,seval,F4,hn,hi,vG,Wl,WM,hj,hgs,e3,Ex,hx,hxI,e7,aO,hwx];refine o8 (x+1,mt) ⟨gP,gP,g3⟩ gP _ _ _ _ rfl ⟨ak,fk⟩ ?_ ?_
  ·have:=Fits.more (X:=[]) (Y:=[(mt.length,1)]) hf (fun vs hv=>absurd hv aT)
   rwa [aQ] at this
  ·have vT:M < M+1:=ak;refine gr.env _ ?_;simp only [zB,seval,hn,hi,hM,av,aP,aW,bf,vT]
 have e7:decide (p.type.kind=7)=true:=ah h7;rw [aD h7] at g3
 by_cases Df:p.type.name=n
 ·have en:=ah Df;rw [aD Df] at g3;refine goN ?_;simp only [W,seval,F4,hn,hi,vG,Wl,WM,hj,hgs,e3,Ex,hx,hxI,e7,aK,en];refine bN F4 (Left.all ?_);exact ⟨by rw [← ag g3];rfl,rfl⟩
 have en:=af Df;rw [aq Df] at g3;refine goN ?_;simp only [W,seval,F4,hn,hi,vG,Wl,WM,hj,hgs,e3,Ex,hx,hxI,e7,aK,en];have hml:mt.length≤7000000000:=ak;refine az.dL (fun a:Nat × Bool=>(cN 87 [(0,.ptr c 0),(1,.d (.str n)),(5,.sl (gN mt) (.own M)),(6,.d (.int .i64 (i:Int))),(7,.d (.int .i64 (j:Int))),(8,.d (.int .i64 (x:Int))),(9,.ptr N 0),(10,.d (.bool a.2)),(11,.d (.int .i64 (a.1:Int)))],⟨B++[jr p.type],T++[(mt.length,1)]⟩)) (fun a=>a.1≤mt.length∧(a.2 || (mt.drop a.1).contains p.type.name)=mt.contains p.type.name) (fun a=>mt.length - a.1) (0,false) ⟨dM,dM⟩ cx rfl ?_;rintro ⟨q,h⟩ ⟨w1,w2⟩ ih3;dsimp only at w1 w2 ih3 ⊢
 by_cases hq:q < mt.length
 case pos =>
  have e4:decide ((q:Int) < (mt.length:Int))=true:=ah ak;have hqI:(q:Int) < (mt.length:Int):=ak;have GU:=bE ((q:Int)+1) ak;have hgq:(gN mt)[q]? = some [.str mt[q]]:=by simp [gN,hq]
  rw [aJ hq,mF] at w2;obtain ⟨z,hz⟩:=aV (mt[q]);rw [hz] at hgq w2;cases h
  ·refine goN ?_;simp only [W,seval,F4,hn,jr,eV,e4];refine dj 10 [] [N] ?_;simp (maxSteps:=4000000) only [W,seval,F4,xw,hn,hgq,hq,hqI,eV];refine goN ?_;simp only [W,seval,F4,hn,GU];refine ih3 (q+1,decide (z=p.type.name)) ⟨gP,?_⟩ gP _ _ ?_ rfl
   ·dsimp only;rw [← w2,eN]
    congr 1
    rw [dQ,aZ,iK];exact eq_comm
   ·skip
    refine eU.env _ ?_;simp only [qa,seval,hn]
  ·refine goN ?_;simp only [W,seval,F4,hn,jr,eV,e4];refine dj 10 [] [N] ?_;simp (maxSteps:=4000000) only [W,seval,F4,xw,hn];refine goN ?_;simp only [W,seval,F4,hn,GU];refine ih3 (q+1,true) ⟨gP,?_⟩ gP _ _ ?_ rfl
   ·dsimp only;rw [← w2];rfl
   ·skip
    refine eU.env _ ?_;simp only [qa,seval,hn]
 have e4:decide ((q:Int) < (mt.length:Int))=false:=af ak
 have w2:h=mt.contains p.type.name:=by
  rw [← w2,ay ak];simp
 rw [← w2] at g3;cases h
 ·rw [aq bH] at g3;have bW:=Jb mt p.type.name;have gh:(mt.length+1) * 16≤140737488355328:=ak;have Bk:fE 1 [[D.str p.type.name]]=true:=rfl;have Gm:(mt++[p.type.name]).length=mt.length+1:=dM;refine goN ?_;simp only [W,seval,F4,hn,jr,hM,eV,e4,aO,bL,bC,Nat.reduceMul,gh,bW,Bk,hwx];rw [← Gm];refine o8 (x+1,mt++[p.type.name]) ⟨gP,gP,g3⟩ gP _ _ _ _ rfl ⟨ak,fk⟩ ?_ ?_
  ·have:=Fits.more (X:=[]) (Y:=[((mt++[p.type.name]).length,1)]) hf (fun vs hv=>absurd hv aT)
   rwa [aQ] at this
  ·have vT:M < M+1:=ak;refine gr.env _ ?_;simp only [zB,seval,hn,hi,hM,av,aP,aW,bf,vT]
 ·rw [aD rfl] at g3;refine goN ?_;simp only [W,seval,F4,hn,jr,hM,eV,e4,aK,hwx];refine o8 (x+1,mt) ⟨gP,gP,g3⟩ gP _ _ _ _ rfl ⟨ak,fk⟩ ?_ ?_
  ·have:=Fits.more (X:=[]) (Y:=[(mt.length,1)]) hf (fun vs hv=>absurd hv aT)
   rwa [aQ] at this
  ·have vT:M < M+1:=ak;refine gr.env _ ?_;simp only [zB,seval,hn,hi,hM,av,aP,aW,bf,vT]
end
def qP:=KB Tryz.func30 176
def tf:List (List UInt8)→List (List UInt8)→Bool
 | _,[]=>true
 | b,x :: l=>!b.contains x && !(x == [95]) && tf (b++[x]) l
theorem G5 (b:List (List UInt8)):tf b []=true:=rfl
theorem zl (b:List (List UInt8)) (x:List UInt8) (l:List (List UInt8)):tf b (x :: l)=(!b.contains x && !(x == [95]) && tf (b++[x]) l):=rfl
def yH (su:List eZ) (fu:List fL) (f:fL):Bool:=f.params.all (fun p=>dH su p.type && ku su fu p.name) && f.results.all (dH su)
def xe (su:List eZ) (s:eZ):Bool:=s.fields.all fun p=>dH su p.type
def zm (su:List eZ) (fu:List fL) (lp:List UInt8→Bool):Bool:=su.all (xe su) && (fu.all (yH su fu) && (tf [] (su.map eZ.name++fu.map fL.name) && su.all fun s=>!lp s.name))
theorem uQ {α:Type} (f:α→Bool) (l:List α) (i:Nat) (h:i < l.length):(l.drop i).all f=(f l[i] && (l.drop (i+1)).all f):=by
 rw [aJ h,iH]
section
variable {c:Nat} {B:bQ} {T:eg} {su:List eZ} {fu:List fL} {vv:V} {res:List bJ}
theorem R4 {lp:List UInt8→Bool} (hT:mh su fu) (hc:c < B.length) (hb:B[c]? = some (mG su fu vv res)) (NO:∀ s∈su,∃ k,k≤100000∧yG su s.name k [s.name] 0=some (lp s.name)):cy Tryz.prog bI 30 [.ptr c 0] ⟨B,T⟩ (cF (.d (.bool (zm su fu lp))) ⟨B,T⟩):=by
 obtain ⟨N,hn⟩:=aV B.length;obtain ⟨M,hM⟩:=aV T.length;have hi:c < N:=ak;have sI:=hT.su;have wI:=hT.fu;have vG:=hb;unfold mG at vG;generalize dN:zm su fu lp=r;unfold zm at dN;have kz:=fun (t:bJ) (ht:TW t) (J:bQ) T=>@uK t ht c (B++J) T su fu vv res hT fk (by rw [bt hc];exact hb);have agh:=fun (t:bJ) (ht:TW t) T=>@uK t ht c B T su fu vv res hT hc hb;unfold cH at kz agh;refine gL qP fun cG=>?_;simp only [fH] at cG;simp only [W,seval,qP,hn];refine az.fits fun hf=>?_;refine az.token 3 [] (by rfl) 1 ak rfl ?_;simp only [fP,hM];refine az.after [_,_] _ (fun _:Unit=>(cN 176 [(0,.ptr c 0),(3,.sl (gN (su.map eZ.name)) (.own M))],⟨B,T++[(su.length,1)]⟩)) (fun _=>su.all (xe su)=true) ?_ ?_
 case refine_2 =>
  intro K' gI;refine az.dL (fun i:Nat=>(cN 176 [(0,.ptr c 0),(3,.sl (gN ((su.take i).map eZ.name)) (.own M)),(4,.d (.int .i64 (i:Int)))],⟨B,T++[(i,1)]⟩)) (fun i=>i≤su.length∧(su.drop i).all (xe su)=su.all (xe su)) (fun i=>su.length - i) 0 ⟨ak,rfl⟩ cx rfl ?_;rintro i ⟨h1,h2⟩ ih;dsimp only at h1 h2 ih ⊢
  by_cases bu:i < su.length
  case neg =>
   have e2:decide ((i:Int) < (su.length:Int))=false:=af ak;obtain rfl:i=su.length:=ak;refine nF ?_;simp only [W,seval,qP,hn,hi,vG,e2];refine gI () (by rw [← h2];simp) _ _ ?_ rfl;refine eU.env _ ?_;simp only [qa,seval,hn];rw [bS (aA _)]
  have e2:decide ((i:Int) < (su.length:Int))=true:=ah ak;have gV:(i:Int) < (su.length:Int):=ak;have ie:=bE ((i:Int)+1) ak;have hg:(su.map ki)[i]? = some (ki su[i]):=by simp [bu]
  have aj0:=(hT.fl su[i] (aH bu)).1;have Vh:=(hT.fl su[i] (aH bu)).2;rw [uQ _ su i bu] at h2
  have Ir:(su.take (i+1)).map eZ.name=(su.take i).map eZ.name++[su[i].name]:=by
   rw [bF bu,cr];rfl
  obtain ⟨s,hs⟩:=aV (su[i]);rw [hs] at hg aj0 Vh h2 Ir;rw [wQ] at hg;have bW:=Jb ((su.take i).map eZ.name) s.name;rw [← Ir] at bW;have Bk:fE 1 [[D.str s.name]]=true:=rfl;have gh:(i+1) * 16≤140737488355328:=ak;have hlen:((su.take i).map eZ.name).length=i:=fk;refine nF ?_;simp only [W,seval,qP,hn,hi,vG,hM,e2,hg,bu,gV,bL,bC,Nat.reduceMul,gh,bW,Bk,eV,hlen];refine az.dL (fun k:Nat=>(cN 176 [(0,.ptr c 0),(3,.sl (gN ((su.take (i+1)).map eZ.name)) (.own M)),(4,.d (.int .i64 (i:Int))),(5,.d (.int .i64 (k:Int)))],⟨B,T++[(i+1,1)]⟩)) (fun k=>k≤s.fields.length∧(s.fields.drop k).all (fun p=>dH su p.type)=xe su s) (fun k=>s.fields.length - k) 0 ⟨ak,rfl⟩ cx rfl ?_;rintro k ⟨h3,h4⟩ o8;dsimp only at h3 h4 o8 ⊢
  by_cases hk:k < s.fields.length
  case neg =>
   have e3:decide ((k:Int) < (s.fields.length:Int))=false:=af ak;rw [ay ak] at h4;rw [← h4] at h2;refine nF ?_;simp only [W,seval,qP,hn,hi,vG,e3,hg,bu,gV];refine nF ?_;simp only [W,seval,qP,hn,ie];exact ih (i+1) ⟨ak,h2⟩ ak _ _ cx rfl
  have e3:decide ((k:Int) < (s.fields.length:Int))=true:=ah ak;have Vg:(k:Int) < (s.fields.length:Int):=ak;have Gj:=bE ((k:Int)+1) ak;have Ex:(s.fields.map jK)[k]? = some (jK s.fields[k]):=by simp [hk]
  have E2:=Vh s.fields[k] (aH hk);rw [uQ _ s.fields k hk] at h4;obtain ⟨p,hp⟩:=aV (s.fields[k]);rw [hp] at Ex E2 h4;rw [qB] at Ex;refine nF ?_;simp only [W,seval,qP,hn,hi,vG,e3,hg,bu,gV,Ex,hk,Vg];refine aX (agh p.type E2 _) ?_;cases Jy:dH su p.type
  ·rw [Jy,bA] at h4;rw [← h4,bA] at h2;rw [← h2,bA] at dN;refine goN ?_;simp only [W,seval,qP,hn];refine bN qP (Left.tok ?_);rw [← dN];exact ⟨rfl,rfl⟩
  ·rw [Jy,bY] at h4;refine nF ?_;simp only [W,seval,qP,hn];refine nF ?_;simp only [W,seval,qP,hn,Gj];exact o8 (k+1) ⟨ak,h4⟩ ak _ _ cx rfl
 rintro ⟨⟩ An;rw [An,bY] at dN;dsimp only;refine goN ?_;simp only [W,seval,qP,hn];have vI:=fun (n:List UInt8) (J:bQ) T=>@Lf n c (B++J) T su fu vv res hT (by rw [bt hc];exact hb);refine az.after [_,_] _ (fun _:Unit=>(cN 176 [(0,.ptr c 0),(3,.sl (gN (su.map eZ.name++fu.map fL.name)) (.own M))],⟨B,T++[(su.length+fu.length,1)]⟩)) (fun _=>fu.all (yH su fu)=true) ?_ ?_
 case refine_2 =>
  intro K' gI;refine az.m7 (fun i:Nat=>(cN 176 [(0,.ptr c 0),(3,.sl (gN (su.map eZ.name++(fu.take i).map fL.name)) (.own M)),(6,.d (.int .i64 (i:Int)))],⟨B,T++[(su.length+i,1)]⟩)) (fun i=>i≤fu.length∧(fu.drop i).all (yH su fu)=fu.all (yH su fu)) (fun i=>fu.length - i) 0 ⟨ak,rfl⟩ ?_ rfl ?_
  ·skip
   refine eU.env _ ?_;simp only [qa,seval,hn];rw [List.take_zero,eB,aQ]
  rintro i ⟨h1,h2⟩ ih;dsimp only at h1 h2 ih ⊢
  by_cases bu:i < fu.length
  case neg =>
   have e2:decide ((i:Int) < (fu.length:Int))=false:=af ak;obtain rfl:i=fu.length:=ak;refine nF ?_;simp only [W,seval,qP,hn,hi,vG,e2];refine gI () (by rw [← h2];simp) _ _ ?_ rfl;refine eU.env _ ?_;simp only [qa,seval,hn];rw [bS (aA _)]
  have e2:decide ((i:Int) < (fu.length:Int))=true:=ah ak;have gV:(i:Int) < (fu.length:Int):=ak;have ie:=bE ((i:Int)+1) ak;have hg:(fu.map lT)[i]? = some (lT fu[i]):=by simp [bu]
  obtain ⟨WJ,Mo,Vh,htr⟩:=hT.pa fu[i] (aH bu);rw [uQ _ fu i bu] at h2
  have Ir:(fu.take (i+1)).map fL.name=(fu.take i).map fL.name++[fu[i].name]:=by
   rw [bF bu,cr];rfl
  obtain ⟨f,hf'⟩:=aV (fu[i]);rw [hf'] at hg WJ Mo Vh htr h2 Ir;rw [sV] at hg;have bW:=Jb (su.map eZ.name++(fu.take i).map fL.name) f.name;rw [aE,← Ir] at bW;have Bk:fE 1 [[D.str f.name]]=true:=rfl;have gh:(su.length+i+1) * 16≤140737488355328:=ak;have hlen:(su.map eZ.name++(fu.take i).map fL.name).length=su.length+i:=fk;have hF:yH su fu f=(f.params.all (fun p=>dH su p.type && ku su fu p.name) && f.results.all (dH su)):=rfl;refine nF ?_;simp only [W,seval,qP,hn,hi,vG,hM,e2,hg,bu,gV,bL,bC,Nat.reduceMul,gh,bW,Bk,eV,hlen];refine az.after [_,_] _ (fun _:Unit=>(cN 176 [(0,.ptr c 0),(3,.sl (gN (su.map eZ.name++(fu.take (i+1)).map fL.name)) (.own M)),(6,.d (.int .i64 (i:Int))),(7,.ptr N 0)],⟨B++[[.d (.str f.name),.d (.sl (f.params.map jK)),.d (.sl (f.results.map eH)),.d (.sl (f.body.map gE))]],T++[(su.length+i+1,1)]⟩)) (fun _=>f.params.all (fun p=>dH su p.type && ku su fu p.name)=true) ?_ ?_
  case refine_2 =>
   intro K2 E3;refine az.dL (fun k:Nat=>(cN 176 [(0,.ptr c 0),(3,.sl (gN (su.map eZ.name++(fu.take (i+1)).map fL.name)) (.own M)),(6,.d (.int .i64 (i:Int))),(7,.ptr N 0),(8,.d (.int .i64 (k:Int)))],⟨B++[[.d (.str f.name),.d (.sl (f.params.map jK)),.d (.sl (f.results.map eH)),.d (.sl (f.body.map gE))]],T++[(su.length+i+1,1)]⟩)) (fun k=>k≤f.params.length∧(f.params.drop k).all (fun p=>dH su p.type && ku su fu p.name)=f.params.all (fun p=>dH su p.type && ku su fu p.name)) (fun k=>f.params.length - k) 0 ⟨ak,rfl⟩ cx rfl ?_;rintro k ⟨h3,h4⟩ o8;dsimp only at h3 h4 o8 ⊢
   by_cases hk:k < f.params.length
   case neg =>
    have e3:decide ((k:Int) < (f.params.length:Int))=false:=af ak;refine nF ?_;simp only [W,seval,qP,hn,e3];exact E3 () (by rw [← h4,ay ak];rfl) _ _ cx rfl
   have e3:decide ((k:Int) < (f.params.length:Int))=true:=ah ak;have Vg:(k:Int) < (f.params.length:Int):=ak;have Gj:=bE ((k:Int)+1) ak;have Ex:(f.params.map jK)[k]? = some (jK f.params[k]):=by simp [hk]
   have E2:=Vh f.params[k] (aH hk);rw [uQ _ f.params k hk] at h4;obtain ⟨p,hp⟩:=aV (f.params[k]);rw [hp] at Ex E2 h4;rw [qB] at Ex;refine nF ?_;simp only [W,seval,qP,hn,e3,Ex,hk,Vg];refine aX (kz p.type E2 _ _) ?_;cases Jy:dH su p.type
   ·rw [Jy,bA,bA] at h4;rw [hF,← h4,bA,bA] at h2;rw [← h2,bA] at dN;refine goN ?_;simp only [W,seval,qP,hn];refine bN qP (Left.all ?_);rw [← dN];exact ⟨rfl,rfl⟩
   ·rw [Jy,bY] at h4;refine nF ?_;simp only [W,seval,qP,hn,Ex,hk,Vg];refine aX (vI p.name _ _) ?_;cases hfp:ku su fu p.name
    ·rw [hfp,bA] at h4;rw [hF,← h4,bA,bA] at h2;rw [← h2,bA] at dN;refine goN ?_;simp only [W,seval,qP,hn];refine bN qP (Left.all ?_);rw [← dN];exact ⟨rfl,rfl⟩
    ·rw [hfp,bY] at h4;refine nF ?_;simp only [W,seval,qP,hn];refine nF ?_;simp only [W,seval,qP,hn,Gj];exact o8 (k+1) ⟨ak,h4⟩ ak _ _ cx rfl
  rintro ⟨⟩ Rc;rw [Rc,bY] at hF;dsimp only;refine nF ?_;simp only [W,seval,qP,hn];refine az.dL (fun k:Nat=>(cN 176 [(0,.ptr c 0),(3,.sl (gN (su.map eZ.name++(fu.take (i+1)).map fL.name)) (.own M)),(6,.d (.int .i64 (i:Int))),(7,.ptr N 0),(9,.d (.int .i64 (k:Int)))],⟨B++[[.d (.str f.name),.d (.sl (f.params.map jK)),.d (.sl (f.results.map eH)),.d (.sl (f.body.map gE))]],T++[(su.length+i+1,1)]⟩)) (fun k=>k≤f.results.length∧(f.results.drop k).all (dH su)=f.results.all (dH su)) (fun k=>f.results.length - k) 0 ⟨ak,rfl⟩ cx rfl ?_;rintro k ⟨h3,h4⟩ o8;dsimp only at h3 h4 o8 ⊢
  by_cases hk:k < f.results.length
  case neg =>
   have e3:decide ((k:Int) < (f.results.length:Int))=false:=af ak;rw [ay ak] at h4;rw [hF,← h4] at h2;refine nF ?_;simp only [W,seval,qP,hn,e3];refine nF ?_;simp only [W,seval,qP,hn,ie];refine ih (i+1) ⟨ak,h2⟩ ak _ _ _ _ rfl ⟨ak,fk⟩ ?_ ?_
   ·have:=Fits.more (X:=[]) (Y:=[(su.length+(i+1),1)]) hf (fun vs hv=>absurd hv aT)
    rwa [aQ] at this
   ·have vT:M < M+1:=ak;refine gr.env _ ?_;simp only [zB,seval,hn,hi,hM,av,aP,aW,bf,vT]
  have e3:decide ((k:Int) < (f.results.length:Int))=true:=ah ak;have Vg:(k:Int) < (f.results.length:Int):=ak;have Gj:=bE ((k:Int)+1) ak;have Ex:(f.results.map eH)[k]? = some (eH f.results[k]):=by simp [hk]
  have E2:=htr f.results[k] (aH hk);rw [uQ _ f.results k hk] at h4;obtain ⟨p,hp⟩:=aV (f.results[k]);rw [hp] at Ex E2 h4;rw [eK] at Ex;refine nF ?_;simp only [W,seval,qP,hn,e3,Ex,hk,Vg];refine aX (kz p E2 _ _) ?_;cases Jy:dH su p
  ·rw [Jy,bA] at h4;rw [hF,← h4,bA] at h2;rw [← h2,bA] at dN;refine goN ?_;simp only [W,seval,qP,hn];refine bN qP (Left.all ?_);rw [← dN];exact ⟨rfl,rfl⟩
  ·rw [Jy,bY] at h4;refine nF ?_;simp only [W,seval,qP,hn];refine nF ?_;simp only [W,seval,qP,hn,Gj];exact o8 (k+1) ⟨ak,h4⟩ ak _ _ cx rfl
 rintro ⟨⟩ aj1;rw [aj1,bY] at dN;dsimp only;refine goN ?_;simp only [W,seval,qP,hn];have hLl:(su.map eZ.name++fu.map fL.name).length=su.length+fu.length:=dM;rw [← hLl];have hL6:(su.map eZ.name++fu.map fL.name).length≤120000:=by rw [hLl];omega
 generalize su.map eZ.name++fu.map fL.name=L at dN hL6;clear hLl;refine az.after [_,_] _ (fun _:Unit=>(cN 176 [(0,.ptr c 0)],⟨B,T++[(L.length,1)]⟩)) (fun _=>tf [] L=true) ?_ ?_
 case refine_2 =>
  intro K' gI;refine az.dL (fun i:Nat=>(cN 176 [(0,.ptr c 0),(3,.sl (gN L) (.own M)),(10,.d (.int .i64 (i:Int)))],⟨B,T++[(L.length,1)]⟩)) (fun i=>i≤L.length∧tf (L.take i) (L.drop i)=tf [] L) (fun i=>L.length - i) 0 ⟨ak,rfl⟩ cx rfl ?_;rintro i ⟨h1,h2⟩ ih;dsimp only at h1 h2 ih ⊢
  by_cases bu:i < L.length
  case neg =>
   have e2:decide ((i:Int) < (L.length:Int))=false:=af ak;obtain rfl:i=L.length:=ak;rw [ay (aA _)] at h2;rw [G5] at h2;refine nF ?_;simp only [W,seval,qP,hn,hi,vG,eV,e2];exact gI () h2.symm _ _ cx rfl
  have e2:decide ((i:Int) < (L.length:Int))=true:=ah ak;have gV:(i:Int) < (L.length:Int):=ak;have ie:=bE ((i:Int)+1) ak;have hg:(gN L)[i]? = some [.str L[i]]:=by simp [gN,bu]
  have Ir:L.take (i+1)=L.take i++[L[i]]:=bF bu;rw [aJ bu] at h2;obtain ⟨x,hx⟩:=aV (L[i]);rw [hx] at hg h2 Ir;rw [zl] at h2;rw [← Ir] at h2;refine nF ?_;simp only [W,seval,qP,hn,eV,e2];refine az.dL (fun k:Nat=>(cN 176 [(0,.ptr c 0),(3,.sl (gN L) (.own M)),(10,.d (.int .i64 (i:Int))),(11,.d (.int .i64 (k:Int)))],⟨B,T++[(L.length,1)]⟩)) (fun k=>k≤i∧(L.take k).contains x=false) (fun k=>i - k) 0 ⟨ak,dM⟩ cx rfl ?_;rintro k ⟨h3,h4⟩ o8;dsimp only at h3 h4 o8 ⊢
  by_cases hk:k < i
  case neg =>
   have e3:decide ((k:Int) < (i:Int))=false:=af ak;obtain rfl:k=i:=ak;rw [h4,aO,bY] at h2
   by_cases h95:x=[95]
   ·have e95:=ah h95;rw [iK.2 h95,aK,bA] at h2;rw [← h2,bA] at dN;refine nF ?_;simp only [W,seval,qP,hn,e3];refine nF ?_;simp only [W,seval,qP,hn,hg,bu,gV,e95];refine goN ?_;simp only [W,seval,qP,hn];refine bN qP (Left.tok ?_);rw [← dN];exact ⟨rfl,rfl⟩
   ·have e95:=af h95;rw [cB.2 h95,aO,bY] at h2;refine nF ?_;simp only [W,seval,qP,hn,e3];refine nF ?_;simp only [W,seval,qP,hn,hg,bu,gV,e95,ie];exact ih (k+1) ⟨ak,h2⟩ ak _ _ cx rfl
  have e3:decide ((k:Int) < (i:Int))=true:=ah ak;have hkL:k < L.length:=ak;have Vg:(k:Int) < (L.length:Int):=ak;have Gj:=bE ((k:Int)+1) ak;have hgk:(gN L)[k]? = some [.str L[k]]:=by simp [gN,hkL]
  have E2:L.take (k+1)=L.take k++[L[k]]:=bF hkL
  have C7:L[k]∈L.take i:=by
   rw [tv];exact ⟨k,ak,rfl⟩
  obtain ⟨y,hy⟩:=aV (L[k]);rw [hy] at hgk E2 C7
  by_cases hyx:y=x
  ·have eyx:=ah hyx;have OE:(L.take i).contains x=true:=bZ.2 (by rw [← hyx];exact C7);rw [OE,aK,bA,bA] at h2;rw [← h2,bA] at dN;refine nF ?_;simp only [W,seval,qP,hn,e3];refine dj 8 [] [] ?_;simp (maxSteps:=4000000) only [W,seval,qP,xw,hn,hgk,hg,hkL,Vg,bu,gV,eyx];refine goN ?_;simp only [W,seval,qP,hn];refine bN qP (Left.tok ?_);rw [← dN];exact ⟨rfl,rfl⟩
  ·have eyx:=af hyx;refine nF ?_;simp only [W,seval,qP,hn,e3];refine dj 8 [] [] ?_;simp (maxSteps:=4000000) only [W,seval,qP,xw,hn,hgk,hg,hkL,Vg,bu,gV,eyx];refine nF ?_;simp only [W,seval,qP,hn];refine nF ?_;simp only [W,seval,qP,hn,Gj];refine o8 (k+1) ⟨ak,?_⟩ ak _ _ ?_ rfl
   ·rw [E2,List.contains_append,h4,eN];simp only [mF,List.contains_nil,mS];rw [cB];exact fun h=>hyx h.symm
   ·skip
    refine eU.env _ ?_;simp only [qa,seval,hn]
 rintro ⟨⟩ aj5;rw [aj5,bY] at dN;dsimp only;refine goN ?_;simp only [W,seval,qP,hn];refine az.dL (fun i:Nat=>(cN 176 [(0,.ptr c 0),(12,.d (.int .i64 (i:Int)))],⟨B,T++[(L.length,1)]⟩)) (fun i=>i≤su.length∧((su.drop i).all fun s=>!lp s.name)=r) (fun i=>su.length - i) 0 ⟨ak,dN⟩ cx rfl ?_;rintro i ⟨h1,h2⟩ ih;dsimp only at h1 h2 ih ⊢;clear dN
 by_cases bu:i < su.length
 case neg =>
  have e2:decide ((i:Int) < (su.length:Int))=false:=af ak;rw [ay ak] at h2;refine goN ?_;simp only [W,seval,qP,hn,hi,vG,e2];refine bN qP (Left.tok ?_);rw [← h2];exact ⟨rfl,rfl⟩
 have e2:decide ((i:Int) < (su.length:Int))=true:=ah ak;have gV:(i:Int) < (su.length:Int):=ak;have ie:=bE ((i:Int)+1) ak;have hg:(su.map ki)[i]? = some (ki su[i]):=by simp [bu]
 obtain ⟨k,SH,hk2⟩:=NO su[i] (aH bu);rw [uQ _ su i bu] at h2;obtain ⟨s,hs⟩:=aV (su[i]);rw [hs] at hg h2 hk2;rw [wQ] at hg;have HU:=fun T=>@Vx c B T su fu vv res s.name hT hc hb k SH _ hk2;refine goN ?_;simp only [W,seval,qP,hn,hi,vG,e2,hg,bu,gV];refine aX (HU _) ?_;cases hl:lp s.name
 ·rw [hl,aO,bY] at h2;refine goN ?_;simp only [W,seval,qP,hn,ie];exact ih (i+1) ⟨ak,h2⟩ ak _ _ cx rfl
 ·rw [hl,aK,bA] at h2;refine goN ?_;simp only [W,seval,qP,hn];refine bN qP (Left.tok ?_);rw [← h2];exact ⟨rfl,rfl⟩
end
end Go.Proofs.YtnfnbjjnjjdjdaaGreatDoor
namespace Go.Ab
open Go.RowKit Go.Av
theorem uD.R5 {P:Program} {I:Inv} {env:List V} {o:Oper} {S:Mem} {so xo:Operand} {ts us e:TypeId} {ti te ui:zI} {x:V} (ho:o.op = .call ⟨.builtin .append,#[so,xo],#[ts,us]⟩)
 (o9:eT P ts=some ti) (he:ti.d = .slice e) (sq:eT P e=some te) (HZ:eT P us=some ui) (Gk:∃ k,ui.d = .slice k) (Bg:bw I env so = .sl [] .full) (hex:bw I env xo=x) (hd:uw x=some (.sl [])) :
 uD P I o env S fun v S'=>v = .sl [] .full∧S' = S:=by
 intro c w ev h1 h2 h3
 have uZ:∀ y,y=so∨y=xo→y∈o.op.operands:=by
  intro y hy;rw [ho];simp only [Op.operands,Call.operands];rcases hy with rfl | rfl<;>simp
 have hA:=h3 so (uZ so (.inl rfl));have hX:=h3 xo (uZ xo (.inr rfl));rw [Bg] at hA;rw [hex] at hX;obtain ⟨fi,d,z,a1,a2,a3,a4,a5,a6,_⟩:=cQ o9;obtain ⟨gi,d2,z2,g1,g2,g3,g4,g5,g6,g7,g8,g9,g10⟩:=cQ sq;obtain ⟨ui1,d3,z3,u1,u2,u3,u4,u5,u6,_⟩:=cQ HZ;rw [he] at a6;obtain rfl:=fN a6;obtain ⟨ke,hke⟩:=Gk;rw [hke] at u6;obtain rfl:=fN u6;have Ty:Dx P ts e te.size te.bytes:=⟨a2,gi,z2,g1,g3,g4,g5,g8⟩;have hD:=mV hX hd
 have sI:∃ a n cap,ev xo = .slice a n cap:=by
  generalize ev xo=X at hD;cases hD;exact ⟨_,_,_,rfl⟩
 obtain ⟨a,n,cap,hxo⟩:=sI;rw [hxo] at hD;obtain ⟨hn,_,_,F,hF,_⟩:=hD.flat te.size dM;have hn:n=0:=hn;subst hn;have mE:=fun W hW=>qn (P:=P) (sz:=te.size) (cap:=cap) (a:=a) (rows:=[]) (n:=0) rfl hF W hW;generalize hev:ev so=A at hA;have hA':=hA;cases hA with
 | full _ a' JN ha =>
  have eI:=zH (P:=P) (w:=w) (ty:=o.type) Ty ⟨_,u2,dM⟩ a' 0 0 (Nat.le_refl _) (.slice a 0 cap) (fun W=>by simp [Builtin.lenOf]) (fun W hW=>by simpa using mE W hW);refine ⟨.slice a' 0 0,w,c,.sl [] .full,S,?_,⟨rfl,rfl⟩,h1,.refl _ _,hA'⟩;simp only [aW] at hev;simp [execOp,ho,resolve,invoke,builtin,hev,hxo,eI]
end Go.Ab
namespace Go.Ab
open Go.RowKit Go.Av
theorem C8 {P:Program} {w:World} (d:Nat) (t e:TypeId) (h:P.underlying t=some (.slice e)) (a:Option Addr) (n cap:Nat):(Op.equalIn (d+1) t (.slice a n cap) (.slice none 0 0)).run P w = .ok a.isNone w:=by
 cases a<;>simp [Op.equalIn,run_underlying h]
theorem az.LN {P:Program} {I:Inv} {ops:Array Oper} {z:Nat × Nat} {fn:FuncId} {k:List Item} {R:V→Mem→Prop} {i:Nat} {rest:List Nat} {o:Oper} {env:List V} {S:Mem} {so:Operand} {t e rt:TypeId} {ti:zI} {x:V} {rows:List (List D)} {sz:Nat} (FJ:ops[i]? = some o) (hw:kQ env ops o) (ho:o.op = .binOp .eql t so (.const (.slice none 0 0)) rt)
 (o9:eT P t=some ti) (he:ti.d = .slice e) (hex:bw I env so=x) (hd:uw x=some (.sl rows)) (hr:∀ r∈rows,r.length=sz)
 (hk:∀ b,(rows ≠ []→b=false)→az P I z fn (.inRegion ops rest :: k) (dD env o.dst (.d (.bool b))) S R):az P I z fn (.inRegion ops (i :: rest) :: k) env S R:=by
 intro b a c w c0 w0 h1 h2 h3 h4 h5 h6 hI;have hX:=ij.eval h5 h4 so;rw [hI.1,hex] at hX;obtain ⟨fi,d,zz,a1,a2,a3,a4,a5,a6,_⟩:=cQ o9;rw [he] at a6;obtain rfl:=fN a6;have hD:=mV hX hd
 have sI:∃ a' n cap,a.eval so = .slice a' n cap:=by
  generalize a.eval so=X at hD;cases hD;exact ⟨_,_,_,rfl⟩
 obtain ⟨a',n,cap,hxo⟩:=sI;rw [hxo] at hD;obtain ⟨hn,_,_,F,hF,_⟩:=hD.flat sz hr
 have eI:(execOp a.eval o).run P w = .ok (.value (.bool a'.isNone)) w:=by
  rw [execOp,ho];show (do let r ← (do eqGuard .eql t so (.const (.slice none 0 0)) (a.eval so) (a.eval (.const (.slice none 0 0)));binOp .eql t (a.eval so) (a.eval (.const (.slice none 0 0))));pure (Next.value r):Sem Next).run P w=_;have hc:a.eval (.const (.slice none 0 0)) = .slice none 0 0:=rfl;rw [hxo,hc];have hg:(eqGuard .eql t so (.const (.slice none 0 0)) (.slice a' n cap) (.slice none 0 0)).run P w = .ok () w:=rfl;have hq:(Op.equal t (.slice a' n cap) (.slice none 0 0)).run P w = .ok a'.isNone w:=C8 9999 t e a2 a' n cap;have hb:(binOp .eql t (.slice a' n cap) (.slice none 0 0))=(do pure (.bool (← Op.equal t (.slice a' n cap) (.slice none 0 0)))):=rfl;simp only [Sem.run_bind,hg,hb,hq,Result.andThen_ok,Sem.run_pure]
 have Mf:=hk a'.isNone fun gW=>by
  obtain ⟨_,g,off,rfl,_⟩:=hF gW;rfl
 have hg:=fun cs=>stepG_op (P:=P) (b:=b) (k:=k) (cs:=cs) (w:=w) (rest:=rest) FJ (zL h4 hw)
 have hs:∀ cs,Go.step P (lone (b.at a (.inRegion ops (i :: rest) :: k)) cs w) = .next (lone (b.at (a.put o.dst (.bool a'.isNone)) (.inRegion ops rest :: k)) cs w):=by
  intro cs;refine step_lone_go ?_;have nQ:(b.at a (.inRegion ops (i :: rest) :: k)).finish (.bool a'.isNone)=b.at (a.put o.dst (.bool a'.isNone)) (.inRegion ops rest :: k):=by rw [Frame.finish_at,FJ];rfl
  rw [hg cs,← nQ];simp [stepG.apply,eI]
 refine FI.step hs (Mf b (a.put o.dst (.bool a'.isNone)) c w c0 w0 h1 h2 ?_ ?_ h5 h6 hI)
 ·cases o.dst<;>simpa [Act.put] using h3
 ·exact h4.put o.dst (.d _ _ (.bool _))
def PU:V→V
 | .sl rows .full=>.d (.sl rows)
 | v=>v
theorem cy.flat {P:Program} {I:Inv} {f:FuncId} {args:List V} {S:Mem} {R:V→Mem→Prop} (h:cy P I f args S fun v S'=>R (PU v) S'):cy P I f args S R:=by
 refine ⟨h.1,fun c w xs h1 h2 h3 hI cs=>?_⟩;obtain ⟨e,w',fr,⟨v,x,S',c',a1,a2,a3,a4,a5⟩,h⟩:=h.2 c w xs h1 h2 h3 hI cs;refine ⟨e,w',fr,⟨PU v,x,S',c',a1,a2,a3,a4,?_⟩,h⟩;unfold PU
 split
 ·exact .d _ _ (mV a5 rfl)
 ·exact a5
theorem Ki.flat {sz:Nat} {B:bQ} {T:eg} {rows:List (List D)} {v:V} {S':Mem} (h:Ki sz B T rows v S'):Ki sz B T rows (PU v) S':=by
 obtain ⟨cap,h1,h2,rfl,h3⟩:=h;exact ⟨cap,h1,h2,rfl,h3⟩
end Go.Ab
namespace Go.Proofs.YtnfnbjjnjjdjdaaGreatDoor
open _root_.Go.Proofs.Tryz
open Go.RowKit Go.Av Go.Ab
def Vy:=KB func108 8
def b72:=KB func72 8
def b74:=KB func74 8
def b24:=KB func24 8
def b25:=KB func25 8
theorem Vz {P:Program} {e:TypeId} {n:Nat} (h:(match eT P e with
 | some te=>Nat.beq te.size n && Nat.ble te.bytes 100000
 | none=>false)=true):∃ te,eT P e=some te∧te.size=n∧te.bytes≤100000:=by
 split at h
 ·rename_i te ht;obtain ⟨h1,h2⟩:=rB.1 h;exact ⟨te,ht,mX h1,cm h2⟩
 ·cases h
def qQ (sz:Nat) (rows:List (List D)) (B:bQ) (T:eg) (v:V) (S':Mem):Prop :=
 (rows=[]∧v = .d (.sl [])∧S' = ⟨B,T⟩)∨(rows ≠ []∧Ki sz B T rows v S')
theorem Oh (rows:List (List D)) (hr:∀ r∈rows,r.length=8) (hl:rows.length≤1000000000) (B:bQ) (T:eg):cy prog bI 108 [.d (.sl rows)] ⟨B,T⟩ (qQ 8 rows B T):=by
 obtain ⟨te,t1,t2,t3⟩:=Vz (P:=prog) (e:=50) (n:=8) cP;have hs:eT prog 48=some ⟨.slice 50,1,24,false,[.sl [] .full]⟩:=cP;refine cy.flat (cy.tQ (body:=(kF f108 0)) 8 func108 cP cP cP (cm rfl) ?_);refine az.go 8 ?_;simp only [W,seval,Vy];refine az.LN (ops:=opsOf (kF f108 4)) (i:=1) (o:=fG (opsOf (kF f108 4)) 1) cP (.inl cP) (so:=.tmp 3) (rt:=48) cP hs rfl (by rfl) rfl hr ?_;intro b hb;have Zb:(fG (opsOf (kF f108 4)) 1).dst=some 4:=cP;rw [Zb];cases b
 case true =>
  have gW:rows=[]:=by
   rcases rows with _ | ⟨r,l⟩
   ·rfl
   ·exact absurd (hb dM) dM
  refine az.go 30 ?_;simp only [W,seval,Vy];refine az.ret func108 rfl (.inl ⟨gW,rfl,rfl⟩)
 clear hb;refine az.go 7 ?_;simp only [W,seval,Vy];have PV:(fG (opsOf (kF f108 11)) 2).dst=some 7:=cP
 by_cases gW:rows=[]
 ·subst gW;refine uD.step (ops:=opsOf (kF f108 11)) (i:=2) (o:=fG (opsOf (kF f108 11)) 2) cP (.inl cP) (uD.R5 (so:=.tmp 5) (xo:=.tmp 6) cP hs rfl t1 hs ⟨_,rfl⟩ (by rfl) (by rfl) rfl) ?_;rintro _ _ ⟨rfl,rfl⟩;rw [PV];refine az.go 20 ?_;simp only [W,seval,Vy];refine az.ret func108 rfl (.inl ⟨rfl,rfl,rfl⟩)
 refine uD.step (ops:=opsOf (kF f108 11)) (i:=2) (o:=fG (opsOf (kF f108 11)) 2) cP (.inl cP) (uD.QF (so:=.tmp 5) (xo:=.tmp 6) cP hs rfl t1 hs ⟨_,rfl⟩ (by rw [t2];decide) (by rfl) (by rfl) gW rfl (by rw [t2];exact hr) t3 hl) ?_;intro v S' hv;rw [t2] at hv;rw [PV];refine az.go 20 ?_;simp only [W,seval,Vy];refine az.ret func108 rfl (.inr ⟨gW,hv.flat⟩)
theorem Oi (rows:List (List D)) (hr:∀ r∈rows,r.length=10) (hl:rows.length≤1000000000) (B:bQ) (T:eg):cy prog bI 72 [.d (.sl rows)] ⟨B,T⟩ (qQ 10 rows B T):=by
 obtain ⟨te,t1,t2,t3⟩:=Vz (P:=prog) (e:=53) (n:=10) cP;have hs:eT prog 39=some ⟨.slice 53,1,24,false,[.sl [] .full]⟩:=cP;refine cy.flat (cy.tQ (body:=(kF f72 0)) 8 func72 cP cP cP (cm rfl) ?_);refine az.go 8 ?_;simp only [W,seval,b72];refine az.LN (ops:=opsOf (kF f72 4)) (i:=1) (o:=fG (opsOf (kF f72 4)) 1) cP (.inl cP) (so:=.tmp 3) (rt:=39) cP hs rfl (by rfl) rfl hr ?_;intro b hb;have Zb:(fG (opsOf (kF f72 4)) 1).dst=some 4:=cP;rw [Zb];cases b
 case true =>
  have gW:rows=[]:=by
   rcases rows with _ | ⟨r,l⟩
   ·rfl
   ·exact absurd (hb dM) dM
  refine az.go 30 ?_;simp only [W,seval,b72];refine az.ret func72 rfl (.inl ⟨gW,rfl,rfl⟩)
 clear hb;refine az.go 7 ?_;simp only [W,seval,b72];have PV:(fG (opsOf (kF f72 11)) 2).dst=some 7:=cP
 by_cases gW:rows=[]
 ·subst gW;refine uD.step (ops:=opsOf (kF f72 11)) (i:=2) (o:=fG (opsOf (kF f72 11)) 2) cP (.inl cP) (uD.R5 (so:=.tmp 5) (xo:=.tmp 6) cP hs rfl t1 hs ⟨_,rfl⟩ (by rfl) (by rfl) rfl) ?_;rintro _ _ ⟨rfl,rfl⟩;rw [PV];refine az.go 20 ?_;simp only [W,seval,b72];refine az.ret func72 rfl (.inl ⟨rfl,rfl,rfl⟩)
 refine uD.step (ops:=opsOf (kF f72 11)) (i:=2) (o:=fG (opsOf (kF f72 11)) 2) cP (.inl cP) (uD.QF (so:=.tmp 5) (xo:=.tmp 6) cP hs rfl t1 hs ⟨_,rfl⟩ (by rw [t2];decide) (by rfl) (by rfl) gW rfl (by rw [t2];exact hr) t3 hl) ?_;intro v S' hv;rw [t2] at hv;rw [PV];refine az.go 20 ?_;simp only [W,seval,b72];refine az.ret func72 rfl (.inr ⟨gW,hv.flat⟩)
theorem Oj (rows:List (List D)) (hr:∀ r∈rows,r.length=2) (hl:rows.length≤1000000000) (B:bQ) (T:eg):cy prog bI 74 [.d (.sl rows)] ⟨B,T⟩ (qQ 2 rows B T):=by
 obtain ⟨te,t1,t2,t3⟩:=Vz (P:=prog) (e:=96) (n:=2) cP;have hs:eT prog 51=some ⟨.slice 96,1,24,false,[.sl [] .full]⟩:=cP;refine cy.flat (cy.tQ (body:=(kF f74 0)) 8 func74 cP cP cP (cm rfl) ?_);refine az.go 8 ?_;simp only [W,seval,b74];refine az.LN (ops:=opsOf (kF f74 4)) (i:=1) (o:=fG (opsOf (kF f74 4)) 1) cP (.inl cP) (so:=.tmp 3) (rt:=51) cP hs rfl (by rfl) rfl hr ?_;intro b hb;have Zb:(fG (opsOf (kF f74 4)) 1).dst=some 4:=cP;rw [Zb];cases b
 case true =>
  have gW:rows=[]:=by
   rcases rows with _ | ⟨r,l⟩
   ·rfl
   ·exact absurd (hb dM) dM
  refine az.go 30 ?_;simp only [W,seval,b74];refine az.ret func74 rfl (.inl ⟨gW,rfl,rfl⟩)
 clear hb;refine az.go 7 ?_;simp only [W,seval,b74];have PV:(fG (opsOf (kF f74 11)) 2).dst=some 7:=cP
 by_cases gW:rows=[]
 ·subst gW;refine uD.step (ops:=opsOf (kF f74 11)) (i:=2) (o:=fG (opsOf (kF f74 11)) 2) cP (.inl cP) (uD.R5 (so:=.tmp 5) (xo:=.tmp 6) cP hs rfl t1 hs ⟨_,rfl⟩ (by rfl) (by rfl) rfl) ?_;rintro _ _ ⟨rfl,rfl⟩;rw [PV];refine az.go 20 ?_;simp only [W,seval,b74];refine az.ret func74 rfl (.inl ⟨rfl,rfl,rfl⟩)
 refine uD.step (ops:=opsOf (kF f74 11)) (i:=2) (o:=fG (opsOf (kF f74 11)) 2) cP (.inl cP) (uD.QF (so:=.tmp 5) (xo:=.tmp 6) cP hs rfl t1 hs ⟨_,rfl⟩ (by rw [t2];decide) (by rfl) (by rfl) gW rfl (by rw [t2];exact hr) t3 hl) ?_;intro v S' hv;rw [t2] at hv;rw [PV];refine az.go 20 ?_;simp only [W,seval,b74];refine az.ret func74 rfl (.inr ⟨gW,hv.flat⟩)
theorem Jc (rows:List (List D)) (hr:∀ r∈rows,r.length=2) (hl:rows.length≤1000000000) (B:bQ) (T:eg):cy prog bI 24 [.d (.sl rows)] ⟨B,T⟩ (qQ 2 rows B T):=by
 obtain ⟨te,t1,t2,t3⟩:=Vz (P:=prog) (e:=67) (n:=2) cP;have hs:eT prog 22=some ⟨.slice 67,1,24,false,[.sl [] .full]⟩:=cP;refine cy.flat (cy.tQ (body:=(kF f24 0)) 8 func24 cP cP cP (cm rfl) ?_);refine az.go 8 ?_;simp only [W,seval,b24];refine az.LN (ops:=opsOf (kF f24 4)) (i:=1) (o:=fG (opsOf (kF f24 4)) 1) cP (.inl cP) (so:=.tmp 3) (rt:=22) cP hs rfl (by rfl) rfl hr ?_;intro b hb;have Zb:(fG (opsOf (kF f24 4)) 1).dst=some 4:=cP;rw [Zb];cases b
 case true =>
  have gW:rows=[]:=by
   rcases rows with _ | ⟨r,l⟩
   ·rfl
   ·exact absurd (hb dM) dM
  refine az.go 30 ?_;simp only [W,seval,b24];refine az.ret func24 rfl (.inl ⟨gW,rfl,rfl⟩)
 clear hb;refine az.go 7 ?_;simp only [W,seval,b24];have PV:(fG (opsOf (kF f24 11)) 2).dst=some 7:=cP
 by_cases gW:rows=[]
 ·subst gW;refine uD.step (ops:=opsOf (kF f24 11)) (i:=2) (o:=fG (opsOf (kF f24 11)) 2) cP (.inl cP) (uD.R5 (so:=.tmp 5) (xo:=.tmp 6) cP hs rfl t1 hs ⟨_,rfl⟩ (by rfl) (by rfl) rfl) ?_;rintro _ _ ⟨rfl,rfl⟩;rw [PV];refine az.go 20 ?_;simp only [W,seval,b24];refine az.ret func24 rfl (.inl ⟨rfl,rfl,rfl⟩)
 refine uD.step (ops:=opsOf (kF f24 11)) (i:=2) (o:=fG (opsOf (kF f24 11)) 2) cP (.inl cP) (uD.QF (so:=.tmp 5) (xo:=.tmp 6) cP hs rfl t1 hs ⟨_,rfl⟩ (by rw [t2];decide) (by rfl) (by rfl) gW rfl (by rw [t2];exact hr) t3 hl) ?_;intro v S' hv;rw [t2] at hv;rw [PV];refine az.go 20 ?_;simp only [W,seval,b24];refine az.ret func24 rfl (.inr ⟨gW,hv.flat⟩)
theorem Ok (rows:List (List D)) (hr:∀ r∈rows,r.length=4) (hl:rows.length≤1000000000) (B:bQ) (T:eg):cy prog bI 25 [.d (.sl rows)] ⟨B,T⟩ (qQ 4 rows B T):=by
 obtain ⟨te,t1,t2,t3⟩:=Vz (P:=prog) (e:=41) (n:=4) cP;have hs:eT prog 23=some ⟨.slice 41,1,24,false,[.sl [] .full]⟩:=cP;refine cy.flat (cy.tQ (body:=(kF f25 0)) 8 func25 cP cP cP (cm rfl) ?_);refine az.go 8 ?_;simp only [W,seval,b25];refine az.LN (ops:=opsOf (kF f25 4)) (i:=1) (o:=fG (opsOf (kF f25 4)) 1) cP (.inl cP) (so:=.tmp 3) (rt:=23) cP hs rfl (by rfl) rfl hr ?_;intro b hb;have Zb:(fG (opsOf (kF f25 4)) 1).dst=some 4:=cP;rw [Zb];cases b
 case true =>
  have gW:rows=[]:=by
   rcases rows with _ | ⟨r,l⟩
   ·rfl
   ·exact absurd (hb dM) dM
  refine az.go 30 ?_;simp only [W,seval,b25];refine az.ret func25 rfl (.inl ⟨gW,rfl,rfl⟩)
 clear hb;refine az.go 7 ?_;simp only [W,seval,b25];have PV:(fG (opsOf (kF f25 11)) 2).dst=some 7:=cP
 by_cases gW:rows=[]
 ·subst gW;refine uD.step (ops:=opsOf (kF f25 11)) (i:=2) (o:=fG (opsOf (kF f25 11)) 2) cP (.inl cP) (uD.R5 (so:=.tmp 5) (xo:=.tmp 6) cP hs rfl t1 hs ⟨_,rfl⟩ (by rfl) (by rfl) rfl) ?_;rintro _ _ ⟨rfl,rfl⟩;rw [PV];refine az.go 20 ?_;simp only [W,seval,b25];refine az.ret func25 rfl (.inl ⟨rfl,rfl,rfl⟩)
 refine uD.step (ops:=opsOf (kF f25 11)) (i:=2) (o:=fG (opsOf (kF f25 11)) 2) cP (.inl cP) (uD.QF (so:=.tmp 5) (xo:=.tmp 6) cP hs rfl t1 hs ⟨_,rfl⟩ (by rw [t2];decide) (by rfl) (by rfl) gW rfl (by rw [t2];exact hr) t3 hl) ?_;intro v S' hv;rw [t2] at hv;rw [PV];refine az.go 20 ?_;simp only [W,seval,b25];refine az.ret func25 rfl (.inr ⟨gW,hv.flat⟩)
end Go.Proofs.YtnfnbjjnjjdjdaaGreatDoor
namespace Go.Proofs.YtnfnbjjnjjdjdaaGreatDoor
open _root_.Go.Proofs.Tryz
open Go.RowKit Go.Av Go.Ab
def b73:=KB func73 23
theorem gD.tail {α:Type} {sz:Nat} {f:α→Nat→Nat→List V→Prop} (C:List V):∀ {l:List α} {lo hi:Nat} {X:List V},gD sz f l lo hi X→gD sz f l lo hi (X++C)
 | [],_,_,_,h=>h
 | x :: l,lo,hi,X,⟨r,X',m,h1,h2,h3,h4,h5,h6⟩=>⟨r,X'++C,m,by rw [h1,aE],h2,h3,h4,h5,h6.tail C⟩
theorem gD.snoc {α:Type} {sz:Nat} {f:α→Nat→Nat→List V→Prop} {x:α} {r:List V} {m hi:Nat} (hr:r.length=sz) (hm:m≤hi) (hf:∀ a,a≤m→f x a hi r):∀ {l:List α} {lo:Nat} {X:List V},gD sz f l lo m X→X.length=l.length * sz→gD sz f (l++[x]) lo hi (X++r)
 | [],lo,X,h,hX=>by
  obtain rfl:X=[]:=List.eq_nil_of_length_eq_zero (by simpa using hX);have h:lo≤m:=h;exact ⟨r,[],hi,dM,hr,ak,aA _,hf _ h,aA _⟩
 | y :: l,lo,X,⟨r0,X',m0,h1,h2,h3,h4,h5,h6⟩,hX=>⟨r0,X'++r,m0,by rw [h1,aE],h2,h3,ak,h5,gD.snoc hr hm hf h6 (by rw [h1,av,aP,ej] at hX;omega)⟩
theorem sY.low {f:Nat→Nat→List V→Prop} {n:Nat} {B:bQ} {lo Wz hi:Nat} {v:V} (h:sY f n B lo hi v) (hl:Wz≤lo):sY f n B Wz hi v:=by
 rcases h with ⟨h1,h2,h3⟩ | ⟨hn,j,cap,Y,h0,h1,h2,h3,h4⟩
 ·exact .inl ⟨h1,h2,ak⟩
 ·exact .inr ⟨hn,j,cap,Y,h0,ak,h2,h3,h4⟩
theorem sY.cells {f:Nat→Nat→List V→Prop} {n:Nat} {B:bQ} {lo hi:Nat} {v:V} (h:sY f n B lo hi v):kU v=some [v]:=by
 rcases h with ⟨_,rfl,_⟩ | ⟨_,j,cap,Y,rfl,_⟩<;>rfl
theorem acT {X A C:List V} {x:bh} {kv v:V} {a:Nat} (hX:X=A++ef x kv++C) (ha:A.length=a):X.take (a+7)++(v :: X.drop (a+7+1))=A++ef x v++C:=by
 have e:X=A++(ef x kv++C):=by rw [hX,aE]
 rw [e,nI,fQ,gv ak,bS ak,dO,aE,aE];rw [show a+7 - A.length=7 by omega,show a+7+1 - A.length=8 by omega];rfl
theorem Zd (x:bh):(eL x).map V.d=ef x (.d (.sl (x.kids.map eL))):=by rw [dF];rfl
def VA (own:List (List V)→Nat→Nat→V→Prop) (B:bQ) (T:eg) (v:V) (S':Mem):Prop:=∃ J,S' = ⟨B++J,T⟩∧own (B++J) B.length (B++J).length v
def EXs (l:List bh):Prop:=∀ (B:bQ) (T:eg),cy prog bI 73 [.d (.sl (l.map eL))] ⟨B,T⟩ (VA (fun B lo hi v=>mY B l lo hi v) B T)
structure R6 where
 i:Nat
 Y:List V
 B:List (List V)
structure aj6 (l:List bh) (B:bQ) (yg:List V) (a:R6):Prop where
 le:a.i≤l.length
 yl:a.Y.length=a.i * 8
 bl:B.length < a.B.length
 old:∀ k,k < B.length→a.B[k]? = B[k]?
 row:a.B[B.length]? = some (a.Y++(((l.drop a.i).map eL).flatten.map V.d++yg))
 own:gD 8 (pS a.B) (l.take a.i) (B.length+1) a.B.length a.Y
theorem LP (l:List bh) (hl:∀ x∈l,EXs x.kids) (hlen:l.length≤60000):EXs l:=by
 intro B T;obtain ⟨N,hn⟩:=aV B.length;have qW:=Oh (l.map eL) (by intro r hr;obtain ⟨x,_,rfl⟩:=eu.1 hr;rw [dF];rfl) (by rw [aS];omega) B T;refine cy.flat (cy.tQ (body:=(kF f73 0)) 23 func73 cP cP cP (cm rfl) ?_);refine az.go 160 ?_;simp only [W,seval,b73];refine kG qW ?_;rintro v S' (⟨h0,rfl,rfl⟩ | ⟨gW,cap,h1,h2,rfl,rfl⟩)
 ·obtain rfl:l=[]:=by simpa using h0
  refine goN ?_;simp only [W,seval,b73];refine az.dL (fun _:Unit=>(cN 23 [(8,.d (.int .i64 0)),(7,.d (.int .i64 0)),(0,.d (.sl []))],⟨B,T⟩)) (fun _=>True) (fun _=>0) () trivial cx rfl ?_;intro _ _ _;refine goN ?_;simp only [W,seval,b73,af (show ¬ ((0:Int) < 0) by decide)];refine az.ret func73 rfl ?_;exact ⟨[],by rw [aQ],.inl ⟨rfl,rfl,dM⟩⟩
 obtain ⟨yg,hJ⟩:∃ J,J=List.replicate ((cap - (l.map eL).length) * 8) V.undef:=⟨_,rfl⟩;rw [← hJ];rw [aS] at h1 ⊢;clear hJ qW;have Cy:l ≠ []:=by rintro rfl;exact gW rfl
 refine goN ?_;simp only [W,seval,b73,oE];refine az.dL (fun a:R6=>(cN 23 [(8,.d (.int .i64 (a.i:Int))),(7,.d (.int .i64 (l.length:Int))),(0,.bx B.length l.length cap)],⟨a.B,T⟩)) (aj6 l B yg) (fun a=>l.length - a.i) ⟨0,[],B++[(l.map eL).flatten.map V.d++yg]⟩ ⟨bG _,rfl,dM,fun k hk=>bt hk,by rw [gp rfl];rfl,by simp [gD]⟩ cx rfl ?_;rintro ⟨i,Y,Bi⟩ ⟨h3,h4,h5,h6,h7,h8⟩ ih;dsimp only at h3 h4 h5 h6 h7 h8 ih ⊢
 by_cases bu:i < l.length
 case neg =>
  have e2:decide ((i:Int) < (l.length:Int))=false:=af ak;obtain rfl:i=l.length:=ak;refine goN ?_;simp only [W,seval,b73,e2];refine az.ret func73 rfl ?_;rw [fR] at h8
  have hB:Bi=B++Bi.drop B.length:=by
   conv=>lhs;rw [← eX B.length Bi]
   congr 1
   refine fW fun k=>?_;rw [bp]
   split
   ·rename_i hk;exact h6 k hk
   ·rename_i hk;rw [dP ak]
  refine ⟨Bi.drop B.length,by rw [← hB],.inr ⟨fun e=>Cy (aM e),B.length,cap,_,rfl,aA _,by rw [← hB];exact h5,by rw [← hB];exact h7,?_⟩⟩;rw [← hB,qH];exact h8.tail _
 have e2:decide ((i:Int) < (l.length:Int))=true:=ah ak;have ie:=bE ((i:Int)+1) ak;have gV:(i:Int) < (l.length:Int):=ak;obtain ⟨x,hx⟩:=aV (l[i]);have Xq:=hl l[i] (aH bu) Bi T;rw [hx] at Xq;rw [aJ bu,hx,cw,gM,cr,Zd,aE,← aE] at h7;obtain ⟨C,hC⟩:∃ C,C=((l.drop (i+1)).map eL).flatten.map V.d++yg:=⟨_,rfl⟩;rw [← hC] at h7;obtain ⟨Z,hZ⟩:∃ Z,Z=Y++ef x (.d (.sl (x.kids.map eL)))++C:=⟨_,rfl⟩;rw [← hZ] at h7;obtain ⟨x0,x1,x2,x3,x7,x8,x9,_⟩:=jd hZ h4;refine goN ?_;simp only [W,seval,b73,oE,e2,gV,h7,x7,x8];refine kG Xq ?_;rintro v _ ⟨J,rfl,hv⟩;have OE:kU v=some [v]:=sY.cells hv;have h7':(Bi++J)[B.length]? = some Z:=by rw [bt h5];exact h7
 refine goN ?_;simp only [W,seval,b73,oE,gV,h7',OE,x8,ie];rw [acT hZ h4];have hB3:∀ k,k < Bi.length→k ≠ B.length→((Bi++J).set B.length (Y++ef x v++C))[k]? = Bi[k]?:=fun k hk hq=>by rw [aj (jk hq),bt hk]
 refine ih ⟨i+1,Y++ef x v,(Bi++J).set B.length (Y++ef x v++C)⟩ ⟨bu,?_,?_,?_,?_,?_⟩ gP _ _ ?_ rfl
 ·show (Y++ef x v).length=(i+1) * 8;rw [av,h4];show i * 8+8=_;omega
 ·show B.length < ((Bi++J).set B.length _).length;rw [aG,av];omega
 ·exact fun k hk=>(hB3 k ak ak).trans (h6 k hk)
 ·show ((Bi++J).set B.length _)[B.length]? = _;rw [aC (by rw [av];omega),← hC]
 ·show gD 8 (pS ((Bi++J).set B.length _)) (l.take (i+1)) (B.length+1) ((Bi++J).set B.length _).length (Y++ef x v);rw [bF bu,hx,aG];refine gD.snoc (sz:=8) (m:=Bi.length) (hi:=(Bi++J).length) (f:=pS ((Bi++J).set B.length (Y++ef x v++C))) rfl (by rw [av];omega) (fun a ha=>?_) (h8.congr fun y _ a b r ha hb hf=>pS.frame y hf fun k h1 h2=>hB3 k ak ak) (by rw [h4,cg,mO h3]);refine pT.2 ⟨v,rfl,sY.low ?_ ha⟩;exact hv.frame fun k h1 h2=>aj ak
 ·skip
  refine eU.env _ ?_;simp only [qa,seval]
theorem Ol {x:bh} (h:GW x):EXs x.kids:=by
 induction h with
 | mk x h1 h2 ih=>exact LP _ ih ak
theorem G6 {l:List bh} (h:∀ x∈l,GW x) (hl:l.length≤60000):EXs l:=LP l (fun x hx=>Ol (h x hx)) hl
def G7:=KB func26 83
def Mp (own:List (List V)→Nat→Nat→V→Prop):Prop:=∀ B:List (List V),∃ J v,own (B++J) B.length (B++J).length v
theorem Mp.new {own:List (List V)→Nat→Nat→V→Prop} (h:Mp own) (B:bQ) (T:eg):∃ v S',VA own B T v S':=by
 obtain ⟨J,v,h⟩:=h B;exact ⟨v,_,J,rfl,h⟩
theorem VA.split {own:List (List V)→Nat→Nat→V→Prop} {B:bQ} {T:eg} {v:V} {S':Mem} (h:VA own B T v S'):∃ M,S' = ⟨M,T⟩∧B.length≤M.length∧(∀ k,k < B.length→M[k]? = B[k]?)∧own M B.length M.length v:=by
 obtain ⟨J,rfl,h⟩:=h;exact ⟨B++J,rfl,dM,fun k hk=>bt hk,h⟩
theorem qQ.ne (sz:Nat) (rows:List (List D)) (B:bQ) (T:eg) (hl:rows.length≤9223372036854775807):∃ v S',qQ sz rows B T v S':=by
 by_cases h:rows=[]
 ·exact ⟨_,_,.inl ⟨h,rfl,rfl⟩⟩
 ·exact ⟨_,_,.inr ⟨h,rows.length,aA _,hl,rfl,rfl⟩⟩
theorem qQ.split {sz:Nat} {rows:List (List D)} {B:bQ} {T:eg} {v:V} {S':Mem} (h:qQ sz rows B T v S'):∃ M,S' = ⟨M,T⟩∧B.length≤M.length∧(∀ k,k < B.length→M[k]? = B[k]?)∧kU v=some [v]∧((rows=[]∧v = .d (.sl [])∧M=B)∨(rows ≠ []∧∃ cap J,v = .bx B.length rows.length cap∧M=B++[rows.flatten.map .d++J])):=by
 rcases h with ⟨h0,rfl,rfl⟩ | ⟨h0,cap,h1,h2,rfl,rfl⟩
 ·exact ⟨_,rfl,aA _,fun _ _=>rfl,rfl,.inl ⟨h0,rfl,rfl⟩⟩
 ·exact ⟨_,rfl,dM,fun k hk=>bt hk,rfl,.inr ⟨h0,cap,_,rfl,rfl⟩⟩
theorem xg {X A C:List V} {x:cL} {v1 v2 v3 v4 v5:V} {a:Nat} (hX:X=A++js x v1 v2 v3 v4 v5++C) (ha:A.length=a) (u:V) :
 X.take (a+5)++u :: X.drop (a+5+1)=A++js x u v2 v3 v4 v5++C∧X.take (a+6)++u :: X.drop (a+6+1)=A++js x v1 u v3 v4 v5++C∧X.take (a+7)++u :: X.drop (a+7+1)=A++js x v1 v2 u v4 v5++C ∧
  X.take (a+8)++u :: X.drop (a+8+1)=A++js x v1 v2 v3 u v5++C∧X.take (a+9)++u :: X.drop (a+9+1)=A++js x v1 v2 v3 v4 u++C:=by
 have e:X=A++(js x v1 v2 v3 v4 v5++C):=by rw [hX,aE]
 have t:∀ q,X.take (a+q)=A++(js x v1 v2 v3 v4 v5++C).take q:=fun q=>by rw [e,nI,bS ak];congr 2;omega
 have d:∀ q,X.drop (a+q)=(js x v1 v2 v3 v4 v5++C).drop q:=fun q=>by rw [e,fQ,gv ak,dO];congr 1;omega
 refine ⟨?_,?_,?_,?_,?_⟩<;>rw [t,fD,d,aE,aE]<;>rfl
theorem Ze {X A C:List V} {i:Int} {v:V} {a:Nat} (hX:X=A++[.d (.int .u64 i),v]++C) (ha:A.length=a):X[a+1]? = some v∧a+2≤X.length∧∀ u,X.take (a+1)++u :: X.drop (a+1+1)=A++[.d (.int .u64 i),u]++C:=by
 have e:X=A++([.d (.int .u64 i),v]++C):=by rw [hX,aE]
 refine ⟨?_,?_,fun u=>?_⟩
 ·rw [e,aN ak,show a+1 - A.length=1 by omega];rfl
 ·rw [e];simp;omega
 ·rw [e,nI,bS ak,fQ,gv ak,dO,show a+1 - A.length=1 by omega,show a+1+1 - A.length=2 by omega,aE,aE];rfl
theorem G8 {α:Type} {sz:Nat} {f:List (List V)→α→Nat→Nat→List V→Prop} (fr:∀ x B B' lo hi r,f B x lo hi r→(∀ i,lo≤i→i < hi→B'[i]? = B[i]?)→f B' x lo hi r) :
 ∀ (l:List α),(∀ x∈l,∀ B:List (List V),∃ J r,r.length=sz∧f (B++J) x B.length (B++J).length r)→∀ B:List (List V),∃ J X,gD sz (f (B++J)) l B.length (B++J).length X
 | [],_,B=>⟨[],[],by simp [gD]⟩
 | x :: l,h,B=>by
  obtain ⟨J1,r,h1,h2⟩:=h x aI B;obtain ⟨J2,X,h3⟩:=G8 fr l (fun y hy=>h y (aU _ hy)) (B++J1);rw [aE] at h3;exact ⟨J1++J2,r++X,r,X,(B++J1).length,rfl,h1,dM,dM,fr _ _ _ _ _ _ h2 fun i _ hi=>by rw [← aE];exact bt hi,h3⟩
theorem zn {α:Type} {sz:Nat} {f:List (List V)→α→Nat→Nat→List V→Prop} (fr:∀ x B B' lo hi r,f B x lo hi r→(∀ i,lo≤i→i < hi→B'[i]? = B[i]?)→f B' x lo hi r)
 (l:List α) (h:∀ x∈l,∀ B:List (List V),∃ J r,r.length=sz∧f (B++J) x B.length (B++J).length r):Mp fun B lo hi v=>sY (gD sz (f B) l) l.length B lo hi v:=by
 intro B
 by_cases hl:l.length=0
 ·exact ⟨[],.d (.sl []),.inl ⟨hl,rfl,dM⟩⟩
 obtain ⟨J,X,hX⟩:=G8 fr l h (B++[[]])
 have e:∀ k,B.length+1≤k→(B++X :: J)[k]? = (B++[[]]++J)[k]?:=fun k hk=>by
  rw [aN ak,aE,aN ak];obtain ⟨q,hq⟩:∃ q,k - B.length=q+1:=⟨k - B.length - 1,ak⟩;rw [hq];rfl
 refine ⟨X :: J,.bx B.length l.length l.length,.inr ⟨hl,_,_,X,rfl,aA _,dM,by rw [aN (aA _),iU];rfl,?_⟩⟩;have e2:(B++X :: J).length=(B++[[]]++J).length:=dM;rw [e2,show B.length+1=(B++[([]:List V)]).length by simp];exact hX.congr fun x _ a b r ha _ hf=>fr _ _ _ _ _ _ hf fun i hi _=>e i (by simp at ha;omega)
theorem Jd (B:bQ) (l:List bh):rz B l=gD 8 (pS B) l:=funext fun a=>funext fun b=>funext fun X=>qH B l a b X
theorem AS (B:bQ) (l:List cL):j7 B l=gD 10 (oX B) l:=funext fun a=>funext fun b=>funext fun X=>qM B l a b X
theorem LQ (B:bQ) (l:List iB):nA B l=gD 2 (qL B) l:=funext fun a=>funext fun b=>funext fun X=>qN B l a b X
theorem mkV {l:List bh} (h:∀ x∈l,Mp fun B lo hi v=>mY B x.kids lo hi v):Mp fun B lo hi v=>mY B l lo hi v:=by
 have:=zn (sz:=8) (f:=pS) (fun x B B' lo hi r hf he=>pS.frame x hf he) l fun y hy B=>by
  obtain ⟨J,v,hv⟩:=h y hy B;exact ⟨J,ef y v,rfl,pT.2 ⟨v,rfl,hv⟩⟩
 intro B;obtain ⟨J,v,hv⟩:=this B;refine ⟨J,v,?_⟩;show sY (rz (B++J) l) l.length (B++J) B.length (B++J).length v;rw [Jd];exact hv
theorem mkE {x:bh} (h:GW x):Mp fun B lo hi v=>mY B x.kids lo hi v:=by
 induction h with
 | mk x h1 h2 ih=>exact mkV ih
theorem ago {l:List bh} (h:∀ x∈l,GW x):Mp fun B lo hi v=>mY B l lo hi v:=mkV fun x hx=>mkE (h x hx)
def MkS (s:cL):Prop:=(Mp fun B lo hi v=>mY B s.cq lo hi v)∧(Mp fun B lo hi v=>mY B s.exprs lo hi v)∧(Mp fun B lo hi v=>mP B s.body lo hi v)∧(Mp fun B lo hi v=>mP B s.iS lo hi v)∧∀ c∈s.cases,Mp fun B lo hi v=>mP B c.body lo hi v
theorem aj8 {l:List iB} (h:∀ c∈l,Mp fun B lo hi v=>mP B c.body lo hi v):Mp fun B lo hi v=>tP B l lo hi v:=by
 have:=zn (sz:=2) (f:=qL) (fun x B B' lo hi r hf he=>qL.frame x hf he) l fun y hy B=>by
  obtain ⟨J,v,hv⟩:=h y hy B;exact ⟨J,_,rfl,tc.2 ⟨v,rfl,hv⟩⟩
 intro B;obtain ⟨J,v,hv⟩:=this B;refine ⟨J,v,?_⟩;show sY (nA (B++J) l) l.length (B++J) B.length (B++J).length v;rw [LQ];exact hv
theorem Zf {l:List cL} (h:∀ s∈l,MkS s):Mp fun B lo hi v=>mP B l lo hi v:=by
 have:=zn (sz:=10) (f:=oX) (fun x B B' lo hi r hf he=>oX.frame x hf he) l fun s hs B=>by
  obtain ⟨h1,h2,h3,h4,h5⟩:=h s hs;obtain ⟨J1,v1,e1⟩:=h1 B;obtain ⟨J2,v2,e2⟩:=h2 (B++J1);obtain ⟨J3,v3,e3⟩:=h3 (B++J1++J2);obtain ⟨J4,v4,e4⟩:=h4 (B++J1++J2++J3);obtain ⟨J5,v5,e5⟩:=aj8 h5 (B++J1++J2++J3++J4);refine ⟨J1++J2++J3++J4++J5,js s v1 v2 v3 v4 v5,rfl,s9.2 ⟨v1,v2,v3,v4,v5,_,_,_,_,rfl,e1.frame fun i _ hi=>?_,e2.frame fun i _ hi=>?_,e3.frame fun i _ hi=>?_,e4.frame fun i _ hi=>?_,?_⟩⟩
  ·simp only [← aE];rw [bt (by simp at hi ⊢;omega),bt (by simp at hi ⊢;omega),bt (by simp at hi ⊢;omega),bt hi]
  ·simp only [← aE];rw [bt (by simp at hi ⊢;omega),bt (by simp at hi ⊢;omega),bt hi]
  ·simp only [← aE];rw [bt (by simp at hi ⊢;omega),bt hi]
  ·simp only [← aE];rw [bt hi]
  ·simpa only [← List.append_assoc] using e5
 intro B;obtain ⟨J,v,hv⟩:=this B;refine ⟨J,v,?_⟩;show sY (j7 (B++J) l) l.length (B++J) B.length (B++J).length v;rw [AS];exact hv
theorem mkS {s:cL} (h:F3 s):MkS s:=by
 induction h with
 | mk s a1 a2 a3 a4 a5 a6 a7 a8 a9 JH JI i8 i9 i11=>exact ⟨ago a6,ago a7,Zf i8,Zf i9,fun c hc=>Zf (i11 c hc)⟩
theorem Zg (s:cL):(gE s).map V.d=js s (.d (.sl (s.cq.map eL))) (.d (.sl (s.exprs.map eL))) (.d (.sl (s.body.map gE))) (.d (.sl (s.iS.map gE))) (.d (.sl (s.cases.map lV))):=by rw [iZ];rfl
theorem Zh (c:iB):(lV c).map V.d=[.d (.int .u64 c.int),.d (.sl (c.body.map gE))]:=by rw [lN];rfl
def R7 (l:List cL):Prop:=∀ (B:bQ) (T:eg),cy prog bI 26 [.d (.sl (l.map gE))] ⟨B,T⟩ (VA (fun B lo hi v=>mP B l lo hi v) B T)
structure agp (l:List cL) (B:bQ) (yg:List V) (a:R6):Prop where
 le:a.i≤l.length
 yl:a.Y.length=a.i * 10
 bl:B.length < a.B.length
 old:∀ k,k < B.length→a.B[k]? = B[k]?
 row:a.B[B.length]? = some (a.Y++(((l.drop a.i).map gE).flatten.map V.d++yg))
 own:gD 10 (oX a.B) (l.take a.i) (B.length+1) a.B.length a.Y
structure aka (l:List iB) (M:bQ) (yg:List V) (a:R6):Prop where
 le:a.i≤l.length
 yl:a.Y.length=a.i * 2
 bl:M.length < a.B.length
 old:∀ k,k < M.length→a.B[k]? = M[k]?
 row:a.B[M.length]? = some (a.Y++(((l.drop a.i).map lV).flatten.map V.d++yg))
 own:gD 2 (qL a.B) (l.take a.i) (M.length+1) a.B.length a.Y
theorem PW {B Bi:bQ} (h6:∀ k,k < B.length→Bi[k]? = B[k]?):Bi=B++Bi.drop B.length:=by
 conv=>lhs;rw [← eX B.length Bi]
 congr 1
 refine fW fun k=>?_;rw [bp]
 split
 ·rename_i hk;exact h6 k hk
 ·rename_i hk;rw [dP ak]
theorem LR (l:List cL) (hl:∀ s∈l,MkS s∧EXs s.cq∧EXs s.exprs∧R7 s.body∧R7 s.iS∧(∀ c∈s.cases,R7 c.body)∧s.cases.length≤60000) (hlen:l.length≤60000):R7 l:=by
 intro B T;have qW:=Oi (l.map gE) (by intro r hr;obtain ⟨x,_,rfl⟩:=eu.1 hr;rw [iZ];rfl) (by rw [aS];omega) B T;refine cy.flat (cy.tQ (body:=(kF f26 0)) 83 func26 cP cP cP (cm rfl) ?_);refine az.go 160 ?_;simp only [W,seval,G7];refine kG qW ?_;rintro v S' (⟨h0,rfl,rfl⟩ | ⟨gW,cap,h1,h2,rfl,rfl⟩)
 ·obtain rfl:l=[]:=by simpa using h0
  refine goN ?_;simp only [W,seval,G7];refine az.dL (fun _:Unit=>(cN 83 [(10,.d (.int .i64 0)),(9,.d (.int .i64 0)),(0,.d (.sl []))],⟨B,T⟩)) (fun _=>True) (fun _=>0) () trivial cx rfl ?_;intro _ _ _;refine goN ?_;simp only [W,seval,G7,af (show ¬ ((0:Int) < 0) by decide)];refine az.ret func26 rfl ?_;exact ⟨[],by rw [aQ],.inl ⟨rfl,rfl,dM⟩⟩
 obtain ⟨yg,hJ⟩:∃ J,J=List.replicate ((cap - (l.map gE).length) * 10) V.undef:=⟨_,rfl⟩;rw [← hJ];rw [aS] at h1 ⊢;clear hJ qW;have Cy:l ≠ []:=by rintro rfl;exact gW rfl
 refine goN ?_;simp only [W,seval,G7,oE];refine az.dL (fun a:R6=>(cN 83 [(10,.d (.int .i64 (a.i:Int))),(9,.d (.int .i64 (l.length:Int))),(0,.bx B.length l.length cap)],⟨a.B,T⟩)) (agp l B yg) (fun a=>l.length - a.i) ⟨0,[],B++[(l.map gE).flatten.map V.d++yg]⟩ ⟨bG _,rfl,dM,fun k hk=>bt hk,by rw [gp rfl];rfl,by simp [gD]⟩ cx rfl ?_;rintro ⟨i,Y,Bi⟩ ⟨h3,h4,h5,h6,h7,h8⟩ ih;dsimp only at h3 h4 h5 h6 h7 h8 ih ⊢
 by_cases bu:i < l.length
 case neg =>
  have e2:decide ((i:Int) < (l.length:Int))=false:=af ak;obtain rfl:i=l.length:=ak;refine goN ?_;simp only [W,seval,G7,e2];refine az.ret func26 rfl ?_;rw [fR] at h8;have hB:=PW h6;refine ⟨Bi.drop B.length,by rw [← hB],.inr ⟨fun e=>Cy (aM e),B.length,cap,_,rfl,aA _,by rw [← hB];exact h5,by rw [← hB];exact h7,?_⟩⟩;rw [← hB,qM];exact h8.tail _
 have e2:decide ((i:Int) < (l.length:Int))=true:=ah ak;have ie:=bE ((i:Int)+1) ak;have gV:(i:Int) < (l.length:Int):=ak;obtain ⟨s,hs⟩:=aV (l[i]);obtain ⟨⟨m1,m2,m3,m4,m5⟩,q1,q2,q3,q4,q5,q6⟩:=hl l[i] (aH bu);rw [hs] at m1 m2 m3 m4 m5 q1 q2 q3 q4 q5 q6;rw [aJ bu,hs,cw,gM,cr,Zg,aE,← aE] at h7;obtain ⟨C,hC⟩:∃ C,C=((l.drop (i+1)).map gE).flatten.map V.d++yg:=⟨_,rfl⟩;rw [← hC] at h7;obtain ⟨Z,hZ⟩:∃ Z,Z=Y++js s (.d (.sl (s.cq.map eL))) (.d (.sl (s.exprs.map eL))) (.d (.sl (s.body.map gE))) (.d (.sl (s.iS.map gE))) (.d (.sl (s.cases.map lV)))++C:=⟨_,rfl⟩;rw [← hZ] at h7;obtain ⟨_,_,x5,x6,x7,x8,x9,_,_,sC,_⟩:=nK hZ h4;refine goN ?_;simp only [W,seval,G7,oE,e2,gV];refine dj 30 [] [B.length] ?_;simp (maxSteps:=4000000) only [W,seval,G7,xw,oE,h7,x5,x6,x7,x8,x9,sC];have Wm:=fun M=>Oj (s.cases.map lV) (by intro r hr;obtain ⟨x,_,rfl⟩:=eu.1 hr;rw [lN];rfl) (by rw [aS];omega) M T;refine iO (m1.new Bi T) (q1 Bi T) ?_;intro v1 S1 n1;obtain ⟨M1,rfl,l1,p1,o1⟩:=n1.split;have b1:B.length < M1.length:=ak;have r1:M1[B.length]? = some Z:=(p1 _ h5).trans h7;refine ⟨⟨r1.trans h7.symm,trivial⟩,?_⟩;simp (maxSteps:=4000000) only [W,seval,G7,xw,oE,r1,x5,x6,x7,x8,x9,sC];refine iO (m2.new M1 T) (q2 M1 T) ?_;intro v2 S2 n2;obtain ⟨M2,rfl,l2,p2,o2⟩:=n2.split;have b2:B.length < M2.length:=ak;have r2:M2[B.length]? = some Z:=(p2 _ b1).trans r1;refine ⟨⟨r2.trans h7.symm,trivial⟩,?_⟩;simp (maxSteps:=4000000) only [W,seval,G7,xw,oE,r2,x5,x6,x7,x8,x9,sC];refine iO (m3.new M2 T) (q3 M2 T) ?_;intro v3 S3 n3;obtain ⟨M3,rfl,l3,p3,o3⟩:=n3.split;have b3:B.length < M3.length:=ak;have r3:M3[B.length]? = some Z:=(p3 _ b2).trans r2;refine ⟨⟨r3.trans h7.symm,trivial⟩,?_⟩;simp (maxSteps:=4000000) only [W,seval,G7,xw,oE,r3,x5,x6,x7,x8,x9,sC];refine iO (m4.new M3 T) (q4 M3 T) ?_;intro v4 S4 n4;obtain ⟨M4,rfl,l4,p4,o4⟩:=n4.split;have b4:B.length < M4.length:=ak;have r4:M4[B.length]? = some Z:=(p4 _ b3).trans r3;refine ⟨⟨r4.trans h7.symm,trivial⟩,?_⟩;simp (maxSteps:=4000000) only [W,seval,G7,xw,oE,r4,x5,x6,x7,x8,x9,sC];refine iO (qQ.ne _ _ _ _ (by rw [aS];omega)) (Wm M4) ?_;intro v5 S5 n5;obtain ⟨M5,rfl,l5,p5,c5,d5⟩:=n5.split;have b5:B.length < M5.length:=ak;have r5:M5[B.length]? = some Z:=(p5 _ b4).trans r4;refine ⟨⟨r5.trans h7.symm,trivial⟩,?_⟩;obtain ⟨Z1,hZ1⟩:∃ X,X=Y++js s v1 (.d (.sl (s.exprs.map eL))) (.d (.sl (s.body.map gE))) (.d (.sl (s.iS.map gE))) (.d (.sl (s.cases.map lV)))++C:=⟨_,rfl⟩;obtain ⟨Z2,hZ2⟩:∃ X,X=Y++js s v1 v2 (.d (.sl (s.body.map gE))) (.d (.sl (s.iS.map gE))) (.d (.sl (s.cases.map lV)))++C:=⟨_,rfl⟩;obtain ⟨Z3,hZ3⟩:∃ X,X=Y++js s v1 v2 v3 (.d (.sl (s.iS.map gE))) (.d (.sl (s.cases.map lV)))++C:=⟨_,rfl⟩;obtain ⟨Z4,hZ4⟩:∃ X,X=Y++js s v1 v2 v3 v4 (.d (.sl (s.cases.map lV)))++C:=⟨_,rfl⟩;obtain ⟨Z5,hZ5⟩:∃ X,X=Y++js s v1 v2 v3 v4 v5++C:=⟨_,rfl⟩;have e1:=(xg hZ h4 v1).1.trans hZ1.symm;have e2:=(xg hZ1 h4 v2).2.1.trans hZ2.symm;have e3:=(xg hZ2 h4 v3).2.2.1.trans hZ3.symm;have e4:=(xg hZ3 h4 v4).2.2.2.1.trans hZ4.symm;have e5:=(xg hZ4 h4 v5).2.2.2.2.trans hZ5.symm;have y6:i * 10+6≤Z.length:=ak;have y7:i * 10+7≤Z1.length:=by have:=(nK hZ1 h4).2.2.2.2.2.2.2.2.2.1;omega
 have y8:i * 10+8≤Z2.length:=by have:=(nK hZ2 h4).2.2.2.2.2.2.2.2.2.1;omega
 have y9:i * 10+9≤Z3.length:=by have:=(nK hZ3 h4).2.2.2.2.2.2.2.2.2.1;omega
 have y10:i * 10+10≤Z4.length:=by have:=(nK hZ4 h4).2.2.2.2.2.2.2.2.2.1;omega
 have cv1:=sY.cells o1;have cv2:=sY.cells o2;have cv3:=sY.cells o3;have cv4:=sY.cells o4;have s1:∀ X,(M5.set B.length X)[B.length]? = some X:=fun X=>aC b5;simp (maxSteps:=4000000) only [W,seval,G7,xw,oE,r5,h7,cv1,cv2,cv3,cv4,c5,e1,e2,e3,e4,e5,y6,y7,y8,y9,y10,s1];clear e1 e2 e3 e4 e5 y6 y7 y8 y9 y10 hZ1 hZ2 hZ3 hZ4 Z1 Z2 Z3 Z4 cv1 cv2 cv3 cv4 c5 x5 x6 x7 x8 x9 sC Wm r5 r4 r3 r2 r1;have z9:Z5[i * 10+9]? = some v5:=(nK hZ5 h4).2.2.2.2.2.2.1;have sub:∀ k,k < M4.length→k ≠ B.length→(M4.set B.length Z5)[k]? = M4[k]?:=fun k _ hk=>aj (jk hk)
 have fin:∀ B':List (List V),M4.length≤B'.length→(∀ k,k < M4.length→B'[k]? = (M4.set B.length Z5)[k]?)→tP B' s.cases M4.length B'.length v5→agp l B yg ⟨i+1,Y++js s v1 v2 v3 v4 v5,B'⟩:=by
  intro B' f1 f2 f3;have hq:∀ k,k < M4.length→k ≠ B.length→B'[k]? = M4[k]?:=fun k a b=>(f2 k a).trans (sub k a b);refine ⟨bu,?_,?_,?_,?_,?_⟩
  ·show (Y++js s v1 v2 v3 v4 v5).length=(i+1) * 10;rw [av,h4];show i * 10+10=_;omega
  ·show B.length < B'.length;omega
  ·intro k hk;show B'[k]? = B[k]?;rw [hq k ak ak,p4 k ak,p3 k ak,p2 k ak,p1 k ak,h6 k hk]
  ·show B'[B.length]? = _;rw [f2 _ b4,aC b4,hZ5,aE,← hC];simp only [aE]
  ·show gD 10 (oX B') (l.take (i+1)) (B.length+1) B'.length (Y++js s v1 v2 v3 v4 v5);rw [bF bu,hs];refine gD.snoc (sz:=10) (m:=Bi.length) (f:=oX B') rfl ak (fun a ha=>?_) (h8.congr fun y _ a b r ha hb hf=>oX.frame y hf fun k h1 h2=>by rw [hq k ak ak,p4 k ak,p3 k ak,p2 k ak,p1 k ak]) (by rw [h4,cg,mO h3]);refine s9.2 ⟨v1,v2,v3,v4,v5,_,_,_,_,rfl,sY.low (o1.frame fun k h1 h2=>?_) ha,o2.frame fun k h1 h2=>?_,o3.frame fun k h1 h2=>?_,o4.frame fun k h1 h2=>?_,f3⟩
   ·rw [hq k ak ak,p4 k ak,p3 k ak,p2 k ak]
   ·rw [hq k ak ak,p4 k ak,p3 k ak]
   ·rw [hq k ak ak,p4 k ak]
   ·rw [hq k ak ak]
 rcases d5 with ⟨h50,rfl,rfl⟩ | ⟨h50,afV,J5,rfl,rfl⟩
 ·have we:s.cases=[]:=by simpa using h50
  refine goN ?_;simp only [W,seval,G7,oE,s1,z9];refine az.dL (fun _:Unit=>(cN 83 [(61,.d (.int .i64 0)),(60,.d (.int .i64 0)),(10,.d (.int .i64 (i:Int))),(9,.d (.int .i64 (l.length:Int))),(0,.bx B.length l.length cap)],⟨M5.set B.length Z5,T⟩)) (fun _=>True) (fun _=>0) () trivial cx rfl ?_;intro _ _ _;refine goN ?_;simp only [W,seval,G7,af (show ¬ ((0:Int) < 0) by decide),ie];refine ih _ (fin _ (by rw [aG];exact aA _) (fun _ _=>rfl) (.inl ⟨by rw [we];rfl,rfl,by rw [aG];exact aA _⟩)) gP _ _ ?_ rfl
  ·skip
   refine eU.env _ ?_;simp only [qa,seval]
 have we:s.cases ≠ []:=fun e=>h50 (by rw [e];rfl);rw [aS] at fin z9 hZ5 ⊢;have hm:(M4++[((s.cases.map lV).flatten.map V.d)++J5]).set B.length Z5=M4.set B.length Z5++[((s.cases.map lV).flatten.map V.d)++J5]:=gT _ _ b4;have z1:=s1 Z5;clear s1;rw [hm] at z1 ⊢;clear hm;obtain ⟨M,hM⟩:∃ M,M=M4.set B.length Z5:=⟨_,rfl⟩;have hML:M.length=M4.length:=by rw [hM,aG]
 rw [← hM] at fin z1 ⊢;rw [← hML] at fin z9 ⊢;have bM:B.length < M.length:=ak;have zM:M[B.length]? = some Z5:=by rw [bt bM] at z1;exact z1
 clear sub o1 o2 o3 o4 p1 p2 p3 p4 p5 h8 hM;refine goN ?_;simp only [W,seval,G7,oE,z1,z9];refine az.dL (fun a:R6=>(cN 83 [(61,.d (.int .i64 (a.i:Int))),(60,.d (.int .i64 (s.cases.length:Int))),(4,.ptr B.length (i * 10)),(10,.d (.int .i64 (i:Int))),(9,.d (.int .i64 (l.length:Int))),(0,.bx B.length l.length cap)],⟨a.B,T⟩)) (aka s.cases M J5) (fun a=>s.cases.length - a.i) ⟨0,[],M++[(s.cases.map lV).flatten.map V.d++J5]⟩ ⟨bG _,rfl,dM,fun k hk=>bt hk,by rw [gp rfl];rfl,by simp [gD]⟩ cx rfl ?_;rintro ⟨j,Yc,Bj⟩ ⟨g3,g4,g5,g6,g7,g8⟩ o8;dsimp only at g3 g4 g5 g6 g7 g8 o8 ⊢
 by_cases Je:j < s.cases.length
 case neg =>
  have e3:decide ((j:Int) < (s.cases.length:Int))=false:=af ak;obtain rfl:j=s.cases.length:=ak;refine goN ?_;simp only [W,seval,G7,e3,ie];rw [fR] at g8;refine ih _ (fin Bj ak (fun k hk=>g6 k hk) (.inr ⟨fun e=>we (aM e),M.length,afV,_,rfl,aA _,g5,g7,?_⟩)) gP _ _ ?_ rfl
  ·rw [qN];exact g8.tail _
  ·skip
   refine eU.env _ ?_;simp only [qa,seval]
 have e3:decide ((j:Int) < (s.cases.length:Int))=true:=ah ak;have uU:=bE ((j:Int)+1) ak;have WM:(j:Int) < (s.cases.length:Int):=ak;obtain ⟨c,hc⟩:=aV (s.cases[j]);have DD:c∈s.cases:=hc ▸ aH Je;rw [aJ Je,hc,cw,gM,cr,Zh,aE,← aE] at g7;obtain ⟨C2,hC2⟩:∃ C,C=((s.cases.drop (j+1)).map lV).flatten.map V.d++J5:=⟨_,rfl⟩;rw [← hC2] at g7;obtain ⟨Zc,hZc⟩:∃ Z,Z=Yc++[.d (.int .u64 c.int),.d (.sl (c.body.map gE))]++C2:=⟨_,rfl⟩;rw [← hZc] at g7;obtain ⟨w1,w2,w3⟩:=Ze hZc g4;have gB:Bj[B.length]? = some Z5:=(g6 _ bM).trans zM;refine goN ?_;simp only [W,seval,G7,oE,e3,WM];refine dj 14 [] [B.length,M.length] ?_;simp (maxSteps:=4000000) only [W,seval,G7,xw,oE,gB,z9,g7,w1,w2,WM];refine iO ((m5 c DD).new Bj T) (q5 c DD Bj T) ?_;intro v6 S6 n6;obtain ⟨M6,rfl,l6,p6,o6⟩:=n6.split;have k1:M6[B.length]? = some Z5:=(p6 _ ak).trans gB;have k2:M6[M.length]? = some Zc:=(p6 _ g5).trans g7;refine ⟨⟨k1.trans gB.symm,k2.trans g7.symm,trivial⟩,?_⟩;have cv6:=sY.cells o6;simp (maxSteps:=4000000) only [W,seval,G7,xw,oE,k1,k2,z9,w1,w2,w3,WM,cv6,uU];refine ⟨⟨gB.symm,g7.symm⟩,?_⟩;refine goN ?_;simp only [W,seval,G7,uU];obtain ⟨Q,hQ⟩:∃ Q,Q=Yc++V.d (.int .u64 c.int) :: v6 :: C2:=⟨_,rfl⟩;rw [← hQ];have hlM:M.length < M6.length:=ak;have hq6:∀ k,k < Bj.length→k ≠ M.length→(M6.set M.length Q)[k]? = Bj[k]?:=fun k a b=>by rw [aj (jk b),p6 k a]
 refine o8 ⟨j+1,Yc++[.d (.int .u64 c.int),v6],M6.set M.length Q⟩ ⟨Je,?_,?_,?_,?_,?_⟩ gP _ _ ?_ rfl
 ·show (Yc++[V.d (.int .u64 c.int),v6]).length=(j+1) * 2;rw [av,g4];show j * 2+2=_;omega
 ·show M.length < (M6.set M.length Q).length;rw [aG];exact hlM
 ·exact fun k hk=>(hq6 k ak ak).trans (g6 k hk)
 ·show (M6.set M.length Q)[M.length]? = _;rw [aC hlM,hQ,← hC2,aE];rfl
 ·show gD 2 (qL (M6.set M.length Q)) (s.cases.take (j+1)) (M.length+1) (M6.set M.length Q).length (Yc++[V.d (.int .u64 c.int),v6]);rw [bF Je,hc,aG];refine gD.snoc (sz:=2) (m:=Bj.length) (f:=qL (M6.set M.length Q)) rfl ak (fun a ha=>?_) (g8.congr fun y _ a b r ha hb hf=>qL.frame y hf fun k h1 h2=>hq6 k ak ak) (by rw [g4,cg,mO g3]);refine tc.2 ⟨v6,rfl,sY.low (o6.frame fun k h1 h2=>?_) ha⟩;exact aj ak
 ·skip
  refine eU.env _ ?_;simp only [qa,seval]
theorem Om {s:cL} (h:F3 s):R7 s.body∧R7 s.iS∧∀ c∈s.cases,R7 c.body:=by
 induction h with
 | mk s a1 a2 a3 a4 a5 a6 a7 a8 a9 JH JI i8 i9 i11 =>
  have key:∀ l:List cL,(∀ y∈l,F3 y)→(∀ y∈l,R7 y.body∧R7 y.iS∧∀ c∈y.cases,R7 c.body)→l.length≤60000→R7 l:=fun l a b c =>
   LR l (fun y hy=>by
    obtain ⟨k1,k2,k3⟩:=b y hy;refine ⟨mkS (a y hy),?_,?_,k1,k2,k3,by have:=(a y hy).cases;omega⟩<;>(cases a y hy with | mk _ e1 e2 e3 e4 e5 e6 e7 e8 e9 GR e11=>exact G6 (by assumption) ak)) c
  exact ⟨key _ a8 i8 ak,key _ a9 i9 ak,fun c hc=>key _ (JI c hc) (i11 c hc) (by have:=JH c hc;omega)⟩
theorem R8 {l:List cL} (h:∀ s∈l,F3 s) (hl:l.length≤60000):R7 l :=
 LR l (fun y hy=>by
  obtain ⟨k1,k2,k3⟩:=Om (h y hy);refine ⟨mkS (h y hy),?_,?_,k1,k2,k3,by have:=(h y hy).cases;omega⟩<;>(cases h y hy with | mk _ e1 e2 e3 e4 e5 e6 e7 e8 e9 GR e11=>exact G6 (by assumption) ak)) hl
structure F5 (B:bQ) (c s f:Nat) (xx yy:V) (E:fm):Prop where
 c:B[c]? = some [.mp s,.mp f,xx,yy]
 s:B[s]? = some (vU E.su)
 f:B[f]? = some (vV E.fu)
section
variable {E:fm} {c s f:Nat} {xx yy:V} {B B':bQ} {T:eg}
theorem F5.lt (h:F5 B c s f xx yy E):c < B.length∧s < B.length∧f < B.length :=
 ⟨(ai.1 h.c).1,(ai.1 h.s).1,(ai.1 h.f).1⟩
theorem F5.jC (h:F5 B c s f xx yy E) (hc:B'[c]? = B[c]?) (hs:B'[s]? = B[s]?) (hf:B'[f]? = B[f]?):F5 B' c s f xx yy E :=
 ⟨by rw [hc];exact h.c,by rw [hs];exact h.s,by rw [hf];exact h.f⟩
theorem F5.more (h:F5 B c s f xx yy E) (J:bQ):F5 (B++J) c s f xx yy E :=
 h.jC (bt h.lt.1) (bt h.lt.2.1) (bt h.lt.2.2)
theorem F5.EA (h:F5 B c s f xx yy E) (n:List UInt8) (ok:Bool) (J:bQ) (T:eg):jm prog ⟨B++J,T⟩ 60 (.mp s) (.d (.str n)) ok=some (nr Ys ((kK eZ.name E.su n).map KX) ok):=AE UY (h.more J).s n ok
theorem F5.PB (h:F5 B c s f xx yy E) (n:List UInt8) (ok:Bool) (J:bQ) (T:eg):jm prog ⟨B++J,T⟩ 61 (.mp f) (.d (.str n)) ok=some (nr fuZ ((kK fL.name E.fu n).map KY) ok):=AE UZ (h.more J).f n ok
theorem Jf (n:List UInt8) (h:F5 B c s f xx yy E):cy prog bI 64 [.ptr c 0,.d (.str n)] ⟨B,T⟩ (cF (.d (.bool (ku E.su E.fu n))) ⟨B,T⟩):=by
 obtain ⟨N,hn⟩:=aV B.length;have hi:c < N:=by rw [← hn];exact h.lt.1
 have hb:=h.c;have hs:=h.EA n true [] T;rw [aQ] at hs;have hf:=h.PB n true
 have vI:ku E.su E.fu n=((kK eZ.name E.su n).isNone && (kK fL.name E.fu n).isNone && !(decide (n=[95]))):=by
  unfold ku
  congr 2
  rw [dQ];simp
 rw [vI];cases h1:kK eZ.name E.su n<;>cases h2:kK fL.name E.fu n<;>rw [h1] at hs<;>rw [h2] at hf<;>simp only [Go.Ab.nr,cJ,jh,gj,Ys,fuZ,KX,KY] at hs hf
 all_goals
  refine zR b64 ?_;simp only [W,seval,b64,vZ,hn,hi,hb,hs,hf,aK,aO,Bool.true_eq_false,cS];refine bN b64 (Left.box ?_);exact ⟨rfl,rfl⟩
theorem BY {t:bJ} (ht:TW t) (h:F5 B c s f xx yy E):cy prog bI 68 [.ptr c 0,cH t] ⟨B,T⟩ (cF (.d (.bool (dH E.su t))) ⟨B,T⟩):=by
 obtain ⟨N,hn⟩:=aV B.length;have hi:c < N:=by rw [← hn];exact h.lt.1
 have sI:s < N:=by rw [← hn];exact h.lt.2.1
 have Mm:=h.s;have hb:=h.c;unfold cH;refine gL JG fun cG=>?_;simp only [fH] at cG;simp only [W,seval,JG,hn];refine az.dL (fun a:bJ=>(cN 30 [(0,.ptr c 0),(3,.ptr N 0)],⟨B++[jr a],T⟩)) (fun a=>TW a∧dH E.su a=dH E.su t) (fun a=>SizeOf.sizeOf a) t ⟨ht,rfl⟩ cx rfl ?_;rintro a ⟨ha,h2⟩ ih;cases ha with
 | sl n u hu =>
  rw [BQ] at h2;refine goN ?_;simp only [W,seval,JG,hn,jr,bJ.kind,bJ.name,bJ.elem,cR,bC,bL,eK];exact ih u ⟨hu,h2⟩ fk _ _ cx rfl
 | leaf k n es hk =>
  have e8:=af hk;rw [wV _ _ _ _ hk] at h2;rw [← h2];have hs:=h.EA n true;clear ih h2;cases h1:kK eZ.name E.su n<;>rw [h1] at hs<;>simp only [Go.Ab.nr,cJ,jh,gj,Ys,KX] at hs
  all_goals
   refine goN ?_;simp only [W,seval,JG,hn,jr,bJ.kind,bJ.name,bJ.elem,e8];refine dj 11 [] [c,s,N] ?_;simp (maxSteps:=4000000) only [W,seval,JG,xw,vZ,hn,hi,hb,hs,sI,Mm]
   by_cases h7:k=7
   ·have e7:=ah h7;refine goN ?_;simp only [W,seval,JG,vZ,hn,e7,aK];refine bN JG (Left.box ?_);simp only [h7];exact ⟨rfl,rfl⟩
   ·have e7:=af h7;refine goN ?_;simp only [W,seval,JG,vZ,hn,e7,aO];refine bN JG (Left.box ?_)
    try rw [show decide (k ≠ 7)=true from ah h7]
    exact ⟨rfl,rfl⟩
end
def WN:=KB func65 43
theorem aaG:H8 prog 67 1=some (37,1):=cP
def LS (met:List (List UInt8)):List V:=[.vY met (met.map fun _=>.d (.bool true))]
theorem agq:yo prog 120=some (.d (.bool false)):=cP
theorem E4 (n:List UInt8):∀ l:List (List UInt8),(match rI l n with
 | some j=>l.contains n=true∧j < l.length
 | none=>l.contains n=false)
 | []=>rfl
 | x :: l=>by
  have ih:=E4 n l;rw [rI]
  by_cases h:x=n
  ·rw [aD h];exact ⟨by simp [h],dM⟩
  ·rw [aq h];have hc:(x :: l).contains n=l.contains n:=by simp [jk h]
   cases hk:rI l n with
   | none=>rw [hk] at ih;exact hc.trans ih
   | some j=>rw [hk] at ih;exact ⟨hc.trans ih.1,by have:=ih.2;simp;omega⟩
theorem aaH {met:List (List UInt8)} {B:bQ} {T:eg} {i:Nat} (hb:B[i]? = some (LS met)) (n:List UInt8):jm prog ⟨B,T⟩ 120 (.mp i) (.d (.str n)) false=some (.d (.bool (met.contains n))):=by
 have:=E4 n met;unfold jm;unfold LS at hb;simp only [agq,hb,JT];cases hk:rI met n with
 | none=>rw [hk] at this;rw [this];rfl
 | some j =>
  rw [hk] at this;rw [this.1];have:(met.map fun _=>V.d (.bool true))[j]? = some (.d (.bool true)):=by rw [aL,au this.2];rfl
  dsimp only;rw [this];rfl
theorem akc {met:List (List UInt8)} {B:bQ} {T:eg} {i:Nat} (hb:B[i]? = some (LS met)) {n:List UInt8} (hn:met.contains n=false):l9 prog ⟨B,T⟩ 120 (.mp i) (.d (.str n)) (.d (.bool true))=some (.undef,⟨B.set i (LS (met++[n])),T⟩):=by
 have:=E4 n met;unfold l9;unfold LS at hb;simp only [agq,hb,H6];cases hk:rI met n with
 | some j=>rw [hk] at this;rw [this.1] at hn;cases hn
 | none =>
  unfold LS;simp
def xh (f:List (List UInt8)→List UInt8→List (List UInt8)) (met:List (List UInt8)) (p:ep):List (List UInt8):=if decide (p.type.kind=7) && !met.contains p.type.name then f (met++[p.type.name]) p.type.name else met
def oZ (su:List eZ):Nat→List (List UInt8)→List UInt8→List (List UInt8)
 | 0,met,_=>met
 | k+1,met,n=>(vX su n).foldl (xh (oZ su k)) met
def oR (su:List eZ):List (List UInt8):=su.flatMap fun s=>s.fields.map fun p=>p.type.name
def nN (su:List eZ) (met:List (List UInt8)):Nat:=(oR su).countP fun x=>!met.contains x
theorem Jg {su:List eZ} {met:List (List UInt8)} {n:List UInt8} (hn:n∈oR su) (hm:met.contains n=false):nN su (met++[n]) < nN su met:=by
 unfold nN;generalize oR su=l at hn
 induction l with
 | nil=>cases hn
 | cons x l ih =>
  have hle:∀ l:List (List UInt8),l.countP (fun x=>!(met++[n]).contains x)≤l.countP fun x=>!met.contains x:=fun l=>qh fun y _ hy=>by simp at hy ⊢;exact hy.1
  rw [List.countP_cons,List.countP_cons]
  by_cases hx:x=n
  ·subst hx;have:=hle l;rw [hm];simp at this ⊢;omega
  ·have:=ih (by simpa [Ne.symm hx] using hn);have e:(met++[n]).contains x=met.contains x:=by simp [hx]
   rw [e];omega
theorem E5 {su:List eZ} {n:List UInt8} {p:ep} (h:p∈vX su n):p.type.name∈oR su:=by
 unfold vX at h
 split at h
 ·rename_i s hs
  have:s∈su:=by
   clear h
   induction su with
   | nil=>cases hs
   | cons x l ih =>
    rw [kK] at hs
    split at hs
    ·obtain rfl:=ag hs;exact aI
    ·exact aU _ (ih hs)
  exact List.mem_flatMap.2 ⟨s,this,eu.2 ⟨p,h,rfl⟩⟩
 ·cases h
theorem G9 (su:List eZ):∀ (k:Nat) (met:List (List UInt8)) (n:List UInt8),∃ J,oZ su k met n=met++J
 | 0,met,_=>⟨[],by simp [oZ]⟩
 | k+1,met,n=>by
  rw [oZ];generalize vX su n=l
  induction l generalizing met with
  | nil=>exact ⟨[],dM⟩
  | cons p l ih =>
   rw [dc];obtain ⟨J,hJ⟩:=ih (xh (oZ su k) met p);rw [hJ];unfold xh
   split
   ·obtain ⟨J2,h2⟩:=G9 su k (met++[p.type.name]) p.type.name;rw [h2];exact ⟨[p.type.name]++J2++J,dM⟩
   ·exact ⟨J,rfl⟩
theorem VB (su:List eZ) (met J:List (List UInt8)):nN su (met++J)≤nN su met:=qh fun y _ hy=>by simp at hy ⊢;exact hy.1
structure akd where
 i:Nat
 met:List (List UInt8)
 J:List (List V)
theorem Zi (met:List (List UInt8)) (n m:Nat):(LS met).all (fit n m)=true:=by
 unfold LS;simp only [iH,sk,gU];show qq n m _=true;rw [kH];intro j hj;simp [fit]
section
variable {E:fm} {c s f:Nat} {xx yy:V}
theorem On (hT:mh E.su E.fu):∀ (k:Nat) (met:List (List UInt8)) (n:List UInt8) (B:bQ) (T:eg) (m:Nat),nN E.su met≤k→F5 B c s f xx yy E→B[m]? = some (LS met)→c ≠ m∧s ≠ m∧f ≠ m →
 cy prog bI 65 [.ptr c 0,.d (.str n),.mp m] ⟨B,T⟩ fun _ S'=>S' = ⟨B.set m (LS (oZ E.su (k+1) met n)),T⟩:=by
 intro k
 induction k using Nat.strongRecOn with
 | _ k ihk =>
 intro met n B T m uV hK hm gW;obtain ⟨N,hn⟩:=aV B.length;have hi:c < N:=by rw [← hn];exact hK.lt.1
 have hml:m < N:=by rw [← hn];exact (ai.1 hm).1
 have hb:=hK.c;have hs:=hK.EA n false [] T;rw [aQ] at hs;have sN:B.set m (LS met)=B:=w7 _ _ _ hm;generalize nQ:oZ E.su (k+1) met n=fin;rw [oZ] at nQ;cases h1:kK eZ.name E.su n with
 | none =>
  rw [h1] at hs;simp only [Go.Ab.nr,jh,Ys,cS,iF] at hs;have hf:vX E.su n=[]:=by unfold vX;rw [h1]
  rw [hf] at nQ;have nQ:met=fin:=nQ;refine gL WN fun cG=>?_;simp only [fH] at cG;simp only [W,seval,WN,vZ,hn,hi,hb,hs,wq,aaG];refine az.dL (fun _:Unit=>(cN 43 [(16,.d (.int .i64 0)),(15,.d (.int .i64 0))],⟨B,T⟩)) (fun _=>True) (fun _=>0) () trivial cx rfl ?_;intro _ _ _;refine goN ?_;simp only [W,seval,WN,af (show ¬ ((0:Int) < 0) by decide)];refine az.fin func65 rfl (Left.none ?_);rw [← nQ,sN]
 | some st =>
  rw [h1] at hs;simp only [Go.Ab.nr,cJ,KX,cS,iF] at hs;have hf:vX E.su n=st.fields:=by unfold vX;rw [h1]
  have C7:∀ p∈st.fields,p.type.name∈oR E.su:=fun p hp=>E5 (n:=n) (by rw [hf];exact hp);have hlen:st.fields.length≤60000:=(hT.fl st (xM _ h1)).1;rw [hf] at nQ;refine gL WN fun cG=>?_;simp only [fH] at cG;simp only [W,seval,WN,vZ,hn,hi,hb,hs,wq,aaG];refine az.dL (fun a:akd=>(cN 43 [(0,.ptr c 0),(2,.mp m),(14,.d (.sl (st.fields.map jK))),(15,.d (.int .i64 (st.fields.length:Int))),(16,.d (.int .i64 (a.i:Int)))],⟨B.set m (LS a.met)++a.J,T⟩)) (fun a=>a.i≤st.fields.length∧(st.fields.drop a.i).foldl (xh (oZ E.su k)) a.met=fin∧nN E.su a.met≤k) (fun a=>st.fields.length - a.i) ⟨0,met,[]⟩ ⟨bG _,nQ,uV⟩ cx (by rw [aQ,sN]) ?_;rintro ⟨i,mt,J⟩ ⟨h2,h3,h4⟩ ih;dsimp only at h2 h3 h4 ih ⊢
  by_cases bu:i < st.fields.length
  case neg =>
   have e2:decide ((i:Int) < (st.fields.length:Int))=false:=af ak;rw [ay ak] at h3;have h3:mt=fin:=h3;refine goN ?_;simp only [W,seval,WN,e2];refine az.fin func65 rfl (Left.set (Zi _ _ _) ?_);rw [h3]
  have e2:decide ((i:Int) < (st.fields.length:Int))=true:=ah ak;have ie:=bE ((i:Int)+1) ak;have gV:(i:Int) < (st.fields.length:Int):=ak;obtain ⟨p,hp⟩:=aV (st.fields[i]);have hg:(st.fields.map jK)[i]? = some (jK p):=by rw [aL,au bu,hp];rfl
  rw [qB] at hg;rw [aJ bu,hp,dc] at h3;obtain ⟨BJ,xS⟩:∃ BJ,BJ=B.set m (LS mt)++J:=⟨_,rfl⟩;obtain ⟨L,hL⟩:=aV BJ.length;rw [← xS];have hmB:BJ[m]? = some (LS mt):=by rw [xS,bk (by rw [aG];omega),aC ak]
  have hmL:m < L:=by rw [← hL];exact (ai.1 hmB).1
  obtain ⟨row,bW⟩:∃ row,row=[V.d (.str p.name),.d (.int .i64 p.type.kind),.d (.str p.type.name),.d (.sl (p.type.elem.map eH))]:=⟨_,rfl⟩;cases h7:decide (p.type.kind=7)
  case false =>
   have hF:xh (oZ E.su k) mt p=mt:=by unfold xh;rw [h7,Bool.false_and];rfl
   rw [hF] at h3;refine goN ?_;simp only [W,seval,WN,vZ,e2,hg,gV,bu,hL,h7,ie];exact ih ⟨i+1,mt,J++[row]⟩ ⟨bu,h3,h4⟩ gP _ _ cx (by rw [xS,aE,← bW])
  have Zj:∀ (J2:bQ),jm prog ⟨BJ++J2,T⟩ 120 (.mp m) (.d (.str p.type.name)) false=some (.d (.bool (mt.contains p.type.name))):=fun J2=>aaH (by rw [bt ak];exact hmB) _;cases hc:mt.contains p.type.name
  case true =>
   have hF:xh (oZ E.su k) mt p=mt:=by unfold xh;rw [hc];simp
   rw [hF] at h3;rw [hc] at Zj;refine goN ?_;simp only [W,seval,WN,vZ,e2,hg,gV,bu,hL,h7,ie,Zj];exact ih ⟨i+1,mt,J++[row]⟩ ⟨bu,h3,h4⟩ gP _ _ cx (by rw [xS,aE,← bW])
  have hpm:=C7 p (hp ▸ aH bu);have hms:=Jg hpm hc;have hF:xh (oZ E.su k) mt p=oZ E.su k (mt++[p.type.name]) p.type.name:=by unfold xh;rw [hc,h7];rfl
  rw [hF] at h3;rw [hc] at Zj
  have kz:∀ (X:List V) (J2:bQ),(BJ++J2).set m X=B.set m X++(J++J2):=fun X J2=>by
   rw [xS,aE,gT _ _ (by rw [aG];omega),jy]
  obtain ⟨BM,hBM⟩:∃ BM,BM=B.set m (LS (mt++[p.type.name]))++J:=⟨_,rfl⟩;have hBL:BM.length=L:=by rw [hBM,← hL,xS];simp
  have hpt:∀ (J2:bQ),l9 prog ⟨BJ++J2,T⟩ 120 (.mp m) (.d (.str p.type.name)) (.d (.bool true))=some (.undef,⟨BM++J2,T⟩):=fun J2=>by
   rw [akc (by rw [bt ak];exact hmB) hc,kz,hBM,aE]
  obtain ⟨k',rfl⟩:∃ k',k=k' + 1:=⟨k - 1,ak⟩
  have hold:∀ q,q ≠ m→q < N→(BM++[row])[q]? = B[q]?:=fun q h1 h2=>by
   have:=hK.lt;rw [bt (by rw [hBM,av,aG];omega),hBM,bk (by rw [aG];omega),aj (jk h1)]
  have aof:=hK.lt;obtain ⟨d1,d2,d3⟩:=gW
  have yx:=ihk k' ak (mt++[p.type.name]) p.type.name (BM++[row]) T m ak (hK.jC (hold _ d1 ak) (hold _ d2 ak) (hold _ d3 ak)) (by
   rw [bt ak,hBM,bk (by rw [aG];omega),aC ak]) ⟨d1,d2,d3⟩
  have VC:nN E.su (oZ E.su (k' + 1) (mt++[p.type.name]) p.type.name)≤k' + 1:=by
   obtain ⟨J2,e⟩:=G9 E.su (k' + 1) (mt++[p.type.name]) p.type.name;rw [e];have:=VB E.su (mt++[p.type.name]) J2;omega
  rw [bW] at yx;refine goN ?_;simp only [W,seval,WN,vZ,e2,hg,gV,bu,hL,hBL,h7,Zj,hpt];refine kG yx ?_;rintro v _ rfl;refine goN ?_;simp only [W,seval,WN,ie];refine ih ⟨i+1,oZ E.su (k' + 1) (mt++[p.type.name]) p.type.name,J++[row]⟩ ⟨bu,h3,VC⟩ gP _ _ cx ?_
  ·rw [← bW,hBM,aE,gT _ _ (by rw [aG];omega),jy]
end
def CJ:=KB func23 96
def b67:=KB func67 9
def b69:=KB func69 16
def b71:=KB func71 8
section
variable {E:fm} {c s f:Nat} {xx yy:V} {B:bQ} {T:eg}
theorem R9 (h:F5 B c s f xx yy E) {N:Nat} (hN:B[N]? = some [.ptr c 0]) {p:ep} (hp:TW p.type):cy prog bI 67 [Pg p,.ptr N 0] ⟨B,T⟩ (cF (.d (.bool (!dH E.su p.type))) ⟨B,T⟩):=by
 obtain ⟨L,hn⟩:=aV B.length;have WQ:N < L:=by rw [← hn];exact (ai.1 hN).1
 have kz:=fun J=>BY (T:=T) hp (h.more J);unfold cH at kz;unfold Pg;refine zR b67 ?_;simp only [W,seval,b67,hn,hN,WQ];refine aX (kz _) ?_;refine goN ?_;simp only [W,seval,b67];refine bN b67 (Left.box ?_);exact ⟨rfl,rfl⟩
theorem Sa (h:F5 B c s f xx yy E) {N:Nat} (hN:B[N]? = some [.ptr c 0]) {t:bJ} (hp:TW t):cy prog bI 71 [cH t,.ptr N 0] ⟨B,T⟩ (cF (.d (.bool (!dH E.su t))) ⟨B,T⟩):=by
 obtain ⟨L,hn⟩:=aV B.length;have WQ:N < L:=by rw [← hn];exact (ai.1 hN).1
 have kz:=fun J=>BY (T:=T) hp (h.more J);unfold cH at kz ⊢;refine zR b71 ?_;simp only [W,seval,b71,hn,hN,WQ];refine aX (kz _) ?_;refine goN ?_;simp only [W,seval,b71];refine bN b71 (Left.box ?_);exact ⟨rfl,rfl⟩
theorem Sb (h:F5 B c s f xx yy E) {N:Nat} (hN:B[N]? = some [.ptr c 0]) {p:ep} (hp:TW p.type):cy prog bI 69 [Pg p,.ptr N 0] ⟨B,T⟩ (cF (.d (.bool (!(dH E.su p.type && ku E.su E.fu p.name)))) ⟨B,T⟩):=by
 obtain ⟨L,hn⟩:=aV B.length;have WQ:N < L:=by rw [← hn];exact (ai.1 hN).1
 have kz:=fun J=>BY (T:=T) hp (h.more J);have vI:=fun J=>Jf (T:=T) p.name (h.more J);unfold cH at kz;unfold Pg;refine zR b69 ?_;simp only [W,seval,b69,hn,hN,WQ];refine aX (kz _) ?_;cases hs:dH E.su p.type
 ·refine goN ?_;simp only [W,seval,b69,hn,hN,WQ,aO];refine bN b69 (Left.box ?_);exact ⟨rfl,rfl⟩
 ·refine goN ?_;simp only [W,seval,b69,hn,hN,WQ,aK];refine aX (vI _) ?_;refine goN ?_;simp only [W,seval,b69];refine bN b69 (Left.box ?_);exact ⟨rfl,rfl⟩
theorem VD {l:List eZ} {x:eZ} (h:kK eZ.name l x.name=none):H6 (l.map eZ.name) (l.map KX) x.name (KX x)=vU (l++[x]):=by
 unfold H6 vU;rw [xN _ _ _ h];simp
theorem VE {l:List fL} {x:fL} (h:kK fL.name l x.name=none):H6 (l.map fL.name) (l.map KY) x.name (KY x)=vV (l++[x]):=by
 unfold H6 vV;rw [xN _ _ _ h];simp
theorem Jh {α:Type} (nm:α→List UInt8) (n:List UInt8):∀ l:List α,(kK nm l n).isNone = !(l.map nm).contains n
 | []=>rfl
 | x :: l=>by
  rw [kK]
  by_cases h:nm x=n
  ·rw [aD h];simp [h]
  ·rw [aq h,Jh nm n l];simp [jk h]
theorem He (su:List eZ) (fu:List fL) (n:List UInt8):ku su fu n=(!(su.map eZ.name++fu.map fL.name).contains n && !(n == [95])):=by
 unfold ku;rw [Jh,Jh]
 congr 1
 simp
def SI (su:List eZ) (n:List UInt8):Bool:=(oZ su ((oR su).length+1) [] n).contains n
def CK (su:List eZ) (s:eZ):Bool:=!SI su s.name && s.fields.all fun p=>dH su p.type
def zo (su:List eZ) (fu:List fL):Bool:=tf [] (su.map eZ.name++fu.map fL.name) && (su.all (CK su) && fu.all (yH su fu))
theorem Sc (su:List eZ) (fu:List fL):zo su fu=zm su fu (SI su):=by
 unfold zo zm
 have:∀ l:List eZ,l.all (CK su)=(l.all (xe su) && l.all fun s=>!SI su s.name):=by
  intro l
  induction l with
  | nil=>rfl
  | cons x l ih =>
   rw [iH,iH,iH,ih];unfold CK xe;cases SI su x.name<;>cases (x.fields.all fun p=>dH su p.type)<;>cases (l.all fun s=>s.fields.all fun p=>dH su p.type)<;>simp
 rw [this];cases tf [] (su.map eZ.name++fu.map fL.name)<;>cases su.all (xe su)<;>cases (su.all fun s=>!SI su s.name)<;>simp
structure Zk where
 i:Nat
 J:List (List V)
def heG (r:Bool) (su:List eZ) (fu:List fL) (s f:Nat) (B:bQ) (T:eg) (v:V) (S':Mem):Prop :=
 v = .d (.bool r)∧∃ Ji Jj,S' = ⟨(B.set s (vU Ji)).set f (vV Jj),T⟩∧(r=true→Ji=su∧Jj=fu)
theorem Zl (l:List eZ) (n m:Nat):(vU l).all (fit n m)=true:=by
 unfold vU;simp only [iH,sk,gU];show qq n m _=true;rw [kH];intro j hj;simp [KX,fit,qq]
theorem Zm (l:List fL) (n m:Nat):(vV l).all (fit n m)=true:=by
 unfold vV;simp only [iH,sk,gU];show qq n m _=true;rw [kH];intro j hj;simp [KY,fit,qq]
theorem VF {su:List eZ} {fu:List fL} (hT:mh su fu) (h:F5 B c s f xx yy ⟨[],[],[]⟩) (gW:c ≠ s∧c ≠ f∧s ≠ f):cy prog bI 23 [.ptr c 0,sy ⟨su,fu⟩] ⟨B,T⟩ (heG (zo su fu) su fu s f B T):=by
 obtain ⟨N,hn⟩:=aV B.length;obtain ⟨n1,n2,n3⟩:=h.lt;obtain ⟨d1,d2,d4⟩:=gW;have sI:=hT.su;have wI:=hT.fu;unfold sy;generalize dN:zo su fu=r;unfold zo at dN
 have E6:∀ (J:bQ) (v:V) (Ji:List eZ) (Jj:List fL),wk B.length T.length v=v→v = .d (.bool r)→(r=true→Ji=su∧Jj=fu)→Go.Ab.Left ⟨B,T⟩ (heG r su fu s f B T) v ⟨(B.set s (vU Ji)).set f (vV Jj)++J,T⟩:=fun J v Ji Jj hw hv hr=>by
  have:=Left.of (B:=B) (J:=J) (T:=T) (K:=[]) (L:=(B.set s (vU Ji)).set f (vV Jj)) (R:=heG r su fu s f B T) (v:=v) dM rfl (((yQ.refl _ _ _).set s (Zl _ _ _)).set f (Zm _ _ _)) (by rw [hw];exact ⟨hv,Ji,Jj,rfl,hr⟩)
  rwa [aQ] at this
 have hm0:(B.set s (vU [])).set f (vV [])=B:=by
  rw [w7 _ _ _ h.s,w7 _ _ _ h.f]
 have hK:∀ (Ji:List eZ) (Jj:List fL) (J:bQ),F5 ((B.set s (vU Ji)).set f (vV Jj)++J) c s f xx yy ⟨Ji,Jj,[]⟩:=fun Ji Jj J=>by
  refine F5.more ⟨?_,?_,?_⟩ J
  ·rw [aj (jk d2),aj (jk d1)];exact h.c
  ·rw [aj (jk d4),aC n2]
  ·rw [aC (by rw [aG];exact n3)]
 refine gL CJ fun cG=>?_;simp only [fH] at cG;simp only [W,seval,CJ,hn];obtain ⟨rC,PX⟩:∃ rC,rC=[V.d (.sl (su.map ki)),V.d (.sl (fu.map lT))]:=⟨_,rfl⟩;obtain ⟨dn,hdn⟩:=aV (tf [] (su.map eZ.name++fu.map fL.name));rw [hdn] at dN
 have C7:∀ (Ji:List eZ) (Jj:List fL) (J:bQ),((B.set s (vU Ji)).set f (vV Jj)++([.ptr c 0] :: rC :: J))[N]? = some [.ptr c 0]∧((B.set s (vU Ji)).set f (vV Jj)++([.ptr c 0] :: rC :: J))[N+1]? = some rC:=fun Ji Jj J=>by
  constructor
  ·rw [aN fk];simp [hn]
  ·rw [aN fk];simp [hn]
 refine az.dL (fun a:Zk=>(cN 96 [(17,.d (.int .i64 (a.i:Int))),(16,.d (.int .i64 (su.length:Int))),(15,.d (.sl (su.map ki))),(3,.ptr (N+1) 0),(2,.ptr N 0)],⟨(B.set s (vU (su.take a.i))).set f (vV [])++([.ptr c 0] :: rC :: a.J),T⟩)) (fun a=>a.i≤su.length∧tf ((su.take a.i).map eZ.name) ((su.drop a.i).map eZ.name++fu.map fL.name)=dn) (fun a=>su.length - a.i) ⟨0,[]⟩ ⟨bG _,hdn⟩ cx (by rw [PX];simp only [List.take_zero,hm0]) ?_;rintro ⟨i,J⟩ ⟨h2,h3⟩ ih;dsimp only at h2 h3 ih ⊢
 by_cases bu:i < su.length
 case pos =>
  have e2:decide ((i:Int) < (su.length:Int))=true:=ah ak;have ie:=bE ((i:Int)+1) ak;have gV:(i:Int) < (su.length:Int):=ak;obtain ⟨x,hx⟩:=aV (su[i]);have hg:(su.map ki)[i]? = some [.str x.name,.sl (x.fields.map jK)]:=by rw [aL,au bu,hx];rfl
  obtain ⟨row,bW⟩:∃ row,row=[V.d (.str x.name),V.d (.sl (x.fields.map jK))]:=⟨_,rfl⟩;obtain ⟨h4,h5⟩:=C7 (su.take i) [] J;have hk:=hK (su.take i) [] ([.ptr c 0] :: rC :: J)
  have zi:∀ y,(((B.set s (vU (su.take i))).set f (vV [])++([.ptr c 0] :: rC :: J))++[row]).set s (vU y)=(B.set s (vU y)).set f (vV [])++([.ptr c 0] :: rC :: (J++[row])):=fun y=>by
   rw [aE,gT _ _ fk,List.set_comm _ _ (jk d4),jy];rfl
  obtain ⟨BJ,xS⟩:∃ BJ,BJ=(B.set s (vU (su.take i))).set f (vV [])++([.ptr c 0] :: rC :: J):=⟨_,rfl⟩;rw [← xS] at h4 h5 hk zi ⊢;obtain ⟨L,hL⟩:=aV BJ.length;have Zn:N < L:=by rw [← hL];exact (ai.1 h4).1
  have vI:=Jf (T:=T) x.name (hk.more [row]);rw [aJ bu,hx,cw,gH,zl] at h3;have hfd:=He (su.take i) [] x.name;rw [eB,aQ] at hfd;rw [← hfd] at h3;dsimp only at vI;rw [bW] at vI;refine goN ?_;simp only [W,seval,CJ,e2,hg,gV,bu,hL,h4,Zn];refine aX vI ?_;cases VG:ku (su.take i) [] x.name
  ·rw [VG,bA] at h3;rw [← h3,bA] at dN;subst dN;refine goN ?_;simp only [W,seval,CJ];rw [xS,aE];refine az.ret func23 rfl (E6 _ _ _ _ rfl rfl (fun h=>by cases h))
  ·rw [VG,bY] at h3
   have hat:kK eZ.name (su.take i) x.name=none:=by
    unfold ku at VG;simp only [aF] at VG
    simpa using VG.1.1
   have Vf:=hk.c;have hcL:c < L:=by rw [← hL];exact hk.lt.1
   have Mm:=(hk.more [row]).s
   have sN:l9 prog ⟨BJ++[row],T⟩ 60 (.mp s) (.d (.str x.name)) (.agg [V.d (.str x.name),V.d (.sl (x.fields.map jK))])=some (.undef,⟨(B.set s (vU (su.take (i+1)))).set f (vV [])++([.ptr c 0] :: rC :: (J++[row])),T⟩):=by
    unfold l9;unfold vU at Mm;simp only [UY,Mm];rw [bF bu,hx,← zi,← VD (l:=su.take i) (x:=x) hat];rfl
   rw [bW] at sN;refine goN ?_;simp only [W,seval,CJ];refine dj 7 [] [N,c,L] ?_;simp (maxSteps:=4000000) only [W,seval,CJ,xw,vZ,hL,h4,Zn,Vf,hcL,sN];refine goN ?_;simp only [W,seval,CJ,ie];refine ih ⟨i+1,J++[row]⟩ ⟨bu,?_⟩ gP _ _ ?_ (by rw [bW])
   ·show tf ((su.take (i+1)).map eZ.name) ((su.drop (i+1)).map eZ.name++fu.map fL.name)=dn;rw [bF bu,hx,cr];exact h3
   ·skip
    refine eU.env _ ?_;simp only [qa,seval]
 have e2:decide ((i:Int) < (su.length:Int))=false:=af ak;obtain rfl:i=su.length:=ak;rw [fR,ay (aA _),eB,dO] at h3;rw [fR];clear ih h2;obtain ⟨h4,h5⟩:=C7 su [] J;obtain ⟨BJ,xS⟩:∃ BJ,BJ=(B.set s (vU su)).set f (vV [])++([.ptr c 0] :: rC :: J):=⟨_,rfl⟩;rw [← xS] at h4 h5 ⊢;rw [PX] at h5;refine goN ?_;simp only [W,seval,CJ,e2,h5];clear h4 h5;refine az.dL (fun a:Zk=>(cN 96 [(37,.d (.int .i64 (a.i:Int))),(36,.d (.int .i64 (fu.length:Int))),(35,.d (.sl (fu.map lT))),(3,.ptr (N+1) 0),(2,.ptr N 0)],⟨(B.set s (vU su)).set f (vV (fu.take a.i))++([.ptr c 0] :: rC :: a.J),T⟩)) (fun a=>a.i≤fu.length∧tf (su.map eZ.name++(fu.take a.i).map fL.name) ((fu.drop a.i).map fL.name)=dn) (fun a=>fu.length - a.i) ⟨0,J⟩ ⟨Nat.zero_le _,by simpa using h3⟩ cx (by rw [xS];simp only [List.take_zero]) ?_;clear h3 xS BJ J;rintro ⟨i,J⟩ ⟨h2,h3⟩ ih;dsimp only at h2 h3 ih ⊢
 by_cases bu:i < fu.length
 case pos =>
  have e2:decide ((i:Int) < (fu.length:Int))=true:=ah ak;have ie:=bE ((i:Int)+1) ak;have gV:(i:Int) < (fu.length:Int):=ak;obtain ⟨x,hx⟩:=aV (fu[i]);have hg:(fu.map lT)[i]? = some [.str x.name,.sl (x.params.map jK),.sl (x.results.map eH),.sl (x.body.map gE)]:=by rw [aL,au bu,hx];rfl
  obtain ⟨row,bW⟩:∃ row,row=[V.d (.str x.name),V.d (.sl (x.params.map jK)),V.d (.sl (x.results.map eH)),V.d (.sl (x.body.map gE))]:=⟨_,rfl⟩;obtain ⟨h4,h5⟩:=C7 su (fu.take i) J;have hk:=hK su (fu.take i) ([.ptr c 0] :: rC :: J)
  have zi:∀ y,(((B.set s (vU su)).set f (vV (fu.take i))++([.ptr c 0] :: rC :: J))++[row]).set f (vV y)=(B.set s (vU su)).set f (vV y)++([.ptr c 0] :: rC :: (J++[row])):=fun y=>by
   rw [aE,gT _ _ fk,jy];rfl
  obtain ⟨BJ,xS⟩:∃ BJ,BJ=(B.set s (vU su)).set f (vV (fu.take i))++([.ptr c 0] :: rC :: J):=⟨_,rfl⟩;rw [← xS] at h4 h5 hk zi ⊢;obtain ⟨L,hL⟩:=aV BJ.length;have Zn:N < L:=by rw [← hL];exact (ai.1 h4).1
  have vI:=Jf (T:=T) x.name (hk.more [row]);rw [aJ bu,hx,cw,zl] at h3;have hfd:=He su (fu.take i) x.name;rw [← hfd] at h3;dsimp only at vI;rw [bW] at vI;refine goN ?_;simp only [W,seval,CJ,e2,hg,gV,bu,hL,h4,Zn];refine aX vI ?_;cases VG:ku su (fu.take i) x.name
  ·rw [VG,bA] at h3;rw [← h3,bA] at dN;subst dN;refine goN ?_;simp only [W,seval,CJ];rw [xS,aE];refine az.ret func23 rfl (E6 _ _ _ _ rfl rfl (fun h=>by cases h))
  ·rw [VG,bY] at h3
   have hat:kK fL.name (fu.take i) x.name=none:=by
    unfold ku at VG;simp only [aF] at VG
    simpa using VG.1.2
   have Vf:=hk.c;have hcL:c < L:=by rw [← hL];exact hk.lt.1
   have Mm:=(hk.more [row]).f
   have sN:l9 prog ⟨BJ++[row],T⟩ 61 (.mp f) (.d (.str x.name)) (.agg row)=some (.undef,⟨(B.set s (vU su)).set f (vV (fu.take (i+1)))++([.ptr c 0] :: rC :: (J++[row])),T⟩):=by
    unfold l9;unfold vV at Mm;simp only [UZ,Mm];rw [bF bu,hx,← zi,← VE (l:=fu.take i) (x:=x) hat,bW];rfl
   rw [bW] at sN;refine goN ?_;simp only [W,seval,CJ];refine dj 7 [] [N,c,L] ?_;simp (maxSteps:=4000000) only [W,seval,CJ,xw,vZ,hL,h4,Zn,Vf,hcL,sN];refine goN ?_;simp only [W,seval,CJ,ie];refine ih ⟨i+1,J++[row]⟩ ⟨bu,?_⟩ gP _ _ ?_ (by rw [bW])
   ·show tf (su.map eZ.name++(fu.take (i+1)).map fL.name) ((fu.drop (i+1)).map fL.name)=dn;rw [bF bu,hx,cr,← aE];exact h3
   ·skip
    refine eU.env _ ?_;simp only [qa,seval]
 have e2:decide ((i:Int) < (fu.length:Int))=false:=af ak;obtain rfl:i=fu.length:=ak;rw [ay (aA _),eB,G5] at h3;rw [fR];clear ih h2;rw [← h3,bY] at dN;clear h3 hdn dn;obtain ⟨h4,h5⟩:=C7 su fu J;obtain ⟨BJ,xS⟩:∃ BJ,BJ=(B.set s (vU su)).set f (vV fu)++([.ptr c 0] :: rC :: J):=⟨_,rfl⟩;rw [← xS] at h4 h5 ⊢;rw [PX] at h5;refine goN ?_;simp only [W,seval,CJ,e2,h5];clear h4 h5;refine az.dL (fun a:Zk=>(cN 96 [(57,.d (.int .i64 (a.i:Int))),(56,.d (.int .i64 (su.length:Int))),(55,.d (.sl (su.map ki))),(3,.ptr (N+1) 0),(2,.ptr N 0)],⟨(B.set s (vU su)).set f (vV fu)++([.ptr c 0] :: rC :: a.J),T⟩)) (fun a=>a.i≤su.length∧((su.drop a.i).all (CK su) && fu.all (yH su fu))=r) (fun a=>su.length - a.i) ⟨0,J⟩ ⟨Nat.zero_le _,by simpa using dN⟩ cx (by rw [xS]) ?_;clear xS BJ J dN e2;rintro ⟨i,J⟩ ⟨h2,h3⟩ ih;dsimp only at h2 h3 ih ⊢
 by_cases bu:i < su.length
 case pos =>
  have e2:decide ((i:Int) < (su.length:Int))=true:=ah ak;have ie:=bE ((i:Int)+1) ak;have gV:(i:Int) < (su.length:Int):=ak;obtain ⟨x,hx⟩:=aV (su[i]);obtain ⟨hxl,hxt⟩:=hT.fl su[i] (aH bu);rw [hx] at hxl hxt;have hg:(su.map ki)[i]? = some [.str x.name,.sl (x.fields.map jK)]:=by rw [aL,au bu,hx];rfl
  obtain ⟨row,bW⟩:∃ row,row=[V.d (.str x.name),V.d (.sl (x.fields.map jK))]:=⟨_,rfl⟩;obtain ⟨h4,h5⟩:=C7 su fu J;have hk:=hK su fu ([.ptr c 0] :: rC :: J);obtain ⟨BJ,xS⟩:∃ BJ,BJ=(B.set s (vU su)).set f (vV fu)++([.ptr c 0] :: rC :: J):=⟨_,rfl⟩;rw [← xS] at h4 h5 hk ⊢;obtain ⟨L,hL⟩:=aV BJ.length;have Zn:N < L:=by rw [← hL];exact (ai.1 h4).1
  rw [aJ bu,hx,iH] at h3;have aog:=hk.lt;have yx:=On (c:=c) (s:=s) (f:=f) (xx:=xx) (yy:=yy) (E:=⟨su,fu,[]⟩) hT (oR su).length [] x.name (BJ++[row,[.vY [] []]]) T (L+1) qi (hk.more _) (by rw [aN ak,hL];simp [LS]) ⟨ak,ak,ak⟩;obtain ⟨M',hM'⟩:∃ M',M' = LS (oZ su ((oR su).length+1) [] x.name):=⟨_,rfl⟩;dsimp only at yx;rw [← hM',iz _ _ ak,show L+1 - BJ.length=1 by omega,cI,cn] at yx
  have Zj:jm prog ⟨BJ++[row,M'],T⟩ 120 (.mp (L+1)) (.d (.str x.name)) false=some (.d (.bool (SI su x.name))):=by
   rw [aaH (met:=oZ su ((oR su).length+1) [] x.name) (by rw [aN ak,show L+1 - BJ.length=1 by omega,hM'];rfl)];rfl
  rw [bW] at yx;refine goN ?_;simp only [W,seval,CJ,vZ,e2,hg,gV,bu,hL,h4,Zn];refine kG yx ?_;rintro v _ rfl;cases NO:SI su x.name
  case true =>
   have hh:CK su x=false:=by unfold CK;rw [NO];rfl
   rw [hh,bA,bA] at h3;subst h3;rw [NO,bW] at Zj;refine goN ?_;simp only [W,seval,CJ,vZ,hL,Zj];rw [xS,aE];refine az.ret func23 rfl (E6 _ _ _ _ rfl rfl (fun h=>by cases h))
  rw [NO,bW] at Zj;have FR:=s7 67 [] [.ptr N 0] (fun _:Unit=>⟨BJ++[row,M'],T⟩) (fun p s=>(!dH su p.type,s)) (fun _ _=>⟨rfl,rfl⟩) x.fields ak () (tI x.fields fun p hp=>R9 (E:=⟨su,fu,[]⟩) (hk.more [row,M']) (by rw [bt ak];exact h4) (hxt p hp));rw [qD,bW] at FR
  have hh:CK su x = !(x.fields.any fun p=>!dH su p.type):=by
   unfold CK;rw [NO,oS];simp
  rw [hh] at h3;refine goN ?_;simp only [W,seval,CJ,vZ,hL,Zj];refine aX FR ?_;cases zO:x.fields.any fun p=>!dH su p.type
  case true =>
   rw [zO,aK,bA,bA] at h3;subst h3;refine goN ?_;simp only [W,seval,CJ];rw [xS,aE];refine az.ret func23 rfl (E6 _ _ _ _ rfl rfl (fun h=>by cases h))
  rw [zO,aO,bY] at h3;refine goN ?_;simp only [W,seval,CJ,ie];exact ih ⟨i+1,J++[row,M']⟩ ⟨bu,h3⟩ gP _ _ cx (by rw [xS,bW];simp only [aE,gH])
 have e2:decide ((i:Int) < (su.length:Int))=false:=af ak;obtain rfl:i=su.length:=ak;rw [ay (aA _),sk,bY] at h3;clear ih h2;obtain ⟨h4,h5⟩:=C7 su fu J;obtain ⟨BJ,xS⟩:∃ BJ,BJ=(B.set s (vU su)).set f (vV fu)++([.ptr c 0] :: rC :: J):=⟨_,rfl⟩;rw [← xS] at h4 h5 ⊢;rw [PX] at h5;refine goN ?_;simp only [W,seval,CJ,e2,h5];clear h4 h5;refine az.dL (fun a:Zk=>(cN 96 [(81,.d (.int .i64 (a.i:Int))),(80,.d (.int .i64 (fu.length:Int))),(79,.d (.sl (fu.map lT))),(3,.ptr (N+1) 0),(2,.ptr N 0)],⟨(B.set s (vU su)).set f (vV fu)++([.ptr c 0] :: rC :: a.J),T⟩)) (fun a=>a.i≤fu.length∧(fu.drop a.i).all (yH su fu)=r) (fun a=>fu.length - a.i) ⟨0,J⟩ ⟨Nat.zero_le _,by simpa using h3⟩ cx (by rw [xS]) ?_;clear xS BJ J h3 e2;rintro ⟨i,J⟩ ⟨h2,h3⟩ ih;dsimp only at h2 h3 ih ⊢
 by_cases bu:i < fu.length
 case neg =>
  have e2:decide ((i:Int) < (fu.length:Int))=false:=af ak;obtain rfl:i=fu.length:=ak;rw [ay (aA _),sk] at h3;subst h3;refine goN ?_;simp only [W,seval,CJ,e2];refine az.ret func23 rfl (E6 _ _ _ _ rfl rfl (fun _=>⟨rfl,rfl⟩))
 have e2:decide ((i:Int) < (fu.length:Int))=true:=ah ak;have ie:=bE ((i:Int)+1) ak;have gV:(i:Int) < (fu.length:Int):=ak;obtain ⟨x,hx⟩:=aV (fu[i]);obtain ⟨hxl,hxr,hxt,hxu⟩:=hT.pa fu[i] (aH bu);rw [hx] at hxl hxr hxt hxu;have hg:(fu.map lT)[i]? = some [.str x.name,.sl (x.params.map jK),.sl (x.results.map eH),.sl (x.body.map gE)]:=by rw [aL,au bu,hx];rfl
 obtain ⟨row,bW⟩:∃ row,row=[V.d (.str x.name),V.d (.sl (x.params.map jK)),V.d (.sl (x.results.map eH)),V.d (.sl (x.body.map gE))]:=⟨_,rfl⟩;obtain ⟨h4,h5⟩:=C7 su fu J;have hk:=hK su fu ([.ptr c 0] :: rC :: J);obtain ⟨BJ,xS⟩:∃ BJ,BJ=(B.set s (vU su)).set f (vV fu)++([.ptr c 0] :: rC :: J):=⟨_,rfl⟩;rw [← xS] at h4 h5 hk ⊢;obtain ⟨L,hL⟩:=aV BJ.length;have Zn:N < L:=by rw [← hL];exact (ai.1 h4).1
 rw [aJ bu,hx,iH] at h3;have FR:=s7 69 [] [.ptr N 0] (fun _:Unit=>⟨BJ++[row],T⟩) (fun p s=>(!(dH su p.type && ku su fu p.name),s)) (fun _ _=>⟨rfl,rfl⟩) x.params ak () (tI x.params fun p hp=>Sb (E:=⟨su,fu,[]⟩) (hk.more [row]) (by rw [bt ak];exact h4) (hxt p hp));have hcg:=tH 71 [] [.ptr N 0] (fun _:Unit=>⟨BJ++[row],T⟩) (fun t s=>(!dH su t,s)) (fun _ _=>⟨rfl,rfl⟩) x.results ak () (tI x.results fun t ht=>Sa (E:=⟨su,fu,[]⟩) (hk.more [row]) (by rw [bt ak];exact h4) (hxu t ht));rw [qD,bW] at FR hcg
 have hh:yH su fu x=(!(x.params.any fun p=>!(dH su p.type && ku su fu p.name)) && !(x.results.any fun t=>!dH su t)):=by
  unfold yH;rw [oS,oS];simp
 rw [hh] at h3;refine goN ?_;simp only [W,seval,CJ,e2,hg,gV,bu,hL,h4,Zn];refine aX FR ?_;cases zO:x.params.any fun p=>!(dH su p.type && ku su fu p.name)
 case true =>
  rw [zO,aK,bA,bA] at h3;subst h3;refine goN ?_;simp only [W,seval,CJ,hL];rw [xS,aE];refine az.ret func23 rfl (E6 _ _ _ _ rfl rfl (fun h=>by cases h))
 rw [zO,aO,bY] at h3;refine goN ?_;simp only [W,seval,CJ,hL];refine aX hcg ?_;cases aaI:x.results.any fun t=>!dH su t
 case true =>
  rw [aaI,aK,bA] at h3;subst h3;refine goN ?_;simp only [W,seval,CJ,hL];rw [xS,aE];refine az.ret func23 rfl (E6 _ _ _ _ rfl rfl (fun h=>by cases h))
 rw [aaI,aO,bY] at h3;refine goN ?_;simp only [W,seval,CJ,hL,ie];exact ih ⟨i+1,J++[row]⟩ ⟨bu,h3⟩ gP _ _ cx (by rw [xS,bW];simp only [aE,gH])
end
end Go.Proofs.YtnfnbjjnjjdjdaaGreatDoor
namespace Go.Ab
open Go.RowKit Go.Av
inductive Deep (n:Nat) (B:bQ):V→D→Prop
 | d (x:D):Deep n B (.d x) x
 | full (rows:List (List D)):Deep n B (.sl rows .full) (.sl rows)
 | bx (j cap sz:Nat) (Y:List V) (rows:List (List D)):n≤j→B[j]? = some Y→WU Y→0 < sz→(∀ r∈rows,r.length=sz)→rows.length * sz≤Y.length →
  (∀ i (h:i < rows.length) q (_:q < (rows[i]).length) v,Y[i * sz+q]? = some v→Deep n B v (rows[i])[q])→Deep n B (.bx j rows.length cap) (.sl rows)
theorem ji.notM {c:Cx} {w:World} {S:Mem} (h5:ji c w S) {n m j b0:Nat} (hj:n≤j) (p8:c.ρ[j]? = some b0):∀ q,¬ (c.cut n m).M b0 q:=by
 rintro q ((hm | hm) | ⟨t,i,off,ht,ha,e1,e2⟩)
 ·have e1:=(c.hX _ _ hm).2;obtain ⟨e3,_⟩:=h5.box _ _ p8;omega
 ·obtain ⟨k,hk⟩:=ql.1 hm;have Mf:(c.ρ.take n)[k]? = some b0:=hk;rw [bp] at Mf
  split at Mf
  case isFalse=>cases Mf
  have:=h5.inj _ _ _ Mf p8;omega
 ·have nX:(c.τ.take m)[t]? = some i:=ht;rw [bp] at nX
  split at nX
  case isFalse=>cases nX
  obtain ⟨a1,a2,a3,a4,a5⟩:=h5.tok t i nX
  have bu:i.n < i.cap:=by
   rcases ct i.n i.cap with h' | h'
   ·exact h'
   ·have:=cD i.sz h';omega
  exact (a5 bu b0 off ha).2.1 (ql.2 ⟨_,p8⟩)
theorem Deep.dr {c:Cx} {w:World} {S:Mem} (h5:ji c w S) {n m:Nat} {v:V} {x:D} (h:Deep n S.boxes v x):∀ {y:Value},VR c w v y→DR (c.cut n m).M w x y:=by
 induction h with
 | d x =>
  intro y hv;cases hv with
  | d _ _ h=>exact h.cut _ _
 | full rows=>exact fun hv=>(mV hv rfl).cut _ _
 | bx j cap sz Y rows hj hB Fx h0 hr hl hd ih =>
  intro y hv;cases hv with
  | bx _ _ _ b0 p8 hn hm hT =>
   obtain ⟨cs,Ty,hh,jS,we⟩:=h5.wh p8 (h5.Hw p8 hB Fx) hB;have hnM:=h5.notM (m:=m) hj p8
   have pos:∀ i (h:i < rows.length) q (hq:q < (rows[i]).length),i * sz+q < Y.length:=fun i h q hq=>by
    have e:=hr _ (aH h);have:=cD sz (show i+1≤rows.length by omega);rw [ej] at this;omega
   refine .sl rows sz _ cap (fun i q=>cs.getD (i * sz+q) undef) h0 hr hn hm (fun _=>⟨b0,0,rfl,fun i hi q hq=>⟨hnM _,?_⟩⟩) (fun i hi q hq=>?_)
   ·rw [bf];exact (we _ (pos i hi q hq)).1
   ·exact ih i hi q hq _ (au (pos i hi q hq)) (we _ (pos i hi q hq)).2.1
theorem cy.agu {P:Program} {I:Inv} {f:FuncId} {args:List V} {S:Mem} {R:V→Mem→Prop}
 (h:cy P I f args S fun v S'=>∃ L J T K v1 v2 d1 d2 y,S' = ⟨L++J,T++K⟩∧L.length=S.boxes.length∧T.length=S.dG.length∧Ib S.boxes.length S.dG.length S.boxes L∧v = .fZ [.agg [v1,v2],.d y]∧Deep S.boxes.length (L++J) v1 d1∧Deep S.boxes.length (L++J) v2 d2∧R (.fZ [.agg [.d d1,.d d2],.d y]) ⟨L,T⟩):cy P I f args S R:=by
 refine ⟨h.1,fun c w xs h1 h2 h3 hI cs=>?_⟩;obtain ⟨e,w',fr,⟨v,x,S',c',a1,⟨L,J,T,K,v1,v2,d1,d2,y,rfl,b2,b3,b4,rfl,g1,g2,b5⟩,a3,a4,a5⟩,h⟩:=h.2 c w xs h1 h2 h3 hI cs;obtain ⟨r1,r2,r3⟩:=forget h3 a4 a3 a5 b2 b3 b4;refine ⟨e,w',fr,⟨_,x,_,_,a1,b5,r1,r2,?_⟩,h⟩;cases a5 with
 | fZ vs cs q1 q2 =>
  refine .fZ _ cs q1 fun j hj=>?_;have hq:=q2 j hj
  match j,hj with
  | 0,hj =>
   have hq:VR c' w' (.agg [v1,v2]) (cs.getD 0 undef):=hq;show VR _ _ (.agg [.d d1,.d d2]) (cs.getD 0 undef);generalize cs.getD 0 undef=X at hq;cases hq with
   | agg vs cs p1 p2 p3 =>
    refine .agg _ cs p1 (fun j hj=>?_) p3
    match j,hj with
    | 0,hj=>exact .d _ _ (g1.dr a3 (p2 0 hj))
    | 1,hj=>exact .d _ _ (g2.dr a3 (p2 1 hj))
  | 1,hj =>
   have hq:VR c' w' (.d y) (cs.getD 1 undef):=hq;show VR _ _ (.d y) (cs.getD 1 undef);exact (hq.cut _ _)
end Go.Ab
namespace Go.Proofs.YtnfnbjjnjjdjdaaGreatDoor
open _root_.Go.Proofs.Tryz
open Go.RowKit Go.Av Go.Ab
theorem sY.deep {α:Type} {sz n lo hi:Nat} {f:α→Nat→Nat→List V→Prop} {g:α→List D} {l:List α} {B:bQ} {v:V} (jS:2≤sz) (h:sY (gD sz f l) l.length B lo hi v) (hn:n≤lo) (hg:∀ x∈l,(g x).length=sz)
 (hf:∀ x∈l,∀ a b r,n≤a→f x a b r→∀ q (hq:q < (g x).length) u,r[q]? = some u→Deep n B u (g x)[q]):Deep n B v (.sl (l.map g)):=by
 rcases h with ⟨h0,rfl,_⟩ | ⟨h0,j,cap,Y,rfl,h1,h2,h3,h4⟩
 ·obtain rfl:=aM h0;exact .d _
 have hl:=h4.len
 have:=Deep.bx (n:=n) (B:=B) j cap sz Y (l.map g) ak h3 (fun ks us he=>by
  rw [he] at hl;have:=cD sz (show 1≤l.length by omega);simp at hl;omega) ak (fun r hr=>by obtain ⟨x,hx,rfl⟩:=eu.1 hr;exact hg x hx) (by rw [aS];exact hl) (fun i hi q hq u hu=>?_)
 ·rwa [aS] at this
 rw [aS] at hi;obtain ⟨A,r,C,lG,kD,e1,e2,e3,e4,e5,e6,e7,_⟩:=h4.at i l[i] (au hi);have Ht:q < (g l[i]).length:=by simpa using hq
 have hqs:q < sz:=by rw [hg _ (aH hi)] at Ht;exact Ht
 have hr:r[q]? = some u:=by
  rw [e1,aE,aN ak,e2,jL,bk ak] at hu;exact hu
 have:=hf l[i] (aH hi) lG kD r ak e7 q Ht u hr
 simpa using this
mutual
theorem pS.deep {n:Nat} {B:bQ}:∀ (x:bh) {lo hi:Nat} {r:List V},n≤lo→pS B x lo hi r→∀ q (hq:q < (eL x).length) u,r[q]? = some u→Deep n B u (eL x)[q]
 | .mk k t i ty ns ks,lo,hi,r,hn,h=>by
  unfold pS at h;obtain ⟨kv,rfl,hk⟩:=h;rw [Jd] at hk;have hd:Deep n B kv (.sl (ks.map eL)):=sY.deep (g:=eL) ak hk hn (fun x _=>by rw [dF];rfl) fun x hx a b r ha hf=>pS.vO ks x hx ha hf;rw [dF];intro q hq u hu;have hq8:q < 8:=hq;rcases q with _ | _ | _ | _ | _ | _ | _ | _ | q
  all_goals first
   | omega
   | (simp only [ef,bX,cu,fX] at hu
      subst hu
      first
       | exact .d _
       | exact hd)
theorem pS.vO {n:Nat} {B:bQ}:∀ (l:List bh) (x:bh),x∈l→∀ {lo hi:Nat} {r:List V},n≤lo→pS B x lo hi r→∀ q (hq:q < (eL x).length) u,r[q]? = some u→Deep n B u (eL x)[q]
 | y :: l,x,hx,lo,hi,r,hn,h=>by
  rcases bB.1 hx with e | hx
  ·rw [e] at h ⊢;exact pS.deep y hn h
  ·exact pS.vO l x hx hn h
end
theorem mY.deep {n lo hi:Nat} {B:bQ} {l:List bh} {v:V} (h:mY B l lo hi v) (hn:n≤lo):Deep n B v (.sl (l.map eL)):=by
 unfold mY at h;rw [Jd] at h;exact sY.deep (g:=eL) ak h hn (fun x _=>by rw [dF];rfl) fun x hx a b r ha hf=>pS.vO l x hx ha hf
mutual
theorem oX.deep {n:Nat} {B:bQ}:∀ (x:cL) {lo hi:Nat} {r:List V},n≤lo→oX B x lo hi r→∀ q (hq:q < (gE x).length) u,r[q]? = some u→Deep n B u (gE x)[q]
 | .mk k ns ty ls es b e cs,lo,hi,r,hn,h=>by
  unfold oX at h;obtain ⟨v1,v2,v3,v4,v5,m1,m2,m3,m4,rfl,o1,o2,o3,o4,o5⟩:=h;have l1:=o1.le;have l2:=o2.le;have l3:=o3.le;have l4:=o4.le;rw [AS] at o3 o4;rw [LQ] at o5;have h1:=o1.deep hn;have h2:=o2.deep (n:=n) ak;have h3:Deep n B v3 (.sl (b.map gE)):=sY.deep (g:=gE) ak o3 ak (fun x _=>by rw [iZ];rfl) fun x hx a z r ha hf=>oX.vO b x hx ha hf;have h4:Deep n B v4 (.sl (e.map gE)):=sY.deep (g:=gE) ak o4 ak (fun x _=>by rw [iZ];rfl) fun x hx a z r ha hf=>oX.vO e x hx ha hf;have h5:Deep n B v5 (.sl (cs.map lV)):=sY.deep (g:=lV) ak o5 ak (fun x _=>by rw [lN];rfl) fun x hx a z r ha hf=>qL.vO cs x hx ha hf;rw [iZ];intro q hq u hu;have hq8:q < 10:=hq;rcases q with _ | _ | _ | _ | _ | _ | _ | _ | _ | _ | q
  all_goals first
   | omega
   | (simp only [js,bX,cu,fX] at hu
      subst hu
      first
       | exact .d _
       | exact h1
       | exact h2
       | exact h3
       | exact h4
       | exact h5)
theorem oX.vO {n:Nat} {B:bQ}:∀ (l:List cL) (x:cL),x∈l→∀ {lo hi:Nat} {r:List V},n≤lo→oX B x lo hi r→∀ q (hq:q < (gE x).length) u,r[q]? = some u→Deep n B u (gE x)[q]
 | y :: l,x,hx,lo,hi,r,hn,h=>by
  rcases bB.1 hx with e | hx
  ·rw [e] at h ⊢;exact oX.deep y hn h
  ·exact oX.vO l x hx hn h
theorem qL.deep {n:Nat} {B:bQ}:∀ (x:iB) {lo hi:Nat} {r:List V},n≤lo→qL B x lo hi r→∀ q (hq:q < (lV x).length) u,r[q]? = some u→Deep n B u (lV x)[q]
 | .mk i b,lo,hi,r,hn,h=>by
  unfold qL at h;obtain ⟨v,rfl,hv⟩:=h;rw [AS] at hv;have h3:Deep n B v (.sl (b.map gE)):=sY.deep (g:=gE) ak hv ak (fun x _=>by rw [iZ];rfl) fun x hx a z r ha hf=>oX.vO b x hx ha hf;rw [lN];intro q hq u hu;have hq8:q < 2:=hq;rcases q with _ | _ | q
  all_goals first
   | omega
   | (simp only [bX,cu,fX] at hu
      subst hu
      first
       | exact .d _
       | exact h3)
theorem qL.vO {n:Nat} {B:bQ}:∀ (l:List iB) (x:iB),x∈l→∀ {lo hi:Nat} {r:List V},n≤lo→qL B x lo hi r→∀ q (hq:q < (lV x).length) u,r[q]? = some u→Deep n B u (lV x)[q]
 | y :: l,x,hx,lo,hi,r,hn,h=>by
  rcases bB.1 hx with e | hx
  ·rw [e] at h ⊢;exact qL.deep y hn h
  ·exact qL.vO l x hx hn h
end
theorem mP.deep {n lo hi:Nat} {B:bQ} {l:List cL} {v:V} (h:mP B l lo hi v) (hn:n≤lo):Deep n B v (.sl (l.map gE)):=by
 unfold mP at h;rw [AS] at h;exact sY.deep (g:=gE) ak h hn (fun x _=>by rw [iZ];rfl) fun x hx a b r ha hf=>oX.vO l x hx ha hf
end Go.Proofs.YtnfnbjjnjjdjdaaGreatDoor
namespace Go.Ab
open Go.RowKit Go.Av
theorem az.agv {P:Program} {I:Inv} {ops:Array Oper} {z:Nat × Nat} {fn:FuncId} {k:List Item} {R:V→Mem→Prop} {id:Nat} {env:List V} {S:Mem} (W:List Nat) (MM:Mem→Prop) (hm:P.follows .mixedOrders=true) (h:rL P I ops W MM (fun env S=>az P I z fn k env S R) ops.size (Array.replicate ops.size false) env S):az P I z fn (.code (.region id ops true) :: k) env S R:=by
 intro b a c w c0 w0 h1 h2 h3 h4 h5 h6 hI cs;have hd:Below w.heap.size w { w with drawn:=w.drawn+1 }:=⟨rfl,rfl,rfl,aA _,fun _ _=>rfl⟩;obtain ⟨r1,r2⟩:=h5.under hd;have eI:=zW (fn:=fn) (k:=k) (R:=R) ops.size (w.tape w.drawn (.order b.fn id)) _ _ _ h;obtain ⟨e,w',fr,g1,g2,g3⟩:=eI b a c _ c0 w0 h1 h2 h3 (h4.ext r2) r1 (h6.trans r2) ⟨r2.I.trans hI.1,hI.2⟩ cs;refine ⟨e,w',fr,g1,.of_steps (.one ?_) g2,g3⟩;have:=step_region_draw (P:=P) (b:=b) (a:=a) (k:=k) (cs:=cs) (w:=w) (ops:=ops) (id:=id);rw [this];simp only [Region.schedule,hm,gq,gj,Region.linearise]
theorem cy.agx {P:Program} {I:Inv} {f:FuncId} {args:List V} {S:Mem} {R:V→Mem→Prop}
 (h:cy P I f args S fun v S'=>∃ L J T K d,S' = ⟨L++J,T++K⟩∧L.length=S.boxes.length∧T.length=S.dG.length∧Ib S.boxes.length S.dG.length S.boxes L∧Deep S.boxes.length (L++J) v d∧R (.d d) ⟨L,T⟩):cy P I f args S R:=by
 refine ⟨h.1,fun c w xs h1 h2 h3 hI cs=>?_⟩;obtain ⟨e,w',fr,⟨v,x,S',c',a1,⟨L,J,T,K,d,rfl,b2,b3,b4,g1,b5⟩,a3,a4,a5⟩,h⟩:=h.2 c w xs h1 h2 h3 hI cs;obtain ⟨r1,r2,r3⟩:=forget h3 a4 a3 a5 b2 b3 b4;exact ⟨e,w',fr,⟨_,x,_,_,a1,b5,r1,r2,.d _ _ (g1.dr a3 a5)⟩,h⟩
end Go.Ab
namespace Go.Proofs.YtnfnbjjnjjdjdaaGreatDoor
open _root_.Go.Proofs.Tryz
open Go.RowKit Go.Av Go.Ab
theorem CL {su:List eZ} (hl:su.length≤60000) (B:bQ) (T:eg):cy prog bI 24 [.d (.sl (su.map ki))] ⟨B,T⟩ (cF (.d (.sl (su.map ki))) ⟨B,T⟩):=by
 have hr:∀ r∈su.map ki,r.length=2:=by intro r hr;obtain ⟨x,_,rfl⟩:=eu.1 hr;rfl
 refine cy.agx ((Jc (su.map ki) hr (by rw [aS];omega) B T).mono fun v S' h=>?_);rcases h with ⟨h0,rfl,rfl⟩ | ⟨h0,cap,h1,h2,rfl,rfl⟩
 ·exact ⟨B,[],T,[],_,by rw [aQ,aQ],rfl,rfl,(yQ.refl _ _ _).cells,.d _,by rw [h0];exact ⟨rfl,rfl⟩⟩
 ·have wI:=uE hr;obtain ⟨X,hX⟩:∃ X,X=List.replicate ((cap - (su.map ki).length) * 2) V.undef:=⟨_,rfl⟩;rw [← hX];have hle:(su.map ki).length * 2≤((su.map ki).flatten.map V.d++X).length:=by rw [av,wI];omega
  refine ⟨B,[(su.map ki).flatten.map V.d++X],T,[],_,by rw [aQ],rfl,rfl,(yQ.refl _ _ _).cells,.bx B.length cap 2 _ _ (aA _) (gp rfl) (fun ks us he=>?_) bH hr hle (fun i hi q hq v hv=>?_),rfl,rfl⟩
  ·rw [he] at hle;have:1≤(su.map ki).length:=Nat.one_le_iff_ne_zero.2 fun e=>h0 (aM e);simp only [aP,aW] at hle;omega
  ·have hg:=wH hr i q _ _ (au hi) (au hq);have bu:=(ai.1 hg).1;rw [bk (by rw [aS];exact bu),aL,hg] at hv;obtain rfl:=ag hv;exact .d _
end Go.Proofs.YtnfnbjjnjjdjdaaGreatDoor
namespace Go.Proofs.YtnfnbjjnjjdjdaaGreatDoor
open _root_.Go.Proofs.Tryz
open Go.RowKit Go.Av Go.Ab
mutual
theorem Oo:∀ s:cL,Ar (I6 s)=Ar s
 | .mk k ns ty ls es b e cs=>by
  have h1:=qR b;have h2:=qR e;have h3:=E7 cs;unfold I6 Ar;rw [h1,h2,h3]
theorem qR:∀ l:List cL,gY (nh l)=gY l
 | []=>by unfold nh gY;rfl
 | [x]=>by
  have h:=Oo x;unfold nh nh gY;exact h
 | x :: y :: l=>by
  have h:=qR (y :: l);rw [ov] at h ⊢;show gY (I6 x :: (I6 y :: l.map I6))=_;unfold gY;dsimp only;exact h
theorem E7:∀ l:List iB,lU (uk l)=lU l
 | []=>by unfold uk lU;rfl
 | .mk i b :: l=>by
  have h1:=qR b;have h2:=E7 l;unfold uk brC lU;rw [h1,h2]
end
theorem Sd {l m:List cL} (h:nh l=nh m):gY l=gY m:=by rw [← qR l,h,qR m]
def b9:=KB func9 95
theorem vz {P:Program} {I:Inv} {ops:Array Oper} {W:List Nat} {MM:Mem→Prop} {K:List V→Mem→Prop} {n:Nat} {listed:Array Bool} {env:List V} {S:Mem} (i:Nat) {o:Oper} (hM:MM S) (hr:Region.ready .any ops listed=[i]) (ho:ops[i]? = some o) (hw:W.contains i=true) (h:WC P I ops o env S fun v S'=>rL P I ops W MM K n (listed.setIfInBounds i true) (dD env o.dst v) S'):rL P I ops W MM K (n+1) listed env S :=
 ⟨hM,fun e=>(by rw [hr] at e;cases e),fun x hx=>by
  rw [hr] at hx;obtain rfl:=bO.1 hx;exact ⟨o,ho,.inl ⟨hw,h⟩⟩⟩
theorem PY {P:Program} {I:Inv} {ops:Array Oper} {W:List Nat} {MM:Mem→Prop} {K:List V→Mem→Prop} {n:Nat} {listed:Array Bool} {env:List V} {S:Mem} (i j:Nat) {o o2:Oper} (hM:MM S) (hr:Region.ready .any ops listed=[i,j]) (ho:ops[i]? = some o) (ho2:ops[j]? = some o2) (hw:W.contains i=true) (JC:W.contains j=true) (h:WC P I ops o env S fun v S'=>rL P I ops W MM K n (listed.setIfInBounds i true) (dD env o.dst v) S') (h2:WC P I ops o2 env S fun v S'=>rL P I ops W MM K n (listed.setIfInBounds j true) (dD env o2.dst v) S'):rL P I ops W MM K (n+1) listed env S :=
 ⟨hM,fun e=>(by rw [hr] at e;cases e),fun x hx=>by
  rw [hr] at hx;simp only [bB,aT,sK] at hx;rcases hx with rfl | rfl
  ·exact ⟨o,ho,.inl ⟨hw,h⟩⟩
  ·exact ⟨o2,ho2,.inl ⟨JC,h2⟩⟩⟩
theorem AT {P:Program} {I:Inv} {ops:Array Oper} {o:Oper} {env:List V} {S:Mem} {K:V→Mem→Prop} {q:Call} {f:Operand} {g:FuncId} {args:List V} {Q:V→Mem→Prop} (hg:o.guard=none) (h1:o.op = .call q) (h2:q.callee = .value f) (h3:bw I env f = .func g [] []) (h4:q.args.toList.map (bw I env)=args) (gW:∃ v S',Q v S') (h:cy P I g args S Q) (hk:∀ v S',Q v S'→K v S'):WC P I ops o env S K :=
 ⟨Q,gW,.inl ⟨.inl hg,.inr (.inl ⟨q,f,g,[],[],h1,h2,h3,by rw [h4];simpa using h⟩)⟩,hk⟩
theorem Hf {P:Program} {ev:Operand→V} {S:Mem} {N q:Nat} {Y:List V} {v:V} {o:Op} {t:TypeId} {a:Operand} {ti:zI} (hS:S.boxes[N]? = some Y) (uZ:o = .load t a) (ht:eT P t=some ti) (hag:ti.agg=false) (ha:ev a = .ptr N q) (hv:Y[q]? = some v):jt P ev S o=some (v,S):=by
 subst uZ;show still S (jE P S t (ev a))=_;rw [ha];simp [jE,ht,hS,yj,hag,hv,still]
theorem agy:eT prog 22=some ⟨.slice 67,1,24,false,[.sl [] .full]⟩:=cP
theorem agz:eT prog 23=some ⟨.slice 41,1,24,false,[.sl [] .full]⟩:=cP
theorem agA:eT prog 25=some ⟨.struct [(0,1),(1,1)],2,48,true,[.sl [] .full,.sl [] .full]⟩:=cP
theorem BZ {ev:Operand→V} {S:Mem} {v1 v2:V} {o:Op} {a b:Operand} (uZ:o = .build 25 #[(0,a),(1,b)]) (ha:ev a=v1) (hb:ev b=v2) (c1:kU v1=some [v1]) (c2:kU v2=some [v2]):jt prog ev S o=some (.agg [v1,v2],S):=by
 subst uZ;show still S (xu prog 25 [(0,ev a),(1,ev b)])=_;rw [ha,hb];simp [xu,agA,ym,c1,c2,still]
theorem B7 {ev:Operand→V} {M:bQ} {T:eg} {j:Nat} {v1 v2 u1 u2:V} {o:Op} {a x:Operand} (uZ:o = .store 25 a x) (ha:ev a = .ptr j 0) (hx:ev x = .agg [v1,v2]) (hM:M[j]? = some [u1,u2]):jt prog ev ⟨M,T⟩ o=some (.undef,⟨M.set j [v1,v2],T⟩):=by
 subst uZ;show uX prog ⟨M,T⟩ 25 (ev a) (ev x)=_;rw [ha,hx];simp [uX,agA,kU,hM]
def AU (su:List eZ) (fu:List fL) (f:fL):Option fL :=
 match eD su fu f.results f.body f.params with
 | some b=>if gY f.body=true then some ⟨f.name,f.params,f.results,b⟩ else none
 | none=>none
def tg (rb:Bool) (p:rU):rU × Int :=
 if rb=true then (if zo p.structs p.funcs=true then (match p.funcs.mapM (AU p.structs p.funcs) with
  | some fs=>(⟨p.structs,fs⟩,0)
  | none=>(⟨[],[]⟩,52)) else (⟨[],[]⟩,52)) else (⟨[],[]⟩,2)
def ClR (p:rU) (M:bQ) (a:Nat) (v2:V) (M':bQ):Prop :=
 M.length≤a∧(∀ k,k < M.length→M'[k]? = M[k]?)∧M'[a]? = some [.d (.sl (p.structs.map ki)),v2] ∧
  ((p.funcs=[]∧v2 = .d (.sl [])∧M'.length=M.length+1)∨(p.funcs ≠ []∧∃ b cap J,v2 = .bx b p.funcs.length cap∧M.length≤b∧b ≠ a∧M'[b]? = some ((p.funcs.map lT).flatten.map V.d++J)∧M'.length=M.length+2))
theorem Zo {p:rU} {M M2:bQ} {v2 u1 u2:V} (l2:M.length≤M2.length) (p2:∀ k,k < M.length→M2[k]? = M[k]?)
 (d2:(p.funcs.map lT=[]∧v2 = .d (.sl [])∧M2=M)∨(p.funcs.map lT ≠ []∧∃ cap J,v2 = .bx M.length (p.funcs.map lT).length cap∧M2=M++[(p.funcs.map lT).flatten.map V.d++J])):ClR p M M2.length v2 ((M2++[[u1,u2]]).set M2.length [.d (.sl (p.structs.map ki)),v2]):=by
 refine ⟨l2,fun k hk=>?_,?_,?_⟩
 ·rw [aj ak,bt ak,p2 k hk]
 ·rw [aC dM]
 ·rcases d2 with ⟨h0,rfl,rfl⟩ | ⟨h0,cap,J,rfl,rfl⟩
  ·exact .inl ⟨by simpa using h0,rfl,dM⟩
  ·rw [aS];refine .inr ⟨fun e=>h0 (by rw [e];rfl),M.length,cap,J,rfl,aA _,dM,?_,dM⟩;rw [aj dM,bt dM,gp rfl];rfl
theorem PZ {p:rU} {M M2:bQ} {v2 u1 u2:V} (l2:(M++[[u1,u2]]).length≤M2.length) (p2:∀ k,k < (M++[[u1,u2]]).length→M2[k]? = (M++[[u1,u2]])[k]?)
 (d2:(p.funcs.map lT=[]∧v2 = .d (.sl [])∧M2=M++[[u1,u2]])∨(p.funcs.map lT ≠ []∧∃ cap J,v2 = .bx (M++[[u1,u2]]).length (p.funcs.map lT).length cap∧M2=(M++[[u1,u2]])++[(p.funcs.map lT).flatten.map V.d++J])):ClR p M M.length v2 (M2.set M.length [.d (.sl (p.structs.map ki)),v2]):=by
 have hl:(M++[[u1,u2]]).length=M.length+1:=dM;refine ⟨aA _,fun k hk=>?_,?_,?_⟩
 ·rw [aj ak,p2 k ak,bt hk]
 ·rw [aC ak]
 ·rcases d2 with ⟨h0,rfl,rfl⟩ | ⟨h0,cap,J,rfl,rfl⟩
  ·exact .inl ⟨by simpa using h0,rfl,dM⟩
  ·rw [aS];refine .inr ⟨fun e=>h0 (by rw [e];rfl),_,cap,J,rfl,ak,ak,?_,dM⟩;rw [aj ak,gp rfl];rfl
section
variable {p:rU} {T:eg} {z:Nat × Nat} {k:List Item} {R:V→Mem→Prop}
theorem Jk {N:Nat} {M:bQ} (hsu:p.structs.length≤60000) (hfu:p.funcs.length≤60000) (hM:M[N]? = some [V.d (.sl (p.structs.map ki)),V.d (.sl (p.funcs.map lT))])
 (rest:∀ a v2 M',ClR p M a v2 M'→az prog bI z 9 k (cN 95 [(5,.ptr a 0),(4,.ptr (N+4) 0),(2,.ptr (N+1) 0)]) ⟨M',T⟩ R) :
 az prog bI z 9 (.code (.region 6 (opsOf (kF f9 21)) true) :: k) (cN 95 [(4,.ptr (N+4) 0),(2,.ptr (N+1) 0),(1,.ptr N 0)]) ⟨M,T⟩ R:=by
 have jS:(opsOf (kF f9 21)).size=9:=cP;have vI:∀ r∈p.funcs.map lT,r.length=4:=by intro r hr;obtain ⟨x,_,rfl⟩:=eu.1 hr;rfl
 have FR:=fun M=>Ok (p.funcs.map lT) vI (by rw [aS];omega) M T;have WQ:N < M.length:=(ai.1 hM).1;have fin:∀ a v2 M' env,Go.Ab.nR (cN 95 [(5,.ptr a 0),(4,.ptr (N+4) 0),(2,.ptr (N+1) 0)]) env→ClR p M a v2 M'→az prog bI z 9 k env ⟨M',T⟩ R:=fun a v2 M' env he h=>az.ng he (rest a v2 M' h);refine az.agv [2,5,7,8] (fun S=>S.boxes[N]? = some [V.d (.sl (p.structs.map ki)),V.d (.sl (p.funcs.map lT))]) cP ?_;rw [jS];refine yW 0 (v:=.ptr N 0) (oi:=fG (opsOf (kF f9 21)) 0) cP (by rfl) cP cP cP (fun S hS=>cP) ?_;refine yW 1 (v:=.d (.sl (p.structs.map ki))) (oi:=fG (opsOf (kF f9 21)) 1) cP (by rfl) cP cP cP (fun S hS=>Hf (q:=0) (a:=.tmp 23) hS cP agy rfl cP rfl) ?_;refine yW 3 (v:=.ptr N 1) (oi:=fG (opsOf (kF f9 21)) 3) cP (by rfl) cP cP cP (fun S hS=>cP) ?_;refine yW 4 (v:=.d (.sl (p.funcs.map lT))) (oi:=fG (opsOf (kF f9 21)) 4) cP (by rfl) cP cP cP (fun S hS=>Hf (q:=1) (a:=.tmp 26) hS cP agz rfl cP rfl) ?_;have hz:(M++[[V.sl [] .full,.sl [] .full]])[N]? = some [V.d (.sl (p.structs.map ki)),V.d (.sl (p.funcs.map lT))]:=(bt WQ).trans hM;have hzl:(M++[[V.sl [] .full,.sl [] .full]]).length=M.length+1:=dM;have hzM:(M++[[V.sl [] .full,.sl [] .full]])[M.length]? = some [V.sl [] .full,.sl [] .full]:=gp rfl;refine PY 2 7 (o:=fG (opsOf (kF f9 21)) 2) (o2:=fG (opsOf (kF f9 21)) 7) hM cP cP cP (by rfl) (by rfl) ?_ ?_
 ·refine AT cP (q:=⟨.value (.func 24),#[.tmp 24],#[22]⟩) cP rfl (by rfl) cP ⟨_,_,rfl,rfl⟩ (CL hsu _ T) ?_;rintro _ _ ⟨rfl,rfl⟩;refine PY 5 7 (o:=fG (opsOf (kF f9 21)) 5) (o2:=fG (opsOf (kF f9 21)) 7) hM cP cP cP (by rfl) (by rfl) ?_ ?_
  ·refine AT cP (q:=⟨.value (.func 25),#[.tmp 27],#[23]⟩) cP rfl (by rfl) cP (qQ.ne _ _ _ _ (by rw [aS];omega)) (FR M) ?_;intro v2 S' hv;obtain ⟨M2,rfl,l2,p2,c2,d2⟩:=hv.split;refine yW 6 (v:=.agg [.d (.sl (p.structs.map ki)),v2]) (oi:=fG (opsOf (kF f9 21)) 6) cP (by rfl) cP cP cP (fun S hS=>BZ (a:=.tmp 25) (b:=.tmp 28) cP cP cP rfl c2) ?_;have h2:M2[N]? = some [V.d (.sl (p.structs.map ki)),V.d (.sl (p.funcs.map lT))]:=(p2 N WQ).trans hM;refine vz 7 (o:=fG (opsOf (kF f9 21)) 7) h2 cP cP (by rfl) (Gl (v:=.ptr M2.length 0) (S':=⟨M2++[[.sl [] .full,.sl [] .full]],T⟩) cP cP ?_);refine vz 8 (o:=fG (opsOf (kF f9 21)) 8) ((bt ak).trans h2) cP cP (by rfl) (Gl (v:=.undef) (S':=⟨(M2++[[V.sl [] .full,.sl [] .full]]).set M2.length [.d (.sl (p.structs.map ki)),v2],T⟩) cP (B7 (a:=.tmp 5) (x:=.tmp 29) cP cP cP (gp rfl)) ?_);refine ⟨?_,cP,fin _ _ _ _ ?_ (Zo l2 p2 d2)⟩
   ·show ((M2++[[V.sl [] .full,.sl [] .full]]).set M2.length [.d (.sl (p.structs.map ki)),v2])[N]? = _;rw [aj ak,bt ak,h2]
   ·simp only [W,seval,b9];refine eU.env _ ?_;simp only [qa,seval]
  ·refine Gl (v:=.ptr M.length 0) (S':=⟨M++[[.sl [] .full,.sl [] .full]],T⟩) cP cP ?_;refine vz 5 (o:=fG (opsOf (kF f9 21)) 5) hz cP cP (by rfl) (AT cP (q:=⟨.value (.func 25),#[.tmp 27],#[23]⟩) cP rfl (by rfl) cP (qQ.ne _ _ _ _ (by rw [aS];omega)) (FR _) ?_);intro v2 S' hv;obtain ⟨M2,rfl,l2,p2,c2,d2⟩:=hv.split;refine yW 6 (v:=.agg [.d (.sl (p.structs.map ki)),v2]) (oi:=fG (opsOf (kF f9 21)) 6) cP (by rfl) cP cP cP (fun S hS=>BZ (a:=.tmp 25) (b:=.tmp 28) cP cP cP rfl c2) ?_;have h2:M2[N]? = some [V.d (.sl (p.structs.map ki)),V.d (.sl (p.funcs.map lT))]:=(p2 N ak).trans hz;refine vz 8 (o:=fG (opsOf (kF f9 21)) 8) h2 cP cP (by rfl) (Gl (v:=.undef) (S':=⟨M2.set M.length [.d (.sl (p.structs.map ki)),v2],T⟩) cP (B7 (a:=.tmp 5) (x:=.tmp 29) cP cP cP ((p2 _ ak).trans hzM)) ?_);refine ⟨?_,cP,fin _ _ _ _ ?_ (PZ l2 p2 d2)⟩
   ·show (M2.set M.length [.d (.sl (p.structs.map ki)),v2])[N]? = _;rw [aj ak,h2]
   ·simp only [W,seval,b9];refine eU.env _ ?_;simp only [qa,seval]
 ·refine Gl (v:=.ptr M.length 0) (S':=⟨M++[[.sl [] .full,.sl [] .full]],T⟩) cP cP ?_;refine vz 2 (o:=fG (opsOf (kF f9 21)) 2) hz cP cP (by rfl) (AT cP (q:=⟨.value (.func 24),#[.tmp 24],#[22]⟩) cP rfl (by rfl) cP ⟨_,_,rfl,rfl⟩ (CL hsu _ T) ?_);rintro _ _ ⟨rfl,rfl⟩;refine vz 5 (o:=fG (opsOf (kF f9 21)) 5) hz cP cP (by rfl) (AT cP (q:=⟨.value (.func 25),#[.tmp 27],#[23]⟩) cP rfl (by rfl) cP (qQ.ne _ _ _ _ (by rw [aS];omega)) (FR _) ?_);intro v2 S' hv;obtain ⟨M2,rfl,l2,p2,c2,d2⟩:=hv.split;refine yW 6 (v:=.agg [.d (.sl (p.structs.map ki)),v2]) (oi:=fG (opsOf (kF f9 21)) 6) cP (by rfl) cP cP cP (fun S hS=>BZ (a:=.tmp 25) (b:=.tmp 28) cP cP cP rfl c2) ?_;have h2:M2[N]? = some [V.d (.sl (p.structs.map ki)),V.d (.sl (p.funcs.map lT))]:=(p2 N ak).trans hz;refine vz 8 (o:=fG (opsOf (kF f9 21)) 8) h2 cP cP (by rfl) (Gl (v:=.undef) (S':=⟨M2.set M.length [.d (.sl (p.structs.map ki)),v2],T⟩) cP (B7 (a:=.tmp 5) (x:=.tmp 29) cP cP cP ((p2 _ ak).trans hzM)) ?_);refine ⟨?_,cP,fin _ _ _ _ ?_ (PZ l2 p2 d2)⟩
  ·show (M2.set M.length [.d (.sl (p.structs.map ki)),v2])[N]? = _;rw [aj ak,h2]
  ·simp only [W,seval,b9];refine eU.env _ ?_;simp only [qa,seval]
end
def vP (f:fL) (v:V):List V:=[.d (.str f.name),.d (.sl (f.params.map jK)),.d (.sl (f.results.map eH)),v]
def F6 (B:bQ) (f:fL) (lo hi:Nat) (r:List V):Prop:=∃ v a b,lo≤a∧b≤hi∧r=vP f v∧mP B f.body a b v
theorem F6.frame {B B':bQ} {f:fL} {lo hi:Nat} {r:List V} (h:F6 B f lo hi r) (he:∀ i,lo≤i→i < hi→B'[i]? = B[i]?):F6 B' f lo hi r:=by
 obtain ⟨v,a,b,h1,h2,h3,h4⟩:=h;exact ⟨v,a,b,h1,h2,h3,h4.frame fun i _ _=>he i ak ak⟩
theorem F6.deep {n:Nat} {B:bQ} {x:fL} {lo hi:Nat} {r:List V} (hn:n≤lo) (h:F6 B x lo hi r):∀ q (hq:q < (lT x).length) u,r[q]? = some u→Deep n B u (lT x)[q]:=by
 obtain ⟨v,a,b,h1,h2,rfl,h4⟩:=h;have h3:=h4.deep (n:=n) ak;intro q hq u hu;have hq4:q < 4:=hq;rcases q with _ | _ | _ | _ | q
 all_goals first
  | omega
  | (simp only [vP,bX,cu,fX] at hu
     subst hu
     first
      | exact .d _
      | exact h3)
theorem P0 {X A C:List V} {f:fL} {v:V} {a:Nat} (hX:X=A++vP f v++C) (ha:A.length=a) :
 X[a+1]? = some (.d (.sl (f.params.map jK)))∧X[a+2]? = some (.d (.sl (f.results.map eH)))∧X[a+3]? = some v∧a+4≤X.length∧∀ u,X.take (a+3)++u :: X.drop (a+3+1)=A++vP f u++C:=by
 have e:X=A++(vP f v++C):=by rw [hX,aE]
 have g:∀ q,X[a+q]? = (vP f v++C)[q]?:=fun q=>by rw [e,aN ak];congr 1;omega
 refine ⟨g 1,g 2,g 3,?_,fun u=>?_⟩
 ·rw [e,av,av,ha];show a+4≤a+(4+C.length);omega
 ·rw [e,nI,bS ak,fQ,gv ak,dO,show a+3 - A.length=3 by omega,show a+3+1 - A.length=4 by omega,aE,aE];rfl
theorem Zp (f:fL):(lT f).map V.d=vP f (.d (.sl (f.body.map gE))):=rfl
theorem Se {α β:Type} (g:α→Option β) (x:α) (l:List α) (fs:List β):((x :: l).mapM g).map (fs++·)=match g x with
 | some y=>(l.mapM g).map ((fs++[y])++·)
 | none=>none:=by
 rw [gQ];cases g x with
 | none=>rfl
 | some y =>
  cases l.mapM g with
  | none=>rfl
  | some ys=>simp
structure acW where
 i:Nat
 fs:List fL
 Y:List V
 B:List (List V)
structure akl (p:rU) (M0:bQ) (N b:Nat) (yg:List V) (s:acW):Prop where
 le:s.i≤p.funcs.length
 res:p.funcs.mapM (AU p.structs p.funcs)=((p.funcs.drop s.i).mapM (AU p.structs p.funcs)).map (s.fs++·)
 fl:s.fs.length=s.i
 yl:s.Y.length=s.i * 4
 bl:M0.length≤s.B.length
 old:∀ k,k < M0.length→k ≠ b→k ≠ N+4→s.B[k]? = M0[k]?
 cb:∃ xx yy,s.B[N+4]? = some [.mp (N+2),.mp (N+3),xx,yy]
 row:s.B[b]? = some (s.Y++(((p.funcs.drop s.i).map lT).flatten.map V.d++yg))
 own:gD 4 (F6 s.B) s.fs (b+1) s.B.length s.Y
structure akm (ps:List ep) (M0:bQ) (w:Nat) (s:Nat × List (List V)):Prop where
 le:s.1≤ps.length
 bl:M0.length≤s.2.length
 old:∀ k,k < M0.length→k ≠ w→s.2[k]? = M0[k]?
 vm:s.2[w]? = some (yC (ps.take s.1))
structure FnG (su:List eZ) (fu:List fL) (f:fL):Prop where
 bl:YZ su fu f.results f.body
 st:R7 f.body
 nw:Mp fun B lo hi v=>mP B f.body lo hi v
 en:∀ l,nh l=nh f.body→Ob l
 pn:∀ i (h:i < f.params.length),kK ep.name (f.params.take i) (f.params[i]).name=none
 pl:f.params.length≤60000
 pt:∀ p∈f.params,TW p.type
 sh:∀ s∈f.body,F3 s
 sl:f.body.length≤60000
section
variable {B:bQ} {T:eg}
theorem E8 {p:rU} {rb:Bool} (hT:rb=true→mh p.structs p.funcs) (hF:rb=true→∀ f∈p.funcs,FnG p.structs p.funcs f) (WR:∀ B T,cy prog bI 16 [sy p] ⟨B,T⟩ (cF (.d (.bool rb)) ⟨B,T⟩)):cy prog bI 9 [sy p] ⟨B,T⟩ (cF (.fZ [sy (tg rb p).1,.d (.int .i64 (tg rb p).2)]) ⟨B,T⟩):=by
 obtain ⟨N,hn⟩:=aV B.length;generalize dN:tg rb p=r;unfold tg at dN;unfold sy at WR;refine cy.agu (cy.tQ (body:=(kF f9 0)) 95 func9 cP cP cP (cm rfl) ?_)
 have exit:∀ (M1:bQ) (v1 v2:V) (d1 d2:D) (y:Int),(∀ k,k < N→M1[k]? = B[k]?)→Deep N M1 v1 d1→Deep N M1 v2 d2→d1 = .sl (r.1.structs.map ki)→d2 = .sl (r.1.funcs.map lT)→y=r.2→∃ L J2 T2 K w1 w2 e1 e2 y2,(⟨M1,T⟩:Mem)=⟨L++J2,T2++K⟩∧L.length=N∧T2.length=T.length∧Ib N T.length B L∧V.fZ [.agg [v1,v2],.d (.int .i64 y)]=V.fZ [.agg [w1,w2],.d y2]∧Deep N (L++J2) w1 e1∧Deep N (L++J2) w2 e2∧cF (.fZ [sy r.1,.d (.int .i64 r.2)]) ⟨B,T⟩ (.fZ [.agg [.d e1,.d e2],.d y2]) ⟨L,T2⟩:=fun M1 v1 v2 d1 d2 y h0 h1 h2 h3 h4 h5=>by
  obtain ⟨J,rfl⟩:∃ J,M1=B++J:=⟨_,PW fun k hk=>h0 k ak⟩;exact ⟨B,J,T,[],v1,v2,d1,d2,.int .i64 y,by rw [aQ],hn,rfl,hn ▸ (yQ.refl _ _ _).cells,rfl,h1,h2,by rw [h3,h4,h5];exact ⟨rfl,rfl⟩⟩
 have bad:∀ (M1:bQ) (y:Int),(∀ k,k < N→M1[k]? = B[k]?)→r=(⟨[],[]⟩,y)→∃ L J2 T2 K w1 w2 e1 e2 y2,(⟨M1,T⟩:Mem)=⟨L++J2,T2++K⟩∧L.length=N∧T2.length=T.length∧Ib N T.length B L∧V.fZ [.agg [.sl [] .full,.sl [] .full],.d (.int .i64 y)]=V.fZ [.agg [w1,w2],.d y2]∧Deep N (L++J2) w1 e1∧Deep N (L++J2) w2 e2∧cF (.fZ [sy r.1,.d (.int .i64 r.2)]) ⟨B,T⟩ (.fZ [.agg [.d e1,.d e2],.d y2]) ⟨L,T2⟩:=fun M1 y h0 h =>
  exit M1 _ _ (.sl []) (.sl []) y h0 (.full []) (.full []) (by rw [h];rfl) (by rw [h];rfl) (by rw [h])
 refine az.go 160 ?_;unfold sy;simp only [W,seval,b9,hn];refine aX (WR _ _) ?_;cases rb
 ·refine goN ?_;simp only [W,seval,b9,hn];refine dx b9 (bad _ 2 (fun k hk=>bt ak) ?_) (h1:=by (try simp only [W,seval,hn]);all_goals exact rfl) (h2:=by (try simp only [W,seval,hn]);all_goals exact rfl);exact dN.symm
 rw [aD rfl] at dN;replace hT:=hT rfl;replace hF:=hF rfl;have hhd:=fun (B:bQ) c s f xx yy h gW=>@VF c s f xx yy B T p.structs p.funcs hT h gW;unfold sy at hhd;have hhe:=hhd (B++[[V.d (.sl (p.structs.map ki)),V.d (.sl (p.funcs.map lT))],[V.sl [] .full,V.sl [] .full],[.vY [] []],[.vY [] []],[.mp (N+2),.mp (N+3),.undef,.sl [] .full]]) (N+4) (N+2) (N+3) .undef (.sl [] .full) ⟨by rw [gS hn];rfl,by rw [gS hn];rfl,by rw [gS hn];rfl⟩ ⟨ak,ak,ak⟩;clear hhd WR;refine goN ?_;simp only [W,seval,b9,vZ,hn];refine kG hhe ?_;rintro _ _ ⟨rfl,Ji,Jj,rfl,hsf⟩
 have sN:((B++[[V.d (.sl (p.structs.map ki)),V.d (.sl (p.funcs.map lT))],[V.sl [] .full,V.sl [] .full],[.vY [] []],[.vY [] []],[.mp (N+2),.mp (N+3),.undef,.sl [] .full]]).set (N+2) (vU Ji)).set (N+3) (vV Jj)=B++[[V.d (.sl (p.structs.map ki)),V.d (.sl (p.funcs.map lT))],[V.sl [] .full,V.sl [] .full],vU Ji,vV Jj,[.mp (N+2),.mp (N+3),.undef,.sl [] .full]]:=by
  rw [iz _ _ ak,iz _ _ ak,hn,show N+2 - N=2 by omega,show N+3 - N=3 by omega];rfl
 rw [sN];clear sN hhe;cases hh:zo p.structs p.funcs
 ·rw [hh,aq bH] at dN;refine goN ?_;simp only [W,seval,b9,hn];refine dx b9 (bad _ 52 (fun k hk=>bt ak) ?_) (h1:=by (try simp only [W,seval,hn]);all_goals exact rfl) (h2:=by (try simp only [W,seval,hn]);all_goals exact rfl);exact dN.symm
 obtain ⟨rfl,rfl⟩:=hsf hh;rw [hh,aD rfl] at dN;refine goN ?_;simp only [W,seval,b9,hn];obtain ⟨M,hM⟩:∃ M,M=B++[[V.d (.sl (p.structs.map ki)),V.d (.sl (p.funcs.map lT))],[V.sl [] .full,V.sl [] .full],vU p.structs,vV p.funcs,[.mp (N+2),.mp (N+3),.undef,.sl [] .full]]:=⟨_,rfl⟩;have hML:M.length=N+5:=by rw [hM];simp [hn]
 have mN:M[N]? = some [V.d (.sl (p.structs.map ki)),V.d (.sl (p.funcs.map lT))]:=by rw [hM,gp hn];rfl
 have m1:M[N+1]? = some [V.sl [] .full,V.sl [] .full]:=by rw [hM,gS hn];rfl
 have m2:M[N+2]? = some (vU p.structs):=by rw [hM,gS hn];rfl
 have m3:M[N+3]? = some (vV p.funcs):=by rw [hM,gS hn];rfl
 have m4:M[N+4]? = some [.mp (N+2),.mp (N+3),.undef,.sl [] .full]:=by rw [hM,gS hn];rfl
 have m0:∀ k,k < N→M[k]? = B[k]?:=fun k hk=>by rw [hM];exact bt ak
 rw [← hM];clear hM;have Gr:=fun h=>Jk (z:=(N,T.length)) (k:=[.code (kF f9 22)]) (T:=T) (R:=fun v S'=>∃ L J T2 K v1 v2 d1 d2 y,S' = ⟨L++J,T2++K⟩∧L.length=N∧T2.length=T.length∧Ib N T.length B L∧v=V.fZ [.agg [v1,v2],.d y]∧Deep N (L++J) v1 d1∧Deep N (L++J) v2 d2∧cF (.fZ [.agg [.d (.sl (r.1.structs.map ki)),.d (.sl (r.1.funcs.map lT))],.d (.int .i64 r.2)]) ⟨B,T⟩ (.fZ [.agg [.d d1,.d d2],.d y]) ⟨L,T2⟩) (N:=N) (M:=M) hT.su hT.fu mN h;refine az.ng cx (Gr ?_);rintro a v2 M0 ⟨c1,c2,c3,c4⟩;have ha:a < M0.length:=(ai.1 c3).1;have k1:M0[N+1]? = some [V.sl [] .full,V.sl [] .full]:=(c2 _ ak).trans m1;have k2:M0[N+2]? = some (vU p.structs):=(c2 _ ak).trans m2;have k3:M0[N+3]? = some (vV p.funcs):=(c2 _ ak).trans m3;have k4:M0[N+4]? = some [.mp (N+2),.mp (N+3),.undef,.sl [] .full]:=(c2 _ ak).trans m4;have k0:∀ k,k < N→M0[k]? = B[k]?:=fun k hk=>(c2 k ak).trans (m0 k hk);clear m0 m1 m2 m3 m4 c2 Gr mN hh;have lN1:N+1 < M0.length:=(ai.1 k1).1;rcases c4 with ⟨h0,rfl,c5⟩ | ⟨h0,b,cap,J,rfl,c5,c6,c7,c8⟩
 ·rw [h0] at dN;refine goN ?_;simp only [W,seval,b9,c3,k1];refine az.dL (fun _:Unit=>(cN 95 [(33,.d (.int .i64 0)),(32,.d (.int .i64 0)),(5,.ptr a 0),(2,.ptr (N+1) 0)],⟨M0,T⟩)) (fun _=>True) (fun _=>0) () trivial cx rfl ?_;intro _ _ _;refine goN ?_;simp only [W,seval,b9,af (show ¬ ((0:Int) < 0) by decide),c3,k1];have hr:r=(⟨p.structs,[]⟩,0):=by rw [← dN];rfl
  have s1:∀ X,(M0.set (N+1) X)[N+1]? = some X:=fun X=>aC lN1;refine dx b9 (exit _ _ _ (.sl (p.structs.map ki)) (.sl []) 0 (fun k hk=>by rw [aj ak,k0 k hk]) (.d _) (.d _) (by rw [hr]) (by rw [hr];rfl) ?_) (h1:=by (try simp only [W,seval,s1]);all_goals exact rfl) (h2:=by (try simp only [W,seval,s1]);all_goals exact rfl);rw [hr]
 have gW:p.funcs.length ≠ 0:=fun e=>h0 (aM e);have hfu:=hT.fu;have lb:b < M0.length:=(ai.1 c7).1;refine goN ?_;simp only [W,seval,b9,oE,c3,k1];refine az.dL (fun s:acW=>(cN 95 [(33,.d (.int .i64 (s.i:Int))),(32,.d (.int .i64 (p.funcs.length:Int))),(5,.ptr a 0),(4,.ptr (N+4) 0),(2,.ptr (N+1) 0)],⟨s.B,T⟩)) (akl p M0 N b J) (fun s=>p.funcs.length - s.i) ⟨0,[],[],M0⟩ ⟨Nat.zero_le _,?_,rfl,rfl,Nat.le_refl _,fun _ _ _ _=>rfl,⟨_,_,k4⟩,by simpa using c7,lb⟩ ?_ rfl ?_
 ·rw [show p.funcs.drop (acW.mk 0 [] [] M0).i=p.funcs from rfl];cases p.funcs.mapM (AU p.structs p.funcs)<;>rfl
 ·skip
  refine eU.env _ ?_;simp only [qa,seval]
 clear h0;rintro ⟨i,fs,Y,Bi⟩ ⟨h1,h2,h3,h4,h5,h6,⟨xx,yy,h7⟩,h8,h9⟩ ih;dsimp only at h1 h2 h3 h4 h5 h6 h7 h8 h9 ih ⊢;have ca:Bi[a]? = some [.d (.sl (p.structs.map ki)),.bx b p.funcs.length cap]:=(h6 a ha ak ak).trans c3;have q1:Bi[N+1]? = some [V.sl [] .full,V.sl [] .full]:=(h6 _ lN1 ak ak).trans k1;have q0:∀ k,k < N→Bi[k]? = B[k]?:=fun k hk=>(h6 k ak ak ak).trans (k0 k hk)
 by_cases bu:i < p.funcs.length
 case neg =>
  have e2:decide ((i:Int) < (p.funcs.length:Int))=false:=af ak;obtain rfl:i=p.funcs.length:=ak
  have hr:r=(⟨p.structs,fs⟩,0):=by
   rw [← dN,h2,List.drop_length];simp
  refine goN ?_;simp only [W,seval,b9,e2,ca,q1];have s1:∀ X,(Bi.set (N+1) X)[N+1]? = some X:=fun X=>aC ak
  have hd:∀ X,Deep N (Bi.set (N+1) X) (.bx b p.funcs.length cap) (.sl (fs.map lT)):=fun X=>by
   rw [← h3];refine sY.deep (sz:=4) (f:=F6 (Bi.set (N+1) X)) (g:=lT) (l:=fs) (lo:=b) (hi:=Bi.length) ak (.inr ⟨ak,b,cap,_,rfl,aA _,ak,(aj ak).trans h8,?_⟩) ak (fun x _=>rfl) (fun x _ a z r ha hf=>F6.deep ha hf);exact (h9.tail _).congr fun x _ a z r ha hz hf=>hf.frame fun k _ _=>aj ak
  refine dx b9 (exit _ _ _ (.sl (p.structs.map ki)) (.sl (fs.map lT)) 0 (fun k hk=>by rw [aj ak,q0 k hk]) (.d _) (hd _) (by rw [hr]) (by rw [hr]) ?_) (h1:=by (try simp only [W,seval,s1]);all_goals exact rfl) (h2:=by (try simp only [W,seval,s1]);all_goals exact rfl);rw [hr]
 have e2:decide ((i:Int) < (p.funcs.length:Int))=true:=ah ak;have ie:=bE ((i:Int)+1) ak;have gV:(i:Int) < (p.funcs.length:Int):=ak;obtain ⟨f,hf⟩:=aV (p.funcs[i]);obtain ⟨g1,g2,g3,g4,g5,g6,g7,_,_⟩:=hF f (hf ▸ aH bu);rw [aJ bu,hf,cw,gM,cr,Zp,aE,← aE] at h8;rw [aJ bu,hf,Se] at h2;obtain ⟨C,hC⟩:∃ C,C=((p.funcs.drop (i+1)).map lT).flatten.map V.d++J:=⟨_,rfl⟩;rw [← hC] at h8;obtain ⟨Z,hZ⟩:∃ Z,Z=Y++vP f (.d (.sl (f.body.map gE)))++C:=⟨_,rfl⟩;rw [← hZ] at h8;obtain ⟨x1,x2,x3,x4,x5⟩:=P0 hZ h4;refine goN ?_;simp only [W,seval,b9,oE,e2,gV,ca,h8,x3,x4];refine kG (g2 Bi T) ?_;intro v S1 n1;obtain ⟨M1,rfl,l1,p1,o1⟩:=n1.split;have cv:=sY.cells o1;have b1:M1[b]? = some Z:=(p1 b ak).trans h8;have b4:M1[N+4]? = some [.mp (N+2),.mp (N+3),xx,yy]:=(p1 _ ak).trans h7;have xv:=x5 v;obtain ⟨Z1,hZ1⟩:∃ Z1,Z1=Y++vP f v++C:=⟨_,rfl⟩;rw [← hZ1] at xv;obtain ⟨y1,y2,y3,y4,_⟩:=P0 hZ1 h4;have s4:(M1.set b Z1)[N+4]? = some [.mp (N+2),.mp (N+3),xx,yy]:=by rw [aj ak,b4]
 have sb:(M1.set b Z1)[b]? = some Z1:=aC ak;refine az.go 4 ?_;simp only [W,seval,b9,oE,b1,cv,xv,x4];obtain ⟨M2,hM2⟩:∃ M2,M2=M1.set b Z1:=⟨_,rfl⟩;rw [← hM2] at s4 sb ⊢;have l2:M2.length=M1.length:=by rw [hM2,aG]
 have p2:∀ k,k < Bi.length→k ≠ b→M2[k]? = Bi[k]?:=fun k hk hb=>by rw [hM2,aj (jk hb),p1 k hk]
 have o2:mP M2 f.body Bi.length M1.length v:=o1.frame fun k h1 h2=>by rw [hM2];exact aj ak
 clear x1 x2 x3 x4 x5 xv hZ b1 b4 g2 g3 o1 p1 cv hM2 h8 h7;have lb2:b < M2.length:=ak;have l4:N+4 < M2.length:=ak;have t4:∀ X,(M2++[X])[N+4]? = some [.mp (N+2),.mp (N+3),xx,yy]:=fun X=>(bt l4).trans s4;have tb:∀ X,(M2++[X])[b]? = some Z1:=fun X=>(bt lb2).trans sb;have t5:∀ X Q,((M2++[X]).set (N+4) Q)[N+4]? = some Q:=fun X Q=>aC (by rw [av];omega);have t6:∀ X Q,((M2++[X]).set (N+4) Q)[b]? = some Z1:=fun X Q=>(aj ak).trans (tb X);refine goN ?_;simp only [W,seval,b9,vZ,oE,t4,t5,t6,tb,y1,y2,y4];obtain ⟨w,hw⟩:=aV M2.length;rw [hw];obtain ⟨M3,hM3⟩:∃ M3,M3=(M2++[[V.vY [] []]]).set (N+4) [V.mp (N+2),V.mp (N+3),V.mp w,V.d (.sl (f.results.map eH))]:=⟨_,rfl⟩;rw [← hM3];have l3:M3.length=w+1:=by rw [hM3];simp [hw]
 have p3:∀ k,k < w→k ≠ N+4→M3[k]? = M2[k]?:=fun k hk hn=>by rw [hM3,aj (jk hn),bt ak]
 have b3:M3[b]? = some Z1:=by rw [hM3];exact t6 _ _
 have K3:Ax M3 (N+4) (N+2) (N+3) w ⟨p.structs,p.funcs,[]⟩ f.results:=⟨by rw [hM3];exact t5 _ _,by rw [p3 _ ak ak,p2 _ ak ak,h6 _ ak ak ak];exact k2,by rw [p3 _ ak ak,p2 _ ak ak,h6 _ ak ak ak];exact k3,by rw [hM3,aj ak,gp hw];rfl⟩;have o3:mP M3 f.body Bi.length M1.length v:=o2.frame fun k h1 h2=>p3 k ak ak;clear t4 t5 t6 tb s4 sb o2 hM3 y1 y2;refine az.dL (fun s:Nat × List (List V)=>(cN 95 [(64,.d (.int .i64 (s.1:Int))),(63,.d (.int .i64 (f.params.length:Int))),(62,.d (.sl (f.params.map jK))),(7,.ptr b (i * 4)),(33,.d (.int .i64 (i:Int))),(32,.d (.int .i64 (p.funcs.length:Int))),(5,.ptr a 0),(4,.ptr (N+4) 0),(2,.ptr (N+1) 0)],⟨s.2,T⟩)) (akm f.params M3 w) (fun s=>f.params.length - s.1) (0,M3) ⟨bG _,aA _,fun _ _ _=>rfl,K3.w⟩ cx rfl ?_;rintro ⟨j,Bj⟩ ⟨i1,i2,i3,i4⟩ o8;dsimp only at i1 i2 i3 i4 o8 ⊢;have Kj:Ax Bj (N+4) (N+2) (N+3) w ⟨p.structs,p.funcs,f.params.take j⟩ f.results:=K3.vars (i3 _ ak ak) (i3 _ ak ak) (i3 _ ak ak) i4 rfl rfl
 by_cases Je:j < f.params.length
 case pos =>
  have e3:decide ((j:Int) < (f.params.length:Int))=true:=ah ak;have uU:=bE ((j:Int)+1) ak;have WM:(j:Int) < (f.params.length:Int):=ak;have hg:=au Je;have zi:=fun J T=>Kj.afX (g5 j Je) (f.params[j]).type J T;obtain ⟨q,hq⟩:=aV (f.params[j]);rw [hq] at hg zi;have Ir:f.params.take j++[⟨q.name,q.type⟩]=f.params.take (j+1):=by rw [bF Je,hq]
  dsimp only at zi;rw [Ir] at zi;unfold cH at zi;have hcj:=Kj.c;unfold FU at hcj;have h4j:N+4 < Bj.length:=ak;have ZZ:Bj.length ≠ N+4:=ak;have t4:∀ X,(Bj++[X])[N+4]? = _:=fun X=>(bt h4j).trans hcj;refine goN ?_;simp only [W,seval,b9,oE,e3,WM,aL,hg,qB];refine dj 8 [] [N+4,Bj.length] ?_;simp (maxSteps:=4000000) only [W,seval,b9,xw,vZ,oE,t4,zi];refine goN ?_;simp only [W,seval,b9,uU];have Tt:w < Bj.length:=ak;refine o8 ⟨j+1,Bj.set w (yC (f.params.take (j+1)))++[[.d (.str q.name),.d (.int .i64 q.type.kind),.d (.str q.type.name),.d (.sl (q.type.elem.map eH))]]⟩ ⟨Je,?_,fun k hk hn=>?_,?_⟩ gP _ _ ?_ rfl
  ·show M3.length≤(_++_:bQ).length;rw [av,aG];omega
  ·show (_++_:bQ)[k]? = _;rw [bt (by rw [aG];omega),aj (jk hn),i3 k hk hn]
  ·show (_++_:bQ)[w]? = _;rw [bt (by rw [aG];omega),aC Tt]
  ·skip
   refine eU.env _ ?_;simp only [qa,seval]
 have e3:decide ((j:Int) < (f.params.length:Int))=false:=af ak;obtain rfl:j=f.params.length:=ak;rw [fR] at Kj;clear o8 i4;have bj:Bj[b]? = some Z1:=(i3 _ ak ak).trans b3;have oj:mP Bj f.body Bi.length M1.length v:=o3.frame fun k _ _=>i3 k ak ak;have PN:um Bj Bj.length (N+4) (N+2) (N+3) w ⟨p.structs,p.funcs,f.params⟩ f.results Bi.length M1.length v f.body:=⟨Kj,oj,.inl ak,.inl ak,.inl ak,.inr ak,⟨ak,ak,ak⟩,⟨ak,ak,ak,ak,ak⟩,aA _⟩;have qW:=g1 f.params Bj.length (N+4) (N+2) (N+3) w Bj T Bi.length M1.length v g7 PN;have Zq:∀ k,k < Bi.length→k ≠ b→k ≠ N+4→Bj[k]? = Bi[k]?:=fun k a b c=>by rw [i3 k ak ak,p3 k ak c,p2 k a b]
 clear PN o3 oj b3 K3 p3 p2;refine goN ?_;simp only [W,seval,b9,oE,e3,bj,y3,y4];refine kG qW ?_;rintro _ _ ⟨B4,rfl,⟨d1,d2,d3⟩,rfl⟩;have dk:∀ k,k < Bi.length→B4[k]? = Bj[k]?:=fun k hk=>d1.2.1 k ak ak ak (.inl hk);have b4:B4[b]? = some Z1:=(dk b ak).trans bj;have z1:B4[N+1]? = some [V.sl [] .full,V.sl [] .full]:=by rw [dk _ ak,Zq _ ak ak ak];exact q1
 have s1:∀ X,(B4.set (N+1) X)[N+1]? = some X:=fun X=>aC ak;have BI:∀ X k,k < N→(B4.set (N+1) X)[k]? = B[k]?:=fun X k hk=>by rw [aj ak,dk k ak,Zq k ak ak ak,q0 k hk]
 clear qW bj
 have hcg:∀ x,eD p.structs p.funcs f.results f.body f.params=x→AU p.structs p.funcs f=(match x with
  | some b=>if gY f.body=true then some ⟨f.name,f.params,f.results,b⟩ else none
  | none=>none):=fun x hx=>by rw [← hx];rfl
 obtain ⟨rb,hrb⟩:=aV (eD p.structs p.funcs f.results f.body f.params);rw [hrb] at d3 ⊢;rw [hcg _ hrb] at h2;clear hcg;cases rb with
 | none =>
  have hr:r=(⟨[],[]⟩,52):=by rw [← dN,h2]
  refine goN ?_;simp only [W,seval,b9,z1,gw,aO];refine dx b9 (bad _ 52 (BI _) ?_) (h1:=by (try simp only [W,seval,s1]);all_goals exact rfl) (h2:=by (try simp only [W,seval,s1]);all_goals exact rfl);exact hr
 | some l =>
  obtain ⟨u1,u2⟩:=d3 l rfl;have Mj:=nB _ _ _ _ _ _ hrb;have hec:=g4 l Mj B4 T Bi.length M1.length v u1 ak;have Bg:=Sd Mj;rw [Bg] at hec;clear u2 d3;refine goN ?_;simp only [W,seval,b9,oE,gy,aK,b4,y3,y4];refine aX hec ?_;cases hen:gY f.body
  ·rw [hen] at h2;have hr:r=(⟨[],[]⟩,52):=by rw [← dN,h2];rfl
   refine goN ?_;simp only [W,seval,b9,z1,aO];refine dx b9 (bad _ 52 (BI _) ?_) (h1:=by (try simp only [W,seval,s1]);all_goals exact rfl) (h2:=by (try simp only [W,seval,s1]);all_goals exact rfl);exact hr
  ·rw [hen] at h2;dsimp only at h2;rw [aD rfl] at h2;dsimp only at h2;refine goN ?_;simp only [W,seval,b9,ie,aK];refine ih ⟨i+1,fs++[⟨f.name,f.params,f.results,l⟩],Y++vP f v,B4⟩ ⟨bu,h2,?_,?_,?_,fun k hk hb hn=>?_,⟨_,_,(dk _ ak).trans Kj.c⟩,?_,?_⟩ gP _ _ ?_ rfl
   ·show (fs++[_]).length=i+1;rw [av,h3];rfl
   ·show (Y++vP f v).length=(i+1) * 4;rw [av,h4];show i * 4+4=_;omega
   ·show M0.length≤B4.length;omega
   ·show B4[k]? = _;rw [dk k ak,Zq k ak hb hn,h6 k hk hb hn]
   ·show B4[b]? = _;rw [b4,hZ1,aE,← hC,aE]
   ·show gD 4 (F6 B4) (fs++[_]) (b+1) B4.length (Y++vP f v);refine gD.snoc (sz:=4) (m:=Bi.length) (f:=F6 B4) rfl ak (fun a ha=>⟨v,Bi.length,M1.length,ha,ak,rfl,u1⟩) (h9.congr fun x _ a z r ha hz hf=>hf.frame fun k _ _=>?_) (by rw [h4,h3]);rw [dk k ak,Zq k ak ak ak]
   ·skip
    refine eU.env _ ?_;simp only [qa,seval]
end
theorem kO {f g:Int→Bool × Int} {n p:Int} (hf:cW f n) (hp:0≤p) (h:(dR f g p).1=true):(f p).1=true∧0≤(f p).2∧(g (f p).2).1=true:=by
 obtain ⟨h1,h2⟩:=cY h;have:=hf.up p h1;exact ⟨h1,ak,h2⟩
theorem Jl {g:Int→Bool × Int} {m d q:Int} (hg:cW g m) (h:(dR (fT d) g q).1=true):q+1≤60000∧q+1≤(dR (fT d) g q).2:=by
 obtain ⟨h1,h2⟩:=cY h;have h3:eJ d q=true:=h1;unfold eJ at h3;rw [aF,bz,bz] at h3;refine ⟨h3.1,?_⟩;have h4:=hg.up (q+1) h2;unfold dR;rw [aq (by rw [h1];decide)];exact h4
def Pos {α:Type} (f:α→Int→Bool × Int) (x:α):Prop:=∀ q,(f x q).1=true→q+1≤60000∧q+1≤(f x q).2
theorem vA {α:Type} {f:α→Int→Bool × Int}:∀ (l:List α) (p:Int),(∀ x∈l,Pos f x)→0≤p→(jG f l p).1=true→(l=[]∨p+l.length≤60000)∧∀ x∈l,∃ q,0≤q∧(f x q).1=true
 | [],_,_,_,_=>⟨.inl rfl,fun _ hx=>absurd hx aT⟩
 | x :: l,p,hc,hp,h=>by
  obtain ⟨h1,h2⟩:=cY (f:=f x) (g:=jG f l) h;obtain ⟨a1,a2⟩:=hc x aI p h1;obtain ⟨b1,b2⟩:=vA l _ (fun y hy=>hc y (aU _ hy)) ak h2;refine ⟨.inr ?_,fun y hy=>?_⟩
  ·rcases b1 with rfl | b1
   ·simp;omega
   ·simp only [aP];omega
  ·rcases bB.1 hy with rfl | hy
   ·exact ⟨p,hp,h1⟩
   ·exact b2 y hy
theorem xj {α:Type} {f:α→Int→Bool × Int} {l:List α} {p:Int} (hc:∀ x∈l,Pos f x) (hp:0≤p) (h:(jG f l p).1=true):l.length≤60000:=by
 rcases (vA l p hc hp h).1 with rfl | h
 ·simp
 ·omega
theorem Zr {k:Int} {t:List UInt8} {i:Int} {ty:bJ} {ns:List (List UInt8)} {ks:List bh} {d p:Int} (h:(vR (.mk k t i ty ns ks) d p).1=true):ks.length≤30000∧∃ q,(kC ks (d+1) q).1=true:=by
 unfold vR at h
 split at h
 ·cases h
 split at h
 ·cases h
 rename_i h2
 split at h
 ·cases h
 refine ⟨?_,_,h⟩;have:nM k≤30000:=by unfold nM;split<;>omega
 omega
mutual
theorem Zs:∀ (x:bh) (d p:Int),(vR x d p).1=true→GW x
 | .mk k t i ty ns ks,d,p,h=>by
  obtain ⟨h1,q,h2⟩:=Zr h;exact .mk _ h1 (E9 ks _ q h2)
theorem E9:∀ (l:List bh) (d p:Int),(kC l d p).1=true→∀ x∈l,GW x
 | [],_,_,_,_,hx=>absurd hx aT
 | y :: l,d,p,h,x,hx=>by
  unfold kC at h
  split at h
  ·cases h
  rename_i h1;rcases bB.1 hx with e | hx
  ·rw [e];exact Zs y d p (by simpa using h1)
  ·exact E9 l d _ h x hx
end
theorem AV {l:List bh} {d p:Int} (h:(lD l d p).1=true):l.length≤60000∧∀ x∈l,GW x:=by
 obtain ⟨h1,h2⟩:=cY (f:=fun p=>kC l d p) h;have h2:decide (l.length≤40)=true:=h2;have:=bV h2;exact ⟨ak,E9 l d p h1⟩
theorem Fa:∀ (n:Nat) (d:Int) (x:cL),Pos (fun x=>nC n x d) x
 | 0,_,_=>fun _ h=>by cases h
 | n+1,d,s=>by
  have hb:=cW.row (f:=fun x=>nC n x (d+1)) (c:=Fy n) s.body fun x _=>cW.st n x (d+1);have he:=cW.row (f:=fun x=>nC n x (d+1)) (c:=Fy n) s.iS fun x _=>cW.st n x (d+1)
  have jU:cW (if s.kind=1 then fun p=>jM aY s.type (d+1) p else gu true) (if s.kind=1 then zf s.type else 0):=by
   by_cases hk:s.kind=1
   ·rw [aD hk,aD hk];exact cW.ty s.type (d+1)
   ·rw [aq hk,aq hk];exact cW.allow true
  have h:=((cW.allow (kY s && decide (s.cases.length≤40))).and (jU.and ((cW.Wv (fun s d=>cW.st n s d) d s.cases []).and ((cW.lD s.cq (d+1)).and ((cW.lD s.exprs (d+1)).and (hb.and he))))));exact fun q hq=>Jl h hq
theorem P1 {R:cL→Int→Int→Bool × Int} {c:cL→Int} (hR:∀ s d,cW (R s d) (c s)) (hP:∀ d s,Pos (fun x=>R x d) s) (d:Int):∀ (l:List iB) (seen:List Int) (p:Int),0≤p→(xY R d seen l p).1=true→∀ k∈l,k.body.length≤60000∧∀ y∈k.body,∃ q,0≤q∧(R y (d+2) q).1=true
 | [],_,_,_,_,_,hk=>absurd hk aT
 | k :: l,seen,p,hp,h,x,hx=>by
  rw [BO] at h;obtain ⟨_,p1,h⟩:=kO (cW.part (d+1)) hp h;obtain ⟨_,p2,h⟩:=kO (cW.allow _) p1 h;obtain ⟨h1,p3,h⟩:=kO (cW.row (f:=fun s=>R s (d+2)) (c:=c) k.body fun s _=>hR s (d+2)) p2 h;rcases bB.1 hx with e | hx
  ·rw [e];exact ⟨xj (f:=fun s=>R s (d+2)) (fun y _=>hP _ y) p2 h1,(vA (f:=fun s=>R s (d+2)) _ _ (fun y _=>hP _ y) p2 h1).2⟩
  ·exact P1 hR hP d l _ _ p3 h x hx
theorem Jm:∀ (n:Nat) (x:cL) (d p:Int),0≤p→(nC n x d p).1=true→F3 x
 | 0,_,_,_,_,h=>by cases h
 | n+1,s,d,p,hp,h=>by
  rw [NM] at h
  have jU:∃ m,cW (if s.kind=1 then fun p=>jM aY s.type (d+1) p else gu true) m:=by
   by_cases hk:s.kind=1
   ·rw [aD hk];exact ⟨_,cW.ty s.type (d+1)⟩
   ·rw [aq hk];exact ⟨_,cW.allow true⟩
  obtain ⟨_,jU⟩:=jU;obtain ⟨_,p1,h⟩:=kO (cW.part d) hp h;obtain ⟨hz,p2,h⟩:=kO (cW.allow _) p1 h;obtain ⟨_,p3,h⟩:=kO jU p2 h;obtain ⟨hc,p4,h⟩:=kO (cW.Wv (fun s d=>cW.st n s d) d s.cases []) p3 h;obtain ⟨hl,p5,h⟩:=kO (cW.lD s.cq (d+1)) p4 h;obtain ⟨hx,p6,h⟩:=kO (cW.lD s.exprs (d+1)) p5 h;obtain ⟨hb,p7,he⟩:=kO (cW.row (f:=fun x=>nC n x (d+1)) (c:=Fy n) s.body fun x _=>cW.st n x (d+1)) p6 h;have hz:(kY s && decide (s.cases.length≤40))=true:=hz;rw [aF,bz] at hz
  have up:∀ (l:List cL) (p:Int),0≤p→(jG (fun x=>nC n x (d+1)) l p).1=true→l.length≤60000∧∀ y∈l,F3 y:=fun l p hp h =>
   ⟨xj (f:=fun x=>nC n x (d+1)) (fun y _=>Fa n _ y) hp h,fun y hy=>by
    obtain ⟨q,hq,h⟩:=(vA (f:=fun x=>nC n x (d+1)) _ _ (fun y _=>Fa n _ y) hp h).2 y hy;exact Jm n y _ q hq h⟩
  have we:=P1 (fun s d=>cW.st n s d) (fun d s=>Fa n d s) d s.cases [] _ p3 hc
  exact .mk s (AV hl).1 (AV hx).1 ak (up _ _ p6 hb).1 (up _ _ p7 he).1 (AV hl).2 (AV hx).2 (up _ _ p6 hb).2 (up _ _ p7 he).2 (fun c hc=>(we c hc).1) fun c hc y hy=>by
   obtain ⟨q,hq,h⟩:=(we c hc).2 y hy;exact Jm n y _ q hq h
theorem VH {α:Type} (nm:α→List UInt8):∀ (l:List α) (n:List UInt8),n ∉ l.map nm→kK nm l n=none
 | [],_,_=>rfl
 | x :: l,n,h=>by
  unfold kK;rw [aq (fun e=>h (by rw [← e];simp))];exact VH nm l n fun hm=>h (by simp [bB] at hm ⊢;exact .inr hm)
theorem P2 {l:List (List UInt8)}:∀ (j:Nat),j≤l.length→jN j l=true→∀ i (h:i < l.length),i < j→l[i] ∉ l.take i
 | 0,_,_,_,_,hi=>absurd hi (jY _)
 | j+1,hj,h,i,hl,hi=>by
  rw [Ej j l ak] at h;simp only [aF,iV] at h
  by_cases e:i=j
  ·subst e;intro hm;rw [bZ.2 hm] at h;cases h.2
  ·exact P2 j ak h.1.1 i hl ak
theorem P3 {mC:Nat} {l:List ep} {p:Int} (h:(Mk mC l p).1=true) (hm:mC≤60000):l.length≤60000∧(∀ x∈l,TW x.type)∧∀ i (h:i < l.length),kK ep.name (l.take i) (l[i]).name=none:=by
 obtain ⟨h1,h2⟩:=cY (f:=jG (fun x:ep=>dR (fT 0) (fun p=>jM aY x.type 0 p)) l) h;have h2:(decide (l.length≤mC) && jN l.length (l.map ep.name))=true:=h2;rw [aF,bz] at h2;refine ⟨ak,fun x hx=>TW.Au (NR h x hx).2,fun i hi=>VH _ _ _ ?_⟩;have:=P2 (l:=l.map ep.name) l.length dM h2.2 i (by simpa using hi) hi;rw [← og] at this
 simpa using this
theorem qS {n:Nat} {x:rU} (h:(KS n x 0).1=true) (hn:GH x):mh x.structs x.funcs∧∀ f∈x.funcs,FnG x.structs x.funcs f:=by
 have An:=Pv h hn;obtain ⟨h1,p1,h2⟩:=kO (f:=jG Ml x.structs) (cW.row (f:=Ml) (c:=suC) x.structs fun s _=>cW.su s) (dV _) h;have Jy:∀ s∈x.structs,Pos Ml s:=fun s _ q hq=>Jl ((cW.allow (aY s.name)).and (cW.pa 60 s.fields)) hq
 have hfp:∀ f∈x.funcs,Pos (KR n) f:=fun f _ q hq=>Jl ((cW.allow (aY f.name)).and ((cW.pa 20 f.params).and ((cW.allow (decide (1≤f.results.length) && decide (f.results.length≤20))).and ((cW.row (f:=fun t p=>jM aY t 0 p) (c:=zf) f.results fun t _=>cW.ty t 0).and
  (cW.row (f:=fun s=>nC n s 0) (c:=Fy n) f.body fun s _=>cW.st n s 0))))) hq
 have Mz:=(vA _ _ hfp p1 h2).2;have ZU:=(vA _ _ Jy (dV _) h1).2
 have key:∀ f∈x.funcs,(f.params.length≤60000∧f.results.length≤60000∧(∀ p∈f.params,TW p.type)∧∀ t∈f.results,TW t)∧(∀ i (h:i < f.params.length),kK ep.name (f.params.take i) (f.params[i]).name=none)∧f.body.length≤60000∧∀ s∈f.body,F3 s:=fun f hf=>by
  obtain ⟨q,hq,h⟩:=Mz f hf;obtain ⟨_,q1,h⟩:=kO (cW.part 0) hq h;obtain ⟨_,q2,h⟩:=kO (cW.allow (aY f.name)) q1 h;obtain ⟨CT,q3,h⟩:=kO (cW.pa 20 f.params) q2 h;obtain ⟨hre,q4,h⟩:=kO (cW.allow _) q3 h;obtain ⟨hrt,q5,h⟩:=kO (cW.row (f:=fun t p=>jM aY t 0 p) (c:=zf) f.results fun t _=>cW.ty t 0) q4 h;have hre:(decide (1≤f.results.length) && decide (f.results.length≤20))=true:=hre;rw [aF,bz,bz] at hre;obtain ⟨a1,a2,a3⟩:=P3 CT ak;have up:=vA (f:=fun s=>nC n s 0) _ _ (fun y _=>Fa n _ y) q5 h;refine ⟨⟨a1,ak,a2,fun t ht=>TW.Au ((An.2 f hf).2.2.2.1 t ht)⟩,a3,xj (f:=fun s=>nC n s 0) (fun y _=>Fa n _ y) q5 h,fun s hs=>?_⟩;obtain ⟨q,hq,h⟩:=up.2 s hs;exact Jm n s _ q hq h
 have hE:mh x.structs x.funcs:=⟨xj Jy (dV _) h1,xj hfp p1 h2,fun s hs=>by
  obtain ⟨q,hq,h⟩:=ZU s hs;obtain ⟨_,q1,h⟩:=kO (cW.part 0) hq h;obtain ⟨_,q2,h⟩:=kO (cW.allow (aY s.name)) q1 h;obtain ⟨a1,a2,_⟩:=P3 h ak;exact ⟨a1,a2⟩,fun f hf=>(key f hf).1⟩
 refine ⟨hE,fun f hf=>?_⟩;obtain ⟨⟨b1,b2,b3,b4⟩,b5,b6,b7⟩:=key f hf;have kz:=(An.2 f hf).2.2.2.2;exact ⟨RY hE kz b7 b6,R8 b7 b6,Zf fun s hs=>mkS (b7 s hs),fun l e=>Vo l (Oc.all (fun y hy=>CU.shb (kz y hy) (b7 y hy)) e) (by have:=gR List.length e;rw [ov,ov,aS,aS] at this;omega),b5,b1,b3,b7,b6⟩
def b8:=KB func8 59
def b22:=KB func22 40
theorem agC:Wx (JF 4 eF)=true:=cP
theorem agD:Wx (JF 2 eF)=true:=cP
theorem akp:tg true (JF 4 eF)=(JF 4 (.mk 4 [] []),0):=cP
theorem akq:tg true (JF 2 eF)=(⟨[],[]⟩,52):=cP
theorem agE (k:Int):GH (JF k eF):=by
 intro f hf;obtain rfl:=bO.1 hf;simp [pQ,wT,vK,Ap,Aq]
theorem Zt (B:bQ) (T:eg):cy prog bI 9 [sy (JF 4 eF)] ⟨B,T⟩ (cF (.fZ [sy (JF 4 (.mk 4 [] [])),.d (.int .i64 0)]) ⟨B,T⟩):=by
 obtain ⟨h1,h2⟩:=qS agC (agE 4);have:=E8 (B:=B) (T:=T) (fun _=>h1) (fun _=>h2) (rb:=true) (fun B T=>agC ▸ IQ (JF 4 eF) B T)
 rwa [akp] at this
theorem Zu (B:bQ) (T:eg):cy prog bI 9 [sy (JF 2 eF)] ⟨B,T⟩ (cF (.fZ [sy ⟨[],[]⟩,.d (.int .i64 52)]) ⟨B,T⟩):=by
 obtain ⟨h1,h2⟩:=qS agD (agE 2);have:=E8 (B:=B) (T:=T) (fun _=>h1) (fun _=>h2) (rb:=true) (fun B T=>agD ▸ IQ (JF 2 eF) B T)
 rwa [akq] at this
def fnT:fL:=⟨[102],[⟨[97],.mk 4 [] []⟩],[.mk 4 [] []],[.mk 6 [] eF [] [.mk 6 [43] 0 eF [] [.mk 1 [97] 0 eF [] [],.mk 2 [] 1 (.mk 4 [] []) [] []]] [] [] []]⟩
theorem acY:(JF 4 (.mk 4 [] [])).funcs=[fnT]:=rfl
theorem acZ (S:Mem):cy prog bI 22 [KY fnT] S (cF (.d (.int .i64 4)) S):=by
 refine cy.same (v:=.d (.int .i64 4)) ?_ rfl rfl S;unfold KY fnT;simp only [cw,eB,iZ,dF,cL.exprs,bh.kids];refine zR b22 ?_;simp only [W,seval,b22,cw,eB];refine bN b22 (Left.empty ?_);exact ⟨rfl,rfl⟩
theorem Fb (S:Mem):cy prog bI 8 [] S (cF (.d (.bool true)) S):=by
 refine cy.same (v:=.d (.bool true)) ?_ rfl rfl S;have hP:=cy.Uq Rz (args:=[.sl (K0 txA) .full]) (by simp [u7,wk]) rfl;have hQ:=cy.Uq RA (args:=[.sl (K0 txB) .full]) (by simp [u7,wk]) rfl;have hC:=fun B=>Zt B [];have hD:=fun B=>Zu B [];have hO:=acZ;have hn:(bJ.mk 0 [] [])=eF:=rfl;rw [hn] at hP hQ;unfold sy at hP hQ hC hD;rw [acY] at hC;unfold KY at hO;have hl:decide ((([fnT].length:Nat):Int)=1)=true:=rfl;refine zR b8 ?_;simp only [W,seval,b8,bL,bC,Nat.reduceMul];refine aX (hP _) ?_;refine goN ?_;simp only [W,seval,b8,bL,bC,Nat.reduceMul];refine aX (hQ _) ?_;refine goN ?_;simp only [W,seval,b8,bL,bC,Nat.reduceMul];refine aX (hC _) ?_;refine goN ?_;simp only [W,seval,b8,bL,bC,Nat.reduceMul];refine aX (hD _) ?_;refine goN ?_;simp only [W,seval,b8,bL,bC,Nat.reduceMul,hl,sV];refine aX (hO _) ?_;refine goN ?_;simp only [W,seval,b8];refine bN b8 (Left.empty ?_);exact ⟨rfl,rfl⟩
def Edge (su:List eZ) (a b:List UInt8):Prop:=∃ p∈vX su a,p.type.kind=7∧p.type.name=b
inductive Mq (su:List eZ) (a:List UInt8):List UInt8→Prop
 | one {b:List UInt8}:Edge su a b→Mq su a b
 | more {b d:List UInt8}:Mq su a b→Edge su b d→Mq su a d
theorem Mq.head {su:List eZ} {a b d:List UInt8} (h:Edge su a b) (h2:Mq su b d):Mq su a d:=by
 induction h2 with
 | one e=>exact .more (.one h) e
 | more _ e ih=>exact .more ih e
structure Met (su:List eZ) (met R:List (List UInt8)) (agF:List UInt8→Prop):Prop where
 sub:∀ x∈met,x∈R
 clo:∀ x∈R,x ∉ met→∀ y,Edge su x y→y∈R
 rch:∀ x∈R,x∈met∨agF x
theorem LU {su:List eZ}:∀ (k:Nat) (met:List (List UInt8)) (n:List UInt8),nN su met < k→Met su met (oZ su k met n) (Mq su n)∧∀ y,Edge su n y→y∈oZ su k met n
 | 0,_,_,h=>absurd h (jY _)
 | k+1,met,n,h=>by
  have key:∀ (l:List ep) (m1:List (List UInt8)),(∀ p∈l,p∈vX su n)→Met su met m1 (Mq su n)→nN su m1 < k+1→Met su met (l.foldl (xh (oZ su k)) m1) (Mq su n)∧(∀ x∈m1,x∈l.foldl (xh (oZ su k)) m1)∧∀ p∈l,p.type.kind=7→p.type.name∈l.foldl (xh (oZ su k)) m1:=by
   intro l
   induction l with
   | nil=>exact fun m1 _ hm _=>⟨hm,fun x hx=>hx,fun p hp=>absurd hp aT⟩
   | cons p l ih =>
    intro m1 hl hm hk;rw [dc];have hp:=hl p aI
    by_cases hc:(decide (p.type.kind=7) && !m1.contains p.type.name)=true
    ·have e:xh (oZ su k) m1 p=oZ su k (m1++[p.type.name]) p.type.name:=by unfold xh;rw [if_pos hc]
     rw [aF,bz,iV] at hc;have aon:nN su (m1++[p.type.name]) < nN su m1:=Jg (E5 hp) hc.2;obtain ⟨a,b⟩:=LU (su:=su) k (m1++[p.type.name]) p.type.name ak;have hed:Edge su n p.type.name:=⟨p,hp,hc.1,rfl⟩
     have Mo:Met su met (oZ su k (m1++[p.type.name]) p.type.name) (Mq su n):=by
      refine ⟨fun x hx=>a.sub x (eO _ (hm.sub x hx)),fun x hx hn y hy=>?_,fun x hx=>?_⟩
      ·by_cases h1:x∈m1
       ·exact a.sub y (eO _ (hm.clo x h1 hn y hy))
       ·by_cases h2:x=p.type.name
        ·exact b y (h2 ▸ hy)
        ·exact a.clo x hx (fun h=>(dA.1 h).elim h1 fun h=>h2 (bO.1 h)) y hy
      ·rcases a.rch x hx with h | h
       ·rcases dA.1 h with h | h
        ·exact hm.rch x h
        ·rw [bO.1 h];exact .inr (.one hed)
       ·exact .inr (.head hed h)
     have agH:nN su (oZ su k (m1++[p.type.name]) p.type.name) < k+1:=by
      have:nN su (oZ su k (m1++[p.type.name]) p.type.name)≤nN su (m1++[p.type.name]):=qh fun y _ hy=>by
       rw [iV] at hy ⊢;cases hh:(m1++[p.type.name]).contains y with
       | false=>rfl
       | true =>
        have h5:=bZ.2 (a.sub y (bZ.1 hh));rw [h5] at hy;cases hy
      omega
     rw [e];obtain ⟨c1,c2,c3⟩:=ih _ (fun q hq=>hl q (aU _ hq)) Mo agH;refine ⟨c1,fun x hx=>c2 x (a.sub x (eO _ hx)),fun q hq h7=>?_⟩;rcases bB.1 hq with rfl | hq
     ·exact c2 _ (a.sub _ (iA _ (bO.2 rfl)))
     ·exact c3 q hq h7
    ·have e:xh (oZ su k) m1 p=m1:=by unfold xh;rw [if_neg hc]
     rw [e];obtain ⟨c1,c2,c3⟩:=ih _ (fun q hq=>hl q (aU _ hq)) hm hk;refine ⟨c1,c2,fun q hq h7=>?_⟩;rcases bB.1 hq with rfl | hq
     ·refine c2 _ (bZ.1 ?_);rw [aF,bz,iV] at hc;cases hh:m1.contains q.type.name with
      | true=>rfl
      | false=>exact absurd ⟨h7,hh⟩ hc
     ·exact c3 q hq h7
  obtain ⟨a,b,d⟩:=key (vX su n) met (fun p hp=>hp) ⟨fun x hx=>hx,fun x hx hn=>absurd hx hn,fun x hx=>.inl hx⟩ h;refine ⟨a,fun y hy=>?_⟩;obtain ⟨p,hp,h7,rfl⟩:=hy;exact d p hp h7
theorem Zv (su:List eZ) (n:List UInt8):SI su n=true↔Mq su n n:=by
 unfold SI;have hk:nN su [] < (oR su).length+1:=Nat.lt_succ_of_le (qi);obtain ⟨a,b⟩:=LU ((oR su).length+1) [] n hk;rw [bZ];constructor
 ·intro h;rcases a.rch n h with h | h
  ·exact absurd h aT
  ·exact h
 ·have:∀ x,Mq su n x→x∈oZ su ((oR su).length+1) [] n:=by
   intro x hx
   induction hx with
   | one e=>exact b _ e
   | more _ e ih=>exact a.clo _ ih aT _ e
  exact this n
structure LpI (su:List eZ) (n:List UInt8) (met:List (List UInt8)) (at':Nat):Prop where
 own:n∈met
 rch:∀ x∈met,x=n∨Mq su n x
 clo:∀ j (h:j < met.length),j < at'→∀ y,Edge su met[j] y→y∈met∧y ≠ n
 len:at'≤met.length
theorem Fc {su:List eZ} {n:List UInt8}:∀ (l:List ep) (met:List (List UInt8)),(∀ p∈l,p.type.name∈oR su)→(match C6 n l met with
 | none=>∃ p∈l,p.type.kind=7∧p.type.name=n
 | some m2=>(∃ J,m2=met++J∧∀ x∈J,∃ p∈l,p.type.kind=7∧p.type.name=x)∧(∀ p∈l,p.type.kind=7→p.type.name∈m2∧p.type.name ≠ n)∧nN su m2+m2.length≤nN su met+met.length)
 | [],met,_=>⟨⟨[],dM,fun x hx=>absurd hx aT⟩,fun p hp=>absurd hp aT,aA _⟩
 | p :: l,met,hl=>by
  have Cd:=fun q hq=>hl q (aU p hq);unfold C6
  by_cases h7:p.type.kind=7
  ·rw [aD h7]
   by_cases hn:p.type.name=n
   ·rw [aD hn];exact ⟨p,aI,h7,hn⟩
   ·rw [aq hn];have ih:=Fc (n:=n) l (if met.contains p.type.name=true then met else met++[p.type.name]) Cd;cases hf:C6 n l (if met.contains p.type.name=true then met else met++[p.type.name]) with
    | none =>
     rw [hf] at ih;obtain ⟨q,hq,a⟩:=ih;exact ⟨q,aU _ hq,a⟩
    | some m2 =>
     rw [hf] at ih;obtain ⟨⟨J,hJ,hJ2⟩,b,c⟩:=ih;have wG:∀ x,x∈(if met.contains p.type.name=true then met else met++[p.type.name])→x∈m2:=fun x hx=>hJ ▸ eO _ hx
     by_cases hc:met.contains p.type.name=true
     ·rw [aD hc] at hJ c wG;refine ⟨⟨J,hJ,fun x hx=>?_⟩,fun q hq h7'=>?_,c⟩
      ·obtain ⟨q,hq,a⟩:=hJ2 x hx;exact ⟨q,aU _ hq,a⟩
      ·rcases bB.1 hq with rfl | hq
       ·exact ⟨wG _ (bZ.1 hc),hn⟩
       ·exact b q hq h7'
     ·rw [aq hc] at hJ c wG;have hc':met.contains p.type.name=false:=mZ.2 hc;have hm:nN su (met++[p.type.name]) < nN su met:=Jg (hl p aI) hc';refine ⟨⟨p.type.name :: J,by rw [hJ,aE];rfl,fun x hx=>?_⟩,fun q hq h7'=>?_,by rw [av,iD] at c;omega⟩
      ·rcases bB.1 hx with rfl | hx
       ·exact ⟨p,aI,h7,rfl⟩
       ·obtain ⟨q,hq,a⟩:=hJ2 x hx;exact ⟨q,aU _ hq,a⟩
      ·rcases bB.1 hq with rfl | hq
       ·exact ⟨wG _ (iA _ (bO.2 rfl)),hn⟩
       ·exact b q hq h7'
  ·rw [aq h7];have ih:=Fc (n:=n) l met Cd;cases hf:C6 n l met with
   | none =>
    rw [hf] at ih;obtain ⟨q,hq,a⟩:=ih;exact ⟨q,aU _ hq,a⟩
   | some m2 =>
    rw [hf] at ih;obtain ⟨⟨J,hJ,hJ2⟩,b,c⟩:=ih;refine ⟨⟨J,hJ,fun x hx=>?_⟩,fun q hq h7'=>?_,c⟩
    ·obtain ⟨q,hq,a⟩:=hJ2 x hx;exact ⟨q,aU _ hq,a⟩
    ·rcases bB.1 hq with rfl | hq
     ·exact absurd h7' h7
     ·exact b q hq h7'
theorem Hg {su:List eZ} {n:List UInt8}:∀ (k:Nat) (met:List (List UInt8)) (at':Nat),LpI su n met at'→nN su met+met.length < k+at'→∃ b,yG su n k met at' = some b∧(b=true↔Mq su n n)
 | 0,met,at',hi,hk=>by have:=hi.len;omega
 | k+1,met,at',hi,hk=>by
  unfold yG
  by_cases bu:at' < met.length
  ·rw [au bu];dsimp only;have hf:=Fc (su:=su) (n:=n) (vX su met[at']) met fun p hp=>E5 hp;have hr:=hi.rch met[at'] (aH bu)
   have hed:∀ y,Edge su met[at'] y→Mq su n y:=fun y hy=>by
    rcases hr with e | hr
    ·rw [e] at hy;exact .one hy
    ·exact .more hr hy
   cases h1:C6 n (vX su met[at']) met with
   | none =>
    rw [h1] at hf;obtain ⟨p,hp,h7,hn⟩:=hf;exact ⟨true,rfl,⟨fun _=>hed n ⟨p,hp,h7,hn⟩,fun _=>rfl⟩⟩
   | some m2 =>
    rw [h1] at hf;obtain ⟨⟨J,rfl,hJ⟩,b,c⟩:=hf;refine Hg k (met++J) (at' + 1) ⟨eO _ hi.own,fun x hx=>?_,fun j hj ZY y hy=>?_,by rw [av];omega⟩ ak
    ·rcases dA.1 hx with hx | hx
     ·exact hi.rch x hx
     ·obtain ⟨p,hp,h7,hn⟩:=hJ x hx;exact .inr (hed x ⟨p,hp,h7,hn⟩)
    ·by_cases e:j=at'
     ·subst e;rw [cA bu] at hy;obtain ⟨p,hp,h7,rfl⟩:=hy;exact b p hp h7
     ·have jT:j < met.length:=ak;rw [cA jT] at hy;obtain ⟨a,a2⟩:=hi.clo j jT ak y hy;exact ⟨eO _ a,a2⟩
  ·rw [dP ak];refine ⟨false,rfl,⟨fun h=>(by cases h),fun h=>?_⟩⟩
   have:∀ x,Mq su n x→x∈met∧x ≠ n:=by
    have cl:∀ x∈met,∀ y,Edge su x y→y∈met∧y ≠ n:=fun x hx y hy=>by
     obtain ⟨j,hj,rfl⟩:=ga.1 hx;exact hi.clo j hj (by have:=hi.len;omega) y hy
    intro x hx
    induction hx with
    | one e=>exact cl n hi.own _ e
    | more _ e ih=>exact cl _ ih.1 _ e
   exact absurd rfl (this n h).2
theorem Sf {su:List eZ} (n:List UInt8) (hc:(oR su).length≤99998):∃ k,k≤100000∧yG su n k [n] 0=some (SI su n):=by
 have hm:nN su [n]≤(oR su).length:=qi;obtain ⟨b,h1,h2⟩:=Hg (su:=su) (n:=n) ((oR su).length+2) [n] 0 ⟨bO.2 rfl,fun x hx=>.inl (bO.1 hx),fun j _ h=>absurd h (jY _),bG _⟩ (by rw [iD];omega);refine ⟨(oR su).length+2,ak,?_⟩;rw [h1]
 congr 1
 exact dQ.2 (h2.trans (Zv su n).symm)
mutual
theorem P4:∀ t:bJ,1≤zf t
 | .mk _ _ es=>by
  have:=LV es;rw [zf];omega
theorem LV:∀ l:List bJ,0≤KQ l
 | []=>by rw [KQ];omega
 | t :: l=>by
  have h1:=P4 t;have h2:=LV l;rw [KQ];omega
end
theorem pX {α:Type} {c:α→Int} (h:∀ x,0≤c x):∀ l:List α,0≤jq c l
 | []=>dV _
 | x :: l=>by
  have h1:=h x;have h2:=pX h l;show 0≤c x+jq c l;omega
theorem Fe (t:bJ):0≤zf t:=by have:=P4 t;omega
mutual
theorem Zw:∀ t:bh,1≤ecS t
 | .mk _ _ _ ty _ es=>by
  have:=AW es;have h2:=Fe ty;rw [ecS]
  split<;>omega
theorem AW:∀ l:List bh,0≤Af l
 | []=>by rw [Af];omega
 | t :: l=>by
  have h1:=Zw t;have h2:=AW l;rw [Af];omega
end
theorem Zx (l:List ep):0≤Ug l:=pX (fun x=>by have:=Fe x.type;omega) l
theorem Jn:∀ (n:Nat) (s:cL),0≤Pc n s
 | 0,_=>dV _
 | n+1,s=>by
  have h1:=AW s.cq;have h2:=AW s.exprs;have h3:=pX (Jn n) s.body;have h4:=pX (Jn n) s.iS;have h5:=pX (fun c:iB=>by have:=pX (Jn n) c.body;show 0≤1+jq (Pc n) c.body;omega) s.cases;have h6:=Fe s.type;unfold Pc
  split<;>omega
theorem Ff {α:Type} (f:α→Int):∀ l:List α,jq (fun x=>1+f x) l=l.length+jq f l
 | []=>by simp [jq]
 | x :: l=>by
  show (1+f x)+jq (fun x=>1+f x) l=((l.length+1:Nat):Int)+(f x+jq f l);rw [Ff f l];omega
def suP (s:eZ):Int:=Ug s.fields
def fuP (n:Nat) (f:fL):Int:=Ug f.params+jq zf f.results+jq (Pc n) f.body
theorem ac0 (n:Nat) (f:fL):0≤fuP n f:=by
 have h1:=Zx f.params;have h2:=pX Fe f.results;have h3:=pX (Jn n) f.body;unfold fuP;omega
theorem Sg (n:Nat) (p:rU):prN n p=((p.structs.length:Int)+p.funcs.length)+jq suP p.structs+jq (fuP n) p.funcs:=by
 have h1:=Ff suP p.structs;have h2:=Ff (fuP n) p.funcs;have e1:jq suC p.structs=jq (fun x=>1+suP x) p.structs:=rfl;have e2:jq (fuN n) p.funcs=jq (fun x=>1+fuP n x) p.funcs:=nv _ fun x _=>by unfold fuN fuP;omega
 unfold prN;rw [e1,e2,h1,h2];omega
def rW (f:Int→Bool × Int) (a:Nat):Prop:=∀ p,(f p).1=true→p+a≤(f p).2
theorem rW.of {f:Int→Bool × Int} {n:Int} (h:cW f n):rW f 0:=fun p hp=>by have:=h.up p hp;omega
theorem rW.and {f g:Int→Bool × Int} {a b:Nat} (h1:rW f a) (h2:rW g b):rW (dR f g) (a+b):=fun p h=>by
 obtain ⟨x,y⟩:=cY h;have e1:=h1 p x;have e2:=h2 _ y;rw [fC x];omega
theorem rW.part (d:Int):rW (fT d) 1:=fun p _=>by
 show p+((1:Nat):Int)≤p+1;omega
theorem rW.row (f:cL→Int→Bool × Int):∀ l:List cL,(∀ x∈l,rW (f x) (wS x))→rW (jG f l) (wL l)
 | [],_=>fun p _=>by
  rw [wL];show p+((0:Nat):Int)≤p;omega
 | x :: l,h=>by
  rw [wL];exact (h x aI).and (rW.row f l fun y hy=>h y (aU _ hy))
theorem rW.Wv {R:cL→Int→Int→Bool × Int} (hR:∀ s d,rW (R s d) (wS s)) (d:Int):∀ (l:List iB) (seen:List Int),rW (xY R d seen l) (wC l)
 | [],_=>fun p _=>by
  rw [wC];show p+((0:Nat):Int)≤p;omega
 | .mk i b :: l,seen=>by
  rw [BO,wC];have h:=(rW.part (d+1)).and ((rW.of (cW.allow (!seen.contains i))).and ((rW.row (fun s=>R s (d+2)) b fun s _=>hR s (d+2)).and (rW.Wv hR d l (seen++[i]))));intro p hp;have:=h p hp;show p+((wL b+wC l:Nat):Int)≤_;refine pM ?_ this;omega
theorem rW.st:∀ (n:Nat) (s:cL) (d:Int),rW (nC n s d) (wS s)
 | 0,_,_=>fun _ h=>by cases h
 | n+1,s,d=>by
  have jU:rW (if s.kind=1 then fun p=>jM aY s.type (d+1) p else gu true) 0:=by
   by_cases hk:s.kind=1
   ·rw [aD hk];exact rW.of (cW.ty s.type (d+1))
   ·rw [aq hk];exact rW.of (cW.allow true)
  have h:=(rW.part d).and ((rW.of (cW.allow (kY s && decide (s.cases.length≤40)))).and (jU.and ((rW.Wv (fun s d=>rW.st n s d) d s.cases []).and ((rW.of (cW.lD s.cq (d+1))).and ((rW.of (cW.lD s.exprs (d+1))).and ((rW.row (fun x=>nC n x (d+1)) s.body fun x _=>rW.st n x (d+1)).and (rW.row (fun x=>nC n x (d+1)) s.iS fun x _=>rW.st n x (d+1))))))));intro p hp;rw [NM] at hp ⊢;have:=h p hp;refine pM ?_ this;cases s;simp only [wS,cL.body,cL.iS,cL.cases];omega
theorem P5:∀ l:List ep,(l.length:Int)≤Ug l
 | []=>dV _
 | x :: l=>by
  have h1:=P5 l;have h2:=Fe x.type;show _≤(1+zf x.type)+Ug l;rw [aP];omega
theorem Sh {n:Nat} {p:rU} (h:(KS n p 0).1=true):(oR p.structs).length≤60000:=by
 have h1:=(KT n p h).2;rw [Sg] at h1;have h2:=pX (ac0 n) p.funcs
 have h3:((oR p.structs).length:Int)≤jq suP p.structs:=by
  unfold oR;generalize p.structs=l
  induction l with
  | nil=>exact dV _
  | cons s l ih =>
   have h4:=P5 s.fields;rw [List.flatMap_cons,av,aS];show _≤Ug s.fields+jq suP l;omega
 omega
theorem rW.rows {α:Type} (f:α→Int→Bool × Int) (w:α→Nat):∀ l:List α,(∀ x∈l,rW (f x) (w x))→rW (jG f l) ((l.map w).sum)
 | [],_=>fun p _=>by
  show p+((0:Nat):Int)≤p;omega
 | x :: l,h=>by
  rw [cw,List.sum_cons];exact (h x aI).and (rW.rows f w l fun y hy=>h y (aU _ hy))
theorem rW.fu (n:Nat) (f:fL):rW (KR n f) (wL f.body):=by
 have h:=(rW.part 0).and ((rW.of (cW.allow (aY f.name))).and ((rW.of (cW.pa 20 f.params)).and ((rW.of (cW.allow (decide (1≤f.results.length) && decide (f.results.length≤20)))).and ((rW.of (cW.row (f:=fun t p=>jM aY t 0 p) (c:=zf) f.results fun t _=>cW.ty t 0)).and (rW.row (fun s=>nC n s 0) f.body fun s _=>rW.st n s 0)))));intro p hp;have:=h p hp;refine pM ?_ this;omega
theorem P6 {α:Type} (w:α→Nat):∀ (l:List α) (x:α),x∈l→w x≤(l.map w).sum
 | [],_,h=>absurd h aT
 | y :: l,x,h=>by
  rw [cw,List.sum_cons];rcases bB.1 h with rfl | h
  ·omega
  ·have:=P6 w l x h;omega
theorem VI {n:Nat} {p:rU} (h:(KS n p 0).1=true) {f:fL} (hf:f∈p.funcs):wL f.body≤60000:=by
 have h1:=(rW.of (cW.row (f:=Ml) (c:=suC) p.structs fun s _=>cW.su s)).and (rW.rows (KR n) (fun f=>wL f.body) p.funcs fun f _=>rW.fu n f);have h2:=h1 0 h;have h3:=fV.pr n p 0 ak h;have h4:=P6 (fun f:fL=>wL f.body) p.funcs f hf;have h5:(0:Int)+((0+(p.funcs.map fun f=>wL f.body).sum:Nat):Int)≤(KS n p 0).2:=h2;omega
end Go.Proofs.YtnfnbjjnjjdjdaaGreatDoor
