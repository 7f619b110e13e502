/- Whatever the program, gotype.Check and the document answer alike. Part 4 of 7 of the proof. -/
import Derived.Test.YtnfnbjjnjjdjdaaGreatDoorGotypeChecksc
set_option linter.unusedSimpArgs false
set_option linter.defProp false
set_option maxRecDepth 100000
set_option linter.unusedVariables false
set_option maxHeartbeats 16000000
namespace Go.Proofs.YtnfnbjjnjjdjdaaGreatDoor
open _root_.Go.Proofs.Tryz
open Go.RowKit Go.Av Go.Ab
def Bo:=KB func35 46
def ab6:=KB func125 11
def Yi:=KB func151 8
def IT:=KB func147 19
def ab7:=KB func144 8
def Yj:=KB func13 17
theorem ajr {I:Inv} {z:Nat × Nat} {fn:FuncId} {R:V→Mem→Prop} {k:List Item} {env:List V} {S:Mem} {P:Program} {f:Func} {v:V} {a:Nat} {t:TypeId} (hf:P.funcs[fn]? = some f) (hr:f.results.toList=[.cell a t]) (h1:jE P S t (env.getD a .undef)=some v) (hR:R v S):az P I z fn (.code .ret :: k) env S R :=
 az.ret hf (by rw [hr];exact h1) hR
theorem ajs {I:Inv} {z:Nat × Nat} {fn:FuncId} {R:V→Mem→Prop} {k:List Item} {env:List V} {S:Mem} {P:Program} {f:Func} {v u:V} {a b:Nat} {t:TypeId} (hf:P.funcs[fn]? = some f) (hr:f.results.toList=[.cell a t,.tmp b]) (h1:jE P S t (env.getD a .undef)=some v) (h2:env.getD b .undef=u) (hR:R (.fZ [v,u]) S):az P I z fn (.code .ret :: k) env S R :=
 az.ret hf (by rw [hr];simp only [DN,yp,h1,h2]) hR
theorem ajt {I:Inv} {z:Nat × Nat} {fn:FuncId} {R:V→Mem→Prop} {k:List Item} {env:List V} {S:Mem} {P:Program} {f:Func} {v u x:V} {a b c:Nat} {t tu:TypeId} (hf:P.funcs[fn]? = some f) (hr:f.results.toList=[.cell a t,.cell b tu,.tmp c]) (h1:jE P S t (env.getD a .undef)=some v) (h2:jE P S tu (env.getD b .undef)=some u) (h3:env.getD c .undef=x) (hR:R (.fZ [v,u,x]) S):az P I z fn (.code .ret :: k) env S R :=
 az.ret hf (by rw [hr];simp only [DN,yp,h1,h2,h3]) hR
theorem aju {I:Inv} {z:Nat × Nat} {fn:FuncId} {R:V→Mem→Prop} {k:List Item} {env:List V} {S:Mem} {P:Program} {f:Func} {v u x:V} {a b c:Nat} {t:TypeId} (hf:P.funcs[fn]? = some f) (hr:f.results.toList=[.cell a t,.tmp b,.tmp c]) (h1:jE P S t (env.getD a .undef)=some v) (h2:env.getD b .undef=u) (h3:env.getD c .undef=x) (hR:R (.fZ [v,u,x]) S):az P I z fn (.code .ret :: k) env S R :=
 az.ret hf (by rw [hr];simp only [DN,yp,h1,h2,h3]) hR
theorem Le {I:Inv} {z:Nat × Nat} {fn:FuncId} {R:V→Mem→Prop} {k:List Item} {env:List V} {S:Mem} {P:Program} {f:Func} {n:Nat} {Q:Prop} {v:V} {a:Nat} {t:TypeId} (b:CQ P fn f n∧Q) (hR:R v S) (hr:f.results.toList=[.cell a t]:=by exact rfl) (h1:jE P S t (env.getD a .undef)=some v:=by (first | simp only [W,seval,hn] | simp only [W,seval] | skip);exact rfl):az P I z fn (.code .ret :: k) env S R:=ajr b.1.1 hr h1 hR
theorem dx {I:Inv} {z:Nat × Nat} {fn:FuncId} {R:V→Mem→Prop} {k:List Item} {env:List V} {S:Mem} {P:Program} {f:Func} {n:Nat} {Q:Prop} {v u:V} {a c:Nat} {t:TypeId} (b:CQ P fn f n∧Q) (hR:R (.fZ [v,u]) S) (hr:f.results.toList=[.cell a t,.tmp c]:=by exact rfl) (h1:jE P S t (env.getD a .undef)=some v:=by (first | simp only [W,seval,hn] | simp only [W,seval] | skip);exact rfl) (h2:env.getD c .undef=u:=by (first | simp only [W,seval,hn] | simp only [W,seval] | skip);exact rfl):az P I z fn (.code .ret :: k) env S R:=ajs b.1.1 hr h1 h2 hR
theorem eR {I:Inv} {z:Nat × Nat} {fn:FuncId} {R:V→Mem→Prop} {k:List Item} {env:List V} {S:Mem} {P:Program} {f:Func} {n:Nat} {Q:Prop} {v u x:V} {a c e:Nat} {t tu:TypeId} (b:CQ P fn f n∧Q) (hR:R (.fZ [v,u,x]) S) (hr:f.results.toList=[.cell a t,.cell c tu,.tmp e]:=by exact rfl) (h1:jE P S t (env.getD a .undef)=some v:=by (first | simp only [W,seval,hn] | simp only [W,seval] | skip);exact rfl) (h2:jE P S tu (env.getD c .undef)=some u:=by (first | simp only [W,seval,hn] | simp only [W,seval] | skip);exact rfl) (h3:env.getD e .undef=x:=by (first | simp only [W,seval,hn] | simp only [W,seval] | skip);exact rfl):az P I z fn (.code .ret :: k) env S R:=ajt b.1.1 hr h1 h2 h3 hR
theorem UP {I:Inv} {z:Nat × Nat} {fn:FuncId} {R:V→Mem→Prop} {k:List Item} {env:List V} {S:Mem} {P:Program} {f:Func} {n:Nat} {Q:Prop} {v u x:V} {a c e:Nat} {t:TypeId} (b:CQ P fn f n∧Q) (hR:R (.fZ [v,u,x]) S) (hr:f.results.toList=[.cell a t,.tmp c,.tmp e]:=by exact rfl) (h1:jE P S t (env.getD a .undef)=some v:=by (first | simp only [W,seval,hn] | simp only [W,seval] | skip);exact rfl) (h2:env.getD c .undef=u:=by (first | simp only [W,seval,hn] | simp only [W,seval] | skip);exact rfl) (h3:env.getD e .undef=x:=by (first | simp only [W,seval,hn] | simp only [W,seval] | skip);exact rfl):az P I z fn (.code .ret :: k) env S R:=aju b.1.1 hr h1 h2 h3 hR
def jr (t:bJ):List V:=[.d (.int .i64 t.kind),.d (.str t.name),.d (.sl (t.elem.map eH))]
def mg (x:bh):List V:=[.d (.int .i64 x.kind),.d (.str x.text),.d (.int .u64 x.int),.d (.int .i64 x.type.kind),.d (.str x.type.name),.d (.sl (x.type.elem.map eH)),.d (.sl (gN x.names)),.d (.sl (x.kids.map eL))]
def RTy (t:bJ):Prop:=∀ (u:bJ) (B:bQ) (T:eg),cy prog bI 35 [cH t,cH u] ⟨B,T⟩ (cF (.d (.bool (rq t u))) ⟨B,T⟩)
theorem UQ (t:bJ) (h:∀ u∈t.elem,RTy u):RTy t:=by
 intro u B T;obtain ⟨N,hn⟩:=aV B.length;have hS:rq t u=(decide (t.kind=u.kind) && (t.name == u.name) && ir t.elem u.elem):=by cases t;rw [rq];rfl
 unfold cH
 by_cases h1:t.kind=u.kind
 case neg =>
  have e1:=af h1;refine gL Bo fun cG=>?_;simp only [fH] at cG;simp only [W,seval,Bo,hn,e1,aO,aK];refine bN Bo (Left.box ?_);rw [hS,e1];exact ⟨rfl,rfl⟩
 have e1:=ah h1
 by_cases h2:t.name=u.name
 case neg =>
  have e2:=af h2;refine gL Bo fun cG=>?_;simp only [fH] at cG;simp only [W,seval,Bo,hn,e1,e2,aO,aK];refine bN Bo (Left.box ?_);rw [hS,cB.2 h2,gC];exact ⟨rfl,rfl⟩
 have e2:=ah h2
 by_cases h3:t.elem.length=u.elem.length
 case neg =>
  have e3:decide ((t.elem.length:Int)=(u.elem.length:Int))=false:=af ak;refine gL Bo fun cG=>?_;simp only [fH] at cG;simp only [W,seval,Bo,hn,e1,e2,e3,aO,aK];refine bN Bo (Left.box ?_);rw [hS,zb _ _ h3,gC];exact ⟨rfl,rfl⟩
 have e3:decide ((t.elem.length:Int)=(u.elem.length:Int))=true:=ah ak;have hb:(t.name == u.name)=true:=iK.2 h2;rw [e1,hb,bY,bY] at hS;refine gL Bo fun cG=>?_;simp only [fH] at cG;simp only [W,seval,Bo,hn,e1,e2,e3,aO,aK];refine az.dL (fun i:Nat=>(cN 46 [(2,.ptr N 0),(3,.ptr (N+1) 0),(5,.d (.int .i64 (i:Int)))],⟨B++[jr t,jr u],T⟩)) (fun i=>i≤t.elem.length∧ir (t.elem.drop i) (u.elem.drop i)=ir t.elem u.elem) (fun i=>t.elem.length - i) 0 ⟨ak,rfl⟩ cx rfl ?_;rintro i ⟨h1,h4⟩ ih;dsimp only at h1 h4 ih ⊢
 by_cases bu:i < t.elem.length
 case neg =>
  have e4:decide ((i:Int) < (t.elem.length:Int))=false:=af ak;rw [ay (show t.elem.length≤i by omega),ay (show u.elem.length≤i by omega)] at h4;refine goN ?_;simp only [W,seval,Bo,hn,e4,jr];refine bN Bo (Left.box ?_);rw [hS,← h4];exact ⟨rfl,rfl⟩
 have Z0:i < u.elem.length:=ak;have e4:decide ((i:Int) < (t.elem.length:Int))=true:=ah ak;have ie:=bE ((i:Int)+1) ak;have hg:(t.elem.map eH)[i]? = some (eH t.elem[i]):=by simp [bu]
 have Yk:(u.elem.map eH)[i]? = some (eH u.elem[i]):=by simp [Z0]
 have hy:=h t.elem[i] (aH bu);rw [wO _ _ i bu Z0] at h4;obtain ⟨x,hx⟩:=aV (t.elem[i]);obtain ⟨y,hy'⟩:=aV (u.elem[i]);rw [hx] at hg hy h4;rw [hy'] at Yk h4;rw [eK] at hg Yk;unfold RTy cH at hy;refine goN ?_;simp only [W,seval,Bo,hn,e4,jr];refine az.draw cP cP (lA 60 _ _ ?_);simp only [W,seval,Bo,hn,hg,Yk,bu,Z0,jr];refine ⟨_,hy y _ _,?_⟩;cases hs:rq x y
 ·simp only [W,seval,Bo];refine goN ?_;simp only [W,seval,Bo,hn];refine bN Bo (Left.box ?_);rw [hs,bA] at h4;rw [hS,← h4];exact ⟨rfl,rfl⟩
 ·rw [hs,bY] at h4;simp only [W,seval,Bo];refine goN ?_;simp only [W,seval,Bo,hn,ie];exact ih (i+1) ⟨ak,h4⟩ ak _ _ cx rfl
mutual
theorem UR:∀ t:bJ,RTy t
 | .mk _ _ es=>UQ _ (Pw es)
theorem Pw:∀ (l:List bJ),∀ u∈l,RTy u
 | [],_,h=>absurd h aT
 | y :: l,x,h=>by
  rcases bB.1 h with e | e
  ·rw [e];exact UR y
  ·exact Pw l x e
end
theorem aaw (t u:bJ) (B:bQ) (T:eg):cy prog bI 151 [cH t,cH u] ⟨B,T⟩ (cF (.d (.bool (rq t u))) ⟨B,T⟩):=by
 obtain ⟨N,hn⟩:=aV B.length;have hy:=UR t u;unfold cH at hy ⊢;refine zR Yi ?_;simp only [W,seval,Yi,hn];refine aX (hy _ _) ?_;refine goN ?_;simp only [W,seval,Yi,hn];refine bN Yi (Left.box ?_);exact ⟨rfl,rfl⟩
theorem sB (t:bJ) (B:bQ) (T:eg):cy prog bI 125 [cH t] ⟨B,T⟩ (cF (.d (.bool (jz t.kind))) ⟨B,T⟩):=by
 obtain ⟨N,hn⟩:=aV B.length;unfold cH jz;cases h1:decide (2≤t.kind)
 all_goals
  refine zR ab6 ?_;simp only [W,seval,ab6,hn,h1];refine bN ab6 (Left.box ?_);exact ⟨rfl,rfl⟩
theorem Px (x:bh) (hx:x.kind=5→x.kids ≠ []) (B:bQ) (T:eg):cy prog bI 147 [fK x] ⟨B,T⟩ (cF (.d (.bool (kL x))) ⟨B,T⟩):=by
 obtain ⟨N,hn⟩:=aV B.length;obtain ⟨k,tx,i,ty,ns,ks⟩:=x;unfold fK kL;dsimp only [bh.kind,bh.text,bh.int,bh.type,bh.names,bh.kids] at hx ⊢;cases h1:decide (k=2)
 ·cases h5:decide (k=5)
  ·refine zR IT ?_;simp only [W,seval,IT,hn,h1,h5];refine bN IT (Left.box ?_);exact ⟨rfl,rfl⟩
  ·cases ks with
   | nil=>exact absurd rfl (hx (bV h5))
   | cons y l =>
    refine zR IT ?_;simp only [W,seval,IT,hn,h1,h5,dF y];refine bN IT (Left.box ?_);exact ⟨rfl,rfl⟩
 ·refine zR IT ?_;simp only [W,seval,IT,hn,h1];refine bN IT (Left.box ?_);exact ⟨rfl,rfl⟩
theorem jR (x:bh) (l:List bh):fK (bg x l) = .agg [.d (.int .i64 x.kind),.d (.str x.text),.d (.int .u64 x.int),.d (.int .i64 x.type.kind),.d (.str x.type.name),.d (.sl (x.type.elem.map eH)),.d (.sl (gN x.names)),.d (.sl (l.map eL))]:=by
 cases x;rfl
theorem tL (x:bh) (l:List bh) (B:bQ) (T:eg):cy prog bI 144 [fK x,.d (.sl (l.map eL))] ⟨B,T⟩ (cF (fK (bg x l)) ⟨B,T⟩):=by
 obtain ⟨N,hn⟩:=aV B.length;rw [jR];unfold fK;refine zR ab7 ?_;simp only [W,seval,ab7,hn];refine Le ab7 (Left.box ?_);exact ⟨rfl,rfl⟩
theorem uJ (k:Int) (B:bQ) (T:eg):cy prog bI 13 [.d (.int .i64 k)] ⟨B,T⟩ (cF (.d (.int .u64 (iQ k))) ⟨B,T⟩):=by
 cases h0:decide (k < 0)
 case true =>
  have h1:=bV h0;have e:iQ k=0:=by unfold iQ;simp only [show ¬ k=2 by omega,show ¬ k=3 by omega,show ¬ k=4 by omega,show ¬ k=5 by omega,show ¬ k=6 by omega,if_false]
  rw [e];refine gL Yj fun cG=>?_;simp only [fH] at cG;simp only [W,seval,Yj,h0,bL,bC,Nat.reduceMul];refine bN Yj (Left.none ?_);exact ⟨rfl,rfl⟩
 case false =>
  have h1:=dJ h0;cases h7:decide (7≤k)
  case true =>
   have h2:=bV h7;have e:iQ k=0:=by unfold iQ;simp only [show ¬ k=2 by omega,show ¬ k=3 by omega,show ¬ k=4 by omega,show ¬ k=5 by omega,show ¬ k=6 by omega,if_false]
   rw [e];refine gL Yj fun cG=>?_;simp only [fH] at cG;simp only [W,seval,Yj,h0,h7,bL,bC,Nat.reduceMul];refine bN Yj (Left.none ?_);exact ⟨rfl,rfl⟩
  case false =>
   have h2:=dJ h7;have:k=0∨k=1∨k=2∨k=3∨k=4∨k=5∨k=6:=ak;rcases this with rfl | rfl | rfl | rfl | rfl | rfl | rfl
   all_goals
    refine gL Yj fun cG=>?_;simp only [fH] at cG;simp only [W,seval,Yj,h0,h7,bL,bC,Nat.reduceMul];refine bN Yj (Left.none ?_);exact ⟨rfl,rfl⟩
def NT:=KB func120 28
def NU:=KB func121 28
def IU:=KB func122 35
def As:=KB func148 51
def US:=KB func79 24
def Wy:=KB func80 19
def oW {α:Type} (nm:α→List UInt8):List α→List UInt8→Int→Int
 | [],_,_=>-1
 | x :: l,n,i=>if nm x=n then i else oW nm l n (i+1)
theorem vj {α:Type} (nm:α→List UInt8):∀ (l:List α) (n:List UInt8) (i:Int),0≤i→(oW nm l n i = -1∧kK nm l n=none)∨∃ (j:Nat) (x:α),oW nm l n i=i+j∧l[j]? = some x∧kK nm l n=some x
 | [],_,_,_=>.inl ⟨rfl,rfl⟩
 | x :: l,n,i,hi=>by
  by_cases h:nm x=n
  ·exact .inr ⟨0,x,by simp [oW,h],rfl,by simp [kK,h]⟩
  ·rcases vj nm l n (i+1) ak with ⟨h1,h2⟩ | ⟨j,y,h1,h2,h3⟩
   ·exact .inl ⟨by simp [oW,h,h1],by simp [kK,h,h2]⟩
   ·exact .inr ⟨j+1,y,by simp [oW,h,h1];omega,by simpa using h2,by simp [kK,h,h3]⟩
theorem Py {α:Type} {nm:α→List UInt8} {l:List α} {n:List UInt8}:decide (oW nm l n 0 < 0)=(kK nm l n).isNone:=by
 rcases vj nm l n 0 ak with ⟨h1,h2⟩ | ⟨j,x,h1,h2,h3⟩
 ·rw [h1,h2];rfl
 ·rw [h1,h3];exact af ak
theorem UT {α:Type} {nm:α→List UInt8} {l:List α} {n:List UInt8}:decide (0≤oW nm l n 0)=(kK nm l n).isSome:=by
 rcases vj nm l n 0 ak with ⟨h1,h2⟩ | ⟨j,x,h1,h2,h3⟩
 ·rw [h1,h2];rfl
 ·rw [h1,h3];exact ah ak
theorem GI {α:Type} (nm:α→List UInt8) (l:List α) (n:List UInt8) (i:Nat) (h:i < l.length):oW nm (l.drop i) n i=if nm l[i]=n then (i:Int) else oW nm (l.drop (i+1)) n ((i+1:Nat):Int):=by
 rw [aJ h,oW];rfl
def mG (su:List eZ) (fu:List fL) (vv:V) (res:List bJ):List V:=[.d (.sl (su.map ki)),.d (.sl (fu.map lT)),vv,.d (.sl (res.map eH))]
inductive TW:bJ→Prop
 | leaf (k:Int) (n:List UInt8) (es:List bJ):k ≠ 8→TW (.mk k n es)
 | sl (n:List UInt8) (t:bJ):TW t→TW (.mk 8 n [t])
theorem TW.Au {t:bJ} (h:UG t):TW t:=by
 induction h with
 | bas k h1 h2=>exact .leaf k _ _ ak
 | SC n h=>exact .leaf 7 _ _ ak
 | sli t h ih=>exact .sl _ t ih
structure mh (l:List eZ) (m:List fL):Prop where
 su:l.length≤60000
 fu:m.length≤60000
 fl:∀ s∈l,s.fields.length≤60000∧∀ f∈s.fields,TW f.type
 pa:∀ f∈m,f.params.length≤60000∧f.results.length≤60000∧(∀ p∈f.params,TW p.type)∧∀ t∈f.results,TW t
theorem Aw (n:List UInt8) {c:Nat} {B:bQ} {T:eg} {su:List eZ} {fu:List fL} {vv:V} {res:List bJ} (hE:mh su fu) (hb:B[c]? = some (mG su fu vv res)) :
 cy prog bI 120 [.ptr c 0,.d (.str n)] ⟨B,T⟩ (cF (.d (.int .i64 (oW eZ.name su n 0))) ⟨B,T⟩):=by
 have sI:=hE.su;unfold mG at hb;refine gL NT fun cG=>?_;simp only [fH] at cG;simp only [W,seval,NT];refine az.dL (fun i:Nat=>(cN 28 [(0,.ptr c 0),(1,.d (.str n)),(5,.d (.int .i64 (i:Int)))],⟨B,T⟩)) (fun i=>i≤su.length∧oW eZ.name (su.drop i) n i=oW eZ.name su n 0) (fun i=>su.length - i) 0 ⟨ak,rfl⟩ cx rfl ?_;rintro i ⟨h1,h2⟩ ih;dsimp only at h1 h2 ih ⊢
 by_cases bu:i < su.length
 case neg =>
  have e1:decide ((i:Int) < (su.length:Int))=false:=af ak;rw [ay ak] at h2;refine goN ?_;simp only [W,seval,NT,hb,e1];refine bN NT (Left.none ?_);rw [← h2];exact ⟨rfl,rfl⟩
 have e1:decide ((i:Int) < (su.length:Int))=true:=ah ak;have ie:=bE ((i:Int)+1) ak;have hg:(su.map ki)[i]? = some (ki su[i]):=by simp [bu]
 rw [GI _ _ _ i bu] at h2;obtain ⟨s,hs⟩:=aV (su[i]);rw [hs] at hg h2;rw [wQ] at hg
 by_cases hn:s.name=n
 ·have e2:=ah hn;rw [aD hn] at h2;refine goN ?_;simp only [W,seval,NT,hb,e1,hg,bu,e2];refine bN NT (Left.none ?_);rw [← h2];exact ⟨rfl,rfl⟩
 ·have e2:=af hn;rw [aq hn] at h2;refine goN ?_;simp only [W,seval,NT,hb,e1,hg,bu,e2,ie];exact ih (i+1) ⟨ak,h2⟩ ak _ _ cx rfl
theorem IV (n:List UInt8) {c:Nat} {B:bQ} {T:eg} {su:List eZ} {fu:List fL} {vv:V} {res:List bJ} (hE:mh su fu) (hb:B[c]? = some (mG su fu vv res)) :
 cy prog bI 121 [.ptr c 0,.d (.str n)] ⟨B,T⟩ (cF (.d (.int .i64 (oW fL.name fu n 0))) ⟨B,T⟩):=by
 have sI:=hE.fu;unfold mG at hb;refine gL NU fun cG=>?_;simp only [fH] at cG;simp only [W,seval,NU];refine az.dL (fun i:Nat=>(cN 28 [(0,.ptr c 0),(1,.d (.str n)),(5,.d (.int .i64 (i:Int)))],⟨B,T⟩)) (fun i=>i≤fu.length∧oW fL.name (fu.drop i) n i=oW fL.name fu n 0) (fun i=>fu.length - i) 0 ⟨ak,rfl⟩ cx rfl ?_;rintro i ⟨h1,h2⟩ ih;dsimp only at h1 h2 ih ⊢
 by_cases bu:i < fu.length
 case neg =>
  have e1:decide ((i:Int) < (fu.length:Int))=false:=af ak;rw [ay ak] at h2;refine goN ?_;simp only [W,seval,NU,hb,e1];refine bN NU (Left.none ?_);rw [← h2];exact ⟨rfl,rfl⟩
 have e1:decide ((i:Int) < (fu.length:Int))=true:=ah ak;have ie:=bE ((i:Int)+1) ak;have hg:(fu.map lT)[i]? = some (lT fu[i]):=by simp [bu]
 rw [GI _ _ _ i bu] at h2;obtain ⟨s,hs⟩:=aV (fu[i]);rw [hs] at hg h2;rw [sV] at hg
 by_cases hn:s.name=n
 ·have e2:=ah hn;rw [aD hn] at h2;refine goN ?_;simp only [W,seval,NU,hb,e1,hg,bu,e2];refine bN NU (Left.none ?_);rw [← h2];exact ⟨rfl,rfl⟩
 ·have e2:=af hn;rw [aq hn] at h2;refine goN ?_;simp only [W,seval,NU,hb,e1,hg,bu,e2,ie];exact ih (i+1) ⟨ak,h2⟩ ak _ _ cx rfl
theorem Lf (n:List UInt8) {c:Nat} {B:bQ} {T:eg} {su:List eZ} {fu:List fL} {vv:V} {res:List bJ} (hE:mh su fu) (hb:B[c]? = some (mG su fu vv res)) :
 cy prog bI 80 [.ptr c 0,.d (.str n)] ⟨B,T⟩ (cF (.d (.bool (ku su fu n))) ⟨B,T⟩):=by
 have hf:ku su fu n=(!(n == [95]) && decide (oW eZ.name su n 0 < 0) && decide (oW fL.name fu n 0 < 0)):=by
  rw [Py,Py,ku,Bool.and_comm,Bool.and_assoc]
 by_cases h1:n=[95]
 ·have e1:=ah h1;rw [iK.2 h1] at hf;refine zR Wy ?_;simp only [W,seval,Wy,e1,aK];refine bN Wy (Left.none ?_);rw [hf];exact ⟨rfl,rfl⟩
 have e1:=af h1;rw [cB.2 h1] at hf;refine zR Wy ?_;simp only [W,seval,Wy,e1,aO];refine aX (Aw n hE hb) ?_;cases h2:decide (oW eZ.name su n 0 < 0)
 ·refine goN ?_;simp only [W,seval,Wy,h2];refine bN Wy (Left.none ?_);rw [hf,h2];exact ⟨rfl,rfl⟩
 ·refine goN ?_;simp only [W,seval,Wy,h2];refine aX (IV n hE hb) ?_;refine goN ?_;simp only [W,seval,Wy];refine bN Wy (Left.none ?_);rw [hf,h2];exact ⟨rfl,rfl⟩
theorem BQ (su:List eZ) (n:List UInt8) (t:bJ):dH su (.mk 8 n [t])=dH su t:=by
 conv=>lhs;unfold dH
 exact aD rfl
theorem wV (su:List eZ) (k:Int) (n:List UInt8) (es:List bJ) (hk:k ≠ 8):dH su (.mk k n es)=(decide (k ≠ 7) || (kK eZ.name su n).isSome):=by
 unfold dH;rw [aq hk]
theorem uK:∀ (t:bJ),TW t→∀ {c:Nat} {B:bQ} {T:eg} {su:List eZ} {fu:List fL} {vv:V} {res:List bJ},mh su fu→c < B.length→B[c]? = some (mG su fu vv res) →
 cy prog bI 79 [.ptr c 0,cH t] ⟨B,T⟩ (cF (.d (.bool (dH su t))) ⟨B,T⟩):=by
 intro t ht
 induction ht with
 | leaf k n es hk =>
  intro c B T su fu vv res hE hc hb;obtain ⟨N,hn⟩:=aV B.length;have hi:c < N:=ak;have e8:=af hk;have hs:dH su (.mk k n es)=(decide (k ≠ 7) || decide (0≤oW eZ.name su n 0)):=by rw [wV su k n es hk,UT]
  unfold cH
  by_cases h7:k=7
  ·have e7:=ah h7;refine gL US fun cG=>?_;simp only [fH] at cG;simp only [W,seval,US,hn,e8,e7,bJ.kind,bJ.name,bJ.elem,aK];refine aX (Aw n hE (by rw [bt hc];exact hb)) ?_;refine goN ?_;simp only [W,seval,US,hn];refine bN US (Left.box ?_);rw [hs,show decide (k ≠ 7)=false from af fun h=>h h7,eN];exact ⟨rfl,rfl⟩
  ·have e7:=af h7;refine gL US fun cG=>?_;simp only [fH] at cG;simp only [W,seval,US,hn,e8,e7,bJ.kind,bJ.name,bJ.elem,aO];refine bN US (Left.box ?_);rw [hs,show decide (k ≠ 7)=true from ah h7,gq];exact ⟨rfl,rfl⟩
 | sl n t ht ih =>
  intro c B T su fu vv res hE hc hb;obtain ⟨N,hn⟩:=aV B.length;have hi:c < N:=ak;have hs:dH su (.mk 8 n [t])=dH su t:=BQ su n t;have ih:=fun (B:bQ) T (hc:c < B.length) hb=>@ih c B T su fu vv res hE hc hb;unfold cH at ih ⊢;refine gL US fun cG=>?_;simp only [fH] at cG;simp only [W,seval,US,hn,bJ.kind,bJ.name,bJ.elem,cR,cw,eB,eK];refine aX (ih _ _ fk (by rw [bt hc];exact hb)) ?_;refine goN ?_;simp only [W,seval,US,hn];refine bN US (Left.box ?_);rw [hs];exact ⟨rfl,rfl⟩
theorem RF {su:List eZ} {t:bJ} {n:List UInt8}:(t.kind=7∧∃ (j:Nat) (s:eZ),oW eZ.name su t.name 0=j∧su[j]? = some s∧lO su t n=(kK ep.name s.fields n).map ep.type)∨((t.kind=7→oW eZ.name su t.name 0 < 0)∧lO su t n=none):=by
 unfold lO
 by_cases h7:t.kind=7
 ·rw [aD h7];rcases vj eZ.name su t.name 0 ak with ⟨h1,h2⟩ | ⟨j,s,h1,h2,h3⟩
  ·exact .inr ⟨fun _=>ak,by rw [h2]⟩
  ·exact .inl ⟨h7,j,s,ak,h2,by rw [h3]⟩
 ·exact .inr ⟨fun h=>absurd h h7,aq h7⟩
def Ew (r:Option bJ) (v:V):Prop :=
 match r with
 | some t=>v = .fZ [cH t,.d (.bool true)]
 | none=>v = .fZ [cH eF,.d (.bool false)]
theorem GJ (t:bJ) (n:List UInt8) {c:Nat} {B:bQ} {T:eg} {su:List eZ} {fu:List fL} {vv:V} {res:List bJ} (hE:mh su fu) (hc:c < B.length) (hb:B[c]? = some (mG su fu vv res)) :
 cy prog bI 148 [.ptr c 0,cH t,.d (.str n)] ⟨B,T⟩ fun v S=>Ew (lO su t n) v∧S=⟨B,T⟩:=by
 obtain ⟨N,hn⟩:=aV B.length;have hi:c < N:=ak;have vG:=hb;unfold mG at vG;unfold cH;rcases @RF su t n with ⟨h7,j,s,h1,h2,h3⟩ | ⟨h7,h3⟩
 ·have e7:=ah h7;have hj:=(ai.1 h2).1;have cG:s∈su:=eM h2;obtain ⟨wI,_⟩:=hE.fl s cG;have e1:decide ((j:Int) < 0)=false:=af ak;have hg:(su.map ki)[j]? = some (ki s):=by rw [aL,h2];rfl
  rw [wQ] at hg;refine gL As fun cG=>?_;simp only [fH] at cG;simp only [W,seval,As,hn];refine aX (Aw t.name hE (by rw [bt hc];exact hb)) ?_;rw [h1];refine goN ?_;simp only [W,seval,As,hn,hi,vG,e7,e1,hg,hj,aK];refine az.dL (fun i:Nat=>(cN 51 [(2,.d (.str n)),(6,.ptr (N+1) 0),(9,.d (.sl (s.fields.map jK))),(10,.d (.int .i64 (i:Int)))],⟨B++[jr t,[.d (.int .i64 0),.d (.str []),.sl [] .full]],T⟩)) (fun i=>i≤s.fields.length∧kK ep.name (s.fields.drop i) n=kK ep.name s.fields n) (fun i=>s.fields.length - i) 0 ⟨ak,rfl⟩ cx rfl ?_;rintro i ⟨h4,h5⟩ ih;dsimp only at h4 h5 ih ⊢
  by_cases bu:i < s.fields.length
  case neg =>
   have e2:decide ((i:Int) < (s.fields.length:Int))=false:=af ak;rw [ay ak] at h5;refine goN ?_;simp only [W,seval,As,hn,e2,jr];refine dx As (Left.box ?_);rw [h3,← h5];exact ⟨rfl,rfl⟩
  have e2:decide ((i:Int) < (s.fields.length:Int))=true:=ah ak;have ie:=bE ((i:Int)+1) ak;have Ex:(s.fields.map jK)[i]? = some (jK s.fields[i]):=by simp [bu]
  rw [aJ bu,kK] at h5;obtain ⟨f,hf⟩:=aV (s.fields[i]);rw [hf] at Ex h5;rw [qB] at Ex
  by_cases Df:f.name=n
  ·have e3:=ah Df;rw [aD Df] at h5;refine goN ?_;simp only [W,seval,As,hn,e2,e3,Ex,bu,jr];refine dx As (Left.box ?_);rw [h3,← h5];exact ⟨rfl,rfl⟩
  ·have e3:=af Df;rw [aq Df] at h5;refine goN ?_;simp only [W,seval,As,hn,e2,e3,Ex,bu,ie];exact ih (i+1) ⟨ak,h5⟩ ak _ _ cx rfl
 ·refine gL As fun cG=>?_;simp only [fH] at cG;simp only [W,seval,As,hn];refine aX (Aw t.name hE (by rw [bt hc];exact hb)) ?_
  by_cases h8:t.kind=7
  ·have e7:=ah h8;have e1:=ah (h7 h8);refine goN ?_;simp only [W,seval,As,hn,e7,e1,aK];refine dx As (Left.box ?_);rw [h3];exact ⟨rfl,rfl⟩
  ·have e7:=af h8;refine goN ?_;simp only [W,seval,As,hn,e7,aO];refine dx As (Left.box ?_);rw [h3];exact ⟨rfl,rfl⟩
theorem Yl (i n cap:Nat):uw (.bx i n cap)=none:=rfl
theorem Ym (e a b:Nat) (g:Bool) (z:List V) (i n cap:Nat):Bu ⟨.slice e,a,b,g,z⟩ (.bx i n cap)=some (.d (.int .i64 (n:Int))):=rfl
theorem Yn (P:Program) (e a b:Nat) (g:Bool) (z:List V) (i n cap:Nat) (k:Int):Hx P ⟨.slice e,a,b,g,z⟩ (.bx i n cap) k=match eT P e with
 | some te=>if 0≤k∧k < (n:Int) then some (.ptr i (k.toNat * te.size)) else none
 | none=>none:=rfl
set_option linter.defProp false in
def oE:=And.intro Yl (And.intro Ym Yn)
def mj (B:bQ) (c:Nat) (vv:V) (vs:List ep):Prop :=
 (vs=[]∧vv = .sl [] .full)∨∃ (i cap:Nat) (J:List V),vv = .bx i vs.length cap∧i ≠ c∧B[i]? = some ((vs.map jK).flatten.map .d++J)∧J.length=(cap - vs.length) * 4∧vs.length≤cap∧vs.length≤9223372036854775806
theorem mj.more {B J:bQ} {c:Nat} {vv:V} {vs:List ep} (h:mj B c vv vs):mj (B++J) c vv vs:=by
 rcases h with h | ⟨i,cap,K,h1,h2,h3,h4⟩
 ·exact .inl h
 ·exact .inr ⟨i,cap,K,h1,h2,by rw [bt (ai.1 h3).1];exact h3,h4⟩
theorem afD (vs:List ep):∀ r∈vs.map jK,r.length=4:=by
 intro r hr;obtain ⟨p,_,rfl⟩:=eu.1 hr;rfl
theorem vk (vs:List ep):(vs.map jK).flatten.length=vs.length * 4:=by
 induction vs with
 | nil=>rfl
 | cons p l ih=>rw [cw,gM,av,ih,aP];simp [jK];omega
theorem ab8 {vs:List ep} {J X:List V} (hX:X=(vs.map jK).flatten.map .d++J) {j:Nat} {p:ep} (hj:vs[j]? = some p) :
 X[j * 4]? = some (.d (.str p.name))∧j * 4+1+3≤X.length∧(X.drop (j * 4+1)).take 3=jr p.type:=by
 have bu:=(ai.1 hj).1;have hlen:=vk vs;have hXl:X.length=vs.length * 4+J.length:=by rw [hX,av,aS,hlen]
 have hr:(vs.map jK)[j]? = some (jK p):=by rw [aL,hj];rfl
 have get:∀ q d,(jK p)[q]? = some d→X[j * 4+q]? = some (.d d):=by
  intro q d hq;have h1:=wH (afD vs) j q (jK p) d hr hq;rw [hX,bk (by rw [aS];exact (ai.1 h1).1),aL,h1];rfl
 refine ⟨by simpa using get 0 _ rfl,ak,?_⟩;have h1:=get 1 _ rfl;have h2:=get 2 _ rfl;have h3:=get 3 _ rfl;apply fW;intro q;rw [bp]
 split
 ·rename_i hq;rw [dS]
  match q,hq with
  | 0,_=>exact h1
  | 1,_=>exact h2
  | 2,_=>exact h3
 ·rename_i hq;rw [dP (by simp [jr];omega)]
theorem Pz (n:List UInt8) {c:Nat} {B:bQ} {T:eg} {su:List eZ} {fu:List fL} {vs:List ep} {vv:V} {res:List bJ} (hc:c < B.length) (hb:B[c]? = some (mG su fu vv res)) (hv:mj B c vv vs) :
 cy prog bI 122 [.ptr c 0,.d (.str n)] ⟨B,T⟩ fun v S=>Ew ((kK ep.name vs n).map ep.type) v∧S=⟨B,T⟩:=by
 obtain ⟨N,hn⟩:=aV B.length;have hi:c < N:=ak;unfold mG at hb;refine gL IU fun cG=>?_;simp only [fH] at cG;simp only [W,seval,IU,hn];rcases hv with ⟨rfl,rfl⟩ | ⟨i,cap,J,rfl,hic,hB,hJ,gh,hlen⟩
 ·refine az.dL (fun _:Unit=>(cN 35 [(0,.ptr c 0),(1,.d (.str n)),(4,.ptr N 0),(6,.d (.int .i64 0))],⟨B++[[.d (.int .i64 0),.d (.str []),.sl [] .full]],T⟩)) (fun _=>True) (fun _=>0) () trivial cx rfl ?_;rintro _ _ _;refine goN ?_;simp only [W,seval,IU,hn,hi,hb];refine dx IU (Left.box ?_);exact ⟨rfl,rfl⟩
 obtain ⟨X,hX⟩:∃ X,X=(vs.map jK).flatten.map V.d++J:=⟨_,rfl⟩;rw [← hX] at hB;have hiN:i < N:=by rw [← hn];exact (ai.1 hB).1
 refine az.dL (fun j:Nat=>(cN 35 [(0,.ptr c 0),(1,.d (.str n)),(4,.ptr N 0),(6,.d (.int .i64 (j:Int)))],⟨B++[[.d (.int .i64 0),.d (.str []),.sl [] .full]],T⟩)) (fun j=>j≤vs.length∧kK ep.name (vs.drop j) n=kK ep.name vs n) (fun j=>vs.length - j) 0 ⟨ak,rfl⟩ cx rfl ?_;rintro j ⟨h4,h5⟩ ih;dsimp only at h4 h5 ih ⊢
 by_cases bu:j < vs.length
 case neg =>
  have e2:decide ((j:Int) < (vs.length:Int))=false:=af ak;rw [ay ak] at h5;refine goN ?_;simp only [W,seval,IU,oE,hn,hi,hb,e2];refine dx IU (Left.box ?_);rw [← h5];exact ⟨rfl,rfl⟩
 have e2:decide ((j:Int) < (vs.length:Int))=true:=ah ak;have ie:=bE ((j:Int)+1) ak;obtain ⟨x1,x2,x3⟩:=ab8 hX (au bu);rw [aJ bu,kK] at h5;obtain ⟨p,hp⟩:=aV (vs[j]);rw [hp] at h5 x1 x3;have dY:(j:Int) < (vs.length:Int):=ak
 by_cases Df:p.name=n
 ·have e3:=ah Df;rw [aD Df] at h5;refine goN ?_;simp only [W,seval,IU,oE,hn,hi,hiN,hb,hB,e2,e3,x1,x2,x3,bu,dY,jr];refine dx IU (Left.box ?_);rw [← h5];exact ⟨rfl,rfl⟩
 ·have e3:=af Df;rw [aq Df] at h5;refine goN ?_;simp only [W,seval,IU,oE,hn,hi,hiN,hb,hB,e2,e3,x1,x2,x3,bu,dY,ie];exact ih (j+1) ⟨ak,h5⟩ ak _ _ cx rfl
def sY (f:Nat→Nat→List V→Prop) (n:Nat) (B:bQ) (lo hi:Nat) (v:V):Prop :=
 (n=0∧v = .d (.sl [])∧lo≤hi)∨(n ≠ 0∧∃ j cap Y,v = .bx j n cap∧lo≤j∧j < hi∧B[j]? = some Y∧f (j+1) hi Y)
theorem sY.le {f:Nat→Nat→List V→Prop} {n:Nat} {B:bQ} {lo hi:Nat} {v:V} (h:sY f n B lo hi v):lo≤hi:=by
 rcases h with ⟨_,_,h⟩ | ⟨_,j,cap,Y,_,h1,h2,_⟩<;>omega
theorem sY.frame {f g:Nat→Nat→List V→Prop} {n:Nat} {B B':bQ} {lo hi:Nat} {v:V} (h:sY f n B lo hi v) (hb:∀ i,lo≤i→i < hi→B'[i]? = B[i]?) (hf:∀ a Y,lo≤a→f a hi Y→g a hi Y):sY g n B' lo hi v:=by
 rcases h with h | ⟨hn,j,cap,Y,rfl,h1,h2,h3,h4⟩
 ·exact .inl h
 ·exact .inr ⟨hn,j,cap,Y,rfl,h1,h2,by rw [hb j h1 h2];exact h3,hf _ _ ak h4⟩
def gD {α:Type} (sz:Nat) (f:α→Nat→Nat→List V→Prop):List α→Nat→Nat→List V→Prop
 | [],lo,hi,_=>lo≤hi
 | x :: l,lo,hi,X=>∃ r X' m,X=r++X'∧r.length=sz∧lo≤m∧m≤hi∧f x lo m r∧gD sz f l m hi X'
theorem gD.le {α:Type} {sz:Nat} {f:α→Nat→Nat→List V→Prop}:∀ {l:List α} {lo hi:Nat} {X:List V},gD sz f l lo hi X→lo≤hi
 | [],_,_,_,h=>h
 | x :: l,lo,hi,X,⟨r,X',m,_,_,h1,h2,_⟩=>ak
theorem gD.congr {α:Type} {sz:Nat} {f g:α→Nat→Nat→List V→Prop}:∀ {l:List α} {lo hi:Nat} {X:List V},gD sz f l lo hi X→(∀ x∈l,∀ a b r,lo≤a→b≤hi→f x a b r→g x a b r)→gD sz g l lo hi X
 | [],_,_,_,h,_=>h
 | x :: l,lo,hi,X,⟨r,X',m,h1,h2,h3,h4,h5,h6⟩,hg=>⟨r,X',m,h1,h2,h3,h4,hg x dM _ _ _ (aA _) h4 h5,h6.congr fun y hy a b r' ha hb hf=>hg y (by simp [hy]) a b r' ak hb hf⟩
theorem gD.at {α:Type} {sz:Nat} {f:α→Nat→Nat→List V→Prop}:∀ {l:List α} {lo hi:Nat} {X:List V},gD sz f l lo hi X→∀ (k:Nat) (x:α),l[k]? = some x →
 ∃ A r C Wz rE,X=A++r++C∧A.length=k * sz∧r.length=sz∧lo≤Wz∧Wz≤rE∧rE≤hi∧f x Wz rE r ∧
  ∀ (g:α→Nat→Nat→List V→Prop) (y:α) (r':List V),r'.length=sz→g y Wz rE r'→(∀ z∈l,∀ a b q,lo≤a→b≤hi→(b≤Wz∨rE≤a)→f z a b q→g z a b q)→gD sz g (l.set k y) lo hi (A++r'++C)
 | [],_,_,_,_,k,x,hk=>by simp at hk
 | z :: l,lo,hi,X,⟨r,X',m,h1,h2,h3,h4,h5,h6⟩,0,x,hk=>by
  obtain rfl:z=x:=by simpa using hk
  refine ⟨[],r,X',lo,m,by simpa using h1,dM,h2,Nat.le_refl _,h3,h4,h5,fun g y r' hr hy hg=>⟨r',X',m,dM,hr,h3,h4,hy,h6.congr fun u hu a b q ha hb hf=>hg u (by simp [hu]) a b q ak hb (.inr ha) hf⟩⟩
 | z :: l,lo,hi,X,⟨r,X',m,h1,h2,h3,h4,h5,h6⟩,k+1,x,hk=>by
  obtain ⟨A,q,C,Wz,rE,e1,e2,e3,e4,e5,e6,e7,e8⟩:=gD.at h6 k x (by simpa using hk);refine ⟨r++A,q,C,Wz,rE,by rw [h1,e1];simp,by rw [av,h2,e2,ej];omega,e3,ak,e5,e6,e7,fun g y r' hr hy hg=>?_⟩;refine ⟨r,A++r'++C,m,dM,h2,h3,h4,hg z dM _ _ _ (aA _) h4 (.inl e4) h5,e8 g y r' hr hy fun u hu a b p ha hb hc hf=>hg u (by simp [hu]) a b p ak hb hc hf⟩
theorem gD.len {α:Type} {sz:Nat} {f:α→Nat→Nat→List V→Prop}:∀ {l:List α} {lo hi:Nat} {X:List V},gD sz f l lo hi X→l.length * sz≤X.length
 | [],_,_,_,_=>dM
 | x :: l,lo,hi,X,⟨r,X',m,h1,h2,h3,h4,h5,h6⟩=>by
  have:=gD.len h6;rw [h1,av,aP,ej];omega
def ef (x:bh) (kv:V):List V:=[.d (.int .i64 x.kind),.d (.str x.text),.d (.int .u64 x.int),.d (.int .i64 x.type.kind),.d (.str x.type.name),.d (.sl (x.type.elem.map eH)),.d (.sl (gN x.names)),kv]
theorem BR {A C:List V} {x y:bh} {kv:V}:∀ v∈A++ef y kv++C,v∈A++ef x kv++C∨fit 0 0 v=true:=by
 intro v hv;simp only [dA,ef,bB,aT,sK] at hv ⊢;rcases hv with (hv | hv) | hv
 ·exact .inl (.inl (.inl hv))
 ·rcases hv with rfl | rfl | rfl | rfl | rfl | rfl | rfl | rfl
  all_goals first
   | exact .inr rfl
   | exact .inl (.inl (.inr dM))
 ·exact .inl (.inr hv)
mutual
def pS (B:bQ):bh→Nat→Nat→List V→Prop
 | .mk k t i ty ns ks=>fun lo hi r=>∃ kv,r=ef (.mk k t i ty ns ks) kv∧sY (rz B ks) ks.length B lo hi kv
def rz (B:bQ):List bh→Nat→Nat→List V→Prop
 | []=>fun lo hi _=>lo≤hi
 | x :: l=>fun lo hi X=>∃ r X' m,X=r++X'∧r.length=8∧lo≤m∧m≤hi∧pS B x lo m r∧rz B l m hi X'
end
theorem qH (B:bQ):∀ (l:List bh) (lo hi:Nat) (X:List V),rz B l lo hi X=gD 8 (pS B) l lo hi X
 | [],_,_,_=>by unfold rz gD;rfl
 | x :: l,lo,hi,X=>by
  unfold rz gD;simp only [qH B l]
def mY (B:bQ) (l:List bh) (lo hi:Nat) (v:V):Prop:=sY (rz B l) l.length B lo hi v
theorem pT {B:bQ} {x:bh} {lo hi:Nat} {r:List V}:pS B x lo hi r↔∃ kv,r=ef x kv∧mY B x.kids lo hi kv:=by
 cases x;unfold pS mY;rfl
mutual
theorem pS.frame {B B':bQ}:∀ (x:bh) {lo hi:Nat} {r:List V},pS B x lo hi r→(∀ i,lo≤i→i < hi→B'[i]? = B[i]?)→pS B' x lo hi r
 | .mk k t i ty ns ks,lo,hi,r,h,hb=>by
  unfold pS at h ⊢;obtain ⟨kv,h1,h2⟩:=h;exact ⟨kv,h1,h2.frame hb fun a Y ha hf=>rz.frame ks hf fun i h3 h4=>hb i ak h4⟩
theorem rz.frame {B B':bQ}:∀ (l:List bh) {lo hi:Nat} {X:List V},rz B l lo hi X→(∀ i,lo≤i→i < hi→B'[i]? = B[i]?)→rz B' l lo hi X
 | [],lo,hi,X,h,hb=>by
  unfold rz at h ⊢;exact h
 | x :: l,lo,hi,X,h,hb=>by
  unfold rz at h ⊢;obtain ⟨r,X',m,h1,h2,h3,h4,h5,h6⟩:=h;exact ⟨r,X',m,h1,h2,h3,h4,pS.frame x h5 fun i h7 h8=>hb i h7 ak,rz.frame l h6 fun i h7 h8=>hb i ak h8⟩
end
theorem mY.frame {B B':bQ} {l:List bh} {lo hi:Nat} {v:V} (h:mY B l lo hi v) (hb:∀ i,lo≤i→i < hi→B'[i]? = B[i]?):mY B' l lo hi v :=
 sY.frame h hb fun a Y ha hf=>rz.frame l hf fun i h3 h4=>hb i ak h4
def Out (j lo hi i:Nat):Prop:=i ≠ j∧(i < lo∨hi≤i)
def iC (j lo hi n:Nat) (B B':bQ):Prop:=B.length≤B'.length∧(∀ i,i < n→Out j lo hi i→B'[i]? = B[i]?)∧∀ i,i < n→∀ Y,B'[i]? = some Y→∀ v∈Y,(∃ X,B[i]? = some X∧v∈X)∨fit 0 0 v=true
theorem iC.mem {j lo hi n:Nat} {B B1 B2:bQ} (h:iC j lo hi n B B1) (hl:B.length≤B2.length) (he:∀ i,i < n→B2[i]? = B1[i]?):iC j lo hi n B B2 :=
 ⟨hl,fun i hn ho=>(he i hn).trans (h.2.1 i hn ho),fun i hn Y hY v hv=>h.2.2 i hn Y (by rw [← he i hn];exact hY) v hv⟩
theorem iC.refl (j lo hi n:Nat) (B:bQ):iC j lo hi n B B:=⟨aA _,fun _ _ _=>rfl,fun _ _ Y hY _ hv=>.inl ⟨Y,hY,hv⟩⟩
theorem iC.trans {j lo hi n:Nat} {B B1 B2:bQ} (h:iC j lo hi n B B1) (h1:iC j lo hi n B1 B2):iC j lo hi n B B2 :=
 ⟨iT h.1 h1.1,fun i hn hi=>(h1.2.1 i hn hi).trans (h.2.1 i hn hi),fun i hn Y hY v hv=>(h1.2.2 i hn Y hY v hv).elim (fun ⟨X,hX,hm⟩=>h.2.2 i hn X hX v hm) .inr⟩
theorem iC.less {j lo hi n m:Nat} {B B1:bQ} (h:iC j lo hi n B B1) (hm:m≤n):iC j lo hi m B B1:=⟨h.1,fun i hi=>h.2.1 i ak,fun i hi=>h.2.2 i ak⟩
theorem iC.sub {j lo hi n j1 lG kD:Nat} {B B1:bQ} (h:iC j1 lG kD n B B1) (h1:lo≤j1) (h2:j1 < hi) (h3:lo≤lG) (h4:kD≤hi):iC j lo hi n B B1 :=
 ⟨h.1,fun i hn ho=>h.2.1 i hn ⟨by have:=ho.2;omega,by have:=ho.2;omega⟩,h.2.2⟩
theorem iC.step {j lo hi:Nat} {B M B1:bQ} (h0:iC j lo hi B.length B M) (h:iC j lo hi M.length M B1):iC j lo hi B.length B B1:=h0.trans (h.less h0.1)
theorem iC.app {j lo hi:Nat} {B M J:bQ} (h0:iC j lo hi B.length B M):iC j lo hi B.length B (M++J):=h0.mem (by have:=h0.1;rw [av];omega) fun i hi=>bt (eS hi h0.1)
theorem iC.qI {j lo hi:Nat} {B M:bQ} {k:Nat} {x:List V} (h0:iC j lo hi B.length B M) (hk:B.length≤k):iC j lo hi B.length B (M.set k x):=h0.mem (by rw [aG];exact h0.1) fun i hi=>aj ak
theorem iC.new {j lo hi:Nat} {B J:bQ}:iC j lo hi B.length B (B++J):=(iC.refl _ _ _ _ B).app
theorem iC.cut {j lo hi:Nat} {B M:bQ} (h:iC j lo hi B.length B M):iC j lo hi B.length B (M.take B.length):=h.mem (by have:=h.1;rw [cg];omega) fun i hi=>by rw [bp,aD hi]
theorem Ey {j lo hi:Nat} {B M:bQ} {T K:eg} {R:V→Mem→Prop} {v:V} (he:iC j lo hi B.length B M) (h:R (wk B.length T.length v) ⟨M.take B.length,T⟩):Go.Ab.Left ⟨B,T⟩ R v ⟨M,T++K⟩:=by
 have hl:(M.take B.length).length=B.length:=by have:=he.1;rw [cg];omega
 have:=Go.Ab.Left.ofC (J:=M.drop B.length) (U:=T) (K:=K) hl rfl (fun i vs hi v hv=>?_) h
 ·rwa [eX] at this
 ·have bu:i < B.length:=by have:=(ai.1 hi).1;omega
  rw [bp,aD bu] at hi;exact (he.2.2 i bu vs hi v hv).imp id fun h=>uB (bG _) (bG _) v h
theorem bT {j lo hi:Nat} {B M:bQ} {T:eg} {R:V→Mem→Prop} {v:V} (he:iC j lo hi B.length B M) (h:R (wk B.length T.length v) ⟨M.take B.length,T⟩):Go.Ab.Left ⟨B,T⟩ R v ⟨M,T⟩:=by
 have:=Ey (K:=[]) he h
 rwa [aQ] at this
def FU (s f w:Nat) (res:List bJ):List V:=[.mp s,.mp f,.mp w,.d (.sl (res.map eH))]
def vU (l:List eZ):List V:=[.vY (l.map eZ.name) (l.map KX)]
def vV (l:List fL):List V:=[.vY (l.map fL.name) (l.map KY)]
def yC (l:List ep):List V:=[.vY (l.map ep.name) (l.map fun p=>cH p.type)]
structure Ax (B:bQ) (c s f w:Nat) (E:fm) (res:List bJ):Prop where
 c:B[c]? = some (FU s f w res)
 s:B[s]? = some (vU E.su)
 f:B[f]? = some (vV E.fu)
 w:B[w]? = some (yC E.vs)
theorem Ax.jC {B B':bQ} {c s f w:Nat} {E:fm} {res:List bJ} (h:Ax B c s f w E res) (hc:B'[c]? = B[c]?) (hs:B'[s]? = B[s]?) (hf:B'[f]? = B[f]?) (hw:B'[w]? = B[w]?):Ax B' c s f w E res :=
 ⟨by rw [hc];exact h.c,by rw [hs];exact h.s,by rw [hf];exact h.f,by rw [hw];exact h.w⟩
structure ic (B:bQ) (n c s f w:Nat) (E:fm) (res:List bJ) (j lo hi:Nat) (A C:List V) (kv:V) (x:bh):Prop where
 k:Ax B c s f w E res
 row:B[j]? = some (A++ef x kv++C)
 own:mY B x.kids lo hi kv
 jo:j < lo∨hi≤j
 oc:Out j lo hi c
 os:Out j lo hi s
 of:Out j lo hi f
 ow:Out j lo hi w
 nb:c < n∧s < n∧f < n∧w < n∧j < n∧hi≤n
 nl:n≤B.length
theorem ic.mem {B B':bQ} {n c s f w:Nat} {E:fm} {res:List bJ} {j lo hi:Nat} {A C:List V} {kv:V} {x:bh} (h:ic B n c s f w E res j lo hi A C kv x) (hl:B.length≤B'.length) (he:∀ i,i < n→B'[i]? = B[i]?):ic B' n c s f w E res j lo hi A C kv x:=by
 obtain ⟨n1,n2,n3,n4,n5,n6⟩:=h.nb;exact ⟨h.k.jC (he _ n1) (he _ n2) (he _ n3) (he _ n4),by rw [he _ n5];exact h.row,h.own.frame fun i _ hi=>he i ak,h.jo,h.oc,h.os,h.of,h.ow,h.nb,by have:=h.nl;omega⟩
theorem ic.more {B J:bQ} {n c s f w:Nat} {E:fm} {res:List bJ} {j lo hi:Nat} {A C:List V} {kv:V} {x:bh} (h:ic B n c s f w E res j lo hi A C kv x):ic (B++J) n c s f w E res j lo hi A C kv x :=
 h.mem dM fun i hi=>bt (eS hi h.nl)
theorem ic.WD {B B':bQ} {n c s f w:Nat} {E:fm} {res:List bJ} {j lo hi:Nat} {A C:List V} {kv:V} {x y:bh} (h:ic B n c s f w E res j lo hi A C kv x) (he:iC j lo hi n B B') (hr:B'[j]? = some (A++ef y kv++C)) (ho:mY B' y.kids lo hi kv):ic B' n c s f w E res j lo hi A C kv y:=by
 obtain ⟨n1,n2,n3,n4,n5,n6⟩:=h.nb;exact ⟨h.k.jC (he.2.1 _ n1 h.oc) (he.2.1 _ n2 h.os) (he.2.1 _ n3 h.of) (he.2.1 _ n4 h.ow),hr,ho,h.jo,h.oc,h.os,h.of,h.ow,h.nb,by have:=h.nl;have:=he.1;omega⟩
theorem dU (x:bh) (l:List bh):(bg x l).kids=l:=by cases x;rfl
theorem qJ (x:bh) (l:List bh) (kv:V):ef (bg x l) kv=ef x kv:=by cases x;rfl
theorem ic.r9 {B:bQ} {n c s f w:Nat} {E:fm} {res:List bJ} {j lo hi:Nat} {A C:List V} {kv:V} {x:bh} (h:ic B n c s f w E res j lo hi A C kv x) {k:Nat} {y:bh} (hk:x.kids[k]? = some y) :
 ∃ (j1 cap lG kD:Nat) (A1 C1:List V) (uL:V),kv = .bx j1 x.kids.length cap∧A1.length=k * 8∧(j1 < n∧Out j1 lG kD j)∧ic B n c s f w E res j1 lG kD A1 C1 uL y ∧
  (∀ B1 m,iC j1 lG kD m B B1→iC j lo hi m B B1) ∧
  ∀ B1 z,iC j1 lG kD n B B1→B1[j1]? = some (A1++ef z uL++C1)→mY B1 z.kids lG kD uL→ic B1 n c s f w E res j lo hi A C kv (bg x (x.kids.set k z)):=by
 have bu:=(ai.1 hk).1;rcases h.own with ⟨h0,_⟩ | ⟨hn,j1,cap,Y,h1,h2,h3,h4,h5⟩
 ·omega
 rw [qH] at h5;obtain ⟨A1,r,C1,lG,kD,e1,e2,e3,e4,e5,e6,e7,e8⟩:=h5.at k y hk;obtain ⟨uL,rfl,hv⟩:=pT.1 e7;obtain ⟨n1,n2,n3,n4,n5,n6⟩:=h.nb;have sub:∀ i,Out j lo hi i→Out j1 lG kD i:=fun i hi=>⟨by have:=hi.2;omega,by have:=hi.2;omega⟩;have hE:∀ B1 m,iC j1 lG kD m B B1→iC j lo hi m B B1:=fun B1 m he=>he.sub h2 h3 ak e6;have hjo:=h.jo;have CA:Out j1 lG kD j:=⟨ak,ak⟩;refine ⟨j1,cap,lG,kD,A1,C1,uL,h1,e2,⟨ak,CA⟩,⟨h.k,by rw [h4,e1],hv,ak,sub _ h.oc,sub _ h.os,sub _ h.of,sub _ h.ow,⟨n1,n2,n3,n4,ak,ak⟩,h.nl⟩,hE,fun B1 z he hr ho=>?_⟩;refine h.WD (hE _ _ he) ?_ ?_
 ·rw [qJ,he.2.1 j n5 CA];exact h.row
 ·rw [dU];refine .inr ⟨by rw [aG];exact hn,j1,cap,_,by rw [aG];exact h1,h2,h3,hr,?_⟩;rw [qH];refine e8 (pS B1) z _ rfl (pT.2 ⟨_,rfl,ho⟩) fun u _ a b q ha hb hc hf=>pS.frame u hf fun i h7 h8=>he.2.1 i ak ⟨ak,ak⟩
def SF:=KB func41 32
theorem wW (g:FuncId) (first caps:List V) (e:bJ→bJ→Bool) (a b:List bJ) (B:bQ) (T:eg) (hg:∀ x∈a,∀ y∈b,∀ J,cy prog bI g (first++[cH x,cH y]++caps) ⟨B++J,T⟩ (cF (.d (.bool (e x y))) ⟨B++J,T⟩)) :
 cy prog bI 41 [.d (.sl (a.map eH)),.d (.sl (b.map eH)),.func g first caps] ⟨B,T⟩ (cF (.d (.bool (Ij e a b))) ⟨B,T⟩):=by
 obtain ⟨N,hn⟩:=aV B.length;refine SF.1.go 8 rfl fun cG=>?_;simp only [fH] at cG;simp only [W,seval,SF,hn];refine az.aiB fun hfe=>?_;have afE:=hfe 2;simp only [zQ,Ie,MR,Nat.reduceBEq,Nat.reduceAdd,Nat.reduceSub,uC,nt,hn] at afE;clear hfe
 by_cases hl:a.length=b.length
 case neg =>
  have Cd:decide ((a.length:Int)=(b.length:Int))=false:=af ak;refine goN ?_;simp only [W,seval,SF,Cd,hn];refine bN SF (Left.none ?_);rw [OS e a b hl];exact ⟨rfl,rfl⟩
 have Cd:decide ((a.length:Int)=(b.length:Int))=true:=ah ak;refine az.go 30 ?_;simp only [W,seval,SF,Cd,hn];refine az.fits fun hf=>?_;refine az.m7 (fun i:Nat=>(cN 32 [(1,.d (.sl (b.map eH))),(2,.func g first caps),(15,.d (.sl (a.map eH))),(16,.d (.int .i64 a.length)),(17,.d (.int .i64 i))],⟨B,T⟩)) (fun i=>i≤a.length∧Ij e a b=Ij e (a.drop i) (b.drop i)) (fun i=>a.length - i) 0 ⟨ak,rfl⟩ cx rfl ?_;rintro i ⟨h1,h2⟩ ih;dsimp only at h1 h2 ih ⊢
 by_cases bu:i < a.length
 ·have hw:=bE ((i:Int)+1) ak;have ab9:i < b.length:=ak;have hga:=au bu;have hgb:=au ab9;have dY:decide ((i:Int) < (a.length:Int))=true:=ah ak;rw [Tu e a b i bu ab9] at h2;have hgx:=hg a[i] (aH bu) b[i] (aH ab9);obtain ⟨x,hx⟩:=aV (a[i]);obtain ⟨y,hy⟩:=aV (b[i]);rw [hx] at hga h2 hgx;rw [hy] at hgb h2 hgx;refine goN ?_;simp only [W,seval,SF,hn,aL,hga,hgb,dY,eK];refine rK (hgx _) ?_;refine goN ?_;simp only [W,seval,SF,hn];cases he:e x y
  ·simp only [W,seval,SF,hn,he];refine bN SF (Left.box ?_);rw [h2,he];exact ⟨rfl,rfl⟩
  ·simp only [W,seval,SF,hn,he,hw];rw [he,bY] at h2;refine ih (i+1) ⟨bu,h2⟩ ak _ _ _ _ rfl ⟨ak,aA _⟩ hf ?_;refine gr.env _ ?_;simp only [zB,seval,hn];exact afE
 ·have dY:decide ((i:Int) < (a.length:Int))=false:=af ak;refine goN ?_;simp only [W,seval,SF,hn,dY];refine bN SF (Left.none ?_);rw [h2,Xn e a b i ak ak];exact ⟨rfl,rfl⟩
mutual
def WE:bJ→bJ→Bool
 | .mk k n es,.mk k' n' es'=>decide (k=k') && (decide (n=n') && CW es es')
def CW:List bJ→List bJ→Bool
 | [],[]=>true
 | t :: a,u :: b=>WE t u && CW a b
 | [],_ :: _=>false
 | _ :: _,[]=>false
end
theorem UU:∀ a b:List bJ,CW a b=Ij WE a b
 | [],[]=>by rw [CW,Ij]
 | t :: a,u :: b=>by rw [CW,Ij,UU a b]
 | [],_ :: _=>by rw [CW,Ij]<;>simp
 | _ :: _,[]=>by rw [CW,Ij]<;>simp
theorem acd (t u:bJ):WE t u=(decide (t.kind=u.kind) && (decide (t.name=u.name) && Ij WE t.elem u.elem)):=by
 cases t;cases u;rw [WE,UU];rfl
def WH:=KB func37 24
def Yo (t:bJ):Prop:=∀ (u:bJ) (S:Mem),cy prog bI 37 [cH t,cH u] S (cF (.d (.bool (WE t u))) S)
theorem FV (t:bJ) (h:∀ x∈t.elem,Yo x):Yo t:=by
 intro u S;refine cy.same (v:=.d (.bool (WE t u))) ?_ rfl rfl S;rw [acd];have he:=fun B T=>wW 37 [] [] WE t.elem u.elem B T (fun x hx y _ J=>h x hx y _);unfold cH;cases h1:decide (t.kind=u.kind)
 ·refine zR WH ?_;simp only [W,seval,WH,h1];refine bN WH (Left.empty ?_);exact ⟨rfl,rfl⟩
 cases h2:decide (t.name=u.name)
 ·refine zR WH ?_;simp only [W,seval,WH,h1,h2];refine bN WH (Left.empty ?_);exact ⟨rfl,rfl⟩
 refine zR WH ?_;simp only [W,seval,WH,h1,h2];refine aX (he _ _) ?_;refine goN ?_;simp only [W,seval,WH];refine bN WH (Left.empty ?_);exact ⟨rfl,rfl⟩
mutual
theorem CB:∀ t:bJ,Yo t
 | .mk k n es=>FV (.mk k n es) (Ay es)
theorem Ay:∀ (ts:List bJ),∀ x∈ts,Yo x
 | [],_,h=>absurd h aT
 | y :: l,x,h=>by
  rcases bB.1 h with e | e
  ·rw [e];exact CB y
  ·exact Ay l x e
end
def b12:=KB func12 14
def b14:=KB func14 9
def Yp:=KB func138 7
def ace:=KB func136 2
def acf:=KB func113 2
def acg:=KB func194 2
def ach:=KB func191 2
def IW:=KB func171 19
def JG:=KB func68 30
def b64:=KB func64 37
mutual
theorem Lg:∀ t u:bJ,WE t u=rq t u
 | .mk k n es,.mk k' n' es'=>by
  rw [WE,rq,GK es];have e:(n == n')=decide (n=n'):=by rw [dQ];simp
  show _=(decide (k=k') && (n == n') && _);rw [e,Bool.and_assoc];rfl
theorem GK:∀ l m:List bJ,CW l m=ir l m
 | [],[]=>by unfold CW ir;rfl
 | [],_ :: _=>by unfold CW ir;rfl
 | _ :: _,[]=>by unfold CW ir;rfl
 | t :: l,u :: m=>by
  unfold CW ir;rw [Lg t u,GK l m]
end
theorem Lh (t u:bJ) (S:Mem):cy prog bI 37 [cH t,cH u] S (cF (.d (.bool (rq t u))) S):=by
 rw [← Lg];exact CB t u S
theorem jc (B:bQ) (T:eg):cy prog bI 136 [] ⟨B,T⟩ (cF (cH eF) ⟨B,T⟩):=by
 obtain ⟨N,hn⟩:=aV B.length;refine zR ace ?_;simp only [W,seval,ace,hn];refine Le ace (Left.box ?_);exact ⟨rfl,rfl⟩
theorem mm (B:bQ) (T:eg):cy prog bI 113 [] ⟨B,T⟩ (cF (cH cZ) ⟨B,T⟩):=by
 obtain ⟨N,hn⟩:=aV B.length;refine zR acf ?_;simp only [W,seval,acf,hn];refine Le acf (Left.box ?_);exact ⟨rfl,rfl⟩
theorem Az (B:bQ) (T:eg):cy prog bI 194 [] ⟨B,T⟩ (cF (cH dh) ⟨B,T⟩):=by
 obtain ⟨N,hn⟩:=aV B.length;refine zR acg ?_;simp only [W,seval,acg,hn];refine Le acg (Left.box ?_);exact ⟨rfl,rfl⟩
theorem RG (B:bQ) (T:eg):cy prog bI 191 [] ⟨B,T⟩ (cF (cH SE) ⟨B,T⟩):=by
 obtain ⟨N,hn⟩:=aV B.length;refine zR ach ?_;simp only [W,seval,ach,hn];refine Le ach (Left.box ?_);exact ⟨rfl,rfl⟩
theorem AB (k:Int) (S:Mem):cy prog bI 12 [.d (.int .i64 k)] S (cF (.d (.int .u64 (iQ k))) S):=by
 obtain ⟨B,T⟩:=S;refine zR b12 ?_;simp only [W,seval,b12]
 repeat' ((first | refine cU (fun h=>?_) (fun h=>?_) | refine cT (fun h=>?_) (fun h=>?_))<;>simp only [W,seval,b12,h])
 all_goals
  refine bN b12 (Left.none ?_);unfold iQ;exact j9
theorem RH (k:Int) (S:Mem):cy prog bI 14 [.d (.int .i64 k)] S (cF (.d (.bool (decide (k=3∨k=4)))) S):=by
 obtain ⟨B,T⟩:=S;refine zR b14 ?_;simp only [W,seval,b14]
 repeat' ((first | refine cU (fun h=>?_) (fun h=>?_) | refine cT (fun h=>?_) (fun h=>?_))<;>simp only [W,seval,b14,h])
 all_goals
  refine bN b14 (Left.none ?_);exact j9
theorem mq (t:bJ) (B:bQ) (T:eg):cy prog bI 138 [cH t] ⟨B,T⟩ (cF (.d (.bool (jz t.kind))) ⟨B,T⟩):=by
 obtain ⟨N,hn⟩:=aV B.length;unfold cH;refine zR Yp ?_;simp only [W,seval,Yp,hn];refine aX (AB t.kind _) ?_;refine goN ?_;simp only [W,seval,Yp];refine bN Yp (Left.box ?_);rw [UO];exact ⟨rfl,rfl⟩
def uf:=KB func172 52
def NV:=KB func112 22
theorem jd {X A C:List V} {x:bh} {kv:V} {a:Nat} (hX:X=A++ef x kv++C) (ha:A.length=a) :
 X[a]? = some (.d (.int .i64 x.kind))∧X[a+1]? = some (.d (.str x.text))∧X[a+2]? = some (.d (.int .u64 x.int))∧X[a+6]? = some (.d (.sl (gN x.names)))∧X[a+7]? = some kv∧a+8≤X.length∧(X.drop a).take 8=ef x kv∧a+3+3≤X.length∧(X.drop (a+3)).take 3=jr x.type:=by
 have e:X=A++(ef x kv++C):=by rw [hX,aE]
 have g:∀ q,X[a+q]? = (ef x kv++C)[q]?:=fun q=>by rw [e,aN ak];congr 1;omega
 have d:∀ q,X.drop (a+q)=(ef x kv++C).drop q:=fun q=>by rw [e,fQ,gv ak,dO];congr 1;omega
 have hl:X.length=a+8+C.length:=by rw [e,av,av,ha];simp [ef];omega
 refine ⟨g 0,g 1,g 2,g 6,g 7,ak,?_,ak,?_⟩
 ·have:=d 0;rw [gZ] at this;rw [this];rfl
 ·rw [d 3];rfl
theorem PA {X A C:List V} {x:bh} {kv:V} {a:Nat} (hX:X=A++ef x kv++C) (ha:A.length=a) (t:bJ):X.take (a+3)++(jr t++X.drop (a+3+3))=A++ef (setType x t) kv++C:=by
 have e:X=A++(ef x kv++C):=by rw [hX,aE]
 rw [e,nI,fQ,gv ak,bS ak,dO,aE,aE];rw [show a+3 - A.length=3 by omega,show a+3+3 - A.length=6 by omega];cases x;rfl
theorem mY.first {B:bQ} {l:List bh} {lo hi:Nat} {v:V} {y:bh} {ks:List bh} (h:mY B l lo hi v) (hl:l=y :: ks):∃ j cap Y kv C,v = .bx j l.length cap∧B[j]? = some Y∧Y=[]++ef y kv++C:=by
 subst hl;rcases h with ⟨h0,_⟩ | ⟨_,j,cap,Y,h1,_,_,h4,h5⟩
 ·cases h0
 ·unfold rz at h5;obtain ⟨r,X',m,e1,e2,e3,e4,e5,e6⟩:=h5;obtain ⟨kv,rfl,_⟩:=pT.1 e5;exact ⟨j,cap,Y,kv,X',h1,h4,by rw [e1];rfl⟩
theorem Yq (x:bh):kL x=(decide (x.kind=2) || decide (x.kind=5) && (match x.kids with
 | y :: _=>decide (y.kind=2)
 | []=>false)):=by cases x;rfl
theorem NW {x:bh} (hx:x.kind=5→x.kids ≠ []) {B:bQ} {lo hi:Nat} {kv:V} (ho:mY B x.kids lo hi kv) (T:eg):cy prog bI 171 [.agg (ef x kv)] ⟨B,T⟩ (cF (.d (.bool (kL x))) ⟨B,T⟩):=by
 obtain ⟨N,hn⟩:=aV B.length;have hl:=Yq x;unfold ef
 by_cases h2:x.kind=2
 ·have e2:=ah h2;refine gL IW fun cG=>?_;simp only [fH] at cG;simp only [W,seval,IW,hn,e2];refine bN IW (Left.box ?_);rw [hl,e2];exact ⟨rfl,rfl⟩
 have e2:=af h2
 by_cases h5:x.kind=5
 case neg =>
  have e5:=af h5;refine gL IW fun cG=>?_;simp only [fH] at cG;simp only [W,seval,IW,hn,e2,e5];refine bN IW (Left.box ?_);rw [hl,e2,e5];exact ⟨rfl,rfl⟩
 have e5:=ah h5;cases hk:x.kids with
 | nil=>exact absurd hk (hx h5)
 | cons y ks =>
  obtain ⟨j,cap,Y,uL,C,rfl,hY,hYe⟩:=ho.first hk
  obtain ⟨y0,_⟩:=jd hYe rfl;have hj:j < N:=by have:=(ai.1 hY).1;omega
  have FW:(0:Int) < (x.kids.length:Int):=by rw [hk];simp
  have y0:Y[0]? = some (.d (.int .i64 y.kind)):=y0;rw [hk] at hl;refine gL IW fun cG=>?_;simp only [fH] at cG;simp only [W,seval,IW,oE,hn,e2,e5,hj,hY,y0,FW];refine bN IW (Left.box ?_);rw [hl,e2,e5];exact ⟨rfl,rfl⟩
def sZ (j lo hi:Nat) (A C:List V) (kv:V) (B B':bQ) (r:Option bh):Prop:=iC j lo hi B.length B B'∧B'.length=B.length∧∀ y,r=some y→B'[j]? = some (A++ef y kv++C)∧mY B' y.kids lo hi kv
def afF (r:Option (bh × bJ)) (v:V):Prop :=
 match r with
 | some (_,t)=>v = .fZ [cH t,.d (.bool true)]
 | none=>∃ t,v = .fZ [cH t,.d (.bool false)]
def ug (r:Option (bh × bJ)) (j lo hi:Nat) (A C:List V) (kv:V) (B:bQ) (T:eg) (v:V) (S':Mem):Prop :=
 ∃ B',S' = ⟨B',T⟩∧sZ j lo hi A C kv B B' (r.map Prod.fst)∧afF r v
def xZ (r:Option bh) (j lo hi:Nat) (A C:List V) (kv:V) (B:bQ) (T:eg) (v:V) (S':Mem):Prop :=
 ∃ B',S' = ⟨B',T⟩∧sZ j lo hi A C kv B B' r∧v = .d (.bool r.isSome)
theorem ic.done {B B1:bQ} {n c s f w:Nat} {E:fm} {res:List bJ} {j lo hi:Nat} {A C:List V} {kv:V} {x y:bh} (h:ic B n c s f w E res j lo hi A C kv x) (hd:sZ j lo hi A C kv B B1 (some y)):ic B1 n c s f w E res j lo hi A C kv y :=
 h.WD (hd.1.less h.nl) (hd.2.2 y rfl).1 (hd.2.2 y rfl).2
theorem mH {B1:bQ} {m i:Nat} (h:i < m):(B1.take m)[i]? = B1[i]?:=by rw [bp,aD h]
theorem ic.fin {B B0 B1:bQ} {n c s f w:Nat} {E:fm} {res:List bJ} {j lo hi:Nat} {A C:List V} {kv:V} {y:bh} {r:Option bh} (h:ic B n c s f w E res j lo hi A C kv y) (he:iC j lo hi B0.length B0 B1) (hn:n≤B0.length) (hb:∀ i,i < n→B1[i]? = B[i]?) (hr:∀ z,r=some z→z=y):sZ j lo hi A C kv B0 (B1.take B0.length) r:=by
 refine ⟨he.cut,by have:=he.1;rw [cg];omega,fun z hz=>?_⟩;obtain rfl:=hr z hz;obtain ⟨n1,n2,n3,n4,n5,n6⟩:=h.nb;exact ⟨by rw [bp,aD ak,hb _ n5];exact h.row,h.own.frame fun i _ hi=>by rw [bp,aD ak];exact hb i ak⟩
theorem sZ.none {j lo hi:Nat} {A C:List V} {kv:V} {B0 B1:bQ} {r:Option bh} (he:iC j lo hi B0.length B0 B1) (hr:r=Option.none):sZ j lo hi A C kv B0 (B1.take B0.length) r:=⟨he.cut,by have:=he.1;rw [cg];omega,fun z hz=>by rw [hr] at hz;cases hz⟩
theorem ic.yD {B0 M B1:bQ} {n c s f w:Nat} {E:fm} {res:List bJ} {j lo hi:Nat} {A C:List V} {kv:V} {x:bh} (h:ic B0 n c s f w E res j lo hi A C kv x) (he:iC j lo hi M.length M B1) {i:Nat} (hi:n≤i) (hl:i < M.length):B1[i]? = M[i]?:=by
 obtain ⟨n1,n2,n3,n4,n5,n6⟩:=h.nb;exact he.2.1 i hl ⟨ak,ak⟩
def kn (E:fm) (res:List bJ) (x:bh):Prop:=∀ (want:bJ) (n c s f w:Nat) (B:bQ) (T:eg) (j lo hi:Nat) (A C:List V) (kv:V),ic B n c s f w E res j lo hi A C kv x →
 cy prog bI 135 [.ptr c 0,.ptr j A.length,cH want] ⟨B,T⟩ (ug (bP E x want) j lo hi A C kv B T)
theorem vl {r:Option (bh × bJ)} {v:V} (h:afF r v):∃ t b,v = .fZ [cH t,.d (.bool b)]∧(b=true→∃ y,r=some (y,t))∧(b=false→r=none):=by
 cases r with
 | none =>
  obtain ⟨t,rfl⟩:=h;exact ⟨t,false,rfl,(fun h=>by cases h),fun _=>rfl⟩
 | some p =>
  obtain ⟨y,t⟩:=p;exact ⟨t,true,h,fun _=>⟨y,rfl⟩,fun h=>by cases h⟩
section
variable {E:fm} {res:List bJ} {n c s f w:Nat} {B:bQ} {T:eg} {j lo hi:Nat} {A C:List V} {kv:V}
theorem pU {x:bh} (hx:kn E res x) (want:bJ) (h:ic B n c s f w E res j lo hi A C kv x):cy prog bI 112 [.ptr c 0,.ptr j A.length,cH want] ⟨B,T⟩ (xZ (dz (bP E x want) want) j lo hi A C kv B T):=by
 obtain ⟨N,hn⟩:=aV B.length;have ht:=fun J=>hx want n c s f w (B++J) T j lo hi A C kv h.more;unfold cH at ht ⊢;refine gL NV fun cG=>?_;simp only [fH] at cG;simp only [W,seval,NV,hn];refine cz (ht _) ?_;rintro v _ ⟨B1,rfl,hd,hv⟩;obtain ⟨t,b,rfl,tV,p8⟩:=vl hv;have nZ:=h.nl;have eW:=hd.2.1;rw [av,hn] at eW;have f0:=h.yD hd.1 (i:=N) ak (by simp [hn]);rw [gp hn] at f0;simp only [bX] at f0;have e1:=iC.new.step hd.1;have jI:N < N+1:=ak;cases b
 ·refine goN ?_;simp only [W,seval,NV,eW,f0,jI,cH];refine bN NV (bT e1.app ?_);have hr:=p8 rfl;exact ⟨_,rfl,.none e1.app (by rw [hr];rfl),by rw [hr];rfl⟩
 ·refine goN ?_;simp only [W,seval,NV,eW,f0,jI,cH];refine aX (Lh t want _) ?_;refine goN ?_;simp only [W,seval,NV];refine bN NV (bT e1.app ?_);obtain ⟨y,hr⟩:=tV rfl;rw [hr] at hd ⊢;unfold dz;dsimp only;cases rq t want
  ·exact ⟨_,rfl,.none e1.app rfl,rfl⟩
  ·exact ⟨_,rfl,(h.more.done hd).fin e1.app ak (fun i hi=>bt ak) (fun z hz=>(ag hz).symm),rfl⟩
end
theorem NX (x:bh) (t:bJ):(setType x t).kids=x.kids:=by cases x;rfl
theorem ic.ty {B:bQ} {n c s f w:Nat} {E:fm} {res:List bJ} {j lo hi:Nat} {A C:List V} {kv:V} {x:bh} (h:ic B n c s f w E res j lo hi A C kv x) (t:bJ):sZ j lo hi A C kv B (B.set j (A++ef (setType x t) kv++C)) (some (setType x t)):=by
 obtain ⟨n1,n2,n3,n4,n5,n6⟩:=h.nb;have hl:=h.nl;have hj:j < B.length:=ak;have hjo:=h.jo;refine ⟨⟨by rw [aG];exact aA _,fun i _ ho=>aj (fun e=>ho.1 e.symm),fun i _ Y hY v hv=>?_⟩,aG,fun y hy=>?_⟩
 ·by_cases e:i=j
  ·subst e;rw [aC hj] at hY;obtain rfl:=ag hY;exact (BR v hv).imp (fun hm=>⟨_,h.row,hm⟩) id
  ·rw [aj fun h=>e h.symm] at hY;exact .inl ⟨Y,hY,hv⟩
 ·obtain rfl:=ag hy;refine ⟨aC hj,?_⟩;rw [NX];exact h.own.frame fun i h1 h2=>aj ak
theorem afG {k:Int} (h:k=3∨k=4):IntKind.u64.wrap (iQ k+1)=iQ k+1:=by
 rcases h with rfl | rfl<;>rfl
section
variable {E:fm} {res:List bJ} {n c s f w:Nat} {B:bQ} {T:eg} {j lo hi:Nat} {A C:List V} {kv:V}
theorem Li {x:bh} (hx:x.kind=5→x.kids ≠ []) (want:bJ) (h:ic B n c s f w E res j lo hi A C kv x):cy prog bI 172 [.ptr j A.length,cH want] ⟨B,T⟩ (ug (oC x want) j lo hi A C kv B T):=by
 obtain ⟨N,hn⟩:=aV B.length;obtain ⟨a,ha⟩:=aV A.length;obtain ⟨X,hX⟩:=aV (A++ef x kv++C);obtain ⟨x0,x1,x2,x6,x7,x8,x9,sC,uh⟩:=jd hX.symm ha;have bW:=h.row;rw [hX] at bW;have hj:j < N:=by have:=(ai.1 bW).1;omega
 have nZ:=h.nl;have en:∀ J,iC j lo hi B.length B (B++J):=fun _=>iC.new;rw [ha];unfold cH
 by_cases h5:x.kind=5
 ·have e5:=ah h5;cases hk:x.kids with
  | nil=>exact absurd hk (hx h5)
  | cons y ks =>
   obtain ⟨j1,cap,lG,kD,A1,C1,uL,rfl,a1,⟨a2,_⟩,k1,k2,k3⟩:=h.r9 (k:=0) (y:=y) (by rw [hk];rfl);obtain ⟨Y,hY⟩:=aV (A1++ef y uL++C1);have a1:A1.length=0:=ak;obtain ⟨y0,y1,y2,y6,y7,y8,y9,y10,y11⟩:=jd hY.symm a1;have tM:=k1.row;rw [hY] at tM;have zw:j1 < N:=ak;rw [bf] at y2 y10;have FW:(0:Int) < (x.kids.length:Int):=by rw [hk];simp
   have sN:=PA hY.symm a1 want;simp only [bf,Nat.reduceAdd,jr,gH,dO] at sN
   have hp:oC x want=if (want.kind=3∨want.kind=4)∧y.int≤iQ want.kind+1 then some (bg x (setType y want :: ks),want) else none:=by
    unfold oC;rw [if_pos h5,hk]
   rw [hp];have hd:=k1.ty want;obtain ⟨Z,hZ⟩:=aV (A1++ef (setType y want) uL++C1);rw [hZ] at sN hd;refine gL uf fun cG=>?_;simp only [fH] at cG;simp only [W,seval,uf,hn];refine aX (AB want.kind _) ?_;refine goN ?_;simp only [W,seval,uf,oE,hn,hj,bW,x0,x7,e5,zw,tM,FW];refine aX (RH want.kind _) ?_
   by_cases hs:want.kind=3∨want.kind=4
   ·have es:=ah hs;have hw:=afG hs
    by_cases rE:y.int≤iQ want.kind+1
    ·have ei:decide (iQ want.kind+1 < y.int)=false:=af ak;refine goN ?_;simp only [W,seval,uf,hn,zw,tM,y2,y8,y10,es,hw,ei,aK,sN,jr];have e1:=(iC.refl j lo hi B.length B).trans (k2 _ _ hd.1);refine dx uf (bT e1.app ?_) (h1:=by simp only [W,seval,hn,zw];exact rfl);rw [aD ⟨hs,rE⟩];refine ⟨_,rfl,?_,rfl⟩;have k4:=k3 _ _ (hd.1.less nZ) (hd.2.2 _ rfl).1 (hd.2.2 _ rfl).2;exact k4.fin e1.app nZ (fun i hi=>bt (by rw [aG];omega)) (fun z hz=>by rw [← ag hz,hk];rfl)
    ·have ei:decide (iQ want.kind+1 < y.int)=true:=ah ak;refine goN ?_;simp only [W,seval,uf,hn,zw,tM,y2,y8,y10,es,hw,ei,aK];refine aX (jc _ _) ?_;refine goN ?_;simp only [W,seval,uf,hn,cH];refine dx uf (bT (en _) ?_);rw [aq fun h=>rE h.2];exact ⟨_,rfl,.none (en _) rfl,eF,rfl⟩
   ·have es:=af hs;refine goN ?_;simp only [W,seval,uf,hn,es,aO];refine aX (jc _ _) ?_;refine goN ?_;simp only [W,seval,uf,hn,cH];refine dx uf (bT (en _) ?_);rw [aq fun h=>hs h.1];exact ⟨_,rfl,.none (en _) rfl,eF,rfl⟩
 ·have e5:=af h5
  have hp:oC x want=if iQ want.kind=0∨iQ want.kind < x.int then none else some (setType x want,want):=by
   unfold oC;rw [if_neg h5]
  rw [hp];have sN:=PA hX.symm ha want;simp only [jr,gH,dO] at sN;have hd:=h.ty want;obtain ⟨Z,hZ⟩:=aV (A++ef (setType x want) kv++C);rw [hZ] at sN hd;refine gL uf fun cG=>?_;simp only [fH] at cG;simp only [W,seval,uf,hn];refine aX (AB want.kind _) ?_
  by_cases h0:iQ want.kind=0
  ·have e0:=ah h0;refine goN ?_;simp only [W,seval,uf,hn,hj,bW,x0,e5,e0];refine aX (jc _ _) ?_;refine goN ?_;simp only [W,seval,uf,hn,cH];refine dx uf (bT (en _) ?_);rw [aD (.inl h0)];exact ⟨_,rfl,.none (en _) rfl,eF,rfl⟩
  have e0:=af h0
  by_cases rE:iQ want.kind < x.int
  ·have ei:=ah rE;refine goN ?_;simp only [W,seval,uf,hn,hj,bW,x0,x2,e5,e0,ei];refine aX (jc _ _) ?_;refine goN ?_;simp only [W,seval,uf,hn,cH];refine dx uf (bT (en _) ?_);rw [aD (.inr rE)];exact ⟨_,rfl,.none (en _) rfl,eF,rfl⟩
  ·have ei:=af rE;refine goN ?_;simp only [W,seval,uf,hn,hj,bW,x0,x2,sC,e5,e0,ei,sN,jr];have e1:=(iC.refl j lo hi B.length B).trans hd.1;refine dx uf (bT e1.app ?_) (h1:=by simp only [W,seval,hn,hj];exact rfl);rw [aq fun h=>h.elim h0 rE];refine ⟨_,rfl,?_,rfl⟩;exact (h.done hd).fin e1.app nZ (fun i hi=>bt (by rw [aG];omega)) (fun z hz=>(ag hz).symm)
end
theorem vL {σ:Type} (g:FuncId) (first caps:List V) (mem:σ→Mem) (f:ep→σ→Bool × σ) (hm:∀ s s',(mem s).boxes.length=(mem s').boxes.length∧(mem s).dG.length=(mem s').dG.length) (l:List ep) (hl:l.length≤9223372036854775807) (s0:σ) (hg:Good prog bI g first caps Pg mem f l s0) :
 cy prog bI 106 [.d (.sl (l.map jK)),.func g first caps] (mem s0) (cF (.d (.int .i64 (fo f l 0 s0).1)) (mem (fo f l 0 s0).2)):=by
 refine cy.body func106 rfl cP ?_;refine az.go 100 ?_;simp only [f106,WO,seval];refine az.dL (fun p:Nat × σ=>(lQ 19 [(0,.d (.sl (l.map jK))),(1,.func g first caps),(6,.d (.sl (l.map jK))),(7,.d (.int .i64 l.length)),(8,.d (.int .i64 p.1))],mem p.2)) (fun p=>p.1≤l.length∧fo f l 0 s0=fo f (l.drop p.1) p.1 p.2∧Good prog bI g first caps Pg mem f (l.drop p.1) p.2) (fun p=>l.length - p.1) (0,s0) ⟨ak,rfl,hg⟩ ?_ rfl ?_
 ·simp only [lQ,cO,cX,dc,eC,cn,cI,nR,kj,lE,lF,jH,dB,dw,cV]
 rintro ⟨i,s⟩ ⟨h1,h2,h3⟩ ih;dsimp only at h1 h2 h3 ih ⊢
 by_cases bu:i < l.length
 ·have hw:=bE ((i:Int)+1) ak;have nU:=au bu;rw [fj bu] at h2 h3;obtain ⟨h4,h5⟩:=h3;have dY:decide ((i:Int) < (l.length:Int))=true:=ah ak;refine goN ?_;simp only [WO,seval,aL,nU,dY,hw,qB];refine rK h4 ?_;refine goN ?_;simp only [WO,seval,hw];refine cT (fun h=>?_) (fun h=>?_)
  ·simp only [WO,seval,h];refine az.fits fun hf=>?_;refine az.ret func106 rfl (Left.fits hf (hm _ _).1 (hm _ _).2 ?_);have e:fo f (l[i] :: l.drop (i+1)) (i:Int) s=((i:Int),(f l[i] s).2):=by simp [fo,h]
   rw [h2,e];exact ⟨rfl,rfl⟩
  ·simp only [WO,seval,h,hw];have e:fo f (l[i] :: l.drop (i+1)) (i:Int) s=fo f (l.drop (i+1)) ((i+1:Nat):Int) (f l[i] s).2:=by simp [fo,h]
   refine ih (i+1,(f l[i] s).2) ⟨bu,h2.trans e,h5 h⟩ (by simp only;omega) _ _ ?_ rfl;simp only [lQ,cO,cX,dc,eC,cn,cI,nR,kj,lE,lF,jH,dB,dw,cV]
 ·have dY:decide ((i:Int) < (l.length:Int))=false:=af ak;refine goN ?_;simp only [WO,seval,dY];refine az.fits fun hf=>?_;refine az.ret func106 rfl (Left.fits hf (hm _ _).1 (hm _ _).2 ?_);rw [h2,ay ak];exact ⟨rfl,rfl⟩
theorem s7 {σ:Type} (g:FuncId) (first caps:List V) (mem:σ→Mem) (f:ep→σ→Bool × σ) (hm:∀ s s',(mem s).boxes.length=(mem s').boxes.length∧(mem s).dG.length=(mem s').dG.length) (l:List ep) (hl:l.length≤9223372036854775807) (s0:σ) (hg:Good prog bI g first caps Pg mem f l s0) :
 cy prog bI 66 [.d (.sl (l.map jK)),.func g first caps] (mem s0) (cF (.d (.bool (ud f l s0).1)) (mem (ud f l s0).2)):=by
 obtain ⟨e1,e2⟩:=qC f l 0 s0 (dV 0);refine cy.body func66 rfl cP ?_;refine az.go 100 ?_;simp only [f66,WO,seval];refine aX (vL g first caps mem f hm l hl s0 hg) ?_;refine goN ?_;simp only [WO,seval,e1];refine az.fits fun hf=>?_;refine az.ret func66 rfl (Left.fits hf (hm _ _).1 (hm _ _).2 ?_);rw [e2];exact ⟨rfl,rfl⟩
def Ez:=KB func152 26
def AD:=KB func126 43
def uM:=KB func146 58
def nJ:=KB func178 83
def rG (B:bQ) (c:Nat) (E:fm) (res:List bJ):Prop:=c < B.length∧∃ vv,B[c]? = some (mG E.su E.fu vv res)∧mj B c vv E.vs
theorem rG.more {B J:bQ} {c:Nat} {E:fm} {res:List bJ} (h:rG B c E res):rG (B++J) c E res:=by
 obtain ⟨h1,vv,h2,h3⟩:=h;exact ⟨by rw [av];omega,vv,by rw [bt h1];exact h2,h3.more⟩
def fF (r:Option (bh × bJ)) (v:V):Prop :=
 match r with
 | some (y,t)=>v = .fZ [fK y,cH t,.d (.bool true)]
 | none=>∃ y t,v = .fZ [fK y,cH t,.d (.bool false)]
def Yr (r:Option bh) (v:V):Prop :=
 match r with
 | some y=>v = .fZ [fK y,.d (.bool true)]
 | none=>∃ y,v = .fZ [fK y,.d (.bool false)]
def alR (r:Option (List bh)) (v:V):Prop :=
 match r with
 | some l=>v = .fZ [.d (.sl (l.map eL)),.d (.bool true)]
 | none=>v = .fZ [.d (.sl []),.d (.bool false)]
def caR (r:Option (bh × List bJ)) (v:V):Prop :=
 match r with
 | some (y,ts)=>v = .fZ [fK y,.d (.sl (ts.map eH)),.d (.bool true)]
 | none=>∃ (y:bh) (ts:List bJ),v = .fZ [fK y,.d (.sl (ts.map eH)),.d (.bool false)]
theorem fF.ne (r:Option (bh × bJ)):∃ v,fF r v:=by
 cases r with
 | none=>exact ⟨_,.mk 0 [] 0 eF [] [],eF,rfl⟩
 | some p=>exact ⟨_,rfl⟩
theorem Yr.ne (r:Option bh):∃ v,Yr r v:=by
 cases r with
 | none=>exact ⟨_,.mk 0 [] 0 eF [] [],rfl⟩
 | some p=>exact ⟨_,rfl⟩
theorem alR.ne (r:Option (List bh)):∃ v,alR r v:=by
 cases r<;>exact ⟨_,rfl⟩
def kM (E:fm) (res:List bJ) (x:bh):Prop:=∀ (want:bJ) (c:Nat) (B:bQ) (T:eg),rG B c E res→cy prog bI 123 [.ptr c 0,fK x,cH want] ⟨B,T⟩ fun v S=>fF (bP E x want) v∧S=⟨B,T⟩
section
variable {E:fm} {res:List bJ} {c:Nat} {B:bQ} {T:eg}
theorem oO {x:bh} (hx:kM E res x) (want:bJ) (hE:rG B c E res):cy prog bI 152 [.ptr c 0,fK x,cH want] ⟨B,T⟩ fun v S=>Yr (dz (bP E x want) want) v∧S=⟨B,T⟩:=by
 obtain ⟨N,hn⟩:=aV B.length;have hi:c < N:=by have:=hE.1;omega
 unfold fK cH;refine gL Ez fun cG=>?_;simp only [fH] at cG;simp only [W,seval,Ez,hn];refine cz (hx want c _ _ hE.more) ?_;rintro v _ ⟨hv,rfl⟩;cases hr:bP E x want with
 | none =>
  rw [hr] at hv;obtain ⟨y,t,rfl⟩:=hv;refine goN ?_;simp only [W,seval,Ez,hn,fK,cH];refine dj 8 [] [N+1,N+3,N+4] ?_;simp (maxSteps:=4000000) only [W,seval,Ez,xw,hn];refine goN ?_;simp only [W,seval,Ez,hn];refine dx Ez (Left.box ?_);exact ⟨⟨y,rfl⟩,rfl⟩
 | some p =>
  obtain ⟨y,t⟩:=p;rw [hr] at hv;obtain rfl:v=_:=hv;refine goN ?_;simp only [W,seval,Ez,hn,fK,cH];refine dj 8 [] [N+1,N+3,N+4] ?_;simp (maxSteps:=4000000) only [W,seval,Ez,xw,hn];refine bK (fun Z=>aaw t want _ _) ?_;simp (maxSteps:=4000000) only [W,seval,Ez,xw,hn];refine goN ?_;simp only [W,seval,Ez,hn];refine dx Ez (Left.box ?_);refine ⟨?_,rfl⟩;unfold dz;dsimp only;cases hs:rq t want
  ·exact ⟨y,rfl⟩
  ·exact rfl
theorem qK (E:fm):∀ (l:List bh) (ts:List bJ),l.length ≠ ts.length→dI E l ts=none
 | [],[],h=>absurd rfl h
 | [],_ :: _,_=>by unfold dI;rfl
 | _ :: _,[],_=>by unfold dI;rfl
 | x :: l,t :: ts,h=>by
  unfold dI;rw [qK E l ts (by simpa using h)];cases dz (bP E x t) t<;>rfl
theorem tN (E:fm) (l:List bh) (ts:List bJ) (i:Nat) (h:i < l.length) (h':i < ts.length):dI E (l.drop i) (ts.drop i)=match dz (bP E l[i] ts[i]) ts[i] with
 | some y=>(dI E (l.drop (i+1)) (ts.drop (i+1))).map fun l=>y :: l
 | none=>none:=by
 rw [aJ h,aJ h']
 conv=>lhs;unfold dI
 rfl
theorem IX {l:List bh} (hl:∀ x∈l,kM E res x) (hlen:l.length≤60000) (ts:List bJ) (hE:rG B c E res):cy prog bI 126 [.ptr c 0,.d (.sl (l.map eL)),.d (.sl (ts.map eH))] ⟨B,T⟩ fun v S=>alR (dI E l ts) v∧S=⟨B,T⟩:=by
 obtain ⟨N,hn⟩:=aV B.length;obtain ⟨M,hM⟩:=aV T.length;have hi:c < N:=by have:=hE.1;omega
 by_cases NF:l.length=ts.length
 case neg =>
  have e1:decide ((l.length:Int)=(ts.length:Int))=false:=af ak;rw [qK E l ts NF];refine gL AD fun cG=>?_;simp only [fH] at cG;simp only [W,seval,AD,hn,e1,aO];refine bN AD (Left.none ?_);exact ⟨rfl,rfl⟩
 have e1:decide ((l.length:Int)=(ts.length:Int))=true:=ah ak;generalize dN:dI E l ts=r;refine gL AD fun cG=>?_;simp only [fH] at cG;simp only [W,seval,AD,hn,e1,aK];refine az.fits fun hf=>?_;refine az.token 8 [] (by rfl) 8 ak rfl ?_;simp only [fP,hM];refine az.m7 (fun a:Nat × List bh=>(cN 43 [(0,.ptr c 0),(1,.d (.sl (l.map eL))),(2,.d (.sl (ts.map eH))),(8,.sl (a.2.map eL) (.own M)),(9,.d (.int .i64 (a.1:Int)))],⟨B,T++[(a.1,8)]⟩)) (fun a=>a.1≤l.length∧a.2.length=a.1∧(dI E (l.drop a.1) (ts.drop a.1)).map (a.2++·)=r) (fun a=>l.length - a.1) (0,[]) ⟨dM,rfl,by rw [← dN];simp⟩ cx rfl ?_;rintro ⟨i,ys⟩ ⟨h1,h2,h3⟩ ih;dsimp only at h1 h2 h3 ih ⊢
 by_cases bu:i < l.length
 case neg =>
  have e2:decide ((i:Int) < (l.length:Int))=false:=af ak;rw [ay ak,ay ak,dI] at h3;refine goN ?_;simp only [W,seval,AD,hn,e2];refine bN AD (Left.tok ?_);rw [← h3];refine ⟨?_,rfl⟩;clear ih h3;simp only [yt,seval];simp [alR,hM,wk,u7]
 have rY:i < ts.length:=ak;have e2:decide ((i:Int) < (l.length:Int))=true:=ah ak;have ie:=bE ((i:Int)+1) ak;have hg:(l.map eL)[i]? = some (eL l[i]):=by simp [bu]
 have Yk:(ts.map eH)[i]? = some (eH ts[i]):=by simp [rY]
 have hy:=hl l[i] (aH bu);rw [tN E l ts i bu rY] at h3;obtain ⟨x,hx⟩:=aV (l[i]);obtain ⟨t,ht⟩:=aV (ts[i]);rw [hx] at hg hy h3;rw [ht] at Yk h3;rw [dF] at hg;rw [eK] at Yk;have gh:(i+1) * 128≤140737488355328:=ak;refine goN ?_;simp only [W,seval,AD,hn,e2];refine dj 14 [13] [] ?_;simp (maxSteps:=4000000) only [W,seval,AD,xw,hn,hM,hg,Yk,bu,rY];refine iW (Yr.ne _) (fun Z=>oO hy t (rG.more (J:=Z) hE)) ?_;intro v hv;cases hr:dz (bP E x t) t with
 | none =>
  rw [hr] at hv h3;obtain ⟨y,rfl⟩:=hv;simp (maxSteps:=4000000) only [W,seval,AD,xw,hn,fK];refine goN ?_;simp only [W,seval,AD,hn,aO];refine bN AD (Left.all ?_);rw [← h3];exact ⟨rfl,rfl⟩
 | some y =>
  rw [hr] at hv h3;obtain rfl:v=_:=hv
  have bW:ys.map eL++[[.int .i64 y.kind,.str y.text,.int .u64 y.int,.int .i64 y.type.kind,.str y.type.name,.sl (y.type.elem.map eH),.sl (gN y.names),.sl (y.kids.map eL)]]=(ys++[y]).map eL:=by
   rw [cr,← dF];rfl
  have RI:fE 8 [[D.int .i64 y.kind,.str y.text,.int .u64 y.int,.int .i64 y.type.kind,.str y.type.name,.sl (y.type.elem.map eH),.sl (gN y.names),.sl (y.kids.map eL)]]=true:=rfl;simp (maxSteps:=4000000) only [W,seval,AD,xw,hn,fK];refine goN ?_;simp only [W,seval,AD,hn,hM,aK,bL,bC,Nat.reduceMul,gh,h2,bW,RI,ie];refine ih (i+1,ys++[y]) ⟨gP,by simp [h2],?_⟩ gP _ _ _ _ rfl ⟨ak,fk⟩ ?_ ?_
  ·dsimp only at h3 ⊢;rw [← h3];cases dI E (l.drop (i+1)) (ts.drop (i+1))<;>simp
  ·have:=Fits.more (X:=[]) (Y:=[(i+1,8)]) hf (fun vs hv=>absurd hv aT)
   rwa [aQ] at this
  ·have vT:M < M+1:=ak;refine gr.env _ ?_;simp only [zB,seval,hn,hi,hM,av,aP,aW,bf,vT]
end
section
variable {bs:List UInt8} {f:FuncId} {ar:List V} {s s':Ps} {v:V} {c:Nat} {B J:bQ} {T:eg} {stop:kA} {k:List Item} {d:Option Tmp} {env:List V}
theorem PP.call (h:PP bs f ar s v s') (hc:c < B.length) (An:OkP bs s) (hk:OkP bs s'→stop k (dD env d v) ⟨B.set c (bxP bs s')++J,T⟩):wA prog bI stop (.func f [] []) (.ptr c 0 :: ar) k d env ⟨B.set c (bxP bs s)++J,T⟩ :=
 PF.call (i:=0) h hc An fun _=>hk
end
end Go.Proofs.YtnfnbjjnjjdjdaaGreatDoor
namespace Go.Proofs.YtnfnbjjnjjdjdaaGreatDoor
open _root_.Go.Proofs.Tryz
open Go.RowKit Go.Av Go.Ab
section
variable {bs:List UInt8} {f:FuncId} {ar:List V} {s s':Ps} {v:V} {c:Nat} {B J:bQ} {T:eg} {env:List V}
end
end Go.Proofs.YtnfnbjjnjjdjdaaGreatDoor
namespace Go.Ab
open Go.RowKit Go.Av
section
variable {P:Program} {I:Inv} {z:Nat × Nat} {fn:FuncId} {R:V→Mem→Prop} {k:List Item} {env:List V}
theorem az.after {α:Type} (pre K:List Item) (st:α→List V × Mem) (ok:α→Prop) {S:Mem} (h1:∀ a,ok a→az P I z fn K (st a).1 (st a).2 R)
 (h2:∀ K',(∀ a,ok a→∀ iI S',nR (st a).1 iI→(st a).2=S'→az P I z fn K' iI S' R)→az P I z fn (pre++K') env S R):az P I z fn (pre++K) env S R :=
 h2 K fun a ha _ _ he hS=>az.ng he (hS ▸ h1 a ha)
theorem ji.afH {c:Cx} {w:World} {B:bQ} {T:eg} (h:ji c w ⟨B,T⟩) {i:Nat} {vs us:List V} (hi:B[i]? = some vs) (hl:us.length=vs.length) (hkv:∀ ks ls,vs=[.vY ks ls]→us=vs) (hv:∀ j (hj:j < vs.length) (jT:j < us.length) x,VR c w vs[j] x→VR c w us[j] x):ji c w ⟨B.set i us,T⟩:=by
 have hiB:=(ai.1 hi).1;refine ⟨h.hB,by simpa using h.len,fun j b hj=>?_,h.inj,h.dG,h.tok,h.yL,h.inv⟩;obtain ⟨a,o,hh,rZ,e1,e2⟩:=h.box j b hj;have e1:B[j]? = some rZ:=e1
 by_cases e:j=i
 ·subst e;rw [hi] at e1;obtain rfl:=ag e1;refine ⟨a,o,hh,us,by show (B.set j us)[j]? = some us;simp [hiB],?_⟩;cases e2 with
  | cells cs Ty _ e2 e3=>exact .cells cs Ty us ak fun q hq=>⟨hv q ak hq _ (e3 q ak).1,(e3 q ak).2⟩
  | map es ck ks ls e2 e3 e4=>rw [hkv ks ls rfl];exact .map es ck ks ls e2 e3 e4
 ·exact ⟨a,o,hh,rZ,by show (B.set i us)[j]? = some rZ;rw [aj (fun h=>e h.symm)];exact e1,e2⟩
theorem VR.plain {c:Cx} {w:World} {rows:List (List D)} {tk:Tok} {v:Value} (h:VR c w (.sl rows tk) v):VR c w (.d (.sl rows)) v:=by
 cases h with
 | full _ a h ha=>exact .d _ _ h
 | own _ t a cap i h ht hr hn hl=>exact .d _ _ h
def fq (vs us:List V):Prop:=us.length=vs.length∧∀ j (hj:j < vs.length) (jT:j < us.length),us[j]=vs[j]∨∃ rows tk,vs[j] = .sl rows tk∧us[j] = .d (.sl rows)
theorem fq.nil:fq [] []:=⟨rfl,fun j hj=>absurd hj (jY j)⟩
theorem fq.same {v:V} {vs us:List V} (h:fq vs us):fq (v :: vs) (v :: us):=⟨by simp [h.1],fun j hj jT=>by
 cases j with
 | zero=>exact .inl rfl
 | succ j=>exact h.2 j (by simpa using hj) (by simpa using jT)⟩
theorem fq.sl {rows:List (List D)} {tk:Tok} {vs us:List V} (h:fq vs us):fq (.sl rows tk :: vs) (.d (.sl rows) :: us):=⟨by simp [h.1],fun j hj jT=>by
 cases j with
 | zero=>exact .inr ⟨rows,tk,rfl,rfl⟩
 | succ j=>exact h.2 j (by simpa using hj) (by simpa using jT)⟩
theorem az.aci {B:bQ} {T:eg} (i:Nat) (vs us:List V) (hi:B[i]? = some vs) (hl:fq vs us) (h:az P I z fn k env ⟨B.set i us,T⟩ R):az P I z fn k env ⟨B,T⟩ R:=by
 intro b a c w c0 w0 h1 h2 h3 h4 h5 h6 hI
 refine h b a c w c0 w0 h1 h2 h3 h4 (h5.afH hi hl.1 (fun ks ls he=>by
  subst he;have h1:=hl.1;obtain ⟨x,rfl⟩:=je.1 h1;rcases hl.2 0 dM dM with e | ⟨rows,tk,e1,_⟩
  ·exact gR (fun v=>[v]) e
  ·cases e1) fun j hj jT x hx=>?_) h6 hI
 rcases hl.2 j hj jT with e | ⟨rows,tk,e1,e2⟩
 ·rw [e];exact hx
 ·rw [e2];rw [e1] at hx;exact hx.plain
theorem az.BS {B J:bQ} {T:eg} (q:Nat) (vs us:List V) (hi:J[q]? = some vs) (hl:fq vs us) (h:az P I z fn k env ⟨B++J.set q us,T⟩ R):az P I z fn k env ⟨B++J,T⟩ R:=by
 refine az.aci (B.length+q) vs us (by rw [gS rfl];exact hi) hl ?_;rw [yR rfl];exact h
theorem az.UW {B:bQ} {T:eg} (i q:Nat) (vs:List V) (rows:List (List D)) (hi:B[i]? = some vs) (hq:vs[q]? = some (.sl rows .full)) (sz:Nat) (h0:0 < sz) (jS:fE sz rows=true)
 (h:az P I z fn k env ⟨B.set i (vs.set q (.sl rows (.own T.length))),T++[(rows.length,sz)]⟩ R):az P I z fn k env ⟨B,T⟩ R:=by
 intro b a c w c0 w0 h1 h2 h3 h4 h5 h6 hI;have hiB:=(ai.1 hi).1;obtain ⟨hqv,Ht⟩:=ai.1 hq;have hlen:B.length=c.ρ.length:=h5.len;obtain ⟨b0,p8⟩:∃ b0,c.ρ[i]? = some b0:=⟨_,au ak⟩
 have hT0:=h5.Hw p8 hi (by
  rintro ks us rfl
  match q,hq with
  | 0,hq=>cases hq)
 obtain ⟨_,o,ho,rZ,e1,e2⟩:=h5.box i b0 p8;obtain ⟨cs,Ty,hh,e2,e3⟩:=e2.OB ho hT0;have e1:B[i]? = some rZ:=e1;rw [hi] at e1;obtain rfl:=ag e1;have hv:=(e3 q hqv).1;rw [Ht] at hv;obtain ⟨c',r1,r2,r3⟩:=h5.token hv sz h0 (nj jS);refine h b a c' w c0 w0 h1 h2 h3 (h4.ext r2) ?_ (h6.trans r2) ⟨r2.I.trans hI.1,hI.2⟩;have vG:=r2.keeps.ρ i b0 p8;have ann:(⟨B,T++[(rows.length,sz)]⟩:Mem).boxes[i]? = some vs:=hi;refine ⟨r1.hB,by simpa using r1.len,fun j bj hj=>?_,r1.inj,r1.dG,r1.tok,r1.yL,r1.inv⟩;obtain ⟨a',o',hh',us,f1,f2⟩:=r1.box j bj hj;have f1:B[j]? = some us:=f1
 by_cases e:j=i
 ·subst e;rw [hi] at f1;obtain rfl:=ag f1;rw [vG] at hj;obtain rfl:=ag hj;obtain ⟨cs',Ty',afI,g2,f3⟩:=f2.OB hh' (hT0.imp fun T=>r2.keeps.ty b0 T);rw [hh] at afI
  obtain ⟨rfl,rfl⟩:cs=cs'∧Ty=Ty':=by
   have:=ag afI;simp at this;exact this
  refine ⟨a',_,hh,vs.set q (.sl rows (.own T.length)),by show (B.set j _)[j]? = _;simp [hiB],.cells cs Ty _ (by simp [e2]) fun m hm=>?_⟩;have hm':m < vs.length:=by simpa using hm
  refine ⟨?_,(f3 m hm').2⟩
  by_cases hmq:m=q
  ·subst hmq;rw [List.getElem_set_self];exact r3
  ·rw [List.getElem_set_ne (fun h=>hmq h.symm)];exact (f3 m hm').1
 ·exact ⟨a',o',hh',us,by show (B.set i _)[j]? = _;rw [aj (fun h=>e h.symm)];exact f1,f2⟩
end
end Go.Ab
namespace Go.Proofs.YtnfnbjjnjjdjdaaGreatDoor
open _root_.Go.Proofs.Tryz
open Go.RowKit Go.Av Go.Ab
section
variable {E:fm} {res:List bJ} {c:Nat} {B:bQ} {T:eg}
theorem Lj {x:bh} (hT:mh E.su E.fu) (hl:∀ y∈x.kids,kM E res y) (hlen:x.kids.length≤60000) (hE:rG B c E res):cy prog bI 146 [.ptr c 0,fK x] ⟨B,T⟩ fun v S=>caR (qf E x) v∧S=⟨B,T⟩:=by
 obtain ⟨N,hn⟩:=aV B.length;obtain ⟨M,hM⟩:=aV T.length;have hi:c < N:=by have:=hE.1;omega
 obtain ⟨hc,vv,hb,hv⟩:=id hE;have vG:=hb;unfold mG at vG;unfold qf fK;rcases vj fL.name E.fu x.text 0 ak with ⟨h1,h2⟩ | ⟨j,f,h1,h2,h3⟩
 ·have e1:decide ((-1:Int) < 0)=true:=rfl;rw [h2];refine gL uM fun cG=>?_;simp only [fH] at cG;simp only [W,seval,uM,hn];refine aX (IV x.text hT (by rw [bt hc];exact hb)) ?_;rw [h1];refine goN ?_;simp only [W,seval,uM,hn,e1];refine UP uM (Left.box ?_);exact ⟨⟨x,[],rfl⟩,rfl⟩
 have h1:oW fL.name E.fu x.text 0=(j:Int):=ak;have e1:decide ((j:Int) < 0)=false:=af ak;have hj:=(ai.1 h2).1;obtain ⟨hp1,XM,hp3,hp4⟩:=hT.pa f (eM h2);have hg:(E.fu.map lT)[j]? = some (lT f):=by rw [aL,h2];rfl
 rw [sV] at hg;rw [h3];have hr0:fE 3 ([]:List (List D))=true:=rfl;refine gL uM fun cG=>?_;simp only [fH] at cG;simp only [W,seval,uM,hn];refine aX (IV x.text hT (by rw [bt hc];exact hb)) ?_;rw [h1];refine goN ?_;simp only [W,seval,uM,hn,hi,vG,e1,hg,hj];refine az.fits fun hf=>?_;refine az.token 9 [] (by rfl) 3 ak rfl ?_;simp only [fP,hM];refine az.after [_,_] _ (fun _:Unit=>(cN 58 [(0,.ptr c 0),(3,.ptr N 0),(4,.ptr (N+1) 0),(8,.ptr (N+2) 0),(9,.sl ((f.params.map ep.type).map eH) (.own M))],⟨B++[mg x,[.d (.int .i64 0),.d (.str []),.d (.int .u64 0),.d (.int .i64 0),.d (.str []),.sl [] .full,.sl [] .full,.sl [] .full],[.d (.str f.name),.d (.sl (f.params.map jK)),.d (.sl (f.results.map eH)),.d (.sl (f.body.map gE))]],T++[(f.params.length,3)]⟩)) (fun _=>True) ?_ ?_
 case refine_2 =>
  intro K' gI;refine az.dL (fun i:Nat=>(cN 58 [(0,.ptr c 0),(3,.ptr N 0),(4,.ptr (N+1) 0),(8,.ptr (N+2) 0),(9,.sl (((f.params.map ep.type).take i).map eH) (.own M)),(10,.d (.int .i64 (i:Int)))],⟨B++[mg x,[.d (.int .i64 0),.d (.str []),.d (.int .u64 0),.d (.int .i64 0),.d (.str []),.sl [] .full,.sl [] .full,.sl [] .full],[.d (.str f.name),.d (.sl (f.params.map jK)),.d (.sl (f.results.map eH)),.d (.sl (f.body.map gE))]],T++[(i,3)]⟩)) (fun i=>i≤f.params.length) (fun i=>f.params.length - i) 0 ak cx rfl ?_;rintro i h4 ih;dsimp only at h4 ih ⊢
  by_cases bu:i < f.params.length
  case neg =>
   have e2:decide ((i:Int) < (f.params.length:Int))=false:=af ak;obtain rfl:i=f.params.length:=ak;refine nF ?_;simp only [W,seval,uM,hn,e2];refine gI () trivial _ _ ?_ rfl;refine eU.env _ ?_;simp only [qa,seval];rw [bS dM]
  have e2:decide ((i:Int) < (f.params.length:Int))=true:=ah ak;have ie:=bE ((i:Int)+1) ak;have hgp:(f.params.map jK)[i]? = some (jK f.params[i]):=by simp [bu]
  obtain ⟨p,hp⟩:=aV (f.params[i]);rw [hp,qB] at hgp;have TE:min i f.params.length=i:=ak
  have bW:((f.params.map ep.type).take i).map eH++[[.int .i64 p.type.kind,.str p.type.name,.sl (p.type.elem.map eH)]]=((f.params.map ep.type).take (i+1)).map eH:=by
   have qd:i < (f.params.map ep.type).length:=by simpa using bu
   rw [bF qd,cr,← eK];simp [hp]
  have WI:fE 3 [[D.int .i64 p.type.kind,.str p.type.name,.sl (p.type.elem.map eH)]]=true:=rfl;have gh:(i+1) * 48≤140737488355328:=ak;refine nF ?_;simp only [W,seval,uM,hn,hM,e2,hgp,bu,bL,bC,Nat.reduceMul,gh,bW,WI,ie,TE,cg];exact ih (i+1) ak ak _ _ cx rfl
 rintro ⟨⟩ -;dsimp only;refine az.oC 9 ((f.params.map ep.type).map eH) (.own M) (by rfl) ?_;simp only [fP];refine goN ?_;simp only [W,seval,uM,hn,mg];refine cz (IX hl hlen (f.params.map ep.type) hE.more) ?_;rintro v _ ⟨hv,rfl⟩;unfold Cz;dsimp only;cases hr:dI E x.kids (f.params.map ep.type) with
 | none =>
  rw [hr] at hv;obtain rfl:v=_:=hv;refine goN ?_;simp only [W,seval,uM,hn];refine dj 8 [] [N,N+2] ?_;simp (maxSteps:=4000000) only [W,seval,uM,xw,hn];refine bK (fun Z=>tL x [] _ _) ?_;simp (maxSteps:=4000000) only [W,seval,uM,xw,hn,jR,eB];refine goN ?_;simp only [W,seval,uM,hn];refine UP uM (Left.all ?_);exact ⟨⟨bg x [],f.results,by rw [jR];rfl⟩,rfl⟩
 | some l =>
  rw [hr] at hv;obtain rfl:v=_:=hv;refine goN ?_;simp only [W,seval,uM,hn];refine dj 8 [] [N,N+2] ?_;simp (maxSteps:=4000000) only [W,seval,uM,xw,hn];refine bK (fun Z=>tL x l _ _) ?_;simp (maxSteps:=4000000) only [W,seval,uM,xw,hn,jR];refine goN ?_;simp only [W,seval,uM,hn];refine UP uM (Left.all ?_);refine ⟨?_,rfl⟩;show _=V.fZ [fK (bg x l),_,_];rw [jR];rfl
end
theorem mw (x:bh):[D.int .i64 x.kind,.str x.text,.int .u64 x.int,.int .i64 x.type.kind,.str x.type.name,.sl (x.type.elem.map eH),.sl (gN x.names),.sl (x.kids.map eL)]=eL x:=(dF x).symm
theorem cy.less {P:Program} {I:Inv} {f:FuncId} {vs us:List V} {S:Mem} {R:V→Mem→Prop} (hl:fq vs us) (h:cy P I f us S R):cy P I f vs S R:=by
 refine ⟨h.1,fun c w xs h1 h2 h3 hI=>h.2 c w xs (by rw [h1,hl.1]) (fun j hj=>?_) h3 hI⟩;have jT:j < vs.length:=by rw [← hl.1];exact hj
 rcases hl.2 j jT hj with e | ⟨rows,tk,e1,e2⟩
 ·rw [e];exact h2 j jT
 ·rw [e2];have:=h2 j jT;rw [e1] at this;exact this.plain
inductive CC:V→V→Prop
 | refl (v:V):CC v v
 | sl (rows:List (List D)) (tk:Tok):CC (.sl rows tk) (.d (.sl rows))
 | agg (vs us:List V):fq vs us→CC (.agg vs) (.agg us)
theorem CC.vr {c:Cx} {w:World} {v u:V} {x:Value} (hl:CC v u) (h:VR c w v x):VR c w u x:=by
 cases hl with
 | refl=>exact h
 | sl rows tk=>exact h.plain
 | agg vs us hl =>
  cases h with
  | agg _ cs h1 h2 h3 =>
   refine .agg _ _ (by rw [h1,hl.1]) (fun j hj=>?_) fun j hj=>h3 j (by rw [← hl.1];exact hj);have jT:j < vs.length:=by rw [← hl.1];exact hj
   rcases hl.2 j jT hj with e | ⟨rows,tk,e1,e2⟩
   ·rw [e];exact h2 j jT
   ·rw [e2];have:=h2 j jT;rw [e1] at this;exact this.plain
def m8 (vs us:List V):Prop:=us.length=vs.length∧∀ j (hj:j < vs.length) (jT:j < us.length),CC vs[j] us[j]
theorem m8.nil:m8 [] []:=⟨rfl,fun j hj=>absurd hj (jY j)⟩
theorem m8.cons {v u:V} {vs us:List V} (hv:CC v u) (h:m8 vs us):m8 (v :: vs) (u :: us):=⟨by simp [h.1],fun j hj jT=>by
 cases j with
 | zero=>exact hv
 | succ j=>exact h.2 j (by simpa using hj) (by simpa using jT)⟩
theorem cy.GL {P:Program} {I:Inv} {f:FuncId} {vs us:List V} {S:Mem} {R:V→Mem→Prop} (hl:m8 vs us) (h:cy P I f us S R):cy P I f vs S R:=by
 refine ⟨h.1,fun c w xs h1 h2 h3 hI=>h.2 c w xs (by rw [h1,hl.1]) (fun j hj=>?_) h3 hI⟩;have jT:j < vs.length:=by rw [← hl.1];exact hj
 exact (hl.2 j jT hj).vr (h2 j jT)
theorem xK (k:Int) (tk:Tok):CC (.agg [.d (.int .i64 k),.d (.str []),.sl [] tk]) (cH (.mk k [] [])):=.agg _ _ (fq.same (fq.same (fq.sl .nil)))
theorem fq.acj:∀ vs:List V,fq vs vs
 | []=>.nil
 | _ :: l=>(fq.acj l).same
theorem s8 (x:bh) (l:List bh) (tk:Tok) (B:bQ) (T:eg):cy prog bI 144 [fK x,.sl (l.map eL) tk] ⟨B,T⟩ (cF (fK (bg x l)) ⟨B,T⟩) :=
 cy.less (fq.same (fq.sl .nil)) (tL x l B T)
theorem Ll (x:bh):[eL x]=[x].map eL:=rfl
theorem RJ (x y:bh):[eL x,eL y]=[x,y].map eL:=rfl
section
variable {E:fm} {res:List bJ} {c:Nat} {B:bQ} {T:eg}
theorem UX {x a b:bh} (hk:x.kids=[a,b]) (ha:kM E res a) (hb:kM E res b) (Bl:a.kind=5→a.kids ≠ []) (want:bJ) (hE:rG B c E res):cy prog bI 178 [.ptr c 0,fK x,cH want] ⟨B,T⟩ fun v S=>fF ((pR (bP E a) (bP E b) (kL a) want).map fun r=>(bg x [r.1,r.2.1],r.2.2)) v∧S=⟨B,T⟩:=by
 obtain ⟨N,hn⟩:=aV B.length;have hi:c < N:=by have:=hE.1;omega
 have Wk:x.kids.map eL=[eL a,eL b]:=by rw [hk];rfl
 have hxV:fK x = .agg [.d (.int .i64 x.kind),.d (.str x.text),.d (.int .u64 x.int),.d (.int .i64 x.type.kind),.d (.str x.type.name),.d (.sl (x.type.elem.map eH)),.d (.sl (gN x.names)),.d (.sl [eL a,eL b])]:=by rw [← Wk];rfl
 have sg:=fun (l:List bh) (B:bQ) T=>s8 x l .full B T;rw [hxV] at sg ⊢;unfold cH;refine gL nJ fun cG=>?_;simp only [fH] at cG;simp only [W,seval,nJ,hn,dF];refine rK (Px a Bl _ _) ?_;unfold pR;cases Lm:kL a
 ·refine goN ?_;simp only [W,seval,nJ,hn];refine cz (ha want c _ _ hE.more) ?_;rintro v _ ⟨hv,rfl⟩;cases hr:bP E a want with
  | none =>
   rw [hr] at hv;obtain ⟨y,t,rfl⟩:=hv;refine goN ?_;simp only [W,seval,nJ,hn,fK,cH,aO];refine dj 3 [] [N,N+7] ?_;simp (maxSteps:=4000000) only [W,seval,nJ,xw,hn];refine goN ?_;simp only [W,seval,nJ,hn];refine eR nJ (Left.box ?_);exact ⟨⟨x,t,by rw [hxV,dF a,dF b];rfl⟩,rfl⟩
  | some p =>
   obtain ⟨y,t⟩:=p;rw [hr] at hv;obtain rfl:v=_:=hv;refine goN ?_;simp only [W,seval,nJ,hn,fK,cH,aK];refine cz (oO hb t hE.more) ?_;rintro v _ ⟨hv,rfl⟩;cases hw:dz (bP E b t) t with
   | none =>
    rw [hw] at hv;obtain ⟨z,rfl⟩:=hv;refine goN ?_;simp only [W,seval,nJ,hn,fK,cH];refine dj 8 [] [N,N+6,N+7,N+8] ?_;simp (maxSteps:=4000000) only [W,seval,nJ,xw,hn,bL,bC,Nat.reduceMul,mw];refine bK (fun Z=>sg [y,z] _ _) ?_;simp (maxSteps:=4000000) only [W,seval,nJ,xw,hn,jR];refine goN ?_;simp only [W,seval,nJ,hn];refine eR nJ (Left.box ?_);exact ⟨⟨bg x [y,z],t,by rw [jR];rfl⟩,rfl⟩
   | some z =>
    rw [hw] at hv;obtain rfl:v=_:=hv;refine goN ?_;simp only [W,seval,nJ,hn,fK,cH];refine dj 8 [] [N,N+6,N+7,N+8] ?_;simp (maxSteps:=4000000) only [W,seval,nJ,xw,hn,bL,bC,Nat.reduceMul,mw];refine bK (fun Z=>sg [y,z] _ _) ?_;simp (maxSteps:=4000000) only [W,seval,nJ,xw,hn,jR];refine goN ?_;simp only [W,seval,nJ,hn];refine eR nJ (Left.box ?_);refine ⟨?_,rfl⟩;show _=V.fZ [fK (bg x [y,z]),cH t,_];rw [jR];rfl
 ·refine goN ?_;simp only [W,seval,nJ,hn];refine cz (hb want c _ _ hE.more) ?_;rintro v _ ⟨hv,rfl⟩;cases hr:bP E b want with
  | none =>
   rw [hr] at hv;obtain ⟨y,t,rfl⟩:=hv;refine goN ?_;simp only [W,seval,nJ,hn,fK,cH,aO];refine dj 3 [] [N,N+7] ?_;simp (maxSteps:=4000000) only [W,seval,nJ,xw,hn];refine goN ?_;simp only [W,seval,nJ,hn];refine eR nJ (Left.box ?_);exact ⟨⟨x,t,by rw [hxV,dF a,dF b];rfl⟩,rfl⟩
  | some p =>
   obtain ⟨y,t⟩:=p;rw [hr] at hv;obtain rfl:v=_:=hv;refine goN ?_;simp only [W,seval,nJ,hn,fK,cH,aK];refine cz (oO ha t hE.more) ?_;rintro v _ ⟨hv,rfl⟩;cases hw:dz (bP E a t) t with
   | none =>
    rw [hw] at hv;obtain ⟨z,rfl⟩:=hv;refine goN ?_;simp only [W,seval,nJ,hn,fK,cH];refine dj 8 [] [N,N+6,N+7,N+8] ?_;simp (maxSteps:=4000000) only [W,seval,nJ,xw,hn,bL,bC,Nat.reduceMul,mw];refine bK (fun Z=>sg [z,y] _ _) ?_;simp (maxSteps:=4000000) only [W,seval,nJ,xw,hn,jR];refine goN ?_;simp only [W,seval,nJ,hn];refine eR nJ (Left.box ?_);exact ⟨⟨bg x [z,y],t,by rw [jR];rfl⟩,rfl⟩
   | some z =>
    rw [hw] at hv;obtain rfl:v=_:=hv;refine goN ?_;simp only [W,seval,nJ,hn,fK,cH];refine dj 8 [] [N,N+6,N+7,N+8] ?_;simp (maxSteps:=4000000) only [W,seval,nJ,xw,hn,bL,bC,Nat.reduceMul,mw];refine bK (fun Z=>sg [z,y] _ _) ?_;simp (maxSteps:=4000000) only [W,seval,nJ,xw,hn,jR];refine goN ?_;simp only [W,seval,nJ,hn];refine eR nJ (Left.box ?_);refine ⟨?_,rfl⟩;show _=V.fZ [fK (bg x [z,y]),cH t,_];rw [jR];rfl
end
def tq:=KB func168 35
def ack:=KB func193 8
theorem NY (P:Program) (ev:Operand→V) (S:Mem) (t:TypeId) (m k:Operand) (ok:Bool):jt P ev S (.lookup t m k ok)=still S (jm P S t (ev m) (ev k) ok):=rfl
theorem FX (P:Program) (ev:Operand→V) (S:Mem) (t:TypeId) (m k x:Operand):jt P ev S (.mapUpdate t m k x)=l9 P S t (ev m) (ev k) (ev x):=rfl
theorem Ln (P:Program) (ev:Operand→V) (S:Mem) (t:TypeId):jt P ev S (.makeMap t none)=some (.mp S.boxes.length,{ S with boxes:=S.boxes++[[.vY [] []]] }):=rfl
set_option linter.defProp false in
def vZ:=And.intro NY (And.intro FX Ln)
theorem Lo {α:Type} (nm:α→List UInt8) (v:α→V) (n:List UInt8):∀ l:List α,JT (l.map nm) (l.map v) n=(kK nm l n).map v
 | []=>rfl
 | x :: l=>by
  have ih:=Lo nm v n l;unfold JT at ih ⊢;rw [cw,cw,rI,kK]
  by_cases h:nm x=n
  ·rw [aD h,aD h];rfl
  ·rw [aq h,aq h];cases hk:rI (l.map nm) n with
   | none=>rw [hk] at ih;exact ih
   | some j=>rw [hk] at ih;exact ih
theorem AE {t:Nat} {z:V} {α:Type} {nm:α→List UInt8} {g:α→V} {l:List α} {B:bQ} {T:eg} {i:Nat} (hz:yo prog t=some z) (hb:B[i]? = some [.vY (l.map nm) (l.map g)]) (n:List UInt8) (ok:Bool):jm prog ⟨B,T⟩ t (.mp i) (.d (.str n)) ok=some (nr z ((kK nm l n).map g) ok):=by
 unfold jm;simp only [hz,hb,Lo]
def Ys:V:=.agg [.d (.str []),.sl [] .full]
def fuZ:V:=.agg [.d (.str []),.sl [] .full,.sl [] .full,.sl [] .full]
def tyZ:V:=.agg [.d (.int .i64 0),.d (.str []),.sl [] .full]
theorem UY:yo prog 60=some Ys:=cP
theorem UZ:yo prog 61=some fuZ:=cP
theorem NZ:yo prog 62=some tyZ:=cP
section
variable {E:fm} {res:List bJ} {c s f w:Nat} {B:bQ} {T:eg}
theorem Ax.lt (h:Ax B c s f w E res):c < B.length∧s < B.length∧f < B.length∧w < B.length :=
 ⟨(ai.1 h.c).1,(ai.1 h.s).1,(ai.1 h.f).1,(ai.1 h.w).1⟩
theorem Ax.more (h:Ax B c s f w E res) (J:bQ):Ax (B++J) c s f w E res :=
 h.jC (bt h.lt.1) (bt h.lt.2.1) (bt h.lt.2.2.1) (bt h.lt.2.2.2)
theorem Ax.EA (h:Ax B c s f w E res) (n:List UInt8) (ok:Bool) (J:bQ) (T:eg):jm prog ⟨B++J,T⟩ 60 (.mp s) (.d (.str n)) ok=some (nr Ys ((kK eZ.name E.su n).map KX) ok):=AE UY (h.more J).s n ok
theorem Ax.PB (h:Ax B c s f w E res) (n:List UInt8) (ok:Bool) (J:bQ) (T:eg):jm prog ⟨B++J,T⟩ 61 (.mp f) (.d (.str n)) ok=some (nr fuZ ((kK fL.name E.fu n).map KY) ok):=AE UZ (h.more J).f n ok
theorem Ax.nr (h:Ax B c s f w E res) (n:List UInt8) (ok:Bool) (J:bQ) (T:eg):jm prog ⟨B++J,T⟩ 62 (.mp w) (.d (.str n)) ok=some (Go.Ab.nr tyZ ((kK ep.name E.vs n).map fun p=>cH p.type) ok):=AE NZ (h.more J).w n ok
theorem Yt (n:List UInt8) (h:Ax B c s f w E res):cy prog bI 64 [.ptr c 0,.d (.str n)] ⟨B,T⟩ (cF (.d (.bool (ku E.su E.fu n))) ⟨B,T⟩):=by
 obtain ⟨N,hn⟩:=aV B.length;have hi:c < N:=by rw [← hn];exact h.lt.1
 have hb:=h.c;unfold FU at hb;have hs:=h.EA n true [] T;rw [aQ] at hs;have hf:=h.PB n true
 have vI:ku E.su E.fu n=((kK eZ.name E.su n).isNone && (kK fL.name E.fu n).isNone && !(decide (n=[95]))):=by
  unfold ku
  congr 2
  rw [dQ];simp
 rw [vI];cases h1:kK eZ.name E.su n<;>cases h2:kK fL.name E.fu n<;>rw [h1] at hs<;>rw [h2] at hf<;>simp only [Go.Ab.nr,cJ,jh,gj,Ys,fuZ,KX,KY] at hs hf
 all_goals
  refine zR b64 ?_;simp only [W,seval,b64,vZ,hn,hi,hb,hs,hf,aK,aO,Bool.true_eq_false,cS];refine bN b64 (Left.box ?_);exact ⟨rfl,rfl⟩
theorem GM {t:bJ} (ht:TW t) (h:Ax B c s f w E res):cy prog bI 68 [.ptr c 0,cH t] ⟨B,T⟩ (cF (.d (.bool (dH E.su t))) ⟨B,T⟩):=by
 obtain ⟨N,hn⟩:=aV B.length;have hi:c < N:=by rw [← hn];exact h.lt.1
 have sI:s < N:=by rw [← hn];exact h.lt.2.1
 have Mm:=h.s;have hb:=h.c;unfold FU at hb;unfold cH;refine gL JG fun cG=>?_;simp only [fH] at cG;simp only [W,seval,JG,hn];refine az.dL (fun a:bJ=>(cN 30 [(0,.ptr c 0),(3,.ptr N 0)],⟨B++[jr a],T⟩)) (fun a=>TW a∧dH E.su a=dH E.su t) (fun a=>SizeOf.sizeOf a) t ⟨ht,rfl⟩ cx rfl ?_;rintro a ⟨ha,h2⟩ ih;cases ha with
 | sl n u hu =>
  rw [BQ] at h2;refine goN ?_;simp only [W,seval,JG,hn,jr,bJ.kind,bJ.name,bJ.elem,cR,bC,bL,eK];exact ih u ⟨hu,h2⟩ fk _ _ cx rfl
 | leaf k n es hk =>
  have e8:=af hk;rw [wV _ _ _ _ hk] at h2;rw [← h2];have hs:=h.EA n true;clear ih h2;cases h1:kK eZ.name E.su n<;>rw [h1] at hs<;>simp only [Go.Ab.nr,cJ,jh,gj,Ys,KX] at hs
  all_goals
   refine goN ?_;simp only [W,seval,JG,hn,jr,bJ.kind,bJ.name,bJ.elem,e8];refine dj 11 [] [c,s,N] ?_;simp (maxSteps:=4000000) only [W,seval,JG,xw,vZ,hn,hi,hb,hs,sI,Mm]
   by_cases h7:k=7
   ·have e7:=ah h7;refine goN ?_;simp only [W,seval,JG,vZ,hn,e7,aK];refine bN JG (Left.box ?_);simp only [h7];exact ⟨rfl,rfl⟩
   ·have e7:=af h7;refine goN ?_;simp only [W,seval,JG,vZ,hn,e7,aO];refine bN JG (Left.box ?_)
    try rw [show decide (k ≠ 7)=true from ah h7]
    exact ⟨rfl,rfl⟩
theorem EB {α:Type} (nm:α→List UInt8):∀ {l:List α} {n:List UInt8} {x:α},kK nm l n=some x→x∈l
 | [],_,_,h=>by cases h
 | y :: l,n,x,h=>by
  unfold kK at h
  split at h
  ·rw [← ag h];exact aI
  ·exact aU _ (EB nm h)
theorem Lp (n:List UInt8):∀ (l:List ep) (i:Int),(fo (fun (x:ep) (_:Unit)=>(decide (x.name=n),())) l i ()).1=oW ep.name l n i
 | [],_=>rfl
 | x :: l,i=>by
  unfold fo oW
  by_cases h:x.name=n
  ·rw [aD (ah h),aD h]
  ·rw [if_neg (by simpa using h),if_neg h];exact Lp n l (i+1)
theorem RK (n:List UInt8) {i:Nat} {B:bQ} {T:eg} (hb:B[i]? = some [.d (.str n)]) (p:ep):cy prog bI 193 [Pg p,.ptr i 0] ⟨B,T⟩ (cF (.d (.bool (decide (p.name=n)))) ⟨B,T⟩):=by
 obtain ⟨N,hn⟩:=aV B.length;have hi:i < N:=by rw [← hn];exact (ai.1 hb).1
 unfold Pg;refine zR ack ?_;simp only [W,seval,ack,hn,hi,hb];refine bN ack (Left.box ?_);exact ⟨rfl,rfl⟩
theorem GN {α:Type} {P:Program} {I:Inv} {g:FuncId} {first caps:List V} {K5:α→V} {S:Mem} {f:α→Bool}:∀ {l:List α},(∀ x∈l,cy P I g (first++[K5 x]++caps) S (cF (.d (.bool (f x))) S))→Good P I g first caps K5 (fun _:Unit=>S) (fun x _=>(f x,())) l ()
 | [],_=>trivial
 | x :: l,h=>⟨h x dM,fun _=>GN fun y hy=>h y (by simp [hy])⟩
theorem GO (n:List UInt8) {i:Nat} {B:bQ} {T:eg} (hb:B[i]? = some [.d (.str n)]) (l:List ep) (hl:l.length≤60000):cy prog bI 106 [.d (.sl (l.map jK)),.func 193 [] [.ptr i 0]] ⟨B,T⟩ (cF (.d (.int .i64 (oW ep.name l n 0))) ⟨B,T⟩):=by
 rw [← Lp n l 0];exact vL 193 [] [.ptr i 0] (fun _:Unit=>⟨B,T⟩) (fun x _=>(decide (x.name=n),())) (fun _ _=>⟨rfl,rfl⟩) l ak () (GN fun p _=>RK n hb p)
theorem Lq (hT:mh E.su E.fu) (t:bJ) (n:List UInt8) (h:Ax B c s f w E res):cy prog bI 168 [.ptr c 0,cH t,.d (.str n)] ⟨B,T⟩ fun v S=>Ew (lO E.su t n) v∧S=⟨B,T⟩:=by
 obtain ⟨N,hn⟩:=aV B.length;have hi:c < N:=by rw [← hn];exact h.lt.1
 have sI:s < N:=by rw [← hn];exact h.lt.2.1
 have Mm:=h.s;have hb:=h.c;unfold FU at hb;have hs:=h.EA t.name false
 have hf:lO E.su t n=if t.kind=7 then (match kK eZ.name E.su t.name with
  | some s=>(kK ep.name s.fields n).map ep.type
  | none=>none) else none:=rfl
 rw [hf];unfold cH;cases h1:kK eZ.name E.su t.name with
 | none =>
  rw [h1] at hs;simp only [Go.Ab.nr,jh,Ys,cS,iF] at hs;refine gL tq fun cG=>?_;simp only [fH] at cG;simp only [W,seval,tq,hn];refine dj 8 [] [c,s,N] ?_;simp (maxSteps:=4000000) only [W,seval,tq,xw,vZ,hn,hi,hb,hs,sI,Mm];refine goN ?_;simp only [W,seval,tq,hn];refine aX (cy.less (fq.sl (fq.same .nil)) (GO n (i:=N+1) (by simp [gS hn]) [] dM)) ?_;have hr:(if t.kind=7 then (none:Option bJ) else none)=none:=by split<;>rfl
  by_cases h7:t.kind=7
  ·have e7:=ah h7;refine goN ?_;simp only [W,seval,tq,vZ,hn,e7,oW,aK,Int.reduceNeg,Int.reduceLT];refine aX (jc _ _) ?_;refine goN ?_;simp only [W,seval,tq,hn,cH];refine dx tq (Left.box ?_);rw [hr];exact ⟨rfl,rfl⟩
  ·have e7:=af h7;refine goN ?_;simp only [W,seval,tq,vZ,hn,e7,aO];refine aX (jc _ _) ?_;refine goN ?_;simp only [W,seval,tq,hn,cH];refine dx tq (Left.box ?_);rw [hr];exact ⟨rfl,rfl⟩
 | some st =>
  rw [h1] at hs;simp only [Go.Ab.nr,cJ,KX,cS,iF] at hs;obtain ⟨wI,_⟩:=hT.fl st (EB eZ.name h1);refine gL tq fun cG=>?_;simp only [fH] at cG;simp only [W,seval,tq,hn];refine dj 8 [] [c,s,N] ?_;simp (maxSteps:=4000000) only [W,seval,tq,xw,vZ,hn,hi,hb,hs,sI,Mm];refine goN ?_;simp only [W,seval,tq,hn];refine aX (GO n (i:=N+1) (by simp [gS hn]) st.fields wI) ?_
  by_cases h7:t.kind=7
  ·have e7:=ah h7;rw [aD h7];rcases vj ep.name st.fields n 0 ak with ⟨g1,g2⟩ | ⟨j,p,g1,g2,g3⟩
   ·rw [g1,g2];refine goN ?_;simp only [W,seval,tq,vZ,hn,e7,aK,Int.reduceNeg,Int.reduceLT];refine aX (jc _ _) ?_;refine goN ?_;simp only [W,seval,tq,hn,cH];refine dx tq (Left.box ?_);exact ⟨rfl,rfl⟩
   ·have g1:oW ep.name st.fields n 0=(j:Int):=ak;have e1:decide ((j:Int) < 0)=false:=af ak;have hj:=(ai.1 g2).1;have hg:(st.fields.map jK)[j]? = some (jK p):=by rw [aL,g2];rfl
    rw [qB] at hg;rw [g1,g3];refine goN ?_;simp only [W,seval,tq,vZ,hn,e7,e1,hg,hj,aK];refine dx tq (Left.box ?_);exact ⟨rfl,rfl⟩
  ·have e7:=af h7;rw [aq h7];refine goN ?_;simp only [W,seval,tq,vZ,hn,e7,aO];refine aX (jc _ _) ?_;refine goN ?_;simp only [W,seval,tq,hn,cH];refine dx tq (Left.box ?_);exact ⟨rfl,rfl⟩
end
mutual
def mD:bh→bh
 | .mk k t i ty ns ks=>.mk k t i (if k=2 then eF else ty) ns (fU ks)
def fU:List bh→List bh
 | []=>[]
 | x :: l=>mD x :: fU l
end
theorem oF:∀ l:List bh,(fU l).length=l.length
 | []=>by simp [fU]
 | x :: l=>by simp [fU,oF l]
theorem m9 {r:Option (bh × bJ)} {t:bJ} {y:bh} (h:dz r t=some y):∃ u,r=some (y,u):=by
 unfold dz at h
 split at h
 ·split at h
  ·obtain rfl:=ag h;exact ⟨_,rfl⟩
  ·cases h
 ·cases h
theorem IY {fa fb:bJ→Option (bh × bJ)} {la:Bool} {w:bJ} {a b:bh} {t:bJ} (h:pR fa fb la w=some (a,b,t)):(∃ w u,fa w=some (a,u))∧∃ w u,fb w=some (b,u):=by
 unfold pR at h
 split at h
 ·split at h
  ·rename_i b' t' hb;obtain ⟨a',ha,e⟩:=aB.1 h;obtain ⟨rfl,rfl,rfl⟩:=e;obtain ⟨u,hu⟩:=m9 ha;exact ⟨⟨_,u,hu⟩,⟨_,_,hb⟩⟩
  ·cases h
 ·split at h
  ·rename_i b' t' hb;obtain ⟨a',ha,e⟩:=aB.1 h;obtain ⟨rfl,rfl,rfl⟩:=e;obtain ⟨u,hu⟩:=m9 ha;exact ⟨⟨_,_,hb⟩,⟨_,u,hu⟩⟩
  ·cases h
theorem acm {fa fb:bJ→Option (bh × bJ)} {la:Bool} {tx:List UInt8} {w:bJ} {a b:bh} {t:bJ} (h:vh fa fb la tx w=some (a,b,t)):(∃ w u,fa w=some (a,u))∧∃ w u,fb w=some (b,u):=by
 have key:∀ {r:Option (bh × bh × bJ)} {p:bh→bh→bJ→Option (bh × bh × bJ)},(match r with | some (a,b,t)=>p a b t | none=>none)=some (a,b,t)→(∀ a1 b1 t1,p a1 b1 t1=some (a,b,t)→a1=a∧b1=b)→∃ t1,r=some (a,b,t1):=by
  intro r p h hp;cases r with
  | none=>cases h
  | some q =>
   obtain ⟨a1,b1,t1⟩:=q;obtain ⟨rfl,rfl⟩:=hp _ _ _ h;exact ⟨t1,rfl⟩
 unfold vh at h
 split at h
 ·split at h
  ·rename_i a' b' ha hb;obtain ⟨rfl,rfl,rfl⟩:=ag h;obtain ⟨u,hu⟩:=m9 ha;obtain ⟨v,hv⟩:=m9 hb;exact ⟨⟨_,u,hu⟩,⟨_,v,hv⟩⟩
  ·cases h
 split at h
 ·split at h
  ·rename_i a' t' ha
   split at h
   ·obtain ⟨b',hb,e⟩:=aB.1 h;obtain ⟨rfl,rfl,rfl⟩:=e;obtain ⟨u,hu⟩:=m9 hb;exact ⟨⟨_,_,ha⟩,⟨_,u,hu⟩⟩
   ·cases h
  ·cases h
 split at h
 ·obtain ⟨t1,h1⟩:=key h (fun a1 b1 t1 h=>by
   split at h
   ·obtain ⟨rfl,rfl,_⟩:=ag h;exact ⟨rfl,rfl⟩
   ·cases h)
  exact IY h1
 split at h
 ·obtain ⟨t1,h1⟩:=key h (fun a1 b1 t1 h=>by
   split at h
   ·obtain ⟨rfl,rfl,_⟩:=ag h;exact ⟨rfl,rfl⟩
   ·cases h)
  exact IY h1
 ·obtain ⟨t1,h1⟩:=key h (fun a1 b1 t1 h=>by
   split at h
   ·obtain ⟨rfl,rfl,_⟩:=ag h;exact ⟨rfl,rfl⟩
   ·cases h)
  exact IY h1
mutual
theorem gO (E:fm):∀ (x:bh) (w:bJ) (y:bh) (t:bJ),bP E x w=some (y,t)→mD y=mD x
 | .mk k tx i ty ns ks,w,y,t,h=>by
  unfold bP at h
  by_cases c0:k=3
  ·rw [aD c0] at h;obtain ⟨rfl,_⟩:=h;rfl
  rw [aq c0] at h
  by_cases c1:k=1
  ·rw [aD c1] at h;obtain ⟨p,_,e⟩:=aB.1 h;obtain ⟨rfl,_⟩:=e;rfl
  rw [aq c1] at h
  by_cases c2:k=6
  ·rw [aD c2] at h
   split at h
   ·rename_i a b;obtain ⟨⟨a',b',t'⟩,hr,e⟩:=aB.1 h;obtain ⟨rfl,_⟩:=e;obtain ⟨⟨_,_,ha⟩,⟨_,_,hb⟩⟩:=acm hr;simp only [mD,fU,gO E a _ _ _ ha,gO E b _ _ _ hb]
   ·cases h
  rw [aq c2] at h
  by_cases c3:k=7
  ·rw [aD c3] at h
   split at h
   ·rename_i l t' hr;obtain ⟨rfl,_⟩:=h;unfold Cz at hr
    split at hr
    ·obtain ⟨l',hl,e⟩:=aB.1 hr;have e:=(aR e).1;subst e;simp only [mD,nx E ks _ _ hl]
    ·cases hr
   ·cases h
  rw [aq c3] at h
  by_cases c4:k=9
  ·rw [aD c4] at h
   split at h
   ·rename_i a
    split at h
    ·rename_i a' t' ha;obtain ⟨_,_,e⟩:=aB.1 h;obtain ⟨rfl,_⟩:=e;simp only [mD,fU,gO E a _ _ _ ha]
    ·cases h
   ·cases h
  rw [aq c4] at h
  by_cases c5:k=12
  ·rw [aD c5] at h
   split at h
   ·rename_i a
    split at h
    ·rename_i a' t' ha;obtain ⟨_,_,e⟩:=aB.1 h;obtain ⟨rfl,_⟩:=e;simp only [mD,fU,gO E a _ _ _ ha]
    ·cases h
   ·cases h
  rw [aq c5] at h
  by_cases c6:k=10
  ·rw [aD c6] at h
   split at h
   ·rename_i a b
    split at h
    ·rename_i a' t' ha;obtain ⟨_,_,h⟩:=dX.1 h;obtain ⟨b',hb,e⟩:=aB.1 h;obtain ⟨rfl,_⟩:=e;obtain ⟨_,hb⟩:=m9 hb;simp only [mD,fU,gO E a _ _ _ ha,gO E b _ _ _ hb]
    ·cases h
   ·cases h
  rw [aq c6] at h
  by_cases c7:k=11
  ·rw [aD c7] at h
   split at h
   ·rename_i a b c
    split at h
    ·rename_i a' t' ha;obtain ⟨_,_,h⟩:=dX.1 h;obtain ⟨b',hb,h⟩:=dX.1 h;obtain ⟨c',hc,e⟩:=aB.1 h;obtain ⟨rfl,_⟩:=e;obtain ⟨_,hb⟩:=m9 hb;obtain ⟨_,hc⟩:=m9 hc;simp only [mD,fU,gO E a _ _ _ ha,gO E b _ _ _ hb,gO E c _ _ _ hc]
    ·cases h
   ·cases h
  rw [aq c7] at h
  by_cases c8:k=13
  ·rw [aD c8] at h
   split at h
   ·rename_i a b
    split at h
    ·rename_i a' t' ha;obtain ⟨_,_,h⟩:=dX.1 h;obtain ⟨b',hb,e⟩:=aB.1 h;obtain ⟨rfl,_⟩:=e;obtain ⟨_,hb⟩:=m9 hb;simp only [mD,fU,gO E a _ _ _ ha,gO E b _ _ _ hb]
    ·cases h
   ·cases h
  rw [aq c8] at h
  by_cases c9:k=14
  ·rw [aD c9] at h
   split at h
   ·obtain ⟨l,hl,e⟩:=aB.1 h;obtain ⟨rfl,_⟩:=e;obtain ⟨_,_,hl⟩:=dX.1 hl;simp only [mD,nx E ks _ _ hl]
   ·cases h
  rw [aq c9] at h
  by_cases c10:k=15
  ·rw [aD c10] at h
   split at h
   ·obtain ⟨l,hl,e⟩:=aB.1 h;obtain ⟨rfl,_⟩:=e;obtain ⟨_,_,hl⟩:=dX.1 hl;simp only [mD,nx E ks _ _ hl]
   ·cases h
  rw [aq c10] at h
  by_cases c11:kL (.mk k tx i ty ns ks)=true
  ·rw [aD c11] at h;unfold oC at h
   split at h
   ·rename_i h5;have h5:k=5:=h5
    split at h
    ·rename_i a ks' hk;have hk:ks=a :: ks':=hk
     split at h
     ·obtain ⟨rfl,_⟩:=h
      have h2:a.kind=2:=by
       subst h5 hk
       simpa [kL] using c11
      obtain ⟨k1,t1,i1,ty1,n1,s1⟩:=a;have h2:k1=2:=h2;rw [hk];simp only [bg,setType,mD,fU,h2,gj]
     ·cases h
    ·cases h
   ·rename_i h5;have h5:¬ k=5:=h5
    split at h
    ·cases h
    ·obtain ⟨rfl,_⟩:=h;have h2:k=2:=by simpa [kL,h5] using c11
     simp only [setType,mD,h2,gj]
  rw [aq c11] at h
  by_cases c12:k=4
  ·rw [aD c12] at h
   split at h
   ·rename_i a;obtain ⟨a',ha,e⟩:=aB.1 h;obtain ⟨rfl,_⟩:=e;obtain ⟨_,ha⟩:=m9 ha;simp only [mD,fU,gO E a _ _ _ ha]
   ·cases h
  rw [aq c12] at h
  by_cases c13:k=5
  ·rw [aD c13] at h
   split at h
   ·rename_i a
    split at h
    ·rename_i a' t' ha
     split at h
     ·obtain ⟨rfl,_⟩:=h;simp only [mD,fU,gO E a _ _ _ ha]
     ·cases h
    ·cases h
   ·cases h
  rw [aq c13] at h
  ·split at h
   ·rename_i a
    split at h
    ·obtain ⟨a',ha,e⟩:=aB.1 h;obtain ⟨rfl,_⟩:=e;obtain ⟨_,ha⟩:=m9 ha;simp only [mD,fU,gO E a _ _ _ ha]
    ·split at h
     ·rename_i a' t' ha
      split at h
      ·obtain ⟨rfl,_⟩:=h;simp only [mD,fU,gO E a _ _ _ ha]
      ·cases h
     ·cases h
   ·cases h
theorem nx (E:fm):∀ (l:List bh) (ts:List bJ) (m:List bh),dI E l ts=some m→fU m=fU l
 | [],[],m,h=>by unfold dI at h;rw [← Option.some.inj h]
 | [],_ :: _,m,h=>by unfold dI at h;cases h
 | _ :: _,[],m,h=>by unfold dI at h;cases h
 | x :: l,t :: ts,m,h=>by
  unfold dI at h
  split at h
  ·rename_i y hy;obtain ⟨m',hm,rfl⟩:=aB.1 h;obtain ⟨u,hu⟩:=m9 hy;simp only [fU,gO E x _ _ _ hu,nx E l ts m' hm]
  ·cases h
end
def FY (lo hi:Nat) (B B1:bQ):Prop:=B1.length=B.length∧(∀ i,¬ (lo≤i∧i < hi)→B1[i]? = B[i]?)∧∀ (i:Nat) (Y:List V),B1[i]? = some Y→∀ v∈Y,(∃ X,B[i]? = some X∧v∈X)∨fit 0 0 v=true
theorem FY.refl (lo hi:Nat) (B:bQ):FY lo hi B B:=⟨rfl,fun _ _=>rfl,fun _ Y hY _ hv=>.inl ⟨Y,hY,hv⟩⟩
theorem FY.trans {lo hi:Nat} {B B1 B2:bQ} (h:FY lo hi B B1) (h1:FY lo hi B1 B2):FY lo hi B B2 :=
 ⟨h1.1.trans h.1,fun i hi=>(h1.2.1 i hi).trans (h.2.1 i hi),fun i Y hY v hv=>(h1.2.2 i Y hY v hv).elim (fun ⟨X,hX,hm⟩=>h.2.2 i X hX v hm) .inr⟩
theorem FY.wide {lo hi lG kD:Nat} {B B1:bQ} (h:FY lG kD B B1) (h1:lo≤lG) (h2:kD≤hi):FY lo hi B B1:=⟨h.1,fun i hi=>h.2.1 i ak,h.2.2⟩
theorem FY.put {lo hi j:Nat} {B:bQ} {X Y:List V} (h1:lo≤j) (h2:j < hi) (hX:B[j]? = some X) (hY:∀ v∈Y,v∈X∨fit 0 0 v=true):FY lo hi B (B.set j Y):=by
 refine ⟨aG,fun i hi=>aj ak,fun i Z hZ v hv=>?_⟩
 by_cases e:i=j
 ·subst e;rw [aC (ai.1 hX).1] at hZ;obtain rfl:=ag hZ;exact (hY v hv).imp (fun h=>⟨X,hX,h⟩) id
 ·rw [aj fun h=>e h.symm] at hZ;exact .inl ⟨Z,hZ,hv⟩
theorem EC {x y:bh} (h:mD x=mD y):fU x.kids=fU y.kids:=by
 cases x;cases y;simp only [mD,bh.mk.injEq] at h;exact h.2.2.2.2.2
theorem IZ:∀ (l m:List bh) (B:bQ) (lo hi:Nat) (X:List V),fU l=fU m→rz B l lo hi X→∃ B1 X1,FY lo hi B B1∧rz B1 m lo hi X1∧∀ v∈X1,v∈X∨fit 0 0 v=true
 | [],[],B,lo,hi,X,_,h=>⟨B,X,.refl _ _ _,h,fun _ hv=>.inl hv⟩
 | [],_ :: _,_,_,_,_,e,_=>by simp [fU] at e
 | _ :: _,[],_,_,_,_,e,_=>by simp [fU] at e
 | .mk k t i ty ns ks :: l,y :: m,B,lo,hi,X,e,h=>by
  simp only [fU,vM] at e;obtain ⟨e1,e2⟩:=e;unfold rz at h;obtain ⟨r,X',q,rfl,h2,h3,h4,h5,h6⟩:=h;obtain ⟨kv,rfl,hv⟩:=pT.1 h5;have hk:=EC e1;have hlen:ks.length=y.kids.length:=by rw [← oF ks,← oF y.kids];exact gR _ hk
  have new:∀ v∈ef y kv,v∈ef (.mk k t i ty ns ks) kv∨fit 0 0 v=true:=fun v hv=>by
   have:=BR (A:=[]) (C:=[]) (x:=.mk k t i ty ns ks) v (by simpa using hv)
   simpa using this
  have key:∃ B1,FY lo q B B1∧mY B1 y.kids lo q kv:=by
   rcases hv with ⟨g1,g2,g3⟩ | ⟨g1,j,cap,Y,g2,g3,g4,g5,g6⟩
   ·exact ⟨B,.refl _ _ _,.inl ⟨by rw [← hlen];exact g1,g2,g3⟩⟩
   ·obtain ⟨B1,Y1,i1,i2,i3⟩:=IZ ks y.kids B _ _ _ hk g6;have hj:B1[j]? = some Y:=by rw [i1.2.1 j ak];exact g5
    refine ⟨B1.set j Y1,(i1.wide ak (aA _)).trans (.put g3 g4 hj i3),.inr ⟨by rw [← hlen];exact g1,j,cap,Y1,by rw [← hlen];exact g2,g3,g4,aC (ai.1 hj).1,rz.frame _ i2 fun i h7 h8=>aj ak⟩⟩
  obtain ⟨B1,i1,i2⟩:=key;obtain ⟨B2,X2,j1,j2,j3⟩:=IZ l m B1 q hi X' e2 (rz.frame l h6 fun i h7 h8=>i1.2.1 i ak);refine ⟨B2,ef y kv++X2,(i1.wide (aA _) h4).trans (j1.wide h3 (aA _)),?_,fun v hv=>?_⟩
  ·unfold rz;exact ⟨_,X2,q,rfl,rfl,h3,h4,pT.2 ⟨kv,rfl,i2.frame fun i h7 h8=>j1.2.1 i ak⟩,j2⟩
  ·rcases dA.1 hv with hv | hv
   ·exact (new v hv).imp (fun h=>eO _ h) id
   ·exact (j3 v hv).imp (fun h=>iA _ h) id
termination_by l=>SizeOf.sizeOf l
theorem ic.ex {B:bQ} {n c s f w:Nat} {E:fm} {res:List bJ} {j lo hi:Nat} {A C:List V} {kv:V} {x y:bh} (h:ic B n c s f w E res j lo hi A C kv x) (e:mD y=mD x):∃ B1,sZ j lo hi A C kv B B1 (some y):=by
 obtain ⟨n1,n2,n3,n4,n5,n6⟩:=h.nb;have hl:=h.nl;have hjo:=h.jo;have hk:=(EC e).symm;have hlen:x.kids.length=y.kids.length:=by rw [← oF x.kids,← oF y.kids];exact gR _ hk
 have key:∃ B1,FY lo hi B B1∧mY B1 y.kids lo hi kv:=by
  rcases h.own with ⟨g1,g2,g3⟩ | ⟨g1,j1,cap,Y,g2,g3,g4,g5,g6⟩
  ·exact ⟨B,.refl _ _ _,.inl ⟨by rw [← hlen];exact g1,g2,g3⟩⟩
  ·obtain ⟨B1,Y1,i1,i2,i3⟩:=IZ x.kids y.kids B _ _ _ hk g6;have hj:B1[j1]? = some Y:=by rw [i1.2.1 j1 ak];exact g5
   refine ⟨B1.set j1 Y1,(i1.wide ak (aA _)).trans (.put g3 g4 hj i3),.inr ⟨by rw [← hlen];exact g1,j1,cap,Y1,by rw [← hlen];exact g2,g3,g4,aC (ai.1 hj).1,rz.frame _ i2 fun i h7 h8=>aj ak⟩⟩
 obtain ⟨B1,i1,i2⟩:=key;have hj:B1[j]? = some (A++ef x kv++C):=by rw [i1.2.1 j ak];exact h.row
 have ZZ:=(ai.1 hj).1;have i3:=(i1.wide (lo:=0) (hi:=B.length) (bG _) ak).trans (.put (bG j) ak hj (BR (y:=y)));refine ⟨B1.set j (A++ef y kv++C),⟨by rw [aG,i1.1];exact aA _,fun i _ ho=>?_,fun i _=>i3.2.2 i⟩,by rw [aG,i1.1],fun z hz=>?_⟩
 ·rw [aj fun e=>ho.1 e.symm];exact i1.2.1 i (by have:=ho.2;omega)
 ·obtain rfl:=ag hz;exact ⟨aC ZZ,i2.frame fun i _ _=>aj ak⟩
def yc:=KB func192 43
theorem I0 {X A C:List V} {x:bh} {kv:V} (hX:X=A++ef x kv++C) (ha:A.length=0):X[0]? = some (.d (.int .i64 x.kind))∧X[7]? = some kv∧8≤X.length∧X.take 8=ef x kv:=by
 obtain ⟨h0,_,_,_,h7,h8,h9,_⟩:=jd hX ha;rw [bf] at h7 h8;exact ⟨h0,h7,h8,h9⟩
section
variable {E:fm} {res:List bJ} {n c s f w:Nat} {B:bQ} {T:eg} {j lo hi:Nat} {A C:List V} {kv:V}
theorem sZ.refl {r:Option bh} (hr:r=Option.none):sZ j lo hi A C kv B B r:=⟨.refl _ _ _ _ _,rfl,fun z hz=>by rw [hr] at hz;cases hz⟩
theorem ug.ne {x:bh} (h:ic B n c s f w E res j lo hi A C kv x) (want:bJ):∃ v S',ug (bP E x want) j lo hi A C kv B T v S':=by
 cases hr:bP E x want with
 | none=>exact ⟨.fZ [cH eF,.d (.bool false)],_,B,rfl,.refl rfl,eF,rfl⟩
 | some p =>
  obtain ⟨y,t⟩:=p;obtain ⟨B1,hB⟩:=h.ex (gO E x _ _ _ hr);exact ⟨_,_,B1,rfl,hB,rfl⟩
theorem xZ.ne {x:bh} (h:ic B n c s f w E res j lo hi A C kv x) (want:bJ):∃ v S',xZ (dz (bP E x want) want) j lo hi A C kv B T v S':=by
 cases hr:dz (bP E x want) want with
 | none=>exact ⟨_,_,B,rfl,.refl rfl,rfl⟩
 | some y =>
  obtain ⟨u,hu⟩:=m9 hr;obtain ⟨B1,hB⟩:=h.ex (gO E x _ _ _ hu);exact ⟨_,_,B1,rfl,hB,rfl⟩
theorem ic.afK {x:bh} (h:ic B n c s f w E res j lo hi A C kv x) {Z B2:bQ} {r:Option bh} (hd:sZ j lo hi A C kv (B++Z) B2 r):B2=B2.take B.length++Z∧sZ j lo hi A C kv B (B2.take B.length) r:=by
 obtain ⟨n1,n2,n3,n4,n5,n6⟩:=h.nb;have hl:=h.nl;obtain ⟨he,hlen,hr⟩:=hd;rw [av] at hlen;have bu:(B2.take B.length).length=B.length:=by rw [cg];omega
 refine ⟨?_,⟨ak,fun i hi ho=>?_,fun i hi Y hY v hv=>?_⟩,bu,fun y hy=>?_⟩
 ·apply fW;intro i;rcases ct i B.length with hi | hi
  ·rw [bt ak,mH hi]
  ·rw [aN ak,bu];rcases ct i (B++Z).length with h2 | h2
   ·rw [he.2.1 i h2 ⟨ak,ak⟩,aN hi]
   ·rw [av] at h2;rw [dP ak,dP ak]
 ·rw [mH hi,he.2.1 i (by rw [av];omega) ho,bt hi]
 ·rw [mH hi] at hY;have:=he.2.2 i (by rw [av];omega) Y hY v hv
  rwa [bt hi] at this
 ·obtain ⟨h1,h2⟩:=hr y hy;exact ⟨by rw [mH ak];exact h1,h2.frame fun i _ hi=>by rw [mH ak]⟩
theorem ic.bx {x:bh} (h:ic B n c s f w E res j lo hi A C kv x) (hn:x.kids ≠ []):∃ j1 m cap,kv = .bx j1 m cap∧m=x.kids.length:=by
 rcases h.own with ⟨h0,_⟩ | ⟨_,j1,cap,Y,h1,_⟩
 ·exact absurd (jP.1 h0) hn
 ·exact ⟨j1,_,cap,h1,rfl⟩
theorem ic.vW {j1 m cap:Nat} {x y:bh} (h:ic B n c s f w E res j lo hi A C (.bx j1 m cap) x) {k:Nat} (hk:x.kids[k]? = some y) :
 ∃ (lG kD:Nat) (A1 C1:List V) (uL:V),A1.length=k * 8∧(j1 < n∧Out j1 lG kD j)∧ic B n c s f w E res j1 lG kD A1 C1 uL y ∧
  (∀ B1 m,iC j1 lG kD m B B1→iC j lo hi m B B1) ∧
  ∀ B1 z,sZ j1 lG kD A1 C1 uL B B1 (some z)→ic B1 n c s f w E res j lo hi A C (.bx j1 m cap) (bg x (x.kids.set k z)):=by
 obtain ⟨j1',gF,lG,kD,A1,C1,uL,e,h1,h2,h3,h4,h5⟩:=h.r9 hk;obtain ⟨rfl,rfl,rfl⟩:=V.bx.inj e;exact ⟨lG,kD,A1,C1,uL,h1,h2,h3,h4,fun B1 z hd=>h5 B1 z (hd.1.less h.nl) (hd.2.2 z rfl).1 (hd.2.2 z rfl).2⟩
def vn:List V:=[.d (.int .i64 0),.d (.str []),.sl [] .full]
theorem lH (x:bh) (l m:List bh):bg (bg x l) m=bg x m:=by cases x;rfl
theorem Lr {x p q:bh} {ks:List bh} (De:x.kids=ks) {kp kq j1 m cap N:Nat} {R:V→Mem→Prop} (Ws:x.kids[kp]? = some p) (hkq:x.kids[kq]? = some q) (hpq:kp ≠ kq) (hp:kn E res p) (hq:kn E res q) (want:bJ) (hn:B.length=N) (h:ic B n c s f w E res j lo hi A C (.bx j1 m cap) x)
 (hR:∀ v S',ug (match bP E p want with
  | some (y,t)=>(dz (bP E q t) t).map fun z=>(bg x ((ks.set kp y).set kq z),t)
  | none=>none) j lo hi A C (.bx j1 m cap) B T v S'→R v S') :
 az prog bI (N,T.length) 192 [.code (kF f192 10)] (cN 43 [(8,.ptr j1 (kp * 8)),(9,.ptr j1 (kq * 8)),(6,.ptr (N+1) 0),(5,.ptr N 0),(0,.ptr c 0)]) ⟨B++[jr want,vn],T⟩ (Go.Ab.Left ⟨B,T⟩ R):=by
 have nZ:=h.nl;obtain ⟨lG,kD,A1,C1,uL,a1,⟨zw,_⟩,k1,k2,k3⟩:=(h.more (J:=[jr want,vn])).vW Ws;have tp:=hp want n c s f w _ T j1 lG kD A1 C1 uL k1;rw [a1] at tp;unfold cH jr vn at tp;unfold jr vn;refine goN ?_;simp only [W,seval,yc,hn];refine cz tp ?_;rintro v _ ⟨B1,rfl,hd,hv⟩;obtain ⟨t,b,rfl,tV,p8⟩:=vl hv;have eW:=hd.2.1;have e1:iC j lo hi B.length B B1:=iC.new.step (k2 _ _ hd.1);have f1:=h.yD (k2 _ _ hd.1) (i:=N+1) ak (by simp [hn]);rw [gS hn] at f1;simp only [bX,cu,vn] at f1;simp only [av,aP,aW,hn,bf,Nat.reduceAdd] at eW;have jI:N+1 < N+2:=ak;unfold cH;have lW:N+1 < B1.length:=ak;cases b
 ·have hr:=p8 rfl;rw [hr] at hR;refine goN ?_;simp only [W,seval,yc,eW];refine dj 9 [] [N+2] ?_;simp (maxSteps:=4000000) only [W,seval,yc,xw,eW,f1,jI];refine az.go 20 ?_;simp only [W,seval,yc,eW];have e2:∀ Z J,iC j lo hi B.length B (B1.set (N+1) Z++J):=fun Z J=>(e1.qI ak).app;refine dx yc (bT (e2 _ _) ?_) (h1:=by simp only [W,seval,eW,jI,lW];exact rfl);exact hR _ _ ⟨_,rfl,.none (e2 _ _) rfl,t,rfl⟩
 ·obtain ⟨y,hr⟩:=tV rfl;rw [hr] at hR hd;dsimp only at hR;have uN:=k3 B1 y hd;obtain ⟨U0,U1,A2,C2,kv2,a2,_,q1,q2,q3⟩:=(uN.more (J:=[jr t])).vW (k:=kq) (y:=q) (by rw [dU,aj hpq];exact hkq);have hh:=pU (T:=T) hq t q1;rw [a2] at hh;unfold cH jr at hh;refine goN ?_;simp only [W,seval,yc,eW];refine dj 9 [] [N+2] ?_;simp (maxSteps:=4000000) only [W,seval,yc,xw,eW,f1,jI];refine iO (xZ.ne (T:=T) q1 t) hh ?_;rintro v _ ⟨B2,rfl,kP,rfl⟩;have qd:=kP.2.1;simp only [av,aP,aW,eW,bf,Nat.reduceAdd] at qd;have e2:iC j lo hi B.length B B2:=(e1.app (J:=[jr t])).step (q2 _ _ kP.1);have g1:B2[N+2]? = (B1++[jr t])[N+2]?:=uN.yD (q2 _ _ kP.1) (i:=N+2) ak (by simp [eW]);have g3:∀ Z,(B2.set (N+1) Z)[N+2]? = (B1++[jr t])[N+2]?:=fun Z=>by rw [aj ak];exact g1
  have g2:=uN.yD (q2 _ _ kP.1) (i:=N+1) ak (by simp [eW]);rw [bt ak,f1] at g2;have uj:N+1 < N+3:=ak;have hN4:N+1 < B2.length:=ak;refine ⟨⟨g1,trivial⟩,?_⟩;simp (maxSteps:=4000000) only [W,seval,yc,xw,qd,g2,uj];refine ⟨g3 _,g3 _,?_⟩;refine az.go 20 ?_;simp only [W,seval,yc,qd];have g4:∀ Z,(B2.set (N+1) Z)[N+1]? = some Z:=fun Z=>aC hN4;refine dx yc (bT (e2.qI ak) ?_) (h1:=by simp only [W,seval,qd,g4];exact rfl);cases hw:dz (bP E q t) t with
  | none =>
   rw [hw] at hR;exact hR _ _ ⟨_,rfl,.none (e2.qI ak) rfl,t,rfl⟩
  | some z =>
   rw [hw] at kP hR;have hx2:=q3 B2 z kP;refine hR _ _ ⟨_,rfl,hx2.fin (e2.qI ak) nZ (fun i hi=>aj ak) fun u hu=>?_,rfl⟩;rw [← ag hu,dU,lH,De]
theorem I1 {x a b:bh} (hk:x.kids=[a,b]) (ha:kn E res a) (hb:kn E res b) (Bl:a.kind=5→a.kids ≠ []) (want:bJ) (h:ic B n c s f w E res j lo hi A C kv x):cy prog bI 192 [.ptr c 0,.ptr j A.length,cH want] ⟨B,T⟩ (ug ((pR (bP E a) (bP E b) (kL a) want).map fun r=>(bg x [r.1,r.2.1],r.2.2)) j lo hi A C kv B T):=by
 obtain ⟨N,hn⟩:=aV B.length;obtain ⟨al,jB⟩:=aV A.length;obtain ⟨X,hX⟩:=aV (A++ef x kv++C);obtain ⟨x0,x1,x2,x6,x7,x8,x9,sC,uh⟩:=jd hX.symm jB;have bW:=h.row;rw [hX] at bW;have nZ:=h.nl;have hj:j < N:=by have:=h.nb;omega
 have hjN:j ≠ N:=ak;rw [jB];obtain ⟨j1,_,cap,rfl,rfl⟩:=h.bx (by rw [hk];simp);obtain ⟨lG,kD,A1,C1,uL,a1,⟨zw,_⟩,k1,k2,k3⟩:=h.vW (k:=0) (y:=a) (by rw [hk];rfl);obtain ⟨Y,hY⟩:=aV (A1++ef a uL++C1);obtain ⟨y0,y7,y8,y9⟩:=I0 hY.symm ak;have tM:=k1.row;rw [hY] at tM;have zw:j1 < N:=ak;have hlen:x.kids.length=2:=by rw [hk];rfl
 have i0:(0:Int) < (x.kids.length:Int):=ak;have i1:(1:Int) < (x.kids.length:Int):=ak;unfold cH;refine gL yc fun cG=>?_;simp only [fH] at cG;simp only [W,seval,yc,hn];refine dj 11 [] [j] ?_;simp (maxSteps:=4000000) only [W,seval,yc,xw,oE,hn,hj,bW,x7,i0,i1];refine goN ?_;simp only [W,seval,yc,hn,zw,tM,y8,y9];refine rK (NW Bl k1.more.own _) ?_;unfold pR;cases Lm:kL a
 ·refine az.go 3 ?_;simp only [W,seval,yc,hn];refine az.ng cx (Lr hk (kp:=0) (kq:=1) (p:=a) (q:=b) (by rw [hk];rfl) (by rw [hk];rfl) bH ha hb want hn h fun v S' hv=>?_)
  ·have e:(match bP E a want with
    | some (y,t)=>(dz (bP E b t) t).map fun z=>(bg x (([a,b].set 0 y).set 1 z),t)
    | none=>none)=Option.map (fun r:bh × bh × bJ=>(bg x [r.1,r.2.1],r.2.2)) (match bP E a want with
    | some (a,t)=>Option.map (fun b=>(a,b,t)) (dz (bP E b t) t)
    | none=>none):=by
    cases bP E a want with
    | none=>rfl
    | some p =>
     dsimp only;cases dz (bP E b p.2) p.2<;>rfl
   rw [e] at hv;exact hv
 ·refine az.go 8 ?_;simp only [W,seval,yc,hn];refine az.ng cx (Lr hk (kp:=1) (kq:=0) (p:=b) (q:=a) (by rw [hk];rfl) (by rw [hk];rfl) bH hb ha want hn h fun v S' hv=>?_)
  ·have e:(match bP E b want with
    | some (y,t)=>(dz (bP E a t) t).map fun z=>(bg x (([a,b].set 1 y).set 0 z),t)
    | none=>none)=Option.map (fun r:bh × bh × bJ=>(bg x [r.1,r.2.1],r.2.2)) (match bP E b want with
    | some (b,t)=>Option.map (fun a=>(a,b,t)) (dz (bP E a t) t)
    | none=>none):=by
    cases bP E b want with
    | none=>rfl
    | some p =>
     dsimp only;cases dz (bP E a p.2) p.2<;>rfl
   rw [e] at hv;exact hv
end
def p9:=KB func137 57
theorem GP:eT prog 48=some ⟨.slice 50,1,24,false,[.sl [] .full]⟩:=cP
theorem I2 {B:bQ} {l:List bh} {lo hi:Nat} {v:V} (h:mY B l lo hi v):mM prog 48 v=some (.d (.int .i64 (l.length:Int))):=by
 rcases h with ⟨h0,rfl,_⟩ | ⟨_,j,cap,Y,rfl,_⟩
 ·rw [h0,mM.eq_1,GP];rfl
 ·rw [mM.eq_1,GP];rfl
theorem ED {α:Type} (ys l:List α) {i:Nat} (h:ys.length=i):(ys++l.drop i)[i]? = l[i]?:=by
 rw [aN ak,h,iU,dS,gZ]
theorem AF {α:Type} (ys l:List α) {i:Nat} (h:ys.length=i) (hi:i < l.length) (z:α):(ys++l.drop i).set i z=(ys++[z])++l.drop (i+1):=by
 rw [iz _ _ ak,h,iU,aJ hi,cn,aE];rfl
def caG (r:Option (bh × List bJ)) (j lo hi:Nat) (A C:List V) (kv:V) (B:bQ) (T:eg) (v:V) (S':Mem):Prop :=
 ∃ B',S' = ⟨B',T⟩∧sZ j lo hi A C kv B B' (r.map Prod.fst)∧match r with
  | some (_,ts)=>v = .fZ [.d (.sl (ts.map eH)),.d (.bool true)]
  | none=>v = .fZ [.d (.sl []),.d (.bool false)]
structure KSt where
 i:Nat
 ys:List bh
 B:List (List V)
structure COk (E:fm) (res:List bJ) (n c s f w j lo hi:Nat) (A C:List V) (kv:V) (x:bh) (N:Nat) (fc:List V) (ts:List bJ) (r:Option (List bh)) (B:bQ) (a:KSt):Prop where
 le:a.i≤x.kids.length
 len:a.ys.length=a.i
 WD:iC j lo hi B.length B a.B
 at':ic a.B n c s f w E res j lo hi A C kv (bg x (a.ys++x.kids.drop a.i))
 fb:a.B[N]? = some fc
 res:(dI E (x.kids.drop a.i) (ts.drop a.i)).map (a.ys++·)=r
theorem AG (x:bh):bg x x.kids=x:=by cases x;rfl
section
variable {E:fm} {res:List bJ} {n c s f w:Nat} {B:bQ} {T:eg} {j lo hi:Nat} {A C:List V} {kv:V}
theorem GQ {x:bh} (hT:mh E.su E.fu) (hl:∀ y∈x.kids,kn E res y) (h:ic B n c s f w E res j lo hi A C kv x):cy prog bI 137 [.ptr c 0,.ptr j A.length] ⟨B,T⟩ (caG (qf E x) j lo hi A C kv B T):=by
 obtain ⟨N,hn⟩:=aV B.length;obtain ⟨al,jB⟩:=aV A.length;obtain ⟨X,hX⟩:=aV (A++ef x kv++C);obtain ⟨x0,x1,x2,x6,x7,x8,x9,sC,uh⟩:=jd hX.symm jB;have bW:=h.row;rw [hX] at bW;have nZ:=h.nl;have hj:j < N:=by have:=h.nb;omega
 have vN:c < N:=by rw [← hn];exact h.k.lt.1
 have wI:f < N:=by rw [← hn];exact h.k.lt.2.2.1
 have hfb:=h.k.f;have hb:=h.k.c;unfold FU at hb;have hs:=h.k.PB x.text true [] T;rw [aQ] at hs;have Mn:=I2 h.own;rw [mM.eq_1,GP] at Mn;have en:∀ J,iC j lo hi B.length B (B++J):=fun _=>iC.new;rw [jB];unfold qf Cz;cases h1:kK fL.name E.fu x.text with
 | none =>
  rw [h1] at hs;simp only [Go.Ab.nr,jh,fuZ,gj] at hs;refine gL p9 fun cG=>?_;simp only [fH] at cG;simp only [W,seval,p9,hn];refine dj 13 [] [c,f,j] ?_;simp (maxSteps:=4000000) only [W,seval,p9,xw,vZ,hn,vN,hb,hs,wI,hfb,hj,bW,x1];refine goN ?_;simp only [W,seval,p9,hn];refine dj 13 [] [j] ?_;simp (maxSteps:=4000000) only [W,seval,p9,xw,hn,hj,bW,x7];refine goN ?_;simp only [W,seval,p9,hn];refine bN p9 (bT (en _) ?_);exact ⟨_,rfl,.none (en _) rfl,rfl⟩
 | some g =>
  rw [h1] at hs;simp only [Go.Ab.nr,cJ,KY,gj] at hs;obtain ⟨hp1,XM,hp3,hp4⟩:=hT.pa g (EB fL.name h1);dsimp only
  by_cases hlen:g.params.length=x.kids.length
  case neg =>
   have e1:decide ((g.params.length:Int)=(x.kids.length:Int))=false:=af ak;rw [qK E _ _ (by rw [aS];omega)];refine gL p9 fun cG=>?_;simp only [fH] at cG;simp only [W,seval,p9,hn];refine dj 13 [] [c,f,j] ?_;simp (maxSteps:=4000000) only [W,seval,p9,xw,vZ,hn,vN,hb,hs,wI,hfb,hj,bW,x1];refine goN ?_;simp only [W,seval,p9,hn];refine dj 13 [] [N,j] ?_;simp (maxSteps:=4000000) only [W,seval,p9,xw,hn,hj,bW,x7,Mn,e1];refine goN ?_;simp only [W,seval,p9,hn];refine bN p9 (bT (en _) ?_);exact ⟨_,rfl,.none (en _) rfl,rfl⟩
  have e1:decide ((g.params.length:Int)=(x.kids.length:Int))=true:=ah ak;refine gL p9 fun cG=>?_;simp only [fH] at cG;simp only [W,seval,p9,hn];refine dj 13 [] [c,f,j] ?_;simp (maxSteps:=4000000) only [W,seval,p9,xw,vZ,hn,vN,hb,hs,wI,hfb,hj,bW,x1];refine goN ?_;simp only [W,seval,p9,hn];refine dj 13 [] [N,j] ?_;simp (maxSteps:=4000000) only [W,seval,p9,xw,hn,hj,bW,x7,Mn,e1];refine goN ?_;simp only [W,seval,p9,hn];generalize dN:dI E x.kids (g.params.map ep.type)=r;refine az.dL (fun a:KSt=>(cN 57 [(0,.ptr c 0),(1,.ptr j al),(6,.ptr N 0),(36,.d (.sl (g.params.map jK))),(37,.d (.int .i64 (g.params.length:Int))),(38,.d (.int .i64 (a.i:Int)))],⟨a.B,T⟩)) (COk E res n c s f w j lo hi A C kv x N [.d (.str g.name),.d (.sl (g.params.map jK)),.d (.sl (g.results.map eH)),.d (.sl (g.body.map gE))] (g.params.map ep.type) r B) (fun a=>x.kids.length - a.i) ⟨0,[],B++[[.d (.str g.name),.d (.sl (g.params.map jK)),.d (.sl (g.results.map eH)),.d (.sl (g.body.map gE))]]⟩ ⟨bG _,rfl,en _,?_,?_,?_⟩ ?_ rfl ?_
  ·rw [iE,dO,AG];exact h.more
  ·rw [gp hn];rfl
  ·rw [← dN];simp
  ·skip
   refine eU.env _ ?_;simp only [qa,seval]
  rintro ⟨i,ys,Bi⟩ ⟨h2,h3,h4,h5,h6,h7⟩ ih;dsimp only at h2 h3 h4 h5 h6 h7 ih ⊢;obtain ⟨Ni,vo⟩:=aV Bi.length;have FZ:N < Ni:=by rw [← vo];exact (ai.1 h6).1
  by_cases bu:i < x.kids.length
  case neg =>
   have e2:decide ((i:Int) < (g.params.length:Int))=false:=af ak;obtain rfl:i=x.kids.length:=ak;rw [ay (aA _),ay (by rw [aS];omega)] at h7;rw [ay (aA _),aQ] at h5;unfold dI at h7;rw [cJ,aQ] at h7;refine goN ?_;simp only [W,seval,p9,vo,FZ,h6,e2];refine bN p9 (bT h4 ?_);rw [← h7];exact ⟨_,rfl,h5.fin h4 nZ (fun _ _=>rfl) fun z hz=>(ag hz).symm,rfl⟩
  have e2:decide ((i:Int) < (g.params.length:Int))=true:=ah ak;have ie:=bE ((i:Int)+1) ak;have aco:i < g.params.length:=ak;have hg:(g.params.map jK)[i]? = some (jK g.params[i]):=by simp [aco]
  rw [tN E _ _ i bu (by rw [aS];exact aco),dy] at h7;obtain ⟨y,hy⟩:=aV (x.kids[i]);have jU:=hl x.kids[i] (aH bu);obtain ⟨p,hp⟩:=aV (g.params[i]);rw [hp,qB] at hg;rw [hp,hy] at h7;rw [hy] at jU;have uA:(bg x (ys++x.kids.drop i)).kids[i]? = some y:=by rw [dU,ED _ _ h3,au bu,hy]
  obtain ⟨j1,m,cap,rfl,uV⟩:=h5.bx (by rw [dU];intro h0;rw [h0] at uA;rw [dU] at uA;simp at uA);have hm:(i:Int) < (m:Int):=by have:=(ai.1 uA).1;omega
  have rV:=h5.row;rw [qJ,hX] at rV;obtain ⟨lG,kD,A1,C1,uL,a1,⟨zw,CA⟩,k1,k2,k3⟩:=(h5.more (J:=[[V.d (.str p.name),.d (.int .i64 p.type.kind),.d (.str p.type.name),.d (.sl (p.type.elem.map eH))]])).vW uA;have hh:=pU (T:=T) jU p.type k1;rw [a1] at hh;unfold cH at hh;have N0:j < Ni:=ak;refine goN ?_;simp only [W,seval,p9,vo,e2,hg,aco];refine dj 11 [] [j,Ni] ?_;simp (maxSteps:=4000000) only [W,seval,p9,xw,oE,vo,N0,rV,x7,hm];refine iO (xZ.ne (T:=T) k1 p.type) hh ?_;rintro v _ ⟨B2,rfl,kP,rfl⟩;have f1:=kP.1.2.1 j fk CA;have f2:=h5.yD (k2 _ _ kP.1) (i:=Ni) ak (by simp [vo]);have f3:=h5.yD (k2 _ _ kP.1) (i:=N) ak fk;rw [bt ak,h6] at f3;have e3:iC j lo hi B.length B B2:=h4.app.step (k2 _ _ kP.1);refine ⟨⟨f1,f2,trivial⟩,?_⟩;simp (maxSteps:=4000000) only [W,seval,p9,xw,vo];have f4:=f2;rw [gp vo] at f4;refine ⟨⟨f1,f4⟩,?_⟩;cases hw:dz (bP E y p.type) p.type with
  | none =>
   rw [hw] at h7;refine goN ?_;simp only [W,seval,p9,gw,aO];refine bN p9 (bT e3 ?_);rw [← h7];exact ⟨_,rfl,.none e3 rfl,rfl⟩
  | some z =>
   rw [hw] at h7 kP;refine goN ?_;simp only [W,seval,p9,gy,aK,ie];have h8:=k3 B2 z kP;rw [dU,lH,AF _ _ h3 bu] at h8;refine ih ⟨i+1,ys++[z],B2⟩ ⟨bu,by simp [h3],e3,h8,f3,?_⟩ gP _ _ ?_ rfl
   ·dsimp only at h7 ⊢;rw [← h7];cases dI E (x.kids.drop (i+1)) ((g.params.map ep.type).drop (i+1))<;>simp
   ·skip
    refine eU.env _ ?_;simp only [qa,seval]
end
def rQ:=KB func170 71
def vp (E:fm):List bh→List (Option bJ)→Option (List bh)
 | [],[]=>some []
 | x :: l,some t :: ts=>(match dz (bP E x t) t with
  | some y=>(vp E l ts).map fun l=>y :: l
  | none=>none)
 | _,_=>none
theorem PC (E:fm):∀ (l:List bh) (fs:List (Option bJ)),vp E l fs=(fs.mapM id).bind (dI E l)
 | [],[]=>by unfold vp;simp [dI]
 | [],f :: fs=>by
  unfold vp
  symm
  rw [Option.bind_eq_none_iff];intro ts NF;cases ts with
  | nil =>
   rw [gQ] at NF;cases f with
   | none=>cases NF
   | some t =>
    cases h:fs.mapM id with
    | none=>rw [h] at NF;cases NF
    | some us=>rw [h] at NF;cases NF
  | cons t ts=>unfold dI;rfl
 | x :: l,[]=>by unfold vp;simp [dI]
 | x :: l,none :: fs=>by unfold vp;rw [List.mapM_cons];rfl
 | x :: l,some t :: fs=>by
  unfold vp;rw [PC E l fs,gQ];cases h:fs.mapM id with
  | none =>
   show _=none;cases dz (bP E x t) t<;>rfl
  | some us =>
   show _=dI E (x :: l) (t :: us)
   conv=>rhs;unfold dI
   rfl
theorem RL (E:fm) (l:List bh) (fs:List (Option bJ)) (i:Nat) (h:i < l.length) (h':i < fs.length):vp E (l.drop i) (fs.drop i)=match fs[i] with
 | some t=>(match dz (bP E l[i] t) t with
  | some y=>(vp E (l.drop (i+1)) (fs.drop (i+1))).map fun l=>y :: l
  | none=>none)
 | none=>none:=by
 rw [aJ h,aJ h'];cases fs[i] with
 | none=>unfold vp;rfl
 | some t=>conv=>lhs;unfold vp
theorem Ew.ex (r:Option bJ):∃ v,Ew r v:=by
 cases r<;>exact ⟨_,rfl⟩
structure MOk (E:fm) (res:List bJ) (n c s f w j lo hi:Nat) (A C:List V) (kv:V) (x:bh) (N:Nat) (fs:List (Option bJ)) (r:Option (List bh)) (B:bQ) (a:KSt):Prop where
 le:a.i≤x.kids.length
 len:a.ys.length=a.i
 WD:iC j lo hi B.length B a.B
 at':ic a.B n c s f w E res j lo hi A C kv (bg x (a.ys++x.kids.drop a.i))
 fb:a.B[N]? = some vn
 res:(vp E (x.kids.drop a.i) (fs.drop a.i)).map (a.ys++·)=r
section
variable {E:fm} {res:List bJ} {n c s f w:Nat} {B:bQ} {T:eg} {j lo hi:Nat} {A C:List V} {kv:V}
theorem PD {x:bh} (hT:mh E.su E.fu) (hx:TW x.type) (hl:∀ y∈x.kids,kn E res y) (hlen:x.kids.length≤60000) (fs:List (Option bJ)) (Mz:fs.length=x.kids.length) (hk:(x.kind=14∧fs=x.names.map (lO E.su x.type))∨(x.kind ≠ 14∧∃ e,x.type.elem=[e]∧fs=List.replicate x.kids.length (some e))) (h:ic B n c s f w E res j lo hi A C kv x):cy prog bI 170 [.ptr c 0,.ptr j A.length] ⟨B,T⟩ (ug (if dH E.su x.type=true then (vp E x.kids fs).map fun l=>(bg x l,x.type) else none) j lo hi A C kv B T):=by
 obtain ⟨N,hn⟩:=aV B.length;obtain ⟨al,jB⟩:=aV A.length;obtain ⟨X,hX⟩:=aV (A++ef x kv++C);obtain ⟨x0,x1,x2,x6,x7,x8,x9,sC,uh⟩:=jd hX.symm jB;have bW:=h.row;rw [hX] at bW;have nZ:=h.nl;have hj:j < N:=by have:=h.nb;omega
 have kz:=fun (J:bQ)=>GM (T:=T) hx (h.k.more J);have Mn:=I2 h.own;rw [mM.eq_1,GP] at Mn;have en:∀ J,iC j lo hi B.length B (B++J):=fun _=>iC.new;rw [jB];unfold cH at kz;unfold jr at uh;refine gL rQ fun cG=>?_;simp only [fH] at cG;simp only [W,seval,rQ,hn,hj,bW,sC,uh];refine aX (kz _) ?_;cases hs:dH E.su x.type with
 | false =>
  refine goN ?_;simp only [W,seval,rQ,hn,aO];refine aX (jc _ _) ?_;refine goN ?_;simp only [W,seval,rQ,hn,cH];refine dx rQ (bT (en _) ?_);exact ⟨_,rfl,.none (en _) rfl,eF,rfl⟩
 | true =>
  rw [aD rfl];refine goN ?_;simp only [W,seval,rQ,hn,aK,hj,bW,x7,Mn];generalize dN:vp E x.kids fs=r;refine az.dL (fun a:KSt=>(cN 71 [(0,.ptr c 0),(1,.ptr j al),(4,.ptr N 0),(21,.d (.int .i64 (x.kids.length:Int))),(22,.d (.int .i64 (a.i:Int)))],⟨a.B,T⟩)) (MOk E res n c s f w j lo hi A C kv x N fs r B) (fun a=>x.kids.length - a.i) ⟨0,[],B++[vn]⟩ ⟨bG _,rfl,en _,?_,?_,?_⟩ ?_ rfl ?_
  ·rw [iE,dO,AG];exact h.more
  ·rw [gp hn];rfl
  ·rw [← dN];simp
  ·skip
   refine eU.env _ ?_;simp only [qa,seval]
  rintro ⟨i,ys,Bi⟩ ⟨h2,h3,h4,h5,h6,h7⟩ ih;dsimp only at h2 h3 h4 h5 h6 h7 ih ⊢;unfold vn at h6;obtain ⟨Ni,vo⟩:=aV Bi.length;have FZ:N < Ni:=by rw [← vo];exact (ai.1 h6).1
  have rV:=h5.row;rw [qJ,hX] at rV;have N0:j < Ni:=ak
  by_cases bu:i < x.kids.length
  case neg =>
   have e2:decide ((i:Int) < (x.kids.length:Int))=false:=af ak;obtain rfl:i=x.kids.length:=ak;rw [ay (aA _),ay ak] at h7;rw [ay (aA _),aQ] at h5;unfold vp at h7;rw [cJ,aQ] at h7;have jI:N < Bi.length:=ak;refine goN ?_;simp only [W,seval,rQ,vo,FZ,h6,e2,N0,rV,sC,uh];have e3:∀ Z,iC j lo hi B.length B (Bi.set N Z):=fun Z=>h4.qI ak;refine dx rQ (bT (e3 _) ?_) (h1:=by simp only [W,seval,jI,vn];exact rfl);rw [← h7];exact ⟨_,rfl,h5.fin (e3 _) nZ (fun i hi=>aj ak) fun z hz=>(ag hz).symm,rfl⟩
  have e2:decide ((i:Int) < (x.kids.length:Int))=true:=ah ak;have ie:=bE ((i:Int)+1) ak;rw [RL E _ _ i bu ak] at h7;have hio:i < fs.length:=ak;obtain ⟨o,ho⟩:=aV (fs[i]);obtain ⟨y,hy⟩:=aV (x.kids[i]);have jU:=hl x.kids[i] (aH bu);rw [hy] at jU;rw [ho,hy] at h7;have uA:(bg x (ys++x.kids.drop i)).kids[i]? = some y:=by rw [dU,ED _ _ h3,au bu,hy]
  obtain ⟨j1,m,cap,rfl,uV⟩:=h5.bx (by rw [dU];intro h0;rw [h0] at uA;rw [dU] at uA;simp at uA);have hm:(i:Int) < (m:Int):=by have:=(ai.1 uA).1;omega
  have tail:∀ t:bJ,o=some t→az prog bI (N,T.length) 170 [.code (.region 11 (opsOf (kF f170 36)) true),.code (kF f170 37),.inBlock 1,.code (kF f170 42),.inLoop (kF f170 15),.inBlock 0,.code (kF f170 43)] (cN 71 [(0,.ptr c 0),(1,.ptr j al),(4,.ptr N 0),(6,.d (.int .i64 (i:Int))),(7,.ptr Ni 0),(8,.d (.bool true)),(21,.d (.int .i64 (x.kids.length:Int))),(22,.d (.int .i64 (i:Int)))]) ⟨Bi++[[.d (.int .i64 t.kind),.d (.str t.name),.d (.sl (t.elem.map eH))]],T⟩ (Go.Ab.Left ⟨B,T⟩ (ug (r.map fun l=>(bg x l,x.type)) j lo hi A C (.bx j1 m cap) B T)):=by
   rintro t rfl;dsimp only at h7;obtain ⟨lG,kD,A1,C1,uL,a1,⟨zw,CA⟩,k1,k2,k3⟩:=(h5.more (J:=[[V.d (.int .i64 t.kind),.d (.str t.name),.d (.sl (t.elem.map eH))]])).vW uA;have hh:=pU (T:=T) jU t k1;rw [a1] at hh;unfold cH at hh;refine dj 14 [] [j,Ni] ?_;simp (maxSteps:=4000000) only [W,seval,rQ,xw,oE,vo,N0,rV,x7,hm];refine iO (xZ.ne (T:=T) k1 t) hh ?_;rintro v _ ⟨B2,rfl,kP,rfl⟩;have f1:=kP.1.2.1 j fk CA;have f2:=h5.yD (k2 _ _ kP.1) (i:=Ni) ak (by simp [vo]);have f3:=h5.yD (k2 _ _ kP.1) (i:=N) ak fk;rw [bt ak,h6] at f3;have e3:iC j lo hi B.length B B2:=h4.app.step (k2 _ _ kP.1);have qd:=kP.2.1;have lW:N < B2.length:=(ai.1 f3).1;have f4:=f2;rw [gp vo] at f4;refine ⟨⟨f1,f2,trivial⟩,?_⟩;simp (maxSteps:=4000000) only [W,seval,rQ,xw,vo];refine ⟨⟨f1,f4⟩,?_⟩;cases hw:dz (bP E y t) t with
   | none =>
    rw [hw] at h7;refine goN ?_;simp only [W,seval,rQ,gw,aO];refine aX (jc _ _) ?_;refine goN ?_;simp only [W,seval,rQ,lW,f3,cH];have e4:∀ Z,iC j lo hi B.length B (B2.set N Z):=fun Z=>e3.qI ak;refine dx rQ (bT (e4 _) ?_) (h1:=by simp only [W,seval,lW];exact rfl);rw [← h7];exact ⟨_,rfl,.none (e4 _) rfl,eF,rfl⟩
   | some z =>
    rw [hw] at h7 kP;refine goN ?_;simp only [W,seval,rQ,gy,aK,ie];have h8:=k3 B2 z kP;rw [dU,lH,AF _ _ h3 bu] at h8;refine ih ⟨i+1,ys++[z],B2⟩ ⟨bu,by simp [h3],e3,h8,f3,?_⟩ gP _ _ ?_ rfl
    ·dsimp only at h7 ⊢;rw [← h7];cases vp E (x.kids.drop (i+1)) (fs.drop (i+1))<;>simp
    ·skip
     refine eU.env _ ?_;simp only [qa,seval]
  rcases hk with ⟨za,rfl⟩ | ⟨za,e,he,rfl⟩
  ·have EE:=ah za;have Gm:i < x.names.length:=by rw [aS] at Mz;omega
   have gV:(i:Int) < ((gN x.names).length:Int):=by rw [eV];omega
   have hgn:x.names[i]? = some x.names[i]:=au Gm;have hfi:=fun J Z=>Lq (T:=T) hT x.type x.names[i] ((h5.k.more J).more Z);rw [dy] at ho;rw [ho] at hfi;unfold cH at hfi;refine goN ?_;simp only [W,seval,rQ,vo,FZ,h6,e2,N0,rV,x0,sC,uh,EE];refine dj 13 [] [j,Ni] ?_;simp (maxSteps:=4000000) only [W,seval,rQ,xw,vo,N0,rV,x6,Gm,hgn];refine iW (Ew.ex o) (fun Z=>hfi _ Z) ?_;intro v hv;refine ⟨sQ _ _,?_⟩;cases o with
   | none =>
    obtain rfl:v=_:=hv;unfold cH;simp (maxSteps:=4000000) only [W,seval,rQ,xw,vo];refine goN ?_;simp only [W,seval,rQ,vo];refine dj 14 [] [] ?_;simp (maxSteps:=4000000) only [W,seval,rQ,xw,vo];refine goN ?_;simp only [W,seval,rQ];refine aX (jc _ _) ?_;have lW:N < Bi.length:=ak;refine goN ?_;simp only [W,seval,rQ,FZ,vo,h6,cH];have e4:∀ Z J,iC j lo hi B.length B (Bi.set N Z++J):=fun Z J=>(h4.qI ak).app;have hb4:∀ Z,(Bi.set N Z)[N]? = some Z:=fun Z=>aC lW;refine dx rQ (bT (e4 _ _) ?_) (h1:=by simp only [W,seval,lW,FZ,vo,hb4];exact rfl);rw [← h7];exact ⟨_,rfl,.none (e4 _ _) rfl,eF,rfl⟩
   | some t =>
    obtain rfl:v=_:=hv;unfold cH;simp (maxSteps:=4000000) only [W,seval,rQ,xw,vo];refine goN ?_;simp only [W,seval,rQ,vo];exact az.ng cx (tail t rfl)
  ·have EE:=af za;refine goN ?_;simp only [W,seval,rQ,vo,FZ,h6,e2,N0,rV,x0,sC,uh,EE,he,bC,bL,eK];exact az.ng cx (tail e (by rw [← ho,pE]))
end
def mz:=KB func169 89
section
variable {E:fm} {res:List bJ} {n c s f w:Nat} {B:bQ} {T:eg} {j lo hi:Nat} {A C:List V} {kv:V}
theorem RM {y:bh} (hx:kn E res y) (k1:ic B n c s f w E res j lo hi A C kv y) (want:bJ) {q:Nat} (a1:A.length=q) {AA L:List Nat} {S0:Mem} {next:nL} {d:Option Tmp} {env:List V}
 (hk:∀ B1 t b,sZ j lo hi A C kv B B1 ((bP E y want).map Prod.fst)→B1.length=B.length→(b=true→∃ z,bP E y want=some (z,t))→(b=false→bP E y want=none)→kR L S0 ⟨B1,T⟩∧next (dD env d (.fZ [cH t,.d (.bool b)])) ⟨B1,T⟩) :
 Cp prog bI AA L S0 next (.func 135 [] []) [.ptr c 0,.ptr j q,cH want] d env ⟨B,T⟩:=by
 subst a1;refine TV (ug.ne (T:=T) k1 want) (fun v S' hq=>?_) (fun Z=>((hx want n c s f w (B++Z) T j lo hi A C kv k1.more).mono ?_)) ?_
 ·obtain ⟨B',rfl,hd,_⟩:=hq;exact hd.2.1
 ·rintro v S' ⟨B',rfl,hd,hv⟩;obtain ⟨e1,e2⟩:=k1.afK hd;exact ⟨⟨B'.take B.length,T⟩,by rw [TM,← e1],_,rfl,e2,hv⟩
 ·rintro v _ ⟨B1,rfl,hd,hv⟩;obtain ⟨t,b,rfl,tV,p8⟩:=vl hv;exact hk B1 t b hd hd.2.1 tV p8
theorem vq {x a:bh} {rest:List bh} {N al:Nat} (hk:x.kids=a :: rest) (ha:kn E res a) (Yu:∀ w y t,bP E a w=some (y,t)→TW t) (want w':bJ) (hw:w' = if x.kind=13 then want else eF) (hn:B.length=N) (jB:A.length=al) (h:ic B n c s f w E res j lo hi A C kv x) {R:V→Mem→Prop}
 (h0:(∀ y t,bP E a w' = some (y,t)→t.kind ≠ 8)→∀ v B',sZ j lo hi A C kv B B' none→(∃ t,v = .fZ [cH t,.d (.bool false)])→R v ⟨B',T⟩)
 (h1:∀ B1 y t e,bP E a w' = some (y,t)→t.kind=8→t.elem=[e]→B1.length=N+2→iC j lo hi B.length B B1→ic B1 n c s f w E res j lo hi A C kv (bg x (y :: rest))→B1[N+1]? = some vn →
  az prog bI (N,T.length) 169 [.code (kF f169 19),.code (kF f169 41)] (cN 89 [(0,.ptr c 0),(1,.ptr j al),(6,.ptr (N+1) 0),(8,.ptr (N+2) 0)]) ⟨B1++[jr t],T⟩ (Go.Ab.Left ⟨B,T⟩ R)) :
 cy prog bI 169 [.ptr c 0,.ptr j al,cH want] ⟨B,T⟩ R:=by
 obtain ⟨X,hX⟩:=aV (A++ef x kv++C);obtain ⟨x0,x1,x2,x6,x7,x8,x9,sC,uh⟩:=jd hX.symm jB;have bW:=h.row;rw [hX] at bW;have nZ:=h.nl;have hj:j < N:=by have:=h.nb;omega
 obtain ⟨j1,m,cap,rfl,uV⟩:=h.bx (by rw [hk];simp);have hm:(0:Int) < (m:Int):=by rw [uV,hk];simp
 obtain ⟨lG,kD,A1,C1,uL,a1,⟨zw,CA⟩,k1,k2,k3⟩:=(h.more (J:=[jr w',vn])).vW (k:=0) (y:=a) (by rw [hk];rfl);rw [gk] at a1
 have main:∀ B1 t b,sZ j1 lG kD A1 C1 uL (B++[jr w',vn]) B1 ((bP E a w').map Prod.fst)→B1.length=(B++[jr w',vn]).length→(b=true→∃ z,bP E a w' = some (z,t))→(b=false→bP E a w' = none)→az prog bI (N,T.length) 169 [.code (kF f169 10)] (cN 89 [(0,.ptr c 0),(1,.ptr j al),(6,.ptr (N+1) 0),(8,.ptr (N+2) 0),(9,.d (.bool b))]) ⟨B1++[jr t],T⟩ (Go.Ab.Left ⟨B,T⟩ R):=by
  intro B1 t b hd eW tV p8;have e1:iC j lo hi B.length B B1:=iC.new.step (k2 _ _ hd.1);have f1:=h.yD (k2 _ _ hd.1) (i:=N+1) ak (by simp [hn]);rw [gS hn] at f1;simp only [bX,cu] at f1;have f1':=f1;unfold vn at f1';simp only [av,aP,aW,hn,bf,Nat.reduceAdd] at eW;have jI:N+1 < N+2:=ak;have lW:N+1 < B1.length:=ak;have e2:∀ Z J,iC j lo hi B.length B (B1.set (N+1) Z++J):=fun Z J=>(e1.qI ak).app;have g4:∀ Z,(B1.set (N+1) Z)[N+1]? = some Z:=fun Z=>aC lW;unfold jr;cases b
  ·refine goN ?_;simp only [W,seval,mz,eW,aO];refine aX (jc _ _) ?_;refine goN ?_;simp only [W,seval,mz,eW,f1',jI,cH];refine dx mz (bT (e2 _ _) ?_) (h1:=by simp only [W,seval,eW,jI,lW,g4];exact rfl);exact h0 (fun y t hr=>by rw [p8 rfl] at hr;cases hr) _ _ (.none (e2 _ _) rfl) ⟨eF,rfl⟩
  ·obtain ⟨y,hr⟩:=tV rfl
   by_cases h8:t.kind=8
   case neg =>
    have e8:=af h8;refine goN ?_;simp only [W,seval,mz,eW,e8,aK,aO];refine aX (jc _ _) ?_;refine goN ?_;simp only [W,seval,mz,eW,f1',jI,cH];refine dx mz (bT (e2 _ _) ?_) (h1:=by simp only [W,seval,eW,jI,lW,g4];exact rfl);exact h0 (fun y' t' ZP=>by rw [hr] at ZP;rw [← (aR (ag ZP)).2];exact h8) _ _ (.none (e2 _ _) rfl) ⟨eF,rfl⟩
   have e8:=ah h8;have ht:=Yu _ _ _ hr
   obtain ⟨e,he⟩:∃ e,t.elem=[e]:=by
    cases ht with
    | leaf k _ _ hk=>exact absurd h8 hk
    | sl n u _=>exact ⟨u,rfl⟩
   rw [hr] at hd;have uN:=k3 B1 y hd;rw [hk] at uN;have tail:=h1 B1 y t e hr h8 he eW e1 uN f1;unfold jr at tail;refine az.go 14 ?_;simp only [W,seval,mz,eW,e8,aK,aO];exact az.ng cx tail
 by_cases N1:x.kind=13
 ·have I3:=ah N1;rw [aD N1] at hw;subst hw;unfold cH;refine gL mz fun cG=>?_;simp only [fH] at cG;simp only [W,seval,mz,hn,hj,bW,x0,I3,aK];refine dj 12 [11] [j,N] ?_;simp (maxSteps:=4000000) only [W,seval,mz,xw,oE,hn,hj,bW,x7,hm];refine RM ha k1 w' a1 ?_;intro B1 t b hd eW tV p8;have m1:=main B1 t b hd eW tV p8;have g1:=hd.1.2.1 j fk CA;have g2:=h.yD (k2 _ _ hd.1) (i:=N) ak (by simp [hn]);simp only [av,aP,aW,hn,bf,Nat.reduceAdd] at eW;refine ⟨⟨g1,g2,trivial⟩,?_⟩;unfold cH;simp (maxSteps:=4000000) only [W,seval,mz,xw,eW];refine ⟨⟨g1,g2⟩,?_⟩;exact az.ng cx m1
 ·have I3:=af N1;rw [aq N1] at hw;subst hw;unfold cH;refine gL mz fun cG=>?_;simp only [fH] at cG;simp only [W,seval,mz,hn,hj,bW,x0,I3,aO];refine aX (jc _ _) ?_;unfold cH;refine goN ?_;simp only [W,seval,mz,hn];refine dj 12 [11] [j,N] ?_;simp (maxSteps:=4000000) only [W,seval,mz,xw,oE,hn,hj,bW,x7,hm];refine RM ha k1 eF a1 ?_;intro B1 t b hd eW tV p8;have m1:=main B1 t b hd eW tV p8;have g1:=hd.1.2.1 j fk CA;have g2:=h.yD (k2 _ _ hd.1) (i:=N) ak (by simp [hn]);simp only [av,aP,aW,hn,bf,Nat.reduceAdd] at eW;refine ⟨⟨g1,g2,trivial⟩,?_⟩;unfold cH;simp (maxSteps:=4000000) only [W,seval,mz,xw,eW];refine ⟨⟨g1,g2⟩,?_⟩;exact az.ng cx m1
end
theorem AH {t e:bJ} (h:t.kind=8) (he:t.elem=[e]):ja t=some e:=by
 unfold ja;rw [aD h,he];rfl
def Ls (t e:bJ):List V:=[.d (.int .i64 t.kind),.d (.str t.name),.d (.sl [[.int .i64 e.kind,.str e.name,.sl (e.elem.map eH)]])]
theorem U2 {t e:bJ} (he:t.elem=[e]):jr t=Ls t e:=by
 unfold jr Ls;rw [he,cw,eB,eK]
theorem AI {t:bJ} (h:t.kind ≠ 8):ja t=none:=aq h
theorem I4 (g:bh→bJ→Option (bh × bJ)) (hg:∀ y t,t.kind ≠ 8→g y t=none):∀ r:Option (bh × bJ),(∀ y t,r=some (y,t)→t.kind ≠ 8)→(match r with
 | some (a,t)=>g a t
 | none=>none)=none
 | none,_=>rfl
 | some p,h=>hg _ _ (h p.1 p.2 rfl)
section
variable {E:fm} {res:List bJ} {n c s f w:Nat} {B:bQ} {T:eg} {j lo hi:Nat} {A C:List V} {kv:V}
theorem Yv {x a:bh} (ME:x.kind=12) (hk:x.kids=[a]) (ha:kn E res a) (Yu:∀ w y t,bP E a w=some (y,t)→TW t) (want:bJ) (h:ic B n c s f w E res j lo hi A C kv x):cy prog bI 169 [.ptr c 0,.ptr j A.length,cH want] ⟨B,T⟩ (ug (match bP E a eF with
 | some (a,t)=>(ja t).map fun _=>(bg x [a],dh)
 | none=>none) j lo hi A C kv B T):=by
 obtain ⟨N,hn⟩:=aV B.length;obtain ⟨al,jB⟩:=aV A.length;have nZ:=h.nl;have hjn:=h.nb;rw [jB];refine vq hk ha Yu want eF (by rw [aq ak]) hn jB h (fun h0 v B' hd hv=>?_) fun B1 y t e hr h8 he eW e1 uN f1=>?_
 ·have e0:=I4 (fun a t=>(ja t).map fun _=>(bg x [a],dh)) (fun y t h=>by rw [AI h];rfl) _ h0;rw [e0];exact ⟨B',rfl,hd,hv⟩
 rw [hr];dsimp only;rw [AH h8 he];obtain ⟨X,hX⟩:=aV (A++ef x kv++C);obtain ⟨x0,x1,x2,x6,x7,x8,x9,sC,uh⟩:=jd hX.symm jB;have bW:=uN.row;rw [qJ,hX] at bW;have hj:j < N+2:=ak;have jI:N+1 < N+2:=ak;have lW:N+1 < B1.length:=ak;have e2:∀ Z J,iC j lo hi B.length B (B1.set (N+1) Z++J):=fun Z J=>(e1.qI ak).app;have g4:∀ Z,(B1.set (N+1) Z)[N+1]? = some Z:=fun Z=>aC lW;have FA:=ah ME;unfold jr vn at *;refine goN ?_;simp only [W,seval,mz,eW,hj,bW,x0,FA];refine aX (Az _ _) ?_;refine goN ?_;simp only [W,seval,mz,eW,f1,jI,cH];refine dx mz (bT (e2 _ _) ?_) (h1:=by simp only [W,seval,eW,jI,lW,g4];exact rfl);exact ⟨_,rfl,uN.fin (e2 _ _) nZ (fun i hi=>by rw [bt (by rw [aG];omega),aj ak]) fun z hz=>(ag hz).symm,rfl⟩
theorem Yw {x a b:bh} (yN:x.kind=10) (hk:x.kids=[a,b]) (ha:kn E res a) (hb:kn E res b) (Yu:∀ w y t,bP E a w=some (y,t)→TW t) (want:bJ) (h:ic B n c s f w E res j lo hi A C kv x):cy prog bI 169 [.ptr c 0,.ptr j A.length,cH want] ⟨B,T⟩ (ug (match bP E a eF with
 | some (a,t)=>(ja t).bind fun e=>(dz (bP E b dh) dh).map fun b=>(bg x [a,b],e)
 | none=>none) j lo hi A C kv B T):=by
 obtain ⟨N,hn⟩:=aV B.length;obtain ⟨al,jB⟩:=aV A.length;have nZ:=h.nl;have hjn:=h.nb;rw [jB];refine vq hk ha Yu want eF (by rw [aq ak]) hn jB h (fun h0 v B' hd hv=>?_) fun B1 y t e hr h8 he eW e1 uN f1=>?_
 ·have e0:=I4 (fun a t=>(ja t).bind fun e=>(dz (bP E b dh) dh).map fun b=>(bg x [a,b],e)) (fun y t h=>by rw [AI h];rfl) _ h0;rw [e0];exact ⟨B',rfl,hd,hv⟩
 rw [hr];dsimp only;rw [AH h8 he,dg];obtain ⟨X,hX⟩:=aV (A++ef x kv++C);obtain ⟨x0,x1,x2,x6,x7,x8,x9,sC,uh⟩:=jd hX.symm jB;have bW:=uN.row;rw [qJ,hX] at bW;have hj:j < N+2:=ak;have jI:N+1 < N+2:=ak;have GR:=ah yN;have FA:decide (x.kind=12)=false:=af ak;obtain ⟨j1,m,cap,rfl,uV⟩:=uN.bx (by rw [dU];simp);rw [dU] at uV;have i1:(1:Int) < (m:Int):=by rw [uV];simp
 obtain ⟨U0,U1,A2,C2,kv2,a2,⟨zw,CA⟩,q1,q2,q3⟩:=(uN.more (J:=[Ls t e])).vW (k:=1) (y:=b) (by rw [dU];rfl);have hh:=pU (T:=T) hb dh q1;have a2:A2.length=8:=ak;rw [a2] at hh;have gW:=xZ.ne (T:=T) q1 dh
 have key:∀ B2,sZ j1 U0 U1 A2 C2 kv2 (B1++[Ls t e]) B2 (dz (bP E b dh) dh)→B2[j]? = (B1++[Ls t e])[j]?∧B2[N+2]? = (B1++[Ls t e])[N+2]?∧B2[N+1]? = some vn∧B2.length=N+3∧iC j lo hi B.length B B2:=by
  intro B2 kP;have qd:=kP.2.1;simp only [av,aP,aW,eW,bf,Nat.reduceAdd] at qd;have g2:=uN.yD (q2 _ _ kP.1) (i:=N+1) ak (by simp [eW]);rw [bt ak,f1] at g2;exact ⟨kP.1.2.1 j fk CA,uN.yD (q2 _ _ kP.1) (i:=N+2) ak (by simp [eW]),g2,qd,e1.app.step (q2 _ _ kP.1)⟩
 rw [U2 he];unfold Ls at *;unfold cH at hh;refine goN ?_;simp only [W,seval,mz,eW,hj,bW,x0,FA,GR];refine dj 13 [] [N+2,j] ?_;simp (maxSteps:=4000000) only [W,seval,mz,xw,oE,eW,hj,bW,x7,i1,he,bC,bL,eK];refine bK (fun Z=>Az _ _) ?_;simp (maxSteps:=4000000) only [W,seval,mz,xw,eW,cH];refine iO gW hh ?_;rintro v _ ⟨B2,rfl,kP,rfl⟩;obtain ⟨g1,g2,g3,qd,e3⟩:=key B2 kP;unfold vn at g3;have lW:N+1 < B2.length:=ak;have uj:N+1 < N+3:=ak;have e4:∀ Z,iC j lo hi B.length B (B2.set (N+1) Z):=fun Z=>e3.qI ak;have g4:∀ Z,(B2.set (N+1) Z)[N+1]? = some Z:=fun Z=>aC lW;have g5:∀ Z,(B2.set (N+1) Z)[N+2]? = B2[N+2]?:=fun Z=>aj ak;have g6:∀ Z,(B2.set (N+1) Z)[j]? = B2[j]?:=fun Z=>aj ak;refine ⟨⟨g2,g1,trivial⟩,?_⟩;simp (maxSteps:=4000000) only [W,seval,mz,xw,qd,g3,uj];refine ⟨⟨(g5 _).trans g2,(g6 _).trans g1⟩,⟨(g5 _).trans g2,(g6 _).trans g1⟩,?_⟩;refine az.go 20 ?_;simp only [W,seval,mz,qd];refine dx mz (bT (e4 _) ?_) (h1:=by simp only [W,seval,qd,g4];exact rfl);cases hw:dz (bP E b dh) dh with
 | none=>exact ⟨_,rfl,.none (e4 _) rfl,e,rfl⟩
 | some z =>
  rw [hw] at kP;have h9:=q3 B2 z kP;rw [dU,lH] at h9;exact ⟨_,rfl,h9.fin (e4 _) nZ (fun i hi=>aj ak) fun u hu=>(ag hu).symm,rfl⟩
theorem Yx {x a b:bh} (N1:x.kind=13) (hk:x.kids=[a,b]) (ha:kn E res a) (hb:kn E res b) (Yu:∀ w y t,bP E a w=some (y,t)→TW t) (want:bJ) (h:ic B n c s f w E res j lo hi A C kv x):cy prog bI 169 [.ptr c 0,.ptr j A.length,cH want] ⟨B,T⟩ (ug (match bP E a want with
 | some (a,t)=>(ja t).bind fun e=>(dz (bP E b e) e).map fun b=>(bg x [a,b],t)
 | none=>none) j lo hi A C kv B T):=by
 obtain ⟨N,hn⟩:=aV B.length;obtain ⟨al,jB⟩:=aV A.length;have nZ:=h.nl;have hjn:=h.nb;rw [jB];refine vq hk ha Yu want want (by rw [aD N1]) hn jB h (fun h0 v B' hd hv=>?_) fun B1 y t e hr h8 he eW e1 uN f1=>?_
 ·have e0:=I4 (fun a t=>(ja t).bind fun e=>(dz (bP E b e) e).map fun b=>(bg x [a,b],t)) (fun y t h=>by rw [AI h];rfl) _ h0;rw [e0];exact ⟨B',rfl,hd,hv⟩
 rw [hr];dsimp only;rw [AH h8 he,dg];obtain ⟨X,hX⟩:=aV (A++ef x kv++C);obtain ⟨x0,x1,x2,x6,x7,x8,x9,sC,uh⟩:=jd hX.symm jB;have bW:=uN.row;rw [qJ,hX] at bW;have hj:j < N+2:=ak;have jI:N+1 < N+2:=ak;have GR:decide (x.kind=10)=false:=af ak;have e11:decide (x.kind=11)=false:=af ak;have FA:decide (x.kind=12)=false:=af ak;obtain ⟨j1,m,cap,rfl,uV⟩:=uN.bx (by rw [dU];simp);rw [dU] at uV;have i1:(1:Int) < (m:Int):=by rw [uV];simp
 obtain ⟨U0,U1,A2,C2,kv2,a2,⟨zw,CA⟩,q1,q2,q3⟩:=(uN.more (J:=[Ls t e])).vW (k:=1) (y:=b) (by rw [dU];rfl);have hh:=pU (T:=T) hb e q1;have a2:A2.length=8:=ak;rw [a2] at hh;have gW:=xZ.ne (T:=T) q1 e
 have key:∀ B2,sZ j1 U0 U1 A2 C2 kv2 (B1++[Ls t e]) B2 (dz (bP E b e) e)→B2[j]? = (B1++[Ls t e])[j]?∧B2[N+2]? = (B1++[Ls t e])[N+2]?∧B2[N+1]? = some vn∧B2.length=N+3∧iC j lo hi B.length B B2:=by
  intro B2 kP;have qd:=kP.2.1;simp only [av,aP,aW,eW,bf,Nat.reduceAdd] at qd;have g2:=uN.yD (q2 _ _ kP.1) (i:=N+1) ak (by simp [eW]);rw [bt ak,f1] at g2;exact ⟨kP.1.2.1 j fk CA,uN.yD (q2 _ _ kP.1) (i:=N+2) ak (by simp [eW]),g2,qd,e1.app.step (q2 _ _ kP.1)⟩
 rw [U2 he];unfold Ls at *;unfold cH at hh;refine goN ?_;simp only [W,seval,mz,eW,hj,bW,x0,FA,GR,e11];refine dj 13 [] [N+2,j] ?_;simp (maxSteps:=4000000) only [W,seval,mz,xw,oE,eW,hj,bW,x7,i1,he,bC,bL,eK];refine iO gW hh ?_;rintro v _ ⟨B2,rfl,kP,rfl⟩;obtain ⟨g1,g2,g3,qd,e3⟩:=key B2 kP;unfold vn at g3;have lW:N+1 < B2.length:=ak;have uj:N+1 < N+3:=ak;have e4:∀ Z,iC j lo hi B.length B (B2.set (N+1) Z):=fun Z=>e3.qI ak;have g4:∀ Z,(B2.set (N+1) Z)[N+1]? = some Z:=fun Z=>aC lW;have g5:∀ Z,(B2.set (N+1) Z)[N+2]? = B2[N+2]?:=fun Z=>aj ak;have g6:∀ Z,(B2.set (N+1) Z)[j]? = B2[j]?:=fun Z=>aj ak;refine ⟨⟨g2,g1,trivial⟩,?_⟩;simp (maxSteps:=4000000) only [W,seval,mz,xw,qd,g3,uj];refine ⟨⟨(g5 _).trans g2,(g6 _).trans g1⟩,⟨(g5 _).trans g2,(g6 _).trans g1⟩,?_⟩;refine az.go 20 ?_;simp only [W,seval,mz,qd];refine dx mz (bT (e4 _) ?_) (h1:=by simp only [W,seval,qd,g4];exact rfl);cases hw:dz (bP E b e) e with
 | none=>exact ⟨_,rfl,.none (e4 _) rfl,t,by unfold cH;rw [he,List.map_cons,List.map_nil,eK];rfl⟩
 | some z =>
  rw [hw] at kP;have h9:=q3 B2 z kP;rw [dU,lH] at h9;exact ⟨_,rfl,h9.fin (e4 _) nZ (fun i hi=>List.getElem?_set_ne ak) fun u hu=>(Option.some.inj hu).symm,by show _=V.fZ [cH t,_];unfold cH;rw [he,List.map_cons,List.map_nil,eK];rfl⟩
theorem Yy {x a b d:bh} (Gc:x.kind=11) (hk:x.kids=[a,b,d]) (ha:kn E res a) (hb:kn E res b) (hd:kn E res d) (Yu:∀ w y t,bP E a w=some (y,t)→TW t) (want:bJ) (h:ic B n c s f w E res j lo hi A C kv x):cy prog bI 169 [.ptr c 0,.ptr j A.length,cH want] ⟨B,T⟩ (ug (match bP E a eF with
 | some (a,t)=>(ja t).bind fun _=>(dz (bP E b dh) dh).bind fun b=>(dz (bP E d dh) dh).map fun c=>(bg x [a,b,c],t)
 | none=>none) j lo hi A C kv B T):=by
 obtain ⟨N,hn⟩:=aV B.length;obtain ⟨al,jB⟩:=aV A.length;have nZ:=h.nl;have hjn:=h.nb;rw [jB];refine vq hk ha Yu want eF (by rw [aq ak]) hn jB h (fun h0 v B' hd hv=>?_) fun B1 y t e hr h8 he eW e1 uN f1=>?_
 ·have e0:=I4 (fun a t=>(ja t).bind fun _=>(dz (bP E b dh) dh).bind fun b=>(dz (bP E d dh) dh).map fun c=>(bg x [a,b,c],t)) (fun y t h=>by rw [AI h];rfl) _ h0;rw [e0];exact ⟨B',rfl,hd,hv⟩
 rw [hr];dsimp only;rw [AH h8 he,dg];obtain ⟨X,hX⟩:=aV (A++ef x kv++C);obtain ⟨x0,x1,x2,x6,x7,x8,x9,sC,uh⟩:=jd hX.symm jB;have bW:=uN.row;rw [qJ,hX] at bW;have hj:j < N+2:=ak;have jI:N+1 < N+2:=ak;have GR:decide (x.kind=10)=false:=af ak;have e11:=ah Gc;have FA:decide (x.kind=12)=false:=af ak;obtain ⟨j1,m,cap,rfl,uV⟩:=uN.bx (by rw [dU];simp);rw [dU] at uV;have i1:(1:Int) < (m:Int):=by rw [uV];simp
 obtain ⟨U0,U1,A2,C2,kv2,a2,⟨zw,CA⟩,q1,q2,q3⟩:=(uN.more (J:=[Ls t e])).vW (k:=1) (y:=b) (by rw [dU];rfl);have hh:=pU (T:=T) hb dh q1;have a2:A2.length=8:=ak;rw [a2] at hh;have gW:=xZ.ne (T:=T) q1 dh
 have key:∀ B2,sZ j1 U0 U1 A2 C2 kv2 (B1++[Ls t e]) B2 (dz (bP E b dh) dh)→B2[j]? = (B1++[Ls t e])[j]?∧B2[N+2]? = (B1++[Ls t e])[N+2]?∧B2[N+1]? = some vn∧B2.length=N+3∧iC j lo hi B.length B B2:=by
  intro B2 kP;have qd:=kP.2.1;simp only [av,aP,aW,eW,bf,Nat.reduceAdd] at qd;have g2:=uN.yD (q2 _ _ kP.1) (i:=N+1) ak (by simp [eW]);rw [bt ak,f1] at g2;exact ⟨kP.1.2.1 j fk CA,uN.yD (q2 _ _ kP.1) (i:=N+2) ak (by simp [eW]),g2,qd,e1.app.step (q2 _ _ kP.1)⟩
 rw [U2 he];unfold Ls at *;unfold cH at hh;refine goN ?_;simp only [W,seval,mz,eW,hj,bW,x0,FA,GR,e11];refine dj 20 [] [N+2,j] ?_;simp (maxSteps:=4000000) only [W,seval,mz,xw,oE,eW,hj,bW,x7,i1,he,bC,bL,eK];refine bK (fun Z=>Az _ _) ?_;simp (maxSteps:=4000000) only [W,seval,mz,xw,eW,cH];refine iO gW hh ?_;rintro v _ ⟨B2,rfl,kP,rfl⟩;obtain ⟨g1,g2,g3,qd,e3⟩:=key B2 kP;unfold vn at g3;have Mi:j < N+3:=ak;have uj:N+1 < N+3:=ak;have hN5:N+2 < N+3:=ak;have lW:N+1 < B2.length:=ak;refine ⟨⟨g2,g1,trivial⟩,?_⟩;cases hw:dz (bP E b dh) dh with
 | none =>
  simp (maxSteps:=4000000) only [W,seval,mz,xw,gw,qd,g3,uj];have e4:∀ Z,iC j lo hi B.length B (B2.set (N+1) Z):=fun Z=>e3.qI ak;have g4:∀ Z,(B2.set (N+1) Z)[N+1]? = some Z:=fun Z=>aC lW;have g5:∀ Z,(B2.set (N+1) Z)[N+2]? = B2[N+2]?:=fun Z=>aj ak;have g6:∀ Z,(B2.set (N+1) Z)[j]? = B2[j]?:=fun Z=>aj ak;refine ⟨⟨(g5 _).trans g2,(g6 _).trans g1⟩,⟨(g5 _).trans g2,(g6 _).trans g1⟩,?_⟩;refine az.go 20 ?_;simp only [W,seval,mz,qd];refine dx mz (bT (e4 _) ?_) (h1:=by simp only [W,seval,qd,g4];exact rfl);exact ⟨_,rfl,.none (e4 _) rfl,t,by unfold cH;rw [he,List.map_cons,List.map_nil,eK];rfl⟩
 | some z =>
  rw [hw] at kP;have h9:=q3 B2 z kP;rw [dU,lH] at h9;obtain ⟨lo3,hi3,A3,C3,kv3,a3,⟨hj3,acp⟩,r1,r2,r3⟩:=h9.vW (k:=2) (y:=d) (by rw [dU];rfl);have hh3:=pU (T:=T) hd dh r1;have a3:A3.length=16:=ak;rw [a3] at hh3;unfold cH at hh3;have acr:=xZ.ne (T:=T) r1 dh;have RJ:B2[j]? = some X:=by rw [g1,bt ak];exact bW
  have i2:(2:Int) < (m:Int):=by rw [uV];simp
  simp (maxSteps:=4000000) only [W,seval,mz,xw,oE,gy,qd,g3,uj,Mi,RJ,x7,i2];refine bK (fun Z=>Az _ _) ?_;simp (maxSteps:=4000000) only [W,seval,mz,xw,qd,cH];refine ⟨⟨g2,g1⟩,iO acr hh3 ?_⟩;rintro v _ ⟨B3,rfl,GS,rfl⟩;have SG:=GS.2.1;rw [qd] at SG;have e5:=e3.step (r2 _ _ GS.1);have k1:=(GS.1.2.1 j ak acp);have k2:=h9.yD (r2 _ _ GS.1) (i:=N+2) ak ak;have k3:=h9.yD (r2 _ _ GS.1) (i:=N+1) ak ak;rw [g3] at k3;have hN6:N+1 < B3.length:=ak;have e4:∀ Z,iC j lo hi B.length B (B3.set (N+1) Z):=fun Z=>e5.qI ak;have g4:∀ Z,(B3.set (N+1) Z)[N+1]? = some Z:=fun Z=>aC hN6;have g5:∀ Z,(B3.set (N+1) Z)[N+2]? = B3[N+2]?:=fun Z=>aj ak;have g6:∀ Z,(B3.set (N+1) Z)[j]? = B3[j]?:=fun Z=>aj ak;have k4:=k2.trans g2;have k5:=k1.trans g1;refine ⟨⟨k4,k5,trivial⟩,?_⟩;simp (maxSteps:=4000000) only [W,seval,mz,xw,SG,k3,uj];refine ⟨⟨(g5 _).trans k4,(g6 _).trans k5⟩,⟨(g5 _).trans k4,(g6 _).trans k5⟩,?_⟩;refine az.go 20 ?_;simp only [W,seval,mz,SG];refine dx mz (bT (e4 _) ?_) (h1:=by simp only [W,seval,SG,g4];exact rfl);cases hw3:dz (bP E d dh) dh with
  | none=>exact ⟨_,rfl,.none (e4 _) rfl,t,by unfold cH;rw [he,List.map_cons,List.map_nil,eK];rfl⟩
  | some u =>
   rw [hw3] at GS;have hA:=r3 B3 u GS;rw [dU,lH] at hA;exact ⟨_,rfl,hA.fin (e4 _) nZ (fun i hi=>List.getElem?_set_ne ak) fun u hu=>(Option.some.inj hu).symm,by show _=V.fZ [cH t,_];unfold cH;rw [he,List.map_cons,List.map_nil,eK];rfl⟩
end
def ny:=KB func173 78
section
variable {E:fm} {res:List bJ} {n c s f w:Nat} {B:bQ} {T:eg} {j lo hi:Nat} {A C:List V} {kv:V}
theorem Yz {x a:bh} (h4:x.kind=4) (hk:x.kids=[a]) (ha:kn E res a) (want:bJ) (h:ic B n c s f w E res j lo hi A C kv x):cy prog bI 173 [.ptr c 0,.ptr j A.length,cH want] ⟨B,T⟩ (ug ((dz (bP E a cZ) cZ).map fun a=>(bg x [a],cZ)) j lo hi A C kv B T):=by
 obtain ⟨N,hn⟩:=aV B.length;obtain ⟨al,jB⟩:=aV A.length;obtain ⟨X,hX⟩:=aV (A++ef x kv++C);obtain ⟨x0,x1,x2,x6,x7,x8,x9,sC,uh⟩:=jd hX.symm jB;have bW:=h.row;rw [hX] at bW;have nZ:=h.nl;have hj:j < N:=by have:=h.nb;omega
 obtain ⟨j1,m,cap,rfl,uV⟩:=h.bx (by rw [hk];simp);have hm:(0:Int) < (m:Int):=by rw [uV,hk];simp
 obtain ⟨lG,kD,A1,C1,uL,a1,⟨zw,CA⟩,k1,k2,k3⟩:=(h.more (J:=[jr want,vn])).vW (k:=0) (y:=a) (by rw [hk];rfl);rw [gk] at a1;have hh:=pU (T:=T) ha cZ k1;have e4:=ah h4;have jI:N+1 < N+2:=ak;rw [a1] at hh;rw [jB];unfold cH jr vn at *;refine gL ny fun cG=>?_;simp only [fH] at cG;simp only [W,seval,ny,oE,hn,hj,bW,x0,x7,hm,e4];refine aX (mm _ _) ?_;refine goN ?_;simp only [W,seval,ny];refine aX (mm _ _) ?_;unfold cH;refine goN ?_;simp only [W,seval,ny];refine cz hh ?_;rintro v _ ⟨B1,rfl,hd,rfl⟩;have eW:=hd.2.1;simp only [av,aP,aW,hn,bf,Nat.reduceAdd] at eW;have e1:iC j lo hi B.length B B1:=iC.new.step (k2 _ _ hd.1);have f1:=h.yD (k2 _ _ hd.1) (i:=N+1) ak (by simp [hn]);rw [gS hn] at f1;simp only [bX,cu] at f1;have lW:N+1 < B1.length:=ak;have e2:∀ Z,iC j lo hi B.length B (B1.set (N+1) Z):=fun Z=>e1.qI ak;have g4:∀ Z,(B1.set (N+1) Z)[N+1]? = some Z:=fun Z=>aC lW;refine goN ?_;simp only [W,seval,ny,eW,f1,jI];refine dx ny (bT (e2 _) ?_) (h1:=by simp only [W,seval,g4];exact rfl);cases hw:dz (bP E a cZ) cZ with
 | none=>exact ⟨_,rfl,.none (e2 _) rfl,cZ,rfl⟩
 | some z =>
  rw [hw] at hd;have h9:=k3 B1 z hd;rw [hk] at h9;exact ⟨_,rfl,h9.fin (e2 _) nZ (fun i hi=>aj ak) fun u hu=>(ag hu).symm,rfl⟩
theorem YB {x a:bh} (h5:x.kind=5) (hk:x.kids=[a]) (ha:kn E res a) (want:bJ) (h:ic B n c s f w E res j lo hi A C kv x):cy prog bI 173 [.ptr c 0,.ptr j A.length,cH want] ⟨B,T⟩ (ug (match bP E a want with
 | some (a,t)=>if jz t.kind=true then some (bg x [a],t) else none
 | none=>none) j lo hi A C kv B T):=by
 obtain ⟨N,hn⟩:=aV B.length;obtain ⟨al,jB⟩:=aV A.length;obtain ⟨X,hX⟩:=aV (A++ef x kv++C);obtain ⟨x0,x1,x2,x6,x7,x8,x9,sC,uh⟩:=jd hX.symm jB;have bW:=h.row;rw [hX] at bW;have nZ:=h.nl;have hj:j < N:=by have:=h.nb;omega
 obtain ⟨j1,m,cap,rfl,uV⟩:=h.bx (by rw [hk];simp);have hm:(0:Int) < (m:Int):=by rw [uV,hk];simp
 obtain ⟨lG,kD,A1,C1,uL,a1,⟨zw,CA⟩,k1,k2,k3⟩:=(h.more (J:=[jr want,vn])).vW (k:=0) (y:=a) (by rw [hk];rfl);rw [gk] at a1;have hh:=ha want n c s f w _ T _ _ _ _ _ _ k1;have e5:=ah h5;have e4:decide (x.kind=4)=false:=af ak;have jI:N+1 < N+2:=ak;rw [a1] at hh;rw [jB];unfold cH jr vn at *;refine gL ny fun cG=>?_;simp only [fH] at cG;simp only [W,seval,ny,oE,hn,hj,bW,x0,x7,hm,e4,e5];refine cz hh ?_;rintro v _ ⟨B1,rfl,hd,hv⟩;obtain ⟨t,b,rfl,tV,p8⟩:=vl hv;have eW:=hd.2.1;simp only [av,aP,aW,hn,bf,Nat.reduceAdd] at eW;have e1:iC j lo hi B.length B B1:=iC.new.step (k2 _ _ hd.1);have f1:=h.yD (k2 _ _ hd.1) (i:=N+1) ak (by simp [hn]);rw [gS hn] at f1;simp only [bX,cu] at f1;have lW:N+1 < B1.length:=ak;have e2:∀ Z J,iC j lo hi B.length B (B1.set (N+1) Z++J):=fun Z J=>(e1.qI ak).app;have g4:∀ Z,(B1.set (N+1) Z)[N+1]? = some Z:=fun Z=>aC lW;unfold cH;cases b
 ·have hr:=p8 rfl;rw [hr];refine goN ?_;simp only [W,seval,ny,eW];refine dj 7 [] [N+2] ?_;simp (maxSteps:=4000000) only [W,seval,ny,xw,eW,f1,jI];refine goN ?_;simp only [W,seval,ny,eW];refine dx ny (bT (e2 _ _) ?_) (h1:=by simp only [W,seval,eW,jI,lW,g4];exact rfl);exact ⟨_,rfl,.none (e2 _ _) rfl,t,rfl⟩
 ·obtain ⟨y,hr⟩:=tV rfl;rw [hr] at hd ⊢;dsimp only;refine goN ?_;simp only [W,seval,ny,eW];refine dj 7 [] [N+2] ?_;simp (maxSteps:=4000000) only [W,seval,ny,xw,eW,f1,jI];refine bK (fun Z=>mq t _ _) ?_;simp (maxSteps:=4000000) only [W,seval,ny,xw,eW,f1,jI];refine goN ?_;simp only [W,seval,ny,eW];refine dx ny (bT (e2 _ _) ?_) (h1:=by simp only [W,seval,eW,jI,lW,g4];exact rfl);have h9:=k3 B1 y hd;rw [hk] at h9;cases jz t.kind with
  | false=>exact ⟨_,rfl,.none (e2 _ _) rfl,t,rfl⟩
  | true=>exact ⟨_,rfl,h9.fin (e2 _ _) nZ (fun i hi=>by rw [bt (by rw [aG];omega),aj ak]) fun u hu=>(ag hu).symm,rfl⟩
theorem YC {x a:bh} (h8:x.kind=8) (hk:x.kids=[a]) (ha:kn E res a) (Bl:a.kind=5→a.kids ≠ []) (want:bJ) (h:ic B n c s f w E res j lo hi A C kv x):cy prog bI 173 [.ptr c 0,.ptr j A.length,cH want] ⟨B,T⟩ (ug (if kL a=true then (dz (bP E a x.type) x.type).map fun a=>(bg x [a],x.type) else match bP E a eF with
 | some (a,t)=>if jz t.kind=true then some (bg x [a],x.type) else none
 | none=>none) j lo hi A C kv B T):=by
 obtain ⟨N,hn⟩:=aV B.length;obtain ⟨al,jB⟩:=aV A.length;obtain ⟨X,hX⟩:=aV (A++ef x kv++C);obtain ⟨x0,x1,x2,x6,x7,x8,x9,sC,uh⟩:=jd hX.symm jB;have bW:=h.row;rw [hX] at bW;have nZ:=h.nl;have hj:j < N:=by have:=h.nb;omega
 obtain ⟨j1,m,cap,rfl,uV⟩:=h.bx (by rw [hk];simp);have hm:(0:Int) < (m:Int):=by rw [uV,hk];simp
 obtain ⟨lG,kD,A1,C1,uL,a1,⟨zw,CA⟩,k1,k2,k3⟩:=(h.more (J:=[jr want,vn])).vW (k:=0) (y:=a) (by rw [hk];rfl);rw [gk] at a1;have Cy:=NW Bl k1.own T;have hh:=pU (T:=T) ha x.type k1;have ht:=ha eF n c s f w _ T _ _ _ _ _ _ k1;obtain ⟨Y,hY⟩:=aV (A1++ef a uL++C1);obtain ⟨y0,y7,y8,y9⟩:=I0 hY.symm a1;have tM:=k1.row;rw [hY,bt ak] at tM;have zw:j1 < N:=ak;have e5:decide (x.kind=5)=false:=af ak;have e4:decide (x.kind=4)=false:=af ak;have jI:N+1 < N+2:=ak;rw [a1] at hh ht;rw [jB];unfold cH jr vn at *;refine gL ny fun cG=>?_;simp only [fH] at cG;simp only [W,seval,ny,oE,hn,hj,bW,x0,x7,hm,e4,e5,zw,tM,y8,y9];refine rK Cy ?_
 have key:∀ B1 r,sZ j1 lG kD A1 C1 uL (B++[[V.d (.int .i64 want.kind),.d (.str want.name),.d (.sl (want.elem.map eH))],[V.d (.int .i64 0),.d (.str []),.sl [] .full]]) B1 r→B1.length=N+2∧iC j lo hi B.length B B1∧B1[N+1]? = some [V.d (.int .i64 0),.d (.str []),.sl [] .full]∧B1[j]? = some X:=by
  intro B1 r hd;have eW:=hd.2.1;simp only [av,aP,aW,hn,bf,Nat.reduceAdd] at eW;have f1:=h.yD (k2 _ _ hd.1) (i:=N+1) ak (by simp [hn]);rw [gS hn] at f1;simp only [bX,cu] at f1;exact ⟨eW,iC.new.step (k2 _ _ hd.1),f1,by rw [hd.1.2.1 j fk CA,bt ak];exact bW⟩
 have Mi:j < N+2:=ak;cases Lm:kL a
 ·rw [aq bH];refine goN ?_;simp only [W,seval,ny];refine aX (jc _ _) ?_;unfold cH;refine goN ?_;simp only [W,seval,ny];refine cz ht ?_;rintro v _ ⟨B1,rfl,hd,hv⟩;obtain ⟨t,b,rfl,tV,p8⟩:=vl hv;obtain ⟨eW,e1,f1,f2⟩:=key B1 _ hd;have lW:N+1 < B1.length:=ak;have e2:∀ Z J,iC j lo hi B.length B (B1.set (N+1) Z++J):=fun Z J=>(e1.qI ak).app;have g4:∀ Z,(B1.set (N+1) Z)[N+1]? = some Z:=fun Z=>aC lW;have g6:∀ Z,(B1.set (N+1) Z)[j]? = B1[j]?:=fun Z=>aj ak;have g7:∀ Z J,(B1.set (N+1) Z++J)[j]? = (B1++J)[j]?:=fun Z J=>by rw [bt (by rw [aG];omega),bt ak,g6]
  unfold cH;cases b
  ·have hr:=p8 rfl;rw [hr];refine goN ?_;simp only [W,seval,ny,eW];refine dj 10 [] [j] ?_;simp (maxSteps:=4000000) only [W,seval,ny,xw,eW,f1,jI,Mi,f2,sC,uh];refine ⟨(g6 _).trans f2,(g6 _).trans f2,?_⟩;refine goN ?_;simp only [W,seval,ny,eW];refine dx ny (bT (e2 _ _) ?_) (h1:=by simp only [W,seval,eW,jI,lW,g4];exact rfl);exact ⟨_,rfl,.none (e2 _ _) rfl,x.type,rfl⟩
  ·obtain ⟨y,hr⟩:=tV rfl;rw [hr] at hd ⊢;dsimp only;refine goN ?_;simp only [W,seval,ny,eW];refine dj 10 [] [j,N+2] ?_;simp (maxSteps:=4000000) only [W,seval,ny,xw,eW,f1,jI,Mi,f2,sC,uh];refine bK (fun Z=>mq t _ _) ?_;simp (maxSteps:=4000000) only [W,seval,ny,xw,eW,f1,jI];refine ⟨g7 _ _,g7 _ _,?_⟩;refine goN ?_;simp only [W,seval,ny,eW];refine dx ny (bT (e2 _ _) ?_) (h1:=by simp only [W,seval,eW,jI,lW,g4];exact rfl);have h9:=k3 B1 y hd;rw [hk] at h9;cases jz t.kind with
   | false=>exact ⟨_,rfl,.none (e2 _ _) rfl,x.type,rfl⟩
   | true=>exact ⟨_,rfl,h9.fin (e2 _ _) nZ (fun i hi=>by rw [bt (by rw [aG];omega),aj ak]) fun u hu=>(ag hu).symm,rfl⟩
 ·rw [aD rfl];refine goN ?_;simp only [W,seval,ny];refine dj 12 [] [j] ?_;simp (maxSteps:=4000000) only [W,seval,ny,xw,hn,hj,bW,sC,uh];refine iO (xZ.ne (T:=T) k1 x.type) hh ?_;rintro v _ ⟨B1,rfl,hd,rfl⟩;obtain ⟨eW,e1,f1,f2⟩:=key B1 _ hd;have lW:N+1 < B1.length:=ak;have e2:∀ Z,iC j lo hi B.length B (B1.set (N+1) Z):=fun Z=>e1.qI ak;have g4:∀ Z,(B1.set (N+1) Z)[N+1]? = some Z:=fun Z=>aC lW;have g1:B1[j]? = (B++[[V.d (.int .i64 want.kind),.d (.str want.name),.d (.sl (want.elem.map eH))],[V.d (.int .i64 0),.d (.str []),.sl [] .full]])[j]?:=hd.1.2.1 j fk CA;have g6:∀ Z,(B1.set (N+1) Z)[j]? = B1[j]?:=fun Z=>aj ak;refine ⟨⟨g1,trivial⟩,?_⟩;simp (maxSteps:=4000000) only [W,seval,ny,xw,eW,f1,jI];refine ⟨(g6 _).trans g1,(g6 _).trans g1,?_⟩;refine goN ?_;simp only [W,seval,ny,eW];refine dx ny (bT (e2 _) ?_) (h1:=by simp only [W,seval,g4];exact rfl);cases hw:dz (bP E a x.type) x.type with
  | none=>exact ⟨_,rfl,.none (e2 _) rfl,x.type,rfl⟩
  | some z =>
   rw [hw] at hd;have h9:=k3 B1 z hd;rw [hk] at h9;exact ⟨_,rfl,h9.fin (e2 _) nZ (fun i hi=>aj ak) fun u hu=>(ag hu).symm,rfl⟩
end
def gz:=KB func167 124
theorem lY {α:Type} [DecidableEq α] (a b:List α):(a == b)=decide (a=b):=by
 rw [dQ];simp
section
variable {E:fm} {res:List bJ} {n c s f w:Nat} {B:bQ} {T:eg} {j lo hi:Nat} {A C:List V} {kv:V}
theorem I5 {x:bh} {p q:List V} {N:Nat} (hn:B.length=N) (h:ic B n c s f w E res j lo hi A C kv x) {r:Option (bh × bh × bJ)} {v:V} {S':Mem} (ht:ug (r.map fun r=>(bg x [r.1,r.2.1],r.2.2)) j lo hi A C kv (B++[p,q]) T v S') :
 ∃ B1 t b0,v = .fZ [cH t,.d (.bool b0)]∧S' = ⟨B1,T⟩∧B1.length=N+2∧B1[N+1]? = some q∧(∀ Z J,iC j lo hi B.length B (B1.set (N+1) Z++J))∧(b0=false→r=none)∧(b0=true→∃ a' b',r=some (a',b',t)∧∀ Z J,sZ j lo hi A C kv B ((B1.set (N+1) Z++J).take B.length) (some (bg x [a',b']))):=by
 have nZ:=h.nl;obtain ⟨B1,rfl,hd,hv⟩:=ht;obtain ⟨t,b0,rfl,tV,p8⟩:=vl hv;have eW:=hd.2.1;simp only [av,aP,aW,hn,bf,Nat.reduceAdd] at eW;have e1:iC j lo hi B.length B B1:=iC.new.step hd.1;have f1:=h.yD hd.1 (i:=N+1) ak (by simp [hn]);rw [gS hn] at f1;simp only [bX,cu] at f1;have e2:∀ Z J,iC j lo hi B.length B (B1.set (N+1) Z++J):=fun Z J=>(e1.qI ak).app;refine ⟨B1,t,b0,rfl,rfl,eW,f1,e2,fun h=>by simpa using p8 h,fun hb=>?_⟩;obtain ⟨y,hy⟩:=tV hb;obtain ⟨⟨a',b',t'⟩,hr,e⟩:=aB.1 hy;obtain ⟨e3,rfl⟩:=aR e;rw [hr] at hd;exact ⟨a',b',hr,fun Z J=>(h.more.done hd).fin (e2 Z J) nZ (fun i hi=>by rw [bt (by rw [aG];omega),aj ak]) fun u hu=>(ag hu).symm⟩
theorem RN {x a b:bh} (CX:sX x.text=false) (By:shift x.text=false) (zg:alike x.text=true) (hk:x.kids=[a,b]) (ha:kn E res a) (hb:kn E res b) (Bl:a.kind=5→a.kids ≠ []) (want:bJ) (h:ic B n c s f w E res j lo hi A C kv x):cy prog bI 167 [.ptr c 0,.ptr j A.length,cH want] ⟨B,T⟩ (ug ((vh (bP E a) (bP E b) (kL a) x.text want).map fun r=>(bg x [r.1,r.2.1],r.2.2)) j lo hi A C kv B T):=by
 obtain ⟨N,hn⟩:=aV B.length;obtain ⟨al,jB⟩:=aV A.length;obtain ⟨X,hX⟩:=aV (A++ef x kv++C);obtain ⟨x0,x1,x2,x6,x7,x8,x9,sC,uh⟩:=jd hX.symm jB;have bW:=h.row;rw [hX] at bW;have nZ:=h.nl;have hj:j < N:=by have:=h.nb;omega
 have jI:N+1 < N+2:=ak;have FQ:=I1 (T:=T) hk ha hb Bl eF (h.more (J:=[jr want,vn]));unfold vh;rw [CX,By,zg,aq bH,aq bH,aD rfl]
 have e5:(decide (x.text=[61,61])=true∧decide (x.text=[61,61])=true)∨(decide (x.text=[61,61])=false∧decide (x.text=[33,61])=true):=by
  unfold alike at zg;rw [lY,lY] at zg;cases hd:decide (x.text=[61,61])
  ·rw [hd,eN] at zg;exact .inr ⟨rfl,zg⟩
  ·exact .inl ⟨rfl,rfl⟩
 unfold sX at CX;unfold shift at By;rw [lY,lY,fA] at CX By;obtain ⟨e1,e2⟩:=CX;obtain ⟨e3,e4⟩:=By;rw [jB] at FQ ⊢;unfold cH jr vn at *;rcases e5 with ⟨e5,e6⟩ | ⟨e5,e6⟩
 all_goals
  refine gL gz fun cG=>?_;simp only [fH] at cG;simp only [W,seval,gz,hn,hj,bW,x1,e1,e2,e3,e4,e5,e6];refine aX (jc _ _) ?_;unfold cH;refine goN ?_;simp only [W,seval,gz,hn];refine cz FQ ?_;intro v S' hv;obtain ⟨B1,t,b0,rfl,rfl,eW,f1,ee,p8,tV⟩:=I5 hn h hv;have lW:N+1 < B1.length:=ak;have g4:∀ Z,(B1.set (N+1) Z)[N+1]? = some Z:=fun Z=>aC lW;unfold cH;cases b0
  ·rw [p8 rfl];refine goN ?_;simp only [W,seval,gz,eW];refine dj 12 [] [N+2] ?_;simp (maxSteps:=4000000) only [W,seval,gz,xw,eW];refine bK (fun Z=>mm _ _) ?_;simp (maxSteps:=4000000) only [W,seval,gz,xw,eW,f1,jI,cH];refine goN ?_;simp only [W,seval,gz,eW];refine dx gz (bT (ee _ _) ?_) (h1:=by simp only [W,seval,eW,jI,lW,g4];exact rfl);exact ⟨_,rfl,.none (ee _ _) rfl,cZ,rfl⟩
  ·obtain ⟨a',b',hr,hdd⟩:=tV rfl;rw [hr];dsimp only;refine goN ?_;simp only [W,seval,gz,eW];cases U3:jz t.kind
   ·by_cases h1:t.kind=1
    ·have e1':=ah h1;rw [aD (.inr h1)];refine dj 12 [] [N+2] ?_;simp (maxSteps:=4000000) only [W,seval,gz,xw,eW];refine bK (fun Z=>mm _ _) ?_;simp (maxSteps:=4000000) only [W,seval,gz,xw,eW,f1,jI,cH];refine bK (fun Z=>mq t _ _) ?_;simp (maxSteps:=4000000) only [W,seval,gz,xw,eW,f1,jI,U3,e1'];refine goN ?_;simp only [W,seval,gz,eW];refine dx gz (bT (ee _ _) ?_) (h1:=by simp only [W,seval,eW,jI,lW,g4];exact rfl);exact ⟨_,rfl,hdd _ _,rfl⟩
    ·have e1':=af h1;rw [aq (fun h=>h.elim (fun h=>by cases h) h1)];refine dj 12 [] [N+2] ?_;simp (maxSteps:=4000000) only [W,seval,gz,xw,eW];refine bK (fun Z=>mm _ _) ?_;simp (maxSteps:=4000000) only [W,seval,gz,xw,eW,f1,jI,cH];refine bK (fun Z=>mq t _ _) ?_;simp (maxSteps:=4000000) only [W,seval,gz,xw,eW,f1,jI,U3,e1'];refine goN ?_;simp only [W,seval,gz,eW];refine dx gz (bT (ee _ _) ?_) (h1:=by simp only [W,seval,eW,jI,lW,g4];exact rfl);exact ⟨_,rfl,.none (ee _ _) rfl,cZ,rfl⟩
   ·rw [aD (.inl rfl)];refine dj 12 [] [N+2] ?_;simp (maxSteps:=4000000) only [W,seval,gz,xw,eW];refine bK (fun Z=>mm _ _) ?_;simp (maxSteps:=4000000) only [W,seval,gz,xw,eW,f1,jI,cH];refine bK (fun Z=>mq t _ _) ?_;simp (maxSteps:=4000000) only [W,seval,gz,xw,eW,f1,jI,U3];refine goN ?_;simp only [W,seval,gz,eW];refine dx gz (bT (ee _ _) ?_) (h1:=by simp only [W,seval,eW,jI,lW,g4];exact rfl);exact ⟨_,rfl,hdd _ _,rfl⟩
theorem RO {x a b:bh} (CX:sX x.text=false) (By:shift x.text=false) (zg:alike x.text=false) (ho:order x.text=true) (hk:x.kids=[a,b]) (ha:kn E res a) (hb:kn E res b) (Bl:a.kind=5→a.kids ≠ []) (want:bJ) (h:ic B n c s f w E res j lo hi A C kv x):cy prog bI 167 [.ptr c 0,.ptr j A.length,cH want] ⟨B,T⟩ (ug ((vh (bP E a) (bP E b) (kL a) x.text want).map fun r=>(bg x [r.1,r.2.1],r.2.2)) j lo hi A C kv B T):=by
 obtain ⟨N,hn⟩:=aV B.length;obtain ⟨al,jB⟩:=aV A.length;obtain ⟨X,hX⟩:=aV (A++ef x kv++C);obtain ⟨x0,x1,x2,x6,x7,x8,x9,sC,uh⟩:=jd hX.symm jB;have bW:=h.row;rw [hX] at bW;have nZ:=h.nl;have hj:j < N:=by have:=h.nb;omega
 have jI:N+1 < N+2:=ak;have FQ:=I1 (T:=T) hk ha hb Bl eF (h.more (J:=[jr want,vn]));unfold vh;rw [CX,By,zg,aq bH,aq bH,aq bH,ho,aD rfl]
 have e5:(decide (x.text=[60])=true∧decide (x.text=[60])=true∧decide (x.text=[60])=true∧decide (x.text=[60])=true)∨(decide (x.text=[60])=false∧decide (x.text=[60,61])=true∧decide (x.text=[60,61])=true∧decide (x.text=[60,61])=true)∨(decide (x.text=[60])=false∧decide (x.text=[60,61])=false∧decide (x.text=[62])=true∧decide (x.text=[62])=true)∨(decide (x.text=[60])=false∧decide (x.text=[60,61])=false∧decide (x.text=[62])=false∧decide (x.text=[62,61])=true):=by
  unfold order at ho;simp only [lY] at ho
  revert ho
  cases decide (x.text=[60])<;>cases decide (x.text=[60,61])<;>cases decide (x.text=[62])<;>cases decide (x.text=[62,61])<;>decide
 unfold alike at zg;unfold sX at CX;unfold shift at By;rw [lY,lY,fA] at CX By zg;obtain ⟨e1,e2⟩:=CX;obtain ⟨e3,e4⟩:=By;obtain ⟨e9,eA⟩:=zg;rw [jB] at FQ ⊢;unfold cH jr vn at *;rcases e5 with ⟨e5,e6,e7,e8⟩ | ⟨e5,e6,e7,e8⟩ | ⟨e5,e6,e7,e8⟩ | ⟨e5,e6,e7,e8⟩
 all_goals
  refine gL gz fun cG=>?_;simp only [fH] at cG;simp only [W,seval,gz,hn,hj,bW,x1,e1,e2,e3,e4,e9,eA,e5,e6,e7,e8];refine aX (jc _ _) ?_;unfold cH;refine goN ?_;simp only [W,seval,gz,hn];refine cz FQ ?_;intro v S' hv;obtain ⟨B1,t,b0,rfl,rfl,eW,f1,ee,p8,tV⟩:=I5 hn h hv;have lW:N+1 < B1.length:=ak;have g4:∀ Z,(B1.set (N+1) Z)[N+1]? = some Z:=fun Z=>aC lW;unfold cH;cases b0
  ·rw [p8 rfl];refine goN ?_;simp only [W,seval,gz,eW];refine aX (mm _ _) ?_;unfold cH;refine goN ?_;simp only [W,seval,gz,eW,f1,jI];refine dx gz (bT (ee _ _) ?_) (h1:=by simp only [W,seval,eW,jI,lW,g4];exact rfl);exact ⟨_,rfl,.none (ee _ _) rfl,cZ,rfl⟩
  ·obtain ⟨a',b',hr,hdd⟩:=tV rfl;rw [hr];dsimp only;refine goN ?_;simp only [W,seval,gz,eW];refine aX (mm _ _) ?_;unfold cH;refine goN ?_;simp only [W,seval,gz,eW];refine aX (mq t _ _) ?_;refine goN ?_;simp only [W,seval,gz,eW,f1,jI];refine dx gz (bT (ee _ _) ?_) (h1:=by simp only [W,seval,eW,jI,lW,g4];exact rfl);cases U3:jz t.kind
   ·rw [aq bH];exact ⟨_,rfl,.none (ee _ _) rfl,cZ,rfl⟩
   ·rw [aD rfl];exact ⟨_,rfl,hdd _ _,rfl⟩
theorem RP {x a b:bh} (CX:sX x.text=false) (By:shift x.text=false) (zg:alike x.text=false) (ho:order x.text=false) (hk:x.kids=[a,b]) (ha:kn E res a) (hb:kn E res b) (Bl:a.kind=5→a.kids ≠ []) (want:bJ) (h:ic B n c s f w E res j lo hi A C kv x):cy prog bI 167 [.ptr c 0,.ptr j A.length,cH want] ⟨B,T⟩ (ug ((vh (bP E a) (bP E b) (kL a) x.text want).map fun r=>(bg x [r.1,r.2.1],r.2.2)) j lo hi A C kv B T):=by
 obtain ⟨N,hn⟩:=aV B.length;obtain ⟨al,jB⟩:=aV A.length;obtain ⟨X,hX⟩:=aV (A++ef x kv++C);obtain ⟨x0,x1,x2,x6,x7,x8,x9,sC,uh⟩:=jd hX.symm jB;have bW:=h.row;rw [hX] at bW;have nZ:=h.nl;have hj:j < N:=by have:=h.nb;omega
 have jI:N+1 < N+2:=ak;have FQ:=I1 (T:=T) hk ha hb Bl want (h.more (J:=[jr want,vn]));unfold vh;rw [CX,By,zg,aq bH,aq bH,aq bH,ho,aq bH]
 obtain ⟨e5,e6,e7,e8⟩:decide (x.text=[60])=false∧decide (x.text=[60,61])=false∧decide (x.text=[62])=false∧decide (x.text=[62,61])=false:=by
  unfold order at ho;simp only [lY,fA] at ho;exact ⟨ho.1.1.1,ho.1.1.2,ho.1.2,ho.2⟩
 unfold alike at zg;unfold sX at CX;unfold shift at By;rw [lY,lY,fA] at CX By zg;obtain ⟨e1,e2⟩:=CX;obtain ⟨e3,e4⟩:=By;obtain ⟨e9,eA⟩:=zg;rw [jB] at FQ ⊢;unfold cH jr vn at *;refine gL gz fun cG=>?_;simp only [fH] at cG;simp only [W,seval,gz,hn,hj,bW,x1,e1,e2,e3,e4,e9,eA,e5,e6,e7,e8];refine cz FQ ?_;intro v S' hv;obtain ⟨B1,t,b0,rfl,rfl,eW,f1,ee,p8,tV⟩:=I5 hn h hv;have lW:N+1 < B1.length:=ak;have g4:∀ Z,(B1.set (N+1) Z)[N+1]? = some Z:=fun Z=>aC lW;unfold cH;cases b0
 ·rw [p8 rfl];refine goN ?_;simp only [W,seval,gz,eW];refine dj 7 [] [N+2] ?_;simp (maxSteps:=4000000) only [W,seval,gz,xw,eW,f1,jI];refine goN ?_;simp only [W,seval,gz,eW];refine dx gz (bT (ee _ _) ?_) (h1:=by simp only [W,seval,eW,jI,lW,g4];exact rfl);exact ⟨_,rfl,.none (ee _ _) rfl,t,rfl⟩
 ·obtain ⟨a',b',hr,hdd⟩:=tV rfl;rw [hr];dsimp only;refine goN ?_;simp only [W,seval,gz,eW];refine dj 7 [] [N+2] ?_;simp (maxSteps:=4000000) only [W,seval,gz,xw,eW,f1,jI];refine bK (fun Z=>mq t _ _) ?_;simp (maxSteps:=4000000) only [W,seval,gz,xw,eW,f1,jI];refine goN ?_;simp only [W,seval,gz,eW];refine dx gz (bT (ee _ _) ?_) (h1:=by simp only [W,seval,eW,jI,lW,g4];exact rfl);cases U3:jz t.kind
  ·rw [aq bH];exact ⟨_,rfl,.none (ee _ _) rfl,t,rfl⟩
  ·rw [aD rfl];exact ⟨_,rfl,hdd _ _,rfl⟩
end
section
variable {E:fm} {res:List bJ} {n c s f w:Nat} {B:bQ} {T:eg} {j lo hi:Nat} {A C:List V} {kv:V}
theorem RQ {x a b:bh} (CX:sX x.text=true) (hk:x.kids=[a,b]) (ha:kn E res a) (hb:kn E res b) (want:bJ) (h:ic B n c s f w E res j lo hi A C kv x):cy prog bI 167 [.ptr c 0,.ptr j A.length,cH want] ⟨B,T⟩ (ug ((vh (bP E a) (bP E b) (kL a) x.text want).map fun r=>(bg x [r.1,r.2.1],r.2.2)) j lo hi A C kv B T):=by
 obtain ⟨N,hn⟩:=aV B.length;obtain ⟨al,jB⟩:=aV A.length;obtain ⟨X,hX⟩:=aV (A++ef x kv++C);obtain ⟨x0,x1,x2,x6,x7,x8,x9,sC,uh⟩:=jd hX.symm jB;have bW:=h.row;rw [hX] at bW;have nZ:=h.nl;have hj:j < N:=by have:=h.nb;omega
 have Mi:j < N+2:=ak;have jI:N+1 < N+2:=ak;obtain ⟨j1,m,cap,rfl,uV⟩:=h.bx (by rw [hk];simp);have i0:(0:Int) < (m:Int):=by rw [uV,hk];simp
 have i1:(1:Int) < (m:Int):=by rw [uV,hk];simp
 obtain ⟨lG,kD,A1,C1,uL,a1,⟨zw,CA⟩,k1,k2,k3⟩:=(h.more (J:=[jr want,vn])).vW (k:=0) (y:=a) (by rw [hk];rfl);rw [gk] at a1;have hh:=pU (T:=T) ha cZ k1;have gW:=xZ.ne (T:=T) k1 cZ;rw [a1] at hh;unfold vh;rw [CX,aD rfl]
 have e5:(decide (x.text=[38,38])=true∧decide (x.text=[38,38])=true)∨(decide (x.text=[38,38])=false∧decide (x.text=[124,124])=true):=by
  unfold sX at CX;rw [lY,lY] at CX;cases hd:decide (x.text=[38,38])
  ·rw [hd,eN] at CX;exact .inr ⟨rfl,CX⟩
  ·exact .inl ⟨rfl,rfl⟩
 rw [jB];unfold cH jr vn at *;rcases e5 with ⟨e5,e6⟩ | ⟨e5,e6⟩
 all_goals
  refine gL gz fun cG=>?_;simp only [fH] at cG;simp only [W,seval,gz,hn,hj,bW,x1,e5,e6];refine dj 20 [] [j] ?_;simp (maxSteps:=4000000) only [W,seval,gz,xw,oE,hn,hj,bW,x7,i0];refine bK (fun Z=>mm _ _) ?_;simp (maxSteps:=4000000) only [W,seval,gz,xw,oE,hn,hj,bW,x7,i0];refine bK (fun Z=>mm _ _) ?_;simp (maxSteps:=4000000) only [W,seval,gz,xw,oE,hn,hj,bW,x7,i0,cH];refine iO gW hh ?_;rintro v _ ⟨B2,rfl,kP,rfl⟩;have qd:=kP.2.1;simp only [av,aP,aW,hn,bf,Nat.reduceAdd] at qd;have e3:iC j lo hi B.length B B2:=iC.new.step (k2 _ _ kP.1);have g3:=h.yD (k2 _ _ kP.1) (i:=N+1) ak (by simp [hn]);rw [gS hn] at g3;simp only [bX,cu] at g3;have g1:B2[j]? = (B++[[V.d (.int .i64 want.kind),.d (.str want.name),.d (.sl (want.elem.map eH))],[V.d (.int .i64 0),.d (.str []),.sl [] .full]])[j]?:=kP.1.2.1 j fk CA;have lW:N+1 < B2.length:=ak;have RJ:B2[j]? = some X:=by rw [g1,bt ak];exact bW
  refine ⟨⟨g1,trivial⟩,?_⟩;cases hw:dz (bP E a cZ) cZ with
  | none =>
   simp (maxSteps:=4000000) only [W,seval,gz,xw,gw,qd,g3,jI];have e4:∀ Z,iC j lo hi B.length B (B2.set (N+1) Z):=fun Z=>e3.qI ak;have g4:∀ Z,(B2.set (N+1) Z)[N+1]? = some Z:=fun Z=>aC lW;have g6:∀ Z,(B2.set (N+1) Z)[j]? = B2[j]?:=fun Z=>aj ak;refine ⟨(g6 _).trans g1,(g6 _).trans g1,?_⟩;refine az.go 20 ?_;simp only [W,seval,gz,qd];refine dx gz (bT (e4 _) ?_) (h1:=by simp only [W,seval,qd,g4];exact rfl);exact ⟨_,rfl,.none (e4 _) rfl,cZ,rfl⟩
  | some z =>
   rw [hw] at kP;have h9:=k3 B2 z kP;rw [hk] at h9;obtain ⟨lo3,hi3,A3,C3,kv3,a3,⟨hj3,acp⟩,r1,r2,r3⟩:=h9.vW (k:=1) (y:=b) (by rw [dU];rfl);have hh3:=pU (T:=T) hb cZ r1;have a3:A3.length=8:=ak;rw [a3] at hh3;unfold cH at hh3;have acr:=xZ.ne (T:=T) r1 cZ;simp (maxSteps:=4000000) only [W,seval,gz,xw,oE,gy,qd,g3,jI,Mi,RJ,x7,i1];refine bK (fun Z=>mm _ _) ?_;simp (maxSteps:=4000000) only [W,seval,gz,xw,qd,cH];refine ⟨g1,iO acr hh3 ?_⟩;rintro v _ ⟨B3,rfl,GS,rfl⟩;have SG:=GS.2.1;rw [qd] at SG;have e5:=e3.step (r2 _ _ GS.1);have k1:=(GS.1.2.1 j ak acp);have k3:=h9.yD (r2 _ _ GS.1) (i:=N+1) ak ak;rw [g3] at k3;have hN6:N+1 < B3.length:=ak;have e4:∀ Z,iC j lo hi B.length B (B3.set (N+1) Z):=fun Z=>e5.qI ak;have g4:∀ Z,(B3.set (N+1) Z)[N+1]? = some Z:=fun Z=>aC hN6;have g6:∀ Z,(B3.set (N+1) Z)[j]? = B3[j]?:=fun Z=>aj ak;have k5:=k1.trans g1;refine ⟨⟨k5,trivial⟩,?_⟩;simp (maxSteps:=4000000) only [W,seval,gz,xw,SG,k3,jI];refine ⟨(g6 _).trans k5,(g6 _).trans k5,?_⟩;refine az.go 20 ?_;simp only [W,seval,gz,SG];refine dx gz (bT (e4 _) ?_) (h1:=by simp only [W,seval,SG,g4];exact rfl);cases hw3:dz (bP E b cZ) cZ with
   | none=>exact ⟨_,rfl,.none (e4 _) rfl,cZ,rfl⟩
   | some u =>
    rw [hw3] at GS;have hA:=r3 B3 u GS;rw [dU,lH] at hA;exact ⟨_,rfl,hA.fin (e4 _) nZ (fun i hi=>aj ak) fun u hu=>(ag hu).symm,rfl⟩
theorem RR {x a b:bh} (CX:sX x.text=false) (By:shift x.text=true) (hk:x.kids=[a,b]) (ha:kn E res a) (hb:kn E res b) (want:bJ) (h:ic B n c s f w E res j lo hi A C kv x):cy prog bI 167 [.ptr c 0,.ptr j A.length,cH want] ⟨B,T⟩ (ug ((vh (bP E a) (bP E b) (kL a) x.text want).map fun r=>(bg x [r.1,r.2.1],r.2.2)) j lo hi A C kv B T):=by
 obtain ⟨N,hn⟩:=aV B.length;obtain ⟨al,jB⟩:=aV A.length;obtain ⟨X,hX⟩:=aV (A++ef x kv++C);obtain ⟨x0,x1,x2,x6,x7,x8,x9,sC,uh⟩:=jd hX.symm jB;have bW:=h.row;rw [hX] at bW;have nZ:=h.nl;have hj:j < N:=by have:=h.nb;omega
 have Mi:j < N+2:=ak;have jI:N+1 < N+2:=ak;obtain ⟨j1,m,cap,rfl,uV⟩:=h.bx (by rw [hk];simp);have i0:(0:Int) < (m:Int):=by rw [uV,hk];simp
 have i1:(1:Int) < (m:Int):=by rw [uV,hk];simp
 obtain ⟨lG,kD,A1,C1,uL,a1,⟨zw,CA⟩,k1,k2,k3⟩:=(h.more (J:=[jr want,vn])).vW (k:=0) (y:=a) (by rw [hk];rfl);rw [gk] at a1;unfold vh;rw [CX,aq bH,By,aD rfl]
 have e5:(decide (x.text=[60,60])=true∧decide (x.text=[60,60])=true)∨(decide (x.text=[60,60])=false∧decide (x.text=[62,62])=true):=by
  unfold shift at By;rw [lY,lY] at By;cases hd:decide (x.text=[60,60])
  ·rw [hd,eN] at By;exact .inr ⟨rfl,By⟩
  ·exact .inl ⟨rfl,rfl⟩
 unfold sX at CX;rw [lY,lY,fA] at CX;obtain ⟨e1,e2⟩:=CX;rw [jB];unfold jr vn at *;unfold cH;rcases e5 with ⟨e5,e6⟩ | ⟨e5,e6⟩
 all_goals
  refine gL gz fun cG=>?_;simp only [fH] at cG;simp only [W,seval,gz,hn,hj,bW,x1,e1,e2,e5,e6];refine dj 12 [11] [j,N] ?_;simp (maxSteps:=4000000) only [W,seval,gz,xw,oE,hn,hj,bW,x7,i0];refine RM ha k1 want a1 ?_;intro B1 t b0 hd eW tV p8;simp only [av,aP,aW,hn,bf,Nat.reduceAdd] at eW;have e3:iC j lo hi B.length B B1:=iC.new.step (k2 _ _ hd.1);have f1:=h.yD (k2 _ _ hd.1) (i:=N+1) ak (by simp [hn]);rw [gS hn] at f1;simp only [bX,cu] at f1;have g1:B1[j]? = (B++[[V.d (.int .i64 want.kind),.d (.str want.name),.d (.sl (want.elem.map eH))],[V.d (.int .i64 0),.d (.str []),.sl [] .full]])[j]?:=hd.1.2.1 j fk CA;have g2:=h.yD (k2 _ _ hd.1) (i:=N) ak (by simp [hn]);have Ll:B1[j]? = some X:=by rw [g1,bt ak];exact bW
  have lW:N+1 < B1.length:=ak;refine ⟨⟨g1,g2,trivial⟩,?_⟩;unfold cH;simp (maxSteps:=4000000) only [W,seval,gz,xw,eW];refine ⟨⟨g1,g2⟩,?_⟩;cases b0
  ·have hr:=p8 rfl;rw [hr];have e4:∀ Z J,iC j lo hi B.length B (B1.set (N+1) Z++J):=fun Z J=>(e3.qI ak).app;have g4:∀ Z,(B1.set (N+1) Z)[N+1]? = some Z:=fun Z=>aC lW;refine az.go 20 ?_;simp only [W,seval,gz,eW];refine dj 17 [] [N+2] ?_;simp (maxSteps:=4000000) only [W,seval,gz,xw,eW,f1,jI];refine az.go 20 ?_;simp only [W,seval,gz,eW];refine dx gz (bT (e4 _ _) ?_) (h1:=by simp only [W,seval,eW,jI,lW,g4];exact rfl);exact ⟨_,rfl,.none (e4 _ _) rfl,t,rfl⟩
  obtain ⟨y,hr⟩:=tV rfl;rw [hr] at hd ⊢;dsimp only;have uN:=k3 B1 y hd;rw [hk] at uN;cases U3:jz t.kind
  ·rw [aq bH];have e4:∀ Z J,iC j lo hi B.length B (B1.set (N+1) Z++J):=fun Z J=>(e3.qI ak).app;have g4:∀ Z,(B1.set (N+1) Z)[N+1]? = some Z:=fun Z=>aC lW;refine az.go 20 ?_;simp only [W,seval,gz,eW];refine dj 17 [] [N+2] ?_;simp (maxSteps:=4000000) only [W,seval,gz,xw,eW,f1,jI];refine bK (fun Z=>mq t _ _) ?_;simp (maxSteps:=4000000) only [W,seval,gz,xw,eW,f1,jI,U3];refine az.go 20 ?_;simp only [W,seval,gz,eW];refine dx gz (bT (e4 _ _) ?_) (h1:=by simp only [W,seval,eW,jI,lW,g4];exact rfl);exact ⟨_,rfl,.none (e4 _ _) rfl,t,rfl⟩
  rw [aD rfl];obtain ⟨U0,U1,A2,C2,kv2,a2,⟨hj3,ajC⟩,q1,q2,q3⟩:=(uN.more (J:=[[V.d (.int .i64 t.kind),.d (.str t.name),.d (.sl (t.elem.map eH))]])).vW (k:=1) (y:=b) (by rw [dU];rfl);have hh:=pU (T:=T) hb SE q1;have a2:A2.length=8:=ak;rw [a2] at hh;unfold cH at hh;refine az.go 20 ?_;simp only [W,seval,gz,eW];refine dj 17 [] [N+2,j] ?_;simp (maxSteps:=4000000) only [W,seval,gz,xw,eW,f1,jI,Mi,Ll];refine bK (fun Z=>mq t _ _) ?_;simp (maxSteps:=4000000) only [W,seval,gz,xw,oE,eW,f1,jI,U3,Mi,Ll,x7,i1];refine bK (fun Z=>RG _ _) ?_;simp (maxSteps:=4000000) only [W,seval,gz,xw,eW,cH];refine iO (xZ.ne (T:=T) q1 SE) hh ?_;rintro v _ ⟨B2,rfl,kP,rfl⟩;have qd:=kP.2.1;simp only [av,aP,aW,eW,bf,Nat.reduceAdd] at qd;have e4:iC j lo hi B.length B B2:=e3.app.step (q2 _ _ kP.1);have p1:=uN.yD (q2 _ _ kP.1) (i:=N+1) ak (by simp [eW]);rw [bt ak,f1] at p1;have p2:=uN.yD (q2 _ _ kP.1) (i:=N+2) ak (by simp [eW]);have p3:=kP.1.2.1 j fk ajC;have hN6:N+1 < B2.length:=ak;have uj:N+1 < N+3:=ak;have e6:∀ Z,iC j lo hi B.length B (B2.set (N+1) Z):=fun Z=>e4.qI ak;have g4:∀ Z,(B2.set (N+1) Z)[N+1]? = some Z:=fun Z=>aC hN6;have g5:∀ Z,(B2.set (N+1) Z)[N+2]? = B2[N+2]?:=fun Z=>aj ak;have g6:∀ Z,(B2.set (N+1) Z)[j]? = B2[j]?:=fun Z=>aj ak;refine ⟨⟨p2,p3,trivial⟩,?_⟩;simp (maxSteps:=4000000) only [W,seval,gz,xw,qd,p1,uj];refine ⟨⟨(g5 _).trans p2,(g6 _).trans p3⟩,⟨(g5 _).trans p2,(g6 _).trans p3⟩,?_⟩;refine az.go 20 ?_;simp only [W,seval,gz,qd];refine dx gz (bT (e6 _) ?_) (h1:=by simp only [W,seval,qd,g4];exact rfl);cases hw3:dz (bP E b SE) SE with
  | none=>exact ⟨_,rfl,.none (e6 _) rfl,t,rfl⟩
  | some u =>
   rw [hw3] at kP;have hA:=q3 B2 u kP;rw [dU,lH] at hA;exact ⟨_,rfl,hA.fin (e6 _) nZ (fun i hi=>aj ak) fun u hu=>(ag hu).symm,rfl⟩
end
def iR:=KB func135 123
section
variable {E:fm} {res:List bJ} {n c s f w:Nat} {B:bQ} {T:eg} {j lo hi:Nat} {A C:List V} {kv:V}
theorem ug.pass {x:bh} {p q:List V} {N:Nat} (hn:B.length=N) (h:ic B n c s f w E res j lo hi A C kv x) {r:Option (bh × bJ)} {v:V} {S':Mem} (ht:ug r j lo hi A C kv (B++[p,q]) T v S') :
 ∃ B1 t b0,v = .fZ [cH t,.d (.bool b0)]∧S' = ⟨B1,T⟩∧N+1 < B1.length∧B1[N+1]? = some q∧∀ Z,iC j lo hi B.length B (B1.set (N+1) Z)∧ug r j lo hi A C kv B T (.fZ [cH t,.d (.bool b0)]) ⟨(B1.set (N+1) Z).take B.length,T⟩:=by
 have nZ:=h.nl;obtain ⟨B1,rfl,hd,hv⟩:=ht;obtain ⟨t,b0,rfl,tV,p8⟩:=vl hv;have eW:=hd.2.1;simp only [av,aP,aW,hn,bf,Nat.reduceAdd] at eW;have e1:iC j lo hi B.length B B1:=iC.new.step hd.1;have f1:=h.yD hd.1 (i:=N+1) ak (by simp [hn]);rw [gS hn] at f1;simp only [bX,cu] at f1;have e2:∀ Z,iC j lo hi B.length B (B1.set (N+1) Z):=fun Z=>e1.qI ak;refine ⟨B1,t,b0,rfl,rfl,ak,f1,fun Z=>⟨e2 Z,_,rfl,?_,hv⟩⟩;cases r with
 | none=>exact .none (e2 Z) rfl
 | some u=>exact (h.more.done hd).fin (e2 Z) nZ (fun i hi=>aj ak) fun z hz=>(ag hz).symm
theorem YD {x:bh} (hx:x.kind=3) (want:bJ) (h:ic B n c s f w E res j lo hi A C kv x):cy prog bI 135 [.ptr c 0,.ptr j A.length,cH want] ⟨B,T⟩ (ug (some (x,cZ)) j lo hi A C kv B T):=by
 obtain ⟨N,hn⟩:=aV B.length;obtain ⟨al,jB⟩:=aV A.length;obtain ⟨X,hX⟩:=aV (A++ef x kv++C);obtain ⟨x0,x1,x2,x6,x7,x8,x9,sC,uh⟩:=jd hX.symm jB;have bW:=h.row;rw [hX] at bW;rw [hx] at x0;have nZ:=h.nl;have hj:j < N:=by have:=h.nb;omega
 have en:∀ J,iC j lo hi B.length B (B++J):=fun _=>iC.new;rw [jB];unfold cH;refine gL iR fun cG=>?_;simp only [fH] at cG;simp only [W,seval,iR,hn,hj,bW,x0,Int.reduceEq,cR];refine aX (mm _ _) ?_;unfold cH;refine goN ?_;simp only [W,seval,iR,hn];refine dx iR (bT (en _) ?_);exact ⟨_,rfl,h.fin (en _) nZ (fun i hi=>bt ak) fun z hz=>(ag hz).symm,rfl⟩
theorem YE {x:bh} (hx:x.kind=1) (want:bJ) (h:ic B n c s f w E res j lo hi A C kv x):cy prog bI 135 [.ptr c 0,.ptr j A.length,cH want] ⟨B,T⟩ (ug ((kK ep.name E.vs x.text).map fun p=>(x,p.type)) j lo hi A C kv B T):=by
 obtain ⟨N,hn⟩:=aV B.length;obtain ⟨al,jB⟩:=aV A.length;obtain ⟨X,hX⟩:=aV (A++ef x kv++C);obtain ⟨x0,x1,x2,x6,x7,x8,x9,sC,uh⟩:=jd hX.symm jB;have bW:=h.row;rw [hX] at bW;rw [hx] at x0;have nZ:=h.nl;have hj:j < N:=by have:=h.nb;omega
 have en:∀ J,iC j lo hi B.length B (B++J):=fun _=>iC.new;have vN:c < N:=by rw [← hn];exact h.k.lt.1
 have Tt:w < N:=by rw [← hn];exact h.k.lt.2.2.2
 have hwb:=h.k.w;have hb:=h.k.c;unfold FU at hb;have hs:=h.k.nr x.text true;rw [jB];unfold cH;cases h1:kK ep.name E.vs x.text<;>rw [h1] at hs<;>simp only [Go.Ab.nr,cJ,jh,gj,tyZ,cH] at hs
 ·refine gL iR fun cG=>?_;simp only [fH] at cG;simp only [W,seval,iR,hn,hj,bW,x0,Int.reduceEq,cR,jA];refine dj 13 [] [c,w,j] ?_;simp (maxSteps:=4000000) only [W,seval,iR,xw,vZ,hn,vN,hb,hs,Tt,hwb,hj,bW,x1];refine goN ?_;simp only [W,seval,iR,hn];refine dx iR (bT (en _) ?_);exact ⟨_,rfl,.none (en _) rfl,eF,rfl⟩
 ·refine gL iR fun cG=>?_;simp only [fH] at cG;simp only [W,seval,iR,hn,hj,bW,x0,Int.reduceEq,cR,jA];refine dj 13 [] [c,w,j] ?_;simp (maxSteps:=4000000) only [W,seval,iR,xw,vZ,hn,vN,hb,hs,Tt,hwb,hj,bW,x1];refine goN ?_;simp only [W,seval,iR,hn];refine dx iR (bT (en _) ?_);exact ⟨_,rfl,h.fin (en _) nZ (fun i hi=>bt ak) fun z hz=>(ag hz).symm,rfl⟩
theorem YF {x:bh} (hx:x.kind=6) {r:Option (bh × bJ)} (want:bJ) (h:ic B n c s f w E res j lo hi A C kv x) (hf:∀ p q,cy prog bI 167 [.ptr c 0,.ptr j A.length,cH want] ⟨B++[p,q],T⟩ (ug r j lo hi A C kv (B++[p,q]) T)):cy prog bI 135 [.ptr c 0,.ptr j A.length,cH want] ⟨B,T⟩ (ug r j lo hi A C kv B T):=by
 obtain ⟨N,hn⟩:=aV B.length;obtain ⟨al,jB⟩:=aV A.length;obtain ⟨X,hX⟩:=aV (A++ef x kv++C);obtain ⟨x0,x1,x2,x6,x7,x8,x9,sC,uh⟩:=jd hX.symm jB;have bW:=h.row;rw [hX] at bW;rw [hx] at x0;have hj:j < N:=by have:=h.nb;have:=h.nl;omega
 rw [jB] at hf ⊢;unfold cH at hf ⊢;refine gL iR fun cG=>?_;simp only [fH] at cG;simp only [W,seval,iR,hn,hj,bW,x0,Int.reduceEq,cR,jA];refine cz (hf _ _) ?_;intro v S' hv;obtain ⟨B1,t,b0,rfl,rfl,hl,f1,ee⟩:=ug.pass hn h hv;unfold cH at ee ⊢;refine goN ?_;simp only [W,seval,iR,hl,f1];refine dx iR (bT (ee _).1 ?_) (h1:=by simp only [W,seval,hl];exact rfl);exact (ee _).2
theorem Dm {x:bh} (hx:x.kind=10∨x.kind=11∨x.kind=12∨x.kind=13) {r:Option (bh × bJ)} (want:bJ) (h:ic B n c s f w E res j lo hi A C kv x) (hf:∀ p q,cy prog bI 169 [.ptr c 0,.ptr j A.length,cH want] ⟨B++[p,q],T⟩ (ug r j lo hi A C kv (B++[p,q]) T)):cy prog bI 135 [.ptr c 0,.ptr j A.length,cH want] ⟨B,T⟩ (ug r j lo hi A C kv B T):=by
 obtain ⟨N,hn⟩:=aV B.length;obtain ⟨al,jB⟩:=aV A.length;obtain ⟨X,hX⟩:=aV (A++ef x kv++C);obtain ⟨x0,x1,x2,x6,x7,x8,x9,sC,uh⟩:=jd hX.symm jB;have bW:=h.row;rw [hX] at bW;have hj:j < N:=by have:=h.nb;have:=h.nl;omega
 rw [jB] at hf ⊢;unfold cH at hf ⊢;rcases hx with hx | hx | hx | hx
 all_goals
  rw [hx] at x0;refine gL iR fun cG=>?_;simp only [fH] at cG;simp only [W,seval,iR,hn,hj,bW,x0,Int.reduceEq,cR,jA];refine cz (hf _ _) ?_;intro v S' hv;obtain ⟨B1,t,b0,rfl,rfl,hl,f1,ee⟩:=ug.pass hn h hv;unfold cH at ee ⊢;refine goN ?_;simp only [W,seval,iR,hl,f1];refine dx iR (bT (ee _).1 ?_) (h1:=by simp only [W,seval,hl];exact rfl);exact (ee _).2
theorem PE {x:bh} (hx:x.kind=14∨x.kind=15) {r:Option (bh × bJ)} (want:bJ) (h:ic B n c s f w E res j lo hi A C kv x) (hf:∀ p q,cy prog bI 170 [.ptr c 0,.ptr j A.length] ⟨B++[p,q],T⟩ (ug r j lo hi A C kv (B++[p,q]) T)):cy prog bI 135 [.ptr c 0,.ptr j A.length,cH want] ⟨B,T⟩ (ug r j lo hi A C kv B T):=by
 obtain ⟨N,hn⟩:=aV B.length;obtain ⟨al,jB⟩:=aV A.length;obtain ⟨X,hX⟩:=aV (A++ef x kv++C);obtain ⟨x0,x1,x2,x6,x7,x8,x9,sC,uh⟩:=jd hX.symm jB;have bW:=h.row;rw [hX] at bW;have hj:j < N:=by have:=h.nb;have:=h.nl;omega
 rw [jB] at hf ⊢;unfold cH;rcases hx with hx | hx
 all_goals
  rw [hx] at x0;refine gL iR fun cG=>?_;simp only [fH] at cG;simp only [W,seval,iR,hn,hj,bW,x0,Int.reduceEq,cR,jA];refine cz (hf _ _) ?_;intro v S' hv;obtain ⟨B1,t,b0,rfl,rfl,hl,f1,ee⟩:=ug.pass hn h hv;unfold cH at ee ⊢;refine goN ?_;simp only [W,seval,iR,hl,f1];refine dx iR (bT (ee _).1 ?_) (h1:=by simp only [W,seval,hl];exact rfl);exact (ee _).2
theorem AJ {x:bh} (hx:x.kind=2∨x.kind=4∨x.kind=5∨x.kind=8) (Bl:x.kind=5→x.kids ≠ []) {r:Option (bh × bJ)} (want:bJ) (h:ic B n c s f w E res j lo hi A C kv x) (hf:∀ p q,if kL x=true then cy prog bI 172 [.ptr j A.length,cH want] ⟨B++[p,q],T⟩ (ug r j lo hi A C kv (B++[p,q]) T) else cy prog bI 173 [.ptr c 0,.ptr j A.length,cH want] ⟨B++[p,q],T⟩ (ug r j lo hi A C kv (B++[p,q]) T)):cy prog bI 135 [.ptr c 0,.ptr j A.length,cH want] ⟨B,T⟩ (ug r j lo hi A C kv B T):=by
 obtain ⟨N,hn⟩:=aV B.length;obtain ⟨al,jB⟩:=aV A.length;obtain ⟨X,hX⟩:=aV (A++ef x kv++C);obtain ⟨x0,x1,x2,x6,x7,x8,x9,sC,uh⟩:=jd hX.symm jB;have bW:=h.row;rw [hX] at bW;have hj:j < N:=by have:=h.nb;have:=h.nl;omega
 rw [jB] at hf ⊢;unfold cH at hf ⊢;have Cy:=fun J=>NW Bl (h.more (J:=J)).own T;rcases hx with hx | hx | hx | hx
 all_goals
  rw [hx] at x0;refine gL iR fun cG=>?_;simp only [fH] at cG;simp only [W,seval,iR,hn,hj,bW,x0,x8,x9,Int.reduceEq,cR,jA];refine rK (Cy _) ?_;cases Lm:kL x
  ·simp only [Lm,cS,iF] at hf;refine goN ?_;simp only [W,seval,iR,hn];refine cz (hf _ _) ?_;intro v S' hv;obtain ⟨B1,t,b0,rfl,rfl,hl,f1,ee⟩:=ug.pass hn h hv;unfold cH at ee ⊢;refine goN ?_;simp only [W,seval,iR,hl,f1];refine dx iR (bT (ee _).1 ?_) (h1:=by simp only [W,seval,hl];exact rfl);exact (ee _).2
  ·simp only [Lm,gj] at hf;refine goN ?_;simp only [W,seval,iR,hn];refine cz (hf _ _) ?_;intro v S' hv;obtain ⟨B1,t,b0,rfl,rfl,hl,f1,ee⟩:=ug.pass hn h hv;unfold cH at ee ⊢;refine goN ?_;simp only [W,seval,iR,hl,f1];refine dx iR (bT (ee _).1 ?_) (h1:=by simp only [W,seval,hl];exact rfl);exact (ee _).2
end
def eY:=KB func145 135
def eE:=KB func150 95
def mI:=KB func149 74
def dK:=KB func123 263
theorem mJ {r:Option (bh × bJ)} {v:V} (h:fF r v):∃ y t b,v = .fZ [fK y,cH t,.d (.bool b)]∧r=if b=true then some (y,t) else none:=by
 cases r with
 | none=>obtain ⟨y,t,rfl⟩:=h;exact ⟨y,t,false,rfl,rfl⟩
 | some p=>obtain rfl:v=_:=h;exact ⟨p.1,p.2,true,rfl,rfl⟩
theorem fF.of {r:Option (bh × bJ)} {v:V} (y:bh) (t:bJ) (b:Bool) (hv:v = .fZ [fK y,cH t,.d (.bool b)]) (h:r=if b=true then some (y,t) else none):fF r v:=by
 subst h hv;cases b
 ·exact ⟨y,t,rfl⟩
 ·rfl
theorem acu (E:fm) (a b:bh) (t u:bJ):dI E [a,b] [t,u]=match dz (bP E a t) t,dz (bP E b u) u with
 | some a,some b=>some [a,b]
 | _,_=>none:=by
 unfold dI;unfold dI;unfold dI;cases dz (bP E a t) t<;>cases dz (bP E b u) u<;>rfl
theorem N2 (E:fm) (a:bh) (t:bJ):dI E [a] [t]=(dz (bP E a t) t).map fun a=>[a]:=by
 unfold dI;unfold dI;cases dz (bP E a t) t<;>rfl
theorem BT {r:Option bh} {v:V} (h:Yr r v):∃ y b,v = .fZ [fK y,.d (.bool b)]∧r=if b=true then some y else none:=by
 cases r with
 | none=>obtain ⟨y,rfl⟩:=h;exact ⟨y,false,rfl,rfl⟩
 | some p=>obtain rfl:v=_:=h;exact ⟨p,true,rfl,rfl⟩
theorem vt {r:Option (List bh)} {v:V} (h:alR r v):∃ l b,v = .fZ [.d (.sl (l.map eL)),.d (.bool b)]∧r=if b=true then some l else none:=by
 cases r with
 | none=>obtain rfl:v=_:=h;exact ⟨[],false,rfl,rfl⟩
 | some p=>obtain rfl:v=_:=h;exact ⟨p,true,rfl,rfl⟩
theorem U4 {r:Option (bh × List bJ)} {v:V} (h:caR r v):∃ (y:bh) (ts:List bJ) (b:Bool),v = .fZ [fK y,.d (.sl (ts.map eH)),.d (.bool b)]∧r=if b=true then some (y,ts) else none:=by
 cases r with
 | none=>obtain ⟨y,ts,rfl⟩:=h;exact ⟨y,ts,false,rfl,rfl⟩
 | some p=>obtain rfl:v=_:=h;exact ⟨p.1,p.2,true,rfl,rfl⟩
theorem Dq {r:Option bJ} {v:V} (h:Ew r v):∃ t b,v = .fZ [cH t,.d (.bool b)]∧r=if b=true then some t else none:=by
 cases r with
 | none=>obtain rfl:v=_:=h;exact ⟨eF,false,rfl,rfl⟩
 | some p=>obtain rfl:v=_:=h;exact ⟨p,true,rfl,rfl⟩
theorem Ew.ne (r:Option bJ):∃ v,Ew r v:=by
 cases r<;>exact ⟨_,rfl⟩
theorem PG (t:List UInt8) (h:0 < jO t):(sX t=true∧jO t≤2)∨(sX t=false∧shift t=false∧jO t=3∧(alike t=true∨alike t=false∧order t=true))∨(sX t=false∧shift t=true∧3 < jO t)∨(sX t=false∧shift t=false∧alike t=false∧order t=false∧3 < jO t):=by
 rcases IG t with ⟨x,hx,rfl⟩ | h'
 ·simp only [yA,bB,aT,sK] at hx;rcases hx with rfl | rfl | rfl | rfl | rfl | rfl | rfl | rfl | rfl | rfl | rfl | rfl | rfl | rfl | rfl | rfl | rfl | rfl
  all_goals decide
 ·exfalso
  have:jO t=0:=by
   unfold jO
   rw [List.find?_eq_none.2 fun x hx e=>by
    have h1:=h' x hx;rw [cB] at h1;exact h1 (eq_of_beq e).symm]
   rfl
  omega
theorem xL {E:fm} {res:List bJ} {c:Nat} {B:bQ} {T:eg} {l:List bh} (hl:∀ x∈l,kM E res x) (hlen:l.length≤60000) (ts:List bJ) (tk:Tok) (hE:rG B c E res):cy prog bI 126 [.ptr c 0,.d (.sl (l.map eL)),.sl (ts.map eH) tk] ⟨B,T⟩ fun v S=>alR (dI E l ts) v∧S=⟨B,T⟩ :=
 cy.less (fq.same (fq.same (fq.sl .nil))) (IX hl hlen ts hE)
section
variable {E:fm} {res:List bJ} {c:Nat} {B:bQ} {T:eg}
theorem YG {x a b:bh} (hx:x.kids=[a,b]) (hr:0 < jO x.text) (ha:kM E res a) (hb:kM E res b) (Bl:a.kind=5→a.kids ≠ []) (want:bJ) (hE:rG B c E res):cy prog bI 145 [.ptr c 0,fK x,cH want] ⟨B,T⟩ fun v S=>fF ((vh (bP E a) (bP E b) (kL a) x.text want).map fun r=>(bg x [r.1,r.2.1],r.2.2)) v∧S=⟨B,T⟩:=by
 obtain ⟨N,hn⟩:=aV B.length;have hi:c < N:=by have:=hE.1;omega
 have ur:(x.kids.map eL)[0]? = some (eL a):=by rw [hx];rfl
 have X6:(x.kids.map eL)[1]? = some (eL b):=by rw [hx];rfl
 have hlen:x.kids.length=2:=by rw [hx];rfl
 rw [dF] at ur X6;have sg:=fun (l:List bh) tk (B:bQ) T=>s8 x l tk B T;have hkA:=fun (l:List bh) (B:bQ) T=>tL x l B T;have hpV:=fun (want:bJ) {B:bQ} {T} (hE:rG B c E res)=>@UX E res c B T x a b hx ha hb Bl want hE;have j4:=fun {B:bQ} {T} (hE:rG B c E res)=>@xL E res c B T x.kids (by rw [hx];simp;exact ⟨ha,hb⟩) (by rw [hx];simp) [cZ,cZ] .full hE;have hp0:=fun {B:bQ} {T} (hE:rG B c E res)=>cy.GL (m8.cons (.refl _) (m8.cons (.refl _) (m8.cons (xK 0 .full) .nil))) (@hpV eF B T hE);have hb6:=fun {B:bQ} {T} (hE:rG B c E res)=>cy.GL (m8.cons (.refl _) (m8.cons (.refl _) (m8.cons (xK 6 .full) .nil))) (@oO E res c B T b hb SE hE);unfold fK at sg hkA hpV hp0 hb6 ⊢;unfold cH at hpV ⊢;unfold vh;rcases PG x.text hr with ⟨h1,h2⟩ | ⟨h1,h2,h3,h4⟩ | ⟨h1,h2,h3⟩ | ⟨h1,h2,h3,h4,h5⟩
 ·have e2:=ah h2;rw [aD h1];refine gL eY fun cG=>?_;simp only [fH] at cG;simp only [W,seval,eY,hn];refine aX (wU x.text _ _) ?_;refine goN ?_;simp only [W,seval,eY,hn,e2,bL,bC,Dl,Nat.reduceMul];refine cz (j4 hE.more) ?_;rintro v _ ⟨hv,rfl⟩;obtain ⟨l,q,rfl,hw⟩:=vt hv;refine goN ?_;simp only [W,seval,eY,hn];refine dj 6 [] [N,N+4] ?_;simp (maxSteps:=4000000) only [W,seval,eY,xw,hn];refine bK (fun Z=>hkA l _ _) ?_;simp (maxSteps:=4000000) only [W,seval,eY,xw,hn,jR];refine goN ?_;simp only [W,seval,eY,hn];refine eR eY (Left.box ?_);refine ⟨?_,rfl⟩;refine fF.of (bg x l) cZ q rfl ?_;rw [hx,acu] at hw
  revert hw
  cases dz (bP E a cZ) cZ<;>cases dz (bP E b cZ) cZ<;>cases q<;>intro hw<;>first | (simp at hw;done) | rfl | skip
  rw [show l=_ from (ag hw).symm];rfl
 ·have e2:decide (jO x.text≤2)=false:=af ak;have e3:=ah h3;rw [aq (by rw [h1];decide),aq (by rw [h2];decide)]
  have hex:∀ (y:bh) (t:bJ) (q:Bool),(pR (bP E a) (bP E b) (kL a) eF).map (fun r=>(bg x [r.1,r.2.1],r.2.2))=(if q=true then some (y,t) else none)→∀ p:Bool,(q=true→p=(jz t.kind || decide (t.kind=1) && alike x.text))→(q=false→p=false)→Option.map (fun r=>(bg x [r.fst,r.snd.fst],r.snd.snd)) (if alike x.text=true then (match pR (bP E a) (bP E b) (kL a) eF with
   | some (a,b,t)=>if jz t.kind=true∨t.kind=1 then some (a,b,cZ) else none
   | none=>none)
   else if order x.text=true then (match pR (bP E a) (bP E b) (kL a) eF with
    | some (a,b,t)=>if jz t.kind=true then some (a,b,cZ) else none
    | none=>none)
   else (match pR (bP E a) (bP E b) (kL a) want with
    | some (a,b,t)=>if jz t.kind=true then some (a,b,t) else none
    | none=>none))=if p=true then some (y,cZ) else none:=by
   intro y t q hw p hp hp';cases FQ:pR (bP E a) (bP E b) (kL a) eF with
   | none =>
    rw [FQ] at hw;cases q
    ·rw [hp' rfl];rcases h4 with h4 | ⟨h4,h5⟩
     ·rw [aD h4];rfl
     ·rw [aq (by rw [h4];decide),aD h5];rfl
    ·cases hw
   | some r =>
    obtain ⟨ya,yb,u⟩:=r;rw [FQ] at hw;cases q
    ·cases hw
    ·obtain ⟨rfl,rfl⟩:=aR (ag hw);rw [hp rfl];rcases h4 with h4 | ⟨h4,h5⟩
     ·rw [aD h4,h4];dsimp only;cases jz u.kind
      ·by_cases h1:u.kind=1<;>simp [h1]
      ·simp
     ·rw [aq (by rw [h4];decide),aD h5,h4];dsimp only;cases jz u.kind<;>simp
  refine gL eY fun cG=>?_;simp only [fH] at cG;simp only [W,seval,eY,hn];refine aX (wU x.text _ _) ?_;refine goN ?_;simp only [W,seval,eY,hn,e2,e3];refine cz (hp0 hE.more) ?_;rintro v _ ⟨hv,rfl⟩;obtain ⟨y,t,q,rfl,hw⟩:=mJ hv;have hex:=hex y t q hw;cases q
  ·refine goN ?_;simp only [W,seval,eY,hn,fK,cH];refine dj 24 [] [N+4,N+5,N+6,N] ?_;simp (maxSteps:=4000000) only [W,seval,eY,xw,hn];refine goN ?_;simp only [W,seval,eY,hn];refine eR eY (Left.box ?_);exact ⟨fF.of y cZ false rfl (hex false (fun h=>by cases h) fun _=>rfl),rfl⟩
  ·have qA:=fun {B} {T}=>sB t B T;unfold cH at qA;cases hk:jz t.kind
   ·rw [hk] at qA hex
    by_cases SH:t.kind=1
    ·have ek:=ah SH;rw [ek] at hex
     by_cases Cj:x.text=[61,61]
     ·have et:=ah Cj;have jB:alike x.text=true:=by unfold alike;rw [Cj];rfl
      refine goN ?_;simp only [W,seval,eY,hn,fK,cH];refine dj 24 [] [N+4,N+5,N+6,N] ?_;simp (maxSteps:=4000000) only [W,seval,eY,xw,hn];refine bK (fun Z=>qA) ?_;simp (maxSteps:=4000000) only [W,seval,eY,xw,hn,ek,et];refine goN ?_;simp only [W,seval,eY,hn];refine eR eY (Left.box ?_);exact ⟨fF.of y cZ true rfl (hex true (fun _=>by rw [jB];rfl) fun h=>by cases h),rfl⟩
     ·have et:=af Cj
      by_cases zx:x.text=[33,61]
      ·have et2:=ah zx;have jB:alike x.text=true:=by unfold alike;rw [zx];rfl
       refine goN ?_;simp only [W,seval,eY,hn,fK,cH];refine dj 24 [] [N+4,N+5,N+6,N] ?_;simp (maxSteps:=4000000) only [W,seval,eY,xw,hn];refine bK (fun Z=>qA) ?_;simp (maxSteps:=4000000) only [W,seval,eY,xw,hn,ek,et,et2];refine goN ?_;simp only [W,seval,eY,hn];refine eR eY (Left.box ?_);exact ⟨fF.of y cZ true rfl (hex true (fun _=>by rw [jB];rfl) fun h=>by cases h),rfl⟩
      ·have et2:=af zx;have jB:alike x.text=false:=by unfold alike;rw [beq_eq_false_iff_ne.2 Cj,beq_eq_false_iff_ne.2 zx];rfl
       refine goN ?_;simp only [W,seval,eY,hn,fK,cH];refine dj 24 [] [N+4,N+5,N+6,N] ?_;simp (maxSteps:=4000000) only [W,seval,eY,xw,hn];refine bK (fun Z=>qA) ?_;simp (maxSteps:=4000000) only [W,seval,eY,xw,hn,ek,et,et2];refine goN ?_;simp only [W,seval,eY,hn];refine eR eY (Left.box ?_);exact ⟨fF.of y cZ false rfl (hex false (fun _=>by rw [jB];rfl) fun h=>by cases h),rfl⟩
    ·have ek:=af SH;rw [ek] at hex;refine goN ?_;simp only [W,seval,eY,hn,fK,cH];refine dj 24 [] [N+4,N+5,N+6,N] ?_;simp (maxSteps:=4000000) only [W,seval,eY,xw,hn];refine bK (fun Z=>qA) ?_;simp (maxSteps:=4000000) only [W,seval,eY,xw,hn,ek];refine goN ?_;simp only [W,seval,eY,hn];refine eR eY (Left.box ?_);exact ⟨fF.of y cZ false rfl (hex false (fun _=>by rw [bA];rfl) fun h=>by cases h),rfl⟩
   ·rw [hk] at qA hex;refine goN ?_;simp only [W,seval,eY,hn,fK,cH];refine dj 24 [] [N+4,N+5,N+6,N] ?_;simp (maxSteps:=4000000) only [W,seval,eY,xw,hn];refine bK (fun Z=>qA) ?_;simp (maxSteps:=4000000) only [W,seval,eY,xw,hn];refine goN ?_;simp only [W,seval,eY,hn];refine eR eY (Left.box ?_);exact ⟨fF.of y cZ true rfl (hex true (fun _=>by rw [gq]) fun h=>by cases h),rfl⟩
 ·have e2:decide (jO x.text≤2)=false:=af ak;have e3:decide (jO x.text=3)=false:=af ak
  have By:(x.text=[60,60]∧decide (x.text=[60,60])=true)∨(decide (x.text=[60,60])=false∧decide (x.text=[62,62])=true):=by
   unfold shift at h2
   by_cases e:x.text=[60,60]
   ·exact .inl ⟨e,ah e⟩
   ·rw [cB.2 e,eN] at h2;exact .inr ⟨af e,ah (iK.1 h2)⟩
  rw [aq (by rw [h1];decide),aD h2]
  have hex:∀ (y:bh) (t:bJ) (q:Bool) (z:bh) (g:Bool),bP E a want=(if q=true then some (y,t) else none)→dz (bP E b SE) SE=(if g=true then some z else none)→∀ p:Bool,p=(q && g && jz t.kind)→Option.map (fun r=>(bg x [r.fst,r.snd.fst],r.snd.snd)) (match bP E a want with
   | some (a,t)=>if jz t.kind=true then (dz (bP E b SE) SE).map fun b=>(a,b,t) else none
   | none=>none)=if p=true then some (bg x [y,z],t) else none:=by
   rintro y t q z g Bm JC p rfl;rw [Bm,JC];cases q<;>cases g<;>cases hk:jz t.kind<;>simp [hk]
  refine gL eY fun cG=>?_;simp only [fH] at cG;simp only [W,seval,eY,hn];refine aX (wU x.text _ _) ?_;have qA:=fun (t:bJ) {B} {T}=>sB t B T;unfold cH at qA;rcases By with ⟨ht,hs⟩ | ⟨hs,hs'⟩
  ·refine goN ?_;simp only [W,seval,eY,hn,e2,e3,hs];refine dj 13 [11,12] [N,N+1] ?_;simp (maxSteps:=4000000) only [W,seval,eY,xw,hn,ur,hlen];refine iW (fF.ne _) (fun Z=>ha want c _ _ (rG.more (J:=Z) (rG.more hE))) ?_;intro v hv;obtain ⟨y,t,q,rfl,hw⟩:=mJ hv;have hex:=hex y t q;simp (maxSteps:=4000000) only [W,seval,eY,xw,hn,fK,cH,show N+5+1=N+6 from rfl];refine ⟨?_,?_⟩
   all_goals
    refine goN ?_;simp only [W,seval,eY,hn,X6,hlen];refine cz (hb6 hE.more) ?_;rintro v _ ⟨hv,rfl⟩;obtain ⟨z,g,rfl,JC⟩:=BT hv;have hex:=hex z g hw JC;cases q
    ·refine goN ?_;simp only [W,seval,eY,hn,fK,cH];refine dj 16 [] [N,N+5,N+6,N+7] ?_;simp (maxSteps:=4000000) only [W,seval,eY,xw,hn,bL,bC,Nat.reduceMul,mw];refine bK (fun Z=>sg [y,z] .full _ _) ?_;simp (maxSteps:=4000000) only [W,seval,eY,xw,hn];refine goN ?_;simp only [W,seval,eY,hn];refine eR eY (Left.box ?_);exact ⟨fF.of (bg x [y,z]) t false rfl (hex false rfl),rfl⟩
    cases g
    ·refine goN ?_;simp only [W,seval,eY,hn,fK,cH];refine dj 16 [] [N,N+5,N+6,N+7] ?_;simp (maxSteps:=4000000) only [W,seval,eY,xw,hn,bL,bC,Nat.reduceMul,mw];refine bK (fun Z=>sg [y,z] .full _ _) ?_;simp (maxSteps:=4000000) only [W,seval,eY,xw,hn];refine goN ?_;simp only [W,seval,eY,hn];refine eR eY (Left.box ?_);exact ⟨fF.of (bg x [y,z]) t false rfl (hex false rfl),rfl⟩
    ·refine goN ?_;simp only [W,seval,eY,hn,fK,cH];refine dj 16 [] [N,N+5,N+6,N+7] ?_;simp (maxSteps:=4000000) only [W,seval,eY,xw,hn,bL,bC,Nat.reduceMul,mw];refine bK (fun Z=>sg [y,z] .full _ _) ?_;simp (maxSteps:=4000000) only [W,seval,eY,xw,hn];refine bK (fun Z=>qA t) ?_;simp (maxSteps:=4000000) only [W,seval,eY,xw,hn];refine goN ?_;simp only [W,seval,eY,hn];refine eR eY (Left.box ?_);exact ⟨fF.of (bg x [y,z]) t (jz t.kind) rfl (hex (jz t.kind) rfl),rfl⟩
  ·refine goN ?_;simp only [W,seval,eY,hn,e2,e3,hs,hs'];refine dj 13 [11,12] [N,N+1] ?_;simp (maxSteps:=4000000) only [W,seval,eY,xw,hn,ur,hlen];refine iW (fF.ne _) (fun Z=>ha want c _ _ (rG.more (J:=Z) (rG.more hE))) ?_;intro v hv;obtain ⟨y,t,q,rfl,hw⟩:=mJ hv;have hex:=hex y t q;simp (maxSteps:=4000000) only [W,seval,eY,xw,hn,fK,cH,show N+5+1=N+6 from rfl];refine ⟨?_,?_⟩
   all_goals
    refine goN ?_;simp only [W,seval,eY,hn,X6,hlen];refine cz (hb6 hE.more) ?_;rintro v _ ⟨hv,rfl⟩;obtain ⟨z,g,rfl,JC⟩:=BT hv;have hex:=hex z g hw JC;cases q
    ·refine goN ?_;simp only [W,seval,eY,hn,fK,cH];refine dj 16 [] [N,N+5,N+6,N+7] ?_;simp (maxSteps:=4000000) only [W,seval,eY,xw,hn,bL,bC,Nat.reduceMul,mw];refine bK (fun Z=>sg [y,z] .full _ _) ?_;simp (maxSteps:=4000000) only [W,seval,eY,xw,hn];refine goN ?_;simp only [W,seval,eY,hn];refine eR eY (Left.box ?_);exact ⟨fF.of (bg x [y,z]) t false rfl (hex false rfl),rfl⟩
    cases g
    ·refine goN ?_;simp only [W,seval,eY,hn,fK,cH];refine dj 16 [] [N,N+5,N+6,N+7] ?_;simp (maxSteps:=4000000) only [W,seval,eY,xw,hn,bL,bC,Nat.reduceMul,mw];refine bK (fun Z=>sg [y,z] .full _ _) ?_;simp (maxSteps:=4000000) only [W,seval,eY,xw,hn];refine goN ?_;simp only [W,seval,eY,hn];refine eR eY (Left.box ?_);exact ⟨fF.of (bg x [y,z]) t false rfl (hex false rfl),rfl⟩
    ·refine goN ?_;simp only [W,seval,eY,hn,fK,cH];refine dj 16 [] [N,N+5,N+6,N+7] ?_;simp (maxSteps:=4000000) only [W,seval,eY,xw,hn,bL,bC,Nat.reduceMul,mw];refine bK (fun Z=>sg [y,z] .full _ _) ?_;simp (maxSteps:=4000000) only [W,seval,eY,xw,hn];refine bK (fun Z=>qA t) ?_;simp (maxSteps:=4000000) only [W,seval,eY,xw,hn];refine goN ?_;simp only [W,seval,eY,hn];refine eR eY (Left.box ?_);exact ⟨fF.of (bg x [y,z]) t (jz t.kind) rfl (hex (jz t.kind) rfl),rfl⟩
 ·have e2:decide (jO x.text≤2)=false:=af ak;have e3:decide (jO x.text=3)=false:=af ak;rw [aq (by rw [h1];decide),aq (by rw [h2];decide),aq (by rw [h3];decide),aq (by rw [h4];decide)];have Ta:decide (x.text=[60,60])=false:=af fun e=>by rw [e] at h2;exact absurd h2 bH
  have hs2:decide (x.text=[62,62])=false:=af fun e=>by rw [e] at h2;exact absurd h2 bH
  have hex:∀ (y:bh) (t:bJ) (q:Bool),(pR (bP E a) (bP E b) (kL a) want).map (fun r=>(bg x [r.1,r.2.1],r.2.2))=(if q=true then some (y,t) else none)→∀ p:Bool,p=(q && jz t.kind)→Option.map (fun r=>(bg x [r.fst,r.snd.fst],r.snd.snd)) (match pR (bP E a) (bP E b) (kL a) want with
   | some (a,b,t)=>if jz t.kind=true then some (a,b,t) else none
   | none=>none)=if p=true then some (y,t) else none:=by
   rintro y t q hw p rfl;cases FQ:pR (bP E a) (bP E b) (kL a) want with
   | none =>
    rw [FQ] at hw;cases q
    ·rfl
    ·cases hw
   | some r =>
    obtain ⟨ya,yb,u⟩:=r;rw [FQ] at hw;cases q
    ·cases hw
    ·obtain ⟨rfl,rfl⟩:=aR (ag hw);dsimp only;cases jz u.kind<;>rfl
  refine gL eY fun cG=>?_;simp only [fH] at cG;simp only [W,seval,eY,hn];refine aX (wU x.text _ _) ?_;refine goN ?_;simp only [W,seval,eY,hn,e2,e3,Ta,hs2];refine cz (hpV want hE.more) ?_;rintro v _ ⟨hv,rfl⟩;obtain ⟨y,t,q,rfl,hw⟩:=mJ hv;have hex:=hex y t q hw;have qA:=fun {B} {T}=>sB t B T;unfold cH at qA;cases q
  ·refine goN ?_;simp only [W,seval,eY,hn,fK,cH];refine dj 9 [] [N+5,N+6] ?_;simp (maxSteps:=4000000) only [W,seval,eY,xw,hn];refine goN ?_;simp only [W,seval,eY,hn];refine eR eY (Left.box ?_);exact ⟨fF.of y t false rfl (hex false rfl),rfl⟩
  ·refine goN ?_;simp only [W,seval,eY,hn,fK,cH];refine dj 9 [] [N+5,N+6] ?_;simp (maxSteps:=4000000) only [W,seval,eY,xw,hn];refine bK (fun Z=>qA) ?_;simp (maxSteps:=4000000) only [W,seval,eY,xw,hn];refine goN ?_;simp only [W,seval,eY,hn];refine eR eY (Left.box ?_);exact ⟨fF.of y t (jz t.kind) rfl (hex _ rfl),rfl⟩
end
end Go.Proofs.YtnfnbjjnjjdjdaaGreatDoor
