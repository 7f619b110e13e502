/- Whatever the program, gotype.Check and the document answer alike. Part 5 of 7 of the proof. -/
import Derived.Test.YtnfnbjjnjjdjdaaGreatDoorGotypeChecksd
set_option linter.unusedSimpArgs false
set_option linter.defProp false
set_option maxRecDepth 100000
set_option linter.unusedVariables false
set_option maxHeartbeats 32000000
namespace Go.Proofs.YtnfnbjjnjjdjdaaGreatDoor
open _root_.Go.Proofs.Tryz
open Go.RowKit Go.Av Go.Ab
def fh (E:fm) (l:List bh) (t:bJ):Option (List bh):=dI E l (List.replicate l.length t)
theorem mK (E:fm) (t:bJ):fh E [] t=some []:=by
 unfold fh dI;rfl
theorem oQ (E:fm) (x:bh) (l:List bh) (t:bJ):fh E (x :: l) t=match dz (bP E x t) t with
 | some y=>(fh E l t).map fun l=>y :: l
 | none=>none:=by
 unfold fh;rw [aP,cO]
 conv=>lhs;unfold dI
 rfl
theorem tO (E:fm) (l:List bh) (t:bJ) (i:Nat) (h:i < l.length):fh E (l.drop i) t=match dz (bP E l[i] t) t with
 | some y=>(fh E (l.drop (i+1)) t).map fun l=>y :: l
 | none=>none:=by
 rw [aJ h,oQ]
def kZ (k:Int) (fa:bJ→Option (bh × bJ)) (al:bJ→Option (List bh)) (want:bJ):Option (List bh × bJ) :=
 match fa (if k=13 then want else eF) with
 | some (a,t)=>(ja t).bind fun e=>(al (if k=13 then e else dh)).map fun l=>(a :: l,if k=10 then e else if k=12 then dh else t)
 | none=>none
theorem TW.PI {t:bJ} (h:TW t) (h8:t.kind=8):∃ e,t.elem=[e]:=by
 cases h with
 | leaf k n es hk=>exact absurd h8 hk
 | sl n t h=>exact ⟨t,rfl⟩
theorem CD {α:Type} (B:List α) (a b c d e f g h i:α):B++[a,b,c,d,e,f,g,h,i]=(B++[a,b,c,d,e,f,g,h])++[i]:=dM
def zE:List V:=[.d (.int .i64 0),.d (.str []),.d (.int .u64 0),.d (.int .i64 0),.d (.str []),.sl [] .full,.sl [] .full,.sl [] .full]
def zT:List V:=[.d (.int .i64 0),.d (.str []),.sl [] .full]
section
variable {E:fm} {res:List bJ} {c:Nat} {B:bQ} {T:eg}
theorem RS {x a:bh} {l:List bh} (hx:x.kids=a :: l) (hlen:l.length≤50000) (ha:kM E res a) (hl:∀ y∈l,kM E res y) (hw:∀ w y t,bP E a w=some (y,t)→TW t) (want:bJ) (hE:rG B c E res):cy prog bI 150 [.ptr c 0,fK x,cH want] ⟨B,T⟩ fun v S=>fF ((kZ x.kind (bP E a) (fh E l) want).map fun r=>(bg x r.1,r.2)) v∧S=⟨B,T⟩:=by
 obtain ⟨N,hn⟩:=aV B.length;obtain ⟨M,hM⟩:=aV T.length;have hi:c < N:=by have:=hE.1;omega
 have ur:(x.kids.map eL)[0]? = some (eL a):=by rw [hx];rfl
 have Mn:x.kids.length=l.length+1:=by rw [hx];rfl
 have Cy:(0:Int) < (x.kids.length:Int):=ak;have zh:0 < x.kids.length:=ak;have Cd:∀ y∈x.kids,kM E res y:=by rw [hx];intro y hy;rcases bB.1 hy with rfl | h;exact ha;exact hl y h
 have sg:=fun (l:List bh) tk (B:bQ) T=>s8 x l tk B T;rw [dF] at ur;unfold fK at sg ⊢;unfold cH
 by_cases N1:x.kind=13
 ·have I3:=ah N1;have RT:(if x.kind=13 then want else eF)=want:=aD N1;have GR:decide (x.kind=10)=false:=af ak;have FA:decide (x.kind=12)=false:=af ak;refine gL eE fun cG=>?_;simp only [fH] at cG;simp only [W,seval,eE,hn,I3];refine dj 13 [11,12] [N,N+4] ?_;simp (maxSteps:=4000000) only [W,seval,eE,xw,hn,ur,Cy,zh,jr];refine iW (fF.ne _) (fun Z=>ha want c _ _ (rG.more (J:=Z) (rG.more hE))) ?_;intro v hv;obtain ⟨y,t,q,rfl,GU⟩:=mJ hv;simp (maxSteps:=4000000) only [W,seval,eE,xw,hn,fK,cH,show N+5+1=N+6 from rfl];refine ⟨?_,?_⟩
  ·cases q
   ·refine goN ?_;simp only [W,seval,eE,hn,aO];refine dj 3 [] [N,N+6] ?_;simp (maxSteps:=4000000) only [W,seval,eE,xw,hn];refine goN ?_;simp only [W,seval,eE,hn];refine eR eE (Left.box ?_);exact ⟨fF.of x t false rfl (by rw [kZ,RT,GU];rfl),rfl⟩
   by_cases h8:t.kind=8
   case neg =>
    have e8:=af h8;refine goN ?_;simp only [W,seval,eE,hn,aK,aO,e8];refine dj 3 [] [N,N+6] ?_;simp (maxSteps:=4000000) only [W,seval,eE,xw,hn];refine goN ?_;simp only [W,seval,eE,hn];refine eR eE (Left.box ?_);exact ⟨fF.of x t false rfl (by rw [kZ,RT,GU];simp [ja,h8]),rfl⟩
   have e8:=ah h8;obtain ⟨e,uq⟩:=(hw _ _ _ GU).PI h8;have nU:(t.elem.map eH)[0]? = some (eH e):=by rw [uq];rfl
   have hle:(0:Int) < (t.elem.length:Int):=by rw [uq];simp
   have qF:0 < t.elem.length:=by rw [uq];simp
   have JV:ja t=some e:=by unfold ja;rw [if_pos h8,uq];rfl
   have hr:((kZ x.kind (bP E a) (fh E l) want).map fun r=>(bg x r.1,r.2))=(fh E l e).map fun l=>(bg x (y :: l),if x.kind=10 then e else if x.kind=12 then dh else t):=by
    rw [kZ,RT,GU];simp only [gj,JV,dg,aD N1];cases fh E l e<;>rfl
   rw [hr];clear hr;rw [eK] at nU;refine goN ?_;simp only [W,seval,eE,hn,e8,nU,hle,qF,bL,bC,Nat.reduceMul,mw,I3,aK,aO];refine az.fits fun hf=>?_;refine az.token 13 [eL y] (by rfl) 8 ak (by rw [dF];rfl) ?_;simp only [fP,hM];generalize dN:(fh E l e).map (y :: ·)=r;have wX:((fh E l e).map fun l=>(bg x (y :: l),if x.kind=10 then e else if x.kind=12 then dh else t))=r.map fun l=>(bg x l,if x.kind=10 then e else if x.kind=12 then dh else t):=by rw [← dN];cases fh E l e<;>rfl
   rw [wX];clear wX;refine az.m7 (fun a:Nat × List bh × Bool=>(cN 95 [(0,.ptr c 0),(4,.ptr N 0),(6,.ptr (N+2) 0),(7,.ptr (N+3) 0),(11,.ptr (N+6) 0),(12,.d (.bool a.2.2)),(13,.sl (a.2.1.map eL) (.own M)),(14,.ptr (N+7) 0),(15,.d (.int .i64 (a.1:Int)))],⟨B++[mg x,jr want,zE,zT,jr want,mg y,jr t,jr e],T++[(a.1,8)]⟩)) (fun a=>1≤a.1∧a.1≤x.kids.length∧a.2.1.length=a.1∧(if a.2.2=true then (fh E (x.kids.drop a.1) e).map (a.2.1++·) else none)=r) (fun a=>x.kids.length - a.1) (1,[y],true) ⟨dM,gP,rfl,by rw [← dN,hx];rfl⟩ cx rfl ?_;rintro ⟨i,ys,g⟩ ⟨h0,h1,h2,h3⟩ ih;dsimp only at h0 h1 h2 h3 ih ⊢
   by_cases bu:i < x.kids.length
   case neg =>
    have e2:decide ((i:Int) < (x.kids.length:Int))=false:=af ak;rw [ay ak,mK] at h3;refine goN ?_;simp only [W,seval,eE,hn,mg,jr,zE,zT,e2,nU,hle,qF,I3,GR,FA];refine dj 6 [] [N,N+6] ?_;simp (maxSteps:=4000000) only [W,seval,eE,xw,hn];refine bK (fun Z=>sg ys (.own M) _ _) ?_;simp (maxSteps:=4000000) only [W,seval,eE,xw,hn];refine goN ?_;simp only [W,seval,eE,hn];refine eR eE (Left.all ?_);refine ⟨fF.of (bg x ys) t g ?_ ?_,rfl⟩
    ·simp [wk,u7,fK,cH,bg,hM,hn,dh,bJ.kind,bJ.name,bJ.elem]
    ·rw [← h3,aq ak,aq ak];cases g<;>simp
   have e2:decide ((i:Int) < (x.kids.length:Int))=true:=ah ak;have ie:=bE ((i:Int)+1) ak;have hg:(x.kids.map eL)[i]? = some (eL x.kids[i]):=by simp [bu]
   have hy:=Cd x.kids[i] (aH bu);rw [tO E x.kids _ i bu] at h3;obtain ⟨z,hz⟩:=aV (x.kids[i]);rw [hz] at hg hy h3;rw [dF] at hg;have dY:(i:Int) < (x.kids.length:Int):=ak;have gh:(i+1) * 128≤140737488355328:=ak;refine goN ?_;simp only [W,seval,eE,hn,mg,jr,zE,zT,e2];refine dj 12 [11] [N,N+7] ?_;simp (maxSteps:=4000000) only [W,seval,eE,xw,hn,hg,bu,dY];refine iW (Yr.ne _) (fun Z=>oO hy e (rG.more (J:=Z) (rG.more hE))) ?_;intro v hv;obtain ⟨u,b,rfl,hwu⟩:=BT hv
   have bW:ys.map eL++[[.int .i64 u.kind,.str u.text,.int .u64 u.int,.int .i64 u.type.kind,.str u.type.name,.sl (u.type.elem.map eH),.sl (gN u.names),.sl (u.kids.map eL)]]=(ys++[u]).map eL:=by
    rw [cr,← dF];rfl
   have RI:fE 8 [[D.int .i64 u.kind,.str u.text,.int .u64 u.int,.int .i64 u.type.kind,.str u.type.name,.sl (u.type.elem.map eH),.sl (gN u.names),.sl (u.kids.map eL)]]=true:=rfl;simp (maxSteps:=4000000) only [W,seval,eE,xw,hn,fK,jr];rw [hwu] at h3;cases g
   ·refine goN ?_;simp only [W,seval,eE,hn,hM,aK,bL,bC,Nat.reduceMul,gh,h2,bW,RI,ie];rw [CD];refine ih (i+1,ys++[u],false) ⟨gP,gP,by simp [h2],?_⟩ gP _ _ _ _ rfl ⟨fk,fk⟩ ?_ ?_
    ·exact h3
    ·have:=Fits.more (X:=[]) (Y:=[(i+1,8)]) hf (fun vs hv=>absurd hv aT)
     rwa [aQ] at this
    ·have vT:M < M+1:=ak;refine gr.env _ ?_;simp only [zB,seval,hn,hi,hM,av,aP,aW,bf,vT,Nat.reduceAdd];simp only [aZ];omega
   ·refine goN ?_;simp only [W,seval,eE,hn,hM,aK,bL,bC,Nat.reduceMul,gh,h2,bW,RI,ie];rw [CD];refine ih (i+1,ys++[u],b) ⟨gP,gP,by simp [h2],?_⟩ gP _ _ _ _ rfl ⟨fk,fk⟩ ?_ ?_
    ·dsimp only at h3 ⊢;rw [← h3];cases b
     ·rfl
     ·cases fh E (x.kids.drop (i+1)) e<;>simp
    ·have:=Fits.more (X:=[]) (Y:=[(i+1,8)]) hf (fun vs hv=>absurd hv aT)
     rwa [aQ] at this
    ·have vT:M < M+1:=ak;refine gr.env _ ?_;simp only [zB,seval,hn,hi,hM,av,aP,aW,bf,vT,Nat.reduceAdd];simp only [aZ];omega
  ·cases q
   ·refine goN ?_;simp only [W,seval,eE,hn,aO];refine dj 3 [] [N,N+5] ?_;simp (maxSteps:=4000000) only [W,seval,eE,xw,hn];refine goN ?_;simp only [W,seval,eE,hn];refine eR eE (Left.box ?_);exact ⟨fF.of x t false rfl (by rw [kZ,RT,GU];rfl),rfl⟩
   by_cases h8:t.kind=8
   case neg =>
    have e8:=af h8;refine goN ?_;simp only [W,seval,eE,hn,aK,aO,e8];refine dj 3 [] [N,N+5] ?_;simp (maxSteps:=4000000) only [W,seval,eE,xw,hn];refine goN ?_;simp only [W,seval,eE,hn];refine eR eE (Left.box ?_);exact ⟨fF.of x t false rfl (by rw [kZ,RT,GU];simp [ja,h8]),rfl⟩
   have e8:=ah h8;obtain ⟨e,uq⟩:=(hw _ _ _ GU).PI h8;have nU:(t.elem.map eH)[0]? = some (eH e):=by rw [uq];rfl
   have hle:(0:Int) < (t.elem.length:Int):=by rw [uq];simp
   have qF:0 < t.elem.length:=by rw [uq];simp
   have JV:ja t=some e:=by unfold ja;rw [if_pos h8,uq];rfl
   have hr:((kZ x.kind (bP E a) (fh E l) want).map fun r=>(bg x r.1,r.2))=(fh E l e).map fun l=>(bg x (y :: l),if x.kind=10 then e else if x.kind=12 then dh else t):=by
    rw [kZ,RT,GU];simp only [gj,JV,dg,aD N1];cases fh E l e<;>rfl
   rw [hr];clear hr;rw [eK] at nU;refine goN ?_;simp only [W,seval,eE,hn,e8,nU,hle,qF,bL,bC,Nat.reduceMul,mw,I3,aK,aO];refine az.fits fun hf=>?_;refine az.token 13 [eL y] (by rfl) 8 ak (by rw [dF];rfl) ?_;simp only [fP,hM];generalize dN:(fh E l e).map (y :: ·)=r;have wX:((fh E l e).map fun l=>(bg x (y :: l),if x.kind=10 then e else if x.kind=12 then dh else t))=r.map fun l=>(bg x l,if x.kind=10 then e else if x.kind=12 then dh else t):=by rw [← dN];cases fh E l e<;>rfl
   rw [wX];clear wX;refine az.m7 (fun a:Nat × List bh × Bool=>(cN 95 [(0,.ptr c 0),(4,.ptr N 0),(6,.ptr (N+2) 0),(7,.ptr (N+3) 0),(11,.ptr (N+5) 0),(12,.d (.bool a.2.2)),(13,.sl (a.2.1.map eL) (.own M)),(14,.ptr (N+7) 0),(15,.d (.int .i64 (a.1:Int)))],⟨B++[mg x,jr want,zE,zT,jr want,jr t,mg y,jr e],T++[(a.1,8)]⟩)) (fun a=>1≤a.1∧a.1≤x.kids.length∧a.2.1.length=a.1∧(if a.2.2=true then (fh E (x.kids.drop a.1) e).map (a.2.1++·) else none)=r) (fun a=>x.kids.length - a.1) (1,[y],true) ⟨dM,gP,rfl,by rw [← dN,hx];rfl⟩ cx rfl ?_;rintro ⟨i,ys,g⟩ ⟨h0,h1,h2,h3⟩ ih;dsimp only at h0 h1 h2 h3 ih ⊢
   by_cases bu:i < x.kids.length
   case neg =>
    have e2:decide ((i:Int) < (x.kids.length:Int))=false:=af ak;rw [ay ak,mK] at h3;refine goN ?_;simp only [W,seval,eE,hn,mg,jr,zE,zT,e2,nU,hle,qF,I3,GR,FA];refine dj 6 [] [N,N+5] ?_;simp (maxSteps:=4000000) only [W,seval,eE,xw,hn];refine bK (fun Z=>sg ys (.own M) _ _) ?_;simp (maxSteps:=4000000) only [W,seval,eE,xw,hn];refine goN ?_;simp only [W,seval,eE,hn];refine eR eE (Left.all ?_);refine ⟨fF.of (bg x ys) t g ?_ ?_,rfl⟩
    ·simp [wk,u7,fK,cH,bg,hM,hn,dh,bJ.kind,bJ.name,bJ.elem]
    ·rw [← h3,aq ak,aq ak];cases g<;>simp
   have e2:decide ((i:Int) < (x.kids.length:Int))=true:=ah ak;have ie:=bE ((i:Int)+1) ak;have hg:(x.kids.map eL)[i]? = some (eL x.kids[i]):=by simp [bu]
   have hy:=Cd x.kids[i] (aH bu);rw [tO E x.kids _ i bu] at h3;obtain ⟨z,hz⟩:=aV (x.kids[i]);rw [hz] at hg hy h3;rw [dF] at hg;have dY:(i:Int) < (x.kids.length:Int):=ak;have gh:(i+1) * 128≤140737488355328:=ak;refine goN ?_;simp only [W,seval,eE,hn,mg,jr,zE,zT,e2];refine dj 12 [11] [N,N+7] ?_;simp (maxSteps:=4000000) only [W,seval,eE,xw,hn,hg,bu,dY];refine iW (Yr.ne _) (fun Z=>oO hy e (rG.more (J:=Z) (rG.more hE))) ?_;intro v hv;obtain ⟨u,b,rfl,hwu⟩:=BT hv
   have bW:ys.map eL++[[.int .i64 u.kind,.str u.text,.int .u64 u.int,.int .i64 u.type.kind,.str u.type.name,.sl (u.type.elem.map eH),.sl (gN u.names),.sl (u.kids.map eL)]]=(ys++[u]).map eL:=by
    rw [cr,← dF];rfl
   have RI:fE 8 [[D.int .i64 u.kind,.str u.text,.int .u64 u.int,.int .i64 u.type.kind,.str u.type.name,.sl (u.type.elem.map eH),.sl (gN u.names),.sl (u.kids.map eL)]]=true:=rfl;simp (maxSteps:=4000000) only [W,seval,eE,xw,hn,fK,jr];rw [hwu] at h3;cases g
   ·refine goN ?_;simp only [W,seval,eE,hn,hM,aK,bL,bC,Nat.reduceMul,gh,h2,bW,RI,ie];rw [CD];refine ih (i+1,ys++[u],false) ⟨gP,gP,by simp [h2],?_⟩ gP _ _ _ _ rfl ⟨fk,fk⟩ ?_ ?_
    ·exact h3
    ·have:=Fits.more (X:=[]) (Y:=[(i+1,8)]) hf (fun vs hv=>absurd hv aT)
     rwa [aQ] at this
    ·have vT:M < M+1:=ak;refine gr.env _ ?_;simp only [zB,seval,hn,hi,hM,av,aP,aW,bf,vT,Nat.reduceAdd];simp only [aZ];omega
   ·refine goN ?_;simp only [W,seval,eE,hn,hM,aK,bL,bC,Nat.reduceMul,gh,h2,bW,RI,ie];rw [CD];refine ih (i+1,ys++[u],b) ⟨gP,gP,by simp [h2],?_⟩ gP _ _ _ _ rfl ⟨fk,fk⟩ ?_ ?_
    ·dsimp only at h3 ⊢;rw [← h3];cases b
     ·rfl
     ·cases fh E (x.kids.drop (i+1)) e<;>simp
    ·have:=Fits.more (X:=[]) (Y:=[(i+1,8)]) hf (fun vs hv=>absurd hv aT)
     rwa [aQ] at this
    ·have vT:M < M+1:=ak;refine gr.env _ ?_;simp only [zB,seval,hn,hi,hM,av,aP,aW,bf,vT,Nat.reduceAdd];simp only [aZ];omega
 ·have I3:=af N1;have RT:(if x.kind=13 then want else eF)=eF:=aq N1;refine gL eE fun cG=>?_;simp only [fH] at cG;simp only [W,seval,eE,hn,I3];refine az.BS 4 _ (jr eF) rfl (fq.same (fq.same (fq.sl .nil))) ?_;simp only [cI,cn];refine dj 13 [11,12] [N,N+4] ?_;simp (maxSteps:=4000000) only [W,seval,eE,xw,hn,ur,Cy,zh,jr];refine iW (fF.ne _) (fun Z=>ha eF c _ _ (rG.more (J:=Z) (rG.more hE))) ?_;intro v hv;obtain ⟨y,t,q,rfl,GU⟩:=mJ hv;simp (maxSteps:=4000000) only [W,seval,eE,xw,hn,fK,cH,show N+5+1=N+6 from rfl];refine ⟨?_,?_⟩
  ·cases q
   ·refine goN ?_;simp only [W,seval,eE,hn,aO];refine dj 3 [] [N,N+6] ?_;simp (maxSteps:=4000000) only [W,seval,eE,xw,hn];refine goN ?_;simp only [W,seval,eE,hn];refine eR eE (Left.box ?_);exact ⟨fF.of x t false rfl (by rw [kZ,RT,GU];rfl),rfl⟩
   by_cases h8:t.kind=8
   case neg =>
    have e8:=af h8;refine goN ?_;simp only [W,seval,eE,hn,aK,aO,e8];refine dj 3 [] [N,N+6] ?_;simp (maxSteps:=4000000) only [W,seval,eE,xw,hn];refine goN ?_;simp only [W,seval,eE,hn];refine eR eE (Left.box ?_);exact ⟨fF.of x t false rfl (by rw [kZ,RT,GU];simp [ja,h8]),rfl⟩
   have e8:=ah h8;obtain ⟨e,uq⟩:=(hw _ _ _ GU).PI h8;have nU:(t.elem.map eH)[0]? = some (eH e):=by rw [uq];rfl
   have hle:(0:Int) < (t.elem.length:Int):=by rw [uq];simp
   have qF:0 < t.elem.length:=by rw [uq];simp
   have JV:ja t=some e:=by unfold ja;rw [if_pos h8,uq];rfl
   have hr:((kZ x.kind (bP E a) (fh E l) want).map fun r=>(bg x r.1,r.2))=(fh E l dh).map fun l=>(bg x (y :: l),if x.kind=10 then e else if x.kind=12 then dh else t):=by
    rw [kZ,RT,GU];simp only [gj,JV,dg,aq N1];cases fh E l dh<;>rfl
   rw [hr];clear hr;rw [eK] at nU;refine goN ?_;simp only [W,seval,eE,hn,e8,nU,hle,qF,bL,bC,Nat.reduceMul,mw,I3,aK,aO];refine az.BS 7 _ (jr dh) rfl (fq.same (fq.same (fq.sl .nil))) ?_;refine nF ?_;simp only [W,seval,eE,hn];refine az.fits fun hf=>?_;refine az.token 13 [eL y] (by rfl) 8 ak (by rw [dF];rfl) ?_;simp only [fP,hM];generalize dN:(fh E l dh).map (y :: ·)=r;have wX:((fh E l dh).map fun l=>(bg x (y :: l),if x.kind=10 then e else if x.kind=12 then dh else t))=r.map fun l=>(bg x l,if x.kind=10 then e else if x.kind=12 then dh else t):=by rw [← dN];cases fh E l dh<;>rfl
   rw [wX];clear wX;refine az.m7 (fun a:Nat × List bh × Bool=>(cN 95 [(0,.ptr c 0),(4,.ptr N 0),(6,.ptr (N+2) 0),(7,.ptr (N+3) 0),(11,.ptr (N+6) 0),(12,.d (.bool a.2.2)),(13,.sl (a.2.1.map eL) (.own M)),(14,.ptr (N+7) 0),(15,.d (.int .i64 (a.1:Int)))],⟨B++[mg x,jr want,zE,zT,jr eF,mg y,jr t,jr dh],T++[(a.1,8)]⟩)) (fun a=>1≤a.1∧a.1≤x.kids.length∧a.2.1.length=a.1∧(if a.2.2=true then (fh E (x.kids.drop a.1) dh).map (a.2.1++·) else none)=r) (fun a=>x.kids.length - a.1) (1,[y],true) ⟨dM,gP,rfl,by rw [← dN,hx];rfl⟩ cx rfl ?_;rintro ⟨i,ys,g⟩ ⟨h0,h1,h2,h3⟩ ih;dsimp only at h0 h1 h2 h3 ih ⊢
   by_cases bu:i < x.kids.length
   case neg =>
    have e2:decide ((i:Int) < (x.kids.length:Int))=false:=af ak;rw [ay ak,mK] at h3
    by_cases yN:x.kind=10
    ·have GR:=ah yN;have FA:decide (x.kind=12)=false:=af ak;refine goN ?_;simp only [W,seval,eE,hn,mg,jr,zE,zT,e2,nU,hle,qF,I3,GR,FA];refine dj 6 [] [N,N+6] ?_;simp (maxSteps:=4000000) only [W,seval,eE,xw,hn];refine bK (fun Z=>sg ys (.own M) _ _) ?_;simp (maxSteps:=4000000) only [W,seval,eE,xw,hn];refine goN ?_;simp only [W,seval,eE,hn];refine eR eE (Left.all ?_);refine ⟨fF.of (bg x ys) e g ?_ ?_,rfl⟩
     ·simp [wk,u7,fK,cH,bg,hM,hn,dh,bJ.kind,bJ.name,bJ.elem]
     ·rw [← h3,aD yN];cases g<;>simp
    ·have GR:=af yN
     by_cases ME:x.kind=12
     ·have FA:=ah ME;refine goN ?_;simp only [W,seval,eE,hn,mg,jr,zE,zT,e2,nU,hle,qF,I3,GR,FA];refine dj 6 [] [N,N+6] ?_;simp (maxSteps:=4000000) only [W,seval,eE,xw,hn];refine bK (fun Z=>sg ys (.own M) _ _) ?_;simp (maxSteps:=4000000) only [W,seval,eE,xw,hn];refine goN ?_;simp only [W,seval,eE,hn];refine eR eE (Left.all ?_);refine ⟨fF.of (bg x ys) dh g ?_ ?_,rfl⟩
      ·simp [wk,u7,fK,cH,bg,hM,hn,dh,bJ.kind,bJ.name,bJ.elem]
      ·rw [← h3,aq yN,aD ME];cases g<;>simp
     ·have FA:=af ME;refine goN ?_;simp only [W,seval,eE,hn,mg,jr,zE,zT,e2,nU,hle,qF,I3,GR,FA];refine dj 6 [] [N,N+6] ?_;simp (maxSteps:=4000000) only [W,seval,eE,xw,hn];refine bK (fun Z=>sg ys (.own M) _ _) ?_;simp (maxSteps:=4000000) only [W,seval,eE,xw,hn];refine goN ?_;simp only [W,seval,eE,hn];refine eR eE (Left.all ?_);refine ⟨fF.of (bg x ys) t g ?_ ?_,rfl⟩
      ·simp [wk,u7,fK,cH,bg,hM,hn,dh,bJ.kind,bJ.name,bJ.elem]
      ·rw [← h3,aq yN,aq ME];cases g<;>simp
   have e2:decide ((i:Int) < (x.kids.length:Int))=true:=ah ak;have ie:=bE ((i:Int)+1) ak;have hg:(x.kids.map eL)[i]? = some (eL x.kids[i]):=by simp [bu]
   have hy:=Cd x.kids[i] (aH bu);rw [tO E x.kids _ i bu] at h3;obtain ⟨z,hz⟩:=aV (x.kids[i]);rw [hz] at hg hy h3;rw [dF] at hg;have dY:(i:Int) < (x.kids.length:Int):=ak;have gh:(i+1) * 128≤140737488355328:=ak;refine goN ?_;simp only [W,seval,eE,hn,mg,jr,zE,zT,e2];refine dj 12 [11] [N,N+7] ?_;simp (maxSteps:=4000000) only [W,seval,eE,xw,hn,hg,bu,dY];refine iW (Yr.ne _) (fun Z=>oO hy dh (rG.more (J:=Z) (rG.more hE))) ?_;intro v hv;obtain ⟨u,b,rfl,hwu⟩:=BT hv
   have bW:ys.map eL++[[.int .i64 u.kind,.str u.text,.int .u64 u.int,.int .i64 u.type.kind,.str u.type.name,.sl (u.type.elem.map eH),.sl (gN u.names),.sl (u.kids.map eL)]]=(ys++[u]).map eL:=by
    rw [cr,← dF];rfl
   have RI:fE 8 [[D.int .i64 u.kind,.str u.text,.int .u64 u.int,.int .i64 u.type.kind,.str u.type.name,.sl (u.type.elem.map eH),.sl (gN u.names),.sl (u.kids.map eL)]]=true:=rfl;simp (maxSteps:=4000000) only [W,seval,eE,xw,hn,fK,jr];rw [hwu] at h3;cases g
   ·refine goN ?_;simp only [W,seval,eE,hn,hM,aK,bL,bC,Nat.reduceMul,gh,h2,bW,RI,ie];rw [CD];refine ih (i+1,ys++[u],false) ⟨gP,gP,by simp [h2],?_⟩ gP _ _ _ _ rfl ⟨fk,fk⟩ ?_ ?_
    ·exact h3
    ·have:=Fits.more (X:=[]) (Y:=[(i+1,8)]) hf (fun vs hv=>absurd hv aT)
     rwa [aQ] at this
    ·have vT:M < M+1:=ak;refine gr.env _ ?_;simp only [zB,seval,hn,hi,hM,av,aP,aW,bf,vT,Nat.reduceAdd];simp only [aZ];omega
   ·refine goN ?_;simp only [W,seval,eE,hn,hM,aK,bL,bC,Nat.reduceMul,gh,h2,bW,RI,ie];rw [CD];refine ih (i+1,ys++[u],b) ⟨gP,gP,by simp [h2],?_⟩ gP _ _ _ _ rfl ⟨fk,fk⟩ ?_ ?_
    ·dsimp only at h3 ⊢;rw [← h3];cases b
     ·rfl
     ·cases fh E (x.kids.drop (i+1)) dh<;>simp
    ·have:=Fits.more (X:=[]) (Y:=[(i+1,8)]) hf (fun vs hv=>absurd hv aT)
     rwa [aQ] at this
    ·have vT:M < M+1:=ak;refine gr.env _ ?_;simp only [zB,seval,hn,hi,hM,av,aP,aW,bf,vT,Nat.reduceAdd];simp only [aZ];omega
  ·cases q
   ·refine goN ?_;simp only [W,seval,eE,hn,aO];refine dj 3 [] [N,N+5] ?_;simp (maxSteps:=4000000) only [W,seval,eE,xw,hn];refine goN ?_;simp only [W,seval,eE,hn];refine eR eE (Left.box ?_);exact ⟨fF.of x t false rfl (by rw [kZ,RT,GU];rfl),rfl⟩
   by_cases h8:t.kind=8
   case neg =>
    have e8:=af h8;refine goN ?_;simp only [W,seval,eE,hn,aK,aO,e8];refine dj 3 [] [N,N+5] ?_;simp (maxSteps:=4000000) only [W,seval,eE,xw,hn];refine goN ?_;simp only [W,seval,eE,hn];refine eR eE (Left.box ?_);exact ⟨fF.of x t false rfl (by rw [kZ,RT,GU];simp [ja,h8]),rfl⟩
   have e8:=ah h8;obtain ⟨e,uq⟩:=(hw _ _ _ GU).PI h8;have nU:(t.elem.map eH)[0]? = some (eH e):=by rw [uq];rfl
   have hle:(0:Int) < (t.elem.length:Int):=by rw [uq];simp
   have qF:0 < t.elem.length:=by rw [uq];simp
   have JV:ja t=some e:=by unfold ja;rw [if_pos h8,uq];rfl
   have hr:((kZ x.kind (bP E a) (fh E l) want).map fun r=>(bg x r.1,r.2))=(fh E l dh).map fun l=>(bg x (y :: l),if x.kind=10 then e else if x.kind=12 then dh else t):=by
    rw [kZ,RT,GU];simp only [gj,JV,dg,aq N1];cases fh E l dh<;>rfl
   rw [hr];clear hr;rw [eK] at nU;refine goN ?_;simp only [W,seval,eE,hn,e8,nU,hle,qF,bL,bC,Nat.reduceMul,mw,I3,aK,aO];refine az.BS 7 _ (jr dh) rfl (fq.same (fq.same (fq.sl .nil))) ?_;refine nF ?_;simp only [W,seval,eE,hn];refine az.fits fun hf=>?_;refine az.token 13 [eL y] (by rfl) 8 ak (by rw [dF];rfl) ?_;simp only [fP,hM];generalize dN:(fh E l dh).map (y :: ·)=r;have wX:((fh E l dh).map fun l=>(bg x (y :: l),if x.kind=10 then e else if x.kind=12 then dh else t))=r.map fun l=>(bg x l,if x.kind=10 then e else if x.kind=12 then dh else t):=by rw [← dN];cases fh E l dh<;>rfl
   rw [wX];clear wX;refine az.m7 (fun a:Nat × List bh × Bool=>(cN 95 [(0,.ptr c 0),(4,.ptr N 0),(6,.ptr (N+2) 0),(7,.ptr (N+3) 0),(11,.ptr (N+5) 0),(12,.d (.bool a.2.2)),(13,.sl (a.2.1.map eL) (.own M)),(14,.ptr (N+7) 0),(15,.d (.int .i64 (a.1:Int)))],⟨B++[mg x,jr want,zE,zT,jr eF,jr t,mg y,jr dh],T++[(a.1,8)]⟩)) (fun a=>1≤a.1∧a.1≤x.kids.length∧a.2.1.length=a.1∧(if a.2.2=true then (fh E (x.kids.drop a.1) dh).map (a.2.1++·) else none)=r) (fun a=>x.kids.length - a.1) (1,[y],true) ⟨dM,gP,rfl,by rw [← dN,hx];rfl⟩ cx rfl ?_;rintro ⟨i,ys,g⟩ ⟨h0,h1,h2,h3⟩ ih;dsimp only at h0 h1 h2 h3 ih ⊢
   by_cases bu:i < x.kids.length
   case neg =>
    have e2:decide ((i:Int) < (x.kids.length:Int))=false:=af ak;rw [ay ak,mK] at h3
    by_cases yN:x.kind=10
    ·have GR:=ah yN;have FA:decide (x.kind=12)=false:=af ak;refine goN ?_;simp only [W,seval,eE,hn,mg,jr,zE,zT,e2,nU,hle,qF,I3,GR,FA];refine dj 6 [] [N,N+5] ?_;simp (maxSteps:=4000000) only [W,seval,eE,xw,hn];refine bK (fun Z=>sg ys (.own M) _ _) ?_;simp (maxSteps:=4000000) only [W,seval,eE,xw,hn];refine goN ?_;simp only [W,seval,eE,hn];refine eR eE (Left.all ?_);refine ⟨fF.of (bg x ys) e g ?_ ?_,rfl⟩
     ·simp [wk,u7,fK,cH,bg,hM,hn,dh,bJ.kind,bJ.name,bJ.elem]
     ·rw [← h3,aD yN];cases g<;>simp
    ·have GR:=af yN
     by_cases ME:x.kind=12
     ·have FA:=ah ME;refine goN ?_;simp only [W,seval,eE,hn,mg,jr,zE,zT,e2,nU,hle,qF,I3,GR,FA];refine dj 6 [] [N,N+5] ?_;simp (maxSteps:=4000000) only [W,seval,eE,xw,hn];refine bK (fun Z=>sg ys (.own M) _ _) ?_;simp (maxSteps:=4000000) only [W,seval,eE,xw,hn];refine goN ?_;simp only [W,seval,eE,hn];refine eR eE (Left.all ?_);refine ⟨fF.of (bg x ys) dh g ?_ ?_,rfl⟩
      ·simp [wk,u7,fK,cH,bg,hM,hn,dh,bJ.kind,bJ.name,bJ.elem]
      ·rw [← h3,aq yN,aD ME];cases g<;>simp
     ·have FA:=af ME;refine goN ?_;simp only [W,seval,eE,hn,mg,jr,zE,zT,e2,nU,hle,qF,I3,GR,FA];refine dj 6 [] [N,N+5] ?_;simp (maxSteps:=4000000) only [W,seval,eE,xw,hn];refine bK (fun Z=>sg ys (.own M) _ _) ?_;simp (maxSteps:=4000000) only [W,seval,eE,xw,hn];refine goN ?_;simp only [W,seval,eE,hn];refine eR eE (Left.all ?_);refine ⟨fF.of (bg x ys) t g ?_ ?_,rfl⟩
      ·simp [wk,u7,fK,cH,bg,hM,hn,dh,bJ.kind,bJ.name,bJ.elem]
      ·rw [← h3,aq yN,aq ME];cases g<;>simp
   have e2:decide ((i:Int) < (x.kids.length:Int))=true:=ah ak;have ie:=bE ((i:Int)+1) ak;have hg:(x.kids.map eL)[i]? = some (eL x.kids[i]):=by simp [bu]
   have hy:=Cd x.kids[i] (aH bu);rw [tO E x.kids _ i bu] at h3;obtain ⟨z,hz⟩:=aV (x.kids[i]);rw [hz] at hg hy h3;rw [dF] at hg;have dY:(i:Int) < (x.kids.length:Int):=ak;have gh:(i+1) * 128≤140737488355328:=ak;refine goN ?_;simp only [W,seval,eE,hn,mg,jr,zE,zT,e2];refine dj 12 [11] [N,N+7] ?_;simp (maxSteps:=4000000) only [W,seval,eE,xw,hn,hg,bu,dY];refine iW (Yr.ne _) (fun Z=>oO hy dh (rG.more (J:=Z) (rG.more hE))) ?_;intro v hv;obtain ⟨u,b,rfl,hwu⟩:=BT hv
   have bW:ys.map eL++[[.int .i64 u.kind,.str u.text,.int .u64 u.int,.int .i64 u.type.kind,.str u.type.name,.sl (u.type.elem.map eH),.sl (gN u.names),.sl (u.kids.map eL)]]=(ys++[u]).map eL:=by
    rw [cr,← dF];rfl
   have RI:fE 8 [[D.int .i64 u.kind,.str u.text,.int .u64 u.int,.int .i64 u.type.kind,.str u.type.name,.sl (u.type.elem.map eH),.sl (gN u.names),.sl (u.kids.map eL)]]=true:=rfl;simp (maxSteps:=4000000) only [W,seval,eE,xw,hn,fK,jr];rw [hwu] at h3;cases g
   ·refine goN ?_;simp only [W,seval,eE,hn,hM,aK,bL,bC,Nat.reduceMul,gh,h2,bW,RI,ie];rw [CD];refine ih (i+1,ys++[u],false) ⟨gP,gP,by simp [h2],?_⟩ gP _ _ _ _ rfl ⟨fk,fk⟩ ?_ ?_
    ·exact h3
    ·have:=Fits.more (X:=[]) (Y:=[(i+1,8)]) hf (fun vs hv=>absurd hv aT)
     rwa [aQ] at this
    ·have vT:M < M+1:=ak;refine gr.env _ ?_;simp only [zB,seval,hn,hi,hM,av,aP,aW,bf,vT,Nat.reduceAdd];simp only [aZ];omega
   ·refine goN ?_;simp only [W,seval,eE,hn,hM,aK,bL,bC,Nat.reduceMul,gh,h2,bW,RI,ie];rw [CD];refine ih (i+1,ys++[u],b) ⟨gP,gP,by simp [h2],?_⟩ gP _ _ _ _ rfl ⟨fk,fk⟩ ?_ ?_
    ·dsimp only at h3 ⊢;rw [← h3];cases b
     ·rfl
     ·cases fh E (x.kids.drop (i+1)) dh<;>simp
    ·have:=Fits.more (X:=[]) (Y:=[(i+1,8)]) hf (fun vs hv=>absurd hv aT)
     rwa [aQ] at this
    ·have vT:M < M+1:=ak;refine gr.env _ ?_;simp only [zB,seval,hn,hi,hM,av,aP,aW,bf,vT,Nat.reduceAdd];simp only [aZ];omega
end
theorem afP {α:Type} (B:List α) (a b c d:α):B++[a,b,c,d]=(B++[a,b,c])++[d]:=dM
section
variable {E:fm} {res:List bJ} {c:Nat} {B:bQ} {T:eg}
theorem YH {x:bh} {e:bJ} (hT:mh E.su E.fu) (Ae:x.kind=15) (uq:x.type.elem=[e]) (ht:TW x.type) (hlen:x.kids.length≤50000) (hl:∀ y∈x.kids,kM E res y) (hE:rG B c E res):cy prog bI 149 [.ptr c 0,fK x] ⟨B,T⟩ fun v S=>fF (if dH E.su x.type=true then (fh E x.kids e).map fun l=>(bg x l,x.type) else none) v∧S=⟨B,T⟩:=by
 obtain ⟨N,hn⟩:=aV B.length;obtain ⟨M,hM⟩:=aV T.length;have hi:c < N:=by have:=hE.1;omega
 obtain ⟨hc,vv,hb,hv⟩:=id hE;have kz:=fun (J:bQ)=>@uK x.type ht c (B++J) T E.su E.fu vv res hT fk (by rw [bt hc];exact hb);have sg:=fun (l:List bh) (B:bQ) T=>tL x l B T;have nU:(x.type.elem.map eH)[0]? = some (eH e):=by rw [uq];rfl
 have hle:(0:Int) < (x.type.elem.length:Int):=by rw [uq];simp
 have qF:0 < x.type.elem.length:=by rw [uq];simp
 rw [eK] at nU;have Lt:=ah Ae;unfold fK at sg ⊢;unfold cH at kz;cases hs:dH E.su x.type
 ·rw [hs] at kz;refine gL mI fun cG=>?_;simp only [fH] at cG;simp only [W,seval,mI,hn];refine aX (kz _) ?_;refine goN ?_;simp only [W,seval,mI,hn,aO];refine dj 4 [] [N] ?_;simp (maxSteps:=4000000) only [W,seval,mI,xw,hn];refine goN ?_;simp only [W,seval,mI,hn];refine eR mI (Left.box ?_);exact ⟨fF.of x x.type false rfl rfl,rfl⟩
 rw [hs] at kz;rw [aD rfl];refine gL mI fun cG=>?_;simp only [fH] at cG;simp only [W,seval,mI,hn];refine aX (kz _) ?_;refine goN ?_;simp only [W,seval,mI,hn,aK];refine az.token 7 [] (by rfl) 3 ak rfl ?_;simp only [fP,hM];refine az.dL (fun i:Nat=>(cN 74 [(0,.ptr c 0),(3,.ptr N 0),(4,.ptr (N+1) 0),(5,.ptr (N+2) 0),(7,.sl ((List.replicate i e).map eH) (.own M)),(8,.d (.int .i64 (i:Int)))],⟨B++[mg x,zE,zT],T++[(i,3)]⟩)) (fun i=>i≤x.kids.length) (fun i=>x.kids.length - i) 0 ak cx rfl ?_;rintro i h1 ih;dsimp only at h1 ih ⊢
 by_cases bu:i < x.kids.length
 case neg =>
  have e2:decide ((i:Int) < (x.kids.length:Int))=false:=af ak;obtain rfl:i=x.kids.length:=ak;have j4:=fun (J:bQ) T=>@xL E res c (B++J) T x.kids hl ak (List.replicate x.kids.length e) (.own M) hE.more;refine goN ?_;simp only [W,seval,mI,hn,mg,zE,zT,e2];refine cz (j4 _ _) ?_;rintro v _ ⟨hv,rfl⟩;obtain ⟨l,g,rfl,hw⟩:=vt hv;refine goN ?_;simp only [W,seval,mI,hn];refine dj 7 [] [N] ?_;simp (maxSteps:=4000000) only [W,seval,mI,xw,hn];refine bK (fun Z=>sg l _ _) ?_;simp (maxSteps:=4000000) only [W,seval,mI,xw,hn];refine goN ?_;simp only [W,seval,mI,hn];refine eR mI (Left.all ?_);refine ⟨fF.of (bg x l) x.type g ?_ ?_,rfl⟩
  ·simp [wk,u7,fK,cH,bg,hM,hn]
  ·unfold fh;rw [hw];cases g<;>rfl
 have e2:decide ((i:Int) < (x.kids.length:Int))=true:=ah ak;have ie:=bE ((i:Int)+1) ak
 have bW:(List.replicate i e).map eH++[[.int .i64 e.kind,.str e.name,.sl (e.elem.map eH)]]=(List.replicate (i+1) e).map eH:=by
  rw [List.replicate_succ',cr,← eK];rfl
 have WI:fE 3 [[D.int .i64 e.kind,.str e.name,.sl (e.elem.map eH)]]=true:=rfl;have gh:(i+1) * 48≤140737488355328:=ak;refine goN ?_;simp only [W,seval,mI,hn,hM,mg,zE,zT,e2,Lt,nU,hle,qF,bL,bC,Nat.reduceMul,gh,bW,WI,ie,qg];exact ih (i+1) ak ak _ _ cx rfl
theorem YI {x:bh} (hT:mh E.su E.fu) (za:x.kind=14) (ht:TW x.type) (hns:x.names.length=x.kids.length) (hlen:x.kids.length≤50000) (hl:∀ y∈x.kids,kM E res y) (hE:rG B c E res):cy prog bI 149 [.ptr c 0,fK x] ⟨B,T⟩ fun v S=>fF (if dH E.su x.type=true then ((x.names.mapM (lO E.su x.type)).bind (dI E x.kids)).map fun l=>(bg x l,x.type) else none) v∧S=⟨B,T⟩:=by
 obtain ⟨N,hn⟩:=aV B.length;obtain ⟨M,hM⟩:=aV T.length;have hi:c < N:=by have:=hE.1;omega
 obtain ⟨hc,vv,hb,hv⟩:=id hE;have kz:=fun (J:bQ)=>@uK x.type ht c (B++J) T E.su E.fu vv res hT fk (by rw [bt hc];exact hb);have sg:=fun (l:List bh) (B:bQ) T=>tL x l B T;have Lt:decide (x.kind=15)=false:=af ak;unfold fK at sg ⊢;unfold cH at kz;cases hs:dH E.su x.type
 ·rw [hs] at kz;refine gL mI fun cG=>?_;simp only [fH] at cG;simp only [W,seval,mI,hn];refine aX (kz _) ?_;refine goN ?_;simp only [W,seval,mI,hn,aO];refine dj 4 [] [N] ?_;simp (maxSteps:=4000000) only [W,seval,mI,xw,hn];refine goN ?_;simp only [W,seval,mI,hn];refine eR mI (Left.box ?_);exact ⟨fF.of x x.type false rfl rfl,rfl⟩
 rw [hs] at kz;rw [aD rfl];refine gL mI fun cG=>?_;simp only [fH] at cG;simp only [W,seval,mI,hn];refine aX (kz _) ?_;refine goN ?_;simp only [W,seval,mI,hn,aK];refine az.fits fun hf=>?_;refine az.token 7 [] (by rfl) 3 ak rfl ?_;simp only [fP,hM];generalize dN:x.names.mapM (lO E.su x.type)=r;refine az.m7 (fun a:Nat × List bJ=>(cN 74 [(0,.ptr c 0),(3,.ptr N 0),(4,.ptr (N+1) 0),(5,.ptr (N+2) 0),(7,.sl (a.2.map eH) (.own M)),(8,.d (.int .i64 (a.1:Int)))],⟨B++[mg x,zE,zT],T++[(a.1,3)]⟩)) (fun a=>a.1≤x.kids.length∧a.2.length=a.1∧((x.names.drop a.1).mapM (lO E.su x.type)).map (a.2++·)=r) (fun a=>x.kids.length - a.1) (0,[]) ⟨dM,rfl,by rw [← dN];simp⟩ cx rfl ?_;rintro ⟨i,ts⟩ ⟨h1,h2,h3⟩ ih;dsimp only at h1 h2 h3 ih ⊢
 by_cases bu:i < x.kids.length
 case neg =>
  have e2:decide ((i:Int) < (x.kids.length:Int))=false:=af ak;have j4:=fun (J:bQ) T=>@xL E res c (B++J) T x.kids hl ak ts (.own M) hE.more;rw [ay ak] at h3;refine goN ?_;simp only [W,seval,mI,hn,mg,zE,zT,e2];refine cz (j4 _ _) ?_;rintro v _ ⟨hv,rfl⟩;obtain ⟨l,g,rfl,hw⟩:=vt hv;refine goN ?_;simp only [W,seval,mI,hn];refine dj 7 [] [N] ?_;simp (maxSteps:=4000000) only [W,seval,mI,xw,hn];refine bK (fun Z=>sg l _ _) ?_;simp (maxSteps:=4000000) only [W,seval,mI,xw,hn];refine goN ?_;simp only [W,seval,mI,hn];refine eR mI (Left.all ?_);refine ⟨fF.of (bg x l) x.type g ?_ ?_,rfl⟩
  ·simp [wk,u7,fK,cH,bg,hM,hn]
  ·rw [← h3];simp only [List.mapM_nil,Option.pure_def,cJ,aQ,dg];rw [hw];cases g<;>rfl
 have e2:decide ((i:Int) < (x.kids.length:Int))=true:=ah ak;have ie:=bE ((i:Int)+1) ak;have Gm:i < x.names.length:=ak;have ajF:(i:Int) < (x.names.length:Int):=ak;have hg:(gN x.names)[i]? = some [.str x.names[i]]:=by simp [gN,Gm]
 rw [aJ Gm] at h3;obtain ⟨m,hm⟩:=aV (x.names[i]);rw [hm] at hg h3;have wI:=fun (J Z:bQ) T=>@GJ x.type m c ((B++J)++Z) T E.su E.fu vv res hT fk (by rw [aE,bt hc];exact hb);unfold cH at wI;refine goN ?_;simp only [W,seval,mI,hn,mg,zE,zT,e2,Lt];refine dj 13 [12] [N] ?_;simp (maxSteps:=4000000) only [W,seval,mI,xw,hn,hg,Gm,ajF,eV];refine iW (Ew.ne _) (fun Z=>wI _ Z _) ?_;intro v hv;obtain ⟨t,b,rfl,hwt⟩:=Dq hv;simp (maxSteps:=4000000) only [W,seval,mI,xw,hn,cH];rw [gQ,hwt] at h3;cases b
 ·refine goN ?_;simp only [W,seval,mI,hn,aO];refine dj 4 [] [N] ?_;simp (maxSteps:=4000000) only [W,seval,mI,xw,hn];refine goN ?_;simp only [W,seval,mI,hn];refine eR mI (Left.all ?_);refine ⟨fF.of x x.type false ?_ ?_,rfl⟩
  ·simp [wk,u7,fK,cH,hM,hn]
  ·rw [← h3];rfl
 have bW:ts.map eH++[[.int .i64 t.kind,.str t.name,.sl (t.elem.map eH)]]=(ts++[t]).map eH:=by
  rw [cr,← eK];rfl
 have WI:fE 3 [[D.int .i64 t.kind,.str t.name,.sl (t.elem.map eH)]]=true:=rfl;have gh:(i+1) * 48≤140737488355328:=ak;refine goN ?_;simp only [W,seval,mI,hn,hM,aK,bL,bC,Nat.reduceMul,gh,h2,bW,WI,ie];rw [afP];refine ih (i+1,ts++[t]) ⟨gP,by simp [h2],?_⟩ gP _ _ _ _ rfl ⟨fk,fk⟩ ?_ ?_
 ·dsimp only at h3 ⊢;rw [← h3];simp only [aD rfl,Option.bind_eq_bind,dg];cases List.mapM (lO E.su x.type) (x.names.drop (i+1))<;>simp
 ·have:=Fits.more (X:=[]) (Y:=[(i+1,3)]) hf (fun vs hv=>absurd hv aT)
  rwa [aQ] at this
 ·have vT:M < M+1:=ak;refine gr.env _ ?_;simp only [zB,seval,hn,hi,hM,av,aP,aW,bf,vT,Nat.reduceAdd];simp only [aZ];omega
end
theorem GV (x:bh) (t:bJ):fK (setType x t) = .agg [.d (.int .i64 x.kind),.d (.str x.text),.d (.int .u64 x.int),.d (.int .i64 t.kind),.d (.str t.name),.d (.sl (t.elem.map eH)),.d (.sl (gN x.names)),.d (.sl (x.kids.map eL))]:=by
 cases x;rfl
section
variable {E:fm} {res:List bJ} {c:Nat} {B:bQ} {T:eg}
theorem YJ {x:bh} (hk:x.kind=1) (want:bJ) (hE:rG B c E res):cy prog bI 123 [.ptr c 0,fK x,cH want] ⟨B,T⟩ fun v S=>fF ((kK ep.name E.vs x.text).map fun p=>(x,p.type)) v∧S=⟨B,T⟩:=by
 obtain ⟨N,hn⟩:=aV B.length;have hi:c < N:=by have:=hE.1;omega
 have k1:decide (x.kind=1)=true:=ah ak;obtain ⟨hc,vv,hb,hv⟩:=id hE;have YK:=fun (J:bQ) T=>@Pz x.text c (B++J) T E.su E.fu E.vs vv res fk (by rw [bt hc];exact hb) hv.more;unfold fK cH;refine gL dK fun cG=>?_;simp only [fH] at cG;simp only [W,seval,dK,hn,k1];refine cz (YK _ _) ?_;rintro v _ ⟨hv,rfl⟩;obtain ⟨t,b,rfl,hw⟩:=Dq hv;refine goN ?_;simp only [W,seval,dK,hn,cH];refine dj 4 [] [N,N+4] ?_;simp (maxSteps:=4000000) only [W,seval,dK,xw,hn];refine goN ?_;simp only [W,seval,dK,hn];refine eR dK (Left.box ?_);refine ⟨fF.of x t b rfl ?_,rfl⟩
 revert hw
 cases kK ep.name E.vs x.text<;>cases b<;>intro hw<;>first | rfl | (cases hw;done) | skip
 obtain rfl:=ag hw;rfl
theorem YL {x:bh} (hk:x.kind=2) (want:bJ) (hE:rG B c E res):cy prog bI 123 [.ptr c 0,fK x,cH want] ⟨B,T⟩ fun v S=>fF (if iQ want.kind=0∨iQ want.kind < x.int then none else some (setType x want,want)) v∧S=⟨B,T⟩:=by
 obtain ⟨N,hn⟩:=aV B.length;have hi:c < N:=by have:=hE.1;omega
 have k1:decide (x.kind=1)=false:=af ak;have k2:decide (x.kind=2)=true:=ah ak;have hm:=fun (J:bQ) T=>uJ want.kind (B++J) T;have Mo:=fun (J Z:bQ) T=>uJ want.kind (B++J++Z) T;have hnn:0≤iQ want.kind:=by unfold iQ;repeat' split<;>omega
 unfold fK cH;cases h0:decide (0 < iQ want.kind)
 ·have h0':=dJ h0;refine gL dK fun cG=>?_;simp only [fH] at cG;simp only [W,seval,dK,hn,k1,k2];refine dj 12 [] [N,N+1] ?_;simp (maxSteps:=4000000) only [W,seval,dK,xw,hn];refine bK (fun Z=>Mo _ Z _) ?_;simp (maxSteps:=4000000) only [W,seval,dK,xw,hn,h0];refine goN ?_;simp only [W,seval,dK,hn];refine dj 4 [] [N,N+1] ?_;simp (maxSteps:=4000000) only [W,seval,dK,xw,hn];refine goN ?_;simp only [W,seval,dK,hn];refine eR dK (Left.box ?_);exact ⟨fF.of (setType x want) want false (by rw [GV];rfl) (by rw [aD (.inl ak)];rfl),rfl⟩
 ·have h0':=bV h0;refine gL dK fun cG=>?_;simp only [fH] at cG;simp only [W,seval,dK,hn,k1,k2];refine dj 12 [] [N,N+1] ?_;simp (maxSteps:=4000000) only [W,seval,dK,xw,hn];refine bK (fun Z=>Mo _ Z _) ?_;simp (maxSteps:=4000000) only [W,seval,dK,xw,hn,h0];refine bK (fun Z=>Mo _ Z _) ?_;simp (maxSteps:=4000000) only [W,seval,dK,xw,hn,h0];refine goN ?_;simp only [W,seval,dK,hn];refine dj 4 [] [N,N+1] ?_;simp (maxSteps:=4000000) only [W,seval,dK,xw,hn];refine goN ?_;simp only [W,seval,dK,hn];refine eR dK (Left.box ?_);refine ⟨fF.of (setType x want) want (decide (x.int≤iQ want.kind)) (by rw [GV];rfl) ?_,rfl⟩
  by_cases h1:x.int≤iQ want.kind
  ·rw [aq ak,aD (ah h1)]
  ·rw [aD (.inr ak),aq (by rw [af h1];decide)]
theorem YM {x:bh} (hk:x.kind=3) (want:bJ) (hE:rG B c E res):cy prog bI 123 [.ptr c 0,fK x,cH want] ⟨B,T⟩ fun v S=>fF (some (x,cZ)) v∧S=⟨B,T⟩:=by
 obtain ⟨N,hn⟩:=aV B.length;have hi:c < N:=by have:=hE.1;omega
 have k1:decide (x.kind=1)=false:=af ak;have k2:decide (x.kind=2)=false:=af ak;have k3:decide (x.kind=3)=true:=ah ak;unfold fK cH;refine gL dK fun cG=>?_;simp only [fH] at cG;simp only [W,seval,dK,hn,k1,k2,k3];refine eR dK (Left.box ?_);exact ⟨fF.of x cZ true rfl rfl,rfl⟩
theorem YN {x:bh} (hk:x.kind=4) (hlen:x.kids.length≤50000) (hl:∀ y∈x.kids,kM E res y) (want:bJ) (hE:rG B c E res):cy prog bI 123 [.ptr c 0,fK x,cH want] ⟨B,T⟩ fun v S=>fF ((dI E x.kids [cZ]).map fun l=>(bg x l,cZ)) v∧S=⟨B,T⟩:=by
 obtain ⟨N,hn⟩:=aV B.length;have hi:c < N:=by have:=hE.1;omega
 have k1:decide (x.kind=1)=false:=af ak;have k2:decide (x.kind=2)=false:=af ak;have k3:decide (x.kind=3)=false:=af ak;have k4:decide (x.kind=4)=true:=ah ak;have j4:=fun (J:bQ) T=>@xL E res c (B++J) T x.kids hl ak [cZ] .full hE.more;have sg:=fun (l:List bh) (J:bQ) T=>tL x l (B++J) T;unfold fK at sg ⊢;unfold cH;refine gL dK fun cG=>?_;simp only [fH] at cG;simp only [W,seval,dK,hn,bL,bC,Dl,Nat.reduceMul,k1,k2,k3,k4];refine cz (j4 _ _) ?_;rintro v _ ⟨hv,rfl⟩;obtain ⟨l,b,rfl,hw⟩:=vt hv;refine goN ?_;simp only [W,seval,dK,hn];refine aX (sg l _ _) ?_;refine goN ?_;simp only [W,seval,dK,hn];refine eR dK (Left.box ?_);refine ⟨fF.of (bg x l) cZ b rfl ?_,rfl⟩;rw [hw];cases b<;>rfl
theorem U5 {x:bh} {y:bh} (hk:x.kind=5) (hx:x.kids=[y]) (hy:y.kind=2) (want:bJ) (hE:rG B c E res):cy prog bI 123 [.ptr c 0,fK x,cH want] ⟨B,T⟩ fun v S=>fF (if (want.kind=3∨want.kind=4)∧y.int≤iQ want.kind+1 then some (bg x [setType y want],want) else none) v∧S=⟨B,T⟩:=by
 obtain ⟨N,hn⟩:=aV B.length;have hi:c < N:=by have:=hE.1;omega
 have k1:decide (x.kind=1)=false:=af ak;have k2:decide (x.kind=2)=false:=af ak;have k3:decide (x.kind=3)=false:=af ak;have k4:decide (x.kind=4)=false:=af ak;have k5:decide (x.kind=5)=true:=ah ak;have hm:=fun (J:bQ) T=>uJ want.kind (B++J) T;have Mo:=fun (J Z:bQ) T=>uJ want.kind (B++J++Z) T;have sg:=fun (l:List bh) tk (J Z:bQ) T=>s8 x l tk (B++J++Z) T;have ur:(x.kids.map eL)[0]? = some (eL y):=by rw [hx];rfl
 have Cy:(0:Int) < (x.kids.length:Int):=by rw [hx];simp
 have zh:0 < x.kids.length:=by rw [hx];simp
 have hy2:=ah hy;rw [dF] at ur
 have bW:[[D.int .i64 y.kind,.str y.text,.int .u64 y.int,.int .i64 want.kind,.str want.name,.sl (want.elem.map eH),.sl (gN y.names),.sl (y.kids.map eL)]]=[setType y want].map eL:=by
  cases y;rw [cw,dF];rfl
 unfold fK at sg ⊢;unfold cH
 by_cases h3:want.kind=3
 ·have e3:=ah h3;have Lu:iQ want.kind=2147483647:=by rw [h3];rfl
  rw [Lu] at Mo;refine gL dK fun cG=>?_;simp only [fH] at cG;simp only [W,seval,dK,hn,ur,Cy,zh,hy2,k1,k2,k3,k4,k5];refine dj 24 [] [N,N+1,N+4] ?_;simp (maxSteps:=4000000) only [W,seval,dK,xw,hn,bL,bC,Nat.reduceMul,bW,e3];refine bK (fun Z=>sg [setType y want] .full _ Z _) ?_;simp (maxSteps:=4000000) only [W,seval,dK,xw,hn,e3];refine bK (fun Z=>Mo _ Z _) ?_;simp (maxSteps:=4000000) only [W,seval,dK,xw,hn,e3];refine goN ?_;simp only [W,seval,dK,hn];refine eR dK (Left.box ?_);refine ⟨fF.of (bg x [setType y want]) want (decide (y.int≤2147483648)) rfl ?_,rfl⟩
  by_cases h:y.int≤2147483648
  ·rw [aD ⟨.inl h3,ak⟩,aD (ah h)]
  ·rw [aq (fun h'=>ak),aq (by rw [af h];decide)]
 have e3:=af h3
 by_cases h4:want.kind=4
 ·have e4:=ah h4;have Lu:iQ want.kind=9223372036854775807:=by rw [h4];rfl
  rw [Lu] at Mo;refine gL dK fun cG=>?_;simp only [fH] at cG;simp only [W,seval,dK,hn,ur,Cy,zh,hy2,k1,k2,k3,k4,k5];refine dj 24 [] [N,N+1,N+4] ?_;simp (maxSteps:=4000000) only [W,seval,dK,xw,hn,bL,bC,Nat.reduceMul,bW,e3,e4];refine bK (fun Z=>sg [setType y want] .full _ Z _) ?_;simp (maxSteps:=4000000) only [W,seval,dK,xw,hn,e3,e4];refine bK (fun Z=>Mo _ Z _) ?_;simp (maxSteps:=4000000) only [W,seval,dK,xw,hn,e3,e4];refine goN ?_;simp only [W,seval,dK,hn];refine eR dK (Left.box ?_);refine ⟨fF.of (bg x [setType y want]) want (decide (y.int≤9223372036854775808)) rfl ?_,rfl⟩
  by_cases h:y.int≤9223372036854775808
  ·rw [aD ⟨.inr h4,ak⟩,aD (ah h)]
  ·rw [aq (fun h'=>ak),aq (by rw [af h];decide)]
 have e4:=af h4;refine gL dK fun cG=>?_;simp only [fH] at cG;simp only [W,seval,dK,hn,ur,Cy,zh,hy2,k1,k2,k3,k4,k5];refine dj 24 [] [N,N+1,N+4] ?_;simp (maxSteps:=4000000) only [W,seval,dK,xw,hn,bL,bC,Nat.reduceMul,bW,e3,e4];refine bK (fun Z=>sg [setType y want] .full _ Z _) ?_;simp (maxSteps:=4000000) only [W,seval,dK,xw,hn,e3,e4];refine goN ?_;simp only [W,seval,dK,hn];refine eR dK (Left.box ?_);exact ⟨fF.of (bg x [setType y want]) want false rfl (by rw [aq (fun h=>ak)];rfl),rfl⟩
theorem YO {x:bh} {y:bh} (hk:x.kind=5) (hx:x.kids=[y]) (hy:y.kind ≠ 2) (ha:kM E res y) (want:bJ) (hE:rG B c E res):cy prog bI 123 [.ptr c 0,fK x,cH want] ⟨B,T⟩ fun v S=>fF (match bP E y want with | some (a,t)=>if jz t.kind=true then some (bg x [a],t) else none | none=>none) v∧S=⟨B,T⟩:=by
 obtain ⟨N,hn⟩:=aV B.length;have hi:c < N:=by have:=hE.1;omega
 have k1:decide (x.kind=1)=false:=af ak;have k2:decide (x.kind=2)=false:=af ak;have k3:decide (x.kind=3)=false:=af ak;have k4:decide (x.kind=4)=false:=af ak;have k5:decide (x.kind=5)=true:=ah ak;have sg:=fun (l:List bh) tk (J Z:bQ) T=>s8 x l tk (B++J++Z) T;have ur:(x.kids.map eL)[0]? = some (eL y):=by rw [hx];rfl
 have Cy:(0:Int) < (x.kids.length:Int):=by rw [hx];simp
 have zh:0 < x.kids.length:=by rw [hx];simp
 have hy2:=af hy;have qA:=fun (t:bJ) (J Z:bQ) T=>sB t (B++J++Z) T;rw [dF] at ur;unfold fK at sg ⊢;unfold cH at qA ⊢;refine gL dK fun cG=>?_;simp only [fH] at cG;simp only [W,seval,dK,hn,ur,Cy,zh,hy2,k1,k2,k3,k4,k5];refine dj 13 [11,12] [N,N+1] ?_;simp (maxSteps:=4000000) only [W,seval,dK,xw,hn,ur,Cy,zh];refine iW (fF.ne _) (fun Z=>ha want c _ _ (rG.more (J:=Z) (rG.more hE))) ?_;intro v hv;obtain ⟨a,t,q,rfl,hw⟩:=mJ hv;rw [hw];simp (maxSteps:=4000000) only [W,seval,dK,xw,hn,fK,cH,show N+4+1=N+5 from rfl];refine ⟨?_,?_⟩
 all_goals
  cases q
  ·refine goN ?_;simp only [W,seval,dK,hn];refine dj 12 [] [N,N+4,N+5] ?_;simp (maxSteps:=4000000) only [W,seval,dK,xw,hn,bL,bC,Nat.reduceMul,mw];refine bK (fun Z=>sg [a] .full _ Z _) ?_;simp (maxSteps:=4000000) only [W,seval,dK,xw,hn];refine goN ?_;simp only [W,seval,dK,hn];refine eR dK (Left.box ?_);exact ⟨fF.of (bg x [a]) t false rfl rfl,rfl⟩
  ·refine goN ?_;simp only [W,seval,dK,hn];refine dj 12 [] [N,N+4,N+5] ?_;simp (maxSteps:=4000000) only [W,seval,dK,xw,hn,bL,bC,Nat.reduceMul,mw];refine bK (fun Z=>sg [a] .full _ Z _) ?_;simp (maxSteps:=4000000) only [W,seval,dK,xw,hn];refine bK (fun Z=>qA t _ Z _) ?_;simp (maxSteps:=4000000) only [W,seval,dK,xw,hn];refine goN ?_;simp only [W,seval,dK,hn];refine eR dK (Left.box ?_);exact ⟨fF.of (bg x [a]) t (jz t.kind) rfl (by cases hk:jz t.kind<;>simp [hk]),rfl⟩
end
section
variable {E:fm} {res:List bJ} {c:Nat} {B:bQ} {T:eg}
theorem YP {x:bh} {a b:bh} (hk:x.kind=6) (hx:x.kids=[a,b]) (hr:0 < jO x.text) (ha:kM E res a) (hb:kM E res b) (Bl:a.kind=5→a.kids ≠ []) (want:bJ) (hE:rG B c E res):cy prog bI 123 [.ptr c 0,fK x,cH want] ⟨B,T⟩ fun v S=>fF ((vh (bP E a) (bP E b) (kL a) x.text want).map fun r=>(bg x [r.1,r.2.1],r.2.2)) v∧S=⟨B,T⟩:=by
 obtain ⟨N,hn⟩:=aV B.length;have hi:c < N:=by have:=hE.1;omega
 have k1:decide (x.kind=1)=false:=af ak;have k2:decide (x.kind=2)=false:=af ak;have k3:decide (x.kind=3)=false:=af ak;have k4:decide (x.kind=4)=false:=af ak;have k5:decide (x.kind=5)=false:=af ak;have k6:decide (x.kind=6)=true:=ah ak;have hbi:=fun (J:bQ) T=>@YG E res c (B++J) T x a b hx hr ha hb Bl want hE.more;unfold fK cH at hbi ⊢;refine gL dK fun cG=>?_;simp only [fH] at cG;simp only [W,seval,dK,hn,k1,k2,k3,k4,k5,k6];refine cz (hbi _ _) ?_;rintro v _ ⟨hv,rfl⟩;obtain ⟨y,t,q,rfl,hw⟩:=mJ hv;refine goN ?_;simp only [W,seval,dK,hn,fK,cH];refine eR dK (Left.box ?_);exact ⟨fF.of y t q rfl hw,rfl⟩
theorem YQ {x:bh} (hk:x.kind=7) (hT:mh E.su E.fu) (hl:∀ y∈x.kids,kM E res y) (hlen:x.kids.length≤50000) (want:bJ) (hE:rG B c E res):cy prog bI 123 [.ptr c 0,fK x,cH want] ⟨B,T⟩ fun v S=>fF (match qf E x with | some (y,[t])=>some (y,t) | _=>none) v∧S=⟨B,T⟩:=by
 obtain ⟨N,hn⟩:=aV B.length;have hi:c < N:=by have:=hE.1;omega
 have k1:decide (x.kind=1)=false:=af ak;have k2:decide (x.kind=2)=false:=af ak;have k3:decide (x.kind=3)=false:=af ak;have k4:decide (x.kind=4)=false:=af ak;have k5:decide (x.kind=5)=false:=af ak;have k6:decide (x.kind=6)=false:=af ak;have k7:decide (x.kind=7)=true:=ah ak;have O9:=fun (J:bQ) T=>@Lj E res c (B++J) T x hT hl ak hE.more;unfold fK at O9 ⊢;unfold cH;refine gL dK fun cG=>?_;simp only [fH] at cG;simp only [W,seval,dK,hn,k1,k2,k3,k4,k5,k6,k7];refine cz (O9 _ _) ?_;rintro v _ ⟨hv,rfl⟩;obtain ⟨y,ts,q,rfl,hw⟩:=U4 hv;cases q
 ·refine goN ?_;simp only [W,seval,dK,hn,fK,aO];refine eR dK (Left.box ?_);exact ⟨fF.of x eF false rfl (by rw [hw];rfl),rfl⟩
 ·rw [hw]
  by_cases h1:ts.length=1
  ·obtain ⟨t,rfl⟩:=je.1 h1;refine goN ?_;simp only [W,seval,dK,hn,fK,aK,cw,eB,eK];refine dj 5 [] [N+4] ?_;simp (maxSteps:=4000000) only [W,seval,dK,xw,hn];refine goN ?_;simp only [W,seval,dK,hn];refine eR dK (Left.box ?_);exact ⟨fF.of y t true rfl rfl,rfl⟩
  ·have e1:decide ((ts.length:Int)=1)=false:=af ak;refine goN ?_;simp only [W,seval,dK,hn,fK,aK,e1,aO];refine eR dK (Left.box ?_);refine ⟨fF.of x eF false rfl ?_,rfl⟩
   match ts,h1 with
   | [],_=>rfl
   | [t],h=>exact absurd rfl h
   | _ :: _ :: _,_=>rfl
theorem YR {x:bh} {y:bh} (hk:x.kind=8) (hx:x.kids=[y]) (ha:kM E res y) (Bl:y.kind=5→y.kids ≠ []) (want:bJ) (hE:rG B c E res):cy prog bI 123 [.ptr c 0,fK x,cH want] ⟨B,T⟩ fun v S=>fF (if kL y=true then (dz (bP E y x.type) x.type).map fun a=>(bg x [a],x.type) else match bP E y eF with | some (a,t)=>if jz t.kind=true then some (bg x [a],x.type) else none | none=>none) v∧S=⟨B,T⟩:=by
 obtain ⟨N,hn⟩:=aV B.length;have hi:c < N:=by have:=hE.1;omega
 have k1:decide (x.kind=1)=false:=af ak;have k2:decide (x.kind=2)=false:=af ak;have k3:decide (x.kind=3)=false:=af ak;have k4:decide (x.kind=4)=false:=af ak;have k5:decide (x.kind=5)=false:=af ak;have k6:decide (x.kind=6)=false:=af ak;have k7:decide (x.kind=7)=false:=af ak;have k8:decide (x.kind=8)=true:=ah ak;have ur:(x.kids.map eL)[0]? = some (eL y):=by rw [hx];rfl
 have Cy:(0:Int) < (x.kids.length:Int):=by rw [hx];simp
 have zh:0 < x.kids.length:=by rw [hx];simp
 have sg:=fun (l:List bh) tk (J Z:bQ) T=>s8 x l tk (B++J++Z) T;have hkA:=fun (l:List bh) (J Z:bQ) T=>tL x l (B++J++Z) T;have j4:=fun (J:bQ) T=>@xL E res c (B++J) T x.kids (by rw [hx];simpa using ha) (by rw [hx];simp) [x.type] .full hE.more;have qA:=fun (t:bJ) (J Z:bQ) T=>sB t (B++J++Z) T;have hli:=fun (J:bQ) T=>Px y Bl (B++J) T;have hy0:=fun (J Z:bQ) T=>cy.GL (m8.cons (.refl _) (m8.cons (.refl _) (m8.cons (xK 0 .full) .nil))) (ha eF c (B++J) T hE.more);have bW:[[D.int .i64 x.type.kind,.str x.type.name,.sl (x.type.elem.map eH)]]=[x.type].map eH:=by rw [cw,eK];rfl
 rw [dF] at ur;unfold fK at sg hkA hli hy0 ⊢;unfold cH at qA ⊢;cases Lm:kL y
 ·rw [Lm] at hli;rw [aq bH];refine gL dK fun cG=>?_;simp only [fH] at cG;simp only [W,seval,dK,hn,ur,Cy,zh,k1,k2,k3,k4,k5,k6,k7,k8];refine aX (hli _ _) ?_;refine goN ?_;simp only [W,seval,dK,hn,ur,Cy,zh];refine cz (hy0 _ [] _) ?_;rintro v _ ⟨hv,rfl⟩;obtain ⟨a,t,q,rfl,hw⟩:=mJ hv;rw [hw];cases q
  ·refine goN ?_;simp only [W,seval,dK,hn,fK,cH];refine dj 13 [] [N,N+4,N+5] ?_;simp (maxSteps:=4000000) only [W,seval,dK,xw,hn,bL,bC,Nat.reduceMul,mw];refine bK (fun Z=>sg [a] .full _ Z _) ?_;simp (maxSteps:=4000000) only [W,seval,dK,xw,hn];refine goN ?_;simp only [W,seval,dK,hn];refine eR dK (Left.box ?_);exact ⟨fF.of (bg x [a]) x.type false rfl rfl,rfl⟩
  ·refine goN ?_;simp only [W,seval,dK,hn,fK,cH];refine dj 13 [] [N,N+4,N+5] ?_;simp (maxSteps:=4000000) only [W,seval,dK,xw,hn,bL,bC,Nat.reduceMul,mw];refine bK (fun Z=>sg [a] .full _ Z _) ?_;simp (maxSteps:=4000000) only [W,seval,dK,xw,hn];refine bK (fun Z=>qA t _ Z _) ?_;simp (maxSteps:=4000000) only [W,seval,dK,xw,hn];refine goN ?_;simp only [W,seval,dK,hn];refine eR dK (Left.box ?_);exact ⟨fF.of (bg x [a]) x.type (jz t.kind) rfl (by cases hk:jz t.kind<;>simp [hk]),rfl⟩
 ·rw [Lm] at hli;rw [aD rfl];refine gL dK fun cG=>?_;simp only [fH] at cG;simp only [W,seval,dK,hn,ur,Cy,zh,k1,k2,k3,k4,k5,k6,k7,k8];refine aX (hli _ _) ?_;refine goN ?_;simp only [W,seval,dK,hn,bL,bC,Nat.reduceMul,bW];refine cz (j4 _ _) ?_;rintro v _ ⟨hv,rfl⟩;obtain ⟨l,q,rfl,hw⟩:=vt hv;rw [hx,N2] at hw;refine goN ?_;simp only [W,seval,dK,hn];refine dj 7 [] [N] ?_;simp (maxSteps:=4000000) only [W,seval,dK,xw,hn];refine bK (fun Z=>hkA l _ Z _) ?_;simp (maxSteps:=4000000) only [W,seval,dK,xw,hn];refine goN ?_;simp only [W,seval,dK,hn];refine eR dK (Left.box ?_);refine ⟨fF.of (bg x l) x.type q rfl ?_,rfl⟩
  revert hw
  cases dz (bP E y x.type) x.type<;>cases q<;>intro hw<;>first | (simp at hw;done) | rfl | skip
  rw [show l=_ from (ag hw).symm];rfl
theorem YS {x:bh} {y:bh} (hk:x.kind=9) (hT:mh E.su E.fu) (hx:x.kids=[y]) (ha:kM E res y) (want:bJ) (hE:rG B c E res):cy prog bI 123 [.ptr c 0,fK x,cH want] ⟨B,T⟩ fun v S=>fF (match bP E y eF with | some (a,t)=>(lO E.su t x.text).map fun f=>(bg x [a],f) | none=>none) v∧S=⟨B,T⟩:=by
 obtain ⟨N,hn⟩:=aV B.length;have hi:c < N:=by have:=hE.1;omega
 have k1:decide (x.kind=1)=false:=af ak;have k2:decide (x.kind=2)=false:=af ak;have k3:decide (x.kind=3)=false:=af ak;have k4:decide (x.kind=4)=false:=af ak;have k5:decide (x.kind=5)=false:=af ak;have k6:decide (x.kind=6)=false:=af ak;have k7:decide (x.kind=7)=false:=af ak;have k8:decide (x.kind=8)=false:=af ak;have k9:decide (x.kind=9)=true:=ah ak;have ur:(x.kids.map eL)[0]? = some (eL y):=by rw [hx];rfl
 have Cy:(0:Int) < (x.kids.length:Int):=by rw [hx];simp
 have zh:0 < x.kids.length:=by rw [hx];simp
 obtain ⟨hc,vv,hb,hv⟩:=id hE;have sg:=fun (l:List bh) tk (J Z:bQ) T=>s8 x l tk (B++J++Z) T;have hy0:=fun (J:bQ) T=>cy.GL (m8.cons (.refl _) (m8.cons (.refl _) (m8.cons (xK 0 .full) .nil))) (ha eF c (B++J) T hE.more);have wI:=fun (t:bJ) (J:bQ) T=>@GJ t x.text c (B++J) T E.su E.fu vv res hT fk (by rw [bt hc];exact hb);rw [dF] at ur;unfold fK at sg hy0 ⊢;unfold cH at wI ⊢;refine gL dK fun cG=>?_;simp only [fH] at cG;simp only [W,seval,dK,hn,ur,Cy,zh,k1,k2,k3,k4,k5,k6,k7,k8,k9];refine cz (hy0 _ _) ?_;rintro v _ ⟨hv,rfl⟩;obtain ⟨a,t,q,rfl,hw⟩:=mJ hv;rw [hw];refine goN ?_;simp only [W,seval,dK,hn,fK,cH];refine cz (wI t _ _) ?_;rintro v _ ⟨hv,rfl⟩;obtain ⟨f,g,rfl,JC⟩:=Dq hv;cases q
 ·refine goN ?_;simp only [W,seval,dK,hn,fK,cH];refine dj 10 [] [N,N+4,N+6] ?_;simp (maxSteps:=4000000) only [W,seval,dK,xw,hn,bL,bC,Nat.reduceMul,mw];refine bK (fun Z=>sg [a] .full _ Z _) ?_;simp (maxSteps:=4000000) only [W,seval,dK,xw,hn];refine goN ?_;simp only [W,seval,dK,hn];refine eR dK (Left.box ?_);exact ⟨fF.of (bg x [a]) f false rfl rfl,rfl⟩
 ·refine goN ?_;simp only [W,seval,dK,hn,fK,cH];refine dj 10 [] [N,N+4,N+6] ?_;simp (maxSteps:=4000000) only [W,seval,dK,xw,hn,bL,bC,Nat.reduceMul,mw];refine bK (fun Z=>sg [a] .full _ Z _) ?_;simp (maxSteps:=4000000) only [W,seval,dK,xw,hn];refine goN ?_;simp only [W,seval,dK,hn];refine eR dK (Left.box ?_);refine ⟨fF.of (bg x [a]) f g rfl ?_,rfl⟩;rw [JC];cases g<;>rfl
theorem U6 {x:bh} (hk:x.kind=14) (hT:mh E.su E.fu) (ht:TW x.type) (hns:x.names.length=x.kids.length) (hlen:x.kids.length≤50000) (hl:∀ y∈x.kids,kM E res y) (want:bJ) (hE:rG B c E res):cy prog bI 123 [.ptr c 0,fK x,cH want] ⟨B,T⟩ fun v S=>fF (if dH E.su x.type=true then ((x.names.mapM (lO E.su x.type)).bind (dI E x.kids)).map fun l=>(bg x l,x.type) else none) v∧S=⟨B,T⟩:=by
 obtain ⟨N,hn⟩:=aV B.length;have hi:c < N:=by have:=hE.1;omega
 have k1:decide (x.kind=1)=false:=af ak;have k2:decide (x.kind=2)=false:=af ak;have k3:decide (x.kind=3)=false:=af ak;have k4:decide (x.kind=4)=false:=af ak;have k5:decide (x.kind=5)=false:=af ak;have k6:decide (x.kind=6)=false:=af ak;have k7:decide (x.kind=7)=false:=af ak;have k8:decide (x.kind=8)=false:=af ak;have k9:decide (x.kind=9)=false:=af ak;have Yg:decide (x.kind=14)=true:=ah ak;have hma:=fun (J:bQ) T=>@YI E res c (B++J) T x hT hk ht hns hlen hl hE.more;unfold fK at hma ⊢;unfold cH;refine gL dK fun cG=>?_;simp only [fH] at cG;simp only [W,seval,dK,hn,k1,k2,k3,k4,k5,k6,k7,k8,k9,Yg];refine cz (hma _ _) ?_;rintro v _ ⟨hv,rfl⟩;obtain ⟨y,t,q,rfl,hw⟩:=mJ hv;refine goN ?_;simp only [W,seval,dK,hn,fK,cH];refine eR dK (Left.box ?_);exact ⟨fF.of y t q rfl hw,rfl⟩
theorem U7 {x:bh} {e:bJ} (hk:x.kind=15) (hT:mh E.su E.fu) (uq:x.type.elem=[e]) (ht:TW x.type) (hlen:x.kids.length≤50000) (hl:∀ y∈x.kids,kM E res y) (want:bJ) (hE:rG B c E res):cy prog bI 123 [.ptr c 0,fK x,cH want] ⟨B,T⟩ fun v S=>fF (if dH E.su x.type=true then (fh E x.kids e).map fun l=>(bg x l,x.type) else none) v∧S=⟨B,T⟩:=by
 obtain ⟨N,hn⟩:=aV B.length;have hi:c < N:=by have:=hE.1;omega
 have k1:decide (x.kind=1)=false:=af ak;have k2:decide (x.kind=2)=false:=af ak;have k3:decide (x.kind=3)=false:=af ak;have k4:decide (x.kind=4)=false:=af ak;have k5:decide (x.kind=5)=false:=af ak;have k6:decide (x.kind=6)=false:=af ak;have k7:decide (x.kind=7)=false:=af ak;have k8:decide (x.kind=8)=false:=af ak;have k9:decide (x.kind=9)=false:=af ak;have Yg:decide (x.kind=14)=false:=af ak;have k15:decide (x.kind=15)=true:=ah ak;have hma:=fun (J:bQ) T=>@YH E res c (B++J) T x e hT hk uq ht hlen hl hE.more;unfold fK at hma ⊢;unfold cH;refine gL dK fun cG=>?_;simp only [fH] at cG;simp only [W,seval,dK,hn,k1,k2,k3,k4,k5,k6,k7,k8,k9,Yg,k15];refine cz (hma _ _) ?_;rintro v _ ⟨hv,rfl⟩;obtain ⟨y,t,q,rfl,hw⟩:=mJ hv;refine goN ?_;simp only [W,seval,dK,hn,fK,cH];refine eR dK (Left.box ?_);exact ⟨fF.of y t q rfl hw,rfl⟩
theorem Dr {x:bh} {a:bh} {l:List bh} (hk:10≤x.kind∧x.kind≤13) (hx:x.kids=a :: l) (hlen:l.length≤50000) (ha:kM E res a) (hl:∀ y∈l,kM E res y) (hw:∀ w y t,bP E a w=some (y,t)→TW t) (want:bJ) (hE:rG B c E res):cy prog bI 123 [.ptr c 0,fK x,cH want] ⟨B,T⟩ fun v S=>fF ((kZ x.kind (bP E a) (fh E l) want).map fun r=>(bg x r.1,r.2)) v∧S=⟨B,T⟩:=by
 obtain ⟨N,hn⟩:=aV B.length;have hi:c < N:=by have:=hE.1;omega
 have k1:decide (x.kind=1)=false:=af ak;have k2:decide (x.kind=2)=false:=af ak;have k3:decide (x.kind=3)=false:=af ak;have k4:decide (x.kind=4)=false:=af ak;have k5:decide (x.kind=5)=false:=af ak;have k6:decide (x.kind=6)=false:=af ak;have k7:decide (x.kind=7)=false:=af ak;have k8:decide (x.kind=8)=false:=af ak;have k9:decide (x.kind=9)=false:=af ak;have Yg:decide (x.kind=14)=false:=af ak;have k15:decide (x.kind=15)=false:=af ak;have hma:=fun (J:bQ) T=>@RS E res c (B++J) T x a l hx hlen ha hl hw want hE.more;unfold fK cH at hma ⊢;refine gL dK fun cG=>?_;simp only [fH] at cG;simp only [W,seval,dK,hn,k1,k2,k3,k4,k5,k6,k7,k8,k9,Yg,k15];refine cz (hma _ _) ?_;rintro v _ ⟨hv,rfl⟩;obtain ⟨y,t,q,rfl,hw⟩:=mJ hv;refine goN ?_;simp only [W,seval,dK,hn,fK,cH];refine eR dK (Left.box ?_);exact ⟨fF.of y t q rfl hw,rfl⟩
end
inductive GW:bh→Prop
 | mk (x:bh):x.kids.length≤30000→(∀ y∈x.kids,GW y)→GW x
theorem GW.len {x:bh} (h:GW x):x.kids.length≤30000:=by cases h;assumption
theorem GW.r9 {x:bh} (h:GW x):∀ y∈x.kids,GW y:=by cases h;assumption
section
variable (E:fm) (w:bJ)
theorem AK (t:List UInt8):bP E (.mk 1 t 0 eF [] []) w=(kK ep.name E.vs t).map fun p=>(.mk 1 t 0 eF [] [],p.type):=by
 unfold bP;rw [if_neg bH,if_pos rfl]
theorem EF (i:Int):bP E (.mk 2 [] i eF [] []) w=if iQ w.kind=0∨iQ w.kind < i then none else some (.mk 2 [] i w [] [],w):=by
 unfold bP;rw [aq bH,aq bH,aq bH,aq bH,aq bH,aq bH,aq bH,aq bH,aq bH,aq bH,aq bH,aD (show kL (.mk 2 [] i eF [] [])=true from rfl)];rfl
theorem EG (i:Int):bP E (.mk 3 [] i eF [] []) w=some (.mk 3 [] i eF [] [],cZ):=by
 unfold bP;rw [if_pos rfl]
theorem EH (y:bh):bP E (.mk 4 [] 0 eF [] [y]) w=(dz (bP E y cZ) cZ).map fun a=>(.mk 4 [] 0 eF [] [a],cZ):=by
 conv=>lhs;unfold bP
 rw [aq bH,aq bH,aq bH,aq bH,aq bH,aq bH,aq bH,aq bH,aq bH,aq bH,aq bH,aq (by simp [kL]),aD rfl]
theorem EI (y:bh) (hy:y.kind ≠ 2):bP E (.mk 5 [] 0 eF [] [y]) w=match bP E y w with
 | some (a,t)=>if jz t.kind=true then some (.mk 5 [] 0 eF [] [a],t) else none
 | none=>none:=by
 conv=>lhs;unfold bP
 rw [aq bH,aq bH,aq bH,aq bH,aq bH,aq bH,aq bH,aq bH,aq bH,aq bH,aq bH,aq (by simp [kL,hy]),aq bH,aD rfl];rfl
theorem BU (y:bh) (hy:y.kind=2):bP E (.mk 5 [] 0 eF [] [y]) w=if (w.kind=3∨w.kind=4)∧y.int≤iQ w.kind+1 then some (.mk 5 [] 0 eF [] [setType y w],w) else none:=by
 conv=>lhs;unfold bP
 rw [aq bH,aq bH,aq bH,aq bH,aq bH,aq bH,aq bH,aq bH,aq bH,aq bH,aq bH,aD (by simp [kL,hy])];rfl
theorem EJ (t:List UInt8) (a b:bh):bP E (.mk 6 t 0 eF [] [a,b]) w=(vh (bP E a) (bP E b) (kL a) t w).map fun r=>(.mk 6 t 0 eF [] [r.1,r.2.1],r.2.2):=by
 conv=>lhs;unfold bP
 rw [aq bH,aq bH,aD rfl]
theorem EK (t:List UInt8) (ks:List bh):bP E (.mk 7 t 0 eF [] ks) w=match qf E (.mk 7 t 0 eF [] ks) with
 | some (y,[t])=>some (y,t)
 | _=>none:=by
 conv=>lhs;unfold bP
 rw [aq bH,aq bH,aq bH,aD rfl];unfold qf;dsimp only [bh.text,bh.kids];cases Cz (kK fL.name E.fu t) (dI E ks) with
 | none=>rfl
 | some r =>
  obtain ⟨l,ts⟩:=r
  match ts with
  | []=>rfl
  | [t]=>rfl
  | _ :: _ :: _=>rfl
theorem EL (k:Int) (y:bh):bP E (.mk 8 [] 0 (.mk k [] []) [] [y]) w=if kL y=true then (dz (bP E y (.mk k [] [])) (.mk k [] [])).map fun a=>(.mk 8 [] 0 (.mk k [] []) [] [a],.mk k [] []) else match bP E y eF with
 | some (a,t)=>if jz t.kind=true then some (.mk 8 [] 0 (.mk k [] []) [] [a],.mk k [] []) else none
 | none=>none:=by
 conv=>lhs;unfold bP
 rw [aq bH,aq bH,aq bH,aq bH,aq bH,aq bH,aq bH,aq bH,aq bH,aq bH,aq bH,aq (by simp [kL]),aq bH,aq bH];rfl
theorem AL (t:List UInt8) (y:bh):bP E (.mk 9 t 0 eF [] [y]) w=match bP E y eF with
 | some (a,u)=>(lO E.su u t).map fun f=>(.mk 9 t 0 eF [] [a],f)
 | none=>none:=by
 conv=>lhs;unfold bP
 rw [aq bH,aq bH,aq bH,aq bH,aD rfl];rfl
theorem EM (a b:bh):bP E (.mk 10 [] 0 eF [] [a,b]) w=match bP E a eF with
 | some (a,t)=>(ja t).bind fun e=>(dz (bP E b dh) dh).map fun b=>(.mk 10 [] 0 eF [] [a,b],e)
 | none=>none:=by
 conv=>lhs;unfold bP
 rw [aq bH,aq bH,aq bH,aq bH,aq bH,aq bH,aD rfl];rfl
theorem EN (a b c:bh):bP E (.mk 11 [] 0 eF [] [a,b,c]) w=match bP E a eF with
 | some (a,t)=>(ja t).bind fun _=>(dz (bP E b dh) dh).bind fun b=>(dz (bP E c dh) dh).map fun c=>(.mk 11 [] 0 eF [] [a,b,c],t)
 | none=>none:=by
 conv=>lhs;unfold bP
 rw [aq bH,aq bH,aq bH,aq bH,aq bH,aq bH,aq bH,aD rfl];rfl
theorem EO (a:bh):bP E (.mk 12 [] 0 eF [] [a]) w=match bP E a eF with
 | some (a,t)=>(ja t).map fun _=>(.mk 12 [] 0 eF [] [a],dh)
 | none=>none:=by
 conv=>lhs;unfold bP
 rw [aq bH,aq bH,aq bH,aq bH,aq bH,aD rfl];rfl
theorem ER (a b:bh):bP E (.mk 13 [] 0 eF [] [a,b]) w=match bP E a w with
 | some (a,t)=>(ja t).bind fun e=>(dz (bP E b e) e).map fun b=>(.mk 13 [] 0 eF [] [a,b],t)
 | none=>none:=by
 conv=>lhs;unfold bP
 rw [aq bH,aq bH,aq bH,aq bH,aq bH,aq bH,aq bH,aq bH,aD rfl];rfl
theorem ES (n:List UInt8) (ns:List (List UInt8)) (ks:List bh):bP E (.mk 14 [] 0 (.mk 7 n []) ns ks) w=if dH E.su (.mk 7 n [])=true then ((ns.mapM (lO E.su (.mk 7 n []))).bind (dI E ks)).map fun l=>(.mk 14 [] 0 (.mk 7 n []) ns l,.mk 7 n []) else none:=by
 conv=>lhs;unfold bP
 rw [aq bH,aq bH,aq bH,aq bH,aq bH,aq bH,aq bH,aq bH,aq bH,aD rfl]
theorem ET (t:bJ) (ks:List bh):bP E (.mk 15 [] 0 (.mk 8 [] [t]) [] ks) w=if dH E.su (.mk 8 [] [t])=true then (fh E ks t).map fun l=>(.mk 15 [] 0 (.mk 8 [] [t]) [] l,.mk 8 [] [t]) else none:=by
 conv=>lhs;unfold bP
 rw [aq bH,aq bH,aq bH,aq bH,aq bH,aq bH,aq bH,aq bH,aq bH,aq bH,aD rfl];rfl
end
structure YT (E:fm):Prop where
 t:mh E.su E.fu
 v:∀ p∈E.vs,TW p.type
theorem xM {α:Type} (nm:α→List UInt8):∀ {l:List α} {n:List UInt8} {x:α},kK nm l n=some x→x∈l
 | [],_,_,h=>by cases h
 | y :: l,n,x,h=>by
  unfold kK at h
  split at h
  ·rw [ag h];exact aI
  ·exact aU _ (xM nm h)
theorem U8 {E:fm} (hE:YT E) {t:bJ} {n:List UInt8} {f:bJ} (h:lO E.su t n=some f):TW f:=by
 unfold lO at h
 split at h
 case isFalse=>cases h
 split at h
 case h_2=>cases h
 rename_i s hs;obtain ⟨p,hp,rfl⟩:=aB.1 h;exact (hE.t.fl s (xM _ hs)).2 p (xM _ hp)
theorem YU {t e:bJ} (ht:TW t) (h:ja t=some e):TW e:=by
 unfold ja at h
 split at h
 case isFalse=>cases h
 rename_i h8;cases ht with
 | leaf k n es hk=>exact absurd h8 hk
 | sl n u hu=>obtain rfl:u=e:=ag h;exact hu
theorem U9 {t:bJ} (h:iQ t.kind ≠ 0):TW t:=by
 obtain ⟨k,n,es⟩:=t;refine .leaf k n es fun e=>h ?_;rw [show (bJ.mk k n es).kind=k from rfl,e];rfl
theorem YV {fa fb:bJ→Option (bh × bJ)} (ha:∀ w y t,fa w=some (y,t)→TW t) (hb:∀ w y t,fb w=some (y,t)→TW t) {la:Bool} {w:bJ} {a b:bh} {t:bJ} (h:pR fa fb la w=some (a,b,t)):TW t:=by
 unfold pR at h
 split at h
 ·split at h
  case h_2=>cases h
  rename_i y u hy;obtain ⟨z,hz,e⟩:=aB.1 h;obtain ⟨_,_,rfl⟩:=by simpa using e
  exact hb _ _ _ hy
 ·split at h
  case h_2=>cases h
  rename_i y u hy;obtain ⟨z,hz,e⟩:=aB.1 h;obtain ⟨_,_,rfl⟩:=by simpa using e
  exact ha _ _ _ hy
theorem AM:TW cZ:=.leaf 1 _ _ bH
theorem acy:TW dh:=.leaf 4 _ _ bH
theorem acz {fa fb:bJ→Option (bh × bJ)} (ha:∀ w y t,fa w=some (y,t)→TW t) (hb:∀ w y t,fb w=some (y,t)→TW t) {la:Bool} {tx:List UInt8} {w:bJ} {a b:bh} {t:bJ} (h:vh fa fb la tx w=some (a,b,t)):TW t:=by
 unfold vh at h
 split at h
 ·split at h
  ·obtain ⟨_,_,rfl⟩:=by simpa using h
   exact AM
  ·cases h
 split at h
 ·split at h
  case h_2=>cases h
  rename_i y u hy
  split at h
  case isFalse=>cases h
  obtain ⟨z,hz,e⟩:=aB.1 h;obtain ⟨_,_,rfl⟩:=by simpa using e
  exact ha _ _ _ hy
 split at h
 ·split at h
  case h_2=>cases h
  split at h
  case isFalse=>cases h
  obtain ⟨_,_,rfl⟩:=by simpa using h
  exact AM
 split at h
 ·split at h
  case h_2=>cases h
  split at h
  case isFalse=>cases h
  obtain ⟨_,_,rfl⟩:=by simpa using h
  exact AM
 ·split at h
  case h_2=>cases h
  rename_i y z u hy
  split at h
  case isFalse=>cases h
  obtain ⟨_,_,rfl⟩:=by simpa using h
  exact YV ha hb hy
theorem wY {E:fm} (hE:YT E) {d:Int} {x:bh} (hx:rF d x):∀ w y t,bP E x w=some (y,t)→TW t:=by
 induction hx with
 | SC d s h1 h2 =>
  intro w y t h;rw [AK] at h;obtain ⟨p,hp,e⟩:=aB.1 h;obtain ⟨_,rfl⟩:=aR e;exact hE.v p (xM _ hp)
 | num d i h1 h2 h3 =>
  intro w y t h;rw [EF] at h
  split at h
  ·cases h
  ·rename_i hn;obtain ⟨_,rfl⟩:=aR (ag h);exact U9 fun e=>hn (.inl e)
 | tru d i h1 h2 h3 =>
  intro w y t h;rw [EG] at h;obtain ⟨_,rfl⟩:=aR (ag h);exact AM
 | sgn d k z h1 h2 h3 ih =>
  intro w y t h;rcases h2 with rfl | rfl
  ·rw [EH] at h;obtain ⟨p,hp,e⟩:=aB.1 h;obtain ⟨_,rfl⟩:=aR e;exact AM
  ·by_cases hz:z.kind=2
   ·rw [BU E w z hz] at h
    split at h
    ·rename_i hn;obtain ⟨_,rfl⟩:=aR (ag h);refine U9 ?_;rcases hn.1 with h | h<;>rw [h]<;>decide
    ·cases h
   ·rw [EI E w z hz] at h
    split at h
    case h_2=>cases h
    rename_i a u ha
    split at h
    case isFalse=>cases h
    obtain ⟨_,rfl⟩:=aR (ag h);exact ih _ _ _ ha
 | bin d s a b h1 h2 ha hb Bp GX =>
  intro w y t h;rw [EJ] at h;obtain ⟨⟨p,q,r⟩,hp,e⟩:=aB.1 h;obtain ⟨_,rfl⟩:=aR e;exact acz Bp GX hp
 | cal d s ks h1 h2 h3 ih =>
  intro w y t h;rw [EK] at h
  split at h
  case h_2=>cases h
  rename_i z u hz;obtain ⟨_,rfl⟩:=aR (ag h);unfold qf Cz at hz;dsimp only [bh.text,bh.kids] at hz;cases hf:kK fL.name E.fu s with
  | none=>rw [hf] at hz;cases hz
  | some f =>
   rw [hf] at hz;dsimp only at hz;rw [Option.map_map] at hz;obtain ⟨l,hl,e⟩:=aB.1 hz;have e2:f.results=[u]:=(aR e).2;exact (hE.t.pa f (xM _ hf)).2.2.2 u (by rw [e2];exact List.mem_singleton_self _)
 | con d k z h1 h2 h3 h4 ih =>
  intro w y t h;rw [EL] at h;have hk:TW (.mk k [] []):=.leaf k _ _ ak
  split at h
  ·obtain ⟨p,hp,e⟩:=aB.1 h;obtain ⟨_,rfl⟩:=aR e;exact hk
  ·split at h
   case h_2=>cases h
   split at h
   case isFalse=>cases h
   obtain ⟨_,rfl⟩:=aR (ag h);exact hk
 | fld d s z h1 h2 h3 ih =>
  intro w y t h;rw [AL] at h
  split at h
  case h_2=>cases h
  obtain ⟨f,hf,e⟩:=aB.1 h;obtain ⟨_,rfl⟩:=aR e;exact U8 hE hf
 | idx d a b h1 h2 h3 Bp GX =>
  intro w y t h;rw [EM] at h
  split at h
  case h_2=>cases h
  rename_i a' u ha;obtain ⟨e,he,h⟩:=dX.1 h;obtain ⟨q,hq,h⟩:=aB.1 h;obtain ⟨_,rfl⟩:=aR h;exact YU (Bp _ _ _ ha) he
 | cut d a b c h1 h2 h3 h4 Bp GX ihc =>
  intro w y t h;rw [EN] at h
  split at h
  case h_2=>cases h
  rename_i a' u ha;obtain ⟨e,he,h⟩:=dX.1 h;obtain ⟨q,hq,h⟩:=dX.1 h;obtain ⟨r,hr,h⟩:=aB.1 h;obtain ⟨_,rfl⟩:=aR h;exact Bp _ _ _ ha
 | len d a h1 h2 Bp =>
  intro w y t h;rw [EO] at h
  split at h
  case h_2=>cases h
  obtain ⟨e,he,h⟩:=aB.1 h;obtain ⟨_,rfl⟩:=aR h;exact acy
 | app d a b h1 h2 h3 Bp GX =>
  intro w y t h;rw [ER] at h
  split at h
  case h_2=>cases h
  rename_i a' u ha;obtain ⟨e,he,h⟩:=dX.1 h;obtain ⟨q,hq,h⟩:=aB.1 h;obtain ⟨_,rfl⟩:=aR h;exact Bp _ _ _ ha
 | str d n ns ks h1 h2 h3 h4 h5 ih =>
  intro w y t h;rw [ES] at h
  split at h
  case isFalse=>cases h
  obtain ⟨q,hq,h⟩:=aB.1 h;obtain ⟨_,rfl⟩:=aR h;exact .leaf 7 _ _ bH
 | lis d u ks h1 h2 h3 ih =>
  intro w y t h;rw [ET] at h
  split at h
  case isFalse=>cases h
  obtain ⟨q,hq,h⟩:=aB.1 h;obtain ⟨_,rfl⟩:=aR h;exact .sl _ _ (TW.Au h2)
theorem uO {d:Int} {x:bh} (h:rF d x):x.kind=5→x.kids ≠ []:=by
 intro h5;cases h with
 | sgn d k y h1 h2 h3=>simp [bh.kids]
 | _=>exact absurd h5 (by simp [bh.kind])
theorem Lv {E:fm} {res:List bJ} (hE:YT E) {d:Int} {x:bh} (hx:rF d x):GW x→kM E res x:=by
 induction hx with
 | SC d s h1 h2 =>
  intro hs w c B T he;have:=@YJ E res c B T (.mk 1 s 0 eF [] []) rfl w he;rw [AK];exact this
 | num d i h1 h2 h3 =>
  intro hs w c B T he;have:=@YL E res c B T (.mk 2 [] i eF [] []) rfl w he;rw [EF];exact this
 | tru d i h1 h2 h3 =>
  intro hs w c B T he;have:=@YM E res c B T (.mk 3 [] i eF [] []) rfl w he;rw [EG];exact this
 | sgn d k z h1 h2 h3 ih =>
  intro hs w c B T he;have hz:kM E res z:=ih (hs.r9 z aI);rcases h2 with rfl | rfl
  ·have:=@YN E res c B T (.mk 4 [] 0 eF [] [z]) rfl (by simp [bh.kids]) (by simpa [bh.kids] using hz) w he;rw [show (bh.mk 4 [] 0 eF [] [z]).kids=[z] from rfl,N2,Option.map_map] at this;rw [EH];exact this
  ·by_cases hk:z.kind=2
   ·have:=@U5 E res c B T (.mk 5 [] 0 eF [] [z]) z rfl rfl hk w he;rw [BU E w z hk];exact this
   ·have:=@YO E res c B T (.mk 5 [] 0 eF [] [z]) z rfl rfl hk hz w he;rw [EI E w z hk];exact this
 | bin d s a b h1 h2 ha hb Bp GX =>
  intro hs w c B T he;have:=@YP E res c B T (.mk 6 s 0 eF [] [a,b]) a b rfl rfl h2 (Bp (hs.r9 a aI)) (GX (hs.r9 b (aU _ aI))) (uO ha) w he;rw [EJ];exact this
 | cal d s ks h1 h2 h3 ih =>
  intro hs w c B T he;have:=@YQ E res c B T (.mk 7 s 0 eF [] ks) rfl hE.t (fun y hy=>ih y hy (hs.r9 y hy)) (by have:=hs.len;omega) w he;rw [EK];exact this
 | con d k z h1 h2 h3 h4 ih =>
  intro hs w c B T he;have:=@YR E res c B T (.mk 8 [] 0 (.mk k [] []) [] [z]) z rfl rfl (ih (hs.r9 z aI)) (uO h4) w he;rw [EL];exact this
 | fld d s z h1 h2 h3 ih =>
  intro hs w c B T he;have:=@YS E res c B T (.mk 9 s 0 eF [] [z]) z rfl hE.t rfl (ih (hs.r9 z aI)) w he;rw [AL];exact this
 | idx d a b h1 h2 h3 Bp GX =>
  intro hs w c B T he;have:=@Dr E res c B T (.mk 10 [] 0 eF [] [a,b]) a [b] (by simp [bh.kind]) rfl dM (Bp (hs.r9 a List.mem_cons_self)) (by simpa using GX (hs.r9 b (List.mem_cons_of_mem _ List.mem_cons_self))) (wY hE h2) w he;rw [EM];refine cast ?_ this
  congr 1
  funext v S
  congr 2
  unfold kZ;rw [show (bh.mk 10 [] 0 eF [] [a,b]).kind=10 from rfl,aq bH];cases bP E a eF with
  | none=>rfl
  | some p =>
   obtain ⟨a',t⟩:=p;dsimp only;cases ja t with
   | none=>rfl
   | some e =>
    rw [dg,dg,aD rfl,aq bH,oQ,mK];cases dz (bP E b dh) dh<;>rfl
 | cut d a b c h1 h2 h3 h4 Bp GX ihc =>
  intro hs w cc B T he
  have:=@Dr E res cc B T (.mk 11 [] 0 eF [] [a,b,c]) a [b,c] (by simp [bh.kind]) rfl dM (Bp (hs.r9 a aI)) (by
   intro y hy;rcases bB.1 hy with rfl | hy
   ·exact GX (hs.r9 y (aU _ aI))
   ·obtain rfl:=bO.1 hy;exact ihc (hs.r9 y (aU _ (aU _ aI)))) (wY hE h2) w he
  rw [EN];refine cast ?_ this
  congr 1
  funext v S
  congr 2
  unfold kZ;rw [show (bh.mk 11 [] 0 eF [] [a,b,c]).kind=11 from rfl,aq bH];cases bP E a eF with
  | none=>rfl
  | some p =>
   obtain ⟨a',t⟩:=p;dsimp only;cases ja t with
   | none=>rfl
   | some e =>
    rw [dg,dg,aq bH,aq bH,aq bH,oQ,oQ,mK];cases dz (bP E b dh) dh<;>cases dz (bP E c dh) dh<;>rfl
 | len d a h1 h2 Bp =>
  intro hs w c B T he;have:=@Dr E res c B T (.mk 12 [] 0 eF [] [a]) a [] (by simp [bh.kind]) rfl dM (Bp (hs.r9 a aI)) (fun y hy=>absurd hy aT) (wY hE h2) w he;rw [EO];refine cast ?_ this
  congr 1
  funext v S
  congr 2
  unfold kZ;rw [show (bh.mk 12 [] 0 eF [] [a]).kind=12 from rfl,aq bH];cases bP E a eF with
  | none=>rfl
  | some p =>
   obtain ⟨a',t⟩:=p;dsimp only;cases ja t with
   | none=>rfl
   | some e =>
    rw [dg,aq bH,aD rfl,aq bH,mK];rfl
 | app d a b h1 h2 h3 Bp GX =>
  intro hs w c B T he;have:=@Dr E res c B T (.mk 13 [] 0 eF [] [a,b]) a [b] (by simp [bh.kind]) rfl dM (Bp (hs.r9 a List.mem_cons_self)) (by simpa using GX (hs.r9 b (List.mem_cons_of_mem _ List.mem_cons_self))) (wY hE h2) w he;rw [ER];refine cast ?_ this
  congr 1
  funext v S
  congr 2
  unfold kZ;rw [show (bh.mk 13 [] 0 eF [] [a,b]).kind=13 from rfl,aD rfl];cases bP E a w with
  | none=>rfl
  | some p =>
   obtain ⟨a',t⟩:=p;dsimp only;cases ja t with
   | none=>rfl
   | some e =>
    rw [dg,dg,aD rfl,aq bH,aq bH,oQ,mK];cases dz (bP E b e) e<;>rfl
 | str d n ns ks h1 h2 h3 h4 h5 ih =>
  intro hs w c B T he;have:=@U6 E res c B T (.mk 14 [] 0 (.mk 7 n []) ns ks) rfl hE.t (.leaf 7 _ _ bH) h3 (by have:=hs.len;omega) (fun y hy=>ih y hy (hs.r9 y hy)) w he;rw [ES];exact this
 | lis d u ks h1 h2 h3 ih =>
  intro hs w c B T he;have:=@U7 E res c B T (.mk 15 [] 0 (.mk 8 [] [u]) [] ks) u rfl hE.t rfl (.sl _ _ (TW.Au h2)) (by have:=hs.len;omega) (fun y hy=>ih y hy (hs.r9 y hy)) w he;rw [ET];exact this
section
variable {E:fm} {res:List bJ} {n c s f w:Nat} {B:bQ} {T:eg} {j lo hi:Nat} {A C:List V} {kv:V}
theorem YW {x:bh} (hx:x.kind=7) (hT:mh E.su E.fu) (hl:∀ y∈x.kids,kn E res y) (want:bJ) (h:ic B n c s f w E res j lo hi A C kv x):cy prog bI 135 [.ptr c 0,.ptr j A.length,cH want] ⟨B,T⟩ (ug (match qf E x with
 | some (y,[t])=>some (y,t)
 | _=>none) j lo hi A C kv B T):=by
 obtain ⟨N,hn⟩:=aV B.length;obtain ⟨al,jB⟩:=aV A.length;obtain ⟨X,hX⟩:=aV (A++ef x kv++C);obtain ⟨x0,x1,x2,x6,x7,x8,x9,sC,uh⟩:=jd hX.symm jB;have bW:=h.row;rw [hX] at bW;rw [hx] at x0;have nZ:=h.nl;have hj:j < N:=by have:=h.nb;omega
 have hf:=fun J=>GQ (T:=T) hT hl (h.more (J:=J));rw [jB] at hf ⊢;unfold cH;refine gL iR fun cG=>?_;simp only [fH] at cG;simp only [W,seval,iR,hn,hj,bW,x0,Int.reduceEq,cR,jA];refine cz (hf _) ?_;rintro v _ ⟨B1,rfl,hd,hv⟩;have eW:=hd.2.1;simp only [av,aP,aW,hn,bf,Nat.reduceAdd] at eW;have e1:iC j lo hi B.length B B1:=iC.new.step hd.1;have f1:=h.yD hd.1 (i:=N+1) ak (by simp [hn]);rw [gS hn] at f1;simp only [bX,cu] at f1;have lW:N+1 < B1.length:=ak;have e2:∀ Z,iC j lo hi B.length B (B1.set (N+1) Z):=fun Z=>e1.qI ak;cases hr:qf E x with
 | none =>
  rw [hr] at hv;obtain rfl:v=_:=hv;refine goN ?_;simp only [W,seval,iR,aO];refine aX (jc _ _) ?_;unfold cH;refine goN ?_;simp only [W,seval,iR,lW,f1];refine dx iR (bT (e2 _) ?_) (h1:=by simp only [W,seval,lW];exact rfl);exact ⟨_,rfl,.none (e2 _) rfl,eF,rfl⟩
 | some p =>
  obtain ⟨y,ts⟩:=p;rw [hr] at hv hd;obtain rfl:v=_:=hv
  by_cases h1:ts.length=1
  ·have g1:decide ((ts.length:Int)=1)=true:=ah ak;obtain ⟨t,rfl⟩:=je.1 h1;refine goN ?_;simp only [W,seval,iR,aK,bC,bL,eK,lW,f1,cR];refine dx iR (bT (e2 _) ?_) (h1:=by simp only [W,seval,lW];exact rfl);exact ⟨_,rfl,(h.more.done hd).fin (e2 _) nZ (fun i hi=>aj ak) fun z hz=>(ag hz).symm,rfl⟩
  ·have g1:decide ((ts.length:Int)=1)=false:=af ak
   have g2:(match (some (y,ts):Option (bh × List bJ)) with
    | some (y,[t])=>some (y,t)
    | _=>none)=none:=by
    match ts,h1 with
    | [],_=>rfl
    | [t],h1=>exact absurd rfl h1
    | _ :: _ :: _,_=>rfl
   rw [g2];refine goN ?_;simp only [W,seval,iR,aK,g1,aO];refine aX (jc _ _) ?_;unfold cH;refine goN ?_;simp only [W,seval,iR,lW,f1];refine dx iR (bT (e2 _) ?_) (h1:=by simp only [W,seval,lW];exact rfl);exact ⟨_,rfl,.none (e2 _) rfl,eF,rfl⟩
theorem YX {x a:bh} (hx:x.kind=9) (hk:x.kids=[a]) (hT:mh E.su E.fu) (ha:kn E res a) (want:bJ) (h:ic B n c s f w E res j lo hi A C kv x):cy prog bI 135 [.ptr c 0,.ptr j A.length,cH want] ⟨B,T⟩ (ug (match bP E a eF with
 | some (a,t)=>(lO E.su t x.text).map fun f=>(bg x [a],f)
 | none=>none) j lo hi A C kv B T):=by
 obtain ⟨N,hn⟩:=aV B.length;obtain ⟨al,jB⟩:=aV A.length;obtain ⟨X,hX⟩:=aV (A++ef x kv++C);obtain ⟨x0,x1,x2,x6,x7,x8,x9,sC,uh⟩:=jd hX.symm jB;have bW:=h.row;rw [hX] at bW;rw [hx] at x0;have nZ:=h.nl;have hj:j < N:=by have:=h.nb;omega
 have Mi:j < N+2:=ak;have jI:N+1 < N+2:=ak;obtain ⟨j1,m,cap,rfl,uV⟩:=h.bx (by rw [hk];simp);have i0:(0:Int) < (m:Int):=by rw [uV,hk];simp
 obtain ⟨lG,kD,A1,C1,uL,a1,⟨zw,CA⟩,k1,k2,k3⟩:=(h.more (J:=[jr want,vn])).vW (k:=0) (y:=a) (by rw [hk];rfl);rw [gk] at a1;rw [jB];unfold jr vn at *;unfold cH;refine gL iR fun cG=>?_;simp only [fH] at cG;simp only [W,seval,iR,hn,hj,bW,x0,Int.reduceEq,cR,jA];refine dj 12 [11] [j] ?_;simp (maxSteps:=4000000) only [W,seval,iR,xw,oE,hn,hj,bW,x7,i0];refine bK (fun Z=>jc _ _) ?_;simp (maxSteps:=4000000) only [W,seval,iR,xw,hn,cH];refine RM ha k1 eF a1 ?_;intro B1 t b0 hd eW tV p8;simp only [av,aP,aW,hn,bf,Nat.reduceAdd] at eW;have e3:iC j lo hi B.length B B1:=iC.new.step (k2 _ _ hd.1);have f1:=h.yD (k2 _ _ hd.1) (i:=N+1) ak (by simp [hn]);rw [gS hn] at f1;simp only [bX,cu] at f1;have g1:B1[j]? = (B++[[V.d (.int .i64 want.kind),.d (.str want.name),.d (.sl (want.elem.map eH))],[V.d (.int .i64 0),.d (.str []),.sl [] .full]])[j]?:=hd.1.2.1 j fk CA;have Ll:B1[j]? = some X:=by rw [g1,bt ak];exact bW
 have lW:N+1 < B1.length:=ak;have e4:∀ Z J,iC j lo hi B.length B (B1.set (N+1) Z++J):=fun Z J=>(e3.qI ak).app;have g4:∀ Z,(B1.set (N+1) Z)[N+1]? = some Z:=fun Z=>aC lW;have g7:∀ Z J,(B1.set (N+1) Z++J)[j]? = (B1++J)[j]?:=fun Z J=>by rw [bt (by rw [aG];omega),bt ak,aj ak]
 refine ⟨⟨g1,trivial⟩,?_⟩;unfold cH;simp (maxSteps:=4000000) only [W,seval,iR,xw,eW];refine ⟨g1,?_⟩;cases b0
 ·have hr:=p8 rfl;rw [hr];refine goN ?_;simp only [W,seval,iR,eW,aO];refine aX (jc _ _) ?_;unfold cH;refine goN ?_;simp only [W,seval,iR,eW,f1,jI];refine dx iR (bT (e4 _ _) ?_) (h1:=by simp only [W,seval,eW,jI,lW,g4];exact rfl);exact ⟨_,rfl,.none (e4 _ _) rfl,eF,rfl⟩
 obtain ⟨y,hr⟩:=tV rfl;rw [hr] at hd ⊢;dsimp only;have uN:=k3 B1 y hd;rw [hk] at uN;have hfi:=fun J Z=>Lq (T:=T) hT t x.text ((uN.k.more J).more Z);unfold cH at hfi;refine goN ?_;simp only [W,seval,iR,eW,aK];refine dj 9 [] [N+2,j] ?_;simp (maxSteps:=4000000) only [W,seval,iR,xw,eW,f1,jI,Mi,Ll,x1];refine iW (Ew.ex _) (fun Z=>hfi _ Z) ?_;intro v hv;refine ⟨sQ _ _,?_⟩
 have g5:∀ Z J,(B1.set (N+1) Z++J)[N+2]? = (B1++J)[N+2]?:=fun Z J=>by
  have h1:(B1.set (N+1) Z).length=N+2:=by rw [aG];exact eW
  rw [gp h1,gp eW]
 cases Mz:lO E.su t x.text with
 | none =>
  rw [Mz] at hv;obtain rfl:v=_:=hv;unfold cH;simp (maxSteps:=4000000) only [W,seval,iR,xw,eW,f1,jI];refine goN ?_;simp only [W,seval,iR,eW];refine dx iR (bT (e4 _ _) ?_) (h1:=by simp only [W,seval,eW,jI,lW,g4];exact rfl);exact ⟨_,rfl,.none (e4 _ _) rfl,eF,rfl⟩
 | some u =>
  rw [Mz] at hv;obtain rfl:v=_:=hv;unfold cH;simp (maxSteps:=4000000) only [W,seval,iR,xw,eW,f1,jI];refine goN ?_;simp only [W,seval,iR,eW];refine dx iR (bT (e4 _ _) ?_) (h1:=by simp only [W,seval,eW,jI,lW,g4];exact rfl);exact ⟨_,rfl,uN.fin (e4 _ _) nZ (fun i hi=>by rw [bt (by rw [aG];omega),aj ak]) fun z hz=>(ag hz).symm,rfl⟩
end
theorem PJ {α β:Type} (g:α→Option β):∀ l:List α,(l.map g).mapM id=l.mapM g
 | []=>rfl
 | x :: l=>by rw [cw,gQ,gQ,PJ g l];rfl
theorem Va (E:fm) (e:bJ):∀ l:List bh,vp E l (List.replicate l.length (some e))=fh E l e
 | []=>by unfold vp;exact (mK E e).symm
 | x :: l=>by
  rw [aP,cO,oQ];unfold vp;rw [Va E e l]
  all_goals (cases dz (bP E x e) e<;>rfl)
theorem Lw {E:fm} {res:List bJ} (hE:YT E) {d:Int} {x:bh} (hx:rF d x):GW x→kn E res x:=by
 induction hx with
 | SC d s h1 h2 =>
  intro hs w n c s' f w' B T j lo hi A C kv h;rw [AK];exact YE (x:=.mk 1 s 0 eF [] []) rfl w h
 | num d i h1 h2 h3 =>
  intro hs w n c s' f w' B T j lo hi A C kv h;rw [EF];refine AJ (x:=.mk 2 [] i eF [] []) (.inl rfl) (fun h=>by simp [bh.kind] at h) w h fun p q=>?_;rw [aD (show kL (.mk 2 [] i eF [] [])=true from rfl)];exact Li (x:=.mk 2 [] i eF [] []) (fun h=>by simp [bh.kind] at h) w h.more
 | tru d i h1 h2 h3 =>
  intro hs w n c s' f w' B T j lo hi A C kv h;rw [EG];exact YD (x:=.mk 3 [] i eF [] []) rfl w h
 | sgn d k z h1 h2 h3 ih =>
  intro hs w n c s' f w' B T j lo hi A C kv h;have hz:kn E res z:=ih (hs.r9 z aI);rcases h2 with rfl | rfl
  ·rw [EH];refine AJ (x:=.mk 4 [] 0 eF [] [z]) (.inr (.inl rfl)) (fun h=>by simp [bh.kind] at h) w h fun p q=>?_;rw [aq (by simp [kL])];exact Yz (x:=.mk 4 [] 0 eF [] [z]) rfl rfl hz w h.more
  ·by_cases hk:z.kind=2
   ·rw [BU E w z hk];refine AJ (x:=.mk 5 [] 0 eF [] [z]) (.inr (.inr (.inl rfl))) (fun _=>by simp [bh.kids]) w h fun p q=>?_;rw [aD (by simp [kL,hk])];exact Li (x:=.mk 5 [] 0 eF [] [z]) (fun _=>by simp [bh.kids]) w h.more
   ·rw [EI E w z hk];refine AJ (x:=.mk 5 [] 0 eF [] [z]) (.inr (.inr (.inl rfl))) (fun _=>by simp [bh.kids]) w h fun p q=>?_;rw [aq (by simp [kL,hk])];exact YB (x:=.mk 5 [] 0 eF [] [z]) rfl rfl hz w h.more
 | bin d s a b h1 h2 ha hb Bp GX =>
  intro hs w n c s' f w' B T j lo hi A C kv h;rw [EJ];have hA:=Bp (hs.r9 a aI);have hB:=GX (hs.r9 b (aU _ aI));refine YF (x:=.mk 6 s 0 eF [] [a,b]) rfl w h fun p q=>?_;rcases PG s h2 with ⟨g1,_⟩ | ⟨g1,g2,_,g3 | ⟨g3,g4⟩⟩ | ⟨g1,g2,_⟩ | ⟨g1,g2,g3,g4,_⟩
  ·exact RQ (x:=.mk 6 s 0 eF [] [a,b]) g1 rfl hA hB w h.more
  ·exact RN (x:=.mk 6 s 0 eF [] [a,b]) g1 g2 g3 rfl hA hB (uO ha) w h.more
  ·exact RO (x:=.mk 6 s 0 eF [] [a,b]) g1 g2 g3 g4 rfl hA hB (uO ha) w h.more
  ·exact RR (x:=.mk 6 s 0 eF [] [a,b]) g1 g2 rfl hA hB w h.more
  ·exact RP (x:=.mk 6 s 0 eF [] [a,b]) g1 g2 g3 g4 rfl hA hB (uO ha) w h.more
 | cal d s ks h1 h2 h3 ih =>
  intro hs w n c s' f w' B T j lo hi A C kv h;rw [EK];exact YW (x:=.mk 7 s 0 eF [] ks) rfl hE.t (fun y hy=>ih y hy (hs.r9 y hy)) w h
 | con d k z h1 h2 h3 h4 ih =>
  intro hs w n c s' f w' B T j lo hi A C kv h;rw [EL];refine AJ (x:=.mk 8 [] 0 (.mk k [] []) [] [z]) (.inr (.inr (.inr rfl))) (fun h=>by simp [bh.kind] at h) w h fun p q=>?_;rw [aq (by simp [kL])];exact YC (x:=.mk 8 [] 0 (.mk k [] []) [] [z]) rfl rfl (ih (hs.r9 z aI)) (uO h4) w h.more
 | fld d s z h1 h2 h3 ih =>
  intro hs w n c s' f w' B T j lo hi A C kv h;rw [AL];exact YX (x:=.mk 9 s 0 eF [] [z]) rfl rfl hE.t (ih (hs.r9 z aI)) w h
 | idx d a b h1 h2 h3 Bp GX =>
  intro hs w n c s' f w' B T j lo hi A C kv h;rw [EM];exact Dm (x:=.mk 10 [] 0 eF [] [a,b]) (.inl rfl) w h fun p q=>Yw (x:=.mk 10 [] 0 eF [] [a,b]) rfl rfl (Bp (hs.r9 a aI)) (GX (hs.r9 b (aU _ aI))) (wY hE h2) w h.more
 | cut d a b c h1 h2 h3 h4 Bp GX ihc =>
  intro hs w n c' s' f w' B T j lo hi A C kv h;rw [EN];exact Dm (x:=.mk 11 [] 0 eF [] [a,b,c]) (.inr (.inl rfl)) w h fun p q=>Yy (x:=.mk 11 [] 0 eF [] [a,b,c]) rfl rfl (Bp (hs.r9 a aI)) (GX (hs.r9 b (aU _ aI))) (ihc (hs.r9 c (aU _ (aU _ aI)))) (wY hE h2) w h.more
 | len d a h1 h2 Bp =>
  intro hs w n c s' f w' B T j lo hi A C kv h;rw [EO];exact Dm (x:=.mk 12 [] 0 eF [] [a]) (.inr (.inr (.inl rfl))) w h fun p q=>Yv (x:=.mk 12 [] 0 eF [] [a]) rfl rfl (Bp (hs.r9 a aI)) (wY hE h2) w h.more
 | app d a b h1 h2 h3 Bp GX =>
  intro hs w n c s' f w' B T j lo hi A C kv h;rw [ER];exact Dm (x:=.mk 13 [] 0 eF [] [a,b]) (.inr (.inr (.inr rfl))) w h fun p q=>Yx (x:=.mk 13 [] 0 eF [] [a,b]) rfl rfl (Bp (hs.r9 a aI)) (GX (hs.r9 b (aU _ aI))) (wY hE h2) w h.more
 | str d m ns ks h1 h2 h3 h4 h5 ih =>
  intro hs w n c s' f w' B T j lo hi A C kv h;rw [ES,← PJ,← PC];exact PE (x:=.mk 14 [] 0 (.mk 7 m []) ns ks) (.inl rfl) w h fun p q=>PD (x:=.mk 14 [] 0 (.mk 7 m []) ns ks) hE.t (.leaf 7 _ _ bH) (fun y hy=>ih y hy (hs.r9 y hy)) (by have:=hs.len;omega) _ (by rw [aS];exact h3) (.inl ⟨rfl,rfl⟩) h.more
 | lis d t ks h1 h2 h3 ih =>
  intro hs w n c s' f w' B T j lo hi A C kv h;rw [ET,← Va];exact PE (x:=.mk 15 [] 0 (.mk 8 [] [t]) [] ks) (.inr rfl) w h fun p q=>PD (x:=.mk 15 [] 0 (.mk 8 [] [t]) [] ks) hE.t (.sl _ t (TW.Au h2)) (fun y hy=>ih y hy (hs.r9 y hy)) (by have:=hs.len;omega) _ (by rw [qg];rfl) (.inr ⟨by simp [bh.kind],t,rfl,rfl⟩) h.more
def js (s:cL) (v1 v2 v3 v4 v5:V):List V:=[.d (.int .i64 s.kind),.d (.sl (gN s.names)),.d (.int .i64 s.type.kind),.d (.str s.type.name),.d (.sl (s.type.elem.map eH)),v1,v2,v3,v4,v5]
mutual
def oX (B:bQ):cL→Nat→Nat→List V→Prop
 | .mk k ns ty ls es b e cs=>fun lo hi r=>∃ (v1 v2 v3 v4 v5:V) (m1 m2 m3 m4:Nat),r=js (.mk k ns ty ls es b e cs) v1 v2 v3 v4 v5∧mY B ls lo m1 v1∧mY B es m1 m2 v2∧sY (j7 B b) b.length B m2 m3 v3∧sY (j7 B e) e.length B m3 m4 v4∧sY (nA B cs) cs.length B m4 hi v5
def j7 (B:bQ):List cL→Nat→Nat→List V→Prop
 | []=>fun lo hi _=>lo≤hi
 | x :: l=>fun lo hi X=>∃ r X' m,X=r++X'∧r.length=10∧lo≤m∧m≤hi∧oX B x lo m r∧j7 B l m hi X'
def qL (B:bQ):iB→Nat→Nat→List V→Prop
 | .mk i b=>fun lo hi r=>∃ v,r=[.d (.int .u64 i),v]∧sY (j7 B b) b.length B lo hi v
def nA (B:bQ):List iB→Nat→Nat→List V→Prop
 | []=>fun lo hi _=>lo≤hi
 | x :: l=>fun lo hi X=>∃ r X' m,X=r++X'∧r.length=2∧lo≤m∧m≤hi∧qL B x lo m r∧nA B l m hi X'
end
theorem qM (B:bQ):∀ (l:List cL) (lo hi:Nat) (X:List V),j7 B l lo hi X=gD 10 (oX B) l lo hi X
 | [],_,_,_=>by unfold j7 gD;rfl
 | x :: l,lo,hi,X=>by
  unfold j7 gD;simp only [qM B l]
theorem qN (B:bQ):∀ (l:List iB) (lo hi:Nat) (X:List V),nA B l lo hi X=gD 2 (qL B) l lo hi X
 | [],_,_,_=>by unfold nA gD;rfl
 | x :: l,lo,hi,X=>by
  unfold nA gD;simp only [qN B l]
def mP (B:bQ) (l:List cL) (lo hi:Nat) (v:V):Prop:=sY (j7 B l) l.length B lo hi v
def tP (B:bQ) (l:List iB) (lo hi:Nat) (v:V):Prop:=sY (nA B l) l.length B lo hi v
def CE (B:bQ) (x:cL) (lo m1 m2 m3 m4 hi:Nat) (v1 v2 v3 v4 v5:V):Prop:=mY B x.cq lo m1 v1∧mY B x.exprs m1 m2 v2∧mP B x.body m2 m3 v3∧mP B x.iS m3 m4 v4∧tP B x.cases m4 hi v5
theorem s9 {B:bQ} {x:cL} {lo hi:Nat} {r:List V}:oX B x lo hi r↔∃ (v1 v2 v3 v4 v5:V) (m1 m2 m3 m4:Nat),r=js x v1 v2 v3 v4 v5∧CE B x lo m1 m2 m3 m4 hi v1 v2 v3 v4 v5:=by
 cases x;unfold oX CE mP tP;rfl
theorem tc {B:bQ} {x:iB} {lo hi:Nat} {r:List V}:qL B x lo hi r↔∃ v,r=[.d (.int .u64 x.int),v]∧mP B x.body lo hi v:=by
 cases x;unfold qL mP;rfl
theorem CE.le {B:bQ} {x:cL} {lo m1 m2 m3 m4 hi:Nat} {v1 v2 v3 v4 v5:V} (h:CE B x lo m1 m2 m3 m4 hi v1 v2 v3 v4 v5):lo≤m1∧m1≤m2∧m2≤m3∧m3≤m4∧m4≤hi :=
 ⟨h.1.le,h.2.1.le,h.2.2.1.le,h.2.2.2.1.le,h.2.2.2.2.le⟩
mutual
theorem oX.frame {B B':bQ}:∀ (x:cL) {lo hi:Nat} {r:List V},oX B x lo hi r→(∀ i,lo≤i→i < hi→B'[i]? = B[i]?)→oX B' x lo hi r
 | .mk k ns ty ls es b e cs,lo,hi,r,h,hb=>by
  unfold oX at h ⊢;obtain ⟨v1,v2,v3,v4,v5,m1,m2,m3,m4,h0,h1,h2,h3,h4,h5⟩:=h;have l1:=h1.le;have l2:=h2.le;have l3:=h3.le;have l4:=h4.le;have l5:=h5.le
  exact ⟨v1,v2,v3,v4,v5,m1,m2,m3,m4,h0,h1.frame fun i a b=>hb i a ak,h2.frame fun i a b=>hb i ak ak,
   h3.frame (fun i a b=>hb i ak ak) fun a Y ha hf=>j7.frame b hf fun i c d=>hb i ak ak,
   h4.frame (fun i a b=>hb i ak ak) fun a Y ha hf=>j7.frame e hf fun i c d=>hb i ak ak,
   h5.frame (fun i a b=>hb i ak ak) fun a Y ha hf=>nA.frame cs hf fun i c d=>hb i ak ak⟩
theorem j7.frame {B B':bQ}:∀ (l:List cL) {lo hi:Nat} {X:List V},j7 B l lo hi X→(∀ i,lo≤i→i < hi→B'[i]? = B[i]?)→j7 B' l lo hi X
 | [],lo,hi,X,h,hb=>by
  unfold j7 at h ⊢;exact h
 | x :: l,lo,hi,X,h,hb=>by
  unfold j7 at h ⊢;obtain ⟨r,X',m,h1,h2,h3,h4,h5,h6⟩:=h;exact ⟨r,X',m,h1,h2,h3,h4,oX.frame x h5 fun i h7 h8=>hb i h7 ak,j7.frame l h6 fun i h7 h8=>hb i ak h8⟩
theorem qL.frame {B B':bQ}:∀ (x:iB) {lo hi:Nat} {r:List V},qL B x lo hi r→(∀ i,lo≤i→i < hi→B'[i]? = B[i]?)→qL B' x lo hi r
 | .mk i b,lo,hi,r,h,hb=>by
  unfold qL at h ⊢;obtain ⟨v,h0,h1⟩:=h;exact ⟨v,h0,h1.frame hb fun a Y ha hf=>j7.frame b hf fun i c d=>hb i ak ak⟩
theorem nA.frame {B B':bQ}:∀ (l:List iB) {lo hi:Nat} {X:List V},nA B l lo hi X→(∀ i,lo≤i→i < hi→B'[i]? = B[i]?)→nA B' l lo hi X
 | [],lo,hi,X,h,hb=>by
  unfold nA at h ⊢;exact h
 | x :: l,lo,hi,X,h,hb=>by
  unfold nA at h ⊢;obtain ⟨r,X',m,h1,h2,h3,h4,h5,h6⟩:=h;exact ⟨r,X',m,h1,h2,h3,h4,qL.frame x h5 fun i h7 h8=>hb i h7 ak,nA.frame l h6 fun i h7 h8=>hb i ak h8⟩
end
theorem mP.frame {B B':bQ} {l:List cL} {lo hi:Nat} {v:V} (h:mP B l lo hi v) (hb:∀ i,lo≤i→i < hi→B'[i]? = B[i]?):mP B' l lo hi v :=
 sY.frame h hb fun a Y ha hf=>j7.frame l hf fun i h3 h4=>hb i ak h4
theorem tP.frame {B B':bQ} {l:List iB} {lo hi:Nat} {v:V} (h:tP B l lo hi v) (hb:∀ i,lo≤i→i < hi→B'[i]? = B[i]?):tP B' l lo hi v :=
 sY.frame h hb fun a Y ha hf=>nA.frame l hf fun i h3 h4=>hb i ak h4
mutual
def I6:cL→cL
 | .mk k ns ty ls es b e cs=>.mk k ns ty (fU ls) (fU es) (nh b) (nh e) (uk cs)
def nh:List cL→List cL
 | []=>[]
 | x :: l=>I6 x :: nh l
def brC:iB→iB
 | .mk i b=>.mk i (nh b)
def uk:List iB→List iB
 | []=>[]
 | x :: l=>brC x :: uk l
end
theorem mA:∀ l:List cL,(nh l).length=l.length
 | []=>by simp [nh]
 | x :: l=>by simp [nh,mA l]
theorem wZ:∀ l:List iB,(uk l).length=l.length
 | []=>by simp [uk]
 | x :: l=>by simp [uk,wZ l]
theorem N3 {E:fm} {x y:bh} {ts:List bJ} (h:qf E x=some (y,ts)):mD y=mD x:=by
 unfold qf at h;obtain ⟨⟨l,ts'⟩,hr,e⟩:=aB.1 h;obtain rfl:=(aR e).1;unfold Cz at hr
 split at hr
 ·obtain ⟨l',hl,e⟩:=aB.1 hr;obtain rfl:=(aR e).1;cases x;have:=nx E _ _ _ hl;simp only [bg,mD];rw [show fU l' = fU _ from this];rfl
 ·cases hr
theorem vu {E:fm} {l l':List bh} {ts:List bJ} (h:iJ E l ts=some l'):fU l' = fU l:=by
 unfold iJ at h
 split at h
 ·rename_i x
  split at h
  ·split at h
   ·rename_i y rs hc
    split at h
    ·obtain rfl:=ag h;simp only [fU,N3 hc]
    ·cases h
   ·cases h
  ·exact nx E _ _ _ h
 ·exact nx E _ _ _ h
mutual
theorem N4 (su:List eZ) (fu:List fL) (res:List bJ):∀ (s:cL) (vs:List ep) (s':cL) (rZ:List ep),jb su fu res s vs=some (s',rZ)→I6 s' = I6 s
 | .mk k ns ty ls es b e cs,vs,s',rZ,h=>by
  unfold jb at h
  split at h
  ·split at h
   ·split at h
    ·obtain ⟨rfl,_⟩:=h;rfl
    ·cases h
   ·cases h
  split at h
  ·split at h
   ·obtain ⟨l,hl,e⟩:=aB.1 h;obtain rfl:=(aR e).1;simp only [I6,vu hl]
   ·cases h
  split at h
  ·obtain ⟨l,hl,e⟩:=aB.1 h;obtain rfl:=(aR e).1;simp only [I6,vu hl]
  split at h
  ·rename_i x
   split at h
   ·split at h
    ·rename_i x' t hx
     split at h
     ·split at h
      ·rename_i cs' we;obtain ⟨e',he,e⟩:=aB.1 h;obtain rfl:=(aR e).1;simp only [I6,fU,gO _ _ _ _ _ hx,CF su fu res _ cs vs cs' we,nB su fu res _ vs e' he]
      ·cases h
     ·cases h
    ·cases h
   ·split at h
    ·rename_i x' hx;obtain ⟨_,hx⟩:=m9 hx
     split at h
     ·rename_i b' hb;obtain ⟨e',he,e⟩:=aB.1 h;obtain rfl:=(aR e).1;simp only [I6,fU,gO _ _ _ _ _ hx,nB su fu res b vs b' hb,nB su fu res _ vs e' he]
     ·cases h
    ·cases h
  ·cases h
theorem nB (su:List eZ) (fu:List fL) (res:List bJ):∀ (l:List cL) (vs:List ep) (l':List cL),eD su fu res l vs=some l'→nh l' = nh l
 | [],vs,l',h=>by
  unfold eD at h;rw [← ag h]
 | s :: l,vs,l',h=>by
  unfold eD at h
  split at h
  ·rename_i s' rZ hs;obtain ⟨m,hm,rfl⟩:=aB.1 h;simp only [nh,N4 su fu res s vs s' rZ hs,nB su fu res l rZ m hm]
  ·cases h
theorem CF (su:List eZ) (fu:List fL) (res:List bJ) (top:Int):∀ (l:List iB) (vs:List ep) (l':List iB),jv su fu res top l vs=some l'→uk l' = uk l
 | [],vs,l',h=>by
  unfold jv at h;rw [← ag h]
 | .mk i b :: l,vs,l',h=>by
  unfold jv at h
  split at h
  ·cases h
  split at h
  ·rename_i b' hb;obtain ⟨m,hm,rfl⟩:=aB.1 h;simp only [uk,brC,nB su fu res b vs b' hb,CF su fu res top l vs m hm]
  ·cases h
end
theorem GY {f:Nat→Nat→List V→Prop} {g:List (List V)→Nat→Nat→List V→Prop} {n n':Nat} {B:bQ} {lo hi:Nat} {v:V} (h:sY f n B lo hi v) (hn:n=n') (ih:∀ a Y,f a hi Y→∃ B1 Y1,FY a hi B B1∧g B1 a hi Y1∧∀ u∈Y1,u∈Y∨fit 0 0 u=true)
 (hg:∀ B1 B2 a Y,g B1 a hi Y→(∀ i,a≤i→i < hi→B2[i]? = B1[i]?)→g B2 a hi Y):∃ B1,FY lo hi B B1∧sY (g B1) n' B1 lo hi v:=by
 subst hn;rcases h with ⟨g1,g2,g3⟩ | ⟨g1,j1,cap,Y,g2,g3,g4,g5,g6⟩
 ·exact ⟨B,.refl _ _ _,.inl ⟨g1,g2,g3⟩⟩
 ·obtain ⟨B1,Y1,i1,i2,i3⟩:=ih _ _ g6;have hj:B1[j1]? = some Y:=by rw [i1.2.1 j1 ak];exact g5
  exact ⟨B1.set j1 Y1,(i1.wide ak (aA _)).trans (.put g3 g4 hj i3),.inr ⟨g1,j1,cap,Y1,g2,g3,g4,aC (ai.1 hj).1,hg _ _ _ _ i2 fun i h7 h8=>aj ak⟩⟩
theorem I7 {l m:List bh} {B:bQ} {lo hi:Nat} {v:V} (h:mY B l lo hi v) (e:fU l=fU m):∃ B1,FY lo hi B B1∧mY B1 m lo hi v :=
 GY (g:=fun B=>rz B m) h (by rw [← oF l,← oF m,e]) (fun a Y hf=>IZ l m B a hi Y e hf) fun B1 B2 a Y h hb=>rz.frame m h hb
theorem RU {x y:cL} {v1 v2 v3 v4 v5:V}:∀ v∈js y v1 v2 v3 v4 v5,v∈js x v1 v2 v3 v4 v5∨fit 0 0 v=true:=by
 intro v hv;simp only [js,bB,aT,sK] at hv;rcases hv with rfl | rfl | rfl | rfl | rfl | rfl | rfl | rfl | rfl | rfl
 all_goals first
  | exact .inr rfl
  | exact .inl (by simp [js])
theorem RV {x y:cL} (h:I6 x=I6 y):fU x.cq=fU y.cq∧fU x.exprs=fU y.exprs∧nh x.body=nh y.body∧nh x.iS=nh y.iS∧uk x.cases=uk y.cases:=by
 cases x;cases y;simp only [I6,cL.mk.injEq] at h;exact ⟨h.2.2.2.1,h.2.2.2.2.1,h.2.2.2.2.2.1,h.2.2.2.2.2.2.1,h.2.2.2.2.2.2.2⟩
mutual
theorem AN:∀ (l m:List cL) (B:bQ) (lo hi:Nat) (X:List V),nh l=nh m→j7 B l lo hi X→∃ B1 X1,FY lo hi B B1∧j7 B1 m lo hi X1∧∀ v∈X1,v∈X∨fit 0 0 v=true
 | [],[],B,lo,hi,X,_,h=>⟨B,X,.refl _ _ _,h,fun _ hv=>.inl hv⟩
 | [],_ :: _,_,_,_,_,e,_=>by simp [nh] at e
 | _ :: _,[],_,_,_,_,e,_=>by simp [nh] at e
 | .mk k ns ty ls es b e cs :: l,y :: m,B,lo,hi,X,eq,h=>by
  simp only [nh,vM] at eq;obtain ⟨e1,e2⟩:=eq;unfold j7 at h;obtain ⟨r,X',q,rfl,h2,h3,h4,h5,h6⟩:=h;obtain ⟨v1,v2,v3,v4,v5,m1,m2,m3,m4,rfl,p1,p2,p3,p4,p5⟩:=s9.1 h5;have l1:=p1.le;have l2:=p2.le;have l3:=p3.le;have l4:=p4.le;have l5:=p5.le;obtain ⟨q1,q2,q3,q4,q5⟩:=RV e1;obtain ⟨B1,i1,o1⟩:=I7 p1 q1;obtain ⟨B2,i2,o2⟩:=I7 (p2.frame (B':=B1) fun i a _=>i1.2.1 i ak) q2;have f3:=p3.frame (B':=B2) fun i a _=>by rw [i2.2.1 i ak,i1.2.1 i ak]
  obtain ⟨B3,i3,o3⟩:=GY (g:=fun B=>j7 B y.body) (n':=y.body.length) f3 (by rw [← mA,← mA y.body,q3]) (fun a Y hf=>AN b y.body B2 a m3 Y q3 hf) fun B1 B2 a Y h hb=>j7.frame _ h hb;have f4:=p4.frame (B':=B3) fun i a _=>by rw [i3.2.1 i ak,i2.2.1 i ak,i1.2.1 i ak]
  obtain ⟨B4,i4,o4⟩:=GY (g:=fun B=>j7 B y.iS) (n':=y.iS.length) f4 (by rw [← mA,← mA y.iS,q4]) (fun a Y hf=>AN e y.iS B3 a m4 Y q4 hf) fun B1 B2 a Y h hb=>j7.frame _ h hb;have f5:=p5.frame (B':=B4) fun i a _=>by rw [i4.2.1 i ak,i3.2.1 i ak,i2.2.1 i ak,i1.2.1 i ak]
  obtain ⟨B5,i5,o5⟩:=GY (g:=fun B=>nA B y.cases) (n':=y.cases.length) f5 (by rw [← wZ,← wZ y.cases,q5]) (fun a Y hf=>PK cs y.cases B4 a q Y q5 hf) fun B1 B2 a Y h hb=>nA.frame _ h hb;have iq:FY lo q B B5:=(i1.wide (aA _) ak).trans ((i2.wide ak ak).trans ((i3.wide ak ak).trans ((i4.wide ak ak).trans (i5.wide ak (aA _)))))
  have oP:CE B5 y lo m1 m2 m3 m4 q v1 v2 v3 v4 v5 :=
   ⟨o1.frame fun i a _=>by rw [i5.2.1 i ak,i4.2.1 i ak,i3.2.1 i ak,i2.2.1 i ak],
    o2.frame fun i a _=>by rw [i5.2.1 i ak,i4.2.1 i ak,i3.2.1 i ak],
    mP.frame o3 fun i a _=>by rw [i5.2.1 i ak,i4.2.1 i ak],
    mP.frame o4 fun i a _=>by rw [i5.2.1 i ak],o5⟩
  obtain ⟨B6,X2,j1,j2,j3⟩:=AN l m B5 q hi X' e2 (j7.frame l h6 fun i h7 h8=>iq.2.1 i ak);refine ⟨B6,js y v1 v2 v3 v4 v5++X2,(iq.wide (aA _) h4).trans (j1.wide h3 (aA _)),?_,fun v hv=>?_⟩
  ·unfold j7;exact ⟨_,X2,q,rfl,rfl,h3,h4,oX.frame y (s9.2 ⟨v1,v2,v3,v4,v5,m1,m2,m3,m4,rfl,oP⟩) fun i h7 h8=>j1.2.1 i ak,j2⟩
  ·rcases dA.1 hv with hv | hv
   ·exact (RU v hv).imp (fun h=>eO _ h) id
   ·exact (j3 v hv).imp (fun h=>iA _ h) id
termination_by l=>SizeOf.sizeOf l
theorem PK:∀ (l m:List iB) (B:bQ) (lo hi:Nat) (X:List V),uk l=uk m→nA B l lo hi X→∃ B1 X1,FY lo hi B B1∧nA B1 m lo hi X1∧∀ v∈X1,v∈X∨fit 0 0 v=true
 | [],[],B,lo,hi,X,_,h=>⟨B,X,.refl _ _ _,h,fun _ hv=>.inl hv⟩
 | [],_ :: _,_,_,_,_,e,_=>by simp [uk] at e
 | _ :: _,[],_,_,_,_,e,_=>by simp [uk] at e
 | .mk n b :: l,.mk n' b' :: m,B,lo,hi,X,eq,h=>by
  simp only [uk,brC,vM,iB.mk.injEq] at eq;obtain ⟨⟨rfl,e1⟩,e2⟩:=eq;unfold nA at h;obtain ⟨r,X',q,rfl,h2,h3,h4,h5,h6⟩:=h;obtain ⟨v,rfl,p1⟩:=tc.1 h5;obtain ⟨B3,i3,o3⟩:=GY (g:=fun B=>j7 B b') (n':=b'.length) p1 (by rw [← mA,← mA b',← e1];rfl) (fun a Y hf=>AN b b' B a q Y e1 hf) fun B1 B2 a Y h hb=>j7.frame _ h hb;obtain ⟨B6,X2,j1,j2,j3⟩:=PK l m B3 q hi X' e2 (nA.frame l h6 fun i h7 h8=>i3.2.1 i ak);refine ⟨B6,[.d (.int .u64 n),v]++X2,(i3.wide (aA _) h4).trans (j1.wide h3 (aA _)),?_,fun u hu=>?_⟩
  ·unfold nA;exact ⟨_,X2,q,rfl,rfl,h3,h4,qL.frame _ (tc.2 ⟨v,rfl,o3⟩) fun i h7 h8=>j1.2.1 i ak,j2⟩
  ·rcases dA.1 hu with hu | hu
   ·exact .inl (eO _ hu)
   ·exact (j3 u hu).imp (fun h=>iA _ h) id
termination_by l=>SizeOf.sizeOf l
end
theorem YY {l m:List cL} {B:bQ} {lo hi:Nat} {v:V} (h:mP B l lo hi v) (e:nh l=nh m):∃ B1,FY lo hi B B1∧mP B1 m lo hi v :=
 GY (g:=fun B=>j7 B m) h (by rw [← mA l,← mA m,e]) (fun a Y hf=>AN l m B a hi Y e hf) fun B1 B2 a Y h hb=>j7.frame m h hb
def qO:=KB func110 65
structure uP (B:bQ) (n c s f w:Nat) (E:fm) (res:List bJ) (lo hi:Nat) (v:V) (l:List bh):Prop where
 k:Ax B c s f w E res
 own:mY B l lo hi v
 oc:c < lo∨hi≤c
 os:s < lo∨hi≤s
 of:f < lo∨hi≤f
 ow:w < lo∨hi≤w
 nb:c < n∧s < n∧f < n∧w < n∧hi≤n
 nl:n≤B.length
def Vb (lo hi:Nat) (v:V) (B B':bQ) (r:Option (List bh)):Prop:=iC B.length lo hi B.length B B'∧B'.length=B.length∧∀ l,r=some l→mY B' l lo hi v
def vaG (r:Option (List bh)) (lo hi:Nat) (v:V) (B:bQ) (T:eg) (u:V) (S':Mem):Prop :=
 ∃ B',S' = ⟨B',T⟩∧Vb lo hi v B B' r∧u = .d (.bool r.isSome)
theorem Ly:∀ a b:List bJ,Ij rq a b=ir a b
 | [],[]=>by unfold ir;rfl
 | [],_ :: _=>by unfold ir;rfl
 | _ :: _,[]=>by unfold ir;rfl
 | x :: a,y :: b=>by
  unfold ir Ij;dsimp only;rw [Ly a b]
theorem N5 (E:fm):dI E [] []=some []:=by unfold dI;rfl
theorem w6 (E:fm) (x:bh) (ts:List bJ):iJ E [x] ts=if 1 < ts.length∧x.kind=7 then (match qf E x with
 | some (y,rs)=>if ir rs ts=true then some [y] else none
 | none=>none) else dI E [x] ts:=rfl
structure afS where
 i:Nat
 ys:List bh
 B:List (List V)
section
variable {E:fm} {res:List bJ} {n c s f w:Nat} {B:bQ} {T:eg} {lo hi:Nat} {v:V}
theorem uP.mem {B':bQ} {l:List bh} (h:uP B n c s f w E res lo hi v l) (hl:B.length≤B'.length) (he:∀ i,i < n→B'[i]? = B[i]?):uP B' n c s f w E res lo hi v l:=by
 obtain ⟨n1,n2,n3,n4,n5⟩:=h.nb;exact ⟨h.k.jC (he _ n1) (he _ n2) (he _ n3) (he _ n4),h.own.frame fun i _ hi=>he i ak,h.oc,h.os,h.of,h.ow,h.nb,by have:=h.nl;omega⟩
theorem uP.more {J:bQ} {l:List bh} (h:uP B n c s f w E res lo hi v l):uP (B++J) n c s f w E res lo hi v l :=
 h.mem dM fun i hi=>bt (eS hi h.nl)
theorem uP.WD {B':bQ} {J:Nat} {l l':List bh} (h:uP B n c s f w E res lo hi v l) (hJ:n≤J) (he:iC J lo hi n B B') (ho:mY B' l' lo hi v):uP B' n c s f w E res lo hi v l':=by
 obtain ⟨n1,n2,n3,n4,n5⟩:=h.nb;exact ⟨h.k.jC (he.2.1 _ n1 ⟨ak,h.oc⟩) (he.2.1 _ n2 ⟨ak,h.os⟩) (he.2.1 _ n3 ⟨ak,h.of⟩) (he.2.1 _ n4 ⟨ak,h.ow⟩),ho,h.oc,h.os,h.of,h.ow,h.nb,by have:=h.nl;have:=he.1;omega⟩
theorem uP.bx {l:List bh} (h:uP B n c s f w E res lo hi v l) (hn:l ≠ []):∃ j1 m cap,v = .bx j1 m cap∧m=l.length:=by
 rcases h.own with ⟨h0,_⟩ | ⟨_,j1,cap,Y,h1,_⟩
 ·exact absurd (jP.1 h0) hn
 ·exact ⟨j1,_,cap,h1,rfl⟩
theorem uP.r9 {j1 m cap:Nat} {l:List bh} {y:bh} (h:uP B n c s f w E res lo hi (.bx j1 m cap) l) {k:Nat} (hk:l[k]? = some y) :
 ∃ (lG kD:Nat) (A1 C1:List V) (uL:V),A1.length=k * 8∧ic B n c s f w E res j1 lG kD A1 C1 uL y ∧
  (∀ J B1 q,iC j1 lG kD q B B1→iC J lo hi q B B1) ∧
  ∀ B1 z,sZ j1 lG kD A1 C1 uL B B1 (some z)→uP B1 n c s f w E res lo hi (.bx j1 m cap) (l.set k z):=by
 have bu:=(ai.1 hk).1;rcases h.own with ⟨h0,_⟩ | ⟨hn,j1',gF,Y,h1,h2,h3,h4,h5⟩
 ·omega
 obtain ⟨rfl,rfl,rfl⟩:=V.bx.inj h1;rw [qH] at h5;obtain ⟨A1,r,C1,lG,kD,e1,e2,e3,e4,e5,e6,e7,e8⟩:=h5.at k y hk;obtain ⟨uL,rfl,hv⟩:=pT.1 e7;obtain ⟨n1,n2,n3,n4,n6⟩:=h.nb;have sub:∀ i,(i < lo∨hi≤i)→Out j1 lG kD i:=fun i hi=>⟨ak,ak⟩;have hE:∀ J B1 q,iC j1 lG kD q B B1→iC J lo hi q B B1:=fun J B1 q he=>he.sub h2 h3 ak e6;refine ⟨lG,kD,A1,C1,uL,e2,⟨h.k,by rw [h4,e1],hv,ak,sub _ h.oc,sub _ h.os,sub _ h.of,sub _ h.ow,⟨n1,n2,n3,n4,ak,ak⟩,h.nl⟩,hE,fun B1 z hd=>?_⟩;have he:=hd.1.less h.nl;refine h.WD (aA n) (hE n _ _ he) (.inr ⟨by rw [aG];exact hn,j1,cap,_,by rw [aG],h2,h3,(hd.2.2 z rfl).1,?_⟩);rw [qH];refine e8 (pS B1) z _ rfl (pT.2 ⟨_,rfl,(hd.2.2 z rfl).2⟩) fun u _ a b q ha hb hc hf=>pS.frame u hf fun i h7 h8=>he.2.1 i ak ⟨ak,ak⟩
theorem Vb.refl {r:Option (List bh)} (hr:r=none):Vb lo hi v B B r:=⟨.refl _ _ _ _ _,rfl,fun z hz=>by rw [hr] at hz;cases hz⟩
theorem vaG.ne {l:List bh} (h:uP B n c s f w E res lo hi v l) (ts:List bJ):∃ u S',vaG (iJ E l ts) lo hi v B T u S':=by
 cases hr:iJ E l ts with
 | none=>exact ⟨_,_,B,rfl,.refl rfl,rfl⟩
 | some m =>
  obtain ⟨B1,i1,i2⟩:=I7 h.own (vu hr).symm;exact ⟨_,_,B1,rfl,⟨⟨by rw [i1.1];exact aA _,fun i _ ho=>i1.2.1 i (by have:=ho.2;omega),fun i _=>i1.2.2 i⟩,i1.1,fun l hl=>by rw [← ag hl];exact i2⟩,rfl⟩
structure VOk (E:fm) (res:List bJ) (n c s f w lo hi:Nat) (v:V) (l:List bh) (ts:List bJ) (B:bQ) (a:afS):Prop where
 le:a.i≤l.length
 le':a.i≤ts.length
 len:a.ys.length=a.i
 WD:iC B.length lo hi B.length B a.B
 bl:a.B.length=B.length
 at':uP a.B n c s f w E res lo hi v (a.ys++l.drop a.i)
 res:l.length=ts.length→(dI E (l.drop a.i) (ts.drop a.i)).map (a.ys++·)=dI E l ts
theorem GZ {l:List bh} (hT:mh E.su E.fu) (hl:∀ y∈l,kn E res y) (Mn:∀ y∈l,∀ z∈y.kids,kn E res z) (hlen:l.length≤60000) (ts:List bJ) (h:uP B n c s f w E res lo hi v l):cy prog bI 110 [.ptr c 0,v,.d (.sl (ts.map eH))] ⟨B,T⟩ (vaG (iJ E l ts) lo hi v B T):=by
 obtain ⟨N,hn⟩:=aV B.length;have nZ:=h.nl;have F1:=I2 h.own;rw [mM.eq_1,GP] at F1;have nQ:∀ M:List (List V),M.length=B.length→M.take B.length=M:=fun M hM=>bS ak
 have main:iJ E l ts=dI E l ts→az prog bI (N,T.length) 110 [.code (.loop (kF f110 17)),.inBlock 0,.code (kF f110 35)] (cN 65 [(0,.ptr c 0),(1,v),(2,.d (.sl (ts.map eH))),(38,v),(39,.d (.int .i64 (l.length:Int))),(40,.d (.int .i64 0))]) ⟨B,T⟩ (Go.Ab.Left ⟨B,T⟩ (vaG (iJ E l ts) lo hi v B T)):=by
  intro hv;rw [hv];refine az.dL (fun a:afS=>(cN 65 [(0,.ptr c 0),(1,v),(2,.d (.sl (ts.map eH))),(39,.d (.int .i64 (l.length:Int))),(40,.d (.int .i64 (a.i:Int)))],⟨a.B,T⟩)) (VOk E res n c s f w lo hi v l ts B) (fun a=>l.length - a.i) ⟨0,[],B⟩ ⟨Nat.zero_le _,Nat.zero_le _,rfl,.refl _ _ _ _ _,rfl,by simpa using h,fun _=>dM⟩ cx rfl ?_;rintro ⟨i,ys,Bi⟩ ⟨h2,h2',h3,h4,h5,h6,h7⟩ ih;dsimp only at h2 h2' h3 h4 h5 h6 h7 ih ⊢;have hbi:Bi.length=N:=h5.trans hn
  by_cases bu:i < l.length
  case neg =>
   have e2:decide ((i:Int) < (l.length:Int))=false:=af ak;obtain rfl:i=l.length:=ak;rw [ay (aA _),aQ] at h6
   by_cases sq:l.length=ts.length
   ·have e3:decide ((l.length:Int)=(ts.length:Int))=true:=ah ak;have h7:=h7 sq;rw [ay (aA _),ay ak] at h7;rw [N5,cJ,aQ] at h7;refine goN ?_;simp only [W,seval,qO,e2,F1,e3];refine bN qO (bT h4 ?_);rw [nQ _ h5,← h7];exact ⟨_,rfl,⟨h4,h5,fun m hm=>by rw [← ag hm];exact h6.own⟩,rfl⟩
   ·have e3:decide ((l.length:Int)=(ts.length:Int))=false:=af ak;refine goN ?_;simp only [W,seval,qO,e2,F1,e3];refine bN qO (bT h4 ?_);rw [nQ _ h5,qK E _ _ sq];exact ⟨_,rfl,⟨h4,h5,fun m hm=>by cases hm⟩,rfl⟩
  have e2:decide ((i:Int) < (l.length:Int))=true:=ah ak;have ie:=bE ((i:Int)+1) ak
  by_cases Vc:i < ts.length
  case neg =>
   have e3:decide ((ts.length:Int)≤(i:Int))=true:=ah ak;refine goN ?_;simp only [W,seval,qO,e2];refine dj 16 [] [] ?_;simp (maxSteps:=4000000) only [W,seval,qO,xw,e3,aK,aO];refine goN ?_;simp only [W,seval,qO];refine bN qO (bT h4 ?_);rw [nQ _ h5,qK E _ _ ak];exact ⟨_,rfl,⟨h4,h5,fun m hm=>by cases hm⟩,rfl⟩
  have e3:decide ((ts.length:Int)≤(i:Int))=false:=af ak;obtain ⟨y,hy⟩:=aV (l[i]);obtain ⟨t,ht⟩:=aV (ts[i]);have jU:=hl l[i] (aH bu);have hg:(ts.map eH)[i]? = some (eH ts[i]):=by simp [Vc]
  rw [ht,eK] at hg;rw [hy] at jU;have uA:(ys++l.drop i)[i]? = some y:=by rw [ED _ _ h3,au bu,hy]
  obtain ⟨j1,m,cap,rfl,uV⟩:=h6.bx (by intro h0;rw [h0] at uA;simp at uA);have hm:(i:Int) < (m:Int):=by have:=(ai.1 uA).1;omega
  obtain ⟨lG,kD,A1,C1,uL,a1,k1,k2,k3⟩:=h6.r9 uA;have hh:=pU (T:=T) jU t k1;rw [a1] at hh;unfold cH at hh;refine goN ?_;simp only [W,seval,qO,e2];refine dj 16 [] [] ?_;simp (maxSteps:=4000000) only [W,seval,qO,xw,oE,e3,aK,aO,hm,hg,Vc];refine iO (xZ.ne (T:=T) k1 t) hh ?_;rintro u _ ⟨B2,rfl,kP,rfl⟩;have e4:iC B.length lo hi B.length B B2:=h4.step (k2 _ _ _ kP.1);have xV:B2.length=B.length:=kP.2.1.trans h5;refine ⟨trivial,?_⟩;simp (maxSteps:=4000000) only [W,seval,qO,xw,ie];cases hw:dz (bP E y t) t with
  | none =>
   refine goN ?_;simp only [W,seval,qO,gw,aO];refine bN qO (bT e4 ?_);rw [nQ _ xV]
   have hr:dI E l ts=none:=by
    by_cases sq:l.length=ts.length
    ·rw [← h7 sq,tN E _ _ i bu Vc,ht,hy,hw];rfl
    ·exact qK E _ _ sq
   rw [hr];exact ⟨_,rfl,⟨e4,xV,fun m hm=>by cases hm⟩,rfl⟩
  | some z =>
   rw [hw] at kP;refine goN ?_;simp only [W,seval,qO,gy,aK,ie];have h8:=k3 B2 z kP;rw [AF _ _ h3 bu] at h8;refine ih ⟨i+1,ys++[z],B2⟩ ⟨bu,Vc,by simp [h3],e4,xV,h8,fun sq=>?_⟩ gP _ _ ?_ rfl
   ·rw [← h7 sq,tN E _ _ i bu Vc,ht,hy,hw];dsimp only;cases dI E (l.drop (i+1)) (ts.drop (i+1))<;>simp
   ·skip
    refine eU.env _ ?_;simp only [qa,seval]
 by_cases h1:l.length=1
 case neg =>
  have e1:decide ((l.length:Int)=1)=false:=af ak;refine gL qO fun cG=>?_;simp only [fH] at cG;simp only [W,seval,qO,hn,F1,e1];refine az.ng cx (main ?_)
  ·match l,h1 with
   | [],_=>rfl
   | [_],h1=>exact absurd rfl h1
   | _ :: _ :: _,_=>rfl
 have e1:decide ((l.length:Int)=1)=true:=ah ak;obtain ⟨x,rfl⟩:=je.1 h1
 by_cases h2:1 < ts.length
 case neg =>
  have e2:decide ((1:Int) < (ts.length:Int))=false:=af ak;refine gL qO fun cG=>?_;simp only [fH] at cG;simp only [W,seval,qO,hn,F1,e1,e2];refine az.ng cx (main ?_)
  ·rw [w6,aq fun h=>h2 h.1]
 have e2:decide ((1:Int) < (ts.length:Int))=true:=ah ak;obtain ⟨j1,m,cap,rfl,uV⟩:=h.bx dM;have hm:(0:Int) < (m:Int):=by rw [uV];simp
 have WJ:decide ((m:Int)=1)=true:=by rw [uV];rfl
 obtain ⟨lG,kD,A1,C1,uL,a1,k1,k2,k3⟩:=h.r9 (k:=0) (y:=x) rfl;rw [gk] at a1;obtain ⟨Y,hY⟩:=aV (A1++ef x uL++C1);obtain ⟨y0,y7,y8,y9⟩:=I0 hY.symm a1;have bW:=k1.row;rw [hY] at bW;have zw:j1 < N:=by have:=k1.nb;omega
 by_cases h7:x.kind=7
 case neg =>
  have e7:=af h7;refine gL qO fun cG=>?_;simp only [fH] at cG;simp only [W,seval,qO,oE,hn,WJ,e2,hm,zw,bW,y0,e7];refine az.ng ?_ (main ?_)
  ·skip
   refine eU.env _ ?_;simp only [qa,seval]
   all_goals (rw [uV])
  ·rw [w6,aq fun h=>h7 h.2]
 have e7:=ah h7;have hc:=GQ (T:=T) hT (Mn x dM) k1;rw [a1] at hc
 have YK:iJ E [x] ts=match qf E x with
  | some (y,rs)=>if ir rs ts=true then some [y] else none
  | none=>none:=by rw [w6,aD ⟨h2,h7⟩]
 rw [YK];refine gL qO fun cG=>?_;simp only [fH] at cG;simp only [W,seval,qO,oE,hn,WJ,e2,hm,zw,bW,y0,e7];refine cz hc ?_;rintro u _ ⟨B1,rfl,hd,hv⟩;have e3:=k2 B.length _ _ hd.1;cases hr:qf E x with
 | none =>
  rw [hr] at hv;obtain rfl:u=_:=hv;refine goN ?_;simp only [W,seval,qO];refine bN qO (bT e3 ?_);rw [nQ _ hd.2.1];exact ⟨_,rfl,⟨e3,hd.2.1,fun m hm=>by cases hm⟩,rfl⟩
 | some p =>
  obtain ⟨y,rs⟩:=p;rw [hr] at hv hd;obtain rfl:u=_:=hv;dsimp only;refine goN ?_;simp only [W,seval,qO];refine aX (wW 37 [] [] rq rs ts B1 T fun x _ y _ J=>Lh x y _) ?_;rw [Ly];refine goN ?_;simp only [W,seval,qO];refine bN qO (bT e3 ?_);rw [nQ _ hd.2.1];cases ir rs ts with
  | false=>exact ⟨_,rfl,⟨e3,hd.2.1,fun m hm=>by cases hm⟩,rfl⟩
  | true=>exact ⟨_,rfl,⟨e3,hd.2.1,fun m hm=>by rw [← ag hm];exact (k3 B1 y hd).own⟩,rfl⟩
end
def CY:=KB func109 43
def pZ (w p lo hi n m:Nat) (B B':bQ):Prop:=B.length≤B'.length∧(∀ i,i < n→i ≠ w→i ≠ p→(i < lo∨hi≤i)→B'[i]? = B[i]?)∧∀ i,i < n→∀ Y,B'[i]? = some Y→∀ v∈Y,(∃ X,B[i]? = some X∧v∈X)∨fit 0 0 v=true∨(i=p∧fit 0 m v=true)
section
variable {w p lo hi n m:Nat} {B B1 B2:bQ}
theorem pZ.mem (h:pZ w p lo hi n m B B1) (hl:B.length≤B2.length) (he:∀ i,i < n→B2[i]? = B1[i]?):pZ w p lo hi n m B B2 :=
 ⟨hl,fun i hn h1 h2 h3=>(he i hn).trans (h.2.1 i hn h1 h2 h3),fun i hn Y hY v hv=>h.2.2 i hn Y (by rw [← he i hn];exact hY) v hv⟩
theorem pZ.refl (w p lo hi n m:Nat) (B:bQ):pZ w p lo hi n m B B:=⟨aA _,fun _ _ _ _ _=>rfl,fun _ _ Y hY _ hv=>.inl ⟨Y,hY,hv⟩⟩
theorem pZ.trans (h:pZ w p lo hi n m B B1) (h1:pZ w p lo hi n m B1 B2):pZ w p lo hi n m B B2 :=
 ⟨iT h.1 h1.1,fun i hn a b c=>(h1.2.1 i hn a b c).trans (h.2.1 i hn a b c),fun i hn Y hY v hv=>(h1.2.2 i hn Y hY v hv).elim (fun ⟨X,hX,hm⟩=>h.2.2 i hn X hX v hm) .inr⟩
theorem pZ.ng {w1 p1 lG kD n1 m1:Nat} (h:pZ w1 p1 lG kD n1 m1 B B1) (hn:n≤n1) (hm:(p1=p∧m1≤m)∨n≤p1∨m1=0) (hw:w1=w∨w1=p∨(lo≤w1∧w1 < hi)∨n≤w1) (hp:p1=w∨p1=p∨(lo≤p1∧p1 < hi)∨n≤p1) (HU:lo≤lG) (ZT:kD≤hi):pZ w p lo hi n m B B1 :=
 ⟨h.1,fun i a b c d=>h.2.1 i ak ak ak ak,fun i a Y hY v hv=>(h.2.2 i ak Y hY v hv).imp id fun h=>h.elim .inl fun ⟨h1,h2⟩=>by
  rcases hm with ⟨e,hm⟩ | hm | hm
  ·exact .inr ⟨h1.trans e,uB (aA _) hm v h2⟩
  ·omega
  ·rw [hm] at h2;exact .inl h2⟩
theorem iC.efs {J:Nat} (h:iC J lo hi n B B1) (hJ:n≤J∨J=w∨J=p∨(lo≤J∧J < hi)):pZ w p lo hi n m B B1 :=
 ⟨h.1,fun i a b c d=>h.2.1 i a ⟨ak,d⟩,fun i a Y hY v hv=>(h.2.2 i a Y hY v hv).imp id .inl⟩
theorem pZ.step (h0:pZ w p lo hi B.length m B B1) (h:pZ w p lo hi B1.length m B1 B2):pZ w p lo hi B.length m B B2 :=
 h0.trans (h.ng h0.1 (.inl ⟨rfl,aA _⟩) (.inl rfl) (.inr (.inl rfl)) (aA _) (aA _))
theorem pZ.app {J:bQ} (h0:pZ w p lo hi B.length m B B1):pZ w p lo hi B.length m B (B1++J):=h0.mem (by have:=h0.1;rw [av];omega) fun i hi=>bt (eS hi h0.1)
theorem pZ.qI {k:Nat} {x:List V} (h0:pZ w p lo hi B.length m B B1) (hk:B.length≤k):pZ w p lo hi B.length m B (B1.set k x):=h0.mem (by rw [aG];exact h0.1) fun i hi=>aj ak
theorem pZ.cut (h:pZ w p lo hi B.length m B B1):pZ w p lo hi B.length m B (B1.take B.length):=h.mem (by have:=h.1;rw [cg];omega) fun i hi=>by rw [bp,aD hi]
theorem pZ.put {k:Nat} {x:List V} (h0:pZ w p lo hi n m B B1) (hk:k=w∨k=p∨(lo≤k∧k < hi)) (hx:∀ v∈x,fit 0 0 v=true∨(k=p∧fit 0 m v=true)):pZ w p lo hi n m B (B1.set k x):=by
 refine ⟨by rw [aG];exact h0.1,fun i a b c d=>?_,fun i a Y hY v hv=>?_⟩
 ·rw [aj ak];exact h0.2.1 i a b c d
 ·by_cases e:k=i
  ·subst e
   by_cases hl:k < B1.length
   ·rw [aC hl] at hY;obtain rfl:=ag hY;exact .inr (hx v hv)
   ·rw [dP (by rw [aG];omega)] at hY;cases hY
  ·rw [aj e] at hY;exact h0.2.2 i a Y hY v hv
end
theorem EU {w p lo hi m:Nat} {B M:bQ} {T T' K:eg} {R:V→Mem→Prop} {v:V} (he:pZ w p lo hi B.length m B M) (hm:m≤T.length) (hT:T'.length=T.length) (h:R (wk B.length T.length v) ⟨M.take B.length,T'⟩):Go.Ab.Left ⟨B,T⟩ R v ⟨M,T'++K⟩:=by
 have hl:(M.take B.length).length=B.length:=by have:=he.1;rw [cg];omega
 have:=Go.Ab.Left.ofC (J:=M.drop B.length) (U:=T') (K:=K) hl hT (fun i vs hi v hv=>?_) h
 ·rwa [eX] at this
 ·have bu:i < B.length:=by have:=(ai.1 hi).1;omega
  rw [bp,aD bu] at hi;exact (he.2.2 i bu vs hi v hv).imp id fun h=>h.elim (fun h=>uB (bG _) (bG _) v h) fun h=>uB (bG _) hm v h.2
theorem jw {w p lo hi m:Nat} {B M:bQ} {T T':eg} {R:V→Mem→Prop} {v:V} (he:pZ w p lo hi B.length m B M) (hm:m≤T.length) (hT:T'.length=T.length) (h:R (wk B.length T.length v) ⟨M.take B.length,T'⟩):Go.Ab.Left ⟨B,T⟩ R v ⟨M,T'⟩:=by
 have:=EU (K:=[]) he hm hT h
 rwa [aQ] at this
structure Lay where
 j:Nat
 lo:Nat
 m1:Nat
 m2:Nat
 m3:Nat
 m4:Nat
 hi:Nat
 A:List V
 C:List V
 v1:V
 v2:V
 v3:V
 v4:V
 v5:V
def Lay.row (L:Lay) (x:cL):List V:=L.A++js x L.v1 L.v2 L.v3 L.v4 L.v5++L.C
def Lay.parts (L:Lay) (B:bQ) (x:cL):Prop:=CE B x L.lo L.m1 L.m2 L.m3 L.m4 L.hi L.v1 L.v2 L.v3 L.v4 L.v5
structure yE (B:bQ) (n c s f w:Nat) (E:fm) (res:List bJ) (L:Lay) (x:cL):Prop where
 k:Ax B c s f w E res
 row:B[L.j]? = some (L.row x)
 own:L.parts B x
 jo:L.j < L.lo∨L.hi≤L.j
 oc:Out L.j L.lo L.hi c
 os:Out L.j L.lo L.hi s
 of:Out L.j L.lo L.hi f
 ow:Out L.j L.lo L.hi w
 wd:c ≠ w∧s ≠ w∧f ≠ w
 nb:c < n∧s < n∧f < n∧w < n∧L.j < n∧L.hi≤n
 nl:n≤B.length
structure um (B:bQ) (n c s f w:Nat) (E:fm) (res:List bJ) (lo hi:Nat) (v:V) (l:List cL):Prop where
 k:Ax B c s f w E res
 own:mP B l lo hi v
 oc:c < lo∨hi≤c
 os:s < lo∨hi≤s
 of:f < lo∨hi≤f
 ow:w < lo∨hi≤w
 wd:c ≠ w∧s ≠ w∧f ≠ w
 nb:c < n∧s < n∧f < n∧w < n∧hi≤n
 nl:n≤B.length
def Lz (w lo hi:Nat) (v:V) (vs:List ep) (B B':bQ) (r:Option (List cL)):Prop:=pZ w w lo hi B.length 0 B B'∧B'.length=B.length∧∀ l,r=some l→mP B' l lo hi v∧B'[w]? = some (yC vs)
def blG (r:Option (List cL)) (w lo hi:Nat) (v:V) (vs:List ep) (B:bQ) (T:eg) (u:V) (S':Mem):Prop :=
 ∃ B',S' = ⟨B',T⟩∧Lz w lo hi v vs B B' r∧u = .d (.bool r.isSome)
def YZ (su:List eZ) (fu:List fL) (res:List bJ) (l:List cL):Prop:=∀ (vs:List ep) (n c s f w:Nat) (B:bQ) (T:eg) (lo hi:Nat) (v:V),(∀ p∈vs,TW p.type)→um B n c s f w ⟨su,fu,vs⟩ res lo hi v l →
 cy prog bI 27 [.ptr c 0,v] ⟨B,T⟩ (blG (eD su fu res l vs) w lo hi v vs B T)
def WK (r:Option (cL × List ep)) (L:Lay) (w p M:Nat) (vs:List ep) (nm:List (List UInt8)) (B:bQ) (T:eg) (u:V) (S':Mem):Prop :=
 ∃ B' T',S' = ⟨B',T'⟩∧B'.length=B.length∧T'.length=T.length∧(∀ q,q ≠ M→T'[q]? = T[q]?)∧pZ w p L.lo L.hi B.length T.length B B'∧u = .d (.bool r.isSome) ∧
  ∀ x rZ,r=some (x,rZ)→L.parts B' x∧B'[L.j]? = some (L.row x)∧∃ ks,rZ=vs++ks∧B'[w]? = some (yC rZ)∧B'[p]? = some [.sl (gN (nm++ks.map ep.name)) (.own M)]∧T'[M]? = some ((nm++ks.map ep.name).length,1)
def StG (su:List eZ) (fu:List fL) (res:List bJ) (x:cL):Prop:=∀ (vs:List ep) (n c s f w:Nat) (B:bQ) (T:eg) (L:Lay) (p M:Nat) (nm:List (List UInt8)),(∀ p∈vs,TW p.type)→yE B n c s f w ⟨su,fu,vs⟩ res L x→n≤p→B[p]? = some [.sl (gN nm) (.own M)]→T[M]? = some (nm.length,1)→nm.length≤60000 →
 cy prog bI 75 [.ptr c 0,.ptr L.j L.A.length,.ptr p 0] ⟨B,T⟩ (WK (jb su fu res x vs) L w p M vs nm B T)
section
variable {E:fm} {res:List bJ} {n c s f w:Nat} {B B':bQ} {T:eg} {L:Lay} {x:cL} {lo hi:Nat} {v:V} {l:List cL}
theorem yE.mem (h:yE B n c s f w E res L x) (hl:B.length≤B'.length) (he:∀ i,i < n→B'[i]? = B[i]?):yE B' n c s f w E res L x:=by
 obtain ⟨n1,n2,n3,n4,n5,n6⟩:=h.nb;obtain ⟨l1,l2,l3,l4,l5⟩:=h.own.le;exact ⟨h.k.jC (he _ n1) (he _ n2) (he _ n3) (he _ n4),by rw [he _ n5];exact h.row,⟨h.own.1.frame fun i _ hi=>he i ak,h.own.2.1.frame fun i _ hi=>he i ak,h.own.2.2.1.frame fun i _ hi=>he i ak,h.own.2.2.2.1.frame fun i _ hi=>he i ak,h.own.2.2.2.2.frame fun i _ hi=>he i ak⟩,h.jo,h.oc,h.os,h.of,h.ow,h.wd,h.nb,by have:=h.nl;omega⟩
theorem yE.more {J:bQ} (h:yE B n c s f w E res L x):yE (B++J) n c s f w E res L x :=
 h.mem dM fun i hi=>bt (eS hi h.nl)
theorem yE.cq (h:yE B n c s f w E res L x):uP B n c s f w E res L.lo L.m1 L.v1 x.cq:=by
 obtain ⟨n1,n2,n3,n4,n5,n6⟩:=h.nb;obtain ⟨l1,l2,l3,l4,l5⟩:=h.own.le;exact ⟨h.k,h.own.1,by have:=h.oc.2;omega,by have:=h.os.2;omega,by have:=h.of.2;omega,by have:=h.ow.2;omega,⟨n1,n2,n3,n4,ak⟩,h.nl⟩
theorem yE.exprs (h:yE B n c s f w E res L x):uP B n c s f w E res L.m1 L.m2 L.v2 x.exprs:=by
 obtain ⟨n1,n2,n3,n4,n5,n6⟩:=h.nb;obtain ⟨l1,l2,l3,l4,l5⟩:=h.own.le;exact ⟨h.k,h.own.2.1,by have:=h.oc.2;omega,by have:=h.os.2;omega,by have:=h.of.2;omega,by have:=h.ow.2;omega,⟨n1,n2,n3,n4,ak⟩,h.nl⟩
theorem yE.body (h:yE B n c s f w E res L x):um B n c s f w E res L.m2 L.m3 L.v3 x.body:=by
 obtain ⟨n1,n2,n3,n4,n5,n6⟩:=h.nb;obtain ⟨l1,l2,l3,l4,l5⟩:=h.own.le;exact ⟨h.k,h.own.2.2.1,by have:=h.oc.2;omega,by have:=h.os.2;omega,by have:=h.of.2;omega,by have:=h.ow.2;omega,h.wd,⟨n1,n2,n3,n4,ak⟩,h.nl⟩
theorem yE.iS (h:yE B n c s f w E res L x):um B n c s f w E res L.m3 L.m4 L.v4 x.iS:=by
 obtain ⟨n1,n2,n3,n4,n5,n6⟩:=h.nb;obtain ⟨l1,l2,l3,l4,l5⟩:=h.own.le;exact ⟨h.k,h.own.2.2.2.1,by have:=h.oc.2;omega,by have:=h.os.2;omega,by have:=h.of.2;omega,by have:=h.ow.2;omega,h.wd,⟨n1,n2,n3,n4,ak⟩,h.nl⟩
theorem nK {X A C:List V} {x:cL} {v1 v2 v3 v4 v5:V} {a:Nat} (hX:X=A++js x v1 v2 v3 v4 v5++C) (ha:A.length=a) :
 X[a]? = some (.d (.int .i64 x.kind))∧X[a+1]? = some (.d (.sl (gN x.names)))∧X[a+5]? = some v1∧X[a+6]? = some v2∧X[a+7]? = some v3∧X[a+8]? = some v4∧X[a+9]? = some v5∧a+2+3≤X.length∧(X.drop (a+2)).take 3=jr x.type∧a+10≤X.length∧(X.drop a).take 10=js x v1 v2 v3 v4 v5:=by
 have e:X=A++(js x v1 v2 v3 v4 v5++C):=by rw [hX,aE]
 have g:∀ q,X[a+q]? = (js x v1 v2 v3 v4 v5++C)[q]?:=fun q=>by rw [e,aN ak];congr 1;omega
 have d:∀ q,X.drop (a+q)=(js x v1 v2 v3 v4 v5++C).drop q:=fun q=>by rw [e,fQ,gv ak,dO];congr 1;omega
 have hl:X.length=a+10+C.length:=by rw [e,av,av,ha];simp [js];omega
 refine ⟨g 0,g 1,g 5,g 6,g 7,g 8,g 9,ak,by rw [d 2];rfl,ak,?_⟩;have:=d 0;rw [gZ] at this;rw [this];rfl
end
theorem iC.wide {J J' lo hi lG kD n:Nat} {B B1:bQ} (h:iC J lG kD n B B1) (hJ:n≤J) (h1:lo≤lG) (h2:kD≤hi):iC J' lo hi n B B1 :=
 ⟨h.1,fun i hn ho=>h.2.1 i hn ⟨ak,by have:=ho.2;omega⟩,h.2.2⟩
def seG (r:Option (List bh)) (L:Lay) (x:cL) (B:bQ) (T:eg) (u:V) (S':Mem):Prop :=
 ∃ B',S' = ⟨B',T⟩∧B'.length=B.length∧iC B.length L.lo L.m2 B.length B B'∧u = .d (.bool r.isSome)∧∀ es,r=some es→mY B' x.cq L.lo L.m1 L.v1∧mY B' es L.m1 L.m2 L.v2
structure TSt where
 i:Nat
 ts:List bJ
 B:List (List V)
structure TOk (E:fm) (res:List bJ) (n c s f w:Nat) (L:Lay) (l:List bh) (B:bQ) (a:TSt):Prop where
 le:a.i≤l.length
 len:a.ts.length=a.i
 WD:iC B.length L.lo L.m1 B.length B a.B
 at':uP a.B n c s f w E res L.lo L.m1 L.v1 l
 res:(oN E (l.drop a.i)).map (a.ts++·)=oN E l
theorem N6 (E:fm) (l:List bh) (i:Nat) (h:i < l.length):oN E (l.drop i)=match bP E l[i] eF with
 | some (_,t)=>(oN E (l.drop (i+1))).map fun ts=>t :: ts
 | none=>none:=by
 rw [aJ h]
 conv=>lhs;unfold oN
 rfl
theorem w7 {α:Type} (l:List α) (i:Nat) (x:α) (h:l[i]? = some x):l.set i x=l:=by
 apply fW;intro k
 by_cases e:i=k
 ·subst e;rw [aC (ai.1 h).1,h]
 ·rw [aj e]
section
variable {E:fm} {res:List bJ} {n c s f w:Nat} {B:bQ} {T:eg} {L:Lay}
theorem acB {x:cL} (hT:mh E.su E.fu) (hlf:∀ y∈x.cq,kn E res y∧∀ w z t,bP E y w=some (z,t)→z=y) (hl:∀ y∈x.exprs,kn E res y) (Mn:∀ y∈x.exprs,∀ z∈y.kids,kn E res z) (hlen:x.exprs.length≤60000) (aaz:x.cq.length≤60000) (h:yE B n c s f w E res L x) :
 cy prog bI 109 [.ptr c 0,.ptr L.j L.A.length] ⟨B,T⟩ (seG (match oN E x.cq with
  | some ts=>iJ E x.exprs ts
  | none=>none) L x B T):=by
 obtain ⟨N,hn⟩:=aV B.length;obtain ⟨M,hM⟩:=aV T.length;obtain ⟨al,jB⟩:=aV L.A.length;obtain ⟨j,CG⟩:=aV L.j;obtain ⟨X,hX⟩:=aV (L.row x);obtain ⟨x0,x1,x5,x6,x7,x8,x9,sC,uh,_⟩:=nK (show X=_ from hX.symm) jB;have bW:=h.row;rw [hX,CG] at bW;have nZ:=h.nl;have hj:j < N:=by have:=h.nb;omega
 have hjo:=h.jo;have hle:=h.own.le;have F1:=I2 h.own.1;rw [mM.eq_1,GP] at F1;rw [jB,CG];refine gL CY fun cG=>?_;simp only [fH] at cG;simp only [W,seval,CY,hn,hj,bW,x5,F1];refine az.token 5 [] (by rfl) 3 ak rfl ?_;simp only [fP,hM];refine az.dL (fun a:TSt=>(cN 43 [(0,.ptr c 0),(1,.ptr j al),(5,.sl (a.ts.map eH) (.own M)),(13,.d (.int .i64 (x.cq.length:Int))),(14,.d (.int .i64 (a.i:Int)))],⟨a.B,T++[(a.i,3)]⟩)) (TOk E res n c s f w L x.cq B) (fun a=>x.cq.length - a.i) ⟨0,[],B⟩ ⟨bG _,rfl,.refl _ _ _ _ _,h.cq,dM⟩ cx rfl ?_;rintro ⟨i,ts,Bi⟩ ⟨h2,h3,h4,h6,h7⟩ ih;dsimp only at h2 h3 h4 h6 h7 ih ⊢;obtain ⟨Ni,vo⟩:=aV Bi.length;have hNN:N≤Ni:=by have:=h4.1;omega
 have mB:j < Ni:=ak;have aaA:Out B.length L.lo L.m1 j:=⟨ak,ak⟩;have rV:Bi[j]? = some X:=by rw [h4.2.1 j ak aaA];exact bW
 by_cases bu:i < x.cq.length
 case neg =>
  have e2:decide ((i:Int) < (x.cq.length:Int))=false:=af ak;obtain rfl:i=x.cq.length:=ak;rw [ay (aA _),oN,cJ,aQ] at h7;rw [← h7];dsimp only
  have hse:yE Bi n c s f w E res L x:=by
   obtain ⟨n1,n2,n3,n4,n5,n6⟩:=h.nb;have hk:∀ i,i < n→(i < L.lo∨L.m1≤i)→Bi[i]? = B[i]?:=fun i hi ho=>h4.2.1 i ak ⟨ak,ho⟩;exact ⟨h.k.jC (hk _ n1 (by have:=h.oc.2;omega)) (hk _ n2 (by have:=h.os.2;omega)) (hk _ n3 (by have:=h.of.2;omega)) (hk _ n4 (by have:=h.ow.2;omega)),by rw [CG,rV,hX],⟨h6.own,h.own.2.1.frame fun i a _=>hk i ak ak,h.own.2.2.1.frame fun i a _=>hk i ak ak,h.own.2.2.2.1.frame fun i a _=>hk i ak ak,h.own.2.2.2.2.frame fun i a _=>hk i ak ak⟩,h.jo,h.oc,h.os,h.of,h.ow,h.wd,h.nb,ak⟩
  have hv:=GZ (T:=T++[(x.cq.length,3)]) hT hl Mn hlen ts hse.exprs;have hv:=cy.less (fq.same (fq.same (fq.sl (tk:=.own M) .nil))) hv;refine goN ?_;simp only [W,seval,CY,e2,mB,rV,x6];refine cz hv ?_;rintro u _ ⟨B2,rfl,hd,rfl⟩;have e5:iC B.length L.lo L.m2 B.length B B2:=(h4.wide (aA _) (aA _) hle.2.1).step (hd.1.wide (aA _) hle.1 (aA _));refine goN ?_;simp only [W,seval,CY];refine bN CY (Ey e5 ?_);refine ⟨_,rfl,by have:=e5.1;rw [cg];omega,e5.cut,rfl,fun es Bg=>⟨?_,?_⟩⟩
  ·exact h6.own.frame fun i a b=>by rw [mH (by have:=h.nb;omega),hd.1.2.1 i (by have:=h.nb;omega) ⟨by have:=h.nb;omega,ak⟩]
  ·exact (hd.2.2 es Bg).frame fun i a b=>by rw [mH (by have:=h.nb;omega)]
 have e2:decide ((i:Int) < (x.cq.length:Int))=true:=ah ak;have ie:=bE ((i:Int)+1) ak;obtain ⟨y,hy⟩:=aV (x.cq[i]);obtain ⟨jU,Mg⟩:=hlf x.cq[i] (aH bu);rw [hy] at jU Mg;have uA:x.cq[i]? = some y:=by rw [au bu,hy]
 obtain ⟨j1,m,cap,hv1,uV⟩:=h6.bx (by intro h0;rw [h0] at uA;simp at uA);rw [hv1] at h6 x5;have hm:(i:Int) < (m:Int):=ak;obtain ⟨lG,kD,A1,C1,uL,a1,k1,k2,k3⟩:=h6.r9 uA;refine goN ?_;simp only [W,seval,CY,vo,e2];refine dj 13 [12] [j] ?_;simp (maxSteps:=4000000) only [W,seval,CY,xw,oE,vo,mB,rV,x5,hm];refine bK (fun Z=>jc _ _) ?_;simp (maxSteps:=4000000) only [W,seval,CY,xw,vo,cH];refine RM jU k1 eF a1 ?_;intro B1 t b0 hd eW tV p8
 have g1:B1[j]? = Bi[j]?:=by
  have:=(k2 B.length _ _ hd.1).2.1 j ak aaA;exact this
 have e5:iC B.length L.lo L.m1 B.length B B1:=h4.step ((k2 Bi.length _ _ hd.1).wide (aA _) (aA _) (aA _));rw [vo] at eW;refine ⟨⟨g1,trivial⟩,?_⟩;rw [N6 _ _ _ bu,hy] at h7;unfold cH;simp (maxSteps:=4000000) only [W,seval,CY,xw,eW];refine ⟨g1,?_⟩;cases b0
 ·have hr:=p8 rfl;rw [hr] at h7;rw [← h7];refine goN ?_;simp only [W,seval,CY,aO];refine bN CY (Ey e5.app ?_);exact ⟨_,rfl,by have:=e5.1;rw [cg,av];omega,(e5.app.wide (aA _) (aA _) hle.2.1).cut,rfl,fun es Bg=>by cases Bg⟩
 obtain ⟨z,hr⟩:=tV rfl;rw [hr] at h7 hd;obtain rfl:=Mg _ _ _ hr;have uN:=k3 B1 z hd;rw [w7 _ _ _ uA] at uN
 have afT:ts.map eH++[[.int .i64 t.kind,.str t.name,.sl (t.elem.map eH)]]=(ts++[t]).map eH:=by
  rw [cr,cw,eB,eK]
 have WI:fE 3 [[D.int .i64 t.kind,.str t.name,.sl (t.elem.map eH)]]=true:=rfl;have gh:(i+1) * 48≤140737488355328:=ak;refine goN ?_;simp only [W,seval,CY,aK,hM,eW,h3,bL,bC,Nat.reduceMul,gh,afT,WI,ie];refine ih ⟨i+1,ts++[t],B1++[[V.d (.int .i64 t.kind),.d (.str t.name),.d (.sl (t.elem.map eH))]]⟩ ⟨bu,by simp [h3],e5.app,?_,?_⟩ gP _ _ ?_ rfl
 ·rw [hv1];exact uN.more
 ·dsimp only at h7 ⊢;rw [← h7];cases oN E (x.cq.drop (i+1))<;>simp
 ·skip
  refine eU.env _ ?_;simp only [qa,seval]
end
structure CZ (B:bQ) (n c s f w:Nat) (E:fm) (res:List bJ) (lo hi:Nat) (v:V) (l:List iB):Prop where
 k:Ax B c s f w E res
 own:tP B l lo hi v
 oc:c < lo∨hi≤c
 os:s < lo∨hi≤s
 of:f < lo∨hi≤f
 ow:w < lo∨hi≤w
 wd:c ≠ w∧s ≠ w∧f ≠ w
 nb:c < n∧s < n∧f < n∧w < n∧hi≤n
 nl:n≤B.length
section
variable {E:fm} {res:List bJ} {n c s f w:Nat} {B B':bQ} {lo hi:Nat} {v:V}
theorem um.mem {l:List cL} (h:um B n c s f w E res lo hi v l) (hl:B.length≤B'.length) (he:∀ i,i < n→B'[i]? = B[i]?):um B' n c s f w E res lo hi v l:=by
 obtain ⟨n1,n2,n3,n4,n5⟩:=h.nb;exact ⟨h.k.jC (he _ n1) (he _ n2) (he _ n3) (he _ n4),h.own.frame fun i _ hi=>he i ak,h.oc,h.os,h.of,h.ow,h.wd,h.nb,by have:=h.nl;omega⟩
theorem um.more {J:bQ} {l:List cL} (h:um B n c s f w E res lo hi v l):um (B++J) n c s f w E res lo hi v l :=
 h.mem dM fun i hi=>bt (eS hi h.nl)
theorem CZ.mem {l:List iB} (h:CZ B n c s f w E res lo hi v l) (hl:B.length≤B'.length) (he:∀ i,i < n→B'[i]? = B[i]?):CZ B' n c s f w E res lo hi v l:=by
 obtain ⟨n1,n2,n3,n4,n5⟩:=h.nb;exact ⟨h.k.jC (he _ n1) (he _ n2) (he _ n3) (he _ n4),h.own.frame fun i _ hi=>he i ak,h.oc,h.os,h.of,h.ow,h.wd,h.nb,by have:=h.nl;omega⟩
theorem CZ.more {J:bQ} {l:List iB} (h:CZ B n c s f w E res lo hi v l):CZ (B++J) n c s f w E res lo hi v l :=
 h.mem dM fun i hi=>bt (eS hi h.nl)
theorem Ax.vars {E':fm} (h:Ax B c s f w E res) (hc:B'[c]? = B[c]?) (hs:B'[s]? = B[s]?) (hf:B'[f]? = B[f]?) (hw:B'[w]? = some (yC E'.vs)) (h1:E'.su=E.su) (h2:E'.fu=E.fu):Ax B' c s f w E' res :=
 ⟨by rw [hc];exact h.c,by rw [hs,h1];exact h.s,by rw [hf,h2];exact h.f,hw⟩
theorem um.bx {l:List cL} (h:um B n c s f w E res lo hi v l) (hn:l ≠ []):∃ j1 m cap,v = .bx j1 m cap∧m=l.length:=by
 rcases h.own with ⟨h0,_⟩ | ⟨_,j1,cap,Y,h1,_⟩
 ·exact absurd (jP.1 h0) hn
 ·exact ⟨j1,_,cap,h1,rfl⟩
theorem CZ.bx {l:List iB} (h:CZ B n c s f w E res lo hi v l) (hn:l ≠ []):∃ j1 m cap,v = .bx j1 m cap∧m=l.length:=by
 rcases h.own with ⟨h0,_⟩ | ⟨_,j1,cap,Y,h1,_⟩
 ·exact absurd (jP.1 h0) hn
 ·exact ⟨j1,_,cap,h1,rfl⟩
theorem mP.len {l:List cL} (h:mP B l lo hi v) (P:Program) {t e:TypeId} {ti:zI} (ht:eT P t=some ti) (hd:ti.d = .slice e):mM P t v=some (.d (.int .i64 (l.length:Int))):=by
 rcases h with ⟨h0,rfl,_⟩ | ⟨_,j,cap,Y,rfl,_⟩
 ·rw [h0,mM.eq_1,ht];simp [uw,hd]
 ·rw [mM.eq_1,ht];simp [uw,Bu,hd]
theorem tP.len {l:List iB} (h:tP B l lo hi v) (P:Program) {t e:TypeId} {ti:zI} (ht:eT P t=some ti) (hd:ti.d = .slice e):mM P t v=some (.d (.int .i64 (l.length:Int))):=by
 rcases h with ⟨h0,rfl,_⟩ | ⟨_,j,cap,Y,rfl,_⟩
 ·rw [h0,mM.eq_1,ht];simp [uw,hd]
 ·rw [mM.eq_1,ht];simp [uw,Bu,hd]
theorem um.r9 {j1 m cap:Nat} {l:List cL} {x:cL} (h:um B n c s f w E res lo hi (.bx j1 m cap) l) {k:Nat} (hk:l[k]? = some x) :
 ∃ L:Lay,L.j=j1∧L.A.length=k * 10∧lo≤j1∧j1 < hi∧lo≤L.lo∧L.hi≤hi∧yE B n c s f w E res L x ∧
  ∀ (B1:bQ) (y:cL) (vs:List ep) (p q:Nat),pZ w p L.lo L.hi n q B B1→n≤p→L.parts B1 y→B1[j1]? = some (L.row y)→B1[w]? = some (yC vs)→um B1 n c s f w ⟨E.su,E.fu,vs⟩ res lo hi (.bx j1 m cap) (l.set k y):=by
 have bu:=(ai.1 hk).1;rcases h.own with ⟨h0,_⟩ | ⟨hn,j1',gF,Y,h1,h2,h3,h4,h5⟩
 ·omega
 obtain ⟨rfl,rfl,rfl⟩:=V.bx.inj h1;rw [qM] at h5;obtain ⟨A1,r,C1,lG,kD,e1,e2,e3,e4,e5,e6,e7,e8⟩:=h5.at k x hk;obtain ⟨v1,v2,v3,v4,v5,m1,m2,m3,m4,rfl,hp⟩:=s9.1 e7;obtain ⟨n1,n2,n3,n4,n5⟩:=h.nb;have sub:∀ i,(i < lo∨hi≤i)→Out j1 lG kD i:=fun i hi=>⟨ak,ak⟩;refine ⟨⟨j1,lG,m1,m2,m3,m4,kD,A1,C1,v1,v2,v3,v4,v5⟩,rfl,e2,h2,h3,gP,e6,⟨h.k,by rw [h4,e1];rfl,hp,gP,sub _ h.oc,sub _ h.os,sub _ h.of,sub _ h.ow,h.wd,⟨n1,n2,n3,n4,gP,gP⟩,h.nl⟩,fun B1 y vs p q he hp' CT hro hw=>?_⟩;have hoc:=h.oc;have hos:=h.os;have hof:=h.of;obtain ⟨w1,w2,w3⟩:=h.wd;have hq:∀ i,i < n→i ≠ w→(i < lG∨kD≤i)→B1[i]? = B[i]?:=fun i a b c=>he.2.1 i a b ak c;refine ⟨h.k.vars (hq _ n1 w1 ak) (hq _ n2 w2 ak) (hq _ n3 w3 ak) hw rfl rfl,.inr ⟨by rw [aG];exact hn,j1,cap,_,by rw [aG],h2,h3,hro,?_⟩,h.oc,h.os,h.of,h.ow,h.wd,h.nb,by have:=h.nl;have:=he.1;omega⟩;rw [qM];have Ds:=h.ow;refine e8 (oX B1) y _ rfl (s9.2 ⟨v1,v2,v3,v4,v5,m1,m2,m3,m4,rfl,CT⟩) fun u _ a b q ha hb hc hf=>oX.frame u hf fun i h7 h8=>hq i ak ak ak
theorem CZ.r9 {j1 m cap:Nat} {l:List iB} {i:Int} {b:List cL} (h:CZ B n c s f w E res lo hi (.bx j1 m cap) l) {k:Nat} (hk:l[k]? = some (.mk i b)) :
 ∃ (lG kD:Nat) (A1 C1:List V) (bv:V),A1.length=k * 2∧B[j1]? = some (A1++[.d (.int .u64 i),bv]++C1)∧lo≤j1∧j1 < hi∧lo≤lG∧kD≤hi∧um B n c s f w E res lG kD bv b ∧
  ∀ (J B1:bQ) (b':List cL),Lz w lG kD bv E.vs (B++J) B1 (some b')→CZ B1 n c s f w E res lo hi (.bx j1 m cap) (l.set k (.mk i b')):=by
 have bu:=(ai.1 hk).1;rcases h.own with ⟨h0,_⟩ | ⟨hn,j1',gF,Y,h1,h2,h3,h4,h5⟩
 ·omega
 obtain ⟨rfl,rfl,rfl⟩:=V.bx.inj h1;rw [qN] at h5;obtain ⟨A1,r,C1,lG,kD,e1,e2,e3,e4,e5,e6,e7,e8⟩:=h5.at k _ hk;obtain ⟨bv,rfl,hp⟩:=tc.1 e7;obtain ⟨n1,n2,n3,n4,n5⟩:=h.nb;have nZ:=h.nl;have hoc:=h.oc;have hos:=h.os;have hof:=h.of;have Ds:=h.ow;refine ⟨lG,kD,A1,C1,bv,e2,by rw [h4,e1];rfl,h2,h3,ak,e6,⟨h.k,hp,ak,ak,ak,ak,h.wd,⟨n1,n2,n3,n4,ak⟩,h.nl⟩,fun J B1 b' hd=>?_⟩;obtain ⟨w1,w2,w3⟩:=h.wd;have hq:∀ i,i < n→i ≠ w→(i < lG∨kD≤i)→B1[i]? = B[i]?:=fun i a b c=>(hd.1.2.1 i (by rw [av];omega) b b c).trans (bt ak);obtain ⟨o1,o2⟩:=hd.2.2 b' rfl;refine ⟨h.k.vars (hq _ n1 w1 ak) (hq _ n2 w2 ak) (hq _ n3 w3 ak) o2 rfl rfl,.inr ⟨by rw [aG];exact hn,j1,cap,_,by rw [aG],h2,h3,(hq j1 ak ak ak).trans (by rw [h4,e1]),?_⟩,h.oc,h.os,h.of,h.ow,h.wd,h.nb,by have:=h.nl;have:=hd.1.1;rw [av] at this;omega⟩;rw [qN];refine e8 (qL B1) (.mk i b') _ rfl (tc.2 ⟨bv,rfl,o1⟩) fun u _ a b q ha hb hc hf=>qL.frame u hf fun i h7 h8=>hq i ak ak ak
theorem Lz.refl {vs:List ep} {r:Option (List cL)} (hr:r=none):Lz w lo hi v vs B B r:=⟨.refl _ _ _ _ _ _ _,rfl,fun z hz=>by rw [hr] at hz;cases hz⟩
theorem blG.ne {su:List eZ} {fu:List fL} {vs:List ep} {l:List cL} {T:eg} (h:um B n c s f w ⟨su,fu,vs⟩ res lo hi v l):∃ u S',blG (eD su fu res l vs) w lo hi v vs B T u S':=by
 cases hr:eD su fu res l vs with
 | none=>exact ⟨_,_,B,rfl,.refl rfl,rfl⟩
 | some m =>
  obtain ⟨B1,i1,i2⟩:=YY h.own (nB su fu res _ _ _ hr).symm
  exact ⟨_,_,B1,rfl,⟨⟨by rw [i1.1];exact aA _,fun i _ _ _ ho=>i1.2.1 i ak,fun i _ Y hY v hv=>(i1.2.2 i Y hY v hv).imp id .inl⟩,i1.1,fun l hl=>by
   rw [← ag hl];exact ⟨i2,by rw [i1.2.1 w (by have:=h.ow;omega)];exact h.k.w⟩⟩,rfl⟩
theorem um.done {su:List eZ} {fu:List fL} {vs:List ep} {U0 U1:Nat} {v2:V} {l m:List cL} {r:Option (List cL)} {B1:bQ} (h:um B n c s f w ⟨su,fu,vs⟩ res U0 U1 v2 l) (hd:Lz w lo hi v vs B B1 r) (hr:r=some m) (hdj:hi≤U0∨U1≤lo) (hc:c < lo∨hi≤c) (hs:s < lo∨hi≤s) (hf:f < lo∨hi≤f):um B1 n c s f w ⟨su,fu,vs⟩ res U0 U1 v2 l:=by
 obtain ⟨n1,n2,n3,n4,n5⟩:=h.nb;obtain ⟨w1,w2,w3⟩:=h.wd;have nZ:=h.nl;have Ds:=h.ow;have hq:∀ i,i < n→i ≠ w→(i < lo∨hi≤i)→B1[i]? = B[i]?:=fun i a b c=>hd.1.2.1 i ak b b c;exact ⟨h.k.vars (hq _ n1 w1 hc) (hq _ n2 w2 hs) (hq _ n3 w3 hf) (hd.2.2 m hr).2 rfl rfl,h.own.frame fun i a b=>hq i ak ak ak,h.oc,h.os,h.of,h.ow,h.wd,h.nb,by have:=hd.2.1;omega⟩
end
def rA:=KB func111 56
def EV:cL→bh→List iB→List cL→cL
 | .mk k ns ty ls _ b _ _,y,cs,e=>.mk k ns ty ls [y] b e cs
theorem w8 (L:Lay) (x:cL) (y:bh) (cs:List iB) (e:List cL):L.row (EV x y cs e)=L.row x:=by cases x;rfl
theorem qY (x:cL) (y:bh) (cs:List iB) (e:List cL):(EV x y cs e).cq=x.cq∧(EV x y cs e).exprs=[y]∧(EV x y cs e).body=x.body∧(EV x y cs e).iS=e∧(EV x y cs e).cases=cs:=by cases x;exact ⟨rfl,rfl,rfl,rfl,rfl⟩
def chG (r:Option (bh × List iB × List cL)) (L:Lay) (x:cL) (w:Nat) (vs:List ep) (B:bQ) (T:eg) (u:V) (S':Mem):Prop :=
 ∃ B',S' = ⟨B',T⟩∧B'.length=B.length∧pZ w w L.lo L.hi B.length 0 B B'∧u = .d (.bool r.isSome)∧∀ y cs e,r=some (y,cs,e)→L.parts B' (EV x y cs e)∧B'[w]? = some (yC vs)
theorem LA (su:List eZ) (fu:List fL) (res:List bJ) (top:Int) (l:List iB) (vs:List ep) (i:Nat) (h:i < l.length) {ci:Int} {cb:List cL} (hc:l[i] = .mk ci cb):jv su fu res top (l.drop i) vs=if top < ci then none else match eD su fu res cb vs with
 | some b=>(jv su fu res top (l.drop (i+1)) vs).map fun m=>.mk ci b :: m
 | none=>none:=by
 rw [aJ h,hc]
 conv=>lhs;unfold jv
 rfl
structure DSt where
 i:Nat
 ys:List iB
 B:List (List V)
theorem PL:eT prog 39=some ⟨.slice 53,1,24,false,[.sl [] .full]⟩:=cP
theorem PM:eT prog 51=some ⟨.slice 96,1,24,false,[.sl [] .full]⟩:=cP
section
variable {su:List eZ} {fu:List fL} {vs:List ep} {res:List bJ} {n c s f w:Nat} {B:bQ} {T:eg} {L:Lay} {x:cL}
theorem yE.cases (h:yE B n c s f w ⟨su,fu,vs⟩ res L x):CZ B n c s f w ⟨su,fu,vs⟩ res L.m4 L.hi L.v5 x.cases:=by
 obtain ⟨n1,n2,n3,n4,n5,n6⟩:=h.nb;obtain ⟨l1,l2,l3,l4,l5⟩:=h.own.le;exact ⟨h.k,h.own.2.2.2.2,by have:=h.oc.2;omega,by have:=h.os.2;omega,by have:=h.of.2;omega,by have:=h.ow.2;omega,h.wd,⟨n1,n2,n3,n4,n6⟩,h.nl⟩
theorem yE.part {B1:bQ} {y:cL} {p q lG kD:Nat} (h:yE B n c s f w ⟨su,fu,vs⟩ res L x) (he:pZ w p lG kD n q B B1) (hp:n≤p∨p=w) (HU:L.lo≤lG) (ZT:kD≤L.hi) (hw:B1[w]? = some (yC vs)) (hr:L.row y=L.row x) (CT:L.parts B1 y):yE B1 n c s f w ⟨su,fu,vs⟩ res L y:=by
 obtain ⟨n1,n2,n3,n4,n5,n6⟩:=h.nb;obtain ⟨w1,w2,w3⟩:=h.wd;have hq:∀ i,i < n→i ≠ w→(i < L.lo∨L.hi≤i)→B1[i]? = B[i]?:=fun i a b c=>he.2.1 i a b ak ak;exact ⟨h.k.vars (hq _ n1 w1 h.oc.2) (hq _ n2 w2 h.os.2) (hq _ n3 w3 h.of.2) hw rfl rfl,by rw [hq _ n5 (fun e=>h.ow.1 e.symm) h.jo,hr];exact h.row,CT,h.jo,h.oc,h.os,h.of,h.ow,h.wd,h.nb,by have:=h.nl;have:=he.1;omega⟩
structure DOk (su:List eZ) (fu:List fL) (vs:List ep) (res:List bJ) (n c s f w:Nat) (L:Lay) (x:cL) (y:bh) (t:bJ) (N:Nat) (B:bQ) (a:DSt):Prop where
 le:a.i≤x.cases.length
 len:a.ys.length=a.i
 WD:pZ w w L.lo L.hi B.length 0 B a.B
 at':yE a.B n c s f w ⟨su,fu,vs⟩ res L (EV x y (a.ys++x.cases.drop a.i) x.iS)
 tb:a.B[N]? = some (jr t)
 res:(jv su fu res (iQ t.kind) (x.cases.drop a.i) vs).map (a.ys++·)=jv su fu res (iQ t.kind) x.cases vs
theorem RW {a:bh} (hk:x.exprs=[a]) (xU:∀ p∈vs,TW p.type) (ha:kn ⟨su,fu,vs⟩ res a) (we:∀ q∈x.cases,YZ su fu res q.body) (uq:YZ su fu res x.iS) (hlen:x.cases.length≤60000) (h:yE B n c s f w ⟨su,fu,vs⟩ res L x) :
 cy prog bI 111 [.ptr c 0,.ptr L.j L.A.length] ⟨B,T⟩ (chG (match bP ⟨su,fu,vs⟩ a eF with
  | some (y,t)=>if jz t.kind=true then (match jv su fu res (iQ t.kind) x.cases vs with
   | some cs=>(eD su fu res x.iS vs).map fun e=>(y,cs,e)
   | none=>none) else none
  | none=>none) L x w vs B T):=by
 obtain ⟨N,hn⟩:=aV B.length;obtain ⟨al,jB⟩:=aV L.A.length;obtain ⟨j,CG⟩:=aV L.j;obtain ⟨X,hX⟩:=aV (L.row x);obtain ⟨x0,x1,x5,x6,x7,x8,x9,sC,uh,_⟩:=nK (show X=_ from hX.symm) jB;have bW:=h.row;rw [hX,CG] at bW;have nZ:=h.nl;have hj:j < N:=by have:=h.nb;omega
 have hjo:=h.jo;have Ds:=h.ow;have hle:=h.own.le;rw [jB,CG];have hex:=h.exprs;rw [hk] at hex;obtain ⟨j1,m,cap,Sz,uV⟩:=hex.bx dM;rw [Sz] at hex x6;have hm:(0:Int) < (m:Int):=by rw [uV];simp
 obtain ⟨lG,kD,A1,C1,uL,a1,k1,k2,k3⟩:=hex.r9 (k:=0) (y:=a) rfl;rw [gk] at a1;refine gL rA fun cG=>?_;simp only [fH] at cG;simp only [W,seval,rA,hn];refine dj 12 [11] [j] ?_;simp (maxSteps:=4000000) only [W,seval,rA,xw,oE,hn,hj,bW,x6,hm];refine bK (fun Z=>jc _ _) ?_;simp (maxSteps:=4000000) only [W,seval,rA,xw,hn,cH];refine RM ha k1 eF a1 ?_;intro B1 t b0 hd eW tV p8;have e1:=k2 B.length _ _ hd.1;have g1:B1[j]? = B[j]?:=e1.2.1 j ak ⟨ak,ak⟩;have e2:pZ w w L.lo L.hi B.length 0 B B1:=pZ.ng (e1.efs (w:=w) (p:=w) (m:=0) (.inl (aA _))) (aA _) (.inr (.inr rfl)) (.inl rfl) (.inl rfl) hle.1 ak;rw [hn] at eW;refine ⟨⟨g1,trivial⟩,?_⟩;unfold cH;simp (maxSteps:=4000000) only [W,seval,rA,xw,eW];refine ⟨g1,?_⟩;cases b0
 ·have hr:=p8 rfl;rw [hr];refine goN ?_;simp only [W,seval,rA,aO];refine bN rA (jw e2.app (bG _) rfl ?_);exact ⟨_,rfl,by have:=e2.1;rw [cg,av];omega,e2.app.cut,rfl,fun y cs e he=>by cases he⟩
 obtain ⟨y,hr⟩:=tV rfl;rw [hr] at hd ⊢;dsimp only;cases U3:jz t.kind
 ·rw [aq bH];refine goN ?_;simp only [W,seval,rA,aK,eW];refine aX (mq t _ _) ?_;rw [U3];refine goN ?_;simp only [W,seval,rA,aO];refine bN rA (jw e2.app (bG _) rfl ?_);exact ⟨_,rfl,by have:=e2.1;rw [cg,av];omega,e2.app.cut,rfl,fun y cs e he=>by cases he⟩
 rw [aD rfl];have uN:=k3 B1 y hd;have KN:=h.own.2.2.2.2.len prog PM rfl;rw [mM.eq_1,PM] at KN;have tM:B1[j]? = some X:=g1.trans bW;refine goN ?_;simp only [W,seval,rA,aK,eW];refine aX (mq t _ _) ?_;rw [U3];refine goN ?_;simp only [W,seval,rA,aK,eW,hj,tM,x9,KN];have Bm:B1[w]? = some (yC vs):=by rw [e1.2.1 w (by have:=h.nb;omega) ⟨by have:=h.nb;omega,by have:=Ds.2;omega⟩];exact h.k.w
 have fr:∀ i,i < n→(i < L.m1∨L.m2≤i)→B1[i]? = B[i]?:=fun i a b=>e1.2.1 i ak ⟨ak,b⟩;have hnb:=h.nb
 have Ta:yE B1 n c s f w ⟨su,fu,vs⟩ res L (EV x y x.cases x.iS):=by
  obtain ⟨s1,s2,s3,s4,s5⟩:=qY x y x.cases x.iS;refine h.part (e2.ng (n:=n) (m:=0) nZ (.inr (.inr rfl)) (.inl rfl) (.inl rfl) (aA _) (aA _)) (.inr rfl) (aA _) (aA _) Bm (w8 _ _ _ _ _) ⟨?_,?_,?_,?_,?_⟩
  ·rw [s1];exact h.own.1.frame fun i a b=>fr i ak ak
  ·rw [s2,Sz];exact uN.own
  ·rw [s3];exact h.own.2.2.1.frame fun i a b=>fr i ak ak
  ·rw [s4];exact h.own.2.2.2.1.frame fun i a b=>fr i ak ak
  ·rw [s5];exact h.own.2.2.2.2.frame fun i a b=>fr i ak ak
 refine az.dL (fun a:DSt=>(cN 56 [(0,.ptr c 0),(1,.ptr j al),(5,.ptr N 0),(30,L.v5),(31,.d (.int .i64 (x.cases.length:Int))),(32,.d (.int .i64 (a.i:Int)))],⟨a.B,T⟩)) (DOk su fu vs res n c s f w L x y t N B) (fun a=>x.cases.length - a.i) ⟨0,[],B1++[[.d (.int .i64 t.kind),.d (.str t.name),.d (.sl (t.elem.map eH))]]⟩ ⟨Nat.zero_le _,rfl,e2.app,by simpa using Ta.more,by rw [gp eW];rfl,dM⟩ cx rfl ?_;rintro ⟨i,ys,Bi⟩ ⟨h2,h3,h4,h6,h5,h7⟩ ih;dsimp only at h2 h3 h4 h6 h5 h7 ih ⊢;obtain ⟨Ni,vo⟩:=aV Bi.length;have FZ:N < Ni:=by rw [← vo];exact (ai.1 h5).1
 have mB:j < Ni:=ak;have rV:=h6.row;rw [w8,hX,CG] at rV;unfold jr at h5
 by_cases bu:i < x.cases.length
 case neg =>
  have e3:decide ((i:Int) < (x.cases.length:Int))=false:=af ak;obtain rfl:i=x.cases.length:=ak;rw [ay (aA _),jv,cJ,aQ] at h7;rw [ay (aA _),aQ] at h6;obtain ⟨s1,s2,s3,s4,s5⟩:=qY x y ys x.iS;have hbe:=h6.iS;rw [s4] at hbe;have hb:=uq vs n c s f w Bi T _ _ _ xU hbe;rw [← h7];dsimp only;refine goN ?_;simp only [W,seval,rA,e3,mB,rV,x8];refine cz hb ?_;rintro u _ ⟨B2,rfl,kP,rfl⟩;have e4:pZ w w L.lo L.hi B.length 0 B B2:=h4.step (kP.1.ng (aA _) (.inr (.inr rfl)) (.inl rfl) (.inl rfl) ak ak);refine goN ?_;simp only [W,seval,rA];refine bN rA (jw e4 (bG _) rfl ?_);refine ⟨_,rfl,by have:=e4.1;rw [cg];omega,e4.cut,by cases eD su fu res x.iS vs<;>rfl,fun y' cs e he=>?_⟩;obtain ⟨e',Jz,q⟩:=aB.1 he;obtain ⟨z0,q⟩:=aR q;obtain ⟨z1,z2⟩:=aR q;rw [← z0,← z1,← z2];obtain ⟨o1,o2⟩:=kP.2.2 e' Jz;have JA:∀ i,i < n→i ≠ w→(i < L.m3∨L.m4≤i)→(B2.take B.length)[i]? = Bi[i]?:=fun i a b c=>by rw [mH ak,kP.1.2.1 i ak b b c]
  have afU:=Ds.2;obtain ⟨p1,p2,p3,p4,p5⟩:=h6.own;rw [s1] at p1;rw [s2] at p2;rw [s3] at p3;rw [s5] at p5;refine ⟨⟨?_,?_,?_,?_,?_⟩,by rw [mH ak];exact o2⟩
  ·rw [(qY x y ys e').1];exact p1.frame fun i a b=>JA i ak ak ak
  ·rw [(qY x y ys e').2.1];exact p2.frame fun i a b=>JA i ak ak ak
  ·rw [(qY x y ys e').2.2.1];exact p3.frame fun i a b=>JA i ak ak ak
  ·rw [(qY x y ys e').2.2.2.1];exact o1.frame fun i a b=>by rw [mH ak]
  ·rw [(qY x y ys e').2.2.2.2];exact p5.frame fun i a b=>JA i ak ak ak
 have e3:decide ((i:Int) < (x.cases.length:Int))=true:=ah ak;have ie:=bE ((i:Int)+1) ak
 obtain ⟨ci,cb,vN⟩:∃ ci cb,x.cases[i] = .mk ci cb:=by
  cases x.cases[i] with
  | mk ci cb=>exact ⟨ci,cb,rfl⟩
 have Ip:=we x.cases[i] (aH bu);rw [vN] at Ip;rw [LA _ _ _ _ _ _ _ bu vN] at h7;have O9:=h6.cases;rw [(qY x y (ys++x.cases.drop i) x.iS).2.2.2.2] at O9;have uA:(ys++x.cases.drop i)[i]? = some (.mk ci cb):=by rw [ED _ _ h3,au bu,vN]
 obtain ⟨j5,m5,afV,hv5,hm5⟩:=O9.bx (by intro h0;rw [h0] at uA;simp at uA);rw [hv5] at O9;have hmi:(i:Int) < (m5:Int):=by have:=(ai.1 uA).1;omega
 obtain ⟨lo5,hi5,A5,C5,bv,a5,r5,hj5,anJ,anK,ajI,q1,q2⟩:=O9.r9 uA;have ajJ:j5 < Ni:=ak;obtain ⟨Y,hY⟩:=aV (A5++[.d (.int .u64 ci),bv]++C5);rw [hY] at r5;have y2:i * 2+2≤Y.length:=by rw [← hY];simp;omega
 have y3:(Y.drop (i * 2)).take 2=[.d (.int .u64 ci),bv]:=by
  rw [← hY,← a5,aE,List.drop_left];rfl
 have PN:=Ip vs n c s f w (Bi++[[.d (.int .u64 ci),bv]]) T _ _ _ xU q1.more;rw [hv5] at ih ⊢;refine goN ?_;simp only [W,seval,rA,oE,vo,e3,hmi,ajJ,r5,y2,y3]
 by_cases Lu:iQ t.kind < ci
 ·have et:=ah Lu;rw [aD Lu] at h7;rw [← h7];refine dj 13 [] [Ni,N] ?_;simp (maxSteps:=4000000) only [W,seval,rA,xw,vo,FZ,h5];refine bK (fun Z=>AB t.kind _) ?_;simp (maxSteps:=4000000) only [W,seval,rA,xw,vo,et,aK];refine goN ?_;simp only [W,seval,rA];refine bN rA (jw h4.app (bG _) rfl ?_);exact ⟨_,rfl,by have:=h4.1;rw [cg,av];omega,h4.app.cut,rfl,fun y cs e he=>by cases he⟩
 have et:=af Lu;rw [aq Lu] at h7;refine dj 13 [] [Ni,N] ?_;simp (maxSteps:=4000000) only [W,seval,rA,xw,vo,FZ,h5];refine bK (fun Z=>AB t.kind _) ?_;simp (maxSteps:=4000000) only [W,seval,rA,xw,vo,et,aO];refine iO (blG.ne q1.more) PN ?_;rintro u _ ⟨B2,rfl,kP,rfl⟩;have qd:=kP.2.1;simp only [av,aP,aW,vo,bf] at qd;have e4:pZ w w L.lo L.hi B.length 0 B B2:=h4.app.step (kP.1.ng (aA _) (.inr (.inr rfl)) (.inl rfl) (.inl rfl) ak ak);have afU:=Ds.2;have p1:=kP.1.2.1 Ni fk ak ak ak;have p2:=kP.1.2.1 N fk ak ak ak;refine ⟨⟨p1,p2,trivial⟩,?_⟩;simp (maxSteps:=4000000) only [W,seval,rA,xw,vo];refine ⟨⟨by rw [p1,gp vo];rfl,p2⟩,?_⟩;cases hw:eD su fu res cb vs with
 | none =>
  rw [hw] at h7;rw [← h7];refine goN ?_;simp only [W,seval,rA,gw,aO];refine bN rA (jw e4 (bG _) rfl ?_);exact ⟨_,rfl,by have:=e4.1;rw [cg];omega,e4.cut,rfl,fun y cs e he=>by cases he⟩
 | some b' =>
  rw [hw] at h7 kP;have f1:B2[N]? = some [V.d (.int .i64 t.kind),.d (.str t.name),.d (.sl (t.elem.map eH))]:=by rw [p2,bt ak,h5]
  have JA:∀ i,i < n→i ≠ w→(i < lo5∨hi5≤i)→B2[i]? = (Bi++[[V.d (.int .u64 ci),bv]])[i]?:=fun i a b c=>kP.1.2.1 i fk b b c
  have hsB:yE B2 n c s f w ⟨su,fu,vs⟩ res L (EV x y (ys++[.mk ci b']++x.cases.drop (i+1)) x.iS):=by
   obtain ⟨s1,s2,s3,s4,s5⟩:=qY x y (ys++x.cases.drop i) x.iS;obtain ⟨r1,r2,r3,r4,r5⟩:=qY x y (ys++[.mk ci b']++x.cases.drop (i+1)) x.iS;obtain ⟨w1,w2,w3,w4,w5⟩:=(h6.more (J:=[[V.d (.int .u64 ci),bv]])).own;rw [s1] at w1;rw [s2] at w2;rw [s3] at w3;rw [s4] at w4;refine (h6.more (J:=[[V.d (.int .u64 ci),bv]])).part (kP.1.ng (n:=n) (m:=0) fk (.inr (.inr rfl)) (.inl rfl) (.inl rfl) (aA _) (aA _)) (.inr rfl) ak ajI (kP.2.2 b' rfl).2 (by rw [w8,w8]) ⟨?_,?_,?_,?_,?_⟩
   ·rw [r1];exact w1.frame fun i a b=>JA i ak ak ak
   ·rw [r2];exact w2.frame fun i a b=>JA i ak ak ak
   ·rw [r3];exact w3.frame fun i a b=>JA i ak ak ak
   ·rw [r4];exact w4.frame fun i a b=>JA i ak ak ak
   ·rw [r5,hv5];have:=(q2 _ B2 b' kP).own
    rwa [AF _ _ h3 bu] at this
  refine goN ?_;simp only [W,seval,rA,gy,aK,ie];rw [← hv5] at ih;refine ih ⟨i+1,ys++[.mk ci b'],B2⟩ ⟨bu,by simp [h3],e4,hsB,f1,?_⟩ gP _ _ ?_ rfl
  ·dsimp only at h7 ⊢;rw [← h7];cases jv su fu res (iQ t.kind) (x.cases.drop (i+1)) vs<;>simp
  ·skip
   refine eU.env _ ?_;simp only [qa,seval];rw [hv5]
end
def uo:=KB func75 110
theorem xN {α:Type} (nm:α→List UInt8) (n:List UInt8):∀ l:List α,kK nm l n=none→rI (l.map nm) n=none
 | [],_=>rfl
 | x :: l,h=>by
  unfold kK at h
  split at h
  ·cases h
  ·rename_i hx;rw [cw,rI,aq hx,xN nm n l h];rfl
theorem Vd {vs:List ep} {n:List UInt8} {ty:bJ} (h:kK ep.name vs n=none):H6 (vs.map ep.name) (vs.map fun p=>cH p.type) n (cH ty)=yC (vs++[⟨n,ty⟩]):=by
 unfold H6 yC;rw [xN _ _ _ h];simp
theorem PO (vs:List ep) (m:Nat):∀ v∈yC vs,fit 0 m v=true:=by
 intro v hv;obtain rfl:=bO.1 hv;show qq 0 m _=true;rw [kH];intro j hj;simp [cH,fit,qq]
section
variable {su:List eZ} {fu:List fL} {vs:List ep} {res:List bJ} {n c s f w:Nat} {B:bQ} {T:eg}
theorem Ax.afX {E:fm} (h:Ax B c s f w E res) {CH:List UInt8} (hn:kK ep.name E.vs CH=none) (ty:bJ) (J:bQ) (T:eg):l9 prog ⟨B++J,T⟩ 62 (.mp w) (.d (.str CH)) (cH ty)=some (.undef,⟨B.set w (yC (E.vs++[⟨CH,ty⟩]))++J,T⟩):=by
 have hw:=(h.more J).w;unfold l9;unfold yC at hw;simp only [NZ,hw];rw [Vd hn,oB h.lt.2.2.2]
theorem Y0 {CH:List UInt8} {ty:bJ} (jU:TW ty) {x:cL} (hx:x = .mk 1 [CH] ty [] [] [] [] []):StG su fu res x:=by
 intro vs n c s f w B T L p M nm xU h hp N7 N8 Df;obtain ⟨N,hn⟩:=aV B.length;obtain ⟨al,jB⟩:=aV L.A.length;obtain ⟨j,CG⟩:=aV L.j;obtain ⟨X,hX⟩:=aV (L.row x);obtain ⟨x0,x1,x5,x6,x7,x8,x9,sC,uh,_⟩:=nK (show X=_ from hX.symm) jB;have bW:=h.row;rw [hX,CG] at bW;have nZ:=h.nl;have hj:j < N:=by have:=h.nb;omega
 have SH:x.kind=1:=by rw [hx];rfl
 have ajK:x.names=[CH]:=by rw [hx];rfl
 have ajL:x.type=ty:=by rw [hx];rfl
 rw [SH] at x0;rw [ajK] at x1;rw [ajL] at uh;have vN:c < N:=by rw [← hn];exact h.k.lt.1
 have Tt:w < N:=by rw [← hn];exact h.k.lt.2.2.2
 have hwb:=h.k.w;have hb:=h.k.c;unfold FU at hb;have HU:=h.k.nr CH true [] T;rw [aQ] at HU
 have hr:jb su fu res x vs=if (kK ep.name vs CH).isNone=true∧ku su fu CH=true∧dH su ty=true then some (x,vs++[⟨CH,ty⟩]) else none:=by
  rw [hx];unfold jb;rw [if_pos rfl]
 rw [jB,CG];generalize jb su fu res x vs=r at hr ⊢;have vI:=fun J=>Yt (T:=T) CH (h.k.more J);have kz:=fun J=>GM (T:=T) jU (h.k.more J);dsimp only at vI kz;have en:∀ J,pZ w p L.lo L.hi B.length T.length B (B++J):=fun J=>(pZ.refl _ _ _ _ _ _ B).app;have fail:∀ J,WK none L w p M vs nm B T (.d (.bool false)) ⟨(B++J).take B.length,T⟩:=fun J=>⟨_,T,rfl,dM,rfl,fun _ _=>rfl,(en J).cut,rfl,fun x vs he=>by cases he⟩;unfold jr at uh;unfold cH at kz;cases h1:kK ep.name vs CH with
 | some q =>
  have h1':kK ep.name (fm.mk su fu vs).vs CH=some q:=h1;rw [h1'] at HU;simp only [Go.Ab.nr,cJ,gj,cH] at HU;obtain rfl:r=none:=by rw [hr,h1];exact aq (fun h=>by cases h.1)
  refine gL uo fun cG=>?_;simp only [fH] at cG;simp only [W,seval,uo,vZ,hn,hj,bW,x0,x1,vN,hb,HU,gN,bC,bL,cR];refine bN uo (jw (en _) (aA _) rfl ?_);exact fail _
 | none =>
  have h1':kK ep.name (fm.mk su fu vs).vs CH=none:=h1;rw [h1'] at HU;simp only [Go.Ab.nr,jh,gj,tyZ] at HU;refine gL uo fun cG=>?_;simp only [fH] at cG;simp only [W,seval,uo,vZ,hn,hj,bW,x0,x1,vN,hb,HU,gN,bC,bL,cR];refine aX (vI _) ?_;cases hf1:ku su fu CH with
  | false =>
   obtain rfl:r=none:=by rw [hr,hf1];exact aq (fun h=>by cases h.2.1)
   refine goN ?_;simp only [W,seval,uo,aO];refine bN uo (jw (en _) (aA _) rfl ?_);exact fail _
  | true =>
   refine goN ?_;simp only [W,seval,uo,aK,hn,hj,bW,sC,uh,x9];refine aX (kz _) ?_;cases Ta:dH su ty with
   | false =>
    obtain rfl:r=none:=by rw [hr,Ta];exact aq (fun h=>by cases h.2.2)
    refine goN ?_;simp only [W,seval,uo,aO];refine bN uo (jw (en _) (aA _) rfl ?_);exact fail _
   | true =>
    obtain rfl:r=some (x,vs++[⟨CH,ty⟩]):=by rw [hr,Ta,hf1,h1];exact aD ⟨rfl,rfl,rfl⟩
    have hpN:p < N:=by rw [← hn];exact (ai.1 N7).1
    have hwn:w < n:=by have:=h.nb;omega
    have zi:=fun J T=>h.k.afX h1' ty J T;unfold cH at zi;dsimp only at zi;have hpw:∀ Z,(B.set w Z)[p]? = some [.sl (gN nm) (.own M)]:=fun Z=>by rw [aj ak];exact N7
    have gh:(nm.length+1) * 16≤140737488355328:=ak;have Bk:fE 1 [[D.str CH]]=true:=rfl;refine goN ?_;simp only [W,seval,uo,aK,hn];refine dj 9 [] [c,j] ?_;simp (maxSteps:=4000000) only [W,seval,uo,xw,vZ,hn,hj,bW,sC,uh,vN,hb,zi];have tM:gN nm++[[.str CH]]=gN (nm++[CH]):=by simp [gN]
    refine goN ?_;simp only [W,seval,uo,hn,hpN,hpw,N8,bL,bC,eV,Nat.reduceMul,gh,Bk,tM]
    have e1:pZ w p L.lo L.hi B.length T.length B ((B.set w (yC (vs++[⟨CH,ty⟩]))).set p [.sl (gN (nm++[CH])) (.own M)]):=((pZ.refl _ _ _ _ _ _ B).put (.inl rfl) (fun v hv=>.inl (PO _ _ v hv))).put (.inr (.inl rfl)) (fun v hv=>.inr ⟨rfl,by
     obtain rfl:=bO.1 hv;exact ah (ai.1 N8).1⟩)
    refine bN uo (jw e1.app (aA _) aG ?_);have hM:=(ai.1 N8).1;have hnb:=h.nb;have Ds:=h.ow
    have at1:∀ J i,i < B.length→i ≠ w→i ≠ p→((((B.set w (yC (vs++[⟨CH,ty⟩]))).set p [V.sl (gN (nm++[CH])) (.own M)])++J).take B.length)[i]? = B[i]?:=fun J i a b c=>by
     rw [mH a,bt fk,aj (jk c),aj (jk b)]
    refine ⟨_,_,rfl,dM,aG,fun q hq=>aj (jk hq),e1.app.cut,rfl,fun y rZ he=>?_⟩;obtain ⟨rfl,rfl⟩:=aR (ag he);have fr:∀ J i,L.lo≤i→i < L.hi→((((B.set w (yC (vs++[⟨CH,ty⟩]))).set p [V.sl (gN (nm++[CH])) (.own M)])++J).take B.length)[i]? = B[i]?:=fun J i a b=>at1 J i ak (by have:=Ds.2;omega) ak;obtain ⟨l1,l2,l3,l4,l5⟩:=h.own.le;refine ⟨⟨h.own.1.frame fun i a b=>fr _ i ak ak,h.own.2.1.frame fun i a b=>fr _ i ak ak,h.own.2.2.1.frame fun i a b=>fr _ i ak ak,h.own.2.2.2.1.frame fun i a b=>fr _ i ak ak,h.own.2.2.2.2.frame fun i a b=>fr _ i ak ak⟩,?_,[⟨CH,ty⟩],rfl,?_,?_,?_⟩
    ·rw [at1 _ _ ak (fun e=>Ds.1 e.symm) ak];exact h.row
    ·rw [mH ak,bt fk,aj ak,aC ak]
    ·rw [mH ak,bt fk,aC fk];rfl
    ·rw [aC hM];simp
end
def yF:cL→List bh→cL
 | .mk k ns ty ls _ b e cs,es=>.mk k ns ty ls es b e cs
theorem xO (L:Lay) (x:cL) (es:List bh):L.row (yF x es)=L.row x:=by cases x;rfl
theorem AO (x:cL) (es:List bh):(yF x es).cq=x.cq∧(yF x es).exprs=es∧(yF x es).body=x.body∧(yF x es).iS=x.iS∧(yF x es).cases=x.cases:=by cases x;exact ⟨rfl,rfl,rfl,rfl,rfl⟩
section
variable {su:List eZ} {fu:List fL} {vs:List ep} {res:List bJ} {n c s f w:Nat} {B:bQ} {T:eg} {L:Lay} {x:cL} {p M:Nat} {nm:List (List UInt8)}
theorem WK.of {B1:bQ} {r:Option (cL × List ep)} (h:yE B n c s f w ⟨su,fu,vs⟩ res L x) (hp:n≤p) (N7:B[p]? = some [.sl (gN nm) (.own M)]) (N8:T[M]? = some (nm.length,1)) (hl:B1.length=B.length) (he:pZ w w L.lo L.hi B.length 0 B B1) {u:V} (hu:u = .d (.bool r.isSome)) (hr:∀ y rZ,r=some (y,rZ)→rZ=vs∧L.row y=L.row x∧L.parts B1 y∧B1[w]? = some (yC vs)):WK r L w p M vs nm B T u ⟨B1,T⟩:=by
 have hnb:=h.nb;have nZ:=h.nl;have Mg:=(ai.1 N7).1;refine ⟨B1,T,rfl,hl,rfl,fun _ _=>rfl,he.ng (aA _) (.inr (.inr rfl)) (.inl rfl) (.inl rfl) (aA _) (aA _),hu,fun y rZ hy=>?_⟩;obtain ⟨rfl,h2,h3,h4⟩:=hr y rZ hy;have Ds:=h.ow;refine ⟨h3,?_,[],dM,h4,?_,by simpa using N8⟩
 ·rw [he.2.1 L.j ak (fun e=>Ds.1 e.symm) (fun e=>Ds.1 e.symm) h.jo,h2];exact h.row
 ·rw [he.2.1 p Mg ak ak ak];simpa using N7
theorem acC (su:List eZ) (fu:List fL) (res:List bJ) (vs:List ep) (x:cL) (a:bh) (h5:x.kind=5) (hk:x.exprs=[a]):jb su fu res x vs=(match bP ⟨su,fu,vs⟩ a eF with
 | some (y,t)=>if jz t.kind=true then (match jv su fu res (iQ t.kind) x.cases vs with
  | some cs=>(eD su fu res x.iS vs).map fun e=>(y,cs,e)
  | none=>none) else none
 | none=>none).map fun r:bh × List iB × List cL=>(EV x r.1 r.2.1 r.2.2,vs):=by
 obtain ⟨k,ns,ty,ls,es,b,e,cs⟩:=x;obtain rfl:k=5:=h5;obtain rfl:es=[a]:=hk;unfold jb;rw [aq bH,aq bH,aq bH];dsimp only;rw [aD rfl];cases bP ⟨su,fu,vs⟩ a eF with
 | none=>rfl
 | some q =>
  obtain ⟨y,t⟩:=q;dsimp only [cL.cases,cL.iS];cases jz t.kind
  ·rfl
  ·rw [aD rfl,aD rfl];cases jv su fu res (iQ t.kind) cs vs with
   | none=>rfl
   | some m =>
    dsimp only;cases eD su fu res e vs<;>rfl
theorem acD {a:bh} (h5:x.kind=5) (hk:x.exprs=[a]) (ha:∀ vs,(∀ p∈vs,TW p.type)→kn ⟨su,fu,vs⟩ res a) (we:∀ q∈x.cases,YZ su fu res q.body) (uq:YZ su fu res x.iS) (hlen:x.cases.length≤60000):StG su fu res x:=by
 intro vs n c s f w B T L p M nm xU h hp N7 N8 Df;obtain ⟨N,hn⟩:=aV B.length;obtain ⟨al,jB⟩:=aV L.A.length;obtain ⟨j,CG⟩:=aV L.j;obtain ⟨X,hX⟩:=aV (L.row x);obtain ⟨x0,x1,x5,x6,x7,x8,x9,sC,uh,_⟩:=nK (show X=_ from hX.symm) jB;have bW:=h.row;rw [hX,CG] at bW;rw [h5] at x0;have hj:j < N:=by have:=h.nb;have:=h.nl;omega
 have hc:=RW (T:=T) hk xU (ha vs xU) we uq hlen h;rw [acC su fu res vs x a h5 hk];rw [jB,CG] at hc ⊢;refine gL uo fun cG=>?_;simp only [fH] at cG;simp only [W,seval,uo,hn,hj,bW,x0,Int.reduceEq,cR,jA];refine cz hc ?_;rintro u _ ⟨B1,rfl,hl,he,rfl,hr⟩;refine goN ?_;simp only [W,seval,uo];refine bN uo (jw he (bG _) rfl ?_);rw [bS ak];refine WK.of h hp N7 N8 hl he (by rw [pV];rfl) fun y rZ hy=>?_;obtain ⟨⟨y',cs,e⟩,hq,e2⟩:=aB.1 hy;obtain ⟨rfl,rfl⟩:=aR e2;exact ⟨rfl,w8 _ _ _ _ _,hr y' cs e hq⟩
theorem Y2 (su:List eZ) (fu:List fL) (res:List bJ) (vs:List ep) (x:cL) (h2:x.kind=2):jb su fu res x vs=(match oN ⟨su,fu,vs⟩ x.cq with
 | some ts=>iJ ⟨su,fu,vs⟩ x.exprs ts
 | none=>none).map fun es=>(yF x es,vs):=by
 obtain ⟨k,ns,ty,ls,es,b,e,cs⟩:=x;obtain rfl:k=2:=h2;unfold jb;rw [aq bH,aD rfl];dsimp only [cL.cq,cL.exprs];cases oN ⟨su,fu,vs⟩ ls with
 | none=>rfl
 | some ts=>rfl
theorem Y3 (su:List eZ) (fu:List fL) (res:List bJ) (vs:List ep) (x:cL) (h6:x.kind=6):jb su fu res x vs=(iJ ⟨su,fu,vs⟩ x.exprs res).map fun es=>(yF x es,vs):=by
 obtain ⟨k,ns,ty,ls,es,b,e,cs⟩:=x;obtain rfl:k=6:=h6;unfold jb;rw [aq bH,aq bH,aD rfl];rfl
theorem yE.exs {B1:bQ} {es:List bh} (h:yE B n c s f w ⟨su,fu,vs⟩ res L x) (he:∀ i,i < n→(i < L.m1∨L.m2≤i)→B1[i]? = B[i]?) (ho:mY B1 es L.m1 L.m2 L.v2):L.parts B1 (yF x es)∧B1[w]? = some (yC vs):=by
 obtain ⟨s1,s2,s3,s4,s5⟩:=AO x es;have hle:=h.own.le;have hnb:=h.nb;have Ds:=h.ow;refine ⟨⟨?_,?_,?_,?_,?_⟩,?_⟩
 ·rw [s1];exact h.own.1.frame fun i a b=>he i ak ak
 ·rw [s2];exact ho
 ·rw [s3];exact h.own.2.2.1.frame fun i a b=>he i ak ak
 ·rw [s4];exact h.own.2.2.2.1.frame fun i a b=>he i ak ak
 ·rw [s5];exact h.own.2.2.2.2.frame fun i a b=>he i ak ak
 ·rw [he w ak (by have:=Ds.2;omega)];exact h.k.w
theorem Y4 (hT:mh su fu) (h2:x.kind=2) (hlf:∀ vs,(∀ p∈vs,TW p.type)→∀ y∈x.cq,kn ⟨su,fu,vs⟩ res y∧∀ w z t,bP ⟨su,fu,vs⟩ y w=some (z,t)→z=y) (hl:∀ vs,(∀ p∈vs,TW p.type)→∀ y∈x.exprs,kn ⟨su,fu,vs⟩ res y∧∀ z∈y.kids,kn ⟨su,fu,vs⟩ res z) (hlen:x.exprs.length≤60000) (aaz:x.cq.length≤60000):StG su fu res x:=by
 intro vs n c s f w B T L p M nm xU h hp N7 N8 Df;obtain ⟨N,hn⟩:=aV B.length;obtain ⟨al,jB⟩:=aV L.A.length;obtain ⟨j,CG⟩:=aV L.j;obtain ⟨X,hX⟩:=aV (L.row x);obtain ⟨x0,x1,x5,x6,x7,x8,x9,sC,uh,_⟩:=nK (show X=_ from hX.symm) jB;have bW:=h.row;rw [hX,CG] at bW;rw [h2] at x0;have nZ:=h.nl;have hle:=h.own.le;have hj:j < N:=by have:=h.nb;omega
 have hc:=acB (T:=T) hT (hlf vs xU) (fun y hy=>(hl vs xU y hy).1) (fun y hy=>(hl vs xU y hy).2) hlen aaz h;rw [Y2 su fu res vs x h2];rw [jB,CG] at hc ⊢;refine gL uo fun cG=>?_;simp only [fH] at cG;simp only [W,seval,uo,hn,hj,bW,x0,Int.reduceEq,cR,jA];refine cz hc ?_;rintro u _ ⟨B1,rfl,hlB,he,rfl,hr⟩;refine goN ?_;simp only [W,seval,uo];have e1:pZ w w L.lo L.hi B.length 0 B B1:=pZ.ng (he.efs (w:=w) (p:=w) (m:=0) (.inl (aA _))) (aA _) (.inr (.inr rfl)) (.inl rfl) (.inl rfl) (aA _) ak;refine bN uo (jw e1 (bG _) rfl ?_);rw [bS ak];refine WK.of h hp N7 N8 hlB e1 (by rw [pV];rfl) fun y rZ hy=>?_;obtain ⟨es,hq,e2⟩:=aB.1 hy;obtain ⟨rfl,rfl⟩:=aR e2;obtain ⟨o1,o2⟩:=hr es hq;obtain ⟨s1,s2,s3,s4,s5⟩:=AO x es;have hnb:=h.nb;have Ds:=h.ow;have fr:∀ i,i < n→(i < L.lo∨L.m2≤i)→B1[i]? = B[i]?:=fun i a b=>he.2.1 i ak ⟨ak,b⟩;refine ⟨rfl,xO _ _ _,⟨?_,?_,?_,?_,?_⟩,?_⟩
 ·rw [s1];exact o1
 ·rw [s2];exact o2
 ·rw [s3];exact h.own.2.2.1.frame fun i a b=>fr i ak ak
 ·rw [s4];exact h.own.2.2.2.1.frame fun i a b=>fr i ak ak
 ·rw [s5];exact h.own.2.2.2.2.frame fun i a b=>fr i ak ak
 ·rw [fr w ak (by have:=Ds.2;omega)];exact h.k.w
theorem Y5 (hT:mh su fu) (h6:x.kind=6) (hl:∀ vs,(∀ p∈vs,TW p.type)→∀ y∈x.exprs,kn ⟨su,fu,vs⟩ res y∧∀ z∈y.kids,kn ⟨su,fu,vs⟩ res z) (hlen:x.exprs.length≤60000):StG su fu res x:=by
 intro vs n c s f w B T L p M nm xU h hp N7 N8 Df;obtain ⟨N,hn⟩:=aV B.length;obtain ⟨al,jB⟩:=aV L.A.length;obtain ⟨j,CG⟩:=aV L.j;obtain ⟨X,hX⟩:=aV (L.row x);obtain ⟨x0,x1,x5,x6,x7,x8,x9,sC,uh,_⟩:=nK (show X=_ from hX.symm) jB;have bW:=h.row;rw [hX,CG] at bW;rw [h6] at x0;have nZ:=h.nl;have hle:=h.own.le;have hjo:=h.jo;have hj:j < N:=by have:=h.nb;omega
 have vN:c < N:=by rw [← hn];exact h.k.lt.1
 have hb:=h.k.c;have hoc:=h.oc;unfold FU at hb;have hc:=GZ (T:=T) hT (fun y hy=>(hl vs xU y hy).1) (fun y hy=>(hl vs xU y hy).2) hlen res h.exprs;rw [Y3 su fu res vs x h6];rw [jB,CG];refine gL uo fun cG=>?_;simp only [fH] at cG;simp only [W,seval,uo,hn,hj,bW,x0,Int.reduceEq,cR,jA];refine dj 10 [] [j,c] ?_;simp (maxSteps:=4000000) only [W,seval,uo,xw,hn,hj,bW,x6,vN,hb];refine iO (vaG.ne h.exprs res) hc ?_;rintro u _ ⟨B1,rfl,⟨he,hlB,hr⟩,rfl⟩;have k1:B1[j]? = B[j]?:=he.2.1 j ak ⟨ak,ak⟩;have k2:B1[c]? = B[c]?:=he.2.1 c ak ⟨ak,by have:=hoc.2;omega⟩;refine ⟨⟨k1,k2,trivial⟩,?_⟩;simp (maxSteps:=4000000) only [W,seval,uo,xw,hn];refine ⟨⟨k1,k2⟩,?_⟩;refine goN ?_;simp only [W,seval,uo];have e1:pZ w w L.lo L.hi B.length 0 B B1:=pZ.ng (he.efs (w:=w) (p:=w) (m:=0) (.inl (aA _))) (aA _) (.inr (.inr rfl)) (.inl rfl) (.inl rfl) ak ak;refine bN uo (jw e1 (bG _) rfl ?_);rw [bS ak];refine WK.of h hp N7 N8 hlB e1 (by rw [pV];rfl) fun y rZ hy=>?_;obtain ⟨es,hq,e2⟩:=aB.1 hy;obtain ⟨rfl,rfl⟩:=aR e2;have:=h.exs (fun i a b=>he.2.1 i ak ⟨ak,b⟩) (hr es hq);exact ⟨rfl,xO _ _ _,this⟩
def LB:cL→bh→List cL→List cL→cL
 | .mk k ns ty ls _ _ _ cs,y,b,e=>.mk k ns ty ls [y] b e cs
theorem LC (L:Lay) (x:cL) (y:bh) (b e:List cL):L.row (LB x y b e)=L.row x:=by cases x;rfl
theorem Dt (x:cL) (y:bh) (b e:List cL):(LB x y b e).cq=x.cq∧(LB x y b e).exprs=[y]∧(LB x y b e).body=b∧(LB x y b e).iS=e∧(LB x y b e).cases=x.cases:=by cases x;exact ⟨rfl,rfl,rfl,rfl,rfl⟩
theorem acE (su:List eZ) (fu:List fL) (res:List bJ) (vs:List ep) (x:cL) (a:bh) (hx:x.kind=3∨x.kind=4) (hk:x.exprs=[a]):jb su fu res x vs=(match dz (bP ⟨su,fu,vs⟩ a cZ) cZ with
 | some y=>(match eD su fu res x.body vs with
  | some b=>(eD su fu res x.iS vs).map fun e=>(LB x y b e,vs)
  | none=>none)
 | none=>none):=by
 obtain ⟨k,ns,ty,ls,es,b,e,cs⟩:=x;obtain rfl:es=[a]:=hk;have h1:k=3∨k=4:=hx;unfold jb;rw [aq ak,aq ak,aq ak];dsimp only;rw [aq ak];rfl
theorem Ve {a:bh} (hx:x.kind=3∨x.kind=4) (hk:x.exprs=[a]) (ha:∀ vs,(∀ p∈vs,TW p.type)→kn ⟨su,fu,vs⟩ res a) (FQ:YZ su fu res x.body) (uq:YZ su fu res x.iS):StG su fu res x:=by
 intro vs n c s f w B T L p M nm xU h hp N7 N8 Df;obtain ⟨N,hn⟩:=aV B.length;obtain ⟨al,jB⟩:=aV L.A.length;obtain ⟨j,CG⟩:=aV L.j;obtain ⟨X,hX⟩:=aV (L.row x);obtain ⟨x0,x1,x5,x6,x7,x8,x9,sC,uh,_⟩:=nK (show X=_ from hX.symm) jB;have bW:=h.row;rw [hX,CG] at bW;have nZ:=h.nl;have hle:=h.own.le;have hjo:=h.jo;have Ds:=h.ow;have hoc:=h.oc;have hos:=h.os;have hof:=h.of;have hj:j < N:=by have:=h.nb;omega
 have hex:=h.exprs;rw [hk] at hex;obtain ⟨j1,m,cap,Sz,uV⟩:=hex.bx dM;rw [Sz] at hex x6;have hm:(0:Int) < (m:Int):=by rw [uV];simp
 obtain ⟨lG,kD,A1,C1,uL,a1,k1,k2,k3⟩:=hex.r9 (k:=0) (y:=a) rfl;rw [gk] at a1;have hh:=pU (T:=T) (ha vs xU) cZ k1;rw [a1] at hh;unfold cH at hh;rw [acE su fu res vs x a hx hk];rw [jB,CG];have e3:∀ k:Int,k=3∨k=4→decide (k=1)=false∧decide (k=2)=false∧decide (k=6)=false∧decide (k=5)=false:=fun k h=>⟨af ak,af ak,af ak,af ak⟩;obtain ⟨q1,q2,q3,q4⟩:=e3 _ hx;refine gL uo fun cG=>?_;simp only [fH] at cG;simp only [W,seval,uo,hn,hj,bW,x0,q1,q2,q3,q4];refine dj 24 [] [j] ?_;simp (maxSteps:=4000000) only [W,seval,uo,xw,oE,hn,hj,bW,x6,hm];refine bK (fun Z=>mm _ _) ?_;simp (maxSteps:=4000000) only [W,seval,uo,xw,cH];refine iO (xZ.ne k1 cZ) hh ?_;rintro u _ ⟨B1,rfl,hd,rfl⟩;have ee:=k2 B.length _ _ hd.1;have eW:=hd.2.1;have g1:B1[j]? = B[j]?:=ee.2.1 j ak ⟨ak,ak⟩;have e1:pZ w w L.lo L.hi B.length 0 B B1:=pZ.ng (ee.efs (w:=w) (p:=w) (m:=0) (.inl (aA _))) (aA _) (.inr (.inr rfl)) (.inl rfl) (.inl rfl) ak ak;refine ⟨⟨g1,trivial⟩,?_⟩;cases hw:dz (bP ⟨su,fu,vs⟩ a cZ) cZ with
 | none =>
  simp (maxSteps:=4000000) only [W,seval,uo,xw,gw,hn];refine ⟨g1,?_⟩;refine goN ?_;simp only [W,seval,uo];refine bN uo (jw e1 (bG _) rfl ?_);rw [bS ak];exact WK.of h hp N7 N8 eW e1 rfl fun y rZ hy=>by cases hy
 | some z =>
  rw [hw] at hd;have hz:=(k3 B1 z hd).own;obtain ⟨pz,wz⟩:=h.exs (es:=[z]) (fun i a b=>ee.2.1 i ak ⟨ak,b⟩) (by rw [Sz];exact hz);have Ta:yE B1 n c s f w ⟨su,fu,vs⟩ res L (yF x [z]):=h.part (e1.ng (n:=n) (m:=0) nZ (.inr (.inr rfl)) (.inl rfl) (.inl rfl) (aA _) (aA _)) (.inr rfl) (aA _) (aA _) wz (xO _ _ _) pz;have PN:=Ta.body;rw [(AO x [z]).2.2.1] at PN;have tV:=FQ vs n c s f w B1 T _ _ _ xU PN;have zw:j < B1.length:=ak;have Ll:B1[j]? = some X:=g1.trans bW;simp (maxSteps:=4000000) only [W,seval,uo,xw,gy,hn,Ll,x7];refine iO (blG.ne PN) tV ?_;rintro u _ ⟨B2,rfl,kP,rfl⟩;have qd:=kP.2.1;have g2:B2[j]? = B1[j]?:=kP.1.2.1 j zw (fun e=>Ds.1 (e.symm.trans CG.symm)) (fun e=>Ds.1 (e.symm.trans CG.symm)) ak;have e2:pZ w w L.lo L.hi B.length 0 B B2:=e1.step (kP.1.ng (aA _) (.inr (.inr rfl)) (.inl rfl) (.inl rfl) ak ak);refine ⟨⟨g2.trans g1,trivial⟩,?_⟩;cases hwb:eD su fu res x.body vs with
  | none =>
   simp (maxSteps:=4000000) only [W,seval,uo,xw,gw,hn];refine ⟨g2.trans g1,?_⟩;refine goN ?_;simp only [W,seval,uo];refine bN uo (jw e2 (bG _) rfl ?_);rw [bS ak];exact WK.of h hp N7 N8 (qd.trans eW) e2 rfl fun y rZ hy=>by cases hy
  | some b =>
   rw [hwb] at kP;obtain ⟨ob,ow2⟩:=kP.2.2 b rfl;have hnb:=h.nb;have JA:∀ i,i < n→i ≠ w→(i < L.m2∨L.m3≤i)→B2[i]? = B1[i]?:=fun i a b c=>kP.1.2.1 i ak b b c;have afU:=Ds.2
   have hs2:yE B2 n c s f w ⟨su,fu,vs⟩ res L (LB x z b x.iS):=by
    obtain ⟨p1,p2,p3,p4,p5⟩:=Ta.own;obtain ⟨s1,s2,s3,s4,s5⟩:=AO x [z];obtain ⟨r1,r2,r3,r4,r5⟩:=Dt x z b x.iS;rw [s1] at p1;rw [s2] at p2;rw [s4] at p4;rw [s5] at p5;refine Ta.part (kP.1.ng (n:=n) (m:=0) ak (.inr (.inr rfl)) (.inl rfl) (.inl rfl) (aA _) (aA _)) (.inr rfl) ak ak ow2 (by rw [LC,xO]) ⟨?_,?_,?_,?_,?_⟩
    ·rw [r1];exact p1.frame fun i a b=>JA i ak ak ak
    ·rw [r2];exact p2.frame fun i a b=>JA i ak ak ak
    ·rw [r3];exact ob
    ·rw [r4];exact p4.frame fun i a b=>JA i ak ak ak
    ·rw [r5];exact p5.frame fun i a b=>JA i ak ak ak
   have acF:=hs2.iS;rw [(Dt x z b x.iS).2.2.2.1] at acF;have xV:=uq vs n c s f w B2 T _ _ _ xU acF;have RJ:B2[j]? = some X:=g2.trans Ll;simp (maxSteps:=4000000) only [W,seval,uo,xw,gy,hn,RJ,x8];refine iO (blG.ne acF) xV ?_;rintro u _ ⟨B3,rfl,GS,rfl⟩;have SG:=GS.2.1;have g3:B3[j]? = B2[j]?:=GS.1.2.1 j ak (fun e=>Ds.1 (e.symm.trans CG.symm)) (fun e=>Ds.1 (e.symm.trans CG.symm)) ak;have e4:pZ w w L.lo L.hi B.length 0 B B3:=e2.step (GS.1.ng (aA _) (.inr (.inr rfl)) (.inl rfl) (.inl rfl) ak ak);have g4:=g3.trans (g2.trans g1);refine ⟨⟨g4,trivial⟩,?_⟩;simp (maxSteps:=4000000) only [W,seval,uo,xw,hn];refine ⟨g4,?_⟩;refine goN ?_;simp only [W,seval,uo];refine bN uo (jw e4 (bG _) rfl ?_);rw [bS ak];refine WK.of h hp N7 N8 (SG.trans (qd.trans eW)) e4 (by rw [pV];rfl) fun y rZ hy=>?_;obtain ⟨e',hq,e5⟩:=aB.1 hy;obtain ⟨rfl,rfl⟩:=aR e5;obtain ⟨oe,ow3⟩:=GS.2.2 e' hq;have fr3:∀ i,i < n→i ≠ w→(i < L.m3∨L.m4≤i)→B3[i]? = B2[i]?:=fun i a b c=>GS.1.2.1 i ak b b c;obtain ⟨p1,p2,p3,p4,p5⟩:=hs2.own;obtain ⟨s1,s2,s3,s4,s5⟩:=Dt x z b x.iS;obtain ⟨r1,r2,r3,r4,r5⟩:=Dt x z b e';rw [s1] at p1;rw [s2] at p2;rw [s3] at p3;rw [s5] at p5;refine ⟨rfl,LC _ _ _ _ _,⟨?_,?_,?_,?_,?_⟩,ow3⟩
   ·rw [r1];exact p1.frame fun i a b=>fr3 i ak ak ak
   ·rw [r2];exact p2.frame fun i a b=>fr3 i ak ak ak
   ·rw [r3];exact p3.frame fun i a b=>fr3 i ak ak ak
   ·rw [r4];exact oe
   ·rw [r5];exact p5.frame fun i a b=>fr3 i ak ak ak
end
def WL:=KB func27 33
theorem RX {su:List eZ} {fu:List fL} {res:List bJ} {s:cL} {vs:List ep} {s':cL} {rZ:List ep} (h:jb su fu res s vs=some (s',rZ)):rZ=vs∨∃ n,rZ=vs++[⟨n,s.type⟩]∧kK ep.name vs n=none:=by
 obtain ⟨k,ns,ty,ls,es,b,e,cs⟩:=s
 have one:∀ {α:Type} {o:Option α} {g:α→cL × List ep},(∀ a,(g a).2=vs)→o.map g=some (s',rZ)→rZ=vs:=by
  intro α o g hg h;obtain ⟨x,_,e⟩:=aB.1 h;rw [← hg x,e]
 unfold jb at h
 split at h
 ·split at h
  ·split at h
   ·rename_i n _ hc;have:=(aR (ag h)).2;exact .inr ⟨n,this.symm,by simpa using hc.1⟩
   ·cases h
  ·cases h
 split at h
 ·split at h
  ·exact .inl (one (fun _=>rfl) h)
  ·cases h
 split at h
 ·exact .inl (one (fun _=>rfl) h)
 split at h
 ·split at h
  ·split at h
   ·split at h
    ·split at h
     ·exact .inl (one (fun _=>rfl) h)
     ·cases h
    ·cases h
   ·cases h
  ·split at h
   ·split at h
    ·exact .inl (one (fun _=>rfl) h)
    ·cases h
   ·cases h
 ·cases h
theorem PR {α:Type} (nm:α→List UInt8):∀ {l m:List α} {n:List UInt8},kK nm (l++m) n=none→kK nm l n=none
 | [],_,_,_=>rfl
 | x :: l,m,n,h=>by
  rw [gH] at h;unfold kK at h ⊢
  split at h
  ·cases h
  ·rename_i hx;rw [aq hx];exact PR nm h
theorem LD {α:Type} (nm:α→List UInt8) (k:α) (r:List α):∀ l:List α,kK nm l (nm k)=none→rI ((l++k :: r).map nm) (nm k)=some l.length
 | [],_=>by simp [rI]
 | x :: l,h=>by
  unfold kK at h
  split at h
  ·cases h
  ·rename_i hx;rw [gH,cw,rI,aq hx,LD nm k r l h];rfl
theorem Y6 {vs r:List ep} {k:ep} (h:kK ep.name vs k.name=none):Xa ((vs++k :: r).map ep.name) ((vs++k :: r).map fun p=>cH p.type) k.name=yC (vs++r):=by
 unfold Xa yC;rw [LD _ _ _ _ h];dsimp only;simp only [cr,cw];rw [oY dM,oY dM];simp
theorem LF {T T':eg} {b:Nat × Nat} (hq:∀ q,q ≠ T.length→T'[q]? = (T++[b])[q]?):T' = T++T'.drop T.length:=by
 conv=>lhs;rw [← eX T.length T']
 congr 1
 apply fW;intro q;rw [bp]
 by_cases h:q < T.length
 ·rw [aD h,hq q ak,bk h]
 ·rw [aq h,dP ak]
theorem Y7 {T T':eg} {b d:Nat × Nat} (hl:T'.length=(T++[b]).length) (hq:∀ q,q ≠ T.length→T'[q]? = (T++[b])[q]?) (hd:T'[T.length]? = some d):T' = T++[d]:=by
 rw [LF hq] at hd ⊢;rw [aN (aA _),iU] at hd
 congr 1
 have:(T'.drop T.length).length=1:=by simp at hl;simp;omega
 obtain ⟨x,hx⟩:=je.1 this;rw [hx] at hd ⊢;rw [← ag hd]
structure afY where
 i:Nat
 ys:List cL
 ks:List ep
 B:List (List V)
structure POk (su:List eZ) (fu:List fL) (vs:List ep) (res:List bJ) (n c s f w lo hi:Nat) (v:V) (l:List cL) (M:Nat) (B:bQ) (a:afY):Prop where
 le:a.i≤l.length
 len:a.ys.length=a.i
 WD:pZ w w lo hi B.length 0 B a.B
 bl:a.B.length=B.length+1
 at':um a.B n c s f w ⟨su,fu,vs++a.ks⟩ res lo hi v (a.ys++l.drop a.i)
 nb:a.B[B.length]? = some [.sl (gN (a.ks.map ep.name)) (.own M)]
 new:∀ k∈a.ks,kK ep.name vs k.name=none
 tw:∀ k∈a.ks,TW k.type
 kl:a.ks.length≤a.i
 res:(eD su fu res (l.drop a.i) (vs++a.ks)).map (a.ys++·)=eD su fu res l vs
theorem I8 (su:List eZ) (fu:List fL) (res:List bJ) (l:List cL) (vs:List ep) (i:Nat) (h:i < l.length):eD su fu res (l.drop i) vs=match jb su fu res l[i] vs with
 | some (s,vs)=>(eD su fu res (l.drop (i+1)) vs).map fun l=>s :: l
 | none=>none:=by
 rw [aJ h]
 conv=>lhs;unfold eD
 rfl
theorem td {su:List eZ} {fu:List fL} {res:List bJ} {l:List cL} (hl:∀ x∈l,StG su fu res x) (jU:∀ x∈l,TW x.type) (hlen:l.length≤60000):YZ su fu res l:=by
 intro vs n c s f w B T lo hi v xU h;obtain ⟨N,hn⟩:=aV B.length;obtain ⟨M,hM⟩:=aV T.length;have nZ:=h.nl;have hnb:=h.nb;have Ds:=h.ow;have F1:=h.own.len prog PL rfl;rw [mM.eq_1,PL] at F1;refine gL WL fun cG=>?_;simp only [fH] at cG;simp only [W,seval,WL,hn,F1];refine az.UW N 0 _ [] (by rw [gp hn];rfl) (by rfl) 1 ak rfl ?_;rw [Ck hn];simp only [cn,hM,aW];refine az.dL (fun a:afY=>(cN 33 [(0,.ptr c 0),(1,v),(5,.ptr N 0),(10,.d (.int .i64 (l.length:Int))),(11,.d (.int .i64 (a.i:Int)))],⟨a.B,T++[(a.ks.length,1)]⟩)) (POk su fu vs res n c s f w lo hi v l M B) (fun a=>l.length - a.i) ⟨0,[],[],B++[[.sl [] (.own M)]]⟩ ⟨Nat.zero_le _,rfl,(pZ.refl _ _ _ _ _ _ B).app,dM,by simpa using h.more,by rw [gp rfl];rfl,dM,dM,Nat.zero_le _,dM⟩ cx rfl ?_;rintro ⟨i,ys,ks,Bi⟩ ⟨h2,h3,h4,h5,h6,h7,h8,h9,yN,Gc⟩ ih;dsimp only at h2 h3 h4 h5 h6 h7 h8 h9 yN Gc ih ⊢;rw [hn] at h5 h7;have hNN:N < N+1:=ak
 by_cases bu:i < l.length
 case neg =>
  have e3:decide ((i:Int) < (l.length:Int))=false:=af ak;obtain rfl:i=l.length:=ak;rw [ay (aA _),eD,cJ,aQ] at Gc;rw [ay (aA _),aQ] at h6;rw [← Gc];have hwB:=h6.k.w;refine goN ?_;simp only [W,seval,WL,e3,h5,hNN,h7,eV,aS];have hcB:=h6.k.c;unfold FU at hcB;obtain ⟨w1,_,_⟩:=h.wd;have hcn:c < N+1:=ak;have sN:Bi.set w (yC (vs++ks))=Bi:=w7 _ _ _ hwB;have Tt:w < Bi.length:=ak;have Vf:∀ Z,(Bi.set w Z)[c]? = some [V.mp s,.mp f,.mp w,.d (.sl (res.map eH))]:=fun Z=>by rw [aj (jk w1)];exact hcB
  have hef:∀ q,pZ w w lo hi B.length 0 B (Bi.set w (yC q)):=fun q=>h4.put (.inl rfl) fun v hv=>.inl (PO q 0 v hv);refine az.dL (fun k:Nat=>(cN 33 [(0,.ptr c 0),(21,.sl (gN (ks.map ep.name)) (.own M)),(22,.d (.int .i64 (ks.length:Int))),(23,.d (.int .i64 (k:Int)))],⟨Bi.set w (yC (vs++ks.drop k)),T++[(ks.length,1)]⟩)) (fun k=>k≤ks.length) (fun k=>ks.length - k) 0 (bG _) cx (by rw [iE,sN]) ?_;intro k hk o8;dsimp only at o8 ⊢
  by_cases Mn:k < ks.length
  case neg =>
   have e4:decide ((k:Int) < (ks.length:Int))=false:=af ak;rw [ay ak,aQ];refine goN ?_;simp only [W,seval,WL,e4];refine bN WL (EU (hef vs) (bG _) rfl ?_);have IF:w < lo∨hi≤w:=Ds;refine ⟨_,rfl,⟨(hef vs).cut,fk,fun l' Cd=>?_⟩,rfl⟩;obtain rfl:=ag Cd;exact ⟨h6.own.frame fun i a b=>by rw [mH ak,aj ak],by rw [mH ak,aC Tt]⟩
  have e4:decide ((k:Int) < (ks.length:Int))=true:=ah ak;have Gj:=bE ((k:Int)+1) ak;have hgk:(ks.map ep.name)[k]? = some ks[k].name:=by simp [Mn]
  have Vg:(k:Int) < ((ks.map ep.name).length:Int):=by rw [aS];omega
  have ajN:wm prog ⟨Bi.set w (yC (vs++ks.drop k)),T++[(ks.length,1)]⟩ 62 (.mp w) (.d (.str ks[k].name))=some (.fZ [],⟨Bi.set w (yC (vs++ks.drop (k+1))),T++[(ks.length,1)]⟩):=by
   unfold wm;have hg:(Bi.set w (yC (vs++ks.drop k)))[w]? = some (yC (vs++ks.drop k)):=aC Tt;unfold yC at hg;simp only [NZ];show (match (Bi.set w (yC (vs++ks.drop k)))[w]? with | some [.vY ks' rZ]=>_ | _=>none)=_;unfold yC;rw [hg];dsimp only;rw [jy,aJ Mn,Y6 (h8 ks[k] (aH Mn))];rfl
  refine goN ?_;simp only [W,seval,WL,e4,hgk,Vg,Mn,aS,h5,hcn,Vf,ajN,Gj];exact o8 (k+1) ak ak _ _ cx rfl
 have e3:decide ((i:Int) < (l.length:Int))=true:=ah ak;have ie:=bE ((i:Int)+1) ak;obtain ⟨x,hx⟩:=aV (l[i]);have kz:=hl l[i] (aH bu);have Vh:=jU l[i] (aH bu);rw [hx] at kz Vh;rw [I8 _ _ _ _ _ _ bu,hx] at Gc;have uA:(ys++l.drop i)[i]? = some x:=by rw [ED _ _ h3,au bu,hx]
 obtain ⟨j1,m,cap,rfl,uV⟩:=h6.bx (by intro h0;rw [h0] at uA;simp at uA);have hmi:(i:Int) < (m:Int):=by have:=(ai.1 uA).1;omega
 obtain ⟨L,q1,q2,q3,q4,q5,q6,q7,q8⟩:=h6.r9 uA;have hc:=kz (vs++ks) n c s f w Bi (T++[(ks.length,1)]) L N M (ks.map ep.name) (fun p hp=>(dA.1 hp).elim (xU p) (h9 p)) q7 ak h7 (by rw [aN ak,hM,iU];simp) (by rw [aS];omega);rw [q1,q2] at hc;refine goN ?_;simp only [W,seval,WL,oE,e3,hmi];refine cz hc ?_;rintro u _ ⟨B1,T1,rfl,eW,Cj,zx,he,rfl,hr⟩;have hcut:=LF (b:=(ks.length,1)) (by rw [hM];exact zx);have e4:pZ w w lo hi B.length 0 B B1:=h4.trans (he.ng ak (.inr (.inl ak)) (.inl rfl) (.inr (.inr (.inr ak))) q5 q6);cases hs:jb su fu res x (vs++ks) with
 | none =>
  rw [hs] at Gc;rw [← Gc];refine goN ?_;simp only [W,seval,WL,gw,aO];rw [hcut];refine bN WL (EU e4 (bG _) rfl ?_);exact ⟨_,rfl,⟨e4.cut,by have:=e4.1;rw [cg];omega,fun l hl=>by cases hl⟩,rfl⟩
 | some p =>
  obtain ⟨x',rZ⟩:=p;rw [hs] at Gc hr;obtain ⟨o1,o2,k1,rfl,o3,o4,o5⟩:=hr x' rZ rfl;have hT1:T1=T++[((ks.map ep.name++k1.map ep.name).length,1)]:=Y7 (b:=(ks.length,1)) Cj (by rw [hM];exact zx) (by rw [hM];exact o5)
  have SH:(∀ k∈k1,kK ep.name (vs++ks) k.name=none∧TW k.type)∧k1.length≤1:=by
   rcases RX hs with e | ⟨nn,e,hn'⟩
   ·have:k1=[]:=by simpa using e
    rw [this];exact ⟨fun k hk=>absurd hk aT,bG _⟩
   ·have:k1=[⟨nn,x.type⟩]:=List.append_cancel_left e;rw [this];exact ⟨fun k hk=>by obtain rfl:=bO.1 hk;exact ⟨hn',Vh⟩,aA _⟩
  have hb9:=q8 B1 x' (vs++ks++k1) N (T++[(ks.length,1)]).length (he.ng (n:=n) (m:=(T++[(ks.length,1)]).length) ak (.inl ⟨rfl,aA _⟩) (.inl rfl) (.inr (.inl rfl)) (aA _) (aA _)) ak o1 (by rw [← q1];exact o2) o3;rw [AF _ _ h3 bu] at hb9;refine goN ?_;simp only [W,seval,WL,gy,aK,ie];refine ih ⟨i+1,ys++[x'],ks++k1,B1⟩ ⟨bu,by simp [h3],e4,by rw [hn,← h5];exact eW,by rw [← List.append_assoc];exact hb9,by rw [hn,List.map_append];exact o4,fun k hk=>(List.mem_append.1 hk).elim (h8 k) fun hk=>PR _ (SH.1 k hk).1,fun k hk=>(List.mem_append.1 hk).elim (h9 k) fun hk=>(SH.1 k hk).2,by have:=SH.2;rw [List.length_append];dsimp only;omega,?_⟩ gP _ _ ?_ (by dsimp only;rw [hT1];simp)
  ·dsimp only at Gc ⊢;rw [← Gc,← aE];cases eD su fu res (l.drop (i+1)) (vs++ks++k1)<;>simp
  ·skip
   refine eU.env _ ?_;simp only [qa,seval]
def ou:=KB func124 71
def PS (r:Option (List bh)) (v:V):Prop :=
 match r with
 | some l=>v = .fZ [.d (.sl (l.map eL)),.d (.bool true)]
 | none=>∃ l:List bh,v = .fZ [.d (.sl (l.map eL)),.d (.bool false)]
theorem PS.ne (r:Option (List bh)):∃ v,PS r v:=by
 cases r
 ·exact ⟨_,[],rfl⟩
 ·exact ⟨_,rfl⟩
theorem PS.of {r:Option (List bh)} {v:V} (l:List bh) (b:Bool) (hv:v = .fZ [.d (.sl (l.map eL)),.d (.bool b)]) (h:r=if b=true then some l else none):PS r v:=by
 subst h hv;cases b
 ·exact ⟨l,rfl⟩
 ·rfl
theorem Vi {r:Option (List bh)} {v:V} (h:PS r v):∃ l b,v = .fZ [.d (.sl (l.map eL)),.d (.bool b)]∧r=if b=true then some l else none:=by
 cases r with
 | none=>obtain ⟨l,rfl⟩:=h;exact ⟨l,false,rfl,rfl⟩
 | some p=>obtain rfl:v=_:=h;exact ⟨p,true,rfl,rfl⟩
theorem EW:ir [] []=true:=by unfold ir;rfl
section
variable {E:fm} {res:List bJ} {c:Nat} {B:bQ} {T:eg}
theorem N9 {x:bh} (hT:mh E.su E.fu) (h7:x.kind=7) (hl:∀ y∈x.kids,kM E res y) (hlen:x.kids.length≤60000) (ts:List bJ) (h1:1 < ts.length) (NF:ts.length≤60000) (hE:rG B c E res):cy prog bI 124 [.ptr c 0,.d (.sl ([x].map eL)),.d (.sl (ts.map eH))] ⟨B,T⟩ fun v S=>PS (match qf E x with | some (y,rs)=>if ir rs ts=true then some [y] else none | none=>none) v∧S=⟨B,T⟩:=by
 obtain ⟨N,hn⟩:=aV B.length;have hi:c < N:=by have:=hE.1;omega
 have e1:decide ((1:Int) < (ts.length:Int))=true:=ah ak;have e7:=ah h7;have O9:=@Lj E res c B T x hT hl hlen hE;have his:=fun (t u:bJ) (J Z:bQ) T=>aaw t u (B++J++Z) T;unfold fK at O9;unfold cH at his;rw [cw,eB,dF];refine gL ou fun cG=>?_;simp only [fH] at cG;simp only [W,seval,ou,hn,e1,e7];refine cz O9 ?_;rintro v _ ⟨hv,rfl⟩;obtain ⟨y,rs,q,rfl,hw⟩:=U4 hv;generalize hg:(q && decide ((rs.length:Int)=(ts.length:Int)) && ir rs ts)=g
 have hgo:(match qf E x with | some (y,rs)=>if ir rs ts=true then some [y] else none | none=>none)=if g=true then some [y] else none:=by
  rw [hw,← hg];cases q
  ·rfl
  ·by_cases h:rs.length=ts.length
   ·rw [ah ak];rfl
   ·rw [decide_eq_false ak,if_pos rfl];dsimp only;rw [zb _ _ h];rfl
 rw [hgo];clear hgo;cases q
 ·refine goN ?_;simp only [W,seval,ou,hn,fK];refine az.dL (fun a:Nat × Bool=>(cN 71 [(2,.d (.sl (ts.map eH))),(8,.ptr N 0),(9,.d (.sl (rs.map eH))),(10,.d (.bool a.2)),(11,.d (.int .i64 (a.1:Int)))],⟨B++[mg y],T⟩)) (fun a=>a.1≤ts.length∧(a.2=true→rs.length=ts.length)∧(a.2 && ir (rs.drop a.1) (ts.drop a.1))=g) (fun a=>ts.length - a.1) (0,false) ⟨dM,(fun h=>by cases h),by simpa using hg⟩ cx rfl ?_;rintro ⟨i,b⟩ ⟨g1,g2,g3⟩ ih;dsimp only at g1 g2 g3 ih ⊢
  by_cases bu:i < ts.length
  case neg =>
   have e2:decide ((i:Int) < (ts.length:Int))=false:=af ak;refine goN ?_;simp only [W,seval,ou,hn,mg,e2,bL,bC,Nat.reduceMul,mw];refine bN ou (Left.box ?_);refine ⟨PS.of [y] b rfl ?_,rfl⟩;rw [← g3];cases b
   ·rfl
   ·rw [ay (by have:=g2 rfl;omega),ay ak,EW];rfl
  have e2:decide ((i:Int) < (ts.length:Int))=true:=ah ak;have ie:=bE ((i:Int)+1) ak;cases b
  ·refine goN ?_;simp only [W,seval,ou,hn,mg,e2,bL,bC,Nat.reduceMul,mw];refine bN ou (Left.box ?_);exact ⟨PS.of [y] false rfl (by rw [← g3];rfl),rfl⟩
  have hlr:i < rs.length:=by have:=g2 rfl;omega
  have acH:(i:Int) < (rs.length:Int):=ak;have gV:(i:Int) < (ts.length:Int):=ak;have EX:(rs.map eH)[i]? = some (eH rs[i]):=by simp [hlr]
  have hgt:(ts.map eH)[i]? = some (eH ts[i]):=by simp [bu]
  rw [wO _ _ i hlr bu,bY] at g3;obtain ⟨t,ht⟩:=aV (rs[i]);obtain ⟨u,hu⟩:=aV (ts[i]);rw [ht] at EX g3;rw [hu] at hgt g3;rw [eK] at EX hgt;refine goN ?_;simp only [W,seval,ou,hn,mg,e2];refine dj 9 [] [] ?_;simp (maxSteps:=4000000) only [W,seval,ou,xw,hn,EX,hgt,hlr,bu,acH,gV];refine bK (fun Z=>his t u _ Z _) ?_;simp (maxSteps:=4000000) only [W,seval,ou,xw,hn];refine goN ?_;simp only [W,seval,ou,hn,ie];exact ih (i+1,rq t u) ⟨gP,fun _=>g2 rfl,g3⟩ gP _ _ cx rfl
 ·refine goN ?_;simp only [W,seval,ou,hn,fK];refine az.dL (fun a:Nat × Bool=>(cN 71 [(2,.d (.sl (ts.map eH))),(8,.ptr N 0),(9,.d (.sl (rs.map eH))),(10,.d (.bool a.2)),(11,.d (.int .i64 (a.1:Int)))],⟨B++[mg y],T⟩)) (fun a=>a.1≤ts.length∧(a.2=true→rs.length=ts.length)∧(a.2 && ir (rs.drop a.1) (ts.drop a.1))=g) (fun a=>ts.length - a.1) (0,decide ((rs.length:Int)=(ts.length:Int))) ⟨dM,(fun h=>by have:=of_decide_eq_true h;omega),by simpa using hg⟩ cx rfl ?_;rintro ⟨i,b⟩ ⟨g1,g2,g3⟩ ih;dsimp only at g1 g2 g3 ih ⊢
  by_cases bu:i < ts.length
  case neg =>
   have e2:decide ((i:Int) < (ts.length:Int))=false:=af ak;refine goN ?_;simp only [W,seval,ou,hn,mg,e2,bL,bC,Nat.reduceMul,mw];refine bN ou (Left.box ?_);refine ⟨PS.of [y] b rfl ?_,rfl⟩;rw [← g3];cases b
   ·rfl
   ·rw [ay (by have:=g2 rfl;omega),ay ak,EW];rfl
  have e2:decide ((i:Int) < (ts.length:Int))=true:=ah ak;have ie:=bE ((i:Int)+1) ak;cases b
  ·refine goN ?_;simp only [W,seval,ou,hn,mg,e2,bL,bC,Nat.reduceMul,mw];refine bN ou (Left.box ?_);exact ⟨PS.of [y] false rfl (by rw [← g3];rfl),rfl⟩
  have hlr:i < rs.length:=by have:=g2 rfl;omega
  have acH:(i:Int) < (rs.length:Int):=ak;have gV:(i:Int) < (ts.length:Int):=ak;have EX:(rs.map eH)[i]? = some (eH rs[i]):=by simp [hlr]
  have hgt:(ts.map eH)[i]? = some (eH ts[i]):=by simp [bu]
  rw [wO _ _ i hlr bu,bY] at g3;obtain ⟨t,ht⟩:=aV (rs[i]);obtain ⟨u,hu⟩:=aV (ts[i]);rw [ht] at EX g3;rw [hu] at hgt g3;rw [eK] at EX hgt;refine goN ?_;simp only [W,seval,ou,hn,mg,e2];refine dj 9 [] [] ?_;simp (maxSteps:=4000000) only [W,seval,ou,xw,hn,EX,hgt,hlr,bu,acH,gV];refine bK (fun Z=>his t u _ Z _) ?_;simp (maxSteps:=4000000) only [W,seval,ou,xw,hn];refine goN ?_;simp only [W,seval,ou,hn,ie];exact ih (i+1,rq t u) ⟨gP,fun _=>g2 rfl,g3⟩ gP _ _ cx rfl
theorem EY {l:List bh} (hT:mh E.su E.fu) (hl:∀ x∈l,kM E res x) (hlen:l.length≤60000) (hc7:∀ x∈l,x.kind=7→(∀ y∈x.kids,kM E res y)∧x.kids.length≤60000) (ts:List bJ) (NF:ts.length≤60000) (hE:rG B c E res):cy prog bI 124 [.ptr c 0,.d (.sl (l.map eL)),.d (.sl (ts.map eH))] ⟨B,T⟩ fun v S=>PS (iJ E l ts) v∧S=⟨B,T⟩:=by
 obtain ⟨N,hn⟩:=aV B.length;have hi:c < N:=by have:=hE.1;omega
 have j4:=@IX E res c B T l hl hlen ts hE;have fin:iJ E l ts=dI E l ts→∀ l' b,dI E l ts=(if b=true then some l' else none)→PS (iJ E l ts) (.fZ [.d (.sl (l'.map eL)),.d (.bool b)]):=fun h l' b h'=>PS.of l' b rfl (by rw [h,h'])
 by_cases h1:l.length=1
 ·obtain ⟨x,rfl⟩:=je.1 h1
  by_cases h2:1 < ts.length
  ·by_cases h7:x.kind=7
   ·obtain ⟨k1,k2⟩:=hc7 x aI h7;have:=@N9 E res c B T x hT h7 k1 k2 ts h2 NF hE;rw [iJ,aD ⟨h2,h7⟩];exact this
   ·have hs:iJ E [x] ts=dI E [x] ts:=by rw [iJ,aq fun h=>h7 h.2]
    have e2:decide ((1:Int) < (ts.length:Int))=true:=ah ak;have e7:=af h7;rw [cw,eB,dF] at j4 ⊢;refine gL ou fun cG=>?_;simp only [fH] at cG;simp only [W,seval,ou,hn,e2,e7];refine cz j4 ?_;rintro v _ ⟨hv,rfl⟩;obtain ⟨l',b,rfl,hw⟩:=vt hv;refine goN ?_;simp only [W,seval,ou,hn];refine bN ou (Left.none ?_);exact ⟨fin hs l' b hw,rfl⟩
  ·have hs:iJ E [x] ts=dI E [x] ts:=by rw [iJ,aq fun h=>h2 h.1]
   have e2:decide ((1:Int) < (ts.length:Int))=false:=af ak;rw [cw,eB] at j4 ⊢;refine gL ou fun cG=>?_;simp only [fH] at cG;simp only [W,seval,ou,hn,e2];refine cz j4 ?_;rintro v _ ⟨hv,rfl⟩;obtain ⟨l',b,rfl,hw⟩:=vt hv;refine goN ?_;simp only [W,seval,ou,hn];refine bN ou (Left.none ?_);exact ⟨fin hs l' b hw,rfl⟩
 ·have hs:iJ E l ts=dI E l ts:=by
   match l,h1 with
   | [],_=>rfl
   | [x],h=>exact absurd rfl h
   | _ :: _ :: _,_=>rfl
  have e1:decide ((l.length:Int)=1)=false:=af ak;refine gL ou fun cG=>?_;simp only [fH] at cG;simp only [W,seval,ou,hn,e1];refine cz j4 ?_;rintro v _ ⟨hv,rfl⟩;obtain ⟨l',b,rfl,hw⟩:=vt hv;refine goN ?_;simp only [W,seval,ou,hn];refine bN ou (Left.none ?_);exact ⟨fin hs l' b hw,rfl⟩
end
end Go.Proofs.YtnfnbjjnjjdjdaaGreatDoor
namespace Go.Proofs.YtnfnbjjnjjdjdaaGreatDoor
open _root_.Go.Proofs.Tryz
open Go.RowKit Go.Av
def Eqv {α:Type} (a b:α × Ps):Prop:=a.2=b.2∧(a.2.e=0→a.1=b.1)
theorem Eqv.refl {α:Type} (a:α × Ps):Eqv a a:=⟨rfl,fun _=>rfl⟩
def EqE {α:Type} (n:Nat) (E E':Ps→α × Ps):Prop:=∀ s,mu s < n→Eqv (E s) (E' s)
theorem EqE.at {α:Type} {n:Nat} {E E':Ps→α × Ps} (h:EqE n E E') (s:Ps) (hn:mu s < n):∃ x x' s1,E s=(x,s1)∧E' s=(x',s1)∧(s1.e=0→x=x'):=by
 obtain ⟨h1,h2⟩:=h s hn;exact ⟨(E s).1,(E' s).1,(E s).2,rfl,by rw [h1],h2⟩
theorem Eqv.open {α:Type} {a b:α × Ps} (h:Eqv a b):∃ x x' s1,a=(x,s1)∧b=(x',s1)∧(s1.e=0→x=x'):=⟨a.1,b.1,a.2,rfl,by rw [h.1],h.2⟩
end Go.Proofs.YtnfnbjjnjjdjdaaGreatDoor
namespace Go.Proofs.YtnfnbjjnjjdjdaaGreatDoor
open _root_.Go.Proofs.Tryz
open Go.RowKit Go.Av Go.Ab
def F2 (s:cL):List V:=[.d (.int .i64 s.kind),.d (.sl (gN s.names)),.d (.int .i64 s.type.kind),.d (.str s.type.name),.d (.sl (s.type.elem.map eH)),.d (.sl (s.cq.map eL)),.d (.sl (s.exprs.map eL)),.d (.sl (s.body.map gE)),.d (.sl (s.iS.map gE)),.d (.sl (s.cases.map lV))]
theorem aey (i:Int) (b:List cL):[D.int .u64 i,.sl (b.map gE)]=lV (.mk i b):=(lN (.mk i b)).symm
def xP:=KB func32 54
inductive F3:cL→Prop
 | mk (s:cL):s.cq.length≤60000→s.exprs.length≤60000→s.cases.length≤60000→s.body.length≤60000→s.iS.length≤60000→(∀ x∈s.cq,GW x)→(∀ x∈s.exprs,GW x)→(∀ y∈s.body,F3 y)→(∀ y∈s.iS,F3 y)→(∀ c∈s.cases,c.body.length≤60000)→(∀ c∈s.cases,∀ y∈c.body,F3 y)→F3 s
theorem F3.cases {s:cL} (h:F3 s):s.cases.length≤60000:=by cases h;assumption
def I9 (l:List cL):Prop:=∀ (B:bQ) (T:eg),cy prog bI 32 [.d (.sl (l.map gE))] ⟨B,T⟩ (cF (.d (.bool (gY l))) ⟨B,T⟩)
theorem zj:∀ (l:List cL) (h:0 < l.length),gY l=Ar (l[l.length - 1])
 | [],h=>absurd h (jY 0)
 | [s],_=>by unfold gY;rfl
 | a :: b :: l,_=>by
  unfold gY;dsimp only;rw [zj (b :: l) dM]
  congr 1
theorem vw (l:List iB) (i:Nat) (h:i < l.length):lU (l.drop i)=(gY l[i].body && lU (l.drop (i+1))):=by
 rw [aJ h];generalize l[i]=c;cases c
 conv=>lhs;unfold lU
 rfl
theorem xQ (l:List cL) (h:∀ s∈l,(I9 s.body∧I9 s.iS∧∀ c∈s.cases,I9 c.body)∧s.cases.length≤60000):I9 l:=by
 intro B T;obtain ⟨N,hn⟩:=aV B.length
 by_cases hl:l.length=0
 ·obtain rfl:=aM hl;have hE:gY []=false:=by unfold gY;rfl
  rw [hE,eB];refine gL xP fun cG=>?_;simp only [fH] at cG;simp only [W,seval,xP,hn];refine bN xP (Left.none ?_);exact ⟨rfl,rfl⟩
 have e0:decide ((l.length:Int)=0)=false:=af ak;have bu:l.length - 1 < l.length:=ak;have hg:(l.map gE)[l.length - 1]? = some (gE l[l.length - 1]):=by simp [bu]
 obtain ⟨⟨hb,he,hc⟩,qW⟩:=h _ (aH bu);rw [zj l ak];obtain ⟨s,hs⟩:=aV (l[l.length - 1]);rw [hs] at hg hb he hc qW ⊢;rw [iZ] at hg
 have hS:Ar s=(decide (s.kind=6) || (gY s.iS && (decide (s.kind=5) || decide (s.kind=3) && gY s.body) && lU s.cases)):=by
  cases s
  conv=>lhs;unfold Ar
  rfl
 obtain ⟨m,hm⟩:∃ m:Nat,l.length=m+1:=⟨l.length - 1,ak⟩;have WJ:l.length - 1=m:=ak;rw [WJ] at hg;have hlI:(m:Int) < (l.length:Int):=ak;have hlN:m < l.length:=ak;refine gL xP fun cG=>?_;simp only [fH] at cG;simp only [W,seval,xP,hn,e0]
 have hwm:IntKind.i64.wrap ((l.length:Int) - 1)=(m:Int):=by
  rw [bE _ ak];omega
 clear WJ hs;cases h6:decide (s.kind=6)
 case true =>
  rw [h6,gq] at hS;simp only [W,seval,xP,hn,hwm,hg,hlI,hlN,h6];refine goN ?_;simp only [W,seval,xP,hn];refine bN xP (Left.box ?_);rw [hS];exact ⟨rfl,rfl⟩
 rw [h6,eN] at hS;simp only [W,seval,xP,hn,hwm,hg,hlI,hlN,h6];refine aX (he _ _) ?_;rw [hS];clear hS;cases anV:gY s.iS
 ·generalize hr:(false && lU s.cases)=r;rw [bA,hr];refine goN ?_;simp only [W,seval,xP,hn];refine az.dL (fun a:Nat × Bool=>(cN 54 [(3,.ptr N 0),(4,.d (.bool a.2)),(5,.d (.int .i64 (a.1:Int)))],⟨B++[F2 s],T⟩)) (fun a=>a.1≤s.cases.length∧(a.2 && lU (s.cases.drop a.1))=r) (fun a=>s.cases.length - a.1) (0,false) ⟨dM,by simpa using hr⟩ cx rfl ?_;rintro ⟨i,b⟩ ⟨h1,h2⟩ ih;dsimp only at h1 h2 ih ⊢
  by_cases bu:i < s.cases.length
  case neg =>
   have e2:decide ((i:Int) < (s.cases.length:Int))=false:=af ak;refine goN ?_;simp only [W,seval,xP,hn,F2,e2];refine bN xP (Left.box ?_);rw [← h2,ay ak];unfold lU;rw [gU];exact ⟨rfl,rfl⟩
  have e2:decide ((i:Int) < (s.cases.length:Int))=true:=ah ak;have ie:=bE ((i:Int)+1) ak;have gV:(i:Int) < (s.cases.length:Int):=ak;have xb:(s.cases.map lV)[i]? = some (lV s.cases[i]):=by simp [bu]
  have vN:=hc _ (aH bu);rw [vw _ i bu] at h2;obtain ⟨x,hx⟩:=aV (s.cases[i]);rw [hx] at xb vN h2;rw [lN] at xb;cases b
  ·refine goN ?_;simp only [W,seval,xP,hn,F2,e2,xb,gV,bu,ie];exact ih (i+1,false) ⟨gP,by rw [← h2];rfl⟩ gP _ _ cx rfl
  ·refine goN ?_;simp only [W,seval,xP,hn,F2,e2,xb,gV,bu];refine aX (vN _ _) ?_;refine goN ?_;simp only [W,seval,xP,hn,F2,ie];exact ih (i+1,gY x.body) ⟨gP,by rw [← h2];rfl⟩ gP _ _ cx rfl
 cases h5:decide (s.kind=5)
 case true =>
  generalize hr:(true && lU s.cases)=r;rw [gq,bY,hr];refine goN ?_;simp only [W,seval,xP,hn,h5];refine az.dL (fun a:Nat × Bool=>(cN 54 [(3,.ptr N 0),(4,.d (.bool a.2)),(5,.d (.int .i64 (a.1:Int)))],⟨B++[F2 s],T⟩)) (fun a=>a.1≤s.cases.length∧(a.2 && lU (s.cases.drop a.1))=r) (fun a=>s.cases.length - a.1) (0,true) ⟨dM,by simpa using hr⟩ cx rfl ?_;rintro ⟨i,b⟩ ⟨h1,h2⟩ ih;dsimp only at h1 h2 ih ⊢
  by_cases bu:i < s.cases.length
  case neg =>
   have e2:decide ((i:Int) < (s.cases.length:Int))=false:=af ak;refine goN ?_;simp only [W,seval,xP,hn,F2,e2];refine bN xP (Left.box ?_);rw [← h2,ay ak];unfold lU;rw [gU];exact ⟨rfl,rfl⟩
  have e2:decide ((i:Int) < (s.cases.length:Int))=true:=ah ak;have ie:=bE ((i:Int)+1) ak;have gV:(i:Int) < (s.cases.length:Int):=ak;have xb:(s.cases.map lV)[i]? = some (lV s.cases[i]):=by simp [bu]
  have vN:=hc _ (aH bu);rw [vw _ i bu] at h2;obtain ⟨x,hx⟩:=aV (s.cases[i]);rw [hx] at xb vN h2;rw [lN] at xb;cases b
  ·refine goN ?_;simp only [W,seval,xP,hn,F2,e2,xb,gV,bu,ie];exact ih (i+1,false) ⟨gP,by rw [← h2];rfl⟩ gP _ _ cx rfl
  ·refine goN ?_;simp only [W,seval,xP,hn,F2,e2,xb,gV,bu];refine aX (vN _ _) ?_;refine goN ?_;simp only [W,seval,xP,hn,F2,ie];exact ih (i+1,gY x.body) ⟨gP,by rw [← h2];rfl⟩ gP _ _ cx rfl
 cases h3:decide (s.kind=3)
 ·generalize hr:(false && lU s.cases)=r;rw [bA,eN,gC,hr];refine goN ?_;simp only [W,seval,xP,hn,h5,h3];refine az.dL (fun a:Nat × Bool=>(cN 54 [(3,.ptr N 0),(4,.d (.bool a.2)),(5,.d (.int .i64 (a.1:Int)))],⟨B++[F2 s],T⟩)) (fun a=>a.1≤s.cases.length∧(a.2 && lU (s.cases.drop a.1))=r) (fun a=>s.cases.length - a.1) (0,false) ⟨dM,by simpa using hr⟩ cx rfl ?_;rintro ⟨i,b⟩ ⟨h1,h2⟩ ih;dsimp only at h1 h2 ih ⊢
  by_cases bu:i < s.cases.length
  case neg =>
   have e2:decide ((i:Int) < (s.cases.length:Int))=false:=af ak;refine goN ?_;simp only [W,seval,xP,hn,F2,e2];refine bN xP (Left.box ?_);rw [← h2,ay ak];unfold lU;rw [gU];exact ⟨rfl,rfl⟩
  have e2:decide ((i:Int) < (s.cases.length:Int))=true:=ah ak;have ie:=bE ((i:Int)+1) ak;have gV:(i:Int) < (s.cases.length:Int):=ak;have xb:(s.cases.map lV)[i]? = some (lV s.cases[i]):=by simp [bu]
  have vN:=hc _ (aH bu);rw [vw _ i bu] at h2;obtain ⟨x,hx⟩:=aV (s.cases[i]);rw [hx] at xb vN h2;rw [lN] at xb;cases b
  ·refine goN ?_;simp only [W,seval,xP,hn,F2,e2,xb,gV,bu,ie];exact ih (i+1,false) ⟨gP,by rw [← h2];rfl⟩ gP _ _ cx rfl
  ·refine goN ?_;simp only [W,seval,xP,hn,F2,e2,xb,gV,bu];refine aX (vN _ _) ?_;refine goN ?_;simp only [W,seval,xP,hn,F2,ie];exact ih (i+1,gY x.body) ⟨gP,by rw [← h2];rfl⟩ gP _ _ cx rfl
 ·generalize hr:(gY s.body && lU s.cases)=r;rw [bY,eN,bY,hr];refine goN ?_;simp only [W,seval,xP,hn,h5,h3];refine aX (hb _ _) ?_;refine goN ?_;simp only [W,seval,xP,hn];refine az.dL (fun a:Nat × Bool=>(cN 54 [(3,.ptr N 0),(4,.d (.bool a.2)),(5,.d (.int .i64 (a.1:Int)))],⟨B++[F2 s],T⟩)) (fun a=>a.1≤s.cases.length∧(a.2 && lU (s.cases.drop a.1))=r) (fun a=>s.cases.length - a.1) (0,gY s.body) ⟨dM,by simpa using hr⟩ cx rfl ?_;rintro ⟨i,b⟩ ⟨h1,h2⟩ ih;dsimp only at h1 h2 ih ⊢
  by_cases bu:i < s.cases.length
  case neg =>
   have e2:decide ((i:Int) < (s.cases.length:Int))=false:=af ak;refine goN ?_;simp only [W,seval,xP,hn,F2,e2];refine bN xP (Left.box ?_);rw [← h2,ay ak];unfold lU;rw [gU];exact ⟨rfl,rfl⟩
  have e2:decide ((i:Int) < (s.cases.length:Int))=true:=ah ak;have ie:=bE ((i:Int)+1) ak;have gV:(i:Int) < (s.cases.length:Int):=ak;have xb:(s.cases.map lV)[i]? = some (lV s.cases[i]):=by simp [bu]
  have vN:=hc _ (aH bu);rw [vw _ i bu] at h2;obtain ⟨x,hx⟩:=aV (s.cases[i]);rw [hx] at xb vN h2;rw [lN] at xb;cases b
  ·refine goN ?_;simp only [W,seval,xP,hn,F2,e2,xb,gV,bu,ie];exact ih (i+1,false) ⟨gP,by rw [← h2];rfl⟩ gP _ _ cx rfl
  ·refine goN ?_;simp only [W,seval,xP,hn,F2,e2,xb,gV,bu];refine aX (vN _ _) ?_;refine goN ?_;simp only [W,seval,xP,hn,F2,ie];exact ih (i+1,gY x.body) ⟨gP,by rw [← h2];rfl⟩ gP _ _ cx rfl
theorem Y8 {s:cL} (h:F3 s):I9 s.body∧I9 s.iS∧∀ c∈s.cases,I9 c.body:=by
 induction h with
 | mk s h1 h2 h3 h4 h5 h6 h7 h8 h9 yN Gc ih8 ih9 ajQ =>
  refine ⟨xQ _ fun y hy=>⟨ih8 y hy,?_⟩,xQ _ fun y hy=>⟨ih9 y hy,?_⟩,fun c hc=>xQ _ fun y hy=>⟨ajQ c hc y hy,?_⟩⟩
  ·exact (h8 y hy).cases
  ·exact (h9 y hy).cases
  ·exact (Gc c hc y hy).cases
theorem Vj {l:List cL} (h:∀ s∈l,F3 s):I9 l:=xQ l fun s hs=>⟨Y8 (h s hs),(h s hs).cases⟩
theorem rF.r9 {d:Int} {x:bh} (h:rF d x):∀ y∈x.kids,rF (d+1) y:=by
 cases h with
 | SC _ t h1 h2=>exact fun y hy=>absurd hy aT
 | num _ i h1 h2 h3=>exact fun y hy=>absurd hy aT
 | tru _ i h1 h2 h3=>exact fun y hy=>absurd hy aT
 | sgn _ k y h1 h2 h3=>exact fun z hz=>by obtain rfl:=bO.1 hz;exact h3
 | bin _ t y z h1 h2 h3 h4 =>
  intro u hu;rcases bB.1 hu with rfl | hu
  ·exact h3
  ·obtain rfl:=bO.1 hu;exact h4
 | cal _ t ks h1 h2 h3=>exact h3
 | con _ k y h1 h2 h3 h4=>exact fun z hz=>by obtain rfl:=bO.1 hz;exact h4
 | fld _ t y h1 h2 h3=>exact fun z hz=>by obtain rfl:=bO.1 hz;exact h3
 | idx _ y z h1 h2 h3 =>
  intro u hu;rcases bB.1 hu with rfl | hu
  ·exact h2
  ·obtain rfl:=bO.1 hu;exact h3
 | cut _ y z v h1 h2 h3 h4 =>
  intro u hu;rcases bB.1 hu with rfl | hu
  ·exact h2
  rcases bB.1 hu with rfl | hu
  ·exact h3
  ·obtain rfl:=bO.1 hu;exact h4
 | len _ y h1 h2=>exact fun z hz=>by obtain rfl:=bO.1 hz;exact h2
 | app _ y z h1 h2 h3 =>
  intro u hu;rcases bB.1 hu with rfl | hu
  ·exact h2
  ·obtain rfl:=bO.1 hu;exact h3
 | str _ n ns ks h1 h2 h3 h4 h5=>exact h5
 | lis _ t ks h1 h2 h3=>exact h3
theorem Oa {E:fm} {d:Int} {x:bh} (h:rF d x):fY x=true→∀ w z t,bP E x w=some (z,t)→z=x:=by
 induction h with
 | SC d t h1 h2 =>
  intro _ w z u hz;rw [AK] at hz;obtain ⟨p,_,e⟩:=aB.1 hz;exact (aR e).1.symm
 | fld d t y h1 h2 h3 ih =>
  intro hp w z u hz;rw [AL] at hz;have hp:fY y=true:=by unfold fY at hp;simpa using hp
  split at hz
  ·rename_i a v ha;obtain ⟨p,_,e⟩:=aB.1 hz;rw [← (aR e).1,ih hp _ _ _ ha]
  ·cases hz
 | sgn d k y h1 h2 h3 ih=>exact fun hp=>by rw [sA] at hp;rcases h2 with rfl | rfl<;>simp at hp
 | cal d t ks h1 h2 h3 ih=>exact fun hp=>by rw [sA] at hp;split at hp<;>simp at hp
 | str d n ns ks h1 h2 h3 h4 h5 ih=>exact fun hp=>by rw [sA] at hp;split at hp<;>simp at hp
 | lis d t ks h1 h2 h3 ih=>exact fun hp=>by rw [sA] at hp;split at hp<;>simp at hp
 | con d k y h1 h2 h3 h4 ih=>exact fun hp=>by rw [sA] at hp;simp at hp
 | _=>exact fun hp=>by unfold fY at hp;simp at hp
section
variable {su:List eZ} {fu:List fL} {res:List bJ}
theorem BV (hT:mh su fu) {d:Int} {x:bh} (h:rF d x) (hs:GW x):∀ vs:List ep,(∀ p∈vs,TW p.type)→kn ⟨su,fu,vs⟩ res x∧∀ z∈x.kids,kn ⟨su,fu,vs⟩ res z :=
 fun _ hv=>⟨Lw ⟨hT,hv⟩ h hs,fun z hz=>Lw ⟨hT,hv⟩ (h.r9 z hz) (hs.r9 z hz)⟩
theorem BW {d:Int} {s:cL} (h:CU d s):TW s.type:=by
 cases h with
 | var _ n t h1 h2 h3=>exact TW.Au h3
 | _=>exact .leaf 0 _ _ bH
theorem Vk (hT:mh su fu) {d:Int} {s:cL} (h:CU d s):F3 s→StG su fu res s:=by
 induction h with
 | var d n t h1 h2 h3=>exact fun _=>Y0 (TW.Au h3) rfl
 | set d ls es h1 h2 h3 h4 h5 h6 =>
  intro hs;cases hs with
  | mk _ a1 a2 a3 a4 a5 a6 a7 a8 a9 JH JI =>
   exact Y4 hT rfl (fun vs hv y hy=>⟨(BV hT (h5 y hy) (a6 y hy) vs hv).1,Oa (h5 y hy) (h4 y hy)⟩) (fun vs hv y hy=>BV hT (h6 y hy) (a7 y hy) vs hv) ak ak
 | iff d x b e h1 h2 h3 h4 h5 LG ih5 =>
  intro hs;cases hs with
  | mk _ a1 a2 a3 a4 a5 a6 a7 a8 a9 JH JI =>
   exact Ve (.inl rfl) rfl (fun vs hv=>(BV hT h2 (a7 x aI) vs hv).1) (td (fun y hy=>LG y hy (a8 y hy)) (fun y hy=>BW (h4 y hy)) ak) (td (fun y hy=>ih5 y hy (a9 y hy)) (fun y hy=>BW (h5 y hy)) ak)
 | fro d x b h1 h2 h3 h4 LG =>
  intro hs;cases hs with
  | mk _ a1 a2 a3 a4 a5 a6 a7 a8 a9 JH JI =>
   exact Ve (.inr rfl) rfl (fun vs hv=>(BV hT h2 (a7 x aI) vs hv).1) (td (fun y hy=>LG y hy (a8 y hy)) (fun y hy=>BW (h4 y hy)) ak) (td (fun y hy=>absurd hy aT) (fun y hy=>absurd hy aT) ak)
 | swi d x e cs h1 h2 h3 h4 h5 h6 LG ih6 =>
  intro hs;cases hs with
  | mk _ a1 a2 a3 a4 a5 a6 a7 a8 a9 JH JI =>
   exact acD rfl rfl (fun vs hv=>(BV hT h2 (a7 x aI) vs hv).1) (fun c hc=>td (fun y hy=>ih6 c hc y hy (JI c hc y hy)) (fun y hy=>BW (h6 c hc y hy)) (by have:=JH c hc;omega)) (td (fun y hy=>LG y hy (a9 y hy)) (fun y hy=>BW (h4 y hy)) ak) ak
 | ret d es h1 h2 h3 =>
  intro hs;cases hs with
  | mk _ a1 a2 a3 a4 a5 a6 a7 a8 a9 JH JI =>
   exact Y5 hT rfl (fun vs hv y hy=>BV hT (h3 y hy) (a7 y hy) vs hv) ak
theorem RY (hT:mh su fu) {d:Int} {l:List cL} (h:∀ s∈l,CU d s) (hs:∀ s∈l,F3 s) (hl:l.length≤60000):YZ su fu res l :=
 td (fun s hm=>Vk hT (h s hm) (hs s hm)) (fun s hm=>BW (h s hm)) hl
end
def EZ:=KB func28 38
def b77:=KB func77 7
def Ja:=KB func114 19
theorem LH {Y A r C:List V} {k m:Nat} (hY:Y=A++r++C) (hA:A.length=k) (hr:r.length=m):(Y.drop k).take m=r∧k+m≤Y.length:=by
 subst hY hA hr;refine ⟨?_,dM⟩;rw [aE,fQ,ay (aA _),dO,iU,iE,gd (aA _),bS (aA _)]
theorem mP.one {B:bQ} {l:List cL} {lo hi:Nat} {v:V} (h:mP B l lo hi v) {k:Nat} {x:cL} (hk:l[k]? = some x) :
 ∃ (j cap lG m1 m2 m3 m4 kD:Nat) (Y:List V) (v1 v2 v3 v4 v5:V),v = .bx j l.length cap∧B[j]? = some Y∧(Y.drop (k * 10)).take 10=js x v1 v2 v3 v4 v5∧k * 10+10≤Y.length∧kD≤hi∧CE B x lG m1 m2 m3 m4 kD v1 v2 v3 v4 v5:=by
 have bu:=(ai.1 hk).1;rcases h with ⟨h0,_⟩ | ⟨hn,j1,cap,Y,h1,h2,h3,h4,h5⟩
 ·omega
 rw [qM] at h5;obtain ⟨A1,r,C1,lG,kD,e1,e2,e3,e4,e5,e6,e7,e8⟩:=h5.at k x hk;obtain ⟨v1,v2,v3,v4,v5,m1,m2,m3,m4,rfl,hp⟩:=s9.1 e7;obtain ⟨f1,f2⟩:=LH (m:=10) e1 e2 rfl;exact ⟨j1,cap,lG,m1,m2,m3,m4,kD,Y,v1,v2,v3,v4,v5,h1,h4,f1,f2,e6,hp⟩
theorem tP.one {B:bQ} {l:List iB} {lo hi:Nat} {v:V} (h:tP B l lo hi v) {k:Nat} {x:iB} (hk:l[k]? = some x) :
 ∃ (j cap lG kD:Nat) (Y:List V) (bv:V),v = .bx j l.length cap∧B[j]? = some Y∧(Y.drop (k * 2)).take 2=[.d (.int .u64 x.int),bv]∧k * 2+2≤Y.length∧kD≤hi∧mP B x.body lG kD bv:=by
 have bu:=(ai.1 hk).1;rcases h with ⟨h0,_⟩ | ⟨hn,j1,cap,Y,h1,h2,h3,h4,h5⟩
 ·omega
 rw [qN] at h5;obtain ⟨A1,r,C1,lG,kD,e1,e2,e3,e4,e5,e6,e7,e8⟩:=h5.at k x hk;obtain ⟨bv,rfl,hp⟩:=tc.1 e7;obtain ⟨f1,f2⟩:=LH (m:=2) e1 e2 rfl;exact ⟨j1,cap,lG,kD,Y,bv,h1,h4,f1,f2,e6,hp⟩
def LI (i:Int) (bv:V):V:=.agg [.d (.int .u64 i),bv]
theorem C0 (g:FuncId) (f:iB→Bool) (l:List iB) (hl:l.length≤60000) {B:bQ} (T:eg) {lo hi:Nat} {v:V} (h:tP B l lo hi v) (hh:hi≤B.length) (hg:∀ x∈l,∀ lG kD bv,kD≤B.length→mP B x.body lG kD bv→cy prog bI g [LI x.int bv] ⟨B,T⟩ (cF (.d (.bool (f x))) ⟨B,T⟩)) :
 cy prog bI 114 [v,.func g [] []] ⟨B,T⟩ (cF (.d (.int .i64 (fo (fun x (s:Unit)=>(f x,s)) l 0 ()).1)) ⟨B,T⟩):=by
 have F1:=h.len prog PM rfl;rw [mM.eq_1,PM] at F1;refine gL Ja fun cG=>?_;simp only [fH] at cG;simp only [W,seval,Ja,F1];refine az.dL (fun p:Nat=>(cN 19 [(0,v),(1,.func g [] []),(6,v),(7,.d (.int .i64 l.length)),(8,.d (.int .i64 p))],⟨B,T⟩)) (fun p=>p≤l.length∧fo (fun x (s:Unit)=>(f x,s)) l 0 ()=fo (fun x (s:Unit)=>(f x,s)) (l.drop p) p ()) (fun p=>l.length - p) 0 ⟨ak,rfl⟩ cx rfl ?_;rintro i ⟨h1,h2⟩ ih;dsimp only at h1 h2 ih ⊢
 by_cases bu:i < l.length
 ·have hw:=bE ((i:Int)+1) ak;have nU:=au bu;rw [fj bu] at h2;obtain ⟨j,cap,lG,kD,Y,bv,rfl,k2,k3,k4,k5,k6⟩:=h.one nU;have dY:decide ((i:Int) < (l.length:Int))=true:=ah ak;have gV:(i:Int) < (l.length:Int):=ak;have hgx:=hg l[i] (aH bu) lG kD bv ak k6;unfold LI at hgx;refine goN ?_;simp only [W,seval,Ja,oE,nU,dY,hw,gV,k2,k3,k4];refine rK (first:=[]) (args:=[_]) (caps:=[]) hgx ?_;refine goN ?_;simp only [W,seval,Ja,hw];refine cT (fun h=>?_) (fun h=>?_)
  ·simp only [W,seval,Ja,h];refine bN Ja (Left.none ?_);have e:fo (fun x (s:Unit)=>(f x,s)) (l[i] :: l.drop (i+1)) (i:Int) ()=((i:Int),()):=by simp [fo,h]
   rw [h2,e];exact ⟨rfl,rfl⟩
  ·simp only [W,seval,Ja,h,hw];have e:fo (fun x (s:Unit)=>(f x,s)) (l[i] :: l.drop (i+1)) (i:Int) ()=fo (fun x (s:Unit)=>(f x,s)) (l.drop (i+1)) ((i+1:Nat):Int) ():=by simp [fo,h]
   exact ih (i+1) ⟨bu,h2.trans e⟩ ak _ _ cx rfl
 ·have dY:decide ((i:Int) < (l.length:Int))=false:=af ak;refine goN ?_;simp only [W,seval,Ja,dY];refine bN Ja (Left.none ?_);rw [h2,ay ak];exact ⟨rfl,rfl⟩
theorem zk (g:FuncId) (f:iB→Bool) (l:List iB) (hl:l.length≤60000) {B:bQ} (T:eg) {lo hi:Nat} {v:V} (h:tP B l lo hi v) (hh:hi≤B.length) (hg:∀ x∈l,∀ lG kD bv,kD≤B.length→mP B x.body lG kD bv→cy prog bI g [LI x.int bv] ⟨B,T⟩ (cF (.d (.bool (f x))) ⟨B,T⟩)) :
 cy prog bI 76 [v,.func g [] []] ⟨B,T⟩ (cF (.d (.bool (l.any f))) ⟨B,T⟩):=by
 obtain ⟨e1,e2⟩:=qC (fun x (s:Unit)=>(f x,s)) l 0 () (dV 0);refine cy.body func76 rfl cP ?_;refine az.go 100 ?_;simp only [f76,WO,seval];refine aX (C0 g f l hl T h hh hg) ?_;refine goN ?_;simp only [WO,seval,e1];refine az.fits fun hf=>?_;refine az.ret func76 rfl (Left.fits hf rfl rfl ?_)
 have e3:∀ l:List iB,(ud (fun x (s:Unit)=>(f x,s)) l ()).1=l.any f:=by
  intro l
  induction l with
  | nil=>rfl
  | cons x l ih=>simp only [ud,ua];cases f x<;>simp [ih]
 rw [e3];exact ⟨rfl,rfl⟩
def Ob (l:List cL):Prop:=∀ (B:bQ) (T:eg) (lo hi:Nat) (v:V),mP B l lo hi v→hi≤B.length→cy prog bI 28 [v] ⟨B,T⟩ (cF (.d (.bool (gY l))) ⟨B,T⟩)
theorem Vl (l:List iB):(!(l.any fun c=>!(gY c.body)))=lU l:=by
 induction l with
 | nil=>unfold lU;rfl
 | cons c l ih =>
  cases c
  conv=>rhs;unfold lU
  rw [← ih,ua];show (!(!gY _ || _))=_;rw [Bool.not_or,pP];rfl
theorem Vm {b:List cL} (h:Ob b) (i:Int) {B:bQ} (T:eg) {lo hi:Nat} {v:V} (ho:mP B b lo hi v) (hh:hi≤B.length):cy prog bI 77 [LI i v] ⟨B,T⟩ (cF (.d (.bool (!gY b))) ⟨B,T⟩):=by
 obtain ⟨N,hn⟩:=aV B.length;unfold LI;refine gL b77 fun cG=>?_;simp only [fH] at cG;simp only [W,seval,b77,hn];refine aX (h _ _ lo hi v (ho.frame fun i _ hi=>bt ak) fk) ?_;refine goN ?_;simp only [W,seval,b77];refine bN b77 (Left.box ?_);exact ⟨rfl,rfl⟩
theorem PT (l:List cL) (h:∀ s∈l,(Ob s.body∧Ob s.iS∧∀ c∈s.cases,Ob c.body)∧s.cases.length≤60000∧(s.kind=3→s.cases=[])) (hlen:l.length≤60000):Ob l:=by
 intro B T lo hi v ho ZT;obtain ⟨N,hn⟩:=aV B.length;have F1:=ho.len prog PL rfl;rw [mM.eq_1,PL] at F1
 by_cases hl:l.length=0
 ·obtain rfl:=aM hl;have hE:gY []=false:=by unfold gY;rfl
  rw [hE];refine gL EZ fun cG=>?_;simp only [fH] at cG;simp only [W,seval,EZ,hn,F1];refine bN EZ (Left.none ?_);exact ⟨rfl,rfl⟩
 have e0:decide ((l.length:Int)=0)=false:=af ak;have bu:l.length - 1 < l.length:=ak;obtain ⟨⟨hb,he,hc⟩,qW,h3c⟩:=h _ (aH bu);rw [zj l ak];obtain ⟨j,cap,lG,m1,m2,m3,m4,kD,Y,v1,v2,v3,v4,v5,rfl,k2,k3,k4,k5,k6⟩:=ho.one (au bu);obtain ⟨s,hs⟩:=aV (l[l.length - 1]);rw [hs] at hb he hc qW h3c k3 k6 ⊢
 have hS:Ar s=(decide (s.kind=6) || (gY s.iS && (decide (s.kind=5) || decide (s.kind=3) && gY s.body) && lU s.cases)):=by
  cases s
  conv=>lhs;unfold Ar
  rfl
 obtain ⟨m,hm⟩:∃ m:Nat,l.length=m+1:=⟨l.length - 1,ak⟩;have WJ:l.length - 1=m:=ak;have hlI:(m:Int) < (l.length:Int):=ak;have hlN:m < l.length:=ak;rw [WJ] at k3 k4
 have hwm:IntKind.i64.wrap ((l.length:Int) - 1)=(m:Int):=by
  rw [bE _ ak];omega
 clear WJ hs;unfold js at k3;obtain ⟨p1,p2,p3,p4,p5⟩:=k6;have hle:=(show CE B s lG m1 m2 m3 m4 kD v1 v2 v3 v4 v5 from ⟨p1,p2,p3,p4,p5⟩).le;obtain ⟨X,hX⟩:∃ X:List (List V),X=[[.d (.int .i64 s.kind),.d (.sl (gN s.names)),.d (.int .i64 s.type.kind),.d (.str s.type.name),.d (.sl (s.type.elem.map eH)),v1,v2,v3,v4,v5]]:=⟨_,rfl⟩;have hex:∀ (b:List cL) (a z:Nat) (u:V),Ob b→mP B b a z u→z≤kD→cy prog bI 28 [u] ⟨B++X,T⟩ (cF (.d (.bool (gY b))) ⟨B++X,T⟩):=fun b a z u hb ho hz=>hb _ _ a z u (ho.frame fun i _ hi=>bt ak) (by rw [av];omega);have ajR:=hex _ _ _ _ hb p3 ak;have af4:=hex _ _ _ _ he p4 ak;have ajS:=zk 77 (fun c=>!gY c.body) s.cases qW (B:=B++X) T (p5.frame fun i _ hi=>bt ak) (by rw [av];omega) fun c hm a z u hz ho=>Vm (hc c hm) c.int T ho hz;clear hex hb he hc;subst hX;cases h6:decide (s.kind=6)
 case true =>
  rw [h6,gq] at hS;refine gL EZ fun cG=>?_;simp only [fH] at cG;simp only [W,seval,EZ,oE,hn,e0,F1,hwm,hlI,hlN,k2,k3,k4,h6];refine bN EZ (Left.box ?_);rw [hS];exact ⟨rfl,rfl⟩
 rw [h6,eN] at hS
 by_cases q3:s.kind=3
 ·have h3:decide (s.kind=3)=true:=ah q3;have we:lU s.cases=true:=by rw [h3c q3];unfold lU;rfl
  have h5:decide (s.kind=5)=false:=af ak;rw [h3,h5,we,eN,bY,gU] at hS;rw [hS];refine gL EZ fun cG=>?_;simp only [fH] at cG;simp only [W,seval,EZ,oE,hn,e0,F1,hwm,hlI,hlN,k2,k3,k4,h6,h3];refine aX ajR ?_;cases hB:gY s.body
  ·refine goN ?_;simp only [W,seval,EZ,hn];refine bN EZ (Left.box ?_);rw [gC];exact ⟨rfl,rfl⟩
  ·refine goN ?_;simp only [W,seval,EZ,oE,hn];refine aX af4 ?_;refine goN ?_;simp only [W,seval,EZ,hn];refine bN EZ (Left.box ?_);exact ⟨rfl,rfl⟩
 have h3:decide (s.kind=3)=false:=af q3;rw [h3,bA,mS] at hS;cases h5:decide (s.kind=5)
 ·rw [h5,gC,bA] at hS;rw [hS];refine gL EZ fun cG=>?_;simp only [fH] at cG;simp only [W,seval,EZ,oE,hn,e0,F1,hwm,hlI,hlN,k2,k3,k4,h6,h3,h5];refine bN EZ (Left.box ?_);exact ⟨rfl,rfl⟩
 rw [h5,gU,← Vl] at hS;rw [hS];refine gL EZ fun cG=>?_;simp only [fH] at cG;simp only [W,seval,EZ,oE,hn,e0,F1,hwm,hlI,hlN,k2,k3,k4,h6,h3,h5];refine aX af4 ?_;cases hB:gY s.iS
 ·refine goN ?_;simp only [W,seval,EZ,hn];refine bN EZ (Left.box ?_);rw [bA];exact ⟨rfl,rfl⟩
 ·refine goN ?_;simp only [W,seval,EZ,oE,hn];refine aX ajS ?_;refine goN ?_;simp only [W,seval,EZ,hn];refine bN EZ (Left.box ?_);exact ⟨rfl,rfl⟩
inductive Oc:cL→Prop
 | mk (s:cL):(s.kind=3→s.cases=[])→s.cases.length≤60000→s.body.length≤60000→s.iS.length≤60000→(∀ c∈s.cases,c.body.length≤60000)→(∀ y∈s.body,Oc y)→(∀ y∈s.iS,Oc y)→(∀ c∈s.cases,∀ y∈c.body,Oc y)→Oc s
theorem Vn {s:cL} (h:Oc s):Ob s.body∧Ob s.iS∧∀ c∈s.cases,Ob c.body:=by
 induction h with
 | mk s h1 h2 h3 h4 h5 h6 h7 h8 i6 i7 i8 =>
  have key:∀ l:List cL,(∀ y∈l,Oc y)→(∀ y∈l,Ob y.body∧Ob y.iS∧∀ c∈y.cases,Ob c.body)→l.length≤60000→Ob l:=fun l a b c =>
   PT l (fun y hy=>⟨b y hy,by cases a y hy;assumption,by cases a y hy;assumption⟩) c
  exact ⟨key _ h6 i6 h3,key _ h7 i7 h4,fun c hc=>key _ (h8 c hc) (i8 c hc) (h5 c hc)⟩
theorem Vo (l:List cL) (h:∀ y∈l,Oc y) (hl:l.length≤60000):Ob l :=
 PT l (fun y hy=>⟨Vn (h y hy),by cases h y hy;assumption,by cases h y hy;assumption⟩) hl
theorem ov:∀ l:List cL,nh l=l.map I6
 | []=>by unfold nh;rfl
 | x :: l=>by unfold nh;rw [ov l];rfl
theorem E0:∀ l:List iB,uk l=l.map brC
 | []=>by unfold uk;rfl
 | x :: l=>by unfold uk;rw [E0 l];rfl
theorem AP {α β:Type} {f:α→β} {l m:List α} (h:l.map f=m.map f) {x:α} (hx:x∈l):∃ y∈m,f y=f x:=by
 have:f x∈m.map f:=by rw [← h];exact List.mem_map_of_mem hx
 obtain ⟨y,hy,e⟩:=eu.1 this;exact ⟨y,hy,e⟩
theorem Oc.same {s:cL} (h:Oc s):∀ s',I6 s' = I6 s→Oc s':=by
 induction h with
 | mk s h1 h2 h3 h4 h5 h6 h7 h8 i6 i7 i8 =>
  rintro ⟨k',ns',ty',ls',es',b',e',cs'⟩ he;obtain ⟨k,ns,ty,ls,es,b,e,cs⟩:=s;unfold I6 at he;obtain ⟨rfl,_,_,_,_,eb,ee,ec⟩:=cL.mk.inj he;have lb:=gR List.length eb;have le:=gR List.length ee;have lc:=gR List.length ec;rw [mA,mA] at lb le;rw [wZ,wZ] at lc;rw [ov,ov] at eb ee;rw [E0,E0] at ec;dsimp only [cL.body,cL.iS,cL.cases,cL.kind] at *
  have sub:∀ c'∈cs',∃ c∈cs,nh c'.body=nh c.body:=fun c' hc=>by
   obtain ⟨c,h1,h2⟩:=AP ec hc;refine ⟨c,h1,?_⟩;cases c;cases c';unfold brC at h2;exact (iB.mk.inj h2).2.symm
  refine .mk _ (fun hk=>?_) (by dsimp only [cL.cases];omega) (by dsimp only [cL.body];omega) (by dsimp only [cL.iS];omega) (fun c' hc=>?_) (fun y hy=>?_) (fun y hy=>?_) fun c' hc y hy=>?_
  ·have:=h1 hk;subst this;exact aM (show cs'.length=0 from lc)
  ·obtain ⟨c,h1,h2⟩:=sub c' hc;have:=gR List.length h2;rw [mA,mA] at this;rw [this];exact h5 c h1
  ·obtain ⟨x,hx,e⟩:=AP eb hy;exact i6 x hx y e.symm
  ·obtain ⟨x,hx,e⟩:=AP ee hy;exact i7 x hx y e.symm
  ·obtain ⟨c,h1,h2⟩:=sub c' hc;rw [ov,ov] at h2;obtain ⟨x,hx,e⟩:=AP h2 hy;exact i8 c h1 x hx y e.symm
theorem Oc.all {l l':List cL} (h:∀ y∈l,Oc y) (he:nh l' = nh l):∀ y∈l',Oc y:=fun y hy=>by
 rw [ov,ov] at he;obtain ⟨x,hx,e⟩:=AP he hy;exact (h x hx).same y e.symm
theorem CU.shb {d:Int} {s:cL} (h:CU d s):F3 s→Oc s:=by
 induction h with
 | var d n t h1 h2 h3 =>
  intro _;exact .mk _ (fun _=>rfl) (bG _) (bG _) (bG _) (by simp [cL.cases]) (by simp [cL.body]) (by simp [cL.iS]) (by simp [cL.cases])
 | set d ls es h1 h2 h3 h4 h5 h6 =>
  intro _;exact .mk _ (fun _=>rfl) (bG _) (bG _) (bG _) (by simp [cL.cases]) (by simp [cL.body]) (by simp [cL.iS]) (by simp [cL.cases])
 | iff d x b e h1 h2 h3 h4 h5 LG ih5 =>
  intro hs;cases hs with
  | mk _ a1 a2 a3 a4 a5 a6 a7 a8 a9 JH JI =>
   exact .mk _ (fun _=>rfl) (bG _) ak ak (by simp [cL.cases]) (fun y hy=>LG y hy (a8 y hy)) (fun y hy=>ih5 y hy (a9 y hy)) (by simp [cL.cases])
 | fro d x b h1 h2 h3 h4 LG =>
  intro hs;cases hs with
  | mk _ a1 a2 a3 a4 a5 a6 a7 a8 a9 JH JI =>
   exact .mk _ (fun _=>rfl) (bG _) ak (bG _) (by simp [cL.cases]) (fun y hy=>LG y hy (a8 y hy)) (by simp [cL.iS]) (by simp [cL.cases])
 | swi d x e cs h1 h2 h3 h4 h5 h6 LG ih6 =>
  intro hs;cases hs with
  | mk _ a1 a2 a3 a4 a5 a6 a7 a8 a9 JH JI =>
   exact .mk _ (fun h=>absurd (show (5:Int)=3 from h) bH) ak (bG _) ak (fun c hc=>by have:=JH c hc;omega) (by simp [cL.body]) (fun y hy=>LG y hy (a9 y hy)) (fun c hc y hy=>ih6 c hc y hy (JI c hc y hy))
 | ret d es h1 h2 h3 =>
  intro _;exact .mk _ (fun _=>rfl) (bG _) (bG _) (bG _) (by simp [cL.cases]) (by simp [cL.body]) (by simp [cL.iS]) (by simp [cL.cases])
def mL:=KB func82 224
def b31:=KB func31 41
def yd (vv:V) (k:Nat):Prop:=∃ n cap,vv = .bx k n cap
def rH (c:Nat) (vv:V) (n:Nat) (B B':bQ):Prop :=
 B.length≤B'.length∧∀ k,k < B.length→k ≠ c→B'[k]? = B[k]?∨(yd vv k∧∃ X Y,B[k]? = some X∧B'[k]? = some Y∧Y.length=X.length∧Y.take (n * 4)=X.take (n * 4))
theorem rH.refl (c:Nat) (vv:V) (n:Nat) (B:bQ):rH c vv n B B:=⟨aA _,fun _ _ _=>.inl rfl⟩
theorem rH.more (c:Nat) (vv:V) (n:Nat) (B J:bQ):rH c vv n B (B++J):=⟨dM,fun k hk _=>.inl (bt hk)⟩
theorem rH.same {c:Nat} {vv:V} {n:Nat} {B B':bQ} (h:rH c vv n B B') {k:Nat} (hk:k < B.length) (hc:k ≠ c) (hv:¬ yd vv k):B'[k]? = B[k]?:=by
 rcases h.2 k hk hc with e | ⟨e,_⟩
 ·exact e
 ·exact absurd e hv
theorem rH.trans {c:Nat} {vv vv1:V} {n n1:Nat} {B B1 B2:bQ} (h:rH c vv n B B1) (h1:rH c vv1 n1 B1 B2) (hn:n≤n1) (hv:∀ k,k < B.length→yd vv1 k→yd vv k):rH c vv n B B2:=by
 refine ⟨iT h.1 h1.1,fun k hk hc=>?_⟩;have SH:k < B1.length:=eS hk h.1;rcases h1.2 k SH hc with e1 | ⟨v1,X1,Y1,g1,g2,g3,g4⟩
 ·rcases h.2 k hk hc with e | ⟨v,X,Y,f1,f2,f3,f4⟩
  ·exact .inl (e1.trans e)
  ·exact .inr ⟨v,X,Y,f1,by rw [e1];exact f2,f3,f4⟩
 ·have hvk:=hv k hk v1;have hle:n * 4≤n1 * 4:=cD 4 hn
  have g5:Y1.take (n * 4)=X1.take (n * 4):=by
   have:=gR (List.take (n * 4)) g4
   rwa [List.take_take,List.take_take,mO hle] at this
  rcases h.2 k hk hc with e | ⟨v,X,Y,f1,f2,f3,f4⟩
  ·exact .inr ⟨hvk,X1,Y1,by rw [← e];exact g1,g2,g3,g5⟩
  ·rw [f2] at g1;obtain rfl:=ag g1;exact .inr ⟨hvk,X,Y1,f1,g2,g3.trans f3,g5.trans f4⟩
theorem rH.less {c:Nat} {vv:V} {n:Nat} {B J B':bQ} (h:rH c vv n (B++J) B'):rH c vv n B B' :=
 (rH.more c vv n B J).trans h (aA _) fun _ _ h=>h
theorem rH.Y9 {c:Nat} {vv:V} {n:Nat} {B B':bQ} (h:rH c vv n B B') (x:List V):rH c vv n B (B'.set c x):=⟨by rw [aG];exact h.1,fun k hk hc=>by
 rw [aj (fun e=>hc e.symm)];exact h.2 k hk hc⟩
theorem mj.jC {c:Nat} {vv:V} {vs:List ep} {B B':bQ} (h:mj B c vv vs) (hg:rH c vv vs.length B B'):mj B' c vv vs:=by
 rcases h with h | ⟨i,cap,J,rfl,h2,h3,h4,h5,h6⟩
 ·exact .inl h
 ·have bu:=(ai.1 h3).1;have wI:=vk vs;rcases hg.2 i bu h2 with e | ⟨_,X,Y,f1,f2,f3,f4⟩
  ·exact .inr ⟨i,cap,J,rfl,h2,by rw [e];exact h3,h4,h5,h6⟩
  ·rw [h3] at f1;obtain rfl:=ag f1;refine .inr ⟨i,cap,Y.drop (vs.length * 4),rfl,h2,?_,?_,h5,h6⟩
   ·have hfm:((vs.map jK).flatten.map V.d).length=vs.length * 4:=by rw [aS,wI]
    generalize (vs.map jK).flatten.map V.d=G at f3 f4 hfm;have e:(G++J).take (vs.length * 4)=G:=by rw [gd ak,bS ak]
    rw [e] at f4;rw [f2]
    conv=>lhs;rw [← eX (vs.length * 4) Y,f4]
   ·have hl:((vs.map jK).flatten.map V.d++J).length=vs.length * 4+J.length:=by rw [av,aS,wI]
    rw [eG,f3,hl,h4];omega
theorem mj.lt {c:Nat} {vv:V} {vs:List ep} {B:bQ} (h:mj B c vv vs) {k:Nat} (hk:yd vv k):k < B.length∧k ≠ c:=by
 obtain ⟨n,cap,rfl⟩:=hk;rcases h with ⟨_,h⟩ | ⟨i,gF,J,e,h2,h3,_⟩
 ·cases h
 ·obtain ⟨rfl,_,_⟩:=V.bx.inj e;exact ⟨(ai.1 h3).1,h2⟩
mutual
def wS:cL→Nat
 | .mk _ _ _ _ _ b e cs=>1+wL b+wL e+wC cs
def wL:List cL→Nat
 | []=>0
 | s :: l=>wS s+wL l
def wC:List iB→Nat
 | []=>0
 | .mk _ b :: l=>wL b+wC l
end
def RZ (su:List eZ) (fu:List fL) (res:List bJ) (c:Nat) (vv:V) (B:bQ) (T:eg) (r:Option (cL × List ep)) (n:Nat) (v:V) (S':Mem):Prop :=
 ∃ B' K,S' = ⟨B',T++K⟩∧rH c vv n B B'∧match r with
  | some (s,rZ)=>v = .fZ [vS s,.d (.bool true)]∧∃ vv',B'[c]? = some (mG su fu vv' res)∧mj B' c vv' rZ∧n≤rZ.length∧∀ k,k < B.length→yd vv' k→yd vv k
  | none=>∃ cs:List V,cs.length=10∧v = .fZ [.agg cs,.d (.bool false)]
def blR (su:List eZ) (fu:List fL) (res:List bJ) (c:Nat) (vv:V) (B:bQ) (T:eg) (r:Option (List cL)) (n:Nat) (v:V) (S':Mem):Prop :=
 ∃ B' K,S' = ⟨B',T++K⟩∧rH c vv n B B'∧match r with
  | some l=>v = .fZ [.d (.sl (l.map gE)),.d (.bool true)]∧B'[c]? = some (mG su fu vv res)
  | none=>v = .fZ [.d (.sl []),.d (.bool false)]
structure FB (B:bQ) (c:Nat) (su:List eZ) (fu:List fL) (vv:V) (res:List bJ) (vs:List ep) (m:Nat):Prop where
 lt:c < B.length
 bx:B[c]? = some (mG su fu vv res)
 var:mj B c vv vs
 few:vs.length+m≤100000000
 tw:∀ p∈vs,TW p.type
theorem FB.at {B:bQ} {c:Nat} {su:List eZ} {fu:List fL} {vv:V} {res:List bJ} {vs:List ep} {m:Nat} (h:FB B c su fu vv res vs m):rG B c ⟨su,fu,vs⟩ res:=⟨h.lt,vv,h.bx,h.var⟩
theorem FB.more {B J:bQ} {c:Nat} {su:List eZ} {fu:List fL} {vv:V} {res:List bJ} {vs:List ep} {m:Nat} (h:FB B c su fu vv res vs m):FB (B++J) c su fu vv res vs m:=⟨by rw [av];exact eS h.lt (Nat.le_add_right _ _),by rw [bt h.lt];exact h.bx,h.var.more,h.few,h.tw⟩
def Od (su:List eZ) (fu:List fL) (res:List bJ) (s:cL):Prop:=∀ (vs:List ep) (c:Nat) (vv:V) (B:bQ) (T:eg),FB B c su fu vv res vs (wS s)→cy prog bI 82 [.ptr c 0,vS s] ⟨B,T⟩ (RZ su fu res c vv B T (jb su fu res s vs) vs.length)
def Oe (su:List eZ) (fu:List fL) (res:List bJ) (l:List cL):Prop:=∀ (vs:List ep) (c:Nat) (vv:V) (B:bQ) (T:eg),FB B c su fu vv res vs (wL l)→cy prog bI 31 [.ptr c 0,.d (.sl (l.map gE))] ⟨B,T⟩ (blR su fu res c vv B T (eD su fu res l vs) vs.length)
end Go.Proofs.YtnfnbjjnjjdjdaaGreatDoor
