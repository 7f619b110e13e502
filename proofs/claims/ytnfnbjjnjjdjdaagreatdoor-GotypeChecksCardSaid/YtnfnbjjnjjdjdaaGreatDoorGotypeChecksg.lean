/- Whatever the program, gotype.Check and the document answer alike. Part 7 of 7 of the proof. -/
import Derived.Test.YtnfnbjjnjjdjdaaGreatDoorGotypeChecksf
import Derived.OpenShut
import Derived.ChangeArms
import Derived.Test.YtnfnbjjnjjdjdaaGreatDoorRows
import Derived.ProofKit
import Derived.ShutString
import Derived.Deep.DeepHandedRow
import Derived.Carry
import Derived.Lib.LaidTab
import Derived.LaidLaws
import Derived.WalkKit
import Derived.Test.YtnfnbjjnjjdjdaaGreatDoorCards
import Derived.Test.YtnfnbjjnjjdjdaaGreatDoorTie
import Derived.Lay
set_option linter.unusedSimpArgs false
set_option linter.defProp false
set_option linter.unusedVariables false
set_option maxRecDepth 100000
set_option maxHeartbeats 16000000
namespace Go.Proofs.YtnfnbjjnjjdjdaaGreatDoor
open _root_.Go.Proofs.Tryz
open Go.RowKit Go.Av Go.Ab
def Oq:List UInt8→Bool
 | []=>false
 | c :: r=>decide ((c :: r).length≤300) && fJ c && !ia (c :: r) && (c :: r).all nu
theorem F7 (p:UInt8→Bool) (s:List UInt8):s.take (s.takeWhile p).length=s.takeWhile p:=(oL.1 (qb p)).symm
theorem yI (p:UInt8→Bool):∀ s:List UInt8,(s.takeWhile p == s)=s.all p
 | []=>rfl
 | c :: r=>by
  rw [List.takeWhile_cons,iH];cases h:p c
  ·simp
  ·have:=yI p r;simp only [gj,bY,← this];simp
theorem AX (c:UInt8) (h:fJ c=true):¬ rO c=true∧¬ c.toNat=47:=by
 unfold fJ at h;unfold rO;simp only [aZ] at *;omega
theorem Ot (s:List UInt8):Oq s=aY s:=by
 cases s with
 | nil=>rfl
 | cons c r =>
 obtain ⟨s,hs⟩:=aV (c :: r)
 have hr:lC s 0=kf s (jx s 0):=by
  unfold lC;rw [aq ak];rfl
 have hgd:s.getD 0 0=c:=by rw [← hs];rfl
 have FW:0 < s.length:=by rw [← hs];simp
 have ac1:Oq s=(decide (s.length≤300) && fJ c && !ia s && s.all nu):=by rw [← hs];rfl
 rw [hs,ac1];unfold aY;rw [hr]
 by_cases hl:fJ c=true
 ·have hw:jx s 0=0:=by
   refine yY s 0 0 ak ?_;rw [iE,← hs];exact Gv c r (AX c hl).1 fun h=>(AX c hl).2 h.1
  have ht:uc s 0 (kS nu s 0)=s.takeWhile nu:=by
   unfold uc kS;rw [iE,bf,Nat.sub_zero];exact F7 _ s
  have hta:kf s 0=(⟨if ia (s.takeWhile nu)=true then 4 else 1,s.takeWhile nu,0,0,kS nu s 0⟩,0):=by
   unfold kf;rw [aq ak,hgd,aD hl,ht]
  rw [hw,hta,hl,← yI];cases he:(s.takeWhile nu == s)
  ·simp
  ·rw [eq_of_beq he];cases ia s<;>simp
 ·have Cd:fJ c=false:=by simpa using hl
  rw [Cd,gC,bA,bA]
  symm
  cases hb:(decide (s.length≤300) && decide ((kf s (jx s 0)).2=0) && decide ((kf s (jx s 0)).1.kind=1) && ((kf s (jx s 0)).1.text == s)) with
  | false=>rfl
  | true =>
  exfalso
  simp only [aF,aZ,iK] at hb;obtain ⟨⟨_,hk⟩,Rd⟩:=hb;have hle:=qw s 0;obtain ⟨p,hp⟩:=aV (jx s 0);rw [hp] at hk Rd hle
  have hp0:p=0:=by
   have h1:∀ e,uc s p e=s→p=0:=fun e h=>by
    have:=gR List.length h;unfold uc at this;simp only [cg,eG] at this;omega
   unfold kf at Rd hk
   split at Rd
   ·rw [← Rd] at FW;cases FW
   ·split at Rd
    ·exact h1 _ Rd
    ·rename_i h2 h3;rw [aq h2,aq h3] at hk
     split at hk
     ·split at hk
      ·cases hk
      ·cases hk
     ·split at hk
      ·cases hk
      ·cases hk
  subst hp0;unfold kf at hk;rw [aq ak,hgd,aq hl] at hk
  split at hk
  ·split at hk
   ·cases hk
   ·cases hk
  ·split at hk
   ·cases hk
   ·cases hk
structure ox (f:Int→Bool × Int) (n:Int):Prop where
 lo:-1≤n
 hi:n≤60000
 ok:∀ p,0≤p→p≤60000→((f p).1=true↔0≤n∧p+n≤60000)
 FP:∀ p,0≤p→p≤60000→(f p).1=true→(f p).2=p+n
theorem dW (a b:Int):-1≤cj a b∧cj a b≤60000:=by unfold cj;split<;>omega
theorem iw (a b c:Int):cj (cj a b) c=cj a (cj b c):=by
 unfold cj
 repeat' split
 all_goals omega
theorem lP {a:Int} (h:-1≤a) (h2:a≤60000):cj a 0=a:=by unfold cj;split<;>omega
theorem jf {a:Int} (h:-1≤a) (h2:a≤60000):cj 0 a=a:=by unfold cj;split<;>omega
theorem gJ (b:Int):cj (-1) b = -1:=by unfold cj;rw [if_pos (.inl ak)]
theorem ox.and {f g:Int→Bool × Int} {a b:Int} (hf:ox f a) (hg:ox g b):ox (dR f g) (cj a b):=by
 have key:∀ p,0≤p→p≤60000→((dR f g p).1=true↔(0≤a∧p+a≤60000)∧0≤b∧p+a+b≤60000)∧((dR f g p).1=true→(dR f g p).2=p+a+b):=by
  intro p h1 h2;unfold dR
  by_cases h:(f p).1=false
  ·rw [aD h];have:=hf.ok p h1 h2;rw [h] at this;exact ⟨⟨fun h=>(by cases h),fun h=>absurd (this.2 h.1) bH⟩,fun h=>(by cases h)⟩
  ·rw [aq h];have ht:(f p).1=true:=by simpa using h
   have h3:=(hf.ok p h1 h2).1 ht;have h4:=hf.FP p h1 h2 ht;rw [h4];have h5:=hg.ok (p+a) ak h3.2;exact ⟨⟨fun h=>⟨h3,h5.1 h⟩,fun h=>h5.2 h.2⟩,fun h=>hg.FP (p+a) ak h3.2 h⟩
 obtain ⟨h1,h2⟩:=dW a b;refine ⟨h1,h2,fun p h3 h4=>?_,fun p h3 h4 h5=>?_⟩
 ·rw [(key p h3 h4).1];unfold cj
  split<;>omega
 ·have h6:=(key p h3 h4).1.1 h5;rw [(key p h3 h4).2 h5];unfold cj;rw [aq ak];omega
theorem ox.bad {f:Int→Bool × Int} (h:∀ p,0≤p→p≤60000→(f p).1=false):ox f (-1) :=
 ⟨ak,ak,fun p h1 h2=>by rw [h p h1 h2];exact ⟨fun h=>(by cases h),fun h=>absurd h.1 ak⟩,fun p h1 h2 h3=>by rw [h p h1 h2] at h3;cases h3⟩
theorem ox.allow (b:Bool):ox (gu b) (if b=true then 0 else -1):=by
 cases b
 ·exact ox.bad fun p _ _=>rfl
 ·refine ⟨bH,bH,fun p h1 h2=>?_,fun p h1 h2 h3=>?_⟩
  ·rw [aD rfl];exact ⟨fun _=>⟨dV _,ak⟩,fun _=>rfl⟩
  ·rw [aD rfl];show p=p+0;omega
theorem ox.part (d:Int):ox (fT d) (if 60 < d then -1 else 1):=by
 by_cases h:60 < d
 ·rw [aD h];refine ox.bad fun p _ _=>?_;show (decide (p+1≤60000) && decide (d≤60))=false;rw [af (by omega:¬ d≤60),gC]
 ·rw [aq h];refine ⟨bH,bH,fun p h1 h2=>?_,fun p _ _ _=>rfl⟩;show (decide (p+1≤60000) && decide (d≤60))=true↔_;rw [ah (by omega:d≤60),gU,bz];omega
def jj {α:Type} (c:α→Int):List α→Int
 | []=>0
 | x :: l=>cj (c x) (jj c l)
theorem ox.row {α:Type} {f:α→Int→Bool × Int} {c:α→Int}:∀ (l:List α),(∀ x∈l,ox (f x) (c x))→ox (jG f l) (jj c l)
 | [],_=>⟨show (-1:Int)≤0 by decide,show (0:Int)≤60000 by decide,fun p _ h=>⟨fun _=>⟨dV _,by show p+0≤60000;omega⟩,fun _=>rfl⟩,fun p _ _ _=>by show p=p+0;omega⟩
 | x :: l,h=>(h x aI).and (ox.row l fun y hy=>h y (aU _ hy))
theorem ox.congr {f g:Int→Bool × Int} {n:Int} (h:ox g n) (h1:∀ p,0≤p→p≤60000→(f p).1=(g p).1∧((f p).1=true→(f p).2=(g p).2)):ox f n :=
 ⟨h.lo,h.hi,fun p h2 h3=>by rw [(h1 p h2 h3).1];exact h.ok p h2 h3,fun p h2 h3 h4=>by rw [(h1 p h2 h3).2 h4];exact h.FP p h2 h3 (by rw [← (h1 p h2 h3).1];exact h4)⟩
def rD:bJ→Int→Int
 | .mk k n es,d=>if 60 < d then -1 else if 1≤k∧k≤6 then (if n=[]∧es.length=0 then 1 else -1) else if k=7 then (if aY n=true∧es.length=0 then 1 else -1)
  else match es with
   | [e]=>if k=8∧n=[] then cj 1 (rD e (d+1)) else -1
   | _=>-1
theorem vB:∀ (t:bJ) (d:Int),ox (fun p=>jM aY t d p) (rD t d)
 | .mk k n es,d=>by
  have hpd:∀ p,eJ d p=(decide (p+1≤60000) && decide (d≤60)):=fun _=>rfl
  by_cases hd:60 < d
  ·have h1:rD (.mk k n es) d = -1:=by unfold rD;rw [if_pos hd]
   rw [h1];refine ox.bad fun p _ _=>?_;show (jM aY (.mk k n es) d p).1=false;have hk:eJ d p=false:=by rw [hpd,af (by omega:¬ d≤60),gC]
   unfold jM;rw [aD hk]
  have hP:=ox.part d;rw [aq hd] at hP
  have leaf:∀ b:Bool,(∀ p,¬ eJ d p=false→jM aY (.mk k n es) d p=(b,p+1))→ox (fun p=>jM aY (.mk k n es) d p) (if b=true then 1 else -1):=by
   intro b hb;have h2:=hP.and (ox.allow b);have h3:cj 1 (if b=true then 0 else -1)=if b=true then 1 else -1:=by cases b<;>rfl
   rw [h3] at h2;refine h2.congr fun p _ _=>?_
   by_cases hk:eJ d p=false
   ·have e1:(jM aY (.mk k n es) d p)=(false,p+1):=by unfold jM;rw [if_pos hk]
    have e2:dR (fT d) (gu b) p=(false,p+1):=by unfold dR fT;rw [if_pos hk]
    rw [e1,e2];exact ⟨rfl,fun _=>rfl⟩
   ·have e2:dR (fT d) (gu b) p=(b,p+1):=by unfold dR fT;rw [if_neg hk];rfl
    rw [hb p hk,e2];exact ⟨rfl,fun _=>rfl⟩
  by_cases SJ:1≤k∧k≤6
  ·have h1:rD (.mk k n es) d=if (decide (n=[]) && decide (es.length=0))=true then 1 else -1:=by
    unfold rD;rw [aq hd,aD SJ];simp
   rw [h1];refine leaf _ fun p hk=>?_;rw [rP aY k n es d p hk,aD SJ]
  by_cases h7:k=7
  ·have h1:rD (.mk k n es) d=if (aY n && decide (es.length=0))=true then 1 else -1:=by
    unfold rD;rw [aq hd,aq SJ,aD h7];simp
   rw [h1];refine leaf _ fun p hk=>?_;rw [rP aY k n es d p hk,aq SJ,aD h7]
  match es,leaf with
  | [],leaf =>
   have h1:rD (.mk k n []) d = -1:=by
    unfold rD;rw [aq hd,aq SJ,aq h7]
   rw [h1];refine leaf false fun p hk=>?_;rw [rP aY k n [] d p hk,aq SJ,aq h7];rfl
  | e :: e2 :: l,leaf =>
   have h1:rD (.mk k n (e :: e2 :: l)) d = -1:=by
    unfold rD;rw [aq hd,aq SJ,aq h7]
   rw [h1];refine leaf false fun p hk=>?_;rw [rP aY k n (e :: e2 :: l) d p hk,aq SJ,aq h7];rfl
  | [e],leaf =>
   by_cases h8:k=8∧n=[]
   ·have h1:rD (.mk k n [e]) d=cj 1 (rD e (d+1)):=by
     conv=>lhs;unfold rD
     rw [aq hd,aq SJ,aq h7];exact aD h8
    rw [h1];refine (hP.and (vB e (d+1))).congr fun p _ _=>?_
    by_cases hk:eJ d p=false
    ·have e1:(jM aY (.mk k n [e]) d p)=(false,p+1):=by unfold jM;rw [if_pos hk]
     have e2:∀ g,dR (fT d) g p=(false,p+1):=fun g=>by unfold dR fT;rw [if_pos hk]
     rw [e1,e2];exact ⟨rfl,fun _=>rfl⟩
    ·have e2:∀ g,dR (fT d) g p=g (p+1):=fun g=>by unfold dR fT;rw [if_neg hk]
     rw [rP aY k n [e] d p hk,aq SJ,aq h7,e2];have e3:sU aY k n d p [e]=jM aY e (d+1) (p+1):=aD h8;rw [e3];exact ⟨rfl,fun _=>rfl⟩
   ·have h1:rD (.mk k n [e]) d = -1:=by
     conv=>lhs;unfold rD
     rw [aq hd,aq SJ,aq h7];exact aq h8
    rw [h1];refine leaf false fun p hk=>?_;rw [rP aY k n [e] d p hk,aq SJ,aq h7];exact aq h8
def VJ:=KB func139 21
def VK:=KB func141 9
theorem Fg (c:UInt8) (S:Mem):cy prog bI 139 [.d (.int .u8 (c.toNat:Int))] S (cF (.d (.bool (fJ c))) S):=by
 refine gL VJ fun cG=>?_;simp only [fH] at cG;simp only [W,seval,VJ]
 repeat' ((first | refine cU (fun h=>?_) (fun h=>?_) | refine cT (fun h=>?_) (fun h=>?_))<;>simp only [W,seval,VJ,h])
 all_goals
  refine bN VJ (Left.none ?_);refine ⟨?_,rfl⟩;simp only [W,seval,VJ,wk]
  congr 2
  rw [dQ];simp only [fJ,aZ,ff,kj,true_iff,false_iff,cS] at *;omega
theorem Si (c:UInt8) (S:Mem):cy prog bI 141 [.d (.int .u8 (c.toNat:Int))] S (cF (.d (.bool (gA c))) S):=by
 refine gL VK fun cG=>?_;simp only [fH] at cG;simp only [W,seval,VK]
 repeat' ((first | refine cU (fun h=>?_) (fun h=>?_) | refine cT (fun h=>?_) (fun h=>?_))<;>simp only [W,seval,VK,h])
 all_goals
  refine bN VK (Left.none ?_);refine ⟨?_,rfl⟩;simp only [W,seval,VK,wk]
  congr 2
  rw [dQ];simp only [gA,aZ,ff,kj,true_iff,false_iff,cS] at *;omega
theorem Jo (s:List UInt8) (S:Mem):cy prog bI 140 [.d (.str s)] S (cF (.d (.bool (ia s))) S):=by
 refine cy.DT func140 rfl cP fun c w xs h1 h2 h3 hI=>?_;have hv:=h2 0 dM
 obtain ⟨x,rfl⟩:∃ x,xs = #[x]:=⟨xs[0]'(by simp at h1;omega),by
  apply xD
  ·simpa using h1
  ·intro j hj jT;have:j=0:=by simp at jT;omega
   subst this;rfl⟩
 simp at hv;cases hv with
 | d _ _ hv=>cases hv with
  | str _ hl =>
   refine (Q6 ⟨s.toArray⟩ w).mono ?_;rintro e w' ⟨rfl,rfl⟩;exact ⟨_,_,rfl,⟨rfl,rfl⟩,.refl _ _,.d _ _ (.bool _)⟩
def tA:=KB func115 40
def zq:=KB func142 26
def qT:=KB func118 64
theorem sD (s:List UInt8) (B:bQ) (T:eg):cy prog bI 115 [.d (.str s)] ⟨B,T⟩ (cF (.d (.bool (aY s))) ⟨B,T⟩):=by
 rw [← Ot];cases s with
 | nil =>
  refine gL tA fun cG=>?_;simp only [fH] at cG;simp only [W,seval,tA];refine bN tA (Left.none ?_);exact ⟨rfl,rfl⟩
 | cons c r =>
 obtain ⟨s,hs⟩:=aV (c :: r);have ac1:Oq s=(decide (s.length≤300) && fJ c && !ia s && s.all nu):=by rw [← hs];rfl
 have ur:s[0]? = some c:=by rw [← hs];rfl
 have FW:0 < s.length:=by rw [← hs];simp
 rw [hs,ac1];have e0:decide ((s.length:Int)=0)=false:=af ak;have h0l:decide ((0:Int) < (s.length:Int))=true:=ah ak
 by_cases h3:s.length≤300
 case neg =>
  have e3:decide ((300:Int) < (s.length:Int))=true:=ah ak;rw [af h3,bA,bA,bA];refine gL tA fun cG=>?_;simp only [fH] at cG;simp only [W,seval,tA,e0,e3];refine bN tA (Left.none ?_);exact ⟨rfl,rfl⟩
 have e3:decide ((300:Int) < (s.length:Int))=false:=af ak;rw [ah h3,bY];refine gL tA fun cG=>?_;simp only [fH] at cG;simp only [W,seval,tA,e0,e3,ur,FW,h0l];refine aX (Fg c _) ?_;cases hl:fJ c
 ·refine goN ?_;simp only [W,seval,tA];refine bN tA (Left.none ?_);exact ⟨rfl,rfl⟩
 refine goN ?_;simp only [W,seval,tA];refine aX (Jo s _) ?_;cases hr:ia s
 case true =>
  refine goN ?_;simp only [W,seval,tA];refine bN tA (Left.none ?_);exact ⟨rfl,rfl⟩
 refine goN ?_;simp only [W,seval,tA];refine az.dL (fun i:Nat=>(cN 40 [(0,.d (.str s)),(3,.d (.int .i64 (i:Int)))],⟨B,T⟩)) (fun i=>i≤s.length∧(s.drop i).all nu=s.all nu) (fun i=>s.length - i) 0 ⟨ak,rfl⟩ cx rfl ?_;rintro i ⟨h1,h2⟩ ih;dsimp only at h1 h2 ih ⊢
 by_cases bu:i < s.length
 case neg =>
  have hd:decide ((i:Int) < (s.length:Int))=false:=af ak;rw [ay ak] at h2;refine goN ?_;simp only [W,seval,tA,hd];refine bN tA (Left.none ?_);rw [← h2];exact ⟨rfl,rfl⟩
 have hd:decide ((i:Int) < (s.length:Int))=true:=ah ak;have hg:s[i]? = some s[i]:=au bu;have hw:=bE ((i:Int)+1) ak;rw [fj bu,iH] at h2;have hwb:nu s[i]=(fJ s[i] || gA s[i]):=rfl;rw [hwb] at h2;refine goN ?_;simp only [W,seval,tA,hd,hg,bu];refine aX (Fg s[i] _) ?_;cases eW:fJ s[i]
 case true =>
  rw [eW] at h2;refine goN ?_;simp only [W,seval,tA,hw];exact ih (i+1) ⟨ak,by simpa using h2⟩ ak _ _ cx rfl
 refine goN ?_;simp only [W,seval,tA,hg,bu];refine aX (Si s[i] _) ?_;cases WS:gA s[i]
 case true =>
  rw [eW,WS] at h2;refine goN ?_;simp only [W,seval,tA,hw];exact ih (i+1) ⟨ak,by simpa using h2⟩ ak _ _ cx rfl
 rw [eW,WS] at h2;refine goN ?_;simp only [W,seval,tA];refine bN tA (Left.none ?_);rw [← h2];exact ⟨rfl,rfl⟩
theorem VL (l:List (List UInt8)) (i:Nat) (h:i < l.length):jN (i+1) l=(jN i l && aY l[i] && !(l.take i).contains l[i]):=by
 rw [jN,dm,au h];rfl
theorem Hh (l:List (List UInt8)) (B:bQ) (T:eg):cy prog bI 142 [.d (.sl (gN l))] ⟨B,T⟩ (cF (.d (.bool (jN l.length l))) ⟨B,T⟩):=by
 have SA:(gN l).length=l.length:=by simp [gN]
 refine gL zq fun cG=>?_;simp only [fH] at cG;simp only [W,seval,zq];refine az.dL (fun i:Nat=>(cN 26 [(0,.d (.sl (gN l))),(3,.d (.int .i64 (i:Int)))],⟨B,T⟩)) (fun i=>i≤l.length∧jN i l=true) (fun i=>l.length - i) 0 ⟨ak,rfl⟩ cx rfl ?_;rintro i ⟨h1,h2⟩ ih;dsimp only at h1 h2 ih ⊢
 by_cases bu:i < l.length
 case neg =>
  have hd:decide ((i:Int) < (l.length:Int))=false:=af ak;obtain rfl:i=l.length:=ak;refine goN ?_;simp only [W,seval,zq,SA,hd];refine bN zq (Left.none ?_);rw [h2];exact ⟨rfl,rfl⟩
 have hd:decide ((i:Int) < (l.length:Int))=true:=ah ak;have hg:(gN l)[i]? = some [.str l[i]]:=by simp [gN,bu]
 have kz:=VL l i bu;rw [h2,bY] at kz;refine az.go 20 ?_;simp only [W,seval,zq,SA,hd];refine az.draw cP cP (lA 60 _ _ ?_);simp only [W,seval,zq,hg,bu];refine ⟨_,sD l[i] _ _,?_⟩;have hw:=bE ((i:Int)+1) ak;have hmt:(gN l).take i=gN (l.take i):=by simp [gN]
 have hle:(i:Int)≤(l.length:Int):=ak;cases hid:aY l[i]
 ·rw [hid] at kz;simp only [W,seval,zq];refine az.go 20 ?_;simp only [W,seval,zq];refine bN zq (Left.none ?_);rw [Ad l (i+1) (by simpa using kz) l.length ak];exact ⟨rfl,rfl⟩
 rw [hid,bY] at kz;simp only [W,seval,zq,hg,bu,SA,hmt,hle];refine ⟨_,aav l[i] (l.take i) _ _,?_⟩;cases hc:(l.take i).contains l[i]
 ·rw [hc] at kz;simp only [W,seval,zq];refine az.go 20 ?_;simp only [W,seval,zq,hw];exact ih (i+1) ⟨ak,by simpa using kz⟩ ak _ _ cx rfl
 ·rw [hc] at kz;simp only [W,seval,zq];refine az.go 20 ?_;simp only [W,seval,zq];refine bN zq (Left.none ?_);rw [Ad l (i+1) (by simpa using kz) l.length ak];exact ⟨rfl,rfl⟩
theorem Fh (t:bJ) (d:Int):rD t d≤60000:=(vB t d).hi
theorem VM (k:Int) (n:List UInt8) (es:List bJ) (d:Int) (hd:¬ 60 < d) (h:¬ (k=8∧n=[]∧es.length=1)):rD (.mk k n es) d=if 1≤k∧k≤6 then (if n=[]∧es.length=0 then 1 else -1) else if k=7 then (if aY n=true∧es.length=0 then 1 else -1) else -1:=by
 unfold rD;rw [aq hd]
 split
 ·rfl
 split
 ·rfl
 match es,h with
 | [],_=>rfl
 | [e],h=>exact aq fun h2=>h ⟨h2.1,h2.2,rfl⟩
 | _ :: _ :: _,_=>rfl
theorem AY:∀ (t:bJ) (d:Int) (B:bQ) (T:eg),0≤d→d≤61→cy prog bI 118 [cH t,.d (.int .i64 d)] ⟨B,T⟩ (cF (.d (.int .i64 (rD t d))) ⟨B,T⟩)
 | .mk k n es,d,B,T,Bs,WS=>by
  obtain ⟨N,hn⟩:=aV B.length;simp only [cH,bJ.kind,bJ.name,bJ.elem]
  by_cases hd:60 < d
  ·have h1:rD (.mk k n es) d = -1:=by unfold rD;rw [if_pos hd]
   have e:=ah hd;rw [h1];refine gL qT fun cG=>?_;simp only [fH] at cG;simp only [W,seval,qT,hn,e];refine bN qT (Left.box ?_);exact ⟨rfl,rfl⟩
  have e:=af hd
  by_cases h8:k=8∧n=[]∧es.length=1
  ·obtain ⟨rfl,rfl,h1⟩:=h8
   match es,h1 with
   | [t],_ =>
    have ih:=AY t (d+1)
    have h1:rD (.mk 8 [] [t]) d=cj 1 (rD t (d+1)):=by
     conv=>lhs;unfold rD
     rw [aq hd,aq bH,aq bH];exact aD ⟨rfl,rfl⟩
    have hw:=bE (d+1) ak;have ht:=Fh t (d+1);have htv:cH t = .agg [.d (.int .i64 t.kind),.d (.str t.name),.d (.sl (t.elem.map eH))]:=rfl;have sq:eH t=[.int .i64 t.kind,.str t.name,.sl (t.elem.map eH)]:=eK t;rw [h1];rw [htv] at ih;refine gL qT fun cG=>?_;simp only [fH] at cG;simp only [W,seval,qT,hn,e,hw,sq];refine aX (ih _ _ ak ak) ?_;refine az.go 20 ?_;simp only [W,seval,qT,hn];refine aX (jQ 1 _ ak ht _ _) ?_;refine az.go 20 ?_;simp only [W,seval,qT,hn];refine bN qT (Left.box ?_);exact ⟨rfl,rfl⟩
  rw [VM k n es d hd h8]
  have hv:∀ (b:Prop) [Decidable b],(if b∧es.length=0 then (1:Int) else -1)=if (decide b && decide ((es.length:Int)=0))=true then 1 else -1:=by
   intro b _;have hq:((es.length:Int)=0)=(es.length=0):=propext ⟨fun h=>ak,fun h=>ak⟩;simp [hq]
  by_cases hA:1≤k∧k≤6
  ·rw [aD hA,hv];have a1:=ah hA.1;have a6:=ah hA.2;have a7:decide (k=7)=false:=af ak;have a8:decide (k=8)=false:=af ak;cases an:decide (n=[])<;>cases al:decide ((es.length:Int)=0)
   all_goals
    refine gL qT fun cG=>?_;simp only [fH] at cG;simp only [W,seval,qT,hn,e,a1,a6,a7,a8,an,al];refine bN qT (Left.box ?_);exact ⟨rfl,rfl⟩
  rw [aq hA]
  by_cases hB:k=7
  ·rw [aD hB,hv,Bool.decide_eq_true];have a1:decide (1≤k)=true:=ah ak;have a6:decide (k≤6)=false:=af ak;have a7:=ah hB;have a8:decide (k=8)=false:=af ak;refine gL qT fun cG=>?_;simp only [fH] at cG;simp only [W,seval,qT,hn,e,a1,a6,a7,a8];refine aX (sD n _ _) ?_;cases aY n<;>cases al:decide ((es.length:Int)=0)
   all_goals
    refine goN ?_;simp only [W,seval,qT,hn,a7,a8,al];refine bN qT (Left.box ?_);exact ⟨rfl,rfl⟩
  rw [aq hB];have a7:=af hB
  by_cases h88:k=8
  ·have a1:decide (1≤k)=true:=ah ak;have a6:decide (k≤6)=false:=af ak;have a8:=ah h88;cases an:decide (n=[])
   ·refine gL qT fun cG=>?_;simp only [fH] at cG;simp only [W,seval,qT,hn,e,a1,a6,a7,a8,an];refine bN qT (Left.box ?_);exact ⟨rfl,rfl⟩
   ·have al:decide ((es.length:Int)=1)=false:=af fun h=>h8 ⟨h88,bV an,ak⟩;refine gL qT fun cG=>?_;simp only [fH] at cG;simp only [W,seval,qT,hn,e,a1,a6,a7,a8,an,al];refine bN qT (Left.box ?_);exact ⟨rfl,rfl⟩
  have a8:=af h88
  by_cases h1:1≤k
  ·have a1:=ah h1;have a6:decide (k≤6)=false:=af ak;refine gL qT fun cG=>?_;simp only [fH] at cG;simp only [W,seval,qT,hn,e,a1,a6,a7,a8];refine bN qT (Left.box ?_);exact ⟨rfl,rfl⟩
  ·have a1:=af h1;refine gL qT fun cG=>?_;simp only [fH] at cG;simp only [W,seval,qT,hn,e,a1,a7,a8];refine bN qT (Left.box ?_);exact ⟨rfl,rfl⟩
theorem gf (a:Int):cj a (-1) = -1:=by unfold cj;rw [if_pos (.inr (.inl ak))]
def Fi:bh→Prop
 | .mk k _ i _ _ ks=>(k=3→0≤i)∧∀ x∈ks,Fi x
def okB (x:bh):Bool :=
 (if x.kind=1∨x.kind=7∨x.kind=9 then aY x.text else if x.kind=6 then decide (0 < jO x.text) else decide (x.text=[])) &&
 (if x.kind=2 then true else decide (x.int=0) || (decide (x.kind=3) && decide (x.int=1))) &&
 (if x.kind=8 then decide (2≤x.type.kind∧x.type.kind≤6) else if x.kind=14 then decide (x.type.kind=7) else if x.kind=15 then decide (x.type.kind=8) else jn x.type) &&
 (if x.kind=14 then decide (x.names.length=x.kids.length) && jN x.names.length x.names else decide (x.names.length=0))
def AZ (k:Int):Bool:=decide (k=8) || decide (k=14) || decide (k=15)
def bR (x:bh) (d:Int):Int:=cj (if okB x=true then 0 else -1) (if AZ x.kind=true then rD x.type (d+1) else 0)
def oy (k:Int) (n:Nat):Bool:=decide ((n:Int)≤nM k) && decide (1≤k∧k≤15) && (decide (iN k = -1) || decide ((n:Int)=iN k))
mutual
def Hi:bh→Int→Int
 | .mk k t i ty ns ks,d=>cj (if 60 < d then -1 else 1) (cj (if oy k ks.length=true then 0 else -1) (cj (bR (.mk k t i ty ns ks) d) (o7 ks (d+1))))
def o7:List bh→Int→Int
 | [],_=>0
 | x :: l,d=>cj (Hi x d) (o7 l d)
end
theorem tR {a b:Bool} (h:a=true↔b=true):a=b:=dQ.2 h
theorem VN (x:bh) (d:Int) (hp:x.kind=3→0≤x.int):ox (fun p=>ig x d p) (bR x d):=by
 unfold bR
 have ht:ox (if AZ x.kind=true then fun p=>jM aY x.type (d+1) p else gu true) (if AZ x.kind=true then rD x.type (d+1) else 0):=by
  by_cases h:AZ x.kind=true
  ·rw [aD h,aD h];exact vB _ _
  ·rw [aq h,aq h];exact ox.allow true
 refine ((ox.allow (okB x)).and ht).congr fun p _ _=>?_;obtain ⟨k,hk⟩:=aV x.kind;have hz:(x.names.length=0) = ¬ 0 < x.names.length:=propext ⟨fun h=>ak,fun h=>ak⟩;have he:∀ l:List UInt8,(l == [])=decide (l=[]):=fun l=>by cases l<;>rfl
 have key:(ig x d p).1=(okB x && (if AZ k=true then (jM aY x.type (d+1) p).1 else true))∧((ig x d p).1=true→(ig x d p).2=if AZ k=true then (jM aY x.type (d+1) p).2 else p):=by
  unfold ig pL okB AZ;rw [hk] at hp ⊢;have hb:∀ a b:Prop,(a=b)=(a↔b):=fun a b=>propext ⟨fun h=>by rw [h],propext⟩
  by_cases h8:k=8
  ·subst h8
   by_cases h2:2≤x.type.kind∧x.type.kind≤6
   ·refine ⟨tR ?_,?_⟩
    ·simp [he,h2]
     grind
    ·simp [h2]
   ·refine ⟨tR ?_,?_⟩
    ·simp [he,h2]
    ·simp [h2]
  by_cases za:k=14
  ·subst za
   by_cases h2:x.type.kind=7
   ·by_cases h3:(jM aY x.type (d+1) p).1=true
    ·refine ⟨tR ?_,?_⟩
     ·simp [he,h2,h3]
      grind
     ·simp [h2,h3]
    ·refine ⟨tR ?_,?_⟩
     ·simp [he,h2,h3]
     ·simp [h2,h3]
   ·refine ⟨tR ?_,?_⟩
    ·simp [he,h2]
    ·simp [h2]
  by_cases Ae:k=15
  ·subst Ae
   by_cases h2:x.type.kind=8
   ·refine ⟨tR ?_,?_⟩
    ·simp [he,h2]
     grind
    ·simp [h2]
   ·refine ⟨tR ?_,?_⟩
    ·simp [he,h2]
    ·simp [h2]
  refine ⟨tR ?_,?_⟩
  ·by_cases h3:k=3
   ·subst h3;have:=hp rfl;simp [he]
    grind
   ·simp [he,h8,za,Ae,h3]
    grind
  ·simp [h8,za,Ae]
 show (ig x d p).1=(dR (gu (okB x)) (if AZ x.kind=true then fun p=>jM aY x.type (d+1) p else gu true) p).1∧((ig x d p).1=true→(ig x d p).2=(dR (gu (okB x)) (if AZ x.kind=true then fun p=>jM aY x.type (d+1) p else gu true) p).2);have e1:∀ g,dR (gu true) g p=g p:=fun g=>rfl;have e2:∀ g,dR (gu false) g p=(false,p):=fun g=>rfl;rw [key.1,hk];cases ho:okB x
 ·rw [e2];exact ⟨rfl,fun h=>(by cases h)⟩
 ·rw [e1];have h2:=key.2;rw [key.1,ho] at h2;simp only [bY] at h2 ⊢
  by_cases h:AZ k=true
  ·simp only [aD h] at h2 ⊢;exact ⟨trivial,h2⟩
  ·simp only [aq h] at h2 ⊢;exact ⟨rfl,fun _=>h2 trivial⟩
theorem size_eq (k:Int) (n:Nat):(nM k < (n:Int)∨iN k = -2∨(0≤iN k∧(n:Int) ≠ iN k))↔oy k n=false:=by
 have h1:iN k = -2↔¬ (1≤k∧k≤15):=by
  unfold iN
  repeat' split
  all_goals omega
 have h2:-2≤iN k:=by
  unfold iN
  repeat' split
  all_goals omega
 have h3:(oy k n=true)↔((n:Int)≤nM k∧(1≤k∧k≤15))∧(iN k = -1∨(n:Int)=iN k):=by
  unfold oy;simp
 rw [← qx,h3];omega
mutual
theorem Zy:∀ (x:bh) (d:Int),Fi x→ox (fun p=>vR x d p) (Hi x d)
 | .mk k t i ty ns ks,d,hx=>by
  unfold Fi at hx;have hb:=VN (.mk k t i ty ns ks) d hx.1;have hk:=Fj ks (d+1) hx.2;have j4:=(ox.part d).and ((ox.allow (oy k ks.length)).and (hb.and hk))
  conv=>rhs;unfold Hi
  refine j4.congr fun p _ _=>?_;have hs:=size_eq k ks.length
  by_cases h1:eJ d p=false
  ·have e1:vR (.mk k t i ty ns ks) d p=(false,p+1):=by unfold vR;rw [if_pos h1]
   have e2:∀ g,dR (fT d) g p=(false,p+1):=fun g=>by unfold dR fT;rw [if_pos h1]
   rw [e1,e2];exact ⟨rfl,fun _=>rfl⟩
  have e2:∀ g,dR (fT d) g p=g (p+1):=fun g=>by unfold dR fT;rw [if_neg h1]
  rw [e2];unfold vR;rw [aq h1]
  by_cases h2:oy k ks.length=false
  ·rw [aD (hs.2 h2),h2];exact ⟨rfl,fun h=>(by cases h)⟩
  ·rw [if_neg fun h=>h2 (hs.1 h),show oy k ks.length=true by simpa using h2];show _=(dR (fun p=>ig (.mk k t i ty ns ks) d p) (fun p=>kC ks (d+1) p) (p+1)).1∧(_→_=(dR (fun p=>ig (.mk k t i ty ns ks) d p) (fun p=>kC ks (d+1) p) (p+1)).2);unfold dR;exact ⟨rfl,fun _=>rfl⟩
theorem Fj:∀ (l:List bh) (d:Int),(∀ x∈l,Fi x)→ox (fun p=>kC l d p) (o7 l d)
 | [],d,_=>by
  unfold o7;refine (ox.allow true).congr fun p _ _=>?_;unfold kC;exact ⟨rfl,fun _=>rfl⟩
 | x :: l,d,h=>by
  unfold o7;refine ((Zy x d (h x aI)).and (Fj l d fun y hy=>h y (aU _ hy))).congr fun p _ _=>?_
  have e:kC (x :: l) d p=dR (fun p=>vR x d p) (fun p=>kC l d p) p:=by
   conv=>lhs;unfold kC
   rfl
  rw [e];exact ⟨rfl,fun _=>rfl⟩
end
def gK:=KB func197 218
theorem VO (x:bh) (d:Int):-1≤Hi x d∧Hi x d≤60000:=by cases x;unfold Hi;exact dW _ _
theorem A0:∀ (l:List bh) (d:Int),-1≤o7 l d∧o7 l d≤60000
 | [],d=>by unfold o7;omega
 | x :: l,d=>by unfold o7;exact dW _ _
theorem Hj (ks:List bh) (i:Nat) (h:i < ks.length) (d:Int):o7 (ks.drop i) d=cj (Hi ks[i] d) (o7 (ks.drop (i+1)) d):=by
 rw [fj h]
 conv=>lhs;unfold o7
def A4 (x:bh):Prop:=∀ (d:Int) (B:bQ) (T:eg),0≤d→d≤61→cy prog bI 197 [fK x,.d (.int .i64 d)] ⟨B,T⟩ (cF (.d (.int .i64 (Hi x d))) ⟨B,T⟩)
def iy (x:bh):List V:=[.d (.int .i64 x.kind),.d (.str x.text),.d (.int .u64 x.int),.d (.int .i64 x.type.kind),.d (.str x.type.name),.d (.sl (x.type.elem.map eH)),.d (.sl (gN x.names)),.d (.sl (x.kids.map eL))]
theorem agJ (x:bh) (hk:∀ y∈x.kids,A4 y) (hlen:x.kids.length≤30000) (d n:Int) (Bs:0≤d) (hd:d≤60) (MA:-1≤n) (hn1:n≤60000) (N:Nat) (B:bQ) (T:eg) (hn:B.length=N) :
 az prog bI (N,T.length) 197 [.code (kF f197 72)] (cN 218 [(1,.d (.int .i64 d)),(2,.ptr N 0),(6,.d (.int .i64 n)),(7,.d (.int .i64 (x.kids.length:Int)))]) ⟨B++[iy x],T⟩ (Ab.Left ⟨B,T⟩ (cF (.d (.int .i64 (cj n (o7 x.kids (d+1))))) ⟨B,T⟩)):=by
 have hw:=bE (d+1) ak;refine az.go 8 ?_;simp only [W,seval,gK,hn];refine az.dL (fun a:Nat × Int=>(cN 218 [(1,.d (.int .i64 d)),(2,.ptr N 0),(6,.d (.int .i64 a.2)),(7,.d (.int .i64 (x.kids.length:Int))),(11,.d (.int .i64 (a.1:Int)))],⟨B++[iy x],T⟩)) (fun a=>a.1≤x.kids.length∧-1≤a.2∧a.2≤60000∧cj a.2 (o7 (x.kids.drop a.1) (d+1))=cj n (o7 x.kids (d+1))) (fun a=>x.kids.length - a.1) (0,n) ⟨dM,MA,hn1,rfl⟩ cx rfl ?_;rintro ⟨i,q⟩ ⟨h1,h2,h3,h4⟩ ih;dsimp only at h1 h2 h3 h4 ih ⊢
 by_cases bu:i < x.kids.length
 case neg =>
  have e1:decide ((i:Int) < (x.kids.length:Int))=false:=af ak;rw [ay ak] at h4;have h5:o7 [] (d+1)=0:=by unfold o7;rfl
  rw [h5,lP h2 h3] at h4;rw [← h4];refine goN ?_;simp only [W,seval,gK,hn,e1];refine bN gK (Left.box ?_);exact ⟨rfl,rfl⟩
 have e1:decide ((i:Int) < (x.kids.length:Int))=true:=ah ak;have ie:=bE ((i:Int)+1) ak;have hg:(x.kids.map eL)[i]? = some (eL x.kids[i]):=by simp [bu]
 have hy:=hk x.kids[i] (aH bu) (d+1) (B++[iy x]) T ak ak;have hle:=VO x.kids[i] (d+1);rw [Hj x.kids i bu,← iw] at h4;obtain ⟨y,VP⟩:=aV (x.kids[i]);rw [VP] at hg hy hle h4;rw [dF] at hg;unfold fK at hy;refine goN ?_;simp only [W,seval,gK,hn,e1,hg,bu,hw,iy];refine aX hy ?_;refine az.go 20 ?_;simp only [W,seval,gK,hn];refine aX (jQ q _ h3 hle.2 _ _) ?_;have Pb:=dW q (Hi y (d+1));refine az.go 20 ?_;simp only [W,seval,gK,hn,ie];exact ih (i+1,cj q (Hi y (d+1))) ⟨gP,Pb.1,Pb.2,h4⟩ gP _ _ cx rfl
def F8 (x:bh):Bool:=if x.kind=1∨x.kind=7∨x.kind=9 then aY x.text else if x.kind=6 then decide (0 < jO x.text) else decide (x.text=[])
def okI (x:bh):Bool:=if x.kind=2 then true else decide (x.int=0) || (decide (x.kind=3) && decide (x.int=1))
def Mr (x:bh):Bool:=if x.kind=8 then decide (2≤x.type.kind∧x.type.kind≤6) else if x.kind=14 then decide (x.type.kind=7) else if x.kind=15 then decide (x.type.kind=8) else jn x.type
def okN (x:bh):Bool:=if x.kind=14 then decide (x.names.length=x.kids.length) && jN x.names.length x.names else decide (x.names.length=0)
theorem ac2 (x:bh):okB x=(F8 x && okI x && Mr x && okN x):=rfl
def Zz (x:bh) (d n:Int):Int:=if okN x=true then cj n (o7 x.kids (d+1)) else -1
def Sj (x:bh) (d:Int):Int:=if Mr x=true then Zz x d (if AZ x.kind=true then cj 1 (rD x.type (d+1)) else 1) else -1
def ZA (x:bh) (d:Int):Int:=if okI x=true then Sj x d else -1
def ZB (x:bh) (d:Int):Int:=if F8 x=true then ZA x d else -1
theorem tS (a b:Nat):decide ((a:Int)=(b:Int))=decide (a=b):=by rw [cM];omega
theorem agK (x:bh) (hk:∀ y∈x.kids,A4 y) (hlen:x.kids.length≤30000) (d n:Int) (Bs:0≤d) (hd:d≤60) (MA:-1≤n) (hn1:n≤60000) (N:Nat) (B:bQ) (T:eg) (hn:B.length=N) :
 az prog bI (N,T.length) 197 [.code (kF f197 64)] (cN 218 [(1,.d (.int .i64 d)),(2,.ptr N 0),(6,.d (.int .i64 n)),(7,.d (.int .i64 (x.kids.length:Int)))]) ⟨B++[iy x],T⟩ (Ab.Left ⟨B,T⟩ (cF (.d (.int .i64 (Zz x d n))) ⟨B,T⟩)):=by
 have he:=agJ x hk hlen d n Bs hd MA hn1 N B T hn;unfold Zz;refine az.go 1 ?_;simp only [W,seval,gK];refine az.after [_] _ (fun _:Unit=>(cN 218 [(1,.d (.int .i64 d)),(2,.ptr N 0),(6,.d (.int .i64 n)),(7,.d (.int .i64 (x.kids.length:Int)))],⟨B++[iy x],T⟩)) (fun _=>okN x=true) ?_ ?_
 ·rintro ⟨⟩ hc;rw [aD hc];exact he
 intro K' gI
 by_cases za:x.kind=14
 ·have EE:=ah za;have hN:okN x=(decide (x.names.length=x.kids.length) && jN x.names.length x.names):=by unfold okN;rw [if_pos za]
  have hnd:=tS x.names.length x.kids.length;cases hl:decide (x.names.length=x.kids.length)
  ·rw [hl] at hnd hN;rw [hN];refine jJ ?_;simp only [W,seval,gK,hn,iy,EE,hnd];refine bN gK (Left.box ?_);exact ⟨rfl,rfl⟩
  rw [hl] at hnd hN;refine jJ ?_;simp only [W,seval,gK,hn,iy,EE,hnd];refine aX (Hh x.names _ _) ?_;cases hb:jN x.names.length x.names
  ·rw [hb] at hN;rw [hN];refine jJ ?_;simp only [W,seval,gK,hn];refine bN gK (Left.box ?_);exact ⟨rfl,rfl⟩
  ·rw [hb] at hN;refine jJ ?_;simp only [W,seval,gK,hn,iy,EE];exact gI () hN _ _ cx rfl
 ·have EE:=af za;have hN:okN x=decide (x.names.length=0):=by unfold okN;rw [if_neg za]
  by_cases h0:x.names.length=0
  ·have e0:decide ((0:Int) < (x.names.length:Int))=false:=af ak;refine jJ ?_;simp only [W,seval,gK,hn,iy,EE,e0];exact gI () (by rw [hN];exact ah h0) _ _ cx rfl
  ·have e0:decide ((0:Int) < (x.names.length:Int))=true:=ah ak;rw [hN,af h0];refine jJ ?_;simp only [W,seval,gK,hn,iy,EE,e0];refine bN gK (Left.box ?_);exact ⟨rfl,rfl⟩
theorem agL (x:bh) (hk:∀ y∈x.kids,A4 y) (hlen:x.kids.length≤30000) (d:Int) (Bs:0≤d) (hd:d≤60) (N:Nat) (B:bQ) (T:eg) (hn:B.length=N) :
 az prog bI (N,T.length) 197 [.code (kF f197 50)] (cN 218 [(1,.d (.int .i64 d)),(2,.ptr N 0),(6,.d (.int .i64 1)),(7,.d (.int .i64 (x.kids.length:Int)))]) ⟨B++[iy x],T⟩ (Ab.Left ⟨B,T⟩ (cF (.d (.int .i64 (Sj x d))) ⟨B,T⟩)):=by
 have hw:=bE (d+1) ak;refine az.go 1 ?_;simp only [W,seval,gK];refine az.after [_] _ (fun _:Unit=>(cN 218 [(1,.d (.int .i64 d)),(2,.ptr N 0),(6,.d (.int .i64 1)),(7,.d (.int .i64 (x.kids.length:Int))),(10,.d (.bool (AZ x.kind && Mr x)))],⟨B++[iy x],T⟩)) (fun _=>True) ?_ ?_
 ·rintro ⟨⟩ -;refine az.go 1 ?_;simp only [W,seval,gK];refine az.after [_] _ (fun _:Unit=>(cN 218 [(1,.d (.int .i64 d)),(2,.ptr N 0),(6,.d (.int .i64 (if AZ x.kind=true then cj 1 (rD x.type (d+1)) else 1))),(7,.d (.int .i64 (x.kids.length:Int)))],⟨B++[iy x],T⟩)) (fun _=>Mr x=true) ?_ ?_
  ·rintro ⟨⟩ hc;unfold Sj;rw [aD hc];have hp:=dW 1 (rD x.type (d+1));exact agK x hk hlen d _ Bs hd (by split<;>omega) (by split<;>omega) N B T hn
  intro K' gI;cases ht:(AZ x.kind && Mr x)
  ·cases Sk:AZ x.kind
   ·have An:Mr x=jn x.type:=by
     unfold AZ at Sk;unfold Mr;simp only [fA,ff] at Sk;rw [aq Sk.1.1,aq Sk.1.2,aq Sk.2]
    have VQ:=Sk;unfold AZ at VQ;simp only [fA] at VQ;have hnz:=IS x.type (B++[iy x]) T;unfold cH at hnz;refine jJ ?_;simp only [W,seval,gK,hn,iy,VQ.1.1,VQ.1.2,VQ.2];refine aX hnz ?_;cases hz:jn x.type
    ·unfold Sj;rw [An,hz];refine jJ ?_;simp only [W,seval,gK,hn];refine bN gK (Left.box ?_);exact ⟨rfl,rfl⟩
    ·refine jJ ?_;simp only [W,seval,gK,hn];refine gI () (by rw [An,hz]) _ _ ?_ rfl;rw [Sk];refine eU.env _ ?_;simp only [qa,seval]
     all_goals rfl
   ·have An:Mr x=false:=by rw [Sk,bY] at ht;exact ht
    unfold Sj;rw [An];unfold AZ at Sk;cases e8:decide (x.kind=8)
    ·cases EE:decide (x.kind=14)
     ·rw [e8,EE,eN,eN] at Sk;refine jJ ?_;simp only [W,seval,gK,hn,iy,e8,EE,Sk];refine bN gK (Left.box ?_);exact ⟨rfl,rfl⟩
     ·refine jJ ?_;simp only [W,seval,gK,hn,iy,e8,EE];refine bN gK (Left.box ?_);exact ⟨rfl,rfl⟩
    ·refine jJ ?_;simp only [W,seval,gK,hn,iy,e8];refine bN gK (Left.box ?_);exact ⟨rfl,rfl⟩
  ·obtain ⟨Sk,An⟩:=rB.1 ht;have jU:=AY x.type (d+1) (B++[iy x]) T ak ak;unfold cH at jU;have hle:=Fh x.type (d+1);refine jJ ?_;simp only [W,seval,gK,hn,iy,hw];refine aX jU ?_;refine jJ ?_;simp only [W,seval,gK,hn];refine aX (jQ 1 _ ak hle _ _) ?_;refine jJ ?_;simp only [W,seval,gK,hn];refine gI () An _ _ ?_ rfl;rw [Sk];refine eU.env _ ?_;simp only [qa,seval]
   all_goals rfl
 intro K' gI
 by_cases h8:x.kind=8
 ·have e8:=ah h8
  have ht:(AZ x.kind && Mr x)=(decide (2≤x.type.kind) && decide (x.type.kind≤6)):=by
   unfold AZ Mr;rw [aD h8,e8];simp
  rw [ht] at gI;cases a2:decide (2≤x.type.kind)<;>cases a6:decide (x.type.kind≤6)
  all_goals
   rw [a2,a6] at gI;have EE:decide (x.kind=14)=false:=af ak;have Lt:decide (x.kind=15)=false:=af ak;refine jJ ?_;simp only [W,seval,gK,hn,iy,e8,EE,Lt,a2,a6];exact gI () trivial _ _ cx rfl
 have e8:=af h8
 by_cases za:x.kind=14
 ·have EE:=ah za;have Lt:decide (x.kind=15)=false:=af ak
  have ht:(AZ x.kind && Mr x)=decide (x.type.kind=7):=by
   unfold AZ Mr;rw [aq h8,aD za,EE];simp
  rw [ht] at gI;cases a7:decide (x.type.kind=7)
  all_goals
   rw [a7] at gI;refine jJ ?_;simp only [W,seval,gK,hn,iy,e8,EE,Lt,a7];exact gI () trivial _ _ cx rfl
 have EE:=af za
 by_cases Ae:x.kind=15
 ·have Lt:=ah Ae
  have ht:(AZ x.kind && Mr x)=decide (x.type.kind=8):=by
   unfold AZ Mr;rw [aq h8,aq za,aD Ae,Lt];simp
  rw [ht] at gI;refine jJ ?_;simp only [W,seval,gK,hn,iy,e8,EE,Lt];exact gI () trivial _ _ cx rfl
 have Lt:=af Ae
 have ht:(AZ x.kind && Mr x)=false:=by
  unfold AZ;rw [e8,EE,Lt];rfl
 rw [ht] at gI;refine jJ ?_;simp only [W,seval,gK,hn,iy,e8,EE,Lt];exact gI () trivial _ _ cx rfl
theorem ZC (s:List UInt8):0≤jO s:=by
 rcases IG s with ⟨x,hx,rfl⟩ | h
 ·have:∀ x∈yA,0≤jO x.1:=bH;exact this x hx
 ·rw [IM s fun x hx e=>by simpa [e] using h x hx];omega
theorem agM (x:bh) (hk:∀ y∈x.kids,A4 y) (hlen:x.kids.length≤30000) (d:Int) (Bs:0≤d) (hd:d≤60) (N:Nat) (B:bQ) (T:eg) (hn:B.length=N) :
 az prog bI (N,T.length) 197 [.code (kF f197 42)] (cN 218 [(1,.d (.int .i64 d)),(2,.ptr N 0),(6,.d (.int .i64 1)),(7,.d (.int .i64 (x.kids.length:Int)))]) ⟨B++[iy x],T⟩ (Ab.Left ⟨B,T⟩ (cF (.d (.int .i64 (ZA x d))) ⟨B,T⟩)):=by
 have he:=agL x hk hlen d Bs hd N B T hn;unfold ZA;refine az.go 1 ?_;simp only [W,seval,gK];refine az.after [_] _ (fun _:Unit=>(cN 218 [(1,.d (.int .i64 d)),(2,.ptr N 0),(6,.d (.int .i64 1)),(7,.d (.int .i64 (x.kids.length:Int)))],⟨B++[iy x],T⟩)) (fun _=>okI x=true) ?_ ?_
 ·rintro ⟨⟩ hc;rw [aD hc];exact he
 intro K' gI
 by_cases h2:x.kind=2
 ·have e2:=ah h2;have ho:okI x=true:=by unfold okI;rw [if_pos h2]
  refine jJ ?_;simp only [W,seval,gK,hn,iy,e2];exact gI () ho _ _ cx rfl
 have e2:=af h2;have ho:okI x=(decide (x.int=0) || (decide (x.kind=3) && decide (x.int=1))):=by unfold okI;rw [if_neg h2]
 cases e0:decide (x.int=0)
 case true =>
  rw [e0] at ho;refine jJ ?_;simp only [W,seval,gK,hn,iy,e2,e0];exact gI () ho _ _ cx rfl
 cases e3:decide (x.kind=3)
 case false =>
  rw [e0,e3] at ho;rw [ho];refine jJ ?_;simp only [W,seval,gK,hn,iy,e2,e0,e3];refine bN gK (Left.box ?_);exact ⟨rfl,rfl⟩
 cases e1:decide (x.int=1)
 case true =>
  rw [e0,e3,e1] at ho;refine jJ ?_;simp only [W,seval,gK,hn,iy,e2,e0,e3,e1];exact gI () ho _ _ cx rfl
 rw [e0,e3,e1] at ho;rw [ho];refine jJ ?_;simp only [W,seval,gK,hn,iy,e2,e0,e3,e1];refine bN gK (Left.box ?_);exact ⟨rfl,rfl⟩
theorem agN (x:bh) (hk:∀ y∈x.kids,A4 y) (hlen:x.kids.length≤30000) (d:Int) (Bs:0≤d) (hd:d≤60) (N:Nat) (B:bQ) (T:eg) (hn:B.length=N) :
 az prog bI (N,T.length) 197 [.code (kF f197 32)] (cN 218 [(1,.d (.int .i64 d)),(2,.ptr N 0),(6,.d (.int .i64 1)),(7,.d (.int .i64 (x.kids.length:Int)))]) ⟨B++[iy x],T⟩ (Ab.Left ⟨B,T⟩ (cF (.d (.int .i64 (ZB x d))) ⟨B,T⟩)):=by
 have he:=agM x hk hlen d Bs hd N B T hn;unfold ZB;refine az.go 1 ?_;simp only [W,seval,gK];refine az.after [_] _ (fun _:Unit=>(cN 218 [(1,.d (.int .i64 d)),(2,.ptr N 0),(6,.d (.int .i64 1)),(7,.d (.int .i64 (x.kids.length:Int))),(9,.d (.bool (decide (x.kind=1) || decide (x.kind=7) || decide (x.kind=9))))],⟨B++[iy x],T⟩)) (fun _=>True) ?_ ?_
 ·rintro ⟨⟩ -;refine az.go 1 ?_;simp only [W,seval,gK];refine az.after [_] _ (fun _:Unit=>(cN 218 [(1,.d (.int .i64 d)),(2,.ptr N 0),(6,.d (.int .i64 1)),(7,.d (.int .i64 (x.kids.length:Int)))],⟨B++[iy x],T⟩)) (fun _=>F8 x=true) ?_ ?_
  ·rintro ⟨⟩ hc;rw [aD hc];exact he
  intro K' gI;cases hm:(decide (x.kind=1) || decide (x.kind=7) || decide (x.kind=9))
  ·have Fx:¬ (x.kind=1∨x.kind=7∨x.kind=9):=by
    simp only [fA,ff] at hm;omega
   by_cases h6:x.kind=6
   ·have e6:=ah h6;have ho:F8 x=decide (0 < jO x.text):=by unfold F8;rw [if_neg Fx,if_pos h6]
    have hnn:=ZC x.text;refine jJ ?_;simp only [W,seval,gK,hn,iy,e6];refine aX (wU x.text _ _) ?_
    by_cases hr:jO x.text=0
    ·have er:=ah hr;rw [ho,af (by omega:¬ 0 < jO x.text)];refine jJ ?_;simp only [W,seval,gK,hn,iy,e6,er];refine bN gK (Left.box ?_);exact ⟨rfl,rfl⟩
    ·have er:=af hr;refine jJ ?_;simp only [W,seval,gK,hn,iy,e6,er];exact gI () (by rw [ho];exact ah ak) _ _ cx rfl
   ·have e6:=af h6;have ho:F8 x=decide (x.text=[]):=by unfold F8;rw [if_neg Fx,if_neg h6]
    cases et:decide (x.text=[])
    ·rw [et] at ho;rw [ho];refine jJ ?_;simp only [W,seval,gK,hn,iy,e6,et];refine bN gK (Left.box ?_);exact ⟨rfl,rfl⟩
    ·rw [et] at ho;refine jJ ?_;simp only [W,seval,gK,hn,iy,e6,et];exact gI () ho _ _ cx rfl
  ·have aks:x.kind=1∨x.kind=7∨x.kind=9:=by
    simp only [lg,aZ] at hm;omega
   have e6:decide (x.kind=6)=false:=af ak;have ho:F8 x=aY x.text:=by unfold F8;rw [if_pos aks]
   refine jJ ?_;simp only [W,seval,gK,hn,iy,e6];refine aX (sD x.text _ _) ?_;cases hi:aY x.text
   ·rw [ho,hi];refine jJ ?_;simp only [W,seval,gK,hn,iy,e6];refine bN gK (Left.box ?_);exact ⟨rfl,rfl⟩
   ·refine jJ ?_;simp only [W,seval,gK,hn,iy,e6];exact gI () (by rw [ho,hi]) _ _ cx rfl
 intro K' gI;cases e1:decide (x.kind=1)
 case true =>
  rw [e1] at gI;refine jJ ?_;simp only [W,seval,gK,hn,iy,e1];exact gI () trivial _ _ cx rfl
 cases e7:decide (x.kind=7)
 case true =>
  rw [e1,e7] at gI;refine jJ ?_;simp only [W,seval,gK,hn,iy,e1,e7];exact gI () trivial _ _ cx rfl
 rw [e1,e7] at gI;refine jJ ?_;simp only [W,seval,gK,hn,iy,e1,e7];exact gI () trivial _ _ cx rfl
def P7 (k:Int) (n:Nat):Int:=if iN k = -1 then (n:Int) else iN k
def aaL (n:Int):List (List D):=[[.int .i64 (-1)],[.int .i64 0],[.int .i64 0],[.int .i64 0],[.int .i64 1],[.int .i64 1],[.int .i64 2],[.int .i64 n],[.int .i64 1],[.int .i64 1],[.int .i64 2],[.int .i64 3],[.int .i64 1],[.int .i64 2],[.int .i64 n],[.int .i64 n]]
theorem VS (k:Int) (n:Nat) (h1:1≤k) (h2:k≤15):(aaL (n:Int))[k.toNat]? = some [.int .i64 (P7 k n)]:=by
 have:k=1∨k=2∨k=3∨k=4∨k=5∨k=6∨k=7∨k=8∨k=9∨k=10∨k=11∨k=12∨k=13∨k=14∨k=15:=ak;rcases this with rfl | rfl | rfl | rfl | rfl | rfl | rfl | rfl | rfl | rfl | rfl | rfl | rfl | rfl | rfl<;>rfl
theorem ac3 (x:bh) (d:Int) (hd:¬ 60 < d) (hs:oy x.kind x.kids.length=true):ZB x d=Hi x d:=by
 cases x with
 | mk k t i ty ns ks =>
 have he:=A0 ks (d+1);have h1:∀ a,-1≤a→a≤60000→cj 0 a=a:=fun a h2 h3=>jf h2 h3;have jS:oy k ks.length=true:=hs;unfold Hi ZB ZA Sj Zz;rw [aq hd,aD jS];unfold bR;rw [ac2];have hp:=dW;rw [jf (hp _ _).1 (hp _ _).2];cases F8 (.mk k t i ty ns ks)
 ·simp [gJ,gf]
 cases okI (.mk k t i ty ns ks)
 ·simp [gJ,gf]
 cases Mr (.mk k t i ty ns ks)
 ·simp [gJ,gf]
 cases okN (.mk k t i ty ns ks)
 ·simp [gJ,gf]
 simp only [Bool.and_self,gj];show cj (if AZ k=true then cj 1 (rD ty (d+1)) else 1) (o7 ks (d+1))=cj 1 (cj (cj 0 (if AZ k=true then rD ty (d+1) else 0)) (o7 ks (d+1)));have jU:=vB ty (d+1)
 by_cases h:AZ k=true
 ·rw [aD h,aD h,jf jU.lo jU.hi,iw]
 ·rw [aq h,aq h,jf ak ak,jf he.1 he.2]
theorem VT (x:bh) {d:Int} (h:60 < d):Hi x d = -1:=by cases x;unfold Hi;rw [if_pos h,gJ]
theorem A6 (x:bh) (d:Int) (h:oy x.kind x.kids.length=false):Hi x d = -1:=by
 cases x with
 | mk k t i ty ns ks =>
 have h':oy k ks.length=false:=h;unfold Hi;have hb:(if oy k ks.length=true then (0:Int) else -1) = -1:=by rw [h'];rfl
 rw [hb,gJ,gf]
theorem VU (x:bh) (hk:∀ y∈x.kids,A4 y):A4 x:=by
 intro d B T Bs WS;obtain ⟨N,hn⟩:=aV B.length;refine cy.ZW (body:=kF f197 0) 218 func197 cP cP cP (cm rfl) fun cG=>?_;simp only [Ic,sm,fK,vS,cH,Ww,Pg,KX,KY,sy,aF,aZ,Al,Am,aS,eV] at cG;unfold fK;refine az.go 10 ?_;simp only [W,seval,gK,hn];change az _ _ _ _ _ _ ⟨B++[iy x],T⟩ _;refine az.after [_] _ (fun _:Unit=>(cN 218 [(1,.d (.int .i64 d)),(2,.ptr N 0),(5,.d (.int .i64 (nM x.kind)))],⟨B++[iy x],T⟩)) (fun _=>True) ?_ ?_
 case refine_2 =>
  intro K' gI;unfold nM at gI
  by_cases Ae:x.kind=15
  ·have Lt:=ah Ae;rw [aD Ae] at gI;refine az.oV 30 ?_;simp only [W,seval,gK,hn,iy,Lt];exact gI () trivial _ _ cx rfl
  ·have Lt:=af Ae;rw [aq Ae] at gI;refine az.oV 30 ?_;simp only [W,seval,gK,hn,iy,Lt];exact gI () trivial _ _ cx rfl
 rintro ⟨⟩ -;refine az.go 1 ?_;simp only [W,seval,gK];refine az.after [_] _ (fun _:Unit=>(cN 218 [(1,.d (.int .i64 d)),(2,.ptr N 0)],⟨B++[iy x],T⟩)) (fun _=>¬ 60 < d∧(x.kids.length:Int)≤nM x.kind) ?_ ?_
 case refine_2 =>
  intro K' gI
  by_cases hd:60 < d
  ·have e:=ah hd;rw [VT x hd];refine az.oV 30 ?_;simp only [W,seval,gK,hn,iy,e];refine bN gK (Left.box ?_);exact ⟨rfl,rfl⟩
  have e:=af hd
  by_cases hm:nM x.kind < (x.kids.length:Int)
  ·have em:=ah hm;rw [A6 x d (by unfold oy;rw [decide_eq_false (by omega:¬ (x.kids.length:Int)≤nM x.kind)];rfl)];refine az.oV 30 ?_;simp only [W,seval,gK,hn,iy,e,em];refine bN gK (Left.box ?_);exact ⟨rfl,rfl⟩
  ·have em:=af hm;refine az.oV 30 ?_;simp only [W,seval,gK,hn,iy,e,em];exact gI () ⟨hd,ak⟩ _ _ cx rfl
 rintro ⟨⟩ ⟨hd,hm⟩;have aou:nM x.kind≤30000:=by unfold nM;split<;>omega
 refine az.go 20 ?_;simp only [W,seval,gK,hn,iy,bL,bC,Nat.reduceMul];change az _ _ _ _ _ _ ⟨B++[iy x],T⟩ _;refine az.after [_] _ (fun _:Unit=>(cN 218 [(1,.d (.int .i64 d)),(2,.ptr N 0),(6,.d (.int .i64 1)),(7,.d (.int .i64 (x.kids.length:Int)))],⟨B++[iy x],T⟩)) (fun _=>oy x.kind x.kids.length=true) ?_ ?_
 ·rintro ⟨⟩ hs;rw [← ac3 x d hd hs];exact agN x hk ak d Bs ak N B T hn
 intro K' gI
 by_cases h1:x.kind < 1
 ·have e1:=ah h1;rw [A6 x d (by unfold oy;rw [decide_eq_false (by omega:¬ (1≤x.kind∧x.kind≤15)),Bool.and_false,Bool.false_and])];refine az.oV 40 ?_;simp only [W,seval,gK,hn,iy,e1];refine bN gK (Left.box ?_);exact ⟨rfl,rfl⟩
 have e1:=af h1
 by_cases h2:15 < x.kind
 ·have e2:=ah h2;rw [A6 x d (by unfold oy;rw [decide_eq_false (by omega:¬ (1≤x.kind∧x.kind≤15)),Bool.and_false,Bool.false_and])];refine az.oV 40 ?_;simp only [W,seval,gK,hn,iy,e1,e2];refine bN gK (Left.box ?_);exact ⟨rfl,rfl⟩
 have e2:=af h2;have hg:=VS x.kind x.kids.length ak ak;unfold aaL at hg;have hk0:(0:Int)≤x.kind:=ak;have agO:x.kind.toNat < 16:=ak
 have hs:oy x.kind x.kids.length=decide ((x.kids.length:Int)=P7 x.kind x.kids.length):=by
  unfold oy P7;rw [ah hm,ah (by omega:1≤x.kind∧x.kind≤15)]
  by_cases hw:iN x.kind = -1
  ·simp [hw]
  ·simp [hw]
 cases ew:decide ((x.kids.length:Int)=P7 x.kind x.kids.length)
 ·rw [ew] at hs;rw [A6 x d hs];refine az.oV 40 ?_;simp only [W,seval,gK,hn,iy,e1,e2,hg,hk0,agO,ew];refine bN gK (Left.box ?_);exact ⟨rfl,rfl⟩
 ·rw [ew] at hs;refine az.oV 40 ?_;simp only [W,seval,gK,hn,iy,e1,e2,hg,hk0,agO,ew];exact gI () hs _ _ cx rfl
mutual
theorem P8:∀ x:bh,A4 x
 | .mk _ _ _ _ _ ks=>VU _ (LW ks)
theorem LW:∀ (ks:List bh),∀ x∈ks,A4 x
 | [],_,h=>absurd h aT
 | y :: l,x,h=>by
  rcases bB.1 h with e | e
  ·rw [e];exact P8 y
  ·exact LW l x e
end
def F9:=KB func176 25
def LX:=KB func196 21
def B8:=KB func205 24
def LY:=KB func195 19
def oz (l:List bh) (d:Int):Int:=if l.length≤40 then o7 l d else -1
theorem LZ (l:List bh) (d:Int) (h:∀ x∈l,Fi x):ox (lD l d) (oz l d):=by
 have h1:=(Fj l d h).and (ox.allow (decide (l.length≤40)))
 have h2:cj (o7 l d) (if decide (l.length≤40)=true then 0 else -1)=oz l d:=by
  unfold oz;have:=A0 l d
  by_cases hl:l.length≤40
  ·rw [aD hl,ah hl,aD rfl,lP this.1 this.2]
  ·rw [aq hl,af hl,aq bH,gf]
 rw [h2] at h1;exact h1
theorem P9 (l:List bh) (d:Int) (Bs:0≤d) (hd:d≤61) (B:bQ) (T:eg):cy prog bI 176 [.d (.sl (l.map eL)),.d (.int .i64 d)] ⟨B,T⟩ (cF (.d (.int .i64 (oz l d))) ⟨B,T⟩):=by
 unfold oz
 by_cases Ya:l.length≤40
 case neg =>
  have e:decide ((40:Int) < (l.length:Int))=true:=ah ak;rw [aq Ya];refine F9.1.go 40 rfl fun cG=>?_;simp only [fH] at cG;simp only [W,seval,F9,e];refine bN F9 (Left.none ?_);exact ⟨rfl,rfl⟩
 have e:decide ((40:Int) < (l.length:Int))=false:=af ak;rw [aD Ya];refine F9.1.go 40 rfl fun cG=>?_;simp only [fH] at cG;simp only [W,seval,F9,e];refine az.dL (fun a:Nat × Int=>(cN 25 [(0,.d (.sl (l.map eL))),(1,.d (.int .i64 d)),(5,.d (.int .i64 a.2)),(6,.d (.int .i64 (a.1:Int)))],⟨B,T⟩)) (fun a=>a.1≤l.length∧-1≤a.2∧a.2≤60000∧cj a.2 (o7 (l.drop a.1) d)=o7 l d) (fun a=>l.length - a.1) (0,0) ⟨dM,bH,bH,jf (A0 l d).1 (A0 l d).2⟩ cx rfl ?_;rintro ⟨i,q⟩ ⟨h1,h2,h3,h4⟩ ih;dsimp only at h1 h2 h3 h4 ih ⊢
 by_cases bu:i < l.length
 case neg =>
  have e1:decide ((i:Int) < (l.length:Int))=false:=af ak;rw [ay ak] at h4;have h5:o7 [] d=0:=by unfold o7;rfl
  rw [h5,lP h2 h3] at h4;rw [← h4];refine goN ?_;simp only [W,seval,F9,e1];refine bN F9 (Left.none ?_);exact ⟨rfl,rfl⟩
 have e1:decide ((i:Int) < (l.length:Int))=true:=ah ak;have ie:=bE ((i:Int)+1) ak;have hg:(l.map eL)[i]? = some (eL l[i]):=by simp [bu]
 have hy:=P8 l[i] d B T Bs hd;have hle:=VO l[i] d;rw [Hj l i bu,← iw] at h4;obtain ⟨y,VP⟩:=aV (l[i]);rw [VP] at hg hy hle h4;rw [dF] at hg;unfold fK at hy;refine goN ?_;simp only [W,seval,F9,e1,hg,bu];refine aX hy ?_;refine az.go 20 ?_;simp only [W,seval,F9];refine aX (jQ q _ h3 hle.2 _ _) ?_;have Pb:=dW q (Hi y d);refine az.go 20 ?_;simp only [W,seval,F9,ie];exact ih (i+1,cj q (Hi y d)) ⟨gP,Pb.1,Pb.2,h4⟩ gP _ _ cx rfl
mutual
def tT:bh→Bool
 | .mk k _ _ _ _ ks=>qU ks && decide (k < 14)
def qU:List bh→Bool
 | []=>true
 | x :: l=>tT x && qU l
end
theorem pY {a b:Int} (h:0≤cj a b):0≤a∧0≤b:=by unfold cj at h;split at h<;>omega
mutual
theorem L0:∀ (x:bh) (d:Int),0≤Hi x d→tT x=oM x
 | .mk k _ _ _ _ ks,d,h=>by
  unfold Hi at h;have h2:=pY (pY h).2;have h3:=pY h2.2
  have hs:oy k ks.length=true:=by
   cases hb:oy k ks.length
   ·rw [hb] at h2;exact absurd h2.1 bH
   ·rfl
  have hk:1≤k∧k≤15:=by
   unfold oy at hs;simp only [aF,aZ] at hs;exact hs.1.2
  have hl:=Hl ks (d+1) h3.2;unfold tT oM;rw [hl];cases vf ks
  ·simp
  ·by_cases za:k < 14
   ·rw [ah za,ah (by omega:k ≠ 14),ah (by omega:k ≠ 15)];rfl
   ·rw [af za]
    by_cases h5:k=14
    ·rw [af (by omega:¬ k ≠ 14)];rfl
    ·rw [af (by omega:¬ k ≠ 15),gC,gC,bA]
theorem Hl:∀ (l:List bh) (d:Int),0≤o7 l d→qU l=vf l
 | [],_,_=>by unfold qU vf;rfl
 | x :: l,d,h=>by
  unfold o7 at h;have h6:=pY h;unfold qU vf;rw [L0 x d h6.1,Hl l d h6.2]
end
theorem L1 (ks:List bh) (i:Nat) (h:i < ks.length):qU (ks.drop i)=(tT ks[i] && qU (ks.drop (i+1))):=by
 rw [fj h]
 conv=>lhs;unfold qU
def zu (x:bh):Prop:=∀ (B:bQ) (T:eg),cy prog bI 196 [fK x] ⟨B,T⟩ (cF (.d (.bool (tT x))) ⟨B,T⟩)
theorem Ou (x:bh) (hk:∀ y∈x.kids,zu y):zu x:=by
 intro B T;obtain ⟨N,hn⟩:=aV B.length;have hx:tT x=(qU x.kids && decide (x.kind < 14)):=by cases x;rfl
 rw [hx];unfold fK;refine LX.1.go 40 rfl fun cG=>?_;simp only [fH] at cG;simp only [W,seval,LX,hn];change az _ _ _ _ _ _ ⟨B++[iy x],T⟩ _;refine az.dL (fun i:Nat=>(cN 21 [(1,.ptr N 0),(3,.d (.int .i64 (i:Int)))],⟨B++[iy x],T⟩)) (fun i=>i≤x.kids.length∧qU (x.kids.drop i)=qU x.kids) (fun i=>x.kids.length - i) 0 ⟨ak,rfl⟩ cx rfl ?_;rintro i ⟨h1,h2⟩ ih;dsimp only at h1 h2 ih ⊢
 by_cases bu:i < x.kids.length
 case neg =>
  have e1:decide ((i:Int) < (x.kids.length:Int))=false:=af ak;rw [ay ak] at h2;have h5:qU []=true:=by unfold qU;rfl
  rw [← h2,h5,bY];refine goN ?_;simp only [W,seval,LX,hn,iy,e1];refine bN LX (Left.box ?_);exact ⟨rfl,rfl⟩
 have e1:decide ((i:Int) < (x.kids.length:Int))=true:=ah ak;have ie:=bE ((i:Int)+1) ak;have hg:(x.kids.map eL)[i]? = some (eL x.kids[i]):=by simp [bu]
 have hy:=hk x.kids[i] (aH bu) (B++[iy x]) T;rw [L1 x.kids i bu] at h2;obtain ⟨y,VP⟩:=aV (x.kids[i]);rw [VP] at hg hy h2;rw [dF] at hg;unfold fK at hy;refine goN ?_;simp only [W,seval,LX,hn,e1,hg,bu,iy];refine aX hy ?_;cases hb:tT y
 ·rw [hb] at h2;rw [← h2];refine goN ?_;simp only [W,seval,LX,hn];refine bN LX (Left.box ?_);exact ⟨rfl,rfl⟩
 ·rw [hb] at h2;refine goN ?_;simp only [W,seval,LX,hn,ie];exact ih (i+1) ⟨ak,h2⟩ ak _ _ cx rfl
mutual
theorem A7:∀ x:bh,zu x
 | .mk _ _ _ _ _ ks=>Ou _ (Ho ks)
theorem Ho:∀ (ks:List bh),∀ x∈ks,zu x
 | [],_,h=>absurd h aT
 | y :: l,x,h=>by
  rcases bB.1 h with e | e
  ·rw [e];exact A7 y
  ·exact Ho l x e
end
theorem Hp:∀ (x:bh) (B:bQ) (T:eg),cy prog bI 205 [fK x] ⟨B,T⟩ (cF (.d (.bool (fY x))) ⟨B,T⟩)
 | .mk k t i ty ns ks,B,T=>by
  obtain ⟨N,hn⟩:=aV B.length;simp only [fK,bh.kind,bh.text,bh.int,bh.type,bh.names,bh.kids]
  by_cases h1:k=1
  ·have e1:=ah h1
   have hp:fY (.mk k t i ty ns ks)=true:=by
    unfold fY
    split
    ·rw [aq ak];exact e1
    ·exact e1
   rw [hp];refine gL B8 fun cG=>?_;simp only [fH] at cG;simp only [W,seval,B8,hn,e1];refine bN B8 (Left.box ?_);exact ⟨rfl,rfl⟩
  have e1:=af h1
  by_cases h9:k=9
  case neg =>
   have e9:=af h9
   have hp:fY (.mk k t i ty ns ks)=false:=by
    unfold fY
    split
    ·rw [aq h9];exact e1
    ·exact e1
   rw [hp];refine gL B8 fun cG=>?_;simp only [fH] at cG;simp only [W,seval,B8,hn,e1,e9];refine bN B8 (Left.box ?_);exact ⟨rfl,rfl⟩
  have e9:=ah h9
  by_cases hl:ks.length=1
  case neg =>
   have el:decide ((ks.length:Int)=1)=false:=af ak
   have hp:fY (.mk k t i ty ns ks)=false:=by
    unfold fY
    split
    ·rename_i y;exact absurd rfl hl
    ·exact e1
   rw [hp];refine gL B8 fun cG=>?_;simp only [fH] at cG;simp only [W,seval,B8,hn,e1,e9,el];refine bN B8 (Left.box ?_);exact ⟨rfl,rfl⟩
  match ks,hl with
  | [y],_ =>
   have ih:=Hp y
   have hp:fY (.mk k t i ty ns [y])=fY y:=by
    conv=>lhs;unfold fY
    exact aD h9
   have hyd:=dF y;unfold fK at ih;rw [hp];refine gL B8 fun cG=>?_;simp only [fH] at cG;simp only [W,seval,B8,hn,e1,e9,hyd];refine aX (ih _ _) ?_;refine goN ?_;simp only [W,seval,B8,hn];refine bN B8 (Left.box ?_);exact ⟨rfl,rfl⟩
theorem Sl (l:List bh) (B:bQ) (T:eg):cy prog bI 195 [.d (.sl (l.map eL))] ⟨B,T⟩ (cF (.d (.bool (l.all fY && decide (0 < l.length)))) ⟨B,T⟩):=by
 refine LY.1.go 40 rfl fun cG=>?_;simp only [fH] at cG;simp only [W,seval,LY];refine az.dL (fun i:Nat=>(cN 19 [(0,.d (.sl (l.map eL))),(3,.d (.int .i64 (i:Int)))],⟨B,T⟩)) (fun i=>i≤l.length∧(l.drop i).all fY=l.all fY) (fun i=>l.length - i) 0 ⟨ak,rfl⟩ cx rfl ?_;rintro i ⟨h1,h2⟩ ih;dsimp only at h1 h2 ih ⊢
 by_cases bu:i < l.length
 case neg =>
  have e1:decide ((i:Int) < (l.length:Int))=false:=af ak;have e2:decide ((0:Int) < (l.length:Int))=decide (0 < l.length):=by rw [cM];omega
  rw [ay ak] at h2;rw [← h2];refine goN ?_;simp only [W,seval,LY,e1,e2];refine bN LY (Left.none ?_);exact ⟨rfl,rfl⟩
 have e1:decide ((i:Int) < (l.length:Int))=true:=ah ak;have ie:=bE ((i:Int)+1) ak;have hg:(l.map eL)[i]? = some (eL l[i]):=by simp [bu]
 have hy:=Hp l[i] B T;rw [fj bu,iH] at h2;obtain ⟨y,VP⟩:=aV (l[i]);rw [VP] at hg hy h2;rw [dF] at hg;unfold fK at hy;refine goN ?_;simp only [W,seval,LY,e1,hg,bu];refine aX hy ?_;cases hb:fY y
 ·rw [hb] at h2;rw [← h2];refine goN ?_;simp only [W,seval,LY];refine bN LY (Left.none ?_);exact ⟨rfl,rfl⟩
 ·rw [hb] at h2;refine goN ?_;simp only [W,seval,LY,ie];exact ih (i+1) ⟨ak,h2⟩ ak _ _ cx rfl
def ko:=KB func175 189
def lZ:List bh→Bool | [x]=>tT x | _=>false
def th (k:Int) (ns:List (List UInt8)) (ls es:List bh) (nm lf bd ot cs:Bool):Bool :=
 if k=1 then nameOf ns && lf && decide (es.length=0) && bd && ot && cs
 else if k=2 then nm && (ls.all fY && decide (0 < ls.length)) && (decide (es.length=ls.length) || tJ es) && bd && ot && cs
 else if k=3 then nm && lf && lZ es && cs
 else if k=4 then nm && lf && lZ es && ot && cs
 else if k=5 then nm && lf && lZ es && bd
 else if k=6 then nm && lf && decide (0 < es.length) && bd && ot && cs
 else false
def xk (s:cL):Bool:=th s.kind s.names s.cq s.exprs (decide (s.names.length=0) && jn s.type) (decide (s.cq.length=0)) (decide (s.body.length=0)) (decide (s.iS.length=0)) (decide (s.cases.length=0))
theorem VV (s:cL) (nm lf bd ot cs:Bool) (N:Nat) (B:bQ) (T:eg) (hn:B.length=N) :
 az prog bI (N,T.length) 175 [.code (kF f175 14)] (cN 189 [(1,.ptr N 0),(3,.d (.bool nm)),(4,.d (.bool lf)),(5,.d (.bool bd)),(6,.d (.bool ot)),(7,.d (.bool cs)),(8,.d (.bool (decide (s.exprs.length=1))))]) ⟨B++[pO s],T⟩ (Ab.Left ⟨B,T⟩ (cF (.d (.bool (th s.kind s.names s.cq s.exprs nm lf bd ot cs))) ⟨B,T⟩)):=by
 obtain ⟨k,hk⟩:=aV s.kind;have Pk:decide ((s.exprs.length:Int)=0)=decide (s.exprs.length=0):=cM.2 ak;have X5:decide ((0:Int) < (s.exprs.length:Int))=decide (0 < s.exprs.length):=cM.2 ak;unfold pO;rw [hk];have hE2:∀ n:Nat,decide (n+1+1=1)=false:=fun n=>af ak;have hE3:∀ n:Nat,decide ((n:Int)+1+1=1)=false:=fun n=>af ak
 by_cases k1:k=1
 ·subst k1;have hs:th 1 s.names s.cq s.exprs nm lf bd ot cs=(nameOf s.names && lf && decide (s.exprs.length=0) && bd && ot && cs):=rfl;rw [hs];generalize decide (s.exprs.length=1)=on;generalize decide (s.exprs.length=0)=no at Pk ⊢;rcases hN:s.names with _ | ⟨x,_ | ⟨y,l⟩⟩
  ·rw [show nameOf []=false from rfl];refine goN ?_;simp only [W,seval,ko,hn,Pk];refine az.ret func175 rfl (Left.box ?_);exact j9
   skip
  ·rw [show nameOf [x]=aY x from rfl];refine goN ?_;simp only [W,seval,ko,hn,Pk,cw,eB,bX,gN];refine aX (sD x _ _) ?_;generalize aY x=q;refine goN ?_;simp only [W,seval,ko,hn,Pk]
   repeat' ((first | refine cU (fun h=>?_) (fun h=>?_) | refine cT (fun h=>?_) (fun h=>?_))<;>simp only [W,seval,ko,h,hn,Pk])
   all_goals
    refine az.ret func175 rfl (Left.box ?_);exact j9
    skip
  ·rw [show nameOf (x :: y :: l)=false from rfl];refine goN ?_;simp only [W,seval,ko,hn,Pk,hE3,aP,eV];refine az.ret func175 rfl (Left.box ?_);exact j9
   skip
 by_cases k2:k=2
 ·subst k2;have hs:th 2 s.names s.cq s.exprs nm lf bd ot cs=(nm && (s.cq.all fY && decide (0 < s.cq.length)) && (decide (s.exprs.length=s.cq.length) || tJ s.exprs) && bd && ot && cs):=rfl;rw [hs];have hw:=tS s.exprs.length s.cq.length;cases nm
  ·refine goN ?_;simp only [W,seval,ko,hn];refine az.ret func175 rfl (Left.box ?_);exact j9
   skip
  refine goN ?_;simp only [W,seval,ko,hn];refine aX (Sl s.cq _ _) ?_;generalize (s.cq.all fY && decide (0 < s.cq.length))=q;generalize decide (s.exprs.length=s.cq.length)=w at hw ⊢;clear Pk X5;cases w
  all_goals
   rcases hE:s.exprs with _ | ⟨x,_ | ⟨y,l⟩⟩
   ·rw [hE] at hw;simp only [aW,aP,bf,dB,dw,cV,Int.zero_add] at hw;rw [show tJ []=false from rfl];refine goN ?_;simp only [W,seval,ko,hn,hw]
    repeat' ((first | refine cU (fun h=>?_) (fun h=>?_) | refine cT (fun h=>?_) (fun h=>?_))<;>simp only [W,seval,ko,h,hn,hw])
    all_goals
     refine az.ret func175 rfl (Left.box ?_);exact j9
     skip
   ·rw [hE] at hw;simp only [aW,aP,bf,dB,dw,cV,Int.zero_add] at hw;rw [show tJ [x]=decide (x.kind=7) from rfl];refine goN ?_;simp only [W,seval,ko,hn,hw,dF]
    repeat' ((first | refine cU (fun h=>?_) (fun h=>?_) | refine cT (fun h=>?_) (fun h=>?_))<;>simp only [W,seval,ko,h,hn,hw,dF])
    all_goals
     refine az.ret func175 rfl (Left.box ?_);exact j9
     skip
   ·rw [hE] at hw;simp only [aW,aP,bf,dB,dw,cV,Int.zero_add] at hw;rw [show tJ (x :: y :: l)=false from rfl];refine goN ?_;simp only [W,seval,ko,hn,hw,hE2]
    repeat' ((first | refine cU (fun h=>?_) (fun h=>?_) | refine cT (fun h=>?_) (fun h=>?_))<;>simp only [W,seval,ko,h,hn,hw,hE2])
    all_goals
     refine az.ret func175 rfl (Left.box ?_);exact j9
     skip
 by_cases k3:k=3
 ·subst k3;have hs:th 3 s.names s.cq s.exprs nm lf bd ot cs=(nm && lf && lZ s.exprs && cs):=rfl;rw [hs];clear Pk X5;rcases hE:s.exprs with _ | ⟨x,_ | ⟨y,l⟩⟩
  ·rw [show lZ []=false from rfl];refine goN ?_;simp only [W,seval,ko,hn]
   repeat' ((first | refine cU (fun h=>?_) (fun h=>?_) | refine cT (fun h=>?_) (fun h=>?_))<;>simp only [W,seval,ko,h,hn])
   all_goals
    refine az.ret func175 rfl (Left.box ?_);exact j9
    skip
  ·rw [show lZ [x]=tT x from rfl];have hd:=A7 x;unfold zu fK at hd;cases nm
   ·refine goN ?_;simp only [W,seval,ko,hn];refine az.ret func175 rfl (Left.box ?_);exact j9
    skip
   cases lf
   ·refine goN ?_;simp only [W,seval,ko,hn];refine az.ret func175 rfl (Left.box ?_);exact j9
    skip
   refine goN ?_;simp only [W,seval,ko,hn,dF];refine aX (hd _ _) ?_;generalize tT x=q;refine goN ?_;simp only [W,seval,ko,hn]
   repeat' ((first | refine cU (fun h=>?_) (fun h=>?_) | refine cT (fun h=>?_) (fun h=>?_))<;>simp only [W,seval,ko,h,hn])
   all_goals
    refine az.ret func175 rfl (Left.box ?_);exact j9
    skip
  ·rw [show lZ (x :: y :: l)=false from rfl];refine goN ?_;simp only [W,seval,ko,hn,hE2]
   repeat' ((first | refine cU (fun h=>?_) (fun h=>?_) | refine cT (fun h=>?_) (fun h=>?_))<;>simp only [W,seval,ko,h,hn,hE2])
   all_goals
    refine az.ret func175 rfl (Left.box ?_);exact j9
    skip
 by_cases k4:k=4
 ·subst k4;have hs:th 4 s.names s.cq s.exprs nm lf bd ot cs=(nm && lf && lZ s.exprs && ot && cs):=rfl;rw [hs];clear Pk X5;rcases hE:s.exprs with _ | ⟨x,_ | ⟨y,l⟩⟩
  ·rw [show lZ []=false from rfl];refine goN ?_;simp only [W,seval,ko,hn]
   repeat' ((first | refine cU (fun h=>?_) (fun h=>?_) | refine cT (fun h=>?_) (fun h=>?_))<;>simp only [W,seval,ko,h,hn])
   all_goals
    refine az.ret func175 rfl (Left.box ?_);exact j9
    skip
  ·rw [show lZ [x]=tT x from rfl];have hd:=A7 x;unfold zu fK at hd;cases nm
   ·refine goN ?_;simp only [W,seval,ko,hn];refine az.ret func175 rfl (Left.box ?_);exact j9
    skip
   cases lf
   ·refine goN ?_;simp only [W,seval,ko,hn];refine az.ret func175 rfl (Left.box ?_);exact j9
    skip
   refine goN ?_;simp only [W,seval,ko,hn,dF];refine aX (hd _ _) ?_;generalize tT x=q;refine goN ?_;simp only [W,seval,ko,hn]
   repeat' ((first | refine cU (fun h=>?_) (fun h=>?_) | refine cT (fun h=>?_) (fun h=>?_))<;>simp only [W,seval,ko,h,hn])
   all_goals
    refine az.ret func175 rfl (Left.box ?_);exact j9
    skip
  ·rw [show lZ (x :: y :: l)=false from rfl];refine goN ?_;simp only [W,seval,ko,hn,hE2]
   repeat' ((first | refine cU (fun h=>?_) (fun h=>?_) | refine cT (fun h=>?_) (fun h=>?_))<;>simp only [W,seval,ko,h,hn,hE2])
   all_goals
    refine az.ret func175 rfl (Left.box ?_);exact j9
    skip
 by_cases k5:k=5
 ·subst k5;have hs:th 5 s.names s.cq s.exprs nm lf bd ot cs=(nm && lf && lZ s.exprs && bd):=rfl;rw [hs];clear Pk X5;rcases hE:s.exprs with _ | ⟨x,_ | ⟨y,l⟩⟩
  ·rw [show lZ []=false from rfl];refine goN ?_;simp only [W,seval,ko,hn]
   repeat' ((first | refine cU (fun h=>?_) (fun h=>?_) | refine cT (fun h=>?_) (fun h=>?_))<;>simp only [W,seval,ko,h,hn])
   all_goals
    refine az.ret func175 rfl (Left.box ?_);exact j9
    skip
  ·rw [show lZ [x]=tT x from rfl];have hd:=A7 x;unfold zu fK at hd;cases nm
   ·refine goN ?_;simp only [W,seval,ko,hn];refine az.ret func175 rfl (Left.box ?_);exact j9
    skip
   cases lf
   ·refine goN ?_;simp only [W,seval,ko,hn];refine az.ret func175 rfl (Left.box ?_);exact j9
    skip
   refine goN ?_;simp only [W,seval,ko,hn,dF];refine aX (hd _ _) ?_;generalize tT x=q;refine goN ?_;simp only [W,seval,ko,hn]
   repeat' ((first | refine cU (fun h=>?_) (fun h=>?_) | refine cT (fun h=>?_) (fun h=>?_))<;>simp only [W,seval,ko,h,hn])
   all_goals
    refine az.ret func175 rfl (Left.box ?_);exact j9
    skip
  ·rw [show lZ (x :: y :: l)=false from rfl];refine goN ?_;simp only [W,seval,ko,hn,hE2]
   repeat' ((first | refine cU (fun h=>?_) (fun h=>?_) | refine cT (fun h=>?_) (fun h=>?_))<;>simp only [W,seval,ko,h,hn,hE2])
   all_goals
    refine az.ret func175 rfl (Left.box ?_);exact j9
    skip
 by_cases k6:k=6
 ·subst k6;have hs:th 6 s.names s.cq s.exprs nm lf bd ot cs=(nm && lf && decide (0 < s.exprs.length) && bd && ot && cs):=rfl;rw [hs];generalize decide (s.exprs.length=1)=on;generalize decide (0 < s.exprs.length)=w at X5 ⊢;refine goN ?_;simp only [W,seval,ko,hn,X5]
  repeat' ((first | refine cU (fun h=>?_) (fun h=>?_) | refine cT (fun h=>?_) (fun h=>?_))<;>simp only [W,seval,ko,h,hn,X5])
  all_goals
   refine az.ret func175 rfl (Left.box ?_);exact j9
   skip
 have hs:th k s.names s.cq s.exprs nm lf bd ot cs=false:=by
  unfold th;rw [aq k1,aq k2,aq k3,aq k4,aq k5,aq k6]
 rw [hs];have e1:=af k1;have e2:=af k2;have e3:=af k3;have e4:=af k4;have e5:=af k5;have e6:=af k6;refine goN ?_;simp only [W,seval,ko,hn,e1,e2,e3,e4,e5,e6];refine az.ret func175 rfl (Left.box ?_);exact j9
 skip
theorem VW (s:cL) (B:bQ) (T:eg):cy prog bI 175 [vS s] ⟨B,T⟩ (cF (.d (.bool (xk s))) ⟨B,T⟩):=by
 obtain ⟨N,hn⟩:=aV B.length;have hnz:=IS s.type (B++[pO s]) T;have z1:=tS s.names.length 0;have z2:=tS s.cq.length 0;have z3:=tS s.body.length 0;have z4:=tS s.iS.length 0;have z5:=tS s.cases.length 0;have z6:=tS s.exprs.length 1;simp only [cV,dw,Int.ofNat_zero,Int.cast_ofNat_Int] at z1 z2 z3 z4 z5 z6;unfold xk;unfold vS cH at *;refine ko.1.go 6 rfl fun _=>?_;simp only [W,seval,ko,hn];change az _ _ _ _ _ _ ⟨B++[pO s],T⟩ _;refine az.after [_] _ (fun _:Unit=>(cN 189 [(1,.ptr N 0),(3,.d (.bool (decide (s.names.length=0) && jn s.type)))],⟨B++[pO s],T⟩)) (fun _=>True) ?_ ?_
 ·rintro ⟨⟩ -;have hsw:=VV s (decide (s.names.length=0) && jn s.type) (decide (s.cq.length=0)) (decide (s.body.length=0)) (decide (s.iS.length=0)) (decide (s.cases.length=0)) N B T hn;generalize (decide (s.names.length=0) && jn s.type)=nm at hsw ⊢;refine az.go 40 ?_;simp only [W,seval,ko,hn,pO,z2,z3,z4,z5,z6];unfold pO at hsw;exact az.ng cx hsw
 intro K' gI;cases en:decide (s.names.length=0)
 ·rw [en] at z1 gI;refine jJ ?_;simp only [W,seval,ko,hn,pO,z1];unfold pO at gI;exact gI () trivial _ _ cx rfl
 ·rw [en] at z1 gI;refine jJ ?_;simp only [W,seval,ko,hn,pO,z1];refine aX hnz ?_;refine jJ ?_;simp only [W,seval,ko,hn,pO,z1];unfold pO at gI;exact gI () trivial _ _ cx rfl
def A8:Nat→cL→Prop
 | 0,_=>True
 | n+1,s=>(∀ x∈s.cq,Fi x)∧(∀ x∈s.exprs,Fi x)∧(∀ x∈s.body,A8 n x)∧(∀ x∈s.iS,A8 n x)∧∀ c∈s.cases,∀ x∈c.body,A8 n x
def zM (b:Bool):Int:=if b=true then 0 else -1
def A9 (R:cL→Int→Int) (d:Int):List Int→List iB→Int
 | _,[]=>0
 | seen,c :: l=>cj (if 60 < d+1 then -1 else 1) (cj (zM (!seen.contains c.int)) (cj (jj (fun s=>R s (d+2)) c.body) (A9 R d (seen++[c.int]) l)))
def L2 (R:cL→Int→Int) (s:cL) (d:Int):Int :=
 cj (if s.kind=1 then rD s.type (d+1) else 0) (cj (A9 R d [] s.cases) (cj (oz s.cq (d+1)) (cj (oz s.exprs (d+1)) (cj (jj (fun x=>R x (d+1)) s.body) (jj (fun x=>R x (d+1)) s.iS)))))
def sE:Nat→cL→Int→Int
 | 0,_,_=>-1
 | n+1,s,d=>cj (if 60 < d then -1 else 1) (cj (zM (xk s && decide (s.cases.length≤40))) (L2 (sE n) s d))
theorem Qa {S:cL→Int→Int→Bool × Int} {R:cL→Int→Int} (d:Int):∀ (l:List iB) (seen:List Int),(∀ c∈l,∀ s∈c.body,∀ d,ox (S s d) (R s d))→ox (xY S d seen l) (A9 R d seen l)
 | [],seen,_=>by
  unfold A9;exact (ox.allow true).congr fun p _ _=>by unfold xY;exact ⟨rfl,fun _=>rfl⟩
 | c :: l,seen,h=>by
  have h1:=(ox.part (d+1)).and ((ox.allow (!seen.contains c.int)).and ((ox.row (f:=fun s=>S s (d+2)) (c:=fun s=>R s (d+2)) c.body fun s hs=>h c aI s hs (d+2)).and (Qa d l (seen++[c.int]) fun c' hc=>h c' (aU _ hc))));unfold A9 zM;exact h1
theorem Sm (es:List bh) (d:Int) (h:0≤oz es d):lZ es=nT es:=by
 have h2:0≤o7 es d:=by unfold oz at h;split at h<;>omega
 rcases es with _ | ⟨x,_ | ⟨y,l⟩⟩
 ·rfl
 ·unfold o7 at h2;exact L0 x d (pY h2).1
 ·rfl
theorem VX (s:cL) (d:Int) (h:0≤oz s.exprs d):xk s=kY s:=by
 have hh:=Sm s.exprs d h
 have e (n:Nat):(!decide ((0:Int) < (n:Int)))=decide (n=0):=by
  rw [dQ,iV,ff,bz];omega
 rw [GC];unfold xk th sizedB;rw [hh];simp only [e,pP]
 repeat' split
 all_goals first | rfl | ac_rfl
theorem ZD {a b:Bool} {c X:Int} (h:0≤X→a=b):cj c (cj (zM a) X)=cj c (cj (zM b) X):=by
 by_cases hx:0≤X
 ·rw [h hx]
 ·have:∀ y,cj y X = -1:=fun y=>by unfold cj;rw [if_pos (.inr (.inl ak))]
  rw [this,this]
theorem VY:∀ (n:Nat) (s:cL) (d:Int),A8 n s→ox (nC n s d) (sE n s d)
 | 0,s,d,_=>ox.bad fun _ _ _=>rfl
 | n+1,s,d,hp=>by
  unfold A8 at hp;obtain ⟨p1,p2,p3,p4,p5⟩:=hp;have ih:=VY n
  have jU:ox (if s.kind=1 then fun p=>jM aY s.type (d+1) p else gu true) (if s.kind=1 then rD s.type (d+1) else 0):=by
   by_cases hk:s.kind=1
   ·rw [aD hk,aD hk];exact vB s.type (d+1)
   ·rw [aq hk,aq hk];exact ox.allow true
  have h:=(ox.part d).and ((ox.allow (kY s && decide (s.cases.length≤40))).and (jU.and ((Qa (S:=nC n) (R:=sE n) d s.cases [] fun c hc x hx d=>ih x d (p5 c hc x hx)).and ((LZ s.cq (d+1) p1).and ((LZ s.exprs (d+1) p2).and ((ox.row (f:=fun x=>nC n x (d+1)) (c:=fun x=>sE n x (d+1)) s.body fun x hx=>ih x (d+1) (p3 x hx)).and (ox.row (f:=fun x=>nC n x (d+1)) (c:=fun x=>sE n x (d+1)) s.iS fun x hx=>ih x (d+1) (p4 x hx))))))))
  have e:sE (n+1) s d=cj (if 60 < d then -1 else 1) (cj (zM (kY s && decide (s.cases.length≤40))) (L2 (sE n) s d)):=by
   refine ZD fun hx=>?_;unfold L2 at hx;rw [VX s (d+1) (pY (pY (pY (pY hx).2).2).2).1]
  rw [e];exact h
def L3 (mC:Nat) (l:List ep):Int:=cj (jj (fun x:ep=>cj 1 (rD x.type 0)) l) (zM (decide (l.length≤mC) && jN l.length (l.map ep.name)))
def SK (s:eZ):Int:=cj 1 (cj (zM (aY s.name)) (L3 60 s.fields))
def C9 (n:Nat) (f:fL):Int:=cj 1 (cj (zM (aY f.name)) (cj (L3 20 f.params) (cj (zM (decide (1≤f.results.length) && decide (f.results.length≤20))) (cj (jj (fun t=>rD t 0) f.results) (jj (fun s=>sE n s 0) f.body)))))
def prR (n:Nat) (p:rU):Int:=cj (jj SK p.structs) (jj (C9 n) p.funcs)
theorem VZ (mC:Nat) (l:List ep):ox (Mk mC l) (L3 mC l) :=
 (ox.row (f:=fun x:ep=>dR (fT 0) (fun p=>jM aY x.type 0 p)) (c:=fun x:ep=>cj 1 (rD x.type 0)) l fun x _=>(ox.part 0).and (vB x.type 0)).and (ox.allow _)
theorem ac4 (s:eZ):ox (Ml s) (SK s):=(ox.part 0).and ((ox.allow (aY s.name)).and (VZ 60 s.fields))
theorem ac5 (n:Nat) (f:fL) (h:∀ x∈f.body,A8 n x):ox (KR n f) (C9 n f) :=
 (ox.part 0).and ((ox.allow (aY f.name)).and ((VZ 20 f.params).and ((ox.allow _).and ((ox.row (f:=fun t p=>jM aY t 0 p) (c:=fun t=>rD t 0) f.results fun t _=>vB t 0).and (ox.row (f:=fun s=>nC n s 0) (c:=fun s=>sE n s 0) f.body fun s hs=>VY n s 0 (h s hs))))))
theorem ac6 (n:Nat) (p:rU) (h:∀ f∈p.funcs,∀ x∈f.body,A8 n x):(KS n p 0).1=decide (0≤prR n p):=by
 have ha:ox (KS n p) (prR n p):=(ox.row p.structs fun s _=>ac4 s).and (ox.row p.funcs fun f hf=>ac5 n f (h f hf));have h1:=ha.ok 0 (dV _) ak;have h2:=ha.hi;rw [dQ,h1,bz];omega
def mQ:=KB func143 97
def Ov:=KB func119 22
theorem ac7:∀ (n:Nat) (s:cL) (d:Int),-1≤sE n s d∧sE n s d≤60000
 | 0,_,_=>by unfold sE;omega
 | n+1,s,d=>by unfold sE;exact dW _ _
theorem sn {α:Type} (f:α→Int):∀ l:List α,-1≤jj f l∧jj f l≤60000
 | []=>by unfold jj;omega
 | x :: l=>by unfold jj;exact dW _ _
theorem uR {α:Type} (f:α→Int) (l:List α) (i:Nat) (h:i < l.length):jj f (l.drop i)=cj (f l[i]) (jj f (l.drop (i+1))):=by
 rw [fj h]
 conv=>lhs;unfold jj
theorem Qb (l:List bh) (d:Int):-1≤oz l d∧oz l d≤60000:=by
 have:=A0 l d;unfold oz
 split<;>omega
def Ba (n:Nat) (s:cL):Prop:=∀ (d:Int) (B:bQ) (T:eg),0≤d→d≤62→cy prog bI 143 [vS s,.d (.int .i64 d)] ⟨B,T⟩ (cF (.d (.int .i64 (sE n s d))) ⟨B,T⟩)
theorem Du (n:Nat) (l:List cL) (hl:∀ s∈l,Ba n s) (d:Int) (Bs:0≤d) (hd:d≤62) (B:bQ) (T:eg):cy prog bI 119 [.d (.sl (l.map gE)),.d (.int .i64 d)] ⟨B,T⟩ (cF (.d (.int .i64 (jj (fun s=>sE n s d) l))) ⟨B,T⟩):=by
 refine Ov.1.go 40 rfl fun cG=>?_;simp only [fH] at cG;simp only [W,seval,Ov];refine az.dL (fun a:Nat × Int=>(cN 22 [(0,.d (.sl (l.map gE))),(1,.d (.int .i64 d)),(5,.d (.int .i64 a.2)),(6,.d (.int .i64 (a.1:Int)))],⟨B,T⟩)) (fun a=>a.1≤l.length∧-1≤a.2∧a.2≤60000∧cj a.2 (jj (fun s=>sE n s d) (l.drop a.1))=jj (fun s=>sE n s d) l) (fun a=>l.length - a.1) (0,0) ⟨dM,bH,bH,jf (sn _ l).1 (sn _ l).2⟩ cx rfl ?_;rintro ⟨i,q⟩ ⟨h1,h2,h3,h4⟩ ih;dsimp only at h1 h2 h3 h4 ih ⊢
 by_cases bu:i < l.length
 case neg =>
  have e1:decide ((i:Int) < (l.length:Int))=false:=af ak;rw [ay ak] at h4;have h5:jj (fun s=>sE n s d) []=0:=rfl;rw [h5,lP h2 h3] at h4;rw [← h4];refine goN ?_;simp only [W,seval,Ov,e1];refine bN Ov (Left.none ?_);exact ⟨rfl,rfl⟩
 have e1:decide ((i:Int) < (l.length:Int))=true:=ah ak;have ie:=bE ((i:Int)+1) ak;have hg:(l.map gE)[i]? = some (gE l[i]):=by simp [bu]
 have hy:=hl l[i] (aH bu) d B T Bs hd;have hle:=ac7 n l[i] d;rw [uR _ l i bu,← iw] at h4;obtain ⟨y,VP⟩:=aV (l[i]);rw [VP] at hg hy hle h4;rw [iZ] at hg;unfold vS at hy;refine goN ?_;simp only [W,seval,Ov,e1,hg,bu];refine aX hy ?_;refine az.go 20 ?_;simp only [W,seval,Ov];refine aX (jQ q _ h3 hle.2 _ _) ?_;have Pb:=dW q (sE n y d);refine az.go 20 ?_;simp only [W,seval,Ov,ie];exact ih (i+1,cj q (sE n y d)) ⟨gP,Pb.1,Pb.2,h4⟩ gP _ _ cx rfl
def L4 (n:Nat) (s:cL) (d:Int):Int:=cj (oz s.cq (d+1)) (cj (oz s.exprs (d+1)) (cj (jj (fun x=>sE n x (d+1)) s.body) (jj (fun x=>sE n x (d+1)) s.iS)))
theorem agP (n:Nat) (s:cL) (h1:∀ x∈s.body,Ba n x) (h2:∀ x∈s.iS,Ba n x) (d q:Int) (Bs:0≤d) (hd:d≤60) (Ux:q≤60000) (N:Nat) (B:bQ) (T:eg) (hn:B.length=N) :
 az prog bI (N,T.length) 143 [.code (kF f143 62)] (cN 97 [(1,.d (.int .i64 d)),(2,.ptr N 0),(5,.d (.int .i64 q))]) ⟨B++[pO s],T⟩ (Ab.Left ⟨B,T⟩ (cF (.d (.int .i64 (cj q (L4 n s d)))) ⟨B,T⟩)):=by
 have hw:=bE (d+1) ak;have l1:=Qb s.cq (d+1);have l2:=Qb s.exprs (d+1);have l3:=sn (fun x=>sE n x (d+1)) s.body;have l4:=sn (fun x=>sE n x (d+1)) s.iS;have l5:=dW (oz s.cq (d+1)) (oz s.exprs (d+1));have l6:=dW (jj (fun x=>sE n x (d+1)) s.body) (jj (fun x=>sE n x (d+1)) s.iS);have l7:=dW q (cj (oz s.cq (d+1)) (oz s.exprs (d+1)))
 have nQ:cj q (L4 n s d)=cj (cj q (cj (oz s.cq (d+1)) (oz s.exprs (d+1)))) (cj (jj (fun x=>sE n x (d+1)) s.body) (jj (fun x=>sE n x (d+1)) s.iS)):=by
  unfold L4;simp only [iw]
 rw [nQ];unfold pO;refine az.go 9 ?_;simp only [W,seval,mQ];refine az.draw cP cP (lA 60 _ _ ?_);simp only [W,seval,mQ,hn,hw];refine ⟨_,P9 s.cq (d+1) ak ak _ _,?_⟩;refine ⟨_,P9 s.exprs (d+1) ak ak _ _,?_⟩;refine ⟨_,jQ _ _ l1.2 l2.2 _ _,?_⟩;refine ⟨_,jQ _ _ Ux l5.2 _ _,?_⟩;refine az.go 9 ?_;simp only [W,seval,mQ];refine az.draw cP cP (lA 60 _ _ ?_);simp only [W,seval,mQ,hn,hw];refine ⟨_,Du n s.body h1 (d+1) ak ak _ _,?_⟩;refine ⟨_,Du n s.iS h2 (d+1) ak ak _ _,?_⟩;refine ⟨_,jQ _ _ l3.2 l4.2 _ _,?_⟩;refine ⟨_,jQ _ _ l7.2 l6.2 _ _,?_⟩;refine az.go 9 ?_;simp only [W,seval,mQ];refine bN mQ (Left.box ?_);exact ⟨rfl,rfl⟩
theorem ZE (q b:Int):cj q (cj (-1) b) = -1:=by rw [gJ,gf]
theorem agQ (n:Nat) (s:cL) (h1:∀ x∈s.body,Ba n x) (h2:∀ x∈s.iS,Ba n x) (h3:∀ c∈s.cases,∀ x∈c.body,Ba n x) (agR:s.cases.length≤40) (d q0:Int) (Bs:0≤d) (hd:d≤60) (W8:-1≤q0) (Ux:q0≤60000) (N:Nat) (B:bQ) (T:eg) (hn:B.length=N) :
 az prog bI (N,T.length) 143 [.code (kF f143 18)] (cN 97 [(1,.d (.int .i64 d)),(2,.ptr N 0),(5,.d (.int .i64 q0))]) ⟨B++[pO s],T⟩ (Ab.Left ⟨B,T⟩ (cF (.d (.int .i64 (cj (cj q0 (A9 (sE n) d [] s.cases)) (L4 n s d)))) ⟨B,T⟩)):=by
 have Bm:=bE (d+1) ak;have JC:=bE (d+2) ak;refine az.go 1 ?_;simp only [W,seval,mQ];refine az.after [_] _ (fun a:Int=>(cN 97 [(1,.d (.int .i64 d)),(2,.ptr N 0),(5,.d (.int .i64 a))],⟨B++[pO s],T⟩)) (fun a=>a=cj q0 (A9 (sE n) d [] s.cases)) ?_ ?_
 ·rintro a rfl;exact agP n s h1 h2 d _ Bs hd (dW _ _).2 N B T hn
 intro K' gI;unfold pO at gI ⊢;refine az.oV 6 ?_;simp only [W,seval,mQ];refine az.dL (fun a:Nat × Int=>(cN 97 [(1,.d (.int .i64 d)),(2,.ptr N 0),(5,.d (.int .i64 a.2)),(6,.d (.int .i64 (a.1:Int)))],⟨B++[pO s],T⟩)) (fun a=>a.1≤s.cases.length∧-1≤a.2∧a.2≤60000∧cj a.2 (A9 (sE n) d ((s.cases.take a.1).map iB.int) (s.cases.drop a.1))=cj q0 (A9 (sE n) d [] s.cases)) (fun a=>s.cases.length - a.1) (0,q0) ⟨dM,W8,Ux,rfl⟩ cx rfl ?_;rintro ⟨i,q⟩ ⟨g1,g2,g3,g4⟩ ih;dsimp only at g1 g2 g3 g4 ih ⊢;unfold pO at ih ⊢
 by_cases bu:i < s.cases.length
 case neg =>
  have e1:decide ((i:Int) < (s.cases.length:Int))=false:=af ak;rw [ay ak] at g4;have h5:∀ l,A9 (sE n) d l []=0:=fun l=>by unfold A9;rfl
  rw [h5,lP g2 g3] at g4;refine az.oV (k:=[_,_,_]) 60 ?_;simp only [W,seval,mQ,hn,e1];exact gI q g4 _ _ cx rfl
 have e1:decide ((i:Int) < (s.cases.length:Int))=true:=ah ak;have ie:=bE ((i:Int)+1) ak;rw [fj bu] at g4;have hgi:(s.cases.map lV)[i]? = some [.int .u64 s.cases[i].int,.sl (s.cases[i].body.map gE)]:=by simp [bu,lN]
 obtain ⟨c,hc⟩:=aV (s.cases[i]);have DD:c∈s.cases:=hc ▸ aH bu;have akv:∀ (seen:List Int) (l:List iB),A9 (sE n) d seen (c :: l)=cj (if 60 < d+1 then -1 else 1) (cj (zM (!seen.contains c.int)) (cj (jj (fun s=>sE n s (d+2)) c.body) (A9 (sE n) d (seen++[c.int]) l))):=fun _ _=>rfl;rw [hc] at hgi;rw [hc,akv] at g4
 by_cases WS:60 < d+1
 ·have e2:=ah WS;rw [aD WS,ZE] at g4;rw [← g4,gJ];refine az.oV (k:=[_,_]) 60 ?_;simp only [W,seval,mQ,hn,e1,Bm,e2];refine bN mQ (Left.box ?_);exact ⟨rfl,rfl⟩
 have e2:=af WS;rw [aq WS] at g4;refine az.oV (k:=[_,_]) 23 ?_;simp only [W,seval,mQ,hn,e1,Bm,e2];refine az.after [_] _ (fun _:Unit=>(cN 97 [(1,.d (.int .i64 d)),(2,.ptr N 0),(5,.d (.int .i64 q)),(6,.d (.int .i64 (i:Int)))],⟨B++[pO s],T⟩)) (fun _=>((s.cases.take i).map iB.int).contains c.int=false) ?_ ?_
 ·rintro ⟨⟩ hs;rw [hs] at g4;have hz:zM (!false)=0:=rfl;have lS:=sn (fun s=>sE n s (d+2)) c.body;have lp:=dW 1 (jj (fun s=>sE n s (d+2)) c.body);have lq:=dW q (cj 1 (jj (fun s=>sE n s (d+2)) c.body))
  have ht:((s.cases.take (i+1)).map iB.int)=(s.cases.take i).map iB.int++[c.int]:=by
   rw [bF bu,hc];simp
  rw [hz,jf (dW _ _).1 (dW _ _).2,← iw 1,← iw q,← ht] at g4;have kz:=Du n c.body (h3 c DD) (d+2) ak ak (B++[pO s]) T;unfold pO at kz ⊢;refine az.oV (k:=[_]) 20 ?_;simp only [W,seval,mQ,hn,JC,hgi,bu];refine aX kz ?_;refine az.oV (k:=[_]) 2 ?_;simp only [W,seval,mQ,hn];refine aX (jQ 1 _ ak lS.2 _ _) ?_;refine az.oV (k:=[_]) 2 ?_;simp only [W,seval,mQ,hn];refine aX (jQ q _ g3 lp.2 _ _) ?_;refine az.oV (k:=[_,_,_]) 12 ?_;simp only [W,seval,mQ,hn,ie];exact ih (i+1,cj q (cj 1 (jj (fun s=>sE n s (d+2)) c.body))) ⟨gP,lq.1,lq.2,g4⟩ gP _ _ cx rfl
 intro K2 E3;unfold pO at E3;refine az.oV (k:=[_]) 6 ?_;simp only [W,seval,mQ];refine az.dL (fun j:Nat=>(cN 97 [(1,.d (.int .i64 d)),(2,.ptr N 0),(5,.d (.int .i64 q)),(6,.d (.int .i64 (i:Int))),(7,.d (.int .i64 (j:Int)))],⟨B++[pO s],T⟩)) (fun j=>j≤i∧((s.cases.take j).map iB.int).contains c.int=false) (fun j=>i - j) 0 ⟨ak,rfl⟩ cx rfl ?_;rintro j ⟨m1,m2⟩ o8;dsimp only at m1 m2 o8 ⊢;unfold pO at o8 ⊢
 by_cases hj:j < i
 case neg =>
  have e3:decide ((j:Int) < (i:Int))=false:=af ak;obtain rfl:j=i:=ak;refine az.oV (k:=[_,_,_]) 60 ?_;simp only [W,seval,mQ,hn,e3];exact E3 () m2 _ _ cx rfl
 have e3:decide ((j:Int) < (i:Int))=true:=ah ak;have uU:=bE ((j:Int)+1) ak;have ZZ:j < s.cases.length:=ak;have JJ:(s.cases.map lV)[j]? = some [.int .u64 s.cases[j].int,.sl (s.cases[j].body.map gE)]:=by simp [ZZ,lN]
 have ht:((s.cases.take (j+1)).map iB.int)=(s.cases.take j).map iB.int++[s.cases[j].int]:=by
  rw [bF ZZ,cr];rfl
 refine az.oV (k:=[_,_]) 20 ?_;simp only [W,seval,mQ,hn,e3];refine az.draw cP cP (lA 60 _ _ ?_);simp only [W,seval,mQ,hn,JJ,hgi,ZZ,bu];cases he:decide (s.cases[j].int=c.int)
 case true =>
  have hct:((s.cases.take i).map iB.int).contains c.int=true:=by
   rw [bZ,← bV he];refine eu.2 ⟨s.cases[j],?_,rfl⟩;rw [tv];exact ⟨j,ak,rfl⟩
  have hz:zM (!true) = -1:=rfl;rw [hct,hz,gJ,gf,gf] at g4;rw [← g4,gJ];refine az.oV (k:=[_,_,_]) 20 ?_;simp only [W,seval,mQ,hn,he];refine bN mQ (Left.box ?_);exact ⟨rfl,rfl⟩
 have gW:(c.int == s.cases[j].int)=false:=cB.2 fun e=>dJ he e.symm
 have hm:((s.cases.take (j+1)).map iB.int).contains c.int=false:=by
  rw [ht];simp only [List.contains_append,m2,eN,mF,List.contains_nil,gW,mS]
 refine az.oV (k:=[_,_,_]) 20 ?_;simp only [W,seval,mQ,hn,he,uU];exact o8 (j+1) ⟨ak,hm⟩ ak _ _ cx rfl
theorem V0 (n:Nat) (s:cL) (h1:∀ x∈s.body,Ba n x) (h2:∀ x∈s.iS,Ba n x) (h3:∀ c∈s.cases,∀ x∈c.body,Ba n x):Ba (n+1) s:=by
 intro d B T Bs WS;obtain ⟨N,hn⟩:=aV B.length;have hR:sE (n+1) s d=cj (if 60 < d then -1 else 1) (cj (zM (xk s && decide (s.cases.length≤40))) (L2 (sE n) s d)):=rfl;rw [hR];unfold vS;refine mQ.1.go 6 rfl fun cG=>?_;simp only [fH] at cG;simp only [W,seval,mQ,hn];change az _ _ _ _ _ _ ⟨B++[pO s],T⟩ _;refine az.after [_] _ (fun _:Unit=>(cN 97 [(1,.d (.int .i64 d)),(2,.ptr N 0)],⟨B++[pO s],T⟩)) (fun _=>¬ 60 < d∧(xk s && decide (s.cases.length≤40))=true) ?_ ?_
 case refine_2 =>
  intro K' gI;unfold pO at gI ⊢
  by_cases hd:60 < d
  ·have e:=ah hd;rw [aD hd,gJ];refine jJ ?_;simp only [W,seval,mQ,hn,e];refine bN mQ (Left.box ?_);exact ⟨rfl,rfl⟩
  have e:=af hd;have By:=VW s (B++[pO s]) T;unfold vS pO at By;refine jJ ?_;simp only [W,seval,mQ,hn,e];refine aX By ?_;have hz:zM false = -1:=rfl;cases hb:xk s
  ·rw [bA,hz,gJ,gf];refine jJ ?_;simp only [W,seval,mQ,hn];refine bN mQ (Left.box ?_);exact ⟨rfl,rfl⟩
  rw [hb] at gI
  by_cases Ya:s.cases.length≤40
  ·have e4:decide ((40:Int) < (s.cases.length:Int))=false:=af ak;refine jJ ?_;simp only [W,seval,mQ,hn,e4];exact gI () ⟨hd,by rw [ah Ya];rfl⟩ _ _ cx rfl
  ·have e4:decide ((40:Int) < (s.cases.length:Int))=true:=ah ak;rw [af Ya,gC,hz,gJ,gf];refine jJ ?_;simp only [W,seval,mQ,hn,e4];refine bN mQ (Left.box ?_);exact ⟨rfl,rfl⟩
 rintro ⟨⟩ ⟨hd,hs⟩;have agR:s.cases.length≤40:=bV (rB.1 hs).2;have hz:zM true=0:=rfl;have Bm:=bE (d+1) ak;have htl:L2 (sE n) s d=cj (if s.kind=1 then rD s.type (d+1) else 0) (cj (A9 (sE n) d [] s.cases) (L4 n s d)):=rfl;rw [aq hd,hs,hz,jf (by rw [htl];exact (dW _ _).1) (by rw [htl];exact (dW _ _).2),htl,← iw,← iw];refine az.go 5 ?_;simp only [W,seval,mQ];refine az.after [_] _ (fun a:Int=>(cN 97 [(1,.d (.int .i64 d)),(2,.ptr N 0),(5,.d (.int .i64 a))],⟨B++[pO s],T⟩)) (fun a=>a=cj 1 (if s.kind=1 then rD s.type (d+1) else 0)) ?_ ?_
 ·rintro a rfl;exact agQ n s h1 h2 h3 agR d _ Bs ak (dW _ _).1 (dW _ _).2 N B T hn
 intro K' gI;unfold pO at gI ⊢
 by_cases hk:s.kind=1
 ·have ek:=ah hk;have jU:=AY s.type (d+1) (B++[pO s]) T ak ak;have hle:=Fh s.type (d+1);unfold cH pO at jU;refine az.oV 40 ?_;simp only [W,seval,mQ,hn,ek,Bm];refine aX jU ?_;refine az.oV 40 ?_;simp only [W,seval,mQ,hn];refine aX (jQ 1 _ ak hle _ _) ?_;refine az.oV 40 ?_;simp only [W,seval,mQ,hn];exact gI _ (by rw [aD hk]) _ _ cx rfl
 ·have ek:=af hk;refine az.oV 40 ?_;simp only [W,seval,mQ,hn,ek];exact gI 1 (by rw [aq hk];rfl) _ _ cx rfl
theorem Dv:∀ (n:Nat) (s:cL),Dp n s→Ba n s
 | 0,_,h=>h.elim
 | n+1,s,h=>V0 n s (fun x hx=>Dv n x (h.1 x hx)) (fun x hx=>Dv n x (h.2.1 x hx)) (fun k hk x hx=>Dv n x (h.2.2 k hk x hx))
theorem ss1 (x:List UInt8):fE 1 [[D.str x]]=true:=rfl
theorem V1 (l:List (List UInt8)) (x:List UInt8):gN l++[[D.str x]]=gN (l++[x]):=by simp [gN]
def Bb:=KB func117 39
def xl:=KB func78 88
def b29:=KB func29 6
def L5 (x:ep):Int:=cj 1 (rD x.type 0)
theorem Fk (mC:Nat) (aft:mC≤1000) (l:List ep) (B:bQ) (T:eg):cy prog bI 117 [.d (.sl (l.map jK)),.d (.int .i64 (mC:Int))] ⟨B,T⟩ (cF (.d (.int .i64 (L3 mC l))) ⟨B,T⟩):=by
 obtain ⟨t,ht⟩:=aV T.length;have hP:L3 mC l=cj (jj L5 l) (zM (decide (l.length≤mC) && jN l.length (l.map ep.name))):=rfl;have hz:zM false = -1:=rfl;have hz1:zM true=0:=rfl;have sI:=sn L5 l;rw [hP]
 by_cases hm:l.length≤mC
 case neg =>
  have e:decide ((mC:Int) < (l.length:Int))=true:=ah ak;rw [af hm,bA,hz,gf];refine Bb.1.go 40 rfl fun cG=>?_;simp only [fH] at cG;simp only [W,seval,Bb,e];refine bN Bb (Left.none ?_);exact ⟨rfl,rfl⟩
 have e:decide ((mC:Int) < (l.length:Int))=false:=af ak;rw [ah hm,bY];refine Bb.1.go 40 rfl fun cG=>?_;simp only [fH] at cG;simp only [W,seval,Bb,e];refine az.token 5 [] (by rfl) 1 ak rfl ?_;simp only [fP,ht,aW];refine az.dL (fun a:Nat × Int=>(cN 39 [(0,.d (.sl (l.map jK))),(5,.sl (gN ((l.take a.1).map ep.name)) (.own t)),(6,.d (.int .i64 a.2)),(7,.d (.int .i64 (a.1:Int)))],⟨B,T++[(a.1,1)]⟩)) (fun a=>a.1≤l.length∧-1≤a.2∧a.2≤60000∧cj a.2 (jj L5 (l.drop a.1))=jj L5 l) (fun a=>l.length - a.1) (0,0) ⟨dM,bH,bH,jf sI.1 sI.2⟩ cx rfl ?_;rintro ⟨i,q⟩ ⟨h1,h2,h3,h4⟩ ih;dsimp only at h1 h2 h3 h4 ih ⊢
 by_cases bu:i < l.length
 case neg =>
  have e1:decide ((i:Int) < (l.length:Int))=false:=af ak;obtain rfl:i=l.length:=ak;rw [ay ak] at h4;have h5:jj L5 []=0:=rfl;rw [h5,lP h2 h3] at h4;rw [← h4];have j4:l.take l.length=l:=fR;rw [j4];have hid:=cy.Uq (Hh (l.map ep.name) [] []).only (args:=[.sl (gN (l.map ep.name)) (.own t)]) (by simp [u7,wk]) rfl ⟨B,T++[(l.length,1)]⟩;rw [aS] at hid;refine goN ?_;simp only [W,seval,Bb,e1];refine aX hid ?_;cases hb:jN l.length (l.map ep.name)
  ·rw [hz,gf];refine goN ?_;simp only [W,seval,Bb];refine bN Bb (Left.tok ?_);exact ⟨rfl,rfl⟩
  ·rw [hz1,lP h2 h3];refine goN ?_;simp only [W,seval,Bb];refine bN Bb (Left.tok ?_);exact ⟨rfl,rfl⟩
 have e1:decide ((i:Int) < (l.length:Int))=true:=ah ak;have ie:=bE ((i:Int)+1) ak;have hg:(l.map jK)[i]? = some (jK l[i]):=by simp [bu]
 have Ir:(l.take (i+1)).map ep.name=(l.take i).map ep.name++[l[i].name]:=by
  rw [bF bu,cr];rfl
 rw [uR _ l i bu,← iw] at h4;obtain ⟨y,VP⟩:=aV (l[i]);rw [VP] at hg h4 Ir;rw [qB] at hg;have jU:=AY y.type 0 B (T++[(i+1,1)]) ak ak;unfold cH at jU;have lt:=Fh y.type 0;have lp:L5 y≤60000:=(dW _ _).2;have gh:(i+1) * 16≤140737488355328:=ak;have hsn:gN ((l.take i).map ep.name)++[[D.str y.name]]=gN ((l.take (i+1)).map ep.name):=by rw [Ir];exact V1 _ _
 have akw:(gN ((l.take i).map ep.name)).length=i:=by simp [gN];omega
 refine goN ?_;simp only [W,seval,Bb,e1,hg,bu,ht,akw,bL,bC,Nat.reduceMul,gh,hsn,ss1];refine aX jU ?_;refine az.go 20 ?_;simp only [W,seval,Bb];refine aX (jQ 1 _ ak lt _ _) ?_;refine az.go 20 ?_;simp only [W,seval,Bb];refine aX (jQ q _ h3 lp _ _) ?_;have Pb:=dW q (L5 y);refine az.go 20 ?_;simp only [W,seval,Bb,ie];exact ih (i+1,cj q (L5 y)) ⟨gP,Pb.1,Pb.2,h4⟩ gP _ _ cx rfl
def pB (pr:rU):List V:=[.d (.sl (pr.structs.map ki)),.d (.sl (pr.funcs.map lT))]
def fB (f:fL):List V:=[.d (.str f.name),.d (.sl (f.params.map jK)),.d (.sl (f.results.map eH)),.d (.sl (f.body.map gE))]
theorem Fl (n:Nat) (f:fL) (h:aY f.name=false∨(decide (1≤f.results.length) && decide (f.results.length≤20))=false):C9 n f = -1:=by
 have hz:zM false = -1:=rfl;unfold C9;rcases h with h | h
 ·rw [h,hz,gJ,gf]
 ·rw [h,hz,gJ,gf,gf,gf]
theorem ZF (n:Nat) (f:fL) (h:aY f.name=true) (h2:(decide (1≤f.results.length) && decide (f.results.length≤20))=true) (q:Int):cj q (C9 n f)=cj (cj (cj q (cj 1 (L3 20 f.params))) (jj (fun t=>rD t 0) f.results)) (jj (fun s=>sE n s 0) f.body):=by
 have hz:zM true=0:=rfl;unfold C9;rw [h,h2,hz,jf (dW _ _).1 (dW _ _).2,jf (dW _ _).1 (dW _ _).2];simp only [iw]
theorem ac8 (n:Nat) (pr:rU) (kz:∀ f∈pr.funcs,∀ x∈f.body,Ba n x) (q0:Int) (W8:-1≤q0) (Ux:q0≤60000) (N:Nat) (B:bQ) (T:eg) (hn:B.length=N) (wI:pr.funcs.length≤9223372036854775807) :
 az prog bI (N,T.length) 78 [.code (kF f78 27)] (cN 88 [(1,.ptr N 0),(3,.d (.int .i64 q0))]) ⟨B++[pB pr],T⟩ (Ab.Left ⟨B,T⟩ (cF (.d (.int .i64 (cj q0 (jj (C9 n) pr.funcs)))) ⟨B,T⟩)):=by
 have jI:N < N+1:=ak;have lW:¬ N+1 < N+1:=ak;refine az.go 1 ?_;simp only [W,seval,xl];refine az.after [_] _ (fun a:Int=>(cN 88 [(1,.ptr N 0),(3,.d (.int .i64 a))],⟨B++[pB pr],T⟩)) (fun a=>a=cj q0 (jj (C9 n) pr.funcs)) ?_ ?_
 ·rintro a rfl;refine az.go 20 ?_;simp only [W,seval,xl,hn];refine bN xl (Left.box ?_);exact ⟨rfl,rfl⟩
 intro K' gI;unfold pB at gI ⊢;refine az.oV 6 ?_;simp only [W,seval,xl];refine az.fits fun hf=>?_;refine az.m7 (fun a:Nat × Int=>(cN 88 [(1,.ptr N 0),(3,.d (.int .i64 a.2)),(5,.d (.int .i64 (a.1:Int)))],⟨B++[pB pr],T⟩)) (fun a=>a.1≤pr.funcs.length∧-1≤a.2∧a.2≤60000∧cj a.2 (jj (C9 n) (pr.funcs.drop a.1))=cj q0 (jj (C9 n) pr.funcs)) (fun a=>pr.funcs.length - a.1) (0,q0) ⟨dM,W8,Ux,rfl⟩ cx rfl ?_;rintro ⟨i,q⟩ ⟨g1,g2,g3,g4⟩ ih;dsimp only at g1 g2 g3 g4 ih ⊢
 by_cases bu:i < pr.funcs.length
 case neg =>
  have e1:decide ((i:Int) < (pr.funcs.length:Int))=false:=af ak;rw [ay ak] at g4;have h5:jj (C9 n) []=0:=rfl;rw [h5,lP g2 g3] at g4;unfold pB;refine az.oV (k:=[_,_,_]) 60 ?_;simp only [W,seval,xl,hn,e1];exact gI q g4 _ _ cx rfl
 have e1:decide ((i:Int) < (pr.funcs.length:Int))=true:=ah ak;have ie:=bE ((i:Int)+1) ak;have hg:(pr.funcs.map lT)[i]? = some (lT pr.funcs[i]):=by simp [bu]
 rw [uR _ pr.funcs i bu,← iw] at g4;have agT:=kz pr.funcs[i] (aH bu);obtain ⟨f,hff⟩:=aV (pr.funcs[i]);rw [hff] at hg g4 agT;rw [sV] at hg;unfold pB;refine az.oV (k:=[_,_]) 60 ?_;simp only [W,seval,xl,hn,e1,hg,bu];refine aX (sD f.name _ _) ?_;have r1:decide ((f.results.length:Int) < 1) = !decide (1≤f.results.length):=by rw [← decide_not];exact cM.2 ak
 have r2:decide ((20:Int) < (f.results.length:Int)) = !decide (f.results.length≤20):=by rw [← decide_not];exact cM.2 ak
 cases hid:aY f.name
 ·rw [Fl n f (.inl hid),gf,gJ] at g4;rw [← g4];refine az.oV (k:=[_,_]) 60 ?_;simp only [W,seval,xl,hn];refine bN xl (Left.box ?_);exact ⟨rfl,rfl⟩
 cases c1:decide (1≤f.results.length)
 ·rw [c1] at r1;rw [Fl n f (.inr (by rw [c1];rfl)),gf,gJ] at g4;rw [← g4];refine az.oV (k:=[_,_]) 60 ?_;simp only [W,seval,xl,hn,r1,aO];refine bN xl (Left.box ?_);exact ⟨rfl,rfl⟩
 cases c2:decide (f.results.length≤20)
 ·rw [c1] at r1;rw [c2] at r2;rw [Fl n f (.inr (by rw [c1,c2];rfl)),gf,gJ] at g4;rw [← g4];refine az.oV (k:=[_,_]) 60 ?_;simp only [W,seval,xl,hn,r1,r2,aO,aK];refine bN xl (Left.box ?_);exact ⟨rfl,rfl⟩
 rw [c1] at r1;rw [c2] at r2;rw [ZF n f hid (by rw [c1,c2];rfl)] at g4;have CT:=Fk 20 ak f.params;have akx:((20:Nat):Int)=20:=rfl;rw [akx] at CT;have lp:L3 20 f.params≤60000:=(dW _ _).2;have lp1:=dW 1 (L3 20 f.params);have lq1:=dW q (cj 1 (L3 20 f.params));refine az.oV (k:=[_,_,_]) 60 ?_;simp only [W,seval,xl,hn,r1,r2,aO,aK];refine aX (CT _ _) ?_;refine az.oV (k:=[_]) 2 ?_;simp only [W,seval,xl,hn];refine aX (jQ 1 _ ak lp _ _) ?_;refine az.oV (k:=[_]) 2 ?_;simp only [W,seval,xl,hn];refine aX (jQ q _ g3 lp1.2 _ _) ?_;refine az.oV (k:=[_,_]) 3 ?_;simp only [W,seval,xl,hn];obtain ⟨q1,agU⟩:=aV (cj q (cj 1 (L3 20 f.params)));rw [agU] at g4 lq1;rw [agU];have lty:=sn (fun t=>rD t 0) f.results;have lst:=sn (fun s=>sE n s 0) f.body;refine az.after [_] _ (fun a:Int=>(cN 88 [(1,.ptr N 0),(3,.d (.int .i64 a)),(5,.d (.int .i64 (i:Int))),(6,.ptr (N+1) 0)],⟨B++[pB pr,fB f],T⟩)) (fun a=>a=cj q1 (jj (fun t=>rD t 0) f.results)) ?_ ?_
 ·rintro a rfl;have hms:=Du n f.body agT 0 ak ak (B++[pB pr,fB f]) T;have l2:=dW q1 (jj (fun t=>rD t 0) f.results);have l3:=dW (cj q1 (jj (fun t=>rD t 0) f.results)) (jj (fun s=>sE n s 0) f.body);unfold pB fB at hms ⊢;refine az.oV (k:=[_]) 20 ?_;simp only [W,seval,xl,hn];refine aX hms ?_;refine az.oV (k:=[_]) 2 ?_;simp only [W,seval,xl,hn];refine aX (jQ _ _ l2.2 lst.2 _ _) ?_;refine az.oV (k:=[_,_,_]) 12 ?_;simp only [W,seval,xl,hn,ie];have hap:∀ x:List V,B++[pB pr,x]=(B++[pB pr])++[x]:=fun x=>dM;unfold pB at hap ih;rw [hap];refine ih (i+1,cj (cj q1 (jj (fun t=>rD t 0) f.results)) (jj (fun s=>sE n s 0) f.body)) ⟨gP,l3.1,l3.2,g4⟩ gP _ _ _ _ rfl ⟨fk,aA _⟩ hf ?_;refine gr.env _ ?_;simp only [zB,seval,hn,av,aP,aW,bf,jI,lW]
 intro K2 E3;unfold pB fB at E3;refine az.oV (k:=[_]) 6 ?_;simp only [W,seval,xl];refine az.dL (fun a:Nat × Int=>(cN 88 [(1,.ptr N 0),(3,.d (.int .i64 a.2)),(5,.d (.int .i64 (i:Int))),(6,.ptr (N+1) 0),(7,.d (.int .i64 (a.1:Int)))],⟨B++[pB pr,fB f],T⟩)) (fun a=>a.1≤f.results.length∧-1≤a.2∧a.2≤60000∧cj a.2 (jj (fun t=>rD t 0) (f.results.drop a.1))=cj q1 (jj (fun t=>rD t 0) f.results)) (fun a=>f.results.length - a.1) (0,q1) ⟨dM,lq1.1,lq1.2,rfl⟩ cx rfl ?_;rintro ⟨j,r⟩ ⟨m1,m2,m3,m4⟩ o8;dsimp only at m1 m2 m3 m4 o8 ⊢;unfold pB fB at o8 ⊢
 by_cases hj:j < f.results.length
 case neg =>
  have e3:decide ((j:Int) < (f.results.length:Int))=false:=af ak;rw [ay ak] at m4;have h5:jj (fun t=>rD t 0) []=0:=rfl;rw [h5,lP m2 m3] at m4;refine az.oV (k:=[_,_,_]) 60 ?_;simp only [W,seval,xl,hn,e3];exact E3 r m4 _ _ cx rfl
 have e3:decide ((j:Int) < (f.results.length:Int))=true:=ah ak;have uU:=bE ((j:Int)+1) (by have:=bV c2;omega);have JJ:(f.results.map eH)[j]? = some (eH f.results[j]):=by simp [hj]
 rw [uR _ f.results j hj,← iw] at m4;obtain ⟨t,htt⟩:=aV (f.results[j]);rw [htt] at JJ m4;rw [eK] at JJ;have jU:=AY t 0;unfold cH at jU;have ltt:=Fh t 0;have lrt:=dW r (rD t 0);refine az.oV (k:=[_,_]) 30 ?_;simp only [W,seval,xl,hn,e3,JJ,hj];refine aX (jU _ _ ak ak) ?_;refine az.oV (k:=[_]) 2 ?_;simp only [W,seval,xl,hn];refine aX (jQ r _ m3 ltt _ _) ?_;refine az.oV (k:=[_,_,_]) 12 ?_;simp only [W,seval,xl,hn,uU];exact o8 (j+1,cj r (rD t 0)) ⟨gP,lrt.1,lrt.2,m4⟩ gP _ _ cx rfl
theorem ZG (x:eZ) (h:aY x.name=false):SK x = -1:=by
 have hz:zM false = -1:=rfl;unfold SK;rw [h,hz,gJ,gf]
theorem ac9 (x:eZ) (h:aY x.name=true):SK x=cj 1 (L3 60 x.fields):=by
 have hz:zM true=0:=rfl;have hp:-1≤L3 60 x.fields∧L3 60 x.fields≤60000:=dW _ _;unfold SK;rw [h,hz,jf hp.1 hp.2]
theorem V2 (n:Nat) (pr:rU) (kz:∀ f∈pr.funcs,∀ x∈f.body,Ba n x) (B:bQ) (T:eg):cy prog bI 78 [sy pr] ⟨B,T⟩ (cF (.d (.int .i64 (prR n pr))) ⟨B,T⟩):=by
 obtain ⟨N,hn⟩:=aV B.length;have hR:prR n pr=cj (jj SK pr.structs) (jj (C9 n) pr.funcs):=rfl;have hsu:=sn SK pr.structs;rw [hR];unfold sy;refine xl.1.go 10 rfl fun cG=>?_;simp only [fH] at cG;simp only [W,seval,xl,hn];change az _ _ _ _ _ _ ⟨B++[pB pr],T⟩ _;refine az.after [_] _ (fun a:Int=>(cN 88 [(1,.ptr N 0),(3,.d (.int .i64 a))],⟨B++[pB pr],T⟩)) (fun a=>a=jj SK pr.structs) ?_ ?_
 ·rintro a rfl;exact ac8 n pr kz _ hsu.1 hsu.2 N B T hn ak
 intro K' gI;unfold pB at gI ⊢;refine az.oV 6 ?_;simp only [W,seval,xl];refine az.dL (fun a:Nat × Int=>(cN 88 [(1,.ptr N 0),(3,.d (.int .i64 a.2)),(4,.d (.int .i64 (a.1:Int)))],⟨B++[pB pr],T⟩)) (fun a=>a.1≤pr.structs.length∧-1≤a.2∧a.2≤60000∧cj a.2 (jj SK (pr.structs.drop a.1))=jj SK pr.structs) (fun a=>pr.structs.length - a.1) (0,0) ⟨dM,bH,bH,jf hsu.1 hsu.2⟩ cx rfl ?_;rintro ⟨i,q⟩ ⟨g1,g2,g3,g4⟩ ih;dsimp only at g1 g2 g3 g4 ih ⊢;unfold pB at ih ⊢
 by_cases bu:i < pr.structs.length
 case neg =>
  have e1:decide ((i:Int) < (pr.structs.length:Int))=false:=af ak;rw [ay ak] at g4;have h5:jj SK []=0:=rfl;rw [h5,lP g2 g3] at g4;refine az.oV (k:=[_,_,_]) 60 ?_;simp only [W,seval,xl,hn,e1];exact gI q g4 _ _ cx rfl
 have e1:decide ((i:Int) < (pr.structs.length:Int))=true:=ah ak;have ie:=bE ((i:Int)+1) ak;have hg:(pr.structs.map ki)[i]? = some (ki pr.structs[i]):=by simp [bu]
 rw [uR _ pr.structs i bu,← iw] at g4;obtain ⟨x,hxx⟩:=aV (pr.structs[i]);rw [hxx] at hg g4;rw [wQ] at hg;refine az.oV (k:=[_,_]) 60 ?_;simp only [W,seval,xl,hn,e1,hg,bu];refine aX (sD x.name _ _) ?_;cases hid:aY x.name
 ·rw [ZG x hid,gf,gJ] at g4;rw [← g4,gJ];refine az.oV (k:=[_,_]) 60 ?_;simp only [W,seval,xl,hn];refine bN xl (Left.box ?_);exact ⟨rfl,rfl⟩
 rw [ac9 x hid] at g4;have CT:=Fk 60 ak x.fields;have akz:((60:Nat):Int)=60:=rfl;rw [akz] at CT;have lp:L3 60 x.fields≤60000:=(dW _ _).2;have lp1:=dW 1 (L3 60 x.fields);have lq1:=dW q (cj 1 (L3 60 x.fields));refine az.oV (k:=[_,_,_]) 60 ?_;simp only [W,seval,xl,hn,hg,bu];refine aX (CT _ _) ?_;refine az.oV (k:=[_]) 2 ?_;simp only [W,seval,xl,hn];refine aX (jQ 1 _ ak lp _ _) ?_;refine az.oV (k:=[_]) 2 ?_;simp only [W,seval,xl,hn];refine aX (jQ q _ g3 lp1.2 _ _) ?_;refine az.oV (k:=[_,_,_]) 12 ?_;simp only [W,seval,xl,hn,ie];exact ih (i+1,cj q (cj 1 (L3 60 x.fields))) ⟨gP,lq1.1,lq1.2,g4⟩ gP _ _ cx rfl
theorem Sn (n:Nat) (pr:rU) (kz:∀ f∈pr.funcs,∀ x∈f.body,Ba n x) (B:bQ) (T:eg):cy prog bI 29 [sy pr] ⟨B,T⟩ (cF (.d (.bool (decide (0≤prR n pr)))) ⟨B,T⟩):=by
 obtain ⟨N,hn⟩:=aV B.length;have hp:=V2 n pr kz;unfold sy at hp ⊢;refine b29.1.go 40 rfl fun _=>?_;simp only [W,seval,b29,hn];refine aX (hp _ _) ?_;refine az.go 40 ?_;simp only [W,seval,b29,hn];refine bN b29 (Left.box ?_);exact ⟨rfl,rfl⟩
noncomputable def V3 (p:rU):Bool:=decide (0≤prR (SizeOf.sizeOf p.funcs) p)
theorem ada (p:rU) (B:bQ) (T:eg):cy prog bI 29 [sy p] ⟨B,T⟩ (cF (.d (.bool (V3 p))) ⟨B,T⟩):=by
 refine Sn (SizeOf.sizeOf p.funcs) p (fun f hf x hx=>Dv _ x (Dp.xI _ x ?_)) B T;have h1:=fI hf;have h2:=fI hx;have h3:SizeOf.sizeOf f.body < SizeOf.sizeOf f:=by cases f;simp only [fL.mk.sizeOf_spec];omega
 omega
def Ga:=KB func10 73
def Fm (su:List eZ) (fu:List fL) (f:fL):Option fL :=
 match eD su fu f.results f.body f.params with
 | some b=>if gY f.body=true then some ⟨f.name,f.params,f.results,b⟩ else none
 | none=>none
noncomputable def B9 (lp:List UInt8→Bool) (p:rU):rU × Int :=
 if V3 p=true then (if zm p.structs p.funcs lp=true then (match p.funcs.mapM (Fm p.structs p.funcs) with
  | some fs=>(⟨p.structs,fs⟩,0)
  | none=>(⟨[],[]⟩,52)) else (⟨[],[]⟩,52)) else (⟨[],[]⟩,2)
theorem Ki.vars {B:bQ} {T:eg} {c:Nat} {v:V} {ps:List ep} {S':Mem} (hc:c < B.length) (hl:ps.length≤60000) (hA:Ki 4 B T (ps.map jK) v S') :
 ∃ J,S' = ⟨B++[J],T⟩∧mj (B++[J]) c v ps∧(∀ k,k < B.length→¬ yd v k)∧kU v=some [v]:=by
 obtain ⟨gF,k1,k2,rfl,rfl⟩:=hA;rw [aS] at k1;refine ⟨_,rfl,.inr ⟨B.length,gF,List.replicate ((gF - ps.length) * 4) .undef,by rw [aS],ak,?_,dM,k1,ak⟩,?_,rfl⟩
 ·rw [aN (aA _),iU];simp
 ·rintro k hk ⟨n,cap,e⟩;obtain ⟨e,_,_⟩:=V.bx.inj e;omega
theorem Left.grown {B B':bQ} {T K:eg} {R:V→Mem→Prop} {v:V} (hk:∀ k,k < B.length→B'[k]? = B[k]?) (h:R (wk B.length T.length v) ⟨B,T⟩):Go.Ab.Left ⟨B,T⟩ R v ⟨B',T++K⟩:=by
 have:B' = B++B'.drop B.length:=by
  refine fW fun k=>?_
  by_cases bu:k < B.length
  ·rw [bk bu,hk k bu]
  ·rw [aN ak,dS,show B.length+(k - B.length)=k by omega]
 rw [this];exact Left.all h
structure agV where
 i:Nat
 fs:List fL
 vv:V
 res:List bJ
 B:List (List V)
 K:List (Nat × Nat)
def akA (p:rU) (B:bQ) (N t:Nat) (s:agV):Prop:=s.i≤p.funcs.length∧p.funcs.mapM (Fm p.structs p.funcs)=((p.funcs.drop s.i).mapM (Fm p.structs p.funcs)).map (s.fs++·)∧s.fs.length=s.i∧N+4≤s.B.length∧(∀ k,k < N→s.B[k]? = B[k]?)∧s.B[N]? = some [.d (.sl (p.structs.map ki)),.d (.sl (p.funcs.map lT))]∧s.B[N+1]? = some [.sl [] .full,.sl [] .full]∧s.B[N+2]? = some (mG p.structs p.funcs s.vv s.res)∧s.B[N+3]? = some [.d (.sl (p.structs.map ki)),.sl (s.fs.map lT) (.own t)]
theorem L6 {P:Program} {I:Inv} {o:Oper} {env:List V} {S:Mem} {Q Q':V→Mem→Prop} (h:uD P I o env S Q) (hk:∀ v S',Q v S'→Q' v S'):uD P I o env S Q':=fun c w ev h1 h2 h3=>by
 obtain ⟨y,w',c',v,S',a,b,d⟩:=h c w ev h1 h2 h3;exact ⟨y,w',c',v,S',a,hk _ _ b,d⟩
theorem So {env:List V} {B:bQ} {T:eg} {ps:List ep} {c:Nat} (hl:ps.length≤60000) (hc:c < B.length) (h37:bw bI env (.tmp 37) = .sl [] .full) (h39:bw bI env (.tmp 39) = .d (.sl (ps.map jK))) :
 uD prog bI (fG (opsOf (kF f10 38)) 4) env ⟨B,T⟩ fun v S'=>∃ J,S' = ⟨B++J,T⟩∧mj (B++J) c v ps∧(∀ k,k < B.length→¬ yd v k)∧kU v=some [v]:=by
 by_cases hp:ps=[]
 ·subst hp;refine L6 (uD.R5 (so:=.tmp 37) (xo:=.tmp 39) cP G1 rfl acO G1 ⟨_,rfl⟩ h37 h39 rfl) ?_;rintro v S' ⟨rfl,rfl⟩;exact ⟨[],by rw [aQ],.inl ⟨rfl,rfl⟩,fun k _ h=>(by obtain ⟨n,cap,e⟩:=h;cases e),rfl⟩
 ·refine L6 (uD.QF (so:=.tmp 37) (xo:=.tmp 39) cP G1 rfl acO G1 ⟨_,rfl⟩ bH h37 h39 (bU:=ps.map jK) (by simpa using hp) rfl (fun r hr=>by obtain ⟨x,_,rfl⟩:=List.mem_map.1 hr;rfl) bH (by rw [List.length_map];omega)) ?_;intro v S' hA;obtain ⟨J,e,a,b,d⟩:=Ki.vars hc hl hA;exact ⟨[J],e,a,b,d⟩
theorem Ow {α β:Type} (g:α→Option β) (x:α) (l:List α) (fs:List β):((x :: l).mapM g).map (fs++·)=match g x with
 | some y=>(l.mapM g).map ((fs++[y])++·)
 | none=>none:=by
 rw [gQ];cases g x with
 | none=>rfl
 | some y=>cases l.mapM g<;>simp
section
variable {B:bQ} {T:eg}
theorem Sp {lp:List UInt8→Bool} {p:rU} (hT:V3 p=true→mh p.structs p.funcs) (NO:V3 p=true→∀ s∈p.structs,∃ k,k≤100000∧yG p.structs s.name k [s.name] 0=some (lp s.name)) (Ip:V3 p=true→∀ f∈p.funcs,Oe p.structs p.funcs f.results f.body) (hen:V3 p=true→∀ f∈p.funcs,I9 f.body) (hw:V3 p=true→∀ f∈p.funcs,wL f.body≤1000000):cy prog bI 10 [sy p] ⟨B,T⟩ (cF (.fZ [sy (B9 lp p).1,.d (.int .i64 (B9 lp p).2)]) ⟨B,T⟩):=by
 obtain ⟨N,hn⟩:=aV B.length;obtain ⟨M,hM⟩:=aV T.length;have WR:=ada p;generalize dN:B9 lp p=r;unfold B9 at dN;unfold sy at WR ⊢;cases hr:V3 p
 ·rw [hr] at WR;rw [hr,aq bH] at dN;refine gL Ga fun cG=>?_;simp only [fH] at cG;simp only [W,seval,Ga,hn];refine aX (WR _ _) ?_;refine goN ?_;simp only [W,seval,Ga,hn];refine dx Ga (Left.box ?_);rw [← dN];exact ⟨rfl,rfl⟩
 replace hT:=hT hr;replace NO:=NO hr;replace Ip:=Ip hr;replace hen:=hen hr;replace hw:=hw hr;rw [hr] at WR;rw [hr,aD rfl] at dN;have uj:N+2 < (B++[[V.d (.sl (p.structs.map ki)),V.d (.sl (p.funcs.map lT))],[V.sl [] .full,V.sl [] .full],mG p.structs p.funcs (.sl [] .full) []]).length:=fk;have hhd:=@R4 (N+2) (B++[[V.d (.sl (p.structs.map ki)),V.d (.sl (p.funcs.map lT))],[V.sl [] .full,V.sl [] .full],mG p.structs p.funcs (.sl [] .full) []]) T p.structs p.funcs (.sl [] .full) [] lp hT uj (by rw [gS hn];rfl) NO;clear uj;refine gL Ga fun cG=>?_;simp only [fH] at cG;simp only [W,seval,Ga,hn];refine aX (WR _ _) ?_;refine az.go 11 ?_;simp only [W,seval,Ga,hn];refine az.BS 2 _ (mG p.structs p.funcs (.sl [] .full) []) rfl (fq.same (fq.same (fq.same (fq.sl .nil)))) ?_;simp only [cI,cn];refine goN ?_;simp only [W,seval,Ga,hn];refine aX hhd ?_;clear hhd WR;cases hh:zm p.structs p.funcs lp
 ·rw [hh,aq bH] at dN;refine goN ?_;simp only [W,seval,Ga,hn];refine dx Ga (Left.box ?_);rw [← dN];exact ⟨rfl,rfl⟩
 rw [hh,aD rfl] at dN;refine goN ?_;simp only [W,seval,Ga,hn,mG];have ht3:(B++[[V.d (.sl (p.structs.map ki)),V.d (.sl (p.funcs.map lT))],[V.sl [] .full,V.sl [] .full],[V.d (.sl (p.structs.map ki)),V.d (.sl (p.funcs.map lT)),V.sl [] .full,V.d (.sl [])],[V.d (.sl (p.structs.map ki)),V.sl [] .full]])[N+3]? = some [V.d (.sl (p.structs.map ki)),V.sl [] .full]:=by rw [gS hn];rfl
 refine az.UW (N+3) 1 _ [] ht3 (by rfl) 4 ak rfl ?_;clear ht3;rw [iz _ _ ak,hn,show N+3 - N=3 by omega];simp only [cI,cn];obtain ⟨B0,hB0⟩:∃ B0,B0=B++[[V.d (.sl (p.structs.map ki)),V.d (.sl (p.funcs.map lT))],[V.sl [] .full,V.sl [] .full],mG p.structs p.funcs (.sl [] .full) [],[V.d (.sl (p.structs.map ki)),V.sl [] (.own T.length)]]:=⟨_,rfl⟩;refine az.dL (fun s:agV=>(cN 73 [(6,.d (.int .i64 (s.i:Int))),(5,.ptr (N+3) 0),(4,.ptr (N+2) 0),(3,.d (.int .i64 0)),(2,.ptr (N+1) 0),(1,.ptr N 0)],⟨s.B,T++(s.i,4) :: s.K⟩)) (akA p B N T.length) (fun s=>p.funcs.length - s.i) ⟨0,[],.sl [] .full,[],B0,[]⟩ ⟨bG _,?_,rfl,by rw [hB0];simp [hn],fun k hk=>by rw [hB0,bt ak],by rw [hB0,gp hn];rfl,by rw [hB0,gS hn];rfl,by rw [hB0,gS hn];rfl,by rw [hB0,gS hn];rfl⟩ ?_ ?_ ?_
 ·show _=Option.map _ ((p.funcs.drop 0).mapM _);rw [iE];cases p.funcs.mapM (Fm p.structs p.funcs)<;>rfl
 ·skip
  refine eU.env _ ?_;simp only [qa,seval]
 ·rw [hB0];rfl
 clear hB0;rintro ⟨i,fs,vv,res,Bi,K⟩ ⟨h1,h2,h3,h4,h5,h6,h7,h8,h9⟩ ih;dsimp only at h1 h2 h3 h4 h5 h6 h7 h8 h9 ih ⊢;have wI:=hT.fu
 by_cases bu:i < p.funcs.length
 case neg =>
  have e2:decide ((i:Int) < (p.funcs.length:Int))=false:=af ak
  have hr:r=(⟨p.structs,fs⟩,0):=by
   rw [← dN,h2,ay ak];simp
  refine goN ?_;simp only [W,seval,Ga,e2,h6,h7,h9,hn];have s1:∀ X,(Bi.set (N+1) X)[N+1]? = some X:=fun X=>aC ak;refine dx Ga (Left.grown (fun k hk=>by rw [aj ak,h5 k ak]) ?_) (h1:=by simp only [W,seval,s1];exact rfl);rw [hr];exact ⟨by simp [wk,u7],rfl⟩
 have e2:decide ((i:Int) < (p.funcs.length:Int))=true:=ah ak;have ie:=bE ((i:Int)+1) ak;have gV:(i:Int) < (p.funcs.length:Int):=ak;have hg:=au bu;rw [aJ bu,Ow] at h2;have hbf:=Ip p.funcs[i] (aH bu);have hef:=hen p.funcs[i] (aH bu);have hwf:=hw p.funcs[i] (aH bu);obtain ⟨f,hf⟩:=aV (p.funcs[i]);rw [hf] at h2 hbf hef hwf hg;unfold mG at h8;have old:∀ J,(Bi++J)[N+2]? = _:=fun J=>(bt ak).trans h8;refine az.go 29 ?_;simp only [W,seval,Ga,e2,gV,h6,h7,h8,h9,old,hn,aL,hg,sV];obtain ⟨Mg,_,hpt,_⟩:=hT.pa f (hf ▸ aH bu);refine uD.step (ops:=opsOf (kF f10 38)) (i:=4) (o:=fG (opsOf (kF f10 38)) 4) cP (.inl cP) (So (c:=N+2) Mg (by rw [av];omega) (by rfl) (by rfl)) ?_;rintro v _ ⟨J,rfl,q1,q2,q3⟩
 have m1:(Bi++[[V.d (.str f.name),V.d (.sl (f.params.map jK)),V.d (.sl (f.results.map eH)),V.d (.sl (f.body.map gE))]]++J)[Bi.length]? = some [V.d (.str f.name),V.d (.sl (f.params.map jK)),V.d (.sl (f.results.map eH)),V.d (.sl (f.body.map gE))]:=by
  rw [bt dM,gp rfl];rfl
 have m0:∀ k,k < Bi.length→(Bi++[[V.d (.str f.name),V.d (.sl (f.params.map jK)),V.d (.sl (f.results.map eH)),V.d (.sl (f.body.map gE))]]++J)[k]? = Bi[k]?:=fun k hk=>by rw [bt fk,bt hk]
 have ml:Bi.length+1≤(Bi++[[V.d (.str f.name),V.d (.sl (f.params.map jK)),V.d (.sl (f.results.map eH)),V.d (.sl (f.body.map gE))]]++J).length:=dM;have q2:∀ k,k≤Bi.length→¬ yd v k:=fun k hk=>q2 k fk;generalize Bi++[[V.d (.str f.name),V.d (.sl (f.params.map jK)),V.d (.sl (f.results.map eH)),V.d (.sl (f.body.map gE))]]++J=M1 at m1 m0 ml q1;clear old;have n2:M1[N+2]? = _:=(m0 _ ak).trans h8;have s2:∀ X,(M1.set (N+2) X)[N+2]? = some X:=fun X=>aC ak;have s3:∀ X,(M1.set (N+2) X)[Bi.length]? = _:=fun X=>(aj ak).trans m1;have hd:(fG (opsOf (kF f10 38)) 4).dst=some 40:=cP;rw [hd];simp only [dD,fP];refine goN ?_;simp only [W,seval,Ga,hn,m1,n2,s2,s3,q3,jy];refine cz (hbf f.params (N+2) v _ _ ⟨by rw [aG];omega,s2 _,q1.jC (rH.Y9 (rH.refl _ _ _ _) _),ak,hpt⟩) ?_;rintro w _ ⟨B3,K2,rfl,g4,g5⟩;rw [aE,gH]
 have g6:∀ k,k≤Bi.length→k ≠ N+2→B3[k]? = M1[k]?:=fun k hk WT=>by
  rw [g4.same (by rw [aG];omega) WT (q2 k hk),aj (jk WT)]
 have g7:∀ k,k < N→B3[k]? = B[k]?:=fun k hk=>by rw [g6 k ak ak,m0 k ak,h5 k hk]
 have r1:B3[Bi.length]? = _:=(g6 _ (aA _) ak).trans m1;have rN:B3[N]? = _:=(g6 N ak ak).trans ((m0 _ ak).trans h6);have rN1:B3[N+1]? = _:=(g6 (N+1) ak ak).trans ((m0 _ ak).trans h7);have rN3:B3[N+3]? = _:=(g6 (N+3) ak ak).trans ((m0 _ ak).trans h9);have l3:Bi.length+1≤B3.length:=by have:=g4.1;rw [aG] at this;omega
 have t1:∀ X,(B3.set (N+1) X)[N+1]? = some X:=fun X=>aC ak
 have FR:∀ x,eD p.structs p.funcs f.results f.body f.params=x→Fm p.structs p.funcs f=(match x with
  | some b=>if gY f.body=true then some ⟨f.name,f.params,f.results,b⟩ else none
  | none=>none):=fun x hx=>by rw [← hx];rfl
 clear m0 m1 n2 s2 s3 ml g4 g6 q1;cases PN:eD p.structs p.funcs f.results f.body f.params with
 | none =>
  rw [PN] at g5;obtain rfl:w=_:=g5
  have hr:r=(⟨[],[]⟩,52):=by
   rw [FR _ PN] at h2;rw [← dN,h2]
  refine goN ?_;simp only [W,seval,Ga,hn,rN1,t1];refine dx Ga (Left.grown (fun k hk=>by rw [aj ak,g7 k ak]) ?_) (h1:=by simp only [W,seval,t1];exact rfl);rw [hr];exact ⟨by simp [wk,u7],rfl⟩
 | some b =>
  rw [PN] at g5;obtain ⟨rfl,g8⟩:=g5;refine goN ?_;simp only [W,seval,Ga,hn,r1];refine aX (hef _ _) ?_;cases Bg:gY f.body
  ·have hr:r=(⟨[],[]⟩,52):=by
    rw [FR _ PN,Bg] at h2;rw [← dN,h2];rfl
   refine goN ?_;simp only [W,seval,Ga,hn,rN1,t1];refine dx Ga (Left.grown (fun k hk=>by rw [aj ak,g7 k ak]) ?_) (h1:=by simp only [W,seval,t1];exact rfl);rw [hr];exact ⟨by simp [wk,u7],rfl⟩
  have u1:∀ X,(B3.set Bi.length X)[Bi.length]? = some X:=fun X=>aC ak;have u3:∀ X,(B3.set Bi.length X)[N+3]? = _:=fun X=>(aj ak).trans rN3;subst h3;have gh:(fs.length+1) * 88≤140737488355328:=ak;have hr4:fE 4 [[D.str f.name,.sl (f.params.map jK),.sl (f.results.map eH),.sl (b.map gE)]]=true:=rfl;have u4:∀ X Y,((B3.set Bi.length X).set (N+3) Y)[N+3]? = some Y:=fun X Y=>aC (by rw [aG];omega);refine goN ?_;simp only [W,seval,Ga,hn,r1,u1,u3,u4,gh,hr4,ie,aS,bL,bC,Nat.reduceMul];refine ih ⟨fs.length+1,fs++[⟨f.name,f.params,f.results,b⟩],v,f.results,_,K++K2⟩ ⟨bu,?_,dM,?_,fun k hk=>?_,?_,?_,?_,?_⟩ gP _ _ ?_ rfl
  ·rw [FR _ PN,Bg] at h2;exact h2
  ·show N+4≤(List.set _ _ _).length;rw [aG,aG];omega
  ·show (List.set _ _ _)[k]? = _;rw [aj ak,aj ak,g7 k hk]
  ·show (List.set _ _ _)[N]? = _;rw [aj ak,aj ak,rN]
  ·show (List.set _ _ _)[N+1]? = _;rw [aj ak,aj ak,rN1]
  ·show (List.set _ _ _)[N+2]? = _;rw [aj ak,aj ak,g8]
  ·show (List.set _ _ _)[N+3]? = _;rw [aC (by rw [aG];omega),cr];rfl
  ·skip
   refine eU.env _ ?_;simp only [qa,seval]
end
def b83:=KB func83 26
def Sq:=KB func127 45
def b84:=KB func84 27
def ZH (t:bJ):Prop:=∀ (B:bQ) (T:eg),cy prog bI 35 [cH t,cH t] ⟨B,T⟩ (cF (.d (.bool true)) ⟨B,T⟩)
theorem V4 (t:bJ) (h:∀ u∈t.elem,ZH u):ZH t:=by
 intro B T;obtain ⟨N,hn⟩:=aV B.length;unfold cH;refine gL Bo fun cG=>?_;simp only [fH] at cG;simp only [W,seval,Bo,hn,cR];refine az.dL (fun i:Nat=>(cN 46 [(2,.ptr N 0),(3,.ptr (N+1) 0),(5,.d (.int .i64 (i:Int)))],⟨B++[[.d (.int .i64 t.kind),.d (.str t.name),.d (.sl (t.elem.map eH))],[.d (.int .i64 t.kind),.d (.str t.name),.d (.sl (t.elem.map eH))]],T⟩)) (fun i=>i≤t.elem.length) (fun i=>t.elem.length - i) 0 ak cx rfl ?_;rintro i h1 ih;dsimp only at h1 ih ⊢
 by_cases bu:i < t.elem.length
 case neg =>
  have e1:decide ((i:Int) < (t.elem.length:Int))=false:=af ak;refine goN ?_;simp only [W,seval,Bo,hn,e1];refine bN Bo (Left.box ?_);exact ⟨rfl,rfl⟩
 have e1:decide ((i:Int) < (t.elem.length:Int))=true:=ah ak;have ie:=bE ((i:Int)+1) ak;have hg:(t.elem.map eH)[i]? = some (eH t.elem[i]):=by simp [bu]
 have hy:=h t.elem[i] (aH bu);obtain ⟨u,hu⟩:=aV (t.elem[i]);rw [hu] at hg hy;rw [eK] at hg;unfold ZH cH at hy;refine goN ?_;simp only [W,seval,Bo,hn,e1];refine az.draw cP cP (lA 60 _ _ ?_);simp only [W,seval,Bo,hn,hg,bu];refine ⟨_,hy _ _,?_⟩;simp only [W,seval,Bo];refine goN ?_;simp only [W,seval,Bo,hn,ie];exact ih (i+1) ak ak _ _ cx rfl
mutual
theorem Fo:∀ t:bJ,ZH t
 | .mk _ _ es=>V4 _ (Qc es)
theorem Qc:∀ (l:List bJ),∀ u∈l,ZH u
 | [],_,h=>absurd h aT
 | y :: l,x,h=>by
  rcases bB.1 h with e | e
  ·rw [e];exact Fo y
  ·exact Qc l x e
end
theorem Hq (l:List (List UInt8)) (B:bQ) (T:eg):cy prog bI 83 [.d (.sl (gN l)),.d (.sl (gN l))] ⟨B,T⟩ (cF (.d (.bool true)) ⟨B,T⟩):=by
 have SA:(gN l).length=l.length:=by simp [gN]
 refine gL b83 fun cG=>?_;simp only [fH] at cG;simp only [W,seval,b83,cR];refine az.dL (fun i:Nat=>(cN 26 [(0,.d (.sl (gN l))),(1,.d (.sl (gN l))),(5,.d (.int .i64 (i:Int)))],⟨B,T⟩)) (fun i=>i≤l.length) (fun i=>l.length - i) 0 ak cx rfl ?_;rintro i h1 ih;dsimp only at h1 ih ⊢
 by_cases bu:i < l.length
 case neg =>
  have e1:decide ((i:Int) < (l.length:Int))=false:=af ak;refine goN ?_;simp only [W,seval,b83,SA,e1];refine bN b83 (Left.none ?_);exact ⟨rfl,rfl⟩
 have e1:decide ((i:Int) < (l.length:Int))=true:=ah ak;have ie:=bE ((i:Int)+1) ak;have hg:(gN l)[i]? = some [.str l[i]]:=by simp [gN,bu]
 refine goN ?_;simp only [W,seval,b83,SA,e1];refine az.draw cP cP (lA 60 _ _ ?_);simp only [W,seval,b83,hg,bu,cR];refine goN ?_;simp only [W,seval,b83,ie,aK];exact ih (i+1) ak ak _ _ cx rfl
def SEx (x:bh):Prop:=∀ (B:bQ) (T:eg),cy prog bI 127 [fK x,fK x] ⟨B,T⟩ (cF (.d (.bool true)) ⟨B,T⟩)
theorem Jp (l:List bh) (h:∀ u∈l,SEx u) (B:bQ) (T:eg):cy prog bI 84 [.d (.sl (l.map eL)),.d (.sl (l.map eL))] ⟨B,T⟩ (cF (.d (.bool true)) ⟨B,T⟩):=by
 refine gL b84 fun cG=>?_;simp only [fH] at cG;simp only [W,seval,b84,cR];refine az.dL (fun i:Nat=>(cN 27 [(0,.d (.sl (l.map eL))),(1,.d (.sl (l.map eL))),(5,.d (.int .i64 (i:Int)))],⟨B,T⟩)) (fun i=>i≤l.length) (fun i=>l.length - i) 0 ak cx rfl ?_;rintro i h1 ih;dsimp only at h1 ih ⊢
 by_cases bu:i < l.length
 case neg =>
  have e1:decide ((i:Int) < (l.length:Int))=false:=af ak;refine goN ?_;simp only [W,seval,b84,e1];refine bN b84 (Left.none ?_);exact ⟨rfl,rfl⟩
 have e1:decide ((i:Int) < (l.length:Int))=true:=ah ak;have ie:=bE ((i:Int)+1) ak;have hg:(l.map eL)[i]? = some (eL l[i]):=by simp [bu]
 have hy:=h l[i] (aH bu);obtain ⟨u,hu⟩:=aV (l[i]);rw [hu] at hg hy;rw [dF] at hg;unfold SEx fK at hy;refine goN ?_;simp only [W,seval,b84,e1];refine az.draw cP cP (lA 60 _ _ ?_);simp only [W,seval,b84,hg,bu];refine ⟨_,hy _ _,?_⟩;simp only [W,seval,b84];refine goN ?_;simp only [W,seval,b84,ie];exact ih (i+1) ak ak _ _ cx rfl
theorem V5 (x:bh) (h:∀ u∈x.kids,SEx u):SEx x:=by
 intro B T;obtain ⟨N,hn⟩:=aV B.length;have jU:=Fo x.type;have Rd:=Hq x.names;have De:=Jp x.kids h;unfold ZH cH at jU;unfold fK;refine zR Sq ?_;simp only [W,seval,Sq,hn,cR];refine aX (jU _ _) ?_;refine goN ?_;simp only [W,seval,Sq,hn];refine aX (Rd _ _) ?_;refine goN ?_;simp only [W,seval,Sq,hn];refine aX (De _ _) ?_;refine goN ?_;simp only [W,seval,Sq,hn];refine bN Sq (Left.box ?_);exact ⟨rfl,rfl⟩
mutual
theorem Ox:∀ x:bh,SEx x
 | .mk _ _ _ _ _ ks=>V5 _ (Qd ks)
theorem Qd:∀ (l:List bh),∀ u∈l,SEx u
 | [],_,h=>absurd h aT
 | y :: l,x,h=>by
  rcases bB.1 h with e | e
  ·rw [e];exact Ox y
  ·exact Qd l x e
end
end Go.Proofs.YtnfnbjjnjjdjdaaGreatDoor
namespace Go.Ab
open Go.RowKit Go.Av
theorem az.smQ {P:Program} {I:Inv} {z:Nat × Nat} {fn:FuncId} {R:V→Mem→Prop} {k:List Item} {env:List V} {S:Mem} (q:Nat) (h:sm (env.getD q .undef)=true→az P I z fn k env S R):az P I z fn k env S R :=
 fun b a c w c0 w0 h1 h2 h3 h4 h5 h6 hI=>h (ij.get h4 q).sm b a c w c0 w0 h1 h2 h3 h4 h5 h6 hI
end Go.Ab
namespace Go.Proofs.YtnfnbjjnjjdjdaaGreatDoor
open _root_.Go.Proofs.Tryz
open Go.RowKit Go.Av Go.Ab
def Ms:=KB func34 126
def b33:=KB func33 42
def V6 (l:List cL):Prop:=∀ (B:bQ) (T:eg),cy prog bI 34 [.d (.sl (l.map gE)),.d (.sl (l.map gE))] ⟨B,T⟩ (cF (.d (.bool true)) ⟨B,T⟩)
theorem L7 (l:List cL) (hb:∀ s∈l,V6 s.body) (he:∀ s∈l,V6 s.iS) (hc:∀ s∈l,∀ c∈s.cases,V6 c.body):V6 l:=by
 intro B T;obtain ⟨N,hn⟩:=aV B.length;have hN0:¬ N < N:=ak;have jI:¬ N+1 < N:=ak;refine gL Ms fun cG=>?_;simp only [fH] at cG;simp only [W,seval,Ms,hn,cR];refine az.fits fun hf=>?_;refine az.m7 (fun i:Nat=>(cN 126 [(0,.d (.sl (l.map gE))),(1,.d (.sl (l.map gE))),(5,.d (.int .i64 (i:Int)))],⟨B,T⟩)) (fun i=>i≤l.length) (fun i=>l.length - i) 0 ak cx rfl ?_;rintro i h1 ih;dsimp only at h1 ih ⊢
 by_cases bu:i < l.length
 case neg =>
  have e1:decide ((i:Int) < (l.length:Int))=false:=af ak;refine goN ?_;simp only [W,seval,Ms,hn,e1];refine bN Ms (Left.none ?_);exact ⟨rfl,rfl⟩
 have e1:decide ((i:Int) < (l.length:Int))=true:=ah ak;have ie:=bE ((i:Int)+1) ak;have hg:(l.map gE)[i]? = some (gE l[i]):=by simp [bu]
 have hb:=hb l[i] (aH bu);have he:=he l[i] (aH bu);have hc:=hc l[i] (aH bu);obtain ⟨s,hs⟩:=aV (l[i]);rw [hs] at hg hb he hc;rw [iZ] at hg;have jU:=Fo s.type;unfold ZH cH at jU;refine goN ?_;simp only [W,seval,Ms,hn,e1,hg,bu,cR];refine aX (Hq s.names _ _) ?_;refine az.go 20 ?_;simp only [W,seval,Ms,hn];refine aX (jU _ _) ?_;refine az.go 20 ?_;simp only [W,seval,Ms,hn];refine aX (Jp s.cq (fun u _=>Ox u) _ _) ?_;refine az.go 20 ?_;simp only [W,seval,Ms,hn];refine aX (Jp s.exprs (fun u _=>Ox u) _ _) ?_;refine az.go 20 ?_;simp only [W,seval,Ms,hn];refine aX (hb _ _) ?_;refine az.go 20 ?_;simp only [W,seval,Ms,hn];refine aX (he _ _) ?_;refine az.go 40 ?_;simp only [W,seval,Ms,hn,cR,aK];refine az.smQ 83 fun hq=>?_;change sm (.d (.sl (s.cases.map lV)))=true at hq;simp only [sm,aS,aZ] at hq;refine az.dL (fun j:Nat=>(cN 126 [(0,.d (.sl (l.map gE))),(1,.d (.sl (l.map gE))),(5,.d (.int .i64 (i:Int))),(6,.ptr N 0),(7,.ptr (N+1) 0),(8,.d (.int .i64 (j:Int)))],⟨B++[pO s,pO s],T⟩)) (fun j=>j≤s.cases.length) (fun j=>s.cases.length - j) 0 ak cx rfl ?_;rintro j m1 o8;dsimp only at m1 o8 ⊢;unfold pO at o8 ⊢
 by_cases hj:j < s.cases.length
 case neg =>
  have e3:decide ((j:Int) < (s.cases.length:Int))=false:=af ak;refine az.oV (k:=[_,_,_,_,_]) 60 ?_;simp only [W,seval,Ms,hn,e3,ie];refine ih (i+1) ak ak _ B _ T rfl ⟨by simp [hn],aA _⟩ hf ?_;refine gr.env _ ?_;simp only [zB,seval,hn,av,aP,aW,bf,hN0,jI]
 have e3:decide ((j:Int) < (s.cases.length:Int))=true:=ah ak;have uU:=bE ((j:Int)+1) ak;have JJ:(s.cases.map lV)[j]? = some [.int .u64 s.cases[j].int,.sl (s.cases[j].body.map gE)]:=by simp [hj,lN]
 have Vf:=hc s.cases[j] (aH hj);generalize s.cases[j]=c at JJ Vf;refine az.oV (k:=[_,_]) 30 ?_;simp only [W,seval,Ms,hn,e3];refine az.draw cP cP (lA 60 _ _ ?_);simp only [W,seval,Ms,hn,JJ,hj,cR,aK];refine ⟨_,Vf _ _,?_⟩;simp only [W,seval,Ms];refine az.oV (k:=[_,_,_]) 30 ?_;simp only [W,seval,Ms,hn,uU];exact o8 (j+1) ak ak _ _ cx rfl
theorem Jq:∀ (n:Nat) (l:List cL),(∀ s∈l,Dp n s)→V6 l
 | 0,l,h=>L7 l (fun s hs=>(h s hs).elim) (fun s hs=>(h s hs).elim) fun s hs=>(h s hs).elim
 | n+1,l,h=>L7 l (fun s hs=>Jq n s.body (h s hs).1) (fun s hs=>Jq n s.iS (h s hs).2.1) fun s hs c hc=>Jq n c.body ((h s hs).2.2 c hc)
theorem Qe (l:List ep) (B:bQ) (T:eg):cy prog bI 33 [.d (.sl (l.map jK)),.d (.sl (l.map jK))] ⟨B,T⟩ (cF (.d (.bool true)) ⟨B,T⟩):=by
 refine gL b33 fun cG=>?_;simp only [fH] at cG;simp only [W,seval,b33,cR];refine az.dL (fun i:Nat=>(cN 42 [(0,.d (.sl (l.map jK))),(1,.d (.sl (l.map jK))),(5,.d (.int .i64 (i:Int)))],⟨B,T⟩)) (fun i=>i≤l.length) (fun i=>l.length - i) 0 ak cx rfl ?_;rintro i h1 ih;dsimp only at h1 ih ⊢
 by_cases bu:i < l.length
 case neg =>
  have e1:decide ((i:Int) < (l.length:Int))=false:=af ak;refine goN ?_;simp only [W,seval,b33,e1];refine bN b33 (Left.none ?_);exact ⟨rfl,rfl⟩
 have e1:decide ((i:Int) < (l.length:Int))=true:=ah ak;have ie:=bE ((i:Int)+1) ak;have hg:(l.map jK)[i]? = some (jK l[i]):=by simp [bu]
 have hy:=Fo l[i].type;obtain ⟨u,hu⟩:=aV (l[i]);rw [hu] at hg hy;rw [qB] at hg;unfold ZH cH at hy;refine goN ?_;simp only [W,seval,b33,e1];refine az.draw cP cP (lA 60 _ _ ?_);simp only [W,seval,b33,hg,bu,cR,aK];refine ⟨_,hy _ _,?_⟩;simp only [W,seval,b33];refine goN ?_;simp only [W,seval,b33,ie];exact ih (i+1) ak ak _ _ cx rfl
end Go.Proofs.YtnfnbjjnjjdjdaaGreatDoor
namespace Go.Proofs.YtnfnbjjnjjdjdaaGreatDoor
open _root_.Go.Proofs.Tryz
open Go.RowKit Go.Av Go.Ab
def L8:=KB func11 128
theorem ade (pr:rU) (B:bQ) (T:eg):cy prog bI 11 [sy pr,sy pr] ⟨B,T⟩ (cF (.d (.bool true)) ⟨B,T⟩):=by
 obtain ⟨N,hn⟩:=aV B.length;have lW:¬ N+1+1 < N+1+1:=ak;have hN0:N < N+1+1:=ak;have jI:N+1 < N+1+1:=ak;have uj:¬ N+1+1+1 < N+1+1:=ak;unfold sy;refine gL L8 fun cG=>?_;simp only [fH] at cG;simp only [W,seval,L8,hn,cR,aK];obtain ⟨sI,wI⟩:=cG;refine az.dL (fun i:Nat=>(cN 128 [(2,.ptr N 0),(3,.ptr (N+1) 0),(5,.d (.int .i64 (i:Int)))],⟨B++[[.d (.sl (pr.structs.map ki)),.d (.sl (pr.funcs.map lT))],[.d (.sl (pr.structs.map ki)),.d (.sl (pr.funcs.map lT))]],T⟩)) (fun i=>i≤pr.structs.length) (fun i=>pr.structs.length - i) 0 ak cx rfl ?_;rintro i h1 ih;dsimp only at h1 ih ⊢
 by_cases bu:i < pr.structs.length
 case pos =>
  have e1:decide ((i:Int) < (pr.structs.length:Int))=true:=ah ak;have ie:=bE ((i:Int)+1) ak;have hg:(pr.structs.map ki)[i]? = some (ki pr.structs[i]):=by simp [bu]
  generalize pr.structs[i]=u at hg;rw [wQ] at hg;refine goN ?_;simp only [W,seval,L8,hn,e1];refine az.draw cP cP (lA 60 _ _ ?_);simp only [W,seval,L8,hn,hg,bu,cR,aK];refine ⟨_,Qe u.fields _ _,?_⟩;simp only [W,seval,L8];refine goN ?_;simp only [W,seval,L8,hn,ie];exact ih (i+1) ak ak _ _ cx rfl
 clear ih;have e1:decide ((i:Int) < (pr.structs.length:Int))=false:=af ak;refine goN ?_;simp only [W,seval,L8,hn,e1];refine az.fits fun hf=>?_;refine az.m7 (fun i:Nat=>(cN 128 [(2,.ptr N 0),(3,.ptr (N+1) 0),(6,.d (.int .i64 (i:Int)))],⟨B++[[.d (.sl (pr.structs.map ki)),.d (.sl (pr.funcs.map lT))],[.d (.sl (pr.structs.map ki)),.d (.sl (pr.funcs.map lT))]],T⟩)) (fun i=>i≤pr.funcs.length) (fun i=>pr.funcs.length - i) 0 ak cx rfl ?_;clear bu e1 h1 i;rintro i h1 ih;dsimp only at h1 ih ⊢
 by_cases bu:i < pr.funcs.length
 case neg =>
  have e1:decide ((i:Int) < (pr.funcs.length:Int))=false:=af ak;refine goN ?_;simp only [W,seval,L8,hn,e1];refine bN L8 (Left.box ?_);exact ⟨rfl,rfl⟩
 have e1:decide ((i:Int) < (pr.funcs.length:Int))=true:=ah ak;have ie:=bE ((i:Int)+1) ak;have hg:(pr.funcs.map lT)[i]? = some (lT pr.funcs[i]):=by simp [bu]
 generalize pr.funcs[i]=f at hg;rw [sV] at hg;have kz:=Jq (SizeOf.sizeOf f.body) f.body fun s hs=>Dp.xI _ s (Nat.le_of_lt (fI hs));refine goN ?_;simp only [W,seval,L8,hn,e1,hg,bu,cR,aK];refine aX (Qe f.params _ _) ?_;refine az.go 40 ?_;simp only [W,seval,L8,hn,cR,aK];refine aX (kz _ _) ?_;refine az.go 40 ?_;simp only [W,seval,L8,hn,cR,aK];refine az.smQ 94 fun hq=>?_;change sm (.d (.sl (f.results.map eH)))=true at hq;simp only [sm,aS,aZ] at hq;refine az.dL (fun j:Nat=>(cN 128 [(2,.ptr N 0),(3,.ptr (N+1) 0),(6,.d (.int .i64 (i:Int))),(7,.ptr (N+2) 0),(8,.ptr (N+3) 0),(9,.d (.int .i64 (j:Int)))],⟨B++[[.d (.sl (pr.structs.map ki)),.d (.sl (pr.funcs.map lT))],[.d (.sl (pr.structs.map ki)),.d (.sl (pr.funcs.map lT))],[.d (.str f.name),.d (.sl (f.params.map jK)),.d (.sl (f.results.map eH)),.d (.sl (f.body.map gE))],[.d (.str f.name),.d (.sl (f.params.map jK)),.d (.sl (f.results.map eH)),.d (.sl (f.body.map gE))]],T⟩)) (fun j=>j≤f.results.length) (fun j=>f.results.length - j) 0 ak cx rfl ?_;rintro j m1 o8;dsimp only at m1 o8 ⊢
 by_cases hj:j < f.results.length
 case neg =>
  have e3:decide ((j:Int) < (f.results.length:Int))=false:=af ak;refine az.oV (k:=[_,_,_,_,_]) 60 ?_;simp only [W,seval,L8,hn,e3,ie];have hap:∀ a b x y:List V,B++[a,b,x,y]=(B++[a,b])++[x,y]:=fun a b x y=>dM;rw [hap];refine ih (i+1) ak ak _ _ _ T rfl ⟨fk,aA _⟩ hf ?_;refine gr.env _ ?_;simp only [zB,seval,hn,av,aP,aW,bf,Nat.reduceAdd,hN0,jI,lW,uj]
 have e3:decide ((j:Int) < (f.results.length:Int))=true:=ah ak;have uU:=bE ((j:Int)+1) ak;have JJ:(f.results.map eH)[j]? = some (eH f.results[j]):=by simp [hj]
 generalize f.results[j]=t at JJ;rw [eK] at JJ;have jU:=Fo t;unfold ZH cH at jU;refine az.oV (k:=[_,_]) 30 ?_;simp only [W,seval,L8,hn,e3];refine az.draw cP cP (lA 60 _ _ ?_);simp only [W,seval,L8,hn,JJ,hj,cR,aK];refine ⟨_,jU _ _,?_⟩;simp only [W,seval,L8];refine az.oV (k:=[_,_,_]) 30 ?_;simp only [W,seval,L8,hn,uU];exact o8 (j+1) ak ak _ _ cx rfl
def b53:=KB func53 31
def Fp:=KB func100 50
def b52:=KB func52 31
def iP (n:Int):Int:=IntKind.i64.wrap n
mutual
def Qf:bJ→Int→Int
 | .mk _ _ es,m=>Sr es 1 m
def Sr:List bJ→Int→Int→Int
 | [],n,_=>n
 | e :: es,n,m=>if n≤m then Sr es (iP (n+Qf e (iP (m - n)))) m else n
end
def Jr (t:bJ) (n m:Int):Int:=if jn t=true then n else iP (n+Qf t (iP (m - n)))
mutual
def e1W:bh→Int→Int→Int
 | .mk _ _ _ ty _ ks,n,m=>iP (Jr ty (iP (n+1)) m+Hr ks 0 (iP (m - Jr ty (iP (n+1)) m)))
def Hr:List bh→Int→Int→Int
 | [],n,_=>n
 | x :: l,n,m=>if n≤m then Hr l (e1W x n m) m else n
end
def SL:List ep→Int→Int→Int
 | [],n,_=>n
 | x :: l,n,m=>if n≤m then SL l (iP (iP (n+1)+Qf x.type (iP (m - n)))) m else n
theorem V7 (t:bJ) (m:Int):Qf t m=Sr t.elem 1 m:=by cases t;rw [Qf];rfl
theorem V8 (x:bh) (n m:Int):e1W x n m=iP (Jr x.type (iP (n+1)) m+Hr x.kids 0 (iP (m - Jr x.type (iP (n+1)) m))):=by cases x;rw [e1W];rfl
theorem L9 (t:bJ) (S:Mem):cy prog bI 99 [cH t] S (cF (.d (.bool (jn t))) S):=IS t S.boxes S.dG
def ZI (t:bJ):Prop:=∀ (m:Int) (S:Mem),cy prog bI 53 [cH t,.d (.int .i64 m)] S (cF (.d (.int .i64 (Qf t m))) S)
theorem Ss (t:bJ) (h:∀ x∈t.elem,ZI x):ZI t:=by
 intro m S;refine cy.same (v:=.d (.int .i64 (Qf t m))) ?_ rfl rfl S;generalize dN:Qf t m=res;rw [V7] at dN;unfold cH;refine b53.1.go 30 rfl fun cG=>?_;simp only [fH] at cG;simp only [W,seval,b53]
 have hf:Fits ⟨[[.d (.int .i64 t.kind),.d (.str t.name),.d (.sl (t.elem.map eH))]],[]⟩:=fun vs xU=>by
  simp only [bB,aT,sK] at xU;subst xU;rfl
 refine az.m7 (fun a:Nat × Int=>(cN 31 [(1,.d (.int .i64 m)),(2,.ptr 0 0),(5,.d (.int .i64 a.2)),(6,.d (.int .i64 a.1))],⟨[[.d (.int .i64 t.kind),.d (.str t.name),.d (.sl (t.elem.map eH))]],[]⟩)) (fun a=>a.1≤t.elem.length∧Sr (t.elem.drop a.1) a.2 m=res) (fun a=>t.elem.length - a.1) (0,1) ⟨ak,dN⟩ cx rfl ?_;rintro ⟨i,q⟩ ⟨h1,h2⟩ ih;dsimp only at h1 h2 ih ⊢
 by_cases bu:i < t.elem.length
 ·have hw:=bE ((i:Int)+1) ak;have dY:decide ((i:Int) < (t.elem.length:Int))=true:=ah ak;have hg:=au bu;have Mt:=h t.elem[i] (aH bu);rw [fj bu] at h2;obtain ⟨x,hx⟩:=aV (t.elem[i]);rw [hx] at hg h2 Mt;rw [Sr] at h2;unfold ZI cH at Mt;cases hle:decide (q≤m)
  ·rw [aq (dJ hle)] at h2;refine goN ?_;simp only [W,seval,b53,dY,hle];refine bN b53 (Left.empty ?_);rw [h2];exact ⟨rfl,rfl⟩
  ·rw [aD (bV hle)] at h2;refine goN ?_;simp only [W,seval,b53,aL,hg,dY,hle,eK];refine aX (Mt _ _) ?_;refine goN ?_;simp only [W,seval,b53,hw];refine ih (i+1,iP (q+Qf x (iP (m - q)))) ⟨bu,h2⟩ gP _ _ [] _ rfl ⟨bG _,bG _⟩ hf ?_;refine gr.env _ ?_;simp only [zB,seval,iP];exact rfl
 ·have dY:decide ((i:Int) < (t.elem.length:Int))=false:=af ak;rw [ay ak,Sr] at h2;refine goN ?_;simp only [W,seval,b53,dY];refine bN b53 (Left.empty ?_);rw [h2];exact ⟨rfl,rfl⟩
mutual
theorem Bc:∀ t:bJ,ZI t
 | .mk k n es=>Ss (.mk k n es) (Ma es)
theorem Ma:∀ l:List bJ,∀ x∈l,ZI x
 | [],_,h=>absurd h aT
 | y :: l,x,h=>by
  rcases bB.1 h with e | e
  ·rw [e];exact Bc y
  ·exact Ma l x e
end
theorem Fq (l:List ep) (m:Int) (S:Mem):cy prog bI 52 [.d (.sl (l.map jK)),.d (.int .i64 m)] S (cF (.d (.int .i64 (SL l 0 m))) S):=by
 refine cy.same (v:=.d (.int .i64 (SL l 0 m))) ?_ rfl rfl S;generalize dN:SL l 0 m=res;refine b52.1.go 30 rfl fun cG=>?_;simp only [fH] at cG;simp only [W,seval,b52];refine az.dL (fun a:Nat × Int=>(cN 31 [(0,.d (.sl (l.map jK))),(1,.d (.int .i64 m)),(5,.d (.int .i64 a.2)),(6,.d (.int .i64 a.1))],⟨[],[]⟩)) (fun a=>a.1≤l.length∧SL (l.drop a.1) a.2 m=res) (fun a=>l.length - a.1) (0,0) ⟨ak,dN⟩ cx rfl ?_;rintro ⟨i,q⟩ ⟨h1,h2⟩ ih;dsimp only at h1 h2 ih ⊢
 by_cases bu:i < l.length
 ·have hw:=bE ((i:Int)+1) ak;have dY:decide ((i:Int) < (l.length:Int))=true:=ah ak;have hg:=au bu;rw [fj bu] at h2;obtain ⟨x,hx⟩:=aV (l[i]);rw [hx] at hg h2;rw [SL] at h2;have Mt:=Bc x.type;unfold ZI cH at Mt;cases hle:decide (q≤m)
  ·rw [aq (dJ hle)] at h2;refine goN ?_;simp only [W,seval,b52,dY,hle];refine bN b52 (Left.empty ?_);rw [h2];exact ⟨rfl,rfl⟩
  ·rw [aD (bV hle)] at h2;refine goN ?_;simp only [W,seval,b52,aL,hg,dY,hle,qB];refine aX (Mt _ _) ?_;refine goN ?_;simp only [W,seval,b52,hw];refine ih (i+1,iP (iP (q+1)+Qf x.type (iP (m - q)))) ⟨bu,h2⟩ gP _ _ ?_ rfl;refine eU.env _ ?_;simp only [qa,seval,iP]
 ·have dY:decide ((i:Int) < (l.length:Int))=false:=af ak;rw [ay ak,SL] at h2;refine goN ?_;simp only [W,seval,b52,dY];refine bN b52 (Left.empty ?_);rw [h2];exact ⟨rfl,rfl⟩
def PEx (l:List bh):Prop:=∀ (m:Int) (S:Mem),cy prog bI 100 [.d (.sl (l.map eL)),.d (.int .i64 m)] S (cF (.d (.int .i64 (Hr l 0 m))) S)
theorem CM (l:List bh) (h:∀ x∈l,PEx x.kids):PEx l:=by
 intro m S;refine cy.same (v:=.d (.int .i64 (Hr l 0 m))) ?_ rfl rfl S;generalize dN:Hr l 0 m=res;refine Fp.1.go 30 rfl fun cG=>?_;simp only [fH] at cG;simp only [W,seval,Fp];refine az.dL (fun a:Nat × Int=>(cN 50 [(0,.d (.sl (l.map eL))),(1,.d (.int .i64 m)),(5,.d (.int .i64 a.2)),(6,.d (.int .i64 a.1))],⟨[],[]⟩)) (fun a=>a.1≤l.length∧Hr (l.drop a.1) a.2 m=res) (fun a=>l.length - a.1) (0,0) ⟨ak,dN⟩ cx rfl ?_;rintro ⟨i,q⟩ ⟨h1,h2⟩ ih;dsimp only at h1 h2 ih ⊢
 by_cases bu:i < l.length
 ·have hw:=bE ((i:Int)+1) ak;have dY:decide ((i:Int) < (l.length:Int))=true:=ah ak;have hg:=au bu;have Q8:=h l[i] (aH bu);rw [fj bu] at h2;obtain ⟨x,hx⟩:=aV (l[i]);rw [hx] at hg h2 Q8;rw [Hr] at h2;have Mt:=Bc x.type;unfold ZI cH at Mt;have hz:=L9 x.type;unfold cH at hz;cases hle:decide (q≤m)
  ·rw [aq (dJ hle)] at h2;refine goN ?_;simp only [W,seval,Fp,dY,hle];refine bN Fp (Left.empty ?_);rw [h2];exact ⟨rfl,rfl⟩
  ·rw [aD (bV hle),V8] at h2;refine goN ?_;simp only [W,seval,Fp,aL,hg,dY,hle,dF];refine aX (hz _) ?_;cases Mw:jn x.type
   case' false =>
    have ht:Jr x.type (iP (q+1)) m=iP (iP (q+1)+Qf x.type (iP (m - iP (q+1)))):=aq (by rw [Mw];decide);simp only [iP] at ht;refine goN ?_;simp only [W,seval,Fp,aL,hg,Mw,dF];refine aX (Mt _ _) ?_;refine goN ?_;simp only [W,seval,Fp,aL,hg,dF]
   case' true =>
    have ht:Jr x.type (iP (q+1)) m=iP (q+1):=aD Mw;simp only [iP] at ht;refine goN ?_;simp only [W,seval,Fp,aL,hg,Mw,dF]
   all_goals
    refine aX (Q8 _ _) ?_;refine goN ?_;simp only [W,seval,Fp,hw];refine ih (i+1,iP (Jr x.type (iP (q+1)) m+Hr x.kids 0 (iP (m - Jr x.type (iP (q+1)) m)))) ⟨bu,h2⟩ gP _ _ ?_ rfl;refine eU.env _ ?_;simp only [qa,seval,iP,ht]
 ·have dY:decide ((i:Int) < (l.length:Int))=false:=af ak;rw [ay ak,Hr] at h2;refine goN ?_;simp only [W,seval,Fp,dY];refine bN Fp (Left.empty ?_);rw [h2];exact ⟨rfl,rfl⟩
mutual
theorem Oy:∀ t:bh,PEx t.kids
 | .mk _ _ _ _ _ es=>CM es (zv es)
theorem zv:∀ l:List bh,∀ x∈l,PEx x.kids
 | [],_,h=>absurd h aT
 | y :: l,x,h=>by
  rcases bB.1 h with e | e
  ·rw [e];exact Oy y
  ·exact zv l x e
end
theorem Hs (l:List bh):PEx l:=CM l (zv l)
def FC:=KB func54 113
def Js:=KB func20 113
def b7:=KB func7 6
mutual
def Jt:List cL→Int→Int→Int
 | [],n,_=>n
 | s :: l,n,m=>if n≤m then Jt l (s1W s n m) m else n
def s1W:cL→Int→Int→Int
 | .mk _ _ ty ls es b e cs,n,m =>
  csW cs (iP (iP (iP (iP (Jr ty (iP (n+1)) m+Hr ls 0 (iP (m - Jr ty (iP (n+1)) m)))+Hr es 0 (iP (m - Jr ty (iP (n+1)) m)))+Jt b 0 (iP (m - iP (iP (Jr ty (iP (n+1)) m+Hr ls 0 (iP (m - Jr ty (iP (n+1)) m)))+Hr es 0 (iP (m - Jr ty (iP (n+1)) m))))))+Jt e 0 (iP (m - iP (iP (Jr ty (iP (n+1)) m+Hr ls 0 (iP (m - Jr ty (iP (n+1)) m)))+Hr es 0 (iP (m - Jr ty (iP (n+1)) m))))))) m
def csW:List iB→Int→Int→Int
 | [],n,_=>n
 | .mk _ b :: l,n,m=>if n≤m then csW l (iP (iP (n+1)+Jt b 0 (iP (m - n)))) m else n
end
theorem V9 (k:iB) (l:List iB) (n m:Int):csW (k :: l) n m=if n≤m then csW l (iP (iP (n+1)+Jt k.body 0 (iP (m - n)))) m else n:=by cases k;rw [csW];rfl
theorem adf (s:cL) (n m n2 n3:Int) (h2:Jr s.type (iP (n+1)) m=n2) (h3:iP (iP (n2+Hr s.cq 0 (iP (m - n2)))+Hr s.exprs 0 (iP (m - n2)))=n3) :
 s1W s n m=csW s.cases (iP (iP (n3+Jt s.body 0 (iP (m - n3)))+Jt s.iS 0 (iP (m - n3)))) m:=by
 subst h2;subst h3;cases s;rw [s1W];rfl
def SM (l:List cL):Prop:=∀ (m:Int) (S:Mem),cy prog bI 54 [.d (.sl (l.map gE)),.d (.int .i64 m)] S (cF (.d (.int .i64 (Jt l 0 m))) S)
theorem tU (l:List cL) (h:∀ x∈l,SM x.body∧SM x.iS∧∀ k∈x.cases,SM k.body):SM l:=by
 intro m S;refine cy.same (v:=.d (.int .i64 (Jt l 0 m))) ?_ rfl rfl S;generalize dN:Jt l 0 m=res;refine FC.1.go 30 rfl fun cG=>?_;simp only [fH] at cG;simp only [W,seval,FC];refine az.dL (fun a:Nat × Int=>(cN 113 [(0,.d (.sl (l.map gE))),(1,.d (.int .i64 m)),(5,.d (.int .i64 a.2)),(6,.d (.int .i64 a.1))],⟨[],[]⟩)) (fun a=>a.1≤l.length∧Jt (l.drop a.1) a.2 m=res) (fun a=>l.length - a.1) (0,0) ⟨ak,dN⟩ cx rfl ?_;rintro ⟨i,q⟩ ⟨h1,h2⟩ ih;dsimp only at h1 h2 ih ⊢
 by_cases bu:i < l.length
 ·have hw:=bE ((i:Int)+1) ak;have dY:decide ((i:Int) < (l.length:Int))=true:=ah ak;have hg:=au bu;have Q8:=h l[i] (aH bu);rw [fj bu] at h2;obtain ⟨x,hx⟩:=aV (l[i]);rw [hx] at hg h2 Q8;obtain ⟨hxb,hxe,hxc⟩:=Q8;have Mt:=Bc x.type;unfold ZI cH at Mt;have hz:=L9 x.type;unfold cH at hz;rw [Jt] at h2;cases hle:decide (q≤m)
  ·rw [aq (dJ hle)] at h2;refine goN ?_;simp only [W,seval,FC,dY,hle];refine bN FC (Left.empty ?_);rw [h2];exact ⟨rfl,rfl⟩
  rw [aD (bV hle)] at h2;obtain ⟨n2,WT⟩:=aV (Jr x.type (iP (q+1)) m);obtain ⟨n3,hn3⟩:=aV (iP (iP (n2+Hr x.cq 0 (iP (m - n2)))+Hr x.exprs 0 (iP (m - n2))));obtain ⟨n4,hn4⟩:=aV (iP (iP (n3+Jt x.body 0 (iP (m - n3)))+Jt x.iS 0 (iP (m - n3))));rw [adf x q m n2 n3 WT hn3,hn4] at h2;refine goN ?_;simp only [W,seval,FC,aL,hg,dY,hle,iZ];refine aX (hz _) ?_;cases Mw:jn x.type
  case' false =>
   have ht:iP (iP (q+1)+Qf x.type (iP (m - iP (q+1))))=n2:=by rw [← WT];exact (aq (by rw [Mw];decide)).symm
   simp only [iP] at ht;refine goN ?_;simp only [W,seval,FC,aL,hg,Mw,iZ];refine aX (Mt _ _) ?_;refine goN ?_;simp only [W,seval,FC,aL,hg,iZ,ht]
  case' true =>
   have ht:iP (q+1)=n2:=by rw [← WT];exact (aD Mw).symm
   simp only [iP] at ht;refine goN ?_;simp only [W,seval,FC,aL,hg,Mw,iZ,ht]
  all_goals
   clear ht WT hle hz Mt;simp only [iP] at hn3 hn4;refine az.draw cP cP (lA 60 _ _ ?_);simp only [W,seval,FC,aL,hg,iZ,bu];refine ⟨_,Hs x.cq _ _,?_⟩;simp only [W,seval,FC,aL,hg,iZ,bu];refine ⟨_,Hs x.exprs _ _,?_⟩;simp only [W,seval,FC,aL,hg,iZ,bu,hn3];refine az.go 20 ?_;simp only [W,seval,FC,hn3];refine az.draw cP cP (lA 60 _ _ ?_);simp only [W,seval,FC,aL,hg,iZ,bu];refine ⟨_,hxb _ _,?_⟩;simp only [W,seval,FC,aL,hg,iZ,bu];refine ⟨_,hxe _ _,?_⟩;simp only [W,seval,FC,aL,hg,iZ,bu,hn4];refine az.go 20 ?_;simp only [W,seval,FC,hn4];clear hn3 hn4;refine az.dL (fun b:Nat × Int=>(cN 113 [(0,.d (.sl (l.map gE))),(1,.d (.int .i64 m)),(5,.d (.int .i64 b.2)),(6,.d (.int .i64 i)),(7,.d (.int .i64 b.1))],⟨[],[]⟩)) (fun b=>b.1≤x.cases.length∧Jt (l.drop (i+1)) (csW (x.cases.drop b.1) b.2 m) m=res) (fun b=>x.cases.length - b.1) (0,n4) ⟨ak,h2⟩ cx rfl ?_;rintro ⟨j,r⟩ ⟨g1,g2⟩ o8;dsimp only at g1 g2 o8 ⊢
   by_cases Je:j < x.cases.length
   ·have JJ:=au Je;have hkx:=hxc x.cases[j] (aH Je);rw [fj Je] at g2;obtain ⟨k,hk⟩:=aV (x.cases[j]);rw [hk] at JJ g2 hkx;rw [V9] at g2;have Ju:decide ((j:Int) < (x.cases.length:Int))=true:=ah ak;cases VC:decide (r≤m)
    ·rw [aq (dJ VC)] at g2;refine goN ?_;simp only [W,seval,FC,aL,hg,Ju,VC,iZ,hw];exact ih (i+1,r) ⟨bu,g2⟩ gP _ _ cx rfl
    ·rw [aD (bV VC)] at g2;refine goN ?_;simp only [W,seval,FC,aL,hg,Ju,VC,iZ,JJ,lN];refine aX (hkx _ _) ?_;refine az.small fun NN=>?_
     have qW:x.cases.length≤9223372036854775807:=by
      have:=(u9 _).1 NN 86 (by simp [cN,dD])
      simpa [cN,dD,lk,sm] using this
     clear NN;have uU:=bE ((j:Int)+1) ak;refine goN ?_;simp only [W,seval,FC,uU];refine o8 (j+1,iP (iP (r+1)+Jt k.body 0 (iP (m - r)))) ⟨Je,g2⟩ gP _ _ ?_ rfl;refine eU.env _ ?_;simp only [qa,seval,iP]
   ·have Ju:decide ((j:Int) < (x.cases.length:Int))=false:=af ak;have yO:x.cases.drop j=[]:=ay ak;rw [yO,csW] at g2;refine goN ?_;simp only [W,seval,FC,aL,hg,Ju,iZ,hw];exact ih (i+1,r) ⟨bu,g2⟩ gP _ _ cx rfl
 ·have dY:decide ((i:Int) < (l.length:Int))=false:=af ak;rw [ay ak,Jt] at h2;refine goN ?_;simp only [W,seval,FC,dY];refine bN FC (Left.empty ?_);rw [h2];exact ⟨rfl,rfl⟩
mutual
theorem ZJ:∀ s:cL,SM s.body∧SM s.iS∧∀ k∈s.cases,SM k.body
 | .mk _ _ _ _ _ b e cs=>⟨tU b (Bd b),tU e (Bd e),Qg cs⟩
theorem Bd:∀ l:List cL,∀ x∈l,SM x.body∧SM x.iS∧∀ k∈x.cases,SM k.body
 | [],_,h=>absurd h aT
 | y :: l,x,h=>by
  rcases bB.1 h with e | e
  ·rw [e];exact ZJ y
  ·exact Bd l x e
theorem Qg:∀ l:List iB,∀ k∈l,SM k.body
 | [],_,h=>absurd h aT
 | .mk i b :: l,x,h=>by
  rcases bB.1 h with e | e
  ·rw [e];exact tU b (Bd b)
  ·exact Qg l x e
end
theorem St (l:List cL):SM l:=tU l (Bd l)
def rpW:List bJ→Int→Int→Int
 | [],n,_=>n
 | t :: l,n,m=>if n≤m then rpW l (iP (n+Qf t (iP (m - n)))) m else n
def Mb:List eZ→Int→Int→Int
 | [],n,_=>n
 | s :: l,n,m=>if n≤m then Mb l (iP (n+SL s.fields 0 (iP (m - n)))) m else n
def f1W (f:fL) (n m:Int):Int:=iP (rpW f.results (iP (n+SL f.params 0 (iP (m - n)))) m+Jt f.body 0 (iP (m - rpW f.results (iP (n+SL f.params 0 (iP (m - n)))) m)))
def Mc:List fL→Int→Int→Int
 | [],n,_=>n
 | f :: l,n,m=>if n≤m then Mc l (f1W f n m) m else n
def prW (p:rU) (m:Int):Int :=
 if m < Mc p.funcs (Mb p.structs (iP ((p.structs.length:Int)+p.funcs.length)) m) m then iP (m+1) else Mc p.funcs (Mb p.structs (iP ((p.structs.length:Int)+p.funcs.length)) m) m
theorem Md (pr:rU) (m:Int) (S:Mem):cy prog bI 20 [sy pr,.d (.int .i64 m)] S (cF (.d (.int .i64 (prW pr m))) S):=by
 refine cy.same (v:=.d (.int .i64 (prW pr m))) ?_ rfl rfl S;generalize dN:prW pr m=res;obtain ⟨n0,MA⟩:=aV (iP ((pr.structs.length:Int)+pr.funcs.length));obtain ⟨n1,hn1⟩:=aV (Mb pr.structs n0 m);obtain ⟨n2,WT⟩:=aV (Mc pr.funcs n1 m);have OX:(if m < n2 then iP (m+1) else n2)=res:=by rw [← dN,← WT,← hn1,← MA];rfl
 simp only [iP] at MA OX;unfold sy;refine Js.1.go 30 rfl fun cG=>?_;simp only [fH] at cG;simp only [W,seval,Js,MA]
 have hf:Fits ⟨[[.d (.sl (pr.structs.map ki)),.d (.sl (pr.funcs.map lT))]],[]⟩:=fun vs xU=>by
  simp only [bB,aT,sK] at xU;subst xU;rfl
 have aaU:∀ iI:List V,nR (cN 113 [(1,.d (.int .i64 m)),(2,.ptr 0 0),(5,.d (.int .i64 n1)),(7,.d (.int .i64 0))]) iI →
  az prog bI (0,0) 20 [.code (.loop (kF f20 24)),.inBlock 2,.code (kF f20 51)] iI ⟨[[.d (.sl (pr.structs.map ki)),.d (.sl (pr.funcs.map lT))]],[]⟩ (Ab.Left ⟨[],[]⟩ (cF (.d (.int .i64 res)) ⟨[],[]⟩)):=by
  intro iI Tn;refine az.ng Tn ?_;refine az.m7 (fun a:Nat × Int=>(cN 113 [(1,.d (.int .i64 m)),(2,.ptr 0 0),(5,.d (.int .i64 a.2)),(7,.d (.int .i64 a.1))],⟨[[.d (.sl (pr.structs.map ki)),.d (.sl (pr.funcs.map lT))]],[]⟩)) (fun a=>a.1≤pr.funcs.length∧Mc (pr.funcs.drop a.1) a.2 m=n2) (fun a=>pr.funcs.length - a.1) (0,n1) ⟨ak,WT⟩ cx rfl ?_;rintro ⟨i,q⟩ ⟨h1,h2⟩ ih;dsimp only at h1 h2 ih ⊢
  by_cases bu:i < pr.funcs.length
  case' pos =>
   have dY:decide ((i:Int) < (pr.funcs.length:Int))=true:=ah ak
   by_cases hle:q≤m
   case' pos =>
    have qF:decide (q≤m)=true:=ah hle;have hw:=bE ((i:Int)+1) ak;have hg:=au bu;rw [fj bu,Mc,aD hle] at h2;obtain ⟨x,hx⟩:=aV (pr.funcs[i]);rw [hx] at hg h2;obtain ⟨p1,hp1⟩:=aV (iP (q+SL x.params 0 (iP (m - q))));obtain ⟨p2,XM⟩:=aV (rpW x.results p1 m);obtain ⟨p3,hp3⟩:=aV (iP (p2+Jt x.body 0 (iP (m - p2))));have hf1:f1W x q m=p3:=by unfold f1W;rw [hp1,XM,hp3]
    rw [hf1] at h2;simp only [iP] at hp1 hp3;refine goN ?_;simp only [W,seval,Js,aL,hg,dY,qF,sV];refine aX (Fq x.params _ _) ?_;refine goN ?_;simp only [W,seval,Js,hp1];refine az.m7 (fun a:Nat × Int=>(cN 113 [(1,.d (.int .i64 m)),(2,.ptr 0 0),(5,.d (.int .i64 a.2)),(7,.d (.int .i64 i)),(8,.d (.int .i64 a.1))],⟨[[.d (.sl (pr.structs.map ki)),.d (.sl (pr.funcs.map lT))]],[]⟩)) (fun a=>a.1≤x.results.length∧rpW (x.results.drop a.1) a.2 m=p2) (fun a=>x.results.length - a.1) (0,p1) ⟨ak,XM⟩ cx rfl ?_;rintro ⟨j,r⟩ ⟨g1,g2⟩ o8;dsimp only at g1 g2 o8 ⊢
    by_cases Je:j < x.results.length
    case' pos =>
     have Ju:decide ((j:Int) < (x.results.length:Int))=true:=ah ak
     by_cases VC:r≤m
     case' pos =>
      have adg:decide (r≤m)=true:=ah VC;have JJ:=au Je;rw [fj Je,rpW,aD VC] at g2;obtain ⟨k,hk⟩:=aV (x.results[j]);rw [hk] at JJ g2;have Mt:=Bc k;unfold ZI cH at Mt;refine goN ?_;simp only [W,seval,Js,aL,hg,JJ,Ju,adg,sV,eK];refine aX (Mt _ _) ?_;refine az.small fun NN=>?_
      have qW:x.results.length≤9223372036854775807:=by
       have:=(u9 _).1 NN 70 (by simp [cN,dD])
       simpa [cN,dD,lk,sm] using this
      clear NN;have uU:=bE ((j:Int)+1) ak;refine goN ?_;simp only [W,seval,Js,uU];refine o8 (j+1,iP (r+Qf k (iP (m - r)))) ⟨Je,g2⟩ gP _ _ [] _ rfl ⟨bG _,bG _⟩ hf ?_;refine gr.env _ ?_;simp only [zB,seval,iP];exact rfl
     case' neg =>
      have adg:decide (r≤m)=false:=af VC;rw [fj Je,rpW,aq VC] at g2;refine goN ?_;simp only [W,seval,Js,aL,hg,Ju,adg,sV]
    case' neg =>
     have Ju:decide ((j:Int) < (x.results.length:Int))=false:=af ak;have yO:x.results.drop j=[]:=ay ak;rw [yO,rpW] at g2;refine goN ?_;simp only [W,seval,Js,aL,hg,Ju,sV]
    iterate 2
     subst g2;refine aX (St x.body _ _) ?_;refine goN ?_;simp only [W,seval,Js,hp3,hw];refine ih (i+1,p3) ⟨bu,h2⟩ gP _ _ [] _ rfl ⟨bG _,bG _⟩ hf ?_;refine gr.env _ ?_;simp only [zB,seval];exact rfl
   case' neg =>
    have qF:decide (q≤m)=false:=af hle;rw [fj bu,Mc,aq hle] at h2;refine az.go 40 ?_;simp only [W,seval,Js,dY,qF]
  case' neg =>
   have dY:decide ((i:Int) < (pr.funcs.length:Int))=false:=af ak;have yO:pr.funcs.drop i=[]:=ay ak;rw [yO,Mc] at h2;refine az.go 40 ?_;simp only [W,seval,Js,dY]
  all_goals
   subst h2
   by_cases hm:m < q
   ·have hm':decide (m < q)=true:=ah hm;rw [aD hm] at OX;simp only [W,seval,Js,hm'];refine bN Js (Left.empty ?_);rw [← OX];exact ⟨rfl,rfl⟩
   ·have hm':decide (m < q)=false:=af hm;rw [aq hm] at OX;simp only [W,seval,Js,hm'];refine bN Js (Left.empty ?_);rw [← OX];exact ⟨rfl,rfl⟩
 refine az.m7 (fun a:Nat × Int=>(cN 113 [(1,.d (.int .i64 m)),(2,.ptr 0 0),(5,.d (.int .i64 a.2)),(6,.d (.int .i64 a.1))],⟨[[.d (.sl (pr.structs.map ki)),.d (.sl (pr.funcs.map lT))]],[]⟩)) (fun a=>a.1≤pr.structs.length∧Mb (pr.structs.drop a.1) a.2 m=n1) (fun a=>pr.structs.length - a.1) (0,n0) ⟨ak,hn1⟩ cx rfl ?_;rintro ⟨i,q⟩ ⟨h1,h2⟩ ih;dsimp only at h1 h2 ih ⊢
 by_cases bu:i < pr.structs.length
 case' pos =>
  have dY:decide ((i:Int) < (pr.structs.length:Int))=true:=ah ak
  by_cases hle:q≤m
  case' pos =>
   have qF:decide (q≤m)=true:=ah hle;have hw:=bE ((i:Int)+1) ak;have hg:=au bu;rw [fj bu,Mb,aD hle] at h2;obtain ⟨x,hx⟩:=aV (pr.structs[i]);rw [hx] at hg h2;refine goN ?_;simp only [W,seval,Js,aL,hg,dY,qF,wQ];refine aX (Fq x.fields _ _) ?_;refine goN ?_;simp only [W,seval,Js,hw];refine ih (i+1,iP (q+SL x.fields 0 (iP (m - q)))) ⟨bu,h2⟩ gP _ _ [] _ rfl ⟨bG _,bG _⟩ hf ?_;refine gr.env _ ?_;simp only [zB,seval,iP];exact rfl
  case' neg =>
   have qF:decide (q≤m)=false:=af hle;rw [fj bu,Mb,aq hle] at h2;subst h2;refine goN ?_;simp only [W,seval,Js,dY,qF];exact aaU _ cx
 case' neg =>
  have dY:decide ((i:Int) < (pr.structs.length:Int))=false:=af ak;rw [ay ak,Mb] at h2;subst h2;refine goN ?_;simp only [W,seval,Js,dY];exact aaU _ cx
theorem Wa (pr:rU) (S:Mem):cy prog bI 7 [sy pr] S (cF (.d (.bool (decide (2500 < prW pr 2500)))) S):=by
 refine cy.same (v:=.d (.bool (decide (2500 < prW pr 2500)))) ?_ rfl rfl S;have h:=Md pr 2500;unfold sy at h ⊢;refine zR b7 ?_;simp only [W,seval,b7];refine aX (h _) ?_;refine goN ?_;simp only [W,seval,b7];refine bN b7 (Left.empty ?_);exact ⟨rfl,rfl⟩
end Go.Proofs.YtnfnbjjnjjdjdaaGreatDoor
namespace Go.Ab
open Go.ChangeShapes Go.WideShapes Go.ChangeAt Go.RowKit Go.Av
def ZK (T:TypeId→List D→Prop):List Field→List D→Prop
 | [],ds=>ds=[]
 | f :: fs,ds=>∃ a b,ds=a++b∧T f.type a∧ZK T fs b
def zC (P:Program):Nat→TypeId→List D→Prop
 | 0,_,_=>False
 | n+1,t,ds=>match P.underlying t with
  | some .bool=>∃ b,ds=[.bool b]
  | some (.int k)=>∃ m,ds=[.int k m]∧(Lit.int k m).wf=true
  | some .string=>∃ s,ds=[.str s]∧s.length≤9223372036854775807
  | some (.slice e)=>∃ rows,ds=[.sl rows]∧rows.length≤9223372036854775807∧∀ r∈rows,zC P n e r
  | some (.struct fs)=>ZK (zC P n) fs.toList ds
  | _=>False
def Ft (P:Program):List Field→Nat→Option Nat
 | [],o=>some o
 | f :: fs,o=>if f.offset=o then Ft P fs (o+P.cellsOf f.type) else none
def Oz (P:Program) (L:List TypeId) (t:TypeId):Bool :=
 match P.underlying t with
 | some .bool=>true
 | some (.int _)=>true
 | some .string=>true
 | some (.slice e)=>L.contains e && decide (0 < P.cellsOf e)
 | some (.struct fs)=>fs.toList.all (fun f=>L.contains f.type) && Ft P fs.toList 0 == some (P.cellsOf t)
 | _=>false
theorem Me {α:Type} (Q:Nat→α→Prop):∀ len:Nat,(∀ i < len,∃ a,Q i a)→∃ l:List α,l.length=len∧∀ i (hi:i < l.length),Q i l[i]
 | 0,_=>⟨[],rfl,fun i hi=>by cases hi⟩
 | n+1,h=>by
  obtain ⟨l,hl,hq⟩:=Me Q n (fun i hi=>h i ak);obtain ⟨a,ha⟩:=h n ak;refine ⟨l++[a],by simp [hl],fun i hi=>?_⟩
  by_cases hin:i < l.length
  ·rw [cA hin];exact hq i hin
  ·have:i=n:=by simp at hi;omega
   subst this
   have Bl:(l++[a])[i]'hi=a:=by
    rw [dZ ak];simp
   rw [Bl];exact ha
theorem Wb {w:World} {a:Addr} {v:Value} (h:w.cell? a=some v):a.block < w.heap.size∧a.spot=none:=by
 unfold World.cell? at h;cases hb:w.heap[a.block]? with
 | none=>rw [hb] at h;cases h
 | some o =>
  refine ⟨(bD.1 hb).1,?_⟩;rw [hb] at h;cases o<;>simp at h;obtain ⟨h1,_⟩:=h;exact h1
section
variable {P:Program} {H:Type} {enc:TypeId × Value→H} {W:World} {sp:Nat→Bool} {held:Bool}
abbrev Su (W:World):Nat→Nat→Prop:=fun g _=>W.heap.size≤g
def Jv (P:Program) (W:World) (n:Nat) (t:TypeId) (cs:List Value) (ds:List D):Prop:=zC P n t ds∧ds.length=cs.length∧∀ j (h:j < ds.length),DR (Su W) W ds[j] (cs.getD j undef)
theorem CN (n:Nat) (cs:List Value):∀ (l:List Field) (o:Nat),Ft P l o=some cs.length →
 (∀ f∈l,∃ ds,Jv P W n f.type ((cs.drop f.offset).take (P.cellsOf f.type)) ds)→o≤cs.length∧∃ ds,ZK (zC P n) l ds∧ds.length=cs.length - o∧∀ j (h:j < ds.length),DR (Su W) W ds[j] (cs.getD (o+j) undef)
 | [],o,h,_=>by
  have:o=cs.length:=ag h;exact ⟨ak,[],rfl,fk,fun j h=>by simp at h⟩
 | f :: fs,o,h,hf=>by
  unfold Ft at h
  split at h
  case isFalse=>cases h
  rename_i ho;obtain ⟨a,a1,a2,a3⟩:=hf f aI;obtain ⟨b0,b,b1,b2,b3⟩:=CN n cs fs _ h fun g hg=>hf g (aU _ hg);rw [ho] at a2 a3;have ha:a.length=P.cellsOf f.type:=by rw [a2,cg,eG];omega
  refine ⟨ak,a++b,⟨a,b,rfl,a1,b1⟩,by rw [av,b2];omega,fun j hj=>?_⟩;rcases ct j a.length with bu | nU
  ·rw [cA bu];have:=a3 j bu;rw [dm,bp,aD ak,dS] at this;rw [dm];exact this
  ·rw [dZ nU];have:=b3 (j - a.length) (by rw [av] at hj;omega);rw [show o+P.cellsOf f.type+(j - a.length)=o+j by omega] at this;exact this
theorem adh (L:List TypeId) (hL:L.all (Oz P L)=true):∀ (fuel:Nat) (t:TypeId) (cs:List Value) (y:DataW H × List MemPlace),L.contains t=true→DataW.trod enc P W 0 sp held fuel t cs=some y→∃ ds,Jv P W fuel t cs ds:=by
 intro fuel
 induction fuel with
 | zero=>intro t cs y _ h;simp [DataW.trod] at h
 | succ n ih =>
  intro t cs y ht h;have Mg:=cC.1 hL t (bZ.1 ht);unfold Oz at Mg
  split at Mg
  ·rename_i hu;obtain ⟨b,rfl,_⟩:=DataW.trod_bool hu h;refine ⟨[.bool b],?_,rfl,fun j hj=>?_⟩
   ·simp only [zC,hu];exact ⟨b,rfl⟩
   ·have:j=0:=by simp at hj;exact hj
    subst this;exact .bool b
  ·rename_i k hu;obtain ⟨m,rfl,_,hw⟩:=DataW.trod_int hu h;refine ⟨[.int k m],?_,rfl,fun j hj=>?_⟩
   ·simp only [zC,hu];exact ⟨m,rfl,hw⟩
   ·have:j=0:=by simp at hj;exact hj
    subst this;exact .int k m
  ·rename_i hu;obtain ⟨s,rfl,_,hs⟩:=DataW.trod_string hu h
   have sI:s.data.toList.length≤9223372036854775807:=by
    have:s.data.toList.length=s.size:=by rw [nP];rfl
    rw [this];exact hs
   refine ⟨[.str s.data.toList],?_,rfl,fun j hj=>?_⟩
   ·simp only [zC,hu];exact ⟨_,rfl,sI⟩
   ·have:j=0:=by simp at hj;exact hj
    subst this;have:=DR.str (M:=Su W) (w:=W) s.data.toList sI;exact this
  ·rename_i e hu;simp only [aF,aZ] at Mg;obtain ⟨he,FW⟩:=Mg;rcases DataW.trod_slice hu h with ⟨rfl,_⟩ | ⟨a,len,cap,elems,rest,n',hn',rfl,_,_,hlc,DD,uq,hq,_⟩
   ·refine ⟨[.sl []],?_,rfl,fun j hj=>?_⟩
    ·simp only [zC,hu];exact ⟨[],rfl,dM,dM⟩
    ·have:j=0:=by simp at hj;exact hj
     subst this;exact .sl [] 1 none 0 (fun _ _=>undef) ak dM dM ak (fun h=>absurd rfl h) (fun j h=>by simp at h)
   ·obtain rfl:n=n':=ak
    obtain ⟨rows,hrl,hrq⟩:=Me (fun i (ds:List D)=>∃ ci,W.cells? 0 (a.add (i * P.cellsOf e)) (P.cellsOf e)=some ci∧Jv P W n e ci ds) len (fun i hi=>by
     have hqi:=hq i hi;rw [au ak,dX] at hqi;obtain ⟨ci,vN,o9⟩:=hqi;obtain ⟨ds,hds⟩:=ih e ci _ he o9;exact ⟨ds,ci,vN,hds⟩)
    subst hrl
    have vN:∀ i (hi:i < rows.length),(rows[i]).length=P.cellsOf e∧∀ q (h:q < (rows[i]).length),∃ v,W.cell? (a.add (i * P.cellsOf e+q))=some v∧DR (Su W) W (rows[i])[q] v:=by
     intro i hi;obtain ⟨ci,h1,h2,h3,h4⟩:=hrq i hi;have h5:=World.cells?_some h1;have hlen:ci.length=P.cellsOf e:=h5.2.1;refine ⟨ak,fun q hq=>?_⟩;have h6:=h5.2.2 q ak;rw [Addr.add_add] at h6;refine ⟨ci[q]'ak,by rw [h6];simp,?_⟩;have h7:=h4 q hq;rw [dm,au ak] at h7;exact h7
    refine ⟨[.sl rows],?_,rfl,fun j hj=>?_⟩
    ·simp only [zC,hu];refine ⟨rows,rfl,by have:maxLen=9223372036854775807:=rfl;omega,fun r hr=>?_⟩;obtain ⟨i,hi,rfl⟩:=ga.1 hr;obtain ⟨ci,_,h2,_⟩:=hrq i hi;exact h2
    ·have:j=0:=by simp at hj;exact hj
     subst this
     have v9:rows ≠ []→a.block < W.heap.size∧a.spot=none:=by
      intro gW
      have h0:0 < rows.length:=by
       rcases Nat.eq_zero_or_pos rows.length with e' | e'
       ·exact absurd (aM e') gW
       ·exact e'
      obtain ⟨Cy,hc0⟩:=vN 0 h0;obtain ⟨v,hv,_⟩:=hc0 0 ak;rw [show a.add (0 * P.cellsOf e+0)=a by rw [gk];rfl] at hv;exact Wb hv
     have:=DR.sl (M:=Su W) (w:=W) rows (P.cellsOf e) (some a) cap (fun i q=>(W.cell? (a.add (i * P.cellsOf e+q))).getD undef) FW (fun r hr=>by
      obtain ⟨i,hi,rfl⟩:=ga.1 hr;exact (vN i hi).1) hlc (by have:maxLen=9223372036854775807:=rfl;omega) (fun gW=>by
      obtain ⟨h1,h2⟩:=v9 gW;obtain ⟨g,off,spot⟩:=a;simp only at h1 h2;subst h2;refine ⟨g,off,rfl,fun j hj q hq=>⟨by show ¬ W.heap.size≤g;omega,?_⟩⟩;obtain ⟨v,hv,_⟩:=(vN j hj).2 q hq;rw [hv];rw [Addr.add_plain,← fD] at hv;exact hv) (fun j hj q hq=>by
      obtain ⟨v,hv,hd⟩:=(vN j hj).2 q hq;rw [hv];exact hd)
     exact this
  ·rename_i fs hu;simp only [aF] at Mg;obtain ⟨Mz,akG⟩:=Mg;obtain ⟨xs,n',hn',_,hl,hxl,hf⟩:=DataW.trod_struct hu h;obtain rfl:n=n':=ak;have agZ:Ft P fs.toList 0=some cs.length:=by rw [hl];exact eq_of_beq akG
   obtain ⟨_,ds,h1,h2,h3⟩:=CN (W:=W) n cs fs.toList 0 agZ (fun f hfm=>by
    obtain ⟨i,hi,rfl⟩:=ga.1 hfm;have rE:i < fs.size:=by simpa using hi
    have:=hf i fs[i] (by simp [rE]);rw [au ak] at this;exact ih _ _ _ (cC.1 Mz _ hfm) this)
   refine ⟨ds,?_,ak,fun j hj=>?_⟩
   ·simp only [zC,hu];exact h1
   ·have:=h3 j hj
    rwa [bf] at this
  ·cases Mg
end
def SN (W:World) (I:Inv):Cx:=⟨W.heap.size,[],[],I,fun _ _=>False,fun _ _ h=>h.elim⟩
theorem DR.first {W:World} {I:Inv} {x:D} {v:Value} (h:DR (Su W) W x v):DR (SN W I).M W x v:=h.mono fun g k v _ hv=>⟨by
 rintro ((hm | hm) | ⟨t,i,off,ht,_⟩)
 ·exact hm
 ·simp [SN] at hm
 ·simp [SN] at ht,hv⟩
theorem ji.first {W:World} {I:Inv} (h2:I.top≤W.heap.size) (hI:∀ w',Below W.heap.size W w'→I.holds w'):ji (SN W I) W ⟨[],[]⟩ :=
 ⟨⟨h2,aA _⟩,rfl,fun i b h=>by simp [SN] at h,fun i j b h=>by simp [SN] at h,rfl,fun t i h=>by simp [SN] at h,fun t t' i i' g off Bq h=>by simp [SN] at h,hI⟩
theorem Sv {P:Program} {W:World} {I:Inv} {n:Nat} {t:TypeId} {cs:Array Value} {ds:List D} (h:Jv P W n t cs.toList ds):VR (SN W I) W (.agg (ds.map .d)) (.agg cs):=by
 obtain ⟨_,h2,h3⟩:=h;have h2:ds.length=cs.size:=by simpa using h2
 have key:∀ j,j < ds.length→∃ h:j < ds.length,DR (SN W I).M W ds[j] (cs.getD j undef):=fun j hj=>⟨hj,by
  have:=(h3 j hj).first (I:=I)
  rw [dm,mU] at this;have e:cs.getD j undef=(cs[j]?).getD undef:=by simp [Array.getD,show j < cs.size by omega]
  rw [e];exact this⟩
 refine .agg _ _ (by rw [aS];omega) (fun j hj=>?_) (fun j hj=>?_)
 ·rw [aS] at hj;obtain ⟨_,hd⟩:=key j hj;rw [dy];exact .d _ _ hd
 ·rw [aS] at hj;obtain ⟨_,hd⟩:=key j hj;exact hd.one
theorem cy.law {P:Program} {I:Inv} {f:FuncId} {args:List V} {b:Bool} (h:cy P I f args ⟨[],[]⟩ (fun v _=>v = .d (.bool b))) {W:World} {xs:Array Value} (h2:I.top≤W.heap.size) (hI:∀ w',Below W.heap.size W w'→I.holds w') (hs:xs.size=args.length) (hv:∀ j (h:j < args.length),VR (SN W I) W args[j] (xs.getD j undef)) :
 Calls P f xs W fun e w'=>e = .returned (.bool b)∧Below W.heap.size W w':=by
 refine (h.2 (SN W I) W xs hs hv (.first h2 hI) rfl).mono ?_;rintro e w' ⟨v,x,S',c',rfl,rfl,_,hx,hvr⟩;cases hvr with
 | d _ _ hd=>cases hd with
  | bool _=>exact ⟨rfl,hx.below⟩
end Go.Ab
namespace Go.Proofs.YtnfnbjjnjjdjdaaGreatDoor
open _root_.Go.Proofs.Tryz
open Go.RowKit Go.Av Go.Ab
section
variable {n:Nat} {ds:List D}
theorem Ca (h:zC prog n 9 ds):∃ s,ds=[.str s]∧s.length≤9223372036854775807:=by
 cases n with
 | zero=>exact h.elim
 | succ n =>
  unfold zC at h;rw [Tryz.underlying9] at h;exact h
theorem Fu {t:TypeId} {k:IntKind} (hu:Tryz.prog.underlying t=some (.int k)) (h:zC prog n t ds):∃ m,ds=[.int k m]∧(Lit.int k m).wf=true:=by
 cases n with
 | zero=>exact h.elim
 | succ n =>
  unfold zC at h;rw [hu] at h;exact h
theorem uS {t e:TypeId} (hu:Tryz.prog.underlying t=some (.slice e)) {α:Type} (f:α→List D) (ih:∀ m < n,∀ r,zC prog m e r→∃ x,r=f x) (h:zC prog n t ds):∃ l:List α,ds=[.sl (l.map f)]∧l.length≤9223372036854775807:=by
 cases n with
 | zero=>exact h.elim
 | succ n =>
  unfold zC at h;rw [hu] at h;obtain ⟨rows,rfl,hl,hr⟩:=h
  have:∃ l:List α,rows=l.map f:=by
   clear hl
   induction rows with
   | nil=>exact ⟨[],rfl⟩
   | cons r rows ihr =>
    obtain ⟨x,hx⟩:=ih n ak r (hr r aI);obtain ⟨l,hl⟩:=ihr fun y hy=>hr y (aU _ hy);exact ⟨x :: l,by rw [hx,hl];rfl⟩
  obtain ⟨l,rfl⟩:=this;exact ⟨l,rfl,by simpa using hl⟩
theorem oT {t:TypeId} {fs:Array Field} (hu:Tryz.prog.underlying t=some (.struct fs)) (h:zC prog n t ds):∃ m,n=m+1∧ZK (zC prog m) fs.toList ds:=by
 cases n with
 | zero=>exact h.elim
 | succ n =>
  unfold zC at h;rw [hu] at h;exact ⟨n,rfl,h⟩
end
theorem aaV {n:Nat} {ds:List D} (h:zC prog n 47 ds):∃ l,ds=[.sl (gN l)]:=by
 obtain ⟨l,rfl,_⟩:=uS Tryz.underlying47 (fun s:List UInt8=>[D.str s]) (fun m _ r hr=>(Ca hr).imp fun _ h=>h.1) h;exact ⟨l,rfl⟩
theorem Qh:∀ (n:Nat) (ds:List D),zC prog n 46 ds→∃ t,ds=eH t:=by
 intro n
 induction n using Nat.strongRecOn with
 | _ n ih =>
  intro ds h;obtain ⟨m,rfl,h⟩:=oT Tryz.underlying46 h;obtain ⟨a,_,rfl,ha,b,_,rfl,hb,c,_,rfl,hc,rfl⟩:=h;obtain ⟨k,rfl,_⟩:=Fu Tryz.underlying3 ha;obtain ⟨s,rfl,_⟩:=Ca hb;obtain ⟨l,rfl,_⟩:=uS Tryz.underlying38 eH (fun q hq r hr=>ih q ak r hr) hc;exact ⟨.mk k s l,by rw [eK];rfl⟩
theorem adi {n:Nat} {ds:List D} (h:zC prog n 38 ds):∃ l:List bJ,ds=[.sl (l.map eH)]:=by
 obtain ⟨l,rfl,_⟩:=uS Tryz.underlying38 eH (fun q _ r hr=>Qh q r hr) h;exact ⟨l,rfl⟩
theorem Wc {n:Nat} {ds:List D} (h:zC prog n 37 ds):∃ l:List ep,ds=[.sl (l.map jK)]:=by
 obtain ⟨l,rfl,_⟩:=uS Tryz.underlying37 jK (fun q _ r hr=>by
  obtain ⟨q',rfl,hr⟩:=oT Tryz.underlying71 hr;obtain ⟨a,_,rfl,ha,b,_,rfl,hb,rfl⟩:=hr;obtain ⟨s,rfl,_⟩:=Ca ha;obtain ⟨t,rfl⟩:=Qh _ _ hb;exact ⟨⟨s,t⟩,by rw [eK];rfl⟩) h
 exact ⟨l,rfl⟩
theorem adj {n:Nat} {ds:List D} (h:zC prog n 22 ds):∃ l:List eZ,ds=[.sl (l.map ki)]:=by
 obtain ⟨l,rfl,_⟩:=uS Tryz.underlying22 ki (fun q _ r hr=>by
  obtain ⟨q',rfl,hr⟩:=oT Tryz.underlying67 hr;obtain ⟨a,_,rfl,ha,b,_,rfl,hb,rfl⟩:=hr;obtain ⟨s,rfl,_⟩:=Ca ha;obtain ⟨t,rfl⟩:=Wc hb;exact ⟨⟨s,t⟩,rfl⟩) h
 exact ⟨l,rfl⟩
def We:List TypeId:=[3,34,9,47,46,38,50,48,53,39,96,51,71,37,67,22,41,23,25]
theorem Wf:We.all (Oz prog We)=true:=cP
end Go.Proofs.YtnfnbjjnjjdjdaaGreatDoor
namespace Go.Proofs.YtnfnbjjnjjdjdaaGreatDoor
open _root_.Go.Proofs.Tryz
open Go.RowKit Go.Av
def inU (i:Int):Prop:=0≤i∧i≤18446744073709551615
theorem akH:inU 0:=⟨bH,bH⟩
def WB (s:Ps):Prop:=∀ w∈s.ws,inU (w.int:Int)
theorem WB.dn {s s':Ps} (h:WB s) (d:Dn s s'):WB s':=fun w hw=>h w (d.sub w hw)
theorem WB.w {s:Ps} (h:WB s):inU (s.w.int:Int):=by
 unfold Ps.w;cases hs:s.ws with
 | nil=>exact akH
 | cons w l=>exact h w (by rw [hs];exact aI)
theorem uT:∀ l:List bh,vK l↔∀ x∈l,Ap x
 | []=>by simp [vK]
 | x :: l=>by
  unfold vK;rw [uT l];simp
theorem Qi (k:Int) (t:List UInt8) (i:Int) (ty:bJ) (ns:List (List UInt8)) (ks:List bh):Ap (.mk k t i ty ns ks)=(inU i∧∀ x∈ks,Ap x):=by
 conv=>lhs;unfold Ap
 rw [uT];rfl
def NuE (E:EP):Prop:=∀ s,WB s→Ap (E s).1
theorem NuE.at {E:EP} (h:NuE E) {s s1:Ps} {x:bh} (hs:WB s) (e:E s=(x,s1)):Ap x:=by
 have:=h s hs;rw [e] at this;exact this
end Go.Proofs.YtnfnbjjnjjdjdaaGreatDoor
namespace Go.Proofs.YtnfnbjjnjjdjdaaGreatDoor
open _root_.Go.Proofs.Tryz
open Go.RowKit Go.Av Go.Ab
theorem ZL (k:Int) (t:List UInt8) (i:Int) (ty:bJ) (ns:List (List UInt8)) (ks:List bh):Fi (.mk k t i ty ns ks)=((k=3→0≤i)∧∀ x∈ks,Fi x):=by
 conv=>lhs;unfold Fi
def akI (s:cL):Prop:=∀ n,A8 n s
theorem Qj {m:Int} (h:(Lit.int .u64 m).wf=true):inU m:=by
 have h1:IntKind.u64.min=0∧IntKind.u64.max=18446744073709551615:=bH;simp only [Lit.wf,h1,aF,aZ] at h;exact h
theorem Jw:∀ x:bh,Ap x→Fi x
 | .mk k t i ty ns ks=>by
  intro h;rw [Qi] at h;rw [ZL];exact ⟨fun _=>h.1.1,fun x hx=>Jw x (h.2 x hx)⟩
theorem Sw (l:List cL) (h:∀ x∈l,wT x):pQ l:=by
 induction l with
 | nil=>rw [pQ];trivial
 | cons x l ih=>rw [Eu];exact ⟨h x aI,ih fun y hy=>h y (aU _ hy)⟩
theorem Sx (l:List iB) (h:∀ c∈l,inU c.int∧pQ c.body):Aq l:=by
 induction l with
 | nil=>rw [Aq];trivial
 | cons c l ih =>
  obtain ⟨i,b⟩:=c;rw [Ev];have:=h _ aI;exact ⟨this.1,this.2,ih fun y hy=>h y (aU _ hy)⟩
theorem Be:∀ (n:Nat) (s:cL),wT s→A8 n s
 | 0,_,_=>trivial
 | n+1,.mk k ns ty ls es b e cs,h=>by
  rw [wT] at h;obtain ⟨h1,h2,h3,h4,h5⟩:=h;exact ⟨fun x hx=>Jw x ((uT _).1 h1 x hx),fun x hx=>Jw x ((uT _).1 h2 x hx),fun x hx=>Be n x (nH h3 x hx),fun x hx=>Be n x (nH h4 x hx),fun c hc x hx=>Be n x (nH (xJ h5 c hc).2 x hx)⟩
theorem Wg {p:rU} (h:GH p):∀ f∈p.funcs,∀ x∈f.body,akI x:=fun f hf x hx n=>Be n x (nH (h f hf) x hx)
theorem adl:∀ (n:Nat) (ds:List D),zC prog n 50 ds→∃ x:{x:bh // Ap x},ds=eL x.1:=by
 intro n
 induction n using Nat.strongRecOn with
 | _ n ih =>
  intro ds h;obtain ⟨m,rfl,h⟩:=oT Tryz.underlying50 h;obtain ⟨a,_,rfl,ha,b,_,rfl,hb,c,_,rfl,hc,d,_,rfl,hd,e,_,rfl,he,f,_,rfl,hf,rfl⟩:=h;obtain ⟨k,rfl,_⟩:=Fu Tryz.underlying3 ha;obtain ⟨s,rfl,_⟩:=Ca hb;obtain ⟨i,rfl,hi⟩:=Fu Tryz.underlying34 hc;obtain ⟨t,rfl⟩:=Qh _ _ hd;obtain ⟨ns,rfl⟩:=aaV he;obtain ⟨l,rfl,_⟩:=uS Tryz.underlying48 (fun x:{x:bh // Ap x}=>eL x.1) (fun q hq r hr=>ih q ak r hr) hf;refine ⟨⟨.mk k s i t ns (l.map (·.1)),?_⟩,by rw [dF,eK];simp [bh.kind,bh.text,bh.int,bh.type,bh.names,bh.kids]<;>rfl⟩;rw [Qi];refine ⟨Qj hi,fun x hx=>?_⟩;obtain ⟨y,_,rfl⟩:=eu.1 hx;exact y.2
theorem Qk {n:Nat} {ds:List D} (h:zC prog n 48 ds):∃ l:List bh,vK l∧ds=[.sl (l.map eL)]:=by
 obtain ⟨l,rfl,_⟩:=uS Tryz.underlying48 (fun x:{x:bh // Ap x}=>eL x.1) (fun q _ r hr=>adl q r hr) h;refine ⟨l.map (·.1),?_,dM⟩;rw [uT];intro x hx;obtain ⟨y,_,rfl⟩:=eu.1 hx;exact y.2
theorem Dw (l:List {x:cL // wT x}):pQ (l.map (·.1)):=Sw _ fun x hx=>by
 obtain ⟨y,_,rfl⟩:=eu.1 hx;exact y.2
theorem adm:∀ (n:Nat) (ds:List D),zC prog n 53 ds→∃ x:{x:cL // wT x},ds=gE x.1:=by
 intro n
 induction n using Nat.strongRecOn with
 | _ n ih =>
  intro ds h;obtain ⟨m,rfl,h⟩:=oT Tryz.underlying53 h;obtain ⟨a,_,rfl,ha,b,_,rfl,hb,c,_,rfl,hc,d,_,rfl,hd,e,_,rfl,he,f,_,rfl,hf,g,_,rfl,hg,i,_,rfl,hi,rfl⟩:=h;obtain ⟨k,rfl,_⟩:=Fu Tryz.underlying3 ha;obtain ⟨ns,rfl⟩:=aaV hb;obtain ⟨t,rfl⟩:=Qh _ _ hc;obtain ⟨ls,nl,rfl⟩:=Qk hd;obtain ⟨es,ne,rfl⟩:=Qk he;obtain ⟨bo,rfl,_⟩:=uS Tryz.underlying39 (fun x:{x:cL // wT x}=>gE x.1) (fun q hq r hr=>ih q ak r hr) hf;obtain ⟨el,rfl,_⟩:=uS Tryz.underlying39 (fun x:{x:cL // wT x}=>gE x.1) (fun q hq r hr=>ih q ak r hr) hg
  obtain ⟨cs,rfl,_⟩:=uS Tryz.underlying51 (fun c:{c:iB // inU c.int∧pQ c.body}=>lV c.1) (fun q hq r hr=>by
   obtain ⟨q',rfl,hr⟩:=oT Tryz.underlying96 hr;obtain ⟨a,_,rfl,ha,b,_,rfl,hb,rfl⟩:=hr;obtain ⟨k,rfl,hk⟩:=Fu Tryz.underlying34 ha;obtain ⟨l,rfl,_⟩:=uS Tryz.underlying39 (fun x:{x:cL // wT x}=>gE x.1) (fun q2 hq2 r hr=>ih q2 ak r hr) hb;have hl:=Dw l;exact ⟨⟨.mk k (l.map fun y:{x:cL // wT x}=>y.1),Qj hk,hl⟩,by rw [lN];simp [iB.int,iB.body]⟩) hi
  refine ⟨⟨.mk k ns t ls es (bo.map (·.1)) (el.map (·.1)) (cs.map (·.1)),?_⟩,by rw [iZ,eK];simp [cL.kind,cL.names,cL.type,cL.cq,cL.exprs,cL.body,cL.iS,cL.cases]<;>rfl⟩;rw [wT];refine ⟨nl,ne,Dw bo,Dw el,Sx _ fun c hc=>?_⟩;obtain ⟨y,_,rfl⟩:=eu.1 hc;exact y.2
theorem ZM {n:Nat} {ds:List D} (h:zC prog n 39 ds):∃ l:List cL,pQ l∧ds=[.sl (l.map gE)]:=by
 obtain ⟨l,rfl,_⟩:=uS Tryz.underlying39 (fun x:{x:cL // wT x}=>gE x.1) (fun q _ r hr=>adm q r hr) h;exact ⟨l.map (·.1),Dw l,dM⟩
theorem adn {n:Nat} {ds:List D} (h:zC prog n 25 ds):∃ p:rU,GH p∧ds=[.sl (p.structs.map ki),.sl (p.funcs.map lT)]:=by
 obtain ⟨q',rfl,h⟩:=oT Tryz.underlying25 h;obtain ⟨a,_,rfl,ha,b,_,rfl,hb,rfl⟩:=h;obtain ⟨s,rfl⟩:=adj ha
 obtain ⟨l,rfl,_⟩:=uS Tryz.underlying23 (fun f:{f:fL // pQ f.body}=>lT f.1) (fun q _ r hr=>by
  obtain ⟨q',rfl,hr⟩:=oT Tryz.underlying41 hr;obtain ⟨a,_,rfl,ha,b,_,rfl,hb,c,_,rfl,hc,d,_,rfl,hd,rfl⟩:=hr;obtain ⟨s,rfl,_⟩:=Ca ha;obtain ⟨ps,rfl⟩:=Wc hb;obtain ⟨rs,rfl⟩:=adi hc;obtain ⟨bo,nb,rfl⟩:=ZM hd;exact ⟨⟨⟨s,ps,rs,bo⟩,nb⟩,rfl⟩) hb
 refine ⟨⟨s,l.map (·.1)⟩,fun f hf=>?_,dM⟩;obtain ⟨y,_,rfl⟩:=eu.1 hf;exact y.2
def b3:=KB func3 47
theorem Sy {p:rU} (h:Wx p=V3 p):B9 (SI p.structs) p=tg (Wx p) p:=by
 unfold B9 tg;rw [h,Sc];rfl
theorem OA (p:rU) (hn:GH p):cy prog bI 3 [sy p] ⟨[],[]⟩ (cF (.d (.bool true)) ⟨[],[]⟩):=by
 have ZQ:Wx p=V3 p:=ac6 (SizeOf.sizeOf p.funcs) p fun f hf x hx=>Wg hn f hf x hx _;have OX:V3 p=true→(KS (SizeOf.sizeOf p.funcs) p 0).1=true:=fun h=>ZQ.trans h;have hG:=Wa p;have hC:∀ (B:bQ) (T:eg),cy prog bI 9 [sy p] ⟨B,T⟩ (cF (.fZ [sy (tg (Wx p) p).1,.d (.int .i64 (tg (Wx p) p).2)]) ⟨B,T⟩):=fun B T=>E8 (fun h=>(qS h hn).1) (fun h=>(qS h hn).2) (IQ p)
 have hR:=fun B T=>Sp (B:=B) (T:=T) (lp:=SI p.structs) (p:=p) (fun h=>(qS (OX h) hn).1) (fun h s _=>Sf s.name (by have:=Sh (OX h);omega))
  (fun h f hf=>by
   obtain ⟨hT,hF⟩:=qS (OX h) hn;exact R3 hT (hT.pa f hf).2.1 (Pv (OX h) hn |>.2 f hf).2.2.2.2 (hF f hf).sh (hF f hf).sl)
  (fun h f hf=>Vj ((qS (OX h) hn).2 f hf).sh) (fun h f hf=>by have:=VI (OX h) hf;omega)
 rw [Sy ZQ] at hR;generalize tg (Wx p) p=r at hC hR;have hS:=ade r.1;unfold sy at hG hC hR hS ⊢;refine gL b3 fun cG=>?_;simp only [fH] at cG;simp only [W,seval,b3];refine aX (hG _) ?_;cases EX:decide (2500 < prW p 2500)
 case true =>
  refine goN ?_;simp only [W,seval,b3];refine aX (Fb _) ?_;refine goN ?_;simp only [W,seval,b3];refine bN b3 (Left.empty ?_);exact ⟨rfl,rfl⟩
 refine goN ?_;simp only [W,seval,b3];refine aX (hC _ _) ?_;refine goN ?_;simp only [W,seval,b3];refine aX (hR _ _) ?_;refine goN ?_;simp only [W,seval,b3];refine aX (hS _ _) ?_;refine goN ?_;simp only [W,seval,b3];refine aX (hC _ _) ?_;refine goN ?_;simp only [W,seval,b3];refine aX (hS _ _) ?_;refine goN ?_;simp only [W,seval,b3];refine aX (Fb _) ?_;refine goN ?_;simp only [W,seval,b3];refine bN b3 (Left.empty ?_);exact ⟨rfl,rfl⟩
end Go.Proofs.YtnfnbjjnjjdjdaaGreatDoor
namespace Go.Proofs.YtnfnbjjnjjdjdaaGreatDoor
open _root_.Go.Proofs.Tryz
open Go.ChangeShapes Go.WideShapes Go.ChangeAt Go.RowKit Go.Av
theorem laidOut:laidOutB prog=true:=cP
theorem Wh {H:Type} {enc:TypeId × Value→H} {t:TypeId} {W W':World} {v:Value} {d:DataW H} {ps:List MemPlace} (hr:Tryz.prog.readableRec t=true) (bW:t < Tryz.prog.types.size)
 (h:DataW.Trod enc prog W 0 (fun _=>true) true t v d ps) (hb:Below W.heap.size W W') (bu:∀ x∈ps,x.block < W.heap.size):DataW.Trod enc prog W' 0 (fun b=>decide (b < W.heap.size)) true t v d ps :=
 Below.trod laidOut hr bW h hb bu
end Go.Proofs.YtnfnbjjnjjdjdaaGreatDoor
namespace Go.Av
def Fv {H:Type} (zs:List (List UInt8)):DataW H:=.agg (zs.map fun z=>.lit (.string z))
theorem Fw {H:Type} {enc:TypeId × Value→H} {P:Program} {w:World} {base:Nat} {sp:Nat→Bool} {held:Bool} {fuel:Nat} {t e:TypeId} {n:Nat} {cs:List Value} {zs:List (List UInt8)} {p:List MemPlace}
 (ht:P.underlying t=some (.array n e)) (he:P.underlying e=some .string) (hce:P.cellsOf e=1) (hct:P.cellsOf t=n)
 (h:DataW.trod enc P w base sp held fuel t cs=some (Fv zs,p)):cs=zs.map fun z=>Value.string ⟨z.toArray⟩:=by
 cases fuel with
 | zero=>simp [DataW.trod] at h
 | succ fuel =>
  simp only [DataW.trod,ht,hce,hct,tC] at h
  split at h
  ·rename_i hl;obtain ⟨xs,hm,hx⟩:=aB.1 h
   have Xq:xs.map (·.1)=zs.map fun z=>(DataW.lit (.string z):DataW H):=by
    have:=gR Prod.fst hx
    simpa [Fv] using this
   have hxl:xs.length=n:=by simpa using Lib.mapM_length hm
   have hzl:zs.length=n:=by
    have:=gR List.length Xq;simp at this;omega
   apply fW;intro i
   by_cases hi:i < n
   ·obtain ⟨b,hb,hf⟩:=Lib.mapM_at hm i i (by simp [hi]);obtain ⟨z,hc,rfl,_⟩:=DataW.trod_string he hf
    have h1:cs[i]? = some (.string z):=by
     have:=gR (·[0]?) hc
     simpa [List.getElem?_take,List.getElem?_drop] using this
    have h2:(xs.map (·.1))[i]? = some (DataW.lit (.string z.data.toList):DataW H):=by simp [hb]
    rw [Xq] at h2;simp only [aL,aB,DataW.lit.injEq,Lit.string.injEq] at h2;obtain ⟨z',Bn,e⟩:=h2
    have ez:z=⟨z'.toArray⟩:=by
     apply ByteArray.ext;rw [e]
    simp [h1,Bn,ez]
   ·rw [dP ak,dP fk]
  ·cases h
theorem yJ {P:Program} {W:World} {name:String} {zs:List (List UInt8)} {rest:List (String × DataW Unit)} {ps:List MemPlace} {g:Nat} {t e:TypeId} {n:Nat}
 (hg:P.globalNamed name=some g) (jU:(P.globals[g]?).map (·.type)=some t) (ht:P.underlying t=some (.array n e)) (he:P.underlying e=some .string) (hce:P.cellsOf e=1) (hct:P.cellsOf t=n)
 (h:DataW.LaidVars P W ((name,Fv zs) :: rest) ps):(∃ u fr,W.heap[g]? = some (.cells (zs.map fun z=>Value.string ⟨z.toArray⟩).toArray u fr))∧∃ q,DataW.LaidVars P W rest q:=by
 obtain ⟨g',t',cs,fuel,p,q,Yk,nX,Wi,hd,hr,_⟩:=h;obtain rfl:=ag (hg.symm.trans Yk);obtain rfl:=ag (jU.symm.trans nX);refine ⟨?_,q,hr⟩;have we:=Fw ht he hce hct hd;have ecs:cs=(zs.map fun z=>Value.string ⟨z.toArray⟩).toArray:=by rw [← we]
 unfold World.var? at Wi;rw [hg,dg] at Wi
 split at Wi
 ·rename_i c u fr hh;obtain rfl:=ag Wi;exact ⟨u,fr,by rw [hh,ecs]⟩
 ·cases Wi
end Go.Av
namespace Go.Proofs.YtnfnbjjnjjdjdaaGreatDoor.gotypeChecks
open _root_.Go.Proofs.Tryz
open Go.ChangeShapes Go.WideShapes Go.ChangeAt Go.RowKit Go.Av Go.Ab
open Go.ChangeMaps (open_string shut_string)
theorem own:ownKnob Tryz.prog.godebug=none:=cP
theorem Np {W:World} (h:laidMetH prog Rows.gotypeChecksRow.laid W):xX W:=by
 have h':laidMet prog Rows.gotypeChecksRow.laid W:=h;obtain ⟨ps,hv,_⟩:=h';obtain ⟨⟨u,fr,h1⟩,ps2,Sz⟩:=yJ (zs:=kX) (g:=0) (t:=189) (e:=9) (n:=29) cP cP Tryz.underlying189 Tryz.underlying9 cP cP hv;obtain ⟨⟨u2,JA,h2⟩,_⟩:=yJ (zs:=sS) (g:=1) (t:=198) (e:=9) (n:=22) cP cP Tryz.underlying198 Tryz.underlying9 cP cP Sz;exact ⟨⟨u,fr,h1⟩,⟨u2,JA,h2⟩⟩
noncomputable def Cb (os:Os):World:=World.laidAll prog os Rows.gotypeChecksRow.laid
theorem Wj (os:Os):laidMet prog Rows.gotypeChecksRow.laid ((Cb os).forCall (fun _ _=>0) ⟨#[],#[Value.agg #[.slice none 0 0,.slice none 0 0]],[]⟩).memory :=
 laidMet_laidAll _ cP cP
theorem reads (os:Os) {H:Type} (enc:TypeId × Value→H):∃ places,DataW.whole enc prog ((Cb os).forCall (fun _ _=>0) ⟨#[],#[Value.agg #[.slice none 0 0,.slice none 0 0]],[]⟩).memory Tryz.f3.params.toList Rows.gotypeChecksSpec.vars false #[Value.agg #[.slice none 0 0,.slice none 0 0]].toList 8=some ([.agg [.nil,.nil]],[],places) :=
 ⟨[],cP⟩
set_option maxRecDepth 100000 in
theorem lifted (os:Os) (started:os.Started) (H:Type) (enc:TypeId × Value→H) (F:Stop.Interp) :
 ReturnsInHanded {} Tryz.checked os 3 .any ((OpenSpec.ofChange Rows.gotypeChecksSpec).preRow enc prog f3 Rows.gotypeChecksRow.domain false Rows.gotypeChecksRow.laid) (((OpenSpec.ofChange Rows.gotypeChecksSpec).at F).post enc prog f3 false true false false):=by
 obtain ⟨places,hx⟩:=reads os enc
 refine returnsInHanded_of_row (C:=Tryz.checked) (s:=OpenSpec.ofChange Rows.gotypeChecksSpec) own started cP func3
  (witness_row_at (enc:=enc) (C:=Tryz.checked) false (Cb os) #[Value.agg #[.slice none 0 0,.slice none 0 0]] (World.laidAll_os _ _ _) cP cP cP
   (OpenSpec.preRow_of_cond 8 hx cP (fun k hk=>by cases hk) cP (Wj os))) ?_
 intro W base args ds gs before ado hW _ _ _ hL _ _;have hW':=hW;obtain ⟨p,q,Xr,hV,rfl,hfz,hnd⟩:=hW;have hA:DataW.TrodAll enc prog W 0 (fun _=>true) true Tryz.f3.params.toList args.toList ds p:=Xr;rw [Tryz.params3] at hA ado;obtain ⟨v0,vs0,d0,ds0,p0,q0,hargs,rfl,rfl,h0,r0⟩:=trodAll_cons hA;obtain ⟨rfl,rfl,rfl⟩:=trodAll_nil r0;obtain rfl:args = #[v0]:=by cases args;simp_all
 obtain ⟨rfl,rfl⟩:=trodVars_none hV;have bu:∀ x∈(p0++[]),x.block < W.heap.size:=fun x hx=>by simpa using hW'.lt x (by simpa using hx)
 obtain ⟨c0,rfl,_⟩:=okWide_struct Tryz.underlying25 (ado 0 25 v0 rfl rfl);obtain ⟨u0,g0⟩:=h0;obtain ⟨y0,o0⟩:=adh (W:=W) (enc:=enc) We Wf u0 25 c0.toList _ cP g0;have h0:=(⟨u0,g0⟩:DataW.Trod enc prog W 0 (fun _=>true) true 25 (.agg c0) d0 p0);have q0:=Sv (I:=bI) o0;obtain ⟨x0,MA,rfl⟩:=adn o0.1;clear Xr ado;simp only [aQ] at hW';have hmx:maxLen=9223372036854775807:=rfl;have hT:=Np hL;refine (((cy.only (OA x0 MA))).law (W:=W) (xs:=#[.agg c0]) (show 1+0+1≤W.heap.size by have:=hT.size;omega) (fun w hb=>hT.below hb) rfl (fun j hj=>?_)).mono fun e W' ⟨he,bel⟩=>?_
 ·match j,hj with
  | 0,_=>exact q0
 subst he;exact ⟨_,rfl,_,_,_,[],_,[],hW',trodAll_mk1 (shut_bool Tryz.underlying4 _),(trodAll_cons_mk (Wh cP (bV cP) h0 bel (fun x hx=>bu x (by simp [hx]))) trodAll_mk0),rfl,bel.frame _,fun h=>by cases h⟩
theorem said:Rows.GotypeChecksSaid :=
 OpenClaim.holds_of_cond 3 f3 rfl rfl rfl rfl rfl rfl rfl ⟨rfl,rfl,rfl,rfl,rfl⟩ rfl rfl rfl rfl rfl cP func3 cP
  (of_decide_eq_true cP) (by unfold Func.isWrapper;first | (rw [if_pos (by decide +kernel)];kernel_rfl) | (rw [if_neg (by decide +kernel)];exact ⟨rfl,rfl⟩))
  (fun os started H enc _ F=>by rw [OpenClaim.pre_eq_preRow];exact lifted os started H enc F)
theorem plain (f:FuncId) (fn:Func) (hf:Tryz.pinned.checked.prog.funcNamed "avocet/avocetlaw27.GotypeChecks" = some f) (hfn:Tryz.pinned.checked.prog.funcs[f]? = some fn) :
 false=Tryz.pinned.checked.prog.looks []∧∀ (j:Nat) t,fn.params[j]? = some t→Tryz.pinned.checked.prog.wantsStandIn t=false:=by
 obtain rfl:f=3:=ag ((show Tryz.prog.funcNamed "avocet/avocetlaw27.GotypeChecks" = some 3 by kernel_rfl).symm.trans hf) |>.symm
 obtain rfl:fn=Tryz.f3:=(ag (Tryz.func3.symm.trans hfn)).symm;refine ⟨cP,fun j t ht=>?_⟩;rw [Tryz.params3] at ht;have hm:=Array.mem_of_getElem? ht;have:t=25:=by simpa using hm
 subst this;exact (show Tryz.prog.wantsStandIn 25=false by kernel_rfl)
theorem proved:Rows.GotypeChecksCardSaid :=
 Claim7.holds_tied_plain_at .later [] _ _ _ _ said (fun _ h=>by cases h) cP (fun _ h=>by cases h) gotypeChecks_row_tie rfl ⟨rfl,rfl⟩ cP rfl plain cP
#print axioms proved
end Go.Proofs.YtnfnbjjnjjdjdaaGreatDoor.gotypeChecks
