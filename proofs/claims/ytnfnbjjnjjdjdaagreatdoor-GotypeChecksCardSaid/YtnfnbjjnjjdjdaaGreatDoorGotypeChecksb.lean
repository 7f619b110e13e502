/- Whatever the program, gotype.Check and the document answer alike. Part 2 of 7 of the proof. -/
import Derived.Test.YtnfnbjjnjjdjdaaGreatDoorGotypeChecksa
import Derived.Test.YtnfnbjjnjjdjdaaGreatDoorRows
import Derived.WalkKit
import Derived.WalkSpells
import Derived.WalkLawsBesides
import Derived.Lib.Bytealg
import Derived.Lib.Hide
import Derived.BigQuiet
set_option linter.unusedVariables false
set_option linter.unusedSimpArgs false
set_option linter.defProp false
set_option maxHeartbeats 1000000
namespace Go.Ab
open Go.RowKit Go.Av
def lk:List (Nat × V)→Nat→V
 | [],_=>.undef
 | p :: l,t=>cond (p.1 == t) p.2 (lk l t)
def cN (n:Nat) (u:List (Nat × V)):List V:=(List.range n).map (lk u)
theorem Ie (a:Nat) (v:V) (u:List (Nat × V)) (t:Nat):lk ((a,v) :: u) t=cond (a == t) v (lk u t):=rfl
theorem OP (p:Nat × V) (u:List (Nat × V)) (t:Nat):lk (p :: u) t=if p.1=t then p.2 else lk u t:=by
 rw [lk]
 by_cases h:p.1=t
 ·rw [aD h,iK.2 h,uC]
 ·rw [aq h,cB.2 h,nt]
theorem MR (t:Nat):lk [] t = .undef:=rfl
theorem zQ (n:Nat) (u:List (Nat × V)) (t:Nat):(cN n u).getD t .undef=cond (t+1 - n == 0) (lk u t) .undef:=by
 unfold cN
 by_cases h:t < n
 ·have e:(t+1 - n == 0)=true:=iK.2 ak;rw [e,uC];simp [List.getD,h]
 ·have e:(t+1 - n == 0)=false:=cB.2 ak;rw [e,nt];simp [List.getD,h]
theorem Ge (I:Inv) (n:Nat) (u:List (Nat × V)) (t:Nat):bw I (cN n u) (.tmp t)=cond (t+1 - n == 0) (lk u t) .undef:=zQ n u t
theorem fP (n:Nat) (u:List (Nat × V)) (t:Nat) (v:V):(cN n u).set t v=cN n ((t,v) :: u):=by
 unfold cN;apply List.ext_getElem
 ·simp
 intro i h1 h2;simp only [aG,aS,lu] at h1;rw [List.getElem_set];simp only [dy,kE,OP]
theorem Tq (n:Nat) (u:List (Nat × V)) (t:Nat) (v:V):dD (cN n u) (some t) v=cN n ((t,v) :: u):=fP n u t v
theorem Xj (n:Nat) (u:List (Nat × V)) (v:V):dD (cN n u) none v=cN n u:=rfl
def mb:Nat→List V→List (Nat × V)
 | _,[]=>[]
 | i,v :: l=>(i,v) :: mb (i+1) l
theorem Cn:∀ (l:List V) (i t:Nat),lk (mb i l) t=if i≤t then l.getD (t - i) .undef else .undef
 | [],i,t=>by simp [mb,lk,List.getD]
 | v :: l,i,t=>by
  rw [mb,OP,Cn l (i+1) t]
  by_cases h:i=t
  ·subst h;simp
  ·rw [aq h]
   by_cases h2:i≤t
   ·have h3:i+1≤t:=ak;have h4:t - i=(t - (i+1))+1:=ak;rw [aD h3,aD h2,h4];simp [List.getD]
   ·rw [aq h2,aq ak]
theorem Gf (n:Nat) (args:List V) (h:args.length≤n):args++List.replicate (n - args.length) .undef=cN n (mb 0 args):=by
 unfold cN;apply List.ext_getElem
 ·simp;omega
 intro i h1 h2;simp only [aS,lu] at h2;simp only [dy,kE,Cn,bG,gj,Nat.sub_zero];rw [List.getElem_append]
 split
 ·rename_i h3;simp [List.getD,h3]
 ·rename_i h3;simp only [pE,List.getD];rw [dP ak];rfl
theorem cy.ZW {P:Program} {I:Inv} {fn:FuncId} {f:Func} {body:Code} {args:List V} {S:Mem} {R:V→Mem→Prop} (n:Nat) (hf:P.funcs[fn]? = some f) (hb:f.body=some body) (wv:(f.name == "runtime.NumGoroutine")=false) (hn:f.ntmps=n) (hl:args.length≤n)
 (h:Ic args=true→az P I (S.boxes.length,S.dG.length) fn [.code body] (cN n (mb 0 args)) S (Left S R)):cy P I fn args S R :=
 cy.OO hf hb wv fun hs=>by
  rw [hn,Gf n args hl];exact h hs
def eU (u:List (Nat × V)):List (Nat × V)→Prop
 | []=>True
 | p :: l=>lk u p.1=p.2∧eU u l
theorem eU.lk {u:List (Nat × V)}:∀ {l:List (Nat × V)},eU u l→∀ t,lk l t = .undef∨lk l t=Ab.lk u t
 | [],_,t=>.inl rfl
 | p :: l,h,t=>by
  rw [OP]
  by_cases e:p.1=t
  ·rw [aD e,← h.1,e];exact .inr rfl
  ·rw [aq e];exact eU.lk h.2 t
theorem Ka (f g:Nat→V) (h:∀ t,f t = .undef∨f t=g t):∀ l:List Nat,nR (l.map f) (l.map g)
 | []=>trivial
 | t :: l=>⟨h t,Ka f g h l⟩
theorem eU.env {u l:List (Nat × V)} (n:Nat) (h:eU u l):nR (cN n l) (cN n u):=Ka _ _ h.lk _
def gr (a b:Nat) (u:List (Nat × V)):List (Nat × V)→Prop
 | []=>True
 | p :: l=>(lk u p.1=p.2∧fit a b p.2=true)∧gr a b u l
theorem gr.lk {a b:Nat} {u:List (Nat × V)}:∀ {l:List (Nat × V)},gr a b u l→∀ t,lk l t = .undef∨(lk l t=Ab.lk u t∧fit a b (Ab.lk u t)=true)
 | [],_,t=>.inl rfl
 | p :: l,h,t=>by
  rw [OP]
  by_cases e:p.1=t
  ·rw [aD e,← e,h.1.1];exact .inr ⟨rfl,h.1.2⟩
  ·rw [aq e];exact gr.lk h.2 t
theorem Gg (a b:Nat) (f g:Nat→V) (h:∀ t,f t = .undef∨(f t=g t∧fit a b (g t)=true)):∀ l:List Nat,yq a b (l.map f) (l.map g)
 | []=>trivial
 | t :: l=>⟨h t,Gg a b f g h l⟩
theorem gr.env {a b:Nat} {u l:List (Nat × V)} (n:Nat) (h:gr a b u l):yq a b (cN n l) (cN n u):=Gg a b _ _ h.lk _
theorem Qz (u:List (Nat × V)):eU u []=True:=rfl
theorem MS (u:List (Nat × V)) (t:Nat) (v:V) (l:List (Nat × V)):eU u ((t,v) :: l)=(lk u t=v∧eU u l):=rfl
theorem MT (a b:Nat) (u:List (Nat × V)):gr a b u []=True:=rfl
theorem Kb (a b:Nat) (u:List (Nat × V)) (t:Nat) (v:V) (l:List (Nat × V)):gr a b u ((t,v) :: l)=((lk u t=v∧fit a b v=true)∧gr a b u l):=rfl
def MU (f:Func):Code :=
 match f.body with
 | some c=>c
 | none=>.skip
def opsOf:Code→Array Oper
 | .region _ o _=>o
 | _=>#[]
def fG (a:Array Oper) (i:Nat):Oper :=
 match a[i]? with
 | some o=>o
 | none=>⟨none,.move (.tmp 0),0, "",#[],none⟩
def ZX (next:kA) (v:V) (a b:Code) (k:List Item) (env:List V) (S:Mem):Prop :=
 match v with
 | .d (.bool t)=>Ci next t (.code a :: k) env (.code b :: k) env S
 | _=>False
theorem Xk (next:kA) (t:Bool) (a b:Code) (k:List Item) (env:List V) (S:Mem):ZX next (.d (.bool t)) a b k env S=Ci next t (.code a :: k) env (.code b :: k) env S:=rfl
def Tr (next:kA) (r:Option (List Item)) (env:List V) (S:Mem):Prop :=
 match r with
 | some k=>next k env S
 | none=>False
theorem MV (next:kA) (k:List Item) (env:List V) (S:Mem):Tr next (some k) env S=next k env S:=rfl
def Ts (P:Program) (I:Inv) (next:rS) (S:Mem) (v:V) (want:Bool) (o:Oper) (l:List Oper) (env:List V):Prop :=
 match v with
 | .d (.bool t)=>tX P I next S t want o l env
 | .fZ []=>next l (dD env o.dst (.fZ []))
 | _=>False
theorem Xl (P:Program) (I:Inv) (next:rS) (S:Mem) (t want:Bool) (o:Oper) (l:List Oper) (env:List V):Ts P I next S (.d (.bool t)) want o l env=tX P I next S t want o l env:=rfl
theorem Xm (P:Program) (I:Inv) (next:rS) (S:Mem) (want:Bool) (o:Oper) (l:List Oper) (env:List V):Ts P I next S (.fZ []) want o l env=next l (dD env o.dst (.fZ [])):=rfl
def MW (v:V) (want:Bool):V :=
 match v with
 | .d (.bool t)=>.d (.bool (t == want))
 | .fZ []=>.d (.bool false)
 | _=>.undef
def OQ (env:List V) (ops:Array Oper) (o:Oper):V :=
 match o.guard with
 | none=>.d (.bool true)
 | some (j,want)=>MW (lJ env ops j) want
def jW:Code→List Code→List Code
 | .seq a b,l=>.seq a b :: jW a (jW b l)
 | .cond x a b,l=>.cond x a b :: jW a (jW b l)
 | .block i a,l=>.block i a :: jW a l
 | .loop a,l=>.loop a :: jW a l
 | c,l=>c :: l
def nth:List Code→Nat→Code
 | [],_=>.skip
 | c :: _,0=>c
 | _ :: l,i+1=>nth l i
def Ig:Code→Nat
 | .seq a b=>Ig a+Ig b+1
 | .cond _ a b=>Ig a+Ig b+1
 | .block _ a=>Ig a+1
 | .loop a=>Ig a+1
 | _=>1
def kF (f:Func) (i:Nat):Code:=nth (jW (MU f) []) i
inductive Kx where
 | S (a b c:Nat) | B (a b j:Nat) | C (a:Nat) (x:Operand) (b c:Nat) | L (a b:Nat) | E (a j:Nat) | T (a:Nat) | N (a:Nat) | R (a:Nat) (l:List Nat) | D (a j:Nat) (l:List Nat)
 | r (a j:Nat) (q:Op) (d:Option Tmp) | g (a j t:Nat) (b:Bool) (q:Op) (d:Option Tmp) | q (a j:Nat) (q:Op) (d:Option Tmp) | h (a j t:Nat) (b:Bool) (q:Op) (d:Option Tmp)
def doO (P:Program) (I:Inv) (next stop:kA) (ops:Array Oper) (rest:List Nat) (q:Op) (d:Option Tmp) (k:List Item) (env:List V) (S:Mem):Prop :=
 match q with
 | .call c=>match c.callee with
  | .value f=>wA P I stop (bw I env f) (c.args.toList.map (bw I env)) (.inRegion ops rest :: k) d env S
  | _=>DO next (jV P (bw I env) S c) (.inRegion ops rest :: k) d env
 | op=>DO next (jt P (bw I env) S op) (.inRegion ops rest :: k) d env
def opO (P:Program) (I:Inv) (next:rS) (S:Mem) (q:Op) (d:Option Tmp) (l:List Oper) (env:List V):Prop :=
 match q with
 | .call c=>match c.callee with
  | .value f=>ON P I next S c (bw I env f) (c.args.toList.map (bw I env)) l d env
  | _=>DU next S (jV P (bw I env) S c) l d env
 | op=>DU next S (jt P (bw I env) S op) l d env
def MX (i:Nat) (draw:Bool) (A:Array Oper):Nat→List Oper→List Kx→List Kx
 | _,[],l=>l
 | j,o :: m,l=>match o.guard with
  | none=>(cond draw (.q i j o.op o.dst) (.r i j o.op o.dst)) :: MX i draw A (j+1) m l
  | some (t,b)=>match (A[t]?).bind (·.dst) with
   | some t=>(cond draw (.h i j t b o.op o.dst) (.g i j t b o.op o.dst)) :: MX i draw A (j+1) m l
   | none=>MX i draw A (j+1) m l
def Ih (i:Nat):Code→List Kx→List Kx
 | .seq a b,l=>.S i (i+1) (i+Ig a+1) :: Ih (i+1) a (Ih (i+Ig a+1) b l)
 | .cond x a b,l=>.C i x (i+1) (i+Ig a+1) :: Ih (i+1) a (Ih (i+Ig a+1) b l)
 | .block j a,l=>.B i (i+1) j :: Ih (i+1) a l
 | .loop a,l=>.L i (i+1) :: Ih (i+1) a l
 | .exit j,l=>.E i j :: l
 | .ret,l=>.T i :: l
 | .skip,l=>.N i :: l
 | .label _,l=>.N i :: l
 | .region _ A false,l=>.R i (Bz 0 A.toList) :: MX i false A 0 A.toList l
 | .region j A true,l=>.D i j (Bz 0 A.toList) :: MX i true A 0 A.toList l
 | _,l=>l
def KxP (n:Nat→Code):Kx→Prop
 | .S a b c=>∀ (I:Inv) (next stop:kA) (k:List Item) (env:List V) (S:Mem),od I next stop (n a) k env S=next (.code (n b) :: .code (n c) :: k) env S
 | .B a b j=>∀ (I:Inv) (next stop:kA) (k:List Item) (env:List V) (S:Mem),od I next stop (n a) k env S=next (.code (n b) :: .inBlock j :: k) env S
 | .C a x b c=>∀ (I:Inv) (next stop:kA) (k:List Item) (env:List V) (S:Mem),od I next stop (n a) k env S=ZX next (bw I env x) (n b) (n c) k env S
 | .L a b=>∀ (I:Inv) (next stop:kA) (k:List Item) (env:List V) (S:Mem),od I next stop (n a) k env S=stop (.code (.loop (n b)) :: k) env S
 | .E a j=>∀ (I:Inv) (next stop:kA) (k:List Item) (env:List V) (S:Mem),od I next stop (n a) k env S=Tr next (exitTo j k) env S
 | .T a=>∀ (I:Inv) (next stop:kA) (k:List Item) (env:List V) (S:Mem),od I next stop (n a) k env S=stop (.code .ret :: k) env S
 | .N a=>∀ (I:Inv) (next stop:kA) (k:List Item) (env:List V) (S:Mem),od I next stop (n a) k env S=next k env S
 | .R a l=>∀ (I:Inv) (next stop:kA) (k:List Item) (env:List V) (S:Mem),od I next stop (n a) k env S=next (.inRegion (opsOf (n a)) l :: k) env S
 | .D a j l=>(∀ (I:Inv) (next stop:kA) (k:List Item) (env:List V) (S:Mem),od I next stop (n a) k env S=stop (.code (.region j (opsOf (n a)) true) :: k) env S)∧(opsOf (n a)).toList=l.map (fG (opsOf (n a)))
 | .r a j q d=>∀ (P:Program) (I:Inv) (next stop:kA) (rest:List Nat) (k:List Item) (env:List V) (S:Mem),JX P I next stop (opsOf (n a)) j rest k env S=doO P I next stop (opsOf (n a)) rest q d k env S
 | .g a j t b q d=>(∀ (P:Program) (I:Inv) (next stop:kA) (rest:List Nat) (k:List Item) (env:List V) (S:Mem),JX P I next stop (opsOf (n a)) j rest k env S=yP P I next stop (env.getD t .undef) b (opsOf (n a)) rest (fG (opsOf (n a)) j) k env S)∧(∀ (P:Program) (I:Inv) (next stop:kA) (rest:List Nat) (k:List Item) (env:List V) (S:Mem),Ia P I next stop (opsOf (n a)) rest (fG (opsOf (n a)) j) k env S=doO P I next stop (opsOf (n a)) rest q d k env S)∧(fG (opsOf (n a)) j).dst=d
 | .q a j q d=>(∀ (P:Program) (I:Inv) (nq:rS) (S:Mem) (l:List Oper) (env:List V),zP P I (opsOf (n a)) nq S (fG (opsOf (n a)) j) l env=opO P I nq S q d l env)∧(∀ env,OQ env (opsOf (n a)) (fG (opsOf (n a)) j) = .d (.bool true))∧(fG (opsOf (n a)) j).op=q∧(fG (opsOf (n a)) j).dst=d
 | .h a j t b q d=>(∀ (P:Program) (I:Inv) (nq:rS) (S:Mem) (l:List Oper) (env:List V),zP P I (opsOf (n a)) nq S (fG (opsOf (n a)) j) l env=Ts P I nq S (env.getD t .undef) b (fG (opsOf (n a)) j) l env)∧(∀ (P:Program) (I:Inv) (nq:rS) (S:Mem) (l:List Oper) (env:List V),opQ P I nq S (fG (opsOf (n a)) j) l env=opO P I nq S q d l env)∧(∀ env,OQ env (opsOf (n a)) (fG (opsOf (n a)) j)=MW (env.getD t .undef) b)∧(fG (opsOf (n a)) j).op=q∧(fG (opsOf (n a)) j).dst=d
def KK (n:Nat→Code):List Kx→Prop
 | []=>True
 | x :: l=>KxP n x∧KK n l
theorem jX:∀ (c:Code) (l:List Code),∃ m,jW c l=c :: m++l∧m.length+1=Ig c
 | .seq a b,l=>by
  obtain ⟨m1,e1,n1⟩:=jX b l;obtain ⟨m2,e2,n2⟩:=jX a (jW b l);exact ⟨a :: m2++(b :: m1),by rw [jW,e2,e1];simp,by simp [Ig];omega⟩
 | .cond x a b,l=>by
  obtain ⟨m1,e1,n1⟩:=jX b l;obtain ⟨m2,e2,n2⟩:=jX a (jW b l);exact ⟨a :: m2++(b :: m1),by rw [jW,e2,e1];simp,by simp [Ig];omega⟩
 | .block _ a,l=>by
  obtain ⟨m,e,n⟩:=jX a l;exact ⟨a :: m,by rw [jW,e];simp,by simp [Ig];omega⟩
 | .loop a,l=>by
  obtain ⟨m,e,n⟩:=jX a l;exact ⟨a :: m,by rw [jW,e];simp,by simp [Ig];omega⟩
 | .skip,_ | .region _ _ _,_ | .rangeFunc _ _ _ _,_ | .exit _,_ | .scope _,_ | .label _,_ | .goto _,_ | .ret,_ | .refuse _,_=>⟨[],rfl,rfl⟩
theorem jF:∀ (L:List Code) (i:Nat) (c:Code) (m:List Code),L.drop i=c :: m→nth L i=c
 | [],i,c,m,h=>by simp at h
 | x :: L,0,c,m,h=>by simp at h;exact h.1
 | x :: L,i+1,c,m,h=>jF L i c m (by simpa using h)
theorem Gh {L:List Code} {i:Nat} {a b:List Code} (h:L.drop i=a++b):L.drop (i+a.length)=b:=by
 rw [← mc,h,List.drop_left]
theorem OR {A:Array Oper} {j:Nat} {o:Oper} (h:A[j]? = some o):fG A j=o:=by unfold fG;rw [h]
theorem Ii {n:Nat→Code} {i:Nat} {draw:Bool} {A:Array Oper} (hA:opsOf (n i)=A):∀ (m:List Oper) (j:Nat) (l:List Kx),A.toList.drop j=m→KK n l→KK n (MX i draw A j m l)
 | [],_,_,_,hl=>hl
 | o :: m,j,l,hd,hl=>by
  have hm:A.toList.drop (j+1)=m:=by rw [← mc,hd];rfl
  have ho:A[j]? = some o:=by
   have h0:(A.toList.drop j)[0]? = some o:=by rw [hd];rfl
   rw [dS] at h0
   simpa using h0
  have ih:=Ii (draw:=draw) hA m (j+1) l hm hl;have hp:=OR ho;unfold MX
  split
  ·rename_i hg;refine ⟨?_,ih⟩;cases draw
   ·intro P I next stop rest k env S
    rw [hA];unfold JX;rw [ho];simp only [hg];rfl
   ·refine ⟨?_,fun env=>by rw [hA,hp];unfold OQ;simp only [hg],by rw [hA,hp],by rw [hA,hp]⟩;intro P I nq S l env;rw [hA,hp];unfold zP;simp only [hg];rfl
  ·rename_i t b hg
   split
   ·rename_i t2 ht;have hv:∀ env:List V,lJ env A t=env.getD t2 .undef:=fun env=>by unfold lJ;rw [ht]
    refine ⟨?_,ih⟩;cases draw
    ·refine ⟨?_,?_,by rw [hA,hp]⟩
     ·intro P I next stop rest k env S
      rw [hA,hp];unfold JX;rw [ho];simp only [hg,hv]
     ·intro P I next stop rest k env S
      rw [hA,hp];rfl
    ·refine ⟨?_,?_,fun env=>by rw [hA,hp];unfold OQ;simp only [hg,hv],by rw [hA,hp],by rw [hA,hp]⟩
     ·intro P I nq S l env;rw [hA,hp];unfold zP;simp only [hg,hv];rfl
     ·intro P I nq S l env;rw [hA,hp];rfl
   ·exact ih
theorem Kc (A:Array Oper):∀ (l:List Oper) (i:Nat),A.toList.drop i=l→(Bz i l).map (fG A)=l
 | [],_,_=>rfl
 | o :: m,i,h=>by
  have hm:A.toList.drop (i+1)=m:=by rw [← mc,h];rfl
  have ho:A[i]? = some o:=by
   have h0:(A.toList.drop i)[0]? = some o:=by rw [h];rfl
   rw [dS] at h0
   simpa using h0
  rw [Bz,cw,OR ho,Kc A m (i+1) hm]
theorem va (L:List Code):∀ (c:Code) (i:Nat) (rest:List Code) (l:List Kx),L.drop i=jW c rest→KK (nth L) l→KK (nth L) (Ih i c l)
 | .seq a b,i,rest,l,h,hl=>by
  obtain ⟨m1,e1,n1⟩:=jX b rest;obtain ⟨m2,e2,n2⟩:=jX a (jW b rest);have h1:L.drop (i+1)=jW a (jW b rest):=by rw [← mc,h];rfl
  have h2:L.drop (i+Ig a+1)=jW b rest:=by
   have:=Gh (h1.trans e2);rw [← this];congr 1;simp;omega
  have k0:=jF L i _ _ h;have k1:=jF L (i+1) _ _ (h1.trans e2);have k2:=jF L (i+Ig a+1) _ _ (h2.trans e1);refine ⟨?_,va L a (i+1) _ _ h1 (va L b _ _ _ h2 hl)⟩;intro I next stop k env S
  rw [k0,k1,k2];rfl
 | .cond x a b,i,rest,l,h,hl=>by
  obtain ⟨m1,e1,n1⟩:=jX b rest;obtain ⟨m2,e2,n2⟩:=jX a (jW b rest);have h1:L.drop (i+1)=jW a (jW b rest):=by rw [← mc,h];rfl
  have h2:L.drop (i+Ig a+1)=jW b rest:=by
   have:=Gh (h1.trans e2);rw [← this];congr 1;simp;omega
  have k0:=jF L i _ _ h;have k1:=jF L (i+1) _ _ (h1.trans e2);have k2:=jF L (i+Ig a+1) _ _ (h2.trans e1);refine ⟨?_,va L a (i+1) _ _ h1 (va L b _ _ _ h2 hl)⟩;intro I next stop k env S
  rw [k0,k1,k2];rfl
 | .block j a,i,rest,l,h,hl=>by
  obtain ⟨m,e,n⟩:=jX a rest;have h1:L.drop (i+1)=jW a rest:=by rw [← mc,h];rfl
  have k0:=jF L i _ _ h;have k1:=jF L (i+1) _ _ (h1.trans e);refine ⟨?_,va L a (i+1) _ _ h1 hl⟩;intro I next stop k env S
  rw [k0,k1];rfl
 | .loop a,i,rest,l,h,hl=>by
  obtain ⟨m,e,n⟩:=jX a rest;have h1:L.drop (i+1)=jW a rest:=by rw [← mc,h];rfl
  have k0:=jF L i _ _ h;have k1:=jF L (i+1) _ _ (h1.trans e);refine ⟨?_,va L a (i+1) _ _ h1 hl⟩;intro I next stop k env S
  rw [k0,k1];rfl
 | .region j A false,i,rest,l,h,hl=>by
  have k0:=jF L i _ _ h;refine ⟨?_,Ii (by rw [k0];rfl) _ _ _ rfl hl⟩;intro I next stop k env S
  rw [k0];rfl
 | .region j A true,i,rest,l,h,hl=>by
  have k0:=jF L i _ _ h;refine ⟨⟨?_,?_⟩,Ii (by rw [k0];rfl) _ _ _ rfl hl⟩
  ·intro I next stop k env S
   rw [k0];rfl
  ·rw [k0];exact (Kc A _ 0 rfl).symm
 | .skip,i,rest,l,h,hl=>⟨fun I next stop k env S=>by rw [jF L i _ _ h];rfl,hl⟩
 | .label _,i,rest,l,h,hl=>⟨fun I next stop k env S=>by rw [jF L i _ _ h];rfl,hl⟩
 | .ret,i,rest,l,h,hl=>⟨fun I next stop k env S=>by rw [jF L i _ _ h];rfl,hl⟩
 | .exit j,i,rest,l,h,hl=>⟨fun I next stop k env S=>by rw [jF L i _ _ h];unfold od Tr;rfl,hl⟩
 | .rangeFunc _ _ _ _,_,_,_,_,hl | .scope _,_,_,_,_,hl | .goto _,_,_,_,_,hl | .refuse _,_,_,_,_,hl=>hl
theorem aeI (f:Func) {t:List Kx} (h:Ih 0 (MU f) []=t):KK (kF f) t:=by
 subst h;exact va _ _ 0 [] [] rfl trivial
def CQ (P:Program) (fn:FuncId) (f:Func) (n:Nat):Prop:=P.funcs[fn]? = some f∧(f.body,f.name == "runtime.NumGoroutine",f.ntmps)=(some (kF f 0),false,n)
theorem CQ.run {P:Program} {I:Inv} {fn:FuncId} {f:Func} {n:Nat} (b:CQ P fn f n) {args:List V} {S:Mem} {R:V→Mem→Prop} (hl:Nat.ble args.length n=true)
 (h:Ic args=true→az P I (S.boxes.length,S.dG.length) fn [.code (kF f 0)] (cN n (mb 0 args)) S (Left S R)):cy P I fn args S R :=
 cy.ZW n b.1 (aR b.2).1 (aR (aR b.2).2).1 (aR (aR b.2).2).2 (cm hl) h
theorem CQ.go {P:Program} {I:Inv} {fn:FuncId} {f:Func} {n:Nat} (b:CQ P fn f n) {args:List V} {S:Mem} {R:V→Mem→Prop} (m:Nat) (hl:Nat.ble args.length n=true)
 (h:Ic args=true→steps P I m (fun k env S'=>az P I (S.boxes.length,S.dG.length) fn k env S' (Left S R)) [.code (kF f 0)] (cN n (mb 0 args)) S):cy P I fn args S R :=
 b.run hl fun hs=>az.go m (h hs)
theorem KB {P:Program} {fn:FuncId} {f:Func} {Q:Prop} {t:List Kx} (h:P.funcs[fn]? = some f) (n:Nat) (e:(f.body,f.name == "runtime.NumGoroutine",f.ntmps)=(some (kF f 0),false,n):=by kernel_rfl) (c:Ih 0 (MU f) []=t:=by conv=>lhs;cbv) (k:KK (kF f) t→Q:=by intro c;dsimp only [KK,KxP,doO,opO,List.map_cons,List.map_nil,List.toList_toArray] at c;exact c):CQ P fn f n∧Q :=
 ⟨⟨h,e⟩,k (aeI f c)⟩
section
variable {P:Program} {I:Inv} {z:Nat × Nat} {fn:FuncId} {f:Func} {n:Nat} {Q:Prop} {R:V→Mem→Prop} {S:Mem}
theorem gL (b:CQ P fn f n∧Q) {args:List V} (h:Ic args=true→steps P I 200 (fun k env S'=>az P I (S.boxes.length,S.dG.length) fn k env S' (Left S R)) [.code (kF f 0)] (cN n (mb 0 args)) S) (hl:Nat.ble args.length n=true:=by rfl):cy P I fn args S R:=b.1.go 200 hl h
theorem zR (b:CQ P fn f n∧Q) {args:List V} (h:steps P I 200 (fun k env S'=>az P I (S.boxes.length,S.dG.length) fn k env S' (Left S R)) [.code (kF f 0)] (cN n (mb 0 args)) S) (hl:Nat.ble args.length n=true:=by rfl):cy P I fn args S R:=b.1.go 200 hl fun _=>h
theorem bN (b:CQ P fn f n∧Q) {k:List Item} {env:List V} {v:V} (hR:R v S) (hv:DN P S env f.results.toList=some v:=by exact rfl):az P I z fn (.code .ret :: k) env S R:=az.ret b.1.1 hv hR
end
theorem cx {u l:List (Nat × V)} {n:Nat} (h:eU u l:=by first | (simp only [qa,seval,hn];done) | (simp only [qa,seval];done) | (simp only [qa,seval,hn];all_goals rfl) | (simp only [qa,seval];all_goals rfl)):nR (cN n l) (cN n u):=eU.env n h
theorem j9 {p:Prop} (h:p:=by (try clear ih);(try simp only [yT] at *);simp only [yt,seval,cF]<;>simp [*]):p:=h
abbrev cF (v:V) (S:Mem):V→Mem→Prop:=fun v' S'=>v' = v∧S' = S
def Cx.bare (c:Cx) (w:World) (hM:∀ g k,c.M g k→c.I.top≤g∧g < w.heap.size):Cx:=⟨w.heap.size,[],[],c.I,c.M,hM⟩
theorem ji.aiA {c:Cx} {w:World} {S:Mem} (h:ji c w S) (g k:Nat) (hm:c.M g k):c.I.top≤g∧g < w.heap.size:=by
 refine ⟨?_,?_⟩
 ·have hB:=h.hB.1;rcases hm with (hm | hm) | ⟨t,i,off,ht,ha,h1,h2⟩
  ·exact (c.hX _ _ hm).1
  ·obtain ⟨i,hi⟩:=ql.1 hm;have:=(h.box i g hi).1;omega
  ·obtain ⟨a1,a2,a3,a4,a5⟩:=h.tok t i ht
   have bu:i.n < i.cap:=by
    rcases ct i.n i.cap with h' | h'
    ·exact h'
    ·have:=cD i.sz h';omega
   have:=(a5 bu g off ha).1;omega
 ·rcases ct g w.heap.size with h' | h'
  ·exact h'
  ·exact absurd hm (h.Dy h')
theorem VR.move {c c':Cx} {w:World} {v:V} {x:Value} (h:VR c w v x) (hM:∀ g k,c'.M g k→c.M g k):VR c' w (wk 0 0 v) x:=by
 have hd:∀ {d:D} {x:Value},DR c.M w d x→DR c'.M w d x:=fun h=>h.mono fun _ _ _ hm hv=>⟨fun h=>hm (hM _ _ h),hv⟩
 induction h with
 | undef v=>unfold wk;exact .undef v
 | d x v h=>unfold wk;exact .d x v (hd h)
 | full rows a h ha=>unfold wk;exact .d _ _ (hd h)
 | own rows t a cap i h ht hr hn hl =>
  unfold wk;rw [aq ak];exact .d _ _ (hd h)
 | ptr i k b h hT =>
  unfold wk;rw [aq ak];exact .undef _
 | bx i k cap b h hn hm hT =>
  unfold wk;rw [aq ak];exact .undef _
 | mp i b h =>
  unfold wk;rw [aq ak];exact .undef _
 | self i T b v h hT hv =>
  unfold wk;rw [aq ak];exact .undef _
 | buf rows t T v h hT ih =>
  unfold wk at ih ⊢;rw [aq ak] at ih ⊢;exact ih
 | nc row k g o f h =>
  unfold wk;refine .nc row k g o f fun q hq=>?_;obtain ⟨a,b,d⟩:=h q hq;exact ⟨fun h=>a (hM _ _ h),b,hd d⟩
 | oU=>unfold wk;exact .oU
 | sF=>unfold wk;exact .sF
 | func f first caps cf cc h1 h2 h3 h4 SQ o8 =>
  unfold wk;rw [pF,pF];exact .func f _ _ cf cc (by simpa using h1) (by simpa using h2) (fun j hj=>by simpa using SQ j (by simpa using hj)) (fun j hj=>by simpa using o8 j (by simpa using hj))
 | agg vs cs h1 h2 h3 ih =>
  unfold wk;rw [pF];exact .agg _ cs (by simpa using h1) (fun j hj=>by simpa using ih j (by simpa using hj)) (fun j hj=>h3 j (by simpa using hj))
 | fZ vs cs h1 h2 ih =>
  unfold wk;rw [pF];exact .fZ _ cs (by simpa using h1) (fun j hj=>by simpa using ih j (by simpa using hj))
theorem cy.frame {P:Program} {I:Inv} {f:FuncId} {args:List V} {R:V→Mem→Prop} (h:cy P I f (u7 0 0 args) ⟨[],[]⟩ R) (S:Mem):cy P I f args S fun v S'=>S' = S∧∃ v0 S0,R v0 S0∧v=wk 0 0 v0:=by
 refine ⟨h.1,fun c w xs h1 h2 h3 hI cs=>?_⟩;have hM:=h3.aiA
 have OE:∀ g k,(c.bare w hM).M g k↔c.M g k:=by
  intro g k;constructor
  ·rintro ((h' | h') | ⟨t,i,off,ht,_⟩)
   ·exact h'
   ·simp [Cx.bare] at h'
   ·simp [Cx.bare] at ht
  ·exact fun h'=>.inl (.inl h')
 have hr:ji (c.bare w hM) w ⟨[],[]⟩ :=
  ⟨⟨by have:=h3.hB;show c.I.top≤w.heap.size;omega,aA _⟩,rfl,fun i b h=>by simp [Cx.bare] at h,fun i j b h=>by simp [Cx.bare] at h,rfl,fun t i h=>by simp [Cx.bare] at h,fun t t' i i' g off Bq h=>by simp [Cx.bare] at h,
    fun w' hw=>h3.inv w' (hw.mono h3.hB.2)⟩
 have Tt:(u7 0 0 args).length=args.length:=by rw [pF,aS]
 obtain ⟨e,w',fr,⟨v,x,S0,c',rfl,a2,a3,a4,a5⟩,r⟩:=h.2 (c.bare w hM) w xs (by rw [Tt];exact h1) (fun j hj=>by
  have jT:j < args.length:=by rw [← Tt];exact hj
  have e:(u7 0 0 args)[j]=wk 0 0 args[j]:=by simp [pF]
  rw [e];exact (h2 j jT).move fun g k h'=>(OE g k).1 h') hr hI cs
 have hb:Below w.heap.size w w':=a4.below;obtain ⟨q1,q2⟩:=h3.under hb;refine ⟨.returned x,w',fr,⟨wk 0 0 v,x,S,c,rfl,⟨rfl,v,S0,a2,rfl⟩,q1,q2,?_⟩,r⟩;refine a5.move fun g k hm=>?_;have hX:c'.X=c.M:=a4.X;refine .inl (.inl ?_);show c'.X g k;rw [hX];exact hm
theorem cy.same {P:Program} {I:Inv} {f:FuncId} {args:List V} {v:V} (h:cy P I f args ⟨[],[]⟩ (cF v ⟨[],[]⟩)) (hd:u7 0 0 args=args) (hv:wk 0 0 v=v) (S:Mem):cy P I f args S (cF v S) :=
 cy.mono (cy.frame (R:=cF v ⟨[],[]⟩) (by rw [hd];exact h) S) fun v' S' h=>by
  obtain ⟨h1,v0,S0,⟨h2,_⟩,h3⟩:=h;exact ⟨by rw [h3,h2,hv],h1⟩
theorem az.aiB {P:Program} {I:Inv} {z:Nat × Nat} {fn:FuncId} {R:V→Mem→Prop} {k:List Item} {env:List V} {S:Mem} (h:(∀ t,fit S.boxes.length S.dG.length (env.getD t .undef)=true)→az P I z fn k env S R):az P I z fn k env S R :=
 fun b a c w c0 w0 h1 h2 h3 h4 h5 h6 hI=>h (fun t=>by
  have:=(h4.get t).fits;rw [h5.len,h5.dG,aS];exact this) b a c w c0 w0 h1 h2 h3 h4 h5 h6 hI
def Ij {α β:Type} (e:α→β→Bool):List α→List β→Bool
 | [],[]=>true
 | x :: a,y :: b=>e x y && Ij e a b
 | _,_=>false
theorem OS {α β:Type} (e:α→β→Bool):∀ (a:List α) (b:List β),a.length ≠ b.length→Ij e a b=false
 | [],[],h=>absurd rfl h
 | [],_ :: _,_=>rfl
 | _ :: _,[],_=>rfl
 | x :: a,y :: b,h=>by rw [Ij,OS e a b (by simpa using h),Bool.and_false]
theorem Tu {α β:Type} (e:α→β→Bool) (a:List α) (b:List β) (i:Nat) (h:i < a.length) (h':i < b.length):Ij e (a.drop i) (b.drop i)=(e a[i] b[i] && Ij e (a.drop (i+1)) (b.drop (i+1))):=by
 rw [aJ h,aJ h',Ij]
theorem Xn {α β:Type} (e:α→β→Bool) (a:List α) (b:List β) (i:Nat) (h:a.length≤i) (h':b.length≤i):Ij e (a.drop i) (b.drop i)=true:=by
 rw [ay h,ay h',Ij]
theorem Left.empty {R:V→Mem→Prop} {v:V} {S':Mem} (h:R (wk 0 0 v) ⟨[],[]⟩):Left ⟨[],[]⟩ R v S':=⟨[],S'.boxes,[],S'.dG,rfl,rfl,rfl,fun i vs h=>by simp at h,h⟩
section
variable {P:Program} {I:Inv} {ops:Array Oper} {W:List Nat} {M:Nat→Mem}
def QA (P:Program) (I:Inv) (ops:Array Oper) (M:Nat→Mem) (o:Oper) (env iI:List V):Prop:=∀ b,∃ v,YA P I ops o env (M b) v∧iI=dD env o.dst v
def WA (P:Program) (I:Inv) (ops:Array Oper) (M:Nat→Mem) (o:Oper) (env:List V) (a:Nat) (v:V):Prop:=kQ env ops o∧jt P (bw I env) (M a) o.op=some (v,M (a+1))
theorem WA.congr {o:Oper} {env:List V} {d:Option Tmp} {x v:V} {a:Nat} (h:∀ t,d=some t→t ∉ o.looksAt ops):WA P I ops M o (dD env d x) a v↔WA P I ops M o env a v:=by
 cases d with
 | none=>rfl
 | some t =>
  have h:=h t rfl;unfold WA;have he:∀ y∈o.op.operands,bw I (env.set t x) y=bw I env y:=fun y hy=>xA (zN h y hy)
  have hw:kQ (env.set t x) ops o↔kQ env ops o:=by
   unfold kQ;constructor
   ·rintro (h1 | ⟨j,t,h1,h2⟩)
    ·exact .inl h1
    ·exact .inr ⟨j,t,h1,by rw [← lM (kr h h1)];exact h2⟩
   ·rintro (h1 | ⟨j,t,h1,h2⟩)
    ·exact .inl h1
    ·exact .inr ⟨j,t,h1,by rw [lM (kr h h1)];exact h2⟩
  show kQ (env.set t x) ops o∧jt P (bw I (env.set t x)) (M a) o.op=_↔_;rw [hw,xB o.op he]
theorem Tv (env:List V) (d:Option Tmp) (v:V):(dD env d v).length=env.length:=by
 cases d with
 | none=>rfl
 | some t=>simp [dD]
theorem QA.len {o:Oper} {env iI:List V} (h:QA P I ops M o env iI):iI.length=env.length:=by
 obtain ⟨v,_,rfl⟩:=h 0;exact Tv _ _ _
def zU (ops:Array Oper) (listed:Array Bool) (i:Nat) (oi:Oper):Prop:=∀ j oj,ops[j]? = some oj→j ≠ i→listed.getD j true=false→(∀ e∈oj.after,Region.binds .any e=true→e.on ≠ i)→oi.apart ops oj=true
theorem zU.next {listed:Array Bool} {i j:Nat} {oi:Oper} (h:zU ops listed i oi) (hj:listed.getD j true=false):zU ops (listed.setIfInBounds j true) i oi:=fun k ok hk uA tD Fx=>by
 refine h k ok hk uA ?_ Fx
 by_cases xC:j=k
 ·subst xC;exact hj
 ·rw [getD_set_ne true xC] at tD;exact tD
theorem zU.apart {listed:Array Bool} {i j:Nat} {oi oj:Oper} (h:zU ops listed i oi) (hr:i∈Region.ready .any ops listed) (hj:j∈Region.ready .any ops listed) (mB:j ≠ i) (qs:ops[j]? = some oj) :
 (∀ d,oi.dst=some d→d ∉ oj.looksAt ops)∧(∀ d,oi.dst=some d→oj.dst ≠ some d)∧(∀ d,oj.dst=some d→d ∉ oi.looksAt ops):=by
 obtain ⟨sL,oj',sM,j4⟩:=mem_ready.1 hj;rw [qs] at sM;obtain rfl:=ag sM;refine Oper.apart_spec (h j oj qs mB sL fun e he hb heq=>?_);have h1:=j4 e he hb;have h0:=(mem_ready.1 hr).1;rw [heq] at h1;rcases ct i listed.size with h' | h'
 ·simp [h'] at h0 h1;rw [h0] at h1;cases h1
 ·simp [fy h'] at h1
variable {K:List V→Mem→Prop}
def DV (ops:Array Oper) (W:List Nat) (listed:Array Bool) (i:Nat):Prop:=∀ j oj,ops[j]? = some oj→W.contains j=true→j ≠ i→listed.getD j true=false→∃ e∈oj.after,Region.binds .any e=true∧W.contains e.on=true∧listed.getD e.on true=false
end
section
variable {P:Program} {I:Inv} {ops:Array Oper} {W:List Nat} {MM:Mem→Prop}
def uD (P:Program) (I:Inv) (o:Oper) (env:List V) (S:Mem) (Q:V→Mem→Prop):Prop :=
 ∀ (c:Cx) (w:World) (ev:Operand→Value),ji c w S→c.I=I→(∀ y∈o.op.operands,VR c w (bw I env y) (ev y))→∃ x w' c' v S',(execOp ev o).run P w = .ok (.value x) w'∧Q v S'∧ji c' w' S'∧Ext c w c' w'∧VR c' w' v x
theorem uD.congr {o:Oper} {env iI:List V} {S:Mem} {Q:V→Mem→Prop} (he:∀ y∈o.op.operands,bw I iI y=bw I env y):uD P I o iI S Q↔uD P I o env S Q:=by
 constructor
 ·exact fun h c w ev h1 h2 h3=>h c w ev h1 h2 fun y hy=>by rw [he y hy];exact h3 y hy
 ·exact fun h c w ev h1 h2 h3=>h c w ev h1 h2 fun y hy=>by rw [← he y hy];exact h3 y hy
theorem uD.step {z:Nat × Nat} {fn:FuncId} {k:List Item} {R:V→Mem→Prop} {i:Nat} {rest:List Nat} {o:Oper} {env:List V} {S:Mem} {Q:V→Mem→Prop} (ho:ops[i]? = some o) (hw:kQ env ops o) (h:uD P I o env S Q) (hk:∀ v S',Q v S'→az P I z fn (.inRegion ops rest :: k) (dD env o.dst v) S' R):az P I z fn (.inRegion ops (i :: rest) :: k) env S R:=by
 intro b a c w c0 w0 h1 h2 h3 h4 h5 h6 hI
 obtain ⟨x,w',c',v,S',eI,hQ,Bw,DM,hv⟩:=h c w a.eval h5 hI.1 fun y _=>by
  have:=ij.eval h5 h4 y
  rwa [hI.1] at this
 have hg:=fun cs=>stepG_op (P:=P) (b:=b) (k:=k) (cs:=cs) (w:=w) (rest:=rest) ho (zL h4 hw)
 have hs:∀ cs,Go.step P (lone (b.at a (.inRegion ops (i :: rest) :: k)) cs w) = .next (lone (b.at (a.put o.dst x) (.inRegion ops rest :: k)) cs w'):=by
  intro cs;refine step_lone_go ?_;have nQ:(b.at a (.inRegion ops (i :: rest) :: k)).finish x=b.at (a.put o.dst x) (.inRegion ops rest :: k):=by rw [Frame.finish_at,ho];rfl
  rw [hg cs,← nQ];simp [stepG.apply,eI]
 refine FI.step hs (hk v S' hQ b (a.put o.dst x) c' w' c0 w0 h1 h2 ?_ ?_ Bw (h6.trans DM) ⟨DM.I.trans hI.1,hI.2⟩)
 ·cases o.dst<;>simpa [Act.put] using h3
 ·exact (h4.ext DM).put o.dst hv
def WO (P:Program) (I:Inv) (o:Oper) (env:List V) (S:Mem) (Q:V→Mem→Prop):Prop :=
 (∃ v S',jt P (bw I env) S o.op=some (v,S')∧Q v S')∨(∃ q f g first caps,o.op = .call q∧q.callee = .value f∧bw I env f = .func g first caps∧cy P I g (first++q.args.toList.map (bw I env)++caps) S Q)∨uD P I o env S Q
theorem WO.congr {o:Oper} {env:List V} {d:Option Tmp} {x:V} {S:Mem} {Q:V→Mem→Prop} (h:∀ t,d=some t→t ∉ o.looksAt ops):WO P I o (dD env d x) S Q↔WO P I o env S Q:=by
 cases d with
 | none=>rfl
 | some t =>
  have h:=h t rfl;have he:∀ y∈o.op.operands,bw I (env.set t x) y=bw I env y:=fun y hy=>xA (zN h y hy);unfold WO;show (∃ v S',jt P (bw I (env.set t x)) S o.op=some (v,S')∧Q v S')∨_↔_;rw [xB o.op he];refine uz pG (uz ?_ (uD.congr he));refine hU fun q=>hU fun f=>hU fun g=>hU fun first=>hU fun caps=>?_
  constructor
  ·rintro ⟨h1,h2,h3,h4⟩;have uZ:∀ y∈q.operands,bw I (env.set t x) y=bw I env y:=fun y hy=>he y (by rw [h1];exact hy);have h5:q.args.toList.map (bw I (env.set t x))=q.args.toList.map (bw I env):=List.map_congr_left fun y hy=>uZ y (by unfold Call.operands;simp only [Array.mem_append];exact .inr (by simpa using hy));have h6:bw I (env.set t x) f=bw I env f:=uZ f (by unfold Call.operands;rw [h2];simp);exact ⟨h1,h2,by rw [← h6];exact h3,by rw [← h5];exact h4⟩
  ·rintro ⟨h1,h2,h3,h4⟩;have uZ:∀ y∈q.operands,bw I (env.set t x) y=bw I env y:=fun y hy=>he y (by rw [h1];exact hy);have h5:q.args.toList.map (bw I (env.set t x))=q.args.toList.map (bw I env):=List.map_congr_left fun y hy=>uZ y (by unfold Call.operands;simp only [Array.mem_append];exact .inr (by simpa using hy));have h6:bw I (env.set t x) f=bw I env f:=uZ f (by unfold Call.operands;rw [h2];simp);exact ⟨h1,h2,by show bw I (env.set t x) f=_;rw [h6];exact h3,by show cy P I g (first++q.args.toList.map (bw I (env.set t x))++caps) S Q;rw [h5];exact h4⟩
def WG (P:Program) (I:Inv) (ops:Array Oper) (o:Oper) (env:List V) (S:Mem) (Q:V→Mem→Prop):Prop:=(kQ env ops o∧WO P I o env S Q)∨(wu env ops o∧Q (.fZ []) S)
theorem WG.congr {o:Oper} {env:List V} {d:Option Tmp} {x:V} {S:Mem} {Q:V→Mem→Prop} (h:∀ t,d=some t→t ∉ o.looksAt ops):WG P I ops o (dD env d x) S Q↔WG P I ops o env S Q:=by
 cases d with
 | none=>rfl
 | some t=>exact uz (sr (wE (h t rfl)) (WO.congr h)) (sr (wF (h t rfl)) pG)
def WC (P:Program) (I:Inv) (ops:Array Oper) (o:Oper) (env:List V) (S:Mem) (K:V→Mem→Prop):Prop:=∃ Q,(∃ v S',Q v S')∧WG P I ops o env S Q∧∀ v S',Q v S'→K v S'
def QC (P:Program) (I:Inv) (ops:Array Oper) (MM:Mem→Prop) (o:Oper) (env:List V) (v:V):Prop:=(kQ env ops o∧∀ S,MM S→jt P (bw I env) S o.op=some (v,S))∨(wu env ops o∧v = .fZ [])
theorem QC.congr {o:Oper} {env:List V} {d:Option Tmp} {x v:V} (h:∀ t,d=some t→t ∉ o.looksAt ops):QC P I ops MM o (dD env d x) v↔QC P I ops MM o env v:=by
 cases d with
 | none=>rfl
 | some t =>
  have h:=h t rfl;have he:∀ y∈o.op.operands,bw I (env.set t x) y=bw I env y:=fun y hy=>xA (zN h y hy);refine uz (sr (wE h) (forall_congr' fun S=>?_)) (sr (wF h) pG);show (MM S→jt P (bw I (env.set t x)) S o.op=_)↔_;rw [xB o.op he]
theorem QC.one {o:Oper} {env:List V} {v u:V} {S:Mem} (hS:MM S) (h:QC P I ops MM o env v) (h':QC P I ops MM o env u):v=u:=by
 rcases h with ⟨a,h⟩ | ⟨a,h⟩<;>rcases h' with ⟨b,h'⟩ | ⟨b,h'⟩
 ·have h1:=h S hS;rw [h' S hS] at h1;cases h1;rfl
 ·exact (Cm a b).elim
 ·exact (Cm b a).elim
 ·rw [h,h']
def rL (P:Program) (I:Inv) (ops:Array Oper) (W:List Nat) (MM:Mem→Prop) (K:List V→Mem→Prop):Nat→Array Bool→List V→Mem→Prop
 | 0,listed,env,S=>MM S∧Region.ready .any ops listed=[]∧K env S
 | n+1,listed,env,S=>MM S∧(Region.ready .any ops listed=[]→K env S)∧∀ i∈Region.ready .any ops listed,∃ o,ops[i]? = some o ∧
  ((W.contains i=true∧WC P I ops o env S fun v S'=>rL P I ops W MM K n (listed.setIfInBounds i true) (dD env o.dst v) S') ∨
   (W.contains i=false∧∃ v,QC P I ops MM o env v∧rL P I ops W MM K n (listed.setIfInBounds i true) (dD env o.dst v) S))
variable {K:List V→Mem→Prop}
theorem rL.in:∀ {n:Nat} {listed:Array Bool} {env:List V} {S:Mem},rL P I ops W MM K n listed env S→MM S
 | 0,_,_,_,h=>h.1
 | _+1,_,_,_,h=>h.1
theorem yU {i:Nat} {oi:Oper} (hi:ops[i]? = some oi) (hq:W.contains i=false) {v:V}:∀ (n:Nat) (listed:Array Bool) (env:List V) (S:Mem),zU ops listed i oi→i∈Region.ready .any ops listed→QC P I ops MM oi env v→rL P I ops W MM K n (listed.setIfInBounds i true) (dD env oi.dst v) S→rL P I ops W MM K (n+1) listed env S:=by
 intro n
 induction n with
 | zero =>
  intro listed env S _ hr hy H;refine ⟨H.in,fun h=>(by rw [h] at hr;cases hr),fun j hj=>?_⟩
  by_cases mB:j=i
  ·subst mB;exact ⟨oi,hi,.inr ⟨hq,v,hy,H⟩⟩
  ·have:=ready_mono hj mB;rw [H.2.1] at this;cases this
 | succ n ih =>
  intro listed env S m6 hr hy H;refine ⟨H.in,fun h=>(by rw [h] at hr;cases hr),fun j hj=>?_⟩
  by_cases mB:j=i
  ·subst mB;exact ⟨oi,hi,.inr ⟨hq,v,hy,H⟩⟩
  obtain ⟨oj,qs,hH⟩:=H.2.2 j (ready_mono hj mB);have sL:=(mem_ready.1 hj).1;obtain ⟨a1,a2,a3⟩:=m6.apart hr hj mB qs;have vb:=ready_mono hr (jk mB);rcases hH with ⟨uU,Q,gW,QB,hk⟩ | ⟨uU,u,Wp,h1⟩
  ·refine ⟨oj,qs,.inl ⟨uU,Q,gW,(WG.congr a1).1 QB,fun u S' hQ=>?_⟩⟩;refine ih (listed.setIfInBounds j true) (dD env oj.dst u) S' (m6.next sL) vb ((QC.congr a3).2 hy) ?_;rw [gG _ _ mB,← oK env v u a2];exact hk u S' hQ
  ·refine ⟨oj,qs,.inr ⟨uU,u,(QC.congr a1).1 Wp,ih (listed.setIfInBounds j true) (dD env oj.dst u) S (m6.next sL) vb ((QC.congr a3).2 hy) ?_⟩⟩;rw [gG _ _ mB,← oK env v u a2];exact h1
def yu (ops:Array Oper) (k:Nat) (acc:List Nat) (j:Nat):List Nat :=
 cond (Nat.ble j k) acc (match ops[j]? with
  | some o=>cond (o.after.any fun e=>Region.binds .any e && acc.contains e.on) (j :: acc) acc
  | none=>acc)
def desc (ops:Array Oper) (k:Nat):List Nat:=(List.range ops.size).foldl (yu ops k) [k]
def Ik (ops:Array Oper) (W:List Nat):Bool:=(W.all fun k=>Nat.ble (k+1) ops.size) && W.all fun k=>W.all fun j=>Nat.ble j k || (desc ops k).contains j
theorem Gi (k:Nat):∀ (l acc:List Nat),(∀ j∈acc,j=k∨(k < j∧∃ oj,ops[j]? = some oj∧∃ e∈oj.after,Region.binds .any e=true∧e.on∈acc)) →
 ∀ j∈l.foldl (yu ops k) acc,j=k∨(k < j∧∃ oj,ops[j]? = some oj∧∃ e∈oj.after,Region.binds .any e=true∧e.on∈l.foldl (yu ops k) acc)
 | [],_,h=>h
 | q :: l,acc,h=>by
  refine Gi k l (yu ops k acc q) fun j hj=>?_
  have wG:∀ x∈acc,x∈yu ops k acc q:=by
   intro x hx;unfold yu;cases Nat.ble q k with
   | true=>exact hx
   | false =>
    simp only [nt]
    split
    ·rename_i o _;cases (o.after.any fun e=>Region.binds .any e && acc.contains e.on) with
     | true=>exact aU _ hx
     | false=>exact hx
    ·exact hx
  have hold:j∈acc→j=k∨(k < j∧∃ oj,ops[j]? = some oj∧∃ e∈oj.after,Region.binds .any e=true∧e.on∈yu ops k acc q):=fun hj=>(h j hj).imp_right fun ⟨h1,oj,h2,e,h3,h4,h5⟩=>⟨h1,oj,h2,e,h3,h4,wG _ h5⟩
  by_cases ZY:j∈acc
  ·exact hold ZY
  have Wl:=hj;unfold yu at hj;cases hb:Nat.ble q k with
  | true=>rw [hb] at hj;exact absurd hj ZY
  | false =>
   rw [hb] at hj;simp only [nt] at hj
   split at hj
   ·rename_i o ho;cases ha:(o.after.any fun e=>Region.binds .any e && acc.contains e.on) with
    | false=>rw [ha] at hj;exact absurd hj ZY
    | true =>
     rw [ha] at hj;rcases bB.1 hj with rfl | hj
     ·rw [Array.any_eq_true] at ha;obtain ⟨e,Bg,h3⟩:=ha;rw [aF] at h3;refine .inr ⟨?_,o,ho,o.after[e],Array.getElem_mem Bg,h3.1,wG _ (bZ.1 h3.2)⟩;rcases ct k j with h' | h'
      ·exact h'
      ·rw [Nat.ble_eq_true_of_le h'] at hb;cases hb
     ·exact absurd hj ZY
   ·exact absurd hj ZY
theorem zV {k j:Nat} (h:j∈desc ops k):j=k∨(k < j∧∃ oj,ops[j]? = some oj∧∃ e∈oj.after,Region.binds .any e=true∧e.on∈desc ops k) :=
 Gi k _ _ (fun j hj=>.inl (bO.1 hj)) j h
theorem MY {k:Nat} {listed:Array Bool} (hk:k < ops.size) (Co:∀ j,j < ops.size→listed.getD j true=decide (j < k)):DV ops (desc ops k) listed k:=by
 intro j oj qs hj xC _;rcases zV (bZ.1 hj) with rfl | ⟨_,oj',sM,e,he,hb,Xo⟩
 ·exact absurd rfl xC
 rw [qs] at sM;obtain rfl:=ag sM;refine ⟨e,he,hb,bZ.2 Xo,?_⟩;rcases zV Xo with h | ⟨h,oe,hoe,_⟩
 ·rw [h,Co k hk];exact af (nY k)
 ·rw [Co _ (bD.1 hoe).1];exact af ak
theorem Tw {W:List Nat} {k:Nat} {listed:Array Bool} (Wq:(W.all fun k=>W.all fun j=>Nat.ble j k || (desc ops k).contains j)=true) (hw:W.contains k=true) (Co:∀ j,j < ops.size→listed.getD j true=decide (j < k)) :
 ∀ j oj,ops[j]? = some oj→W.contains j=true→listed.getD j true=false→j=k∨(desc ops k).contains j=true:=by
 intro j oj qs uU tD;rw [Co j (bD.1 qs).1] at tD;have hkj:=dJ tD;have h1:=cC.1 (cC.1 Wq k (bZ.1 hw)) j (bZ.1 uU);rw [lg] at h1;rcases h1 with h | h
 ·exact .inl (by have:=cm h;omega)
 ·exact .inr h
theorem DV.next {U:List Nat} {listed:Array Bool} {i j:Nat} {oj:Oper} (h:DV ops U listed i) (j4:∀ e∈oj.after,Region.binds .any e=true→listed.getD e.on false=true) (qs:ops[j]? = some oj) (mB:j ≠ i) (sL:listed.getD j true=false):DV ops U (listed.setIfInBounds j true) i:=by
 intro k ok hk Gj uA tD
 by_cases xC:j=k
 ·subst xC;rw [qs] at hk;obtain rfl:=ag hk;obtain ⟨e,he,hb,_,Gk⟩:=h j oj qs Gj mB sL;have h1:=j4 e he hb;rcases ct e.on listed.size with h' | h'
  ·simp [h'] at Gk h1;rw [Gk] at h1;cases h1
  ·simp [fy h'] at h1
 ·rw [getD_set_ne true xC] at tD;obtain ⟨e,he,hb,hwe,Gk⟩:=h k ok hk Gj uA tD;refine ⟨e,he,hb,hwe,?_⟩
  have gW:j ≠ e.on:=by
   intro hje;obtain ⟨e2,Th,xV,_,aeJ⟩:=h j oj qs (by rw [hje];exact hwe) mB sL;have h1:=j4 e2 Th xV;rcases ct e2.on listed.size with h' | h'
   ·simp [h'] at aeJ h1;rw [aeJ] at h1;cases h1
   ·simp [fy h'] at h1
  rw [getD_set_ne true gW];exact Gk
theorem MZ {U:List Nat} {i:Nat} {oi:Oper} (hi:ops[i]? = some oi) (hq:W.contains i=true):∀ (n:Nat) (listed:Array Bool) (env:List V) (S:Mem),MM S→zU ops listed i oi→DV ops U listed i→(∀ j oj,ops[j]? = some oj→W.contains j=true→listed.getD j true=false→j=i∨U.contains j=true)→i∈Region.ready .any ops listed→WC P I ops oi env S (fun v S'=>rL P I ops W MM K n (listed.setIfInBounds i true) (dD env oi.dst v) S')→rL P I ops W MM K (n+1) listed env S:=by
 intro n
 induction n with
 | zero =>
  intro listed env S hS _ _ _ hr hy;refine ⟨hS,fun h=>(by rw [h] at hr;cases hr),fun j hj=>?_⟩
  by_cases mB:j=i
  ·subst mB;exact ⟨oi,hi,.inl ⟨hq,hy⟩⟩
  ·have:=ready_mono hj mB;obtain ⟨Q,⟨v0,S0,h0⟩,_,hk⟩:=hy;rw [(hk v0 S0 h0).2.1] at this;cases this
 | succ n ih =>
  intro listed env S hS m6 Ke hWU hr hy;refine ⟨hS,fun h=>(by rw [h] at hr;cases hr),fun j hj=>?_⟩
  by_cases mB:j=i
  ·subst mB;exact ⟨oi,hi,.inl ⟨hq,hy⟩⟩
  obtain ⟨Q,⟨v0,S0,h0⟩,QB,hk⟩:=hy;obtain ⟨oj,qs,hH⟩:=(hk v0 S0 h0).2.2 j (ready_mono hj mB);obtain ⟨sL,oj',sM,j4⟩:=mem_ready.1 hj;rw [qs] at sM;obtain rfl:=ag sM;obtain ⟨a1,a2,a3⟩:=m6.apart hr hj mB qs;have vb:=ready_mono hr (jk mB);rcases hH with ⟨uU,_⟩ | ⟨uU,u,Wp,_⟩
  ·obtain ⟨e,he,hb,_,tD⟩:=Ke j oj qs ((hWU j oj qs uU sL).resolve_left mB) mB sL;have h1:=j4 e he hb;rcases ct e.on listed.size with h' | h'
   ·simp [h'] at tD h1;rw [tD] at h1;cases h1
   ·simp [fy h'] at h1
  ·have Kf:=(QC.congr a1).1 Wp;refine ⟨oj,qs,.inr ⟨uU,u,Kf,ih (listed.setIfInBounds j true) (dD env oj.dst u) S hS (m6.next sL) (Ke.next j4 qs mB sL) (fun k ok hk Gj tD=>?_) vb ⟨Q,⟨v0,S0,h0⟩,(WG.congr a3).2 QB,fun v S' hQ=>?_⟩⟩⟩
   ·by_cases xC:j=k
    ·subst xC;rw [uU] at Gj;cases Gj
    ·rw [getD_set_ne true xC] at tD;exact hWU k ok hk Gj tD
   ·obtain ⟨oj',sM,hH'⟩:=(hk v S' hQ).2.2 j (ready_mono hj mB);rw [qs] at sM;obtain rfl:=ag sM;rcases hH' with ⟨Tx,_⟩ | ⟨_,u',Kf,h1⟩
    ·rw [uU] at Tx;cases Tx
    ·have e:=QC.one hS Kf ((QC.congr a1).2 ((QC.congr a1).1 Wp));have e2:QC P I ops MM oj env u':=(QC.congr a1).1 Kf;have e3:=QC.one hS e2 ((QC.congr a1).1 Wp);subst e3;rw [gG _ _ mB,← oK env v u' a2];exact h1
def Il (P:Program) (I:Inv) (ops:Array Oper) (W:List Nat) (MM:Mem→Prop) (K:List V→Mem→Prop):List Oper→Nat→List V→Mem→Prop
 | [],_,env,S=>MM S∧K env S
 | o :: l,k,env,S=>(W.contains k=true→MM S∧WC P I ops o env S fun v S'=>Il P I ops W MM K l (k+1) (dD env o.dst v) S') ∧
  (W.contains k=false→∃ v,QC P I ops MM o env v∧Il P I ops W MM K l (k+1) (dD env o.dst v) S)
theorem DW (hW0:(W.all fun k=>Nat.ble (k+1) ops.size)=true) (Wq:(W.all fun k=>W.all fun j=>Nat.ble j k || (desc ops k).contains j)=true):∀ (l:List Oper) (k:Nat) (listed:Array Bool) (env:List V) (S:Mem),(∀ j,l[j]? = ops[k+j]?)→(∀ j,j < ops.size→listed.getD j true=decide (j < k)) →
 Region.lexFrom .any ops l.length k listed=true→Il P I ops W MM K l k env S→rL P I ops W MM K l.length listed env S
 | [],_,_,_,_,_,_,hB,h=>⟨h.1,by simpa [Region.lexFrom] using hB,h.2⟩
 | o :: l,k,listed,env,S,hl,Co,hB,h=>by
  have h0:ops[k]? = some o:=by simpa using (hl 0).symm
  have hk:=(bD.1 h0).1;simp only [aP,Region.lexFrom,aF] at hB;obtain ⟨⟨hr,hf⟩,Wo⟩:=hB
  have Kg:∀ j,j < ops.size→(listed.setIfInBounds k true).getD j true=decide (j < k+1):=by
   intro j hj
   by_cases xC:k=j
   ·subst xC;have:decide (k < k+1)=true:=ah ak;rw [this]
    by_cases hs:k < listed.size<;>simp [hs]
   ·rw [getD_set_ne true xC,Co j hj];exact cM.2 ak
  have m6:zU ops listed k o:=Region.free_spec h0 hf;cases hw:W.contains k with
  | true =>
   obtain ⟨hS,Q,gW,QB,hK⟩:=h.1 hw;exact MZ h0 hw l.length listed env S hS m6 (MY hk Co) (Tw Wq hw Co) (by simpa using hr) ⟨Q,gW,QB,fun v S' hQ=>DW hW0 Wq l (k+1) _ _ _ (fun j=>by have:=hl (j+1);simpa [Nat.add_assoc,Nat.add_comm 1 j] using this) Kg Wo (hK v S' hQ)⟩
  | false =>
   obtain ⟨v,hv,hK⟩:=h.2 hw;exact yU h0 hw l.length listed env S m6 (by simpa using hr) hv (DW hW0 Wq l (k+1) _ _ _ (fun j=>by have:=hl (j+1);simpa [Nat.add_assoc,Nat.add_comm 1 j] using this) Kg Wo hK)
theorem WG.step {z:Nat × Nat} {fn:FuncId} {k:List Item} {R:V→Mem→Prop} {i:Nat} {rest:List Nat} {o:Oper} {env:List V} {S:Mem} {Q:V→Mem→Prop} (ho:ops[i]? = some o) (hw:WG P I ops o env S Q) (h:∀ v S',Q v S'→az P I z fn (.inRegion ops rest :: k) (dD env o.dst v) S' R):az P I z fn (.inRegion ops (i :: rest) :: k) env S R:=by
 rcases hw with ⟨hg,hw⟩ | ⟨hg,hw⟩
 ·rcases hw with ⟨v,S',h1,h2⟩ | ⟨q,f,g,first,caps,h1,h2,h3,h4⟩ | hr
  ·exact .op ho hg h1 (h v S' h2)
  ·exact .call ho hg h1 h2 h3 (h4.mono fun v S' hQ=>h v S' hQ)
  ·exact hr.step ho hg h
 ·exact .uY ho hg (h _ _ hw)
theorem QC.step {z:Nat × Nat} {fn:FuncId} {k:List Item} {R:V→Mem→Prop} {i:Nat} {rest:List Nat} {o:Oper} {env:List V} {S:Mem} {v:V} (ho:ops[i]? = some o) (hS:MM S) (hy:QC P I ops MM o env v) (h:az P I z fn (.inRegion ops rest :: k) (dD env o.dst v) S R):az P I z fn (.inRegion ops (i :: rest) :: k) env S R:=by
 rcases hy with ⟨hg,hy⟩ | ⟨hg,rfl⟩
 ·exact .op ho hg (hy S hS) h
 ·exact .uY ho hg h
theorem zW {z:Nat × Nat} {fn:FuncId} {k:List Item} {R:V→Mem→Prop}:∀ (n t:Nat) (listed:Array Bool) (env:List V) (S:Mem),rL P I ops W MM (fun env S=>az P I z fn k env S R) n listed env S→az P I z fn (.inRegion ops (Region.linearise.go .any ops n t listed []) :: k) env S R
 | 0,t,listed,env,S,h=>by
  simp only [Region.linearise.go,List.reverse_nil];exact .qp h.2.2
 | n+1,t,listed,env,S,h=>by
  obtain ⟨hS,h₀,h₁⟩:=h;simp only [Region.linearise.go]
  change az P I z fn (.inRegion ops (match (Region.ready .any ops listed)[t % (Region.ready .any ops listed).length]? with
   | some i=>Region.linearise.go .any ops n (t / (Region.ready .any ops listed).length) (listed.setIfInBounds i true) [i]
   | none=>[].reverse) :: k) env S R
  cases hi:(Region.ready .any ops listed)[t % (Region.ready .any ops listed).length]? with
  | none =>
   have yO:Region.ready .any ops listed=[]:=by
    cases hr:Region.ready .any ops listed with
    | nil=>rfl
    | cons x xs =>
     rw [hr] at hi;have bu:t % (x :: xs).length < (x :: xs).length:=qm _ dM;simp at hi;simp at bu;omega
   exact .qp (h₀ yO)
  | some i =>
   simp only [];rw [linearise_go_acc,pH,mW];obtain ⟨o,ho,⟨_,Q,_,QB,hn⟩ | ⟨_,v,hy,hn⟩⟩:=h₁ i (eM hi)
   ·exact QB.step ho fun v S' hQ=>zW n _ _ _ _ (hn v S' hQ)
   ·exact hy.step ho hS (zW n _ _ _ _ hn)
end
section
variable {P:Program} {I:Inv} {ops:Array Oper} {W:List Nat} {MM:Mem→Prop} {p:Nat}
def Xp (P:Program) (I:Inv) (ops:Array Oper) (W:List Nat) (p:Nat) (MM:Mem→Prop) (K:Array Bool→List V→Mem→Prop):Nat→Array Bool→List V→Mem→Prop
 | 0,listed,env,S=>MM S∧(∀ i∈Region.ready .any ops listed,p≤i)∧K listed env S
 | n+1,listed,env,S=>MM S∧Region.ready .any ops listed ≠ []∧∀ i∈Region.ready .any ops listed,i < p∧∃ o,ops[i]? = some o ∧
  ((W.contains i=true∧WC P I ops o env S fun v S'=>Xp P I ops W p MM K n (listed.setIfInBounds i true) (dD env o.dst v) S') ∨
   (W.contains i=false∧∃ v,QC P I ops MM o env v∧Xp P I ops W p MM K n (listed.setIfInBounds i true) (dD env o.dst v) S))
variable {K:Array Bool→List V→Mem→Prop}
theorem Xp.in:∀ {n:Nat} {listed:Array Bool} {env:List V} {S:Mem},Xp P I ops W p MM K n listed env S→MM S
 | 0,_,_,_,h=>h.1
 | _+1,_,_,_,h=>h.1
end
def kI (c:Cx) (w:World) (vs:List V) (l:List Value):Prop:=l.length=vs.length∧∀ (j:Nat) (v:V),vs[j]? = some v→∃ x,l[j]? = some x∧VR c w v x∧x.oneCell' = true
section
variable {P:Program} {c:Cx} {w:World} {S:Mem}
theorem kI.nil:kI c w [] []:=⟨rfl,fun j v h=>by simp at h⟩
theorem kI.append {a b:List V} {A B:List Value} (h:kI c w a A) (k:kI c w b B):kI c w (a++b) (A++B):=by
 refine ⟨by simp [h.1,k.1],fun j v hv=>?_⟩;rcases ct j a.length with h' | h'
 ·rw [bk h'] at hv;rw [bk (by rw [h.1];exact h')];exact h.2 j v hv
 ·rw [aN h'] at hv;rw [aN (by rw [h.1];exact h'),h.1];exact k.2 _ v hv
theorem kI.take {a:List V} {A:List Value} (h:kI c w a A) (n:Nat):kI c w (a.take n) (A.take n):=by
 refine ⟨by simp [h.1],fun j v hv=>?_⟩;rw [bp] at hv ⊢
 split at hv
 ·rename_i bu;rw [aD bu];exact h.2 j v hv
 ·cases hv
theorem kI.drop {a:List V} {A:List Value} (h:kI c w a A) (n:Nat):kI c w (a.drop n) (A.drop n):=by
 refine ⟨by simp [h.1],fun j v hv=>?_⟩;rw [dS] at hv ⊢;exact h.2 _ v hv
theorem kI.jC {c':Cx} {w':World} (hk:oH c w c' w') {a:List V} {A:List Value} (h:kI c w a A):kI c' w' a A:=⟨h.1,fun j v hv=>by
 obtain ⟨x,h1,h2,h3⟩:=h.2 j v hv;exact ⟨x,h1,h2.jC hk,h3⟩⟩
theorem kI.at {a:List V} {A:List Value} (h:kI c w a A) (j:Nat) (hj:j < a.length):VR c w a[j] (A.toArray.getD j undef)∧(A.toArray.getD j undef).oneCell' = true:=by
 obtain ⟨x,h1,h2⟩:=h.2 j a[j] (au hj);obtain ⟨hl,rfl⟩:=ai.1 h1;rw [mR hl];exact h2
theorem ji.abp (h:ji c w S) {i b:Nat} (hi:c.ρ[i]? = some b) (hT:∃ T,oA w b T) {vs:List V} (hv:S.boxes[i]? = some vs):∃ (cs:Array Value) (T:TypeId),w.heap[b]? = some (.cells cs T (0,0))∧kI c w vs cs.toList:=by
 obtain ⟨cs,T,hh,jS,hc⟩:=h.wh hi hT hv;refine ⟨cs,T,hh,by simpa using jS,fun j v hj=>?_⟩;obtain ⟨bu,rfl⟩:=ai.1 hj;have hl:j < cs.size:=ak;have:=hc j bu;rw [fM hl] at this;exact ⟨cs[j],by simp [hl],this.2⟩
def yV (n sz:Nat) (G:bQ) (rows:List (List D)) (v:V):Prop :=
 (G=[]∧rows=[]∧v = .sl [] .full)∨∃ G0 cap,G=G0++[rows.flatten.map .d++List.replicate ((cap - rows.length) * sz) .undef]∧v = .bx (n+G0.length) rows.length cap∧fE sz rows=true∧(∀ vs∈G0,vs.all (fit 0 0)=true)∧rows.length≤cap
theorem Tz (rows:List (List D)) (k:Nat):(rows.flatten.map V.d++List.replicate k V.undef).all (fit 0 0)=true:=by
 rw [cC];intro v hv;rcases dA.1 hv with h | h
 ·obtain ⟨d,_,rfl⟩:=eu.1 h;rfl
 ·obtain rfl:=tY h;rfl
theorem yV.fits {n sz:Nat} {G:bQ} {rows:List (List D)} {v:V} (h:yV n sz G rows v):∀ vs∈G,vs.all (fit 0 0)=true:=by
 rcases h with ⟨rfl,_,_⟩ | ⟨G0,cap,rfl,_,_,h,_⟩
 ·intro vs h;cases h
 ·intro vs hv;rcases dA.1 hv with h' | h'
  ·exact h vs h'
  ·obtain rfl:=bO.1 h';exact Tz _ _
theorem DX {sz:Nat}:∀ {rows:List (List D)},(∀ r∈rows,r.length=sz)→rows.flatten.length=rows.length * sz
 | [],_=>dM
 | r :: rows,h=>by
  rw [gM,av,h r dM,DX fun q hq=>h q (aU _ hq),aP,ej];omega
theorem wH {sz:Nat}:∀ {rows:List (List D)},(∀ r∈rows,r.length=sz)→∀ (j q:Nat) (r:List D) (d:D),rows[j]? = some r→r[q]? = some d→rows.flatten[j * sz+q]? = some d
 | [],_,j,q,r,d,h,_=>by simp at h
 | r0 :: rows,hs,j,q,r,d,h,hq=>by
  have h0:=hs r0 dM;cases j with
  | zero =>
   obtain rfl:r0=r:=by simpa using h
   have:=(ai.1 hq).1;rw [gM,gk,bf,bk this];exact hq
  | succ j =>
   have:=wH (fun x hx=>hs x (List.mem_cons_of_mem _ hx)) j q r d (by simpa using h) hq;rw [gM,aN (by rw [h0,ej];omega),h0,← this]
   congr 1
   rw [ej];omega
theorem uE {sz:Nat} {rows:List (List D)} (h:∀ r∈rows,r.length=sz):(rows.flatten.map V.d).length=rows.length * sz:=by rw [aS];exact DX h
theorem OT {x:V} {X:Value} {r:List D} {sz:Nat} (hx:VR c w x X) (hd:uw x=some (.sl [r])) (hr:r.length=sz):∃ (a:Option Addr) (cap:Nat) (F:Nat→Value),X = .slice a 1 cap∧kI c w (r.map .d) ((List.range (1 * sz)).map F) ∧
 ∀ W:World,W.heap=w.heap→(Builtin.firstCells sz 1 X).run P W = .ok ((List.range (1 * sz)).map F).toArray W:=by
 have hD:=mV hx hd;have sI:∃ a n cap,X = .slice a n cap:=by cases hD;exact ⟨_,_,_,rfl⟩
 obtain ⟨a,n,cap,rfl⟩:=sI;obtain ⟨hn,_,_,F,hF,hFd⟩:=hD.flat sz (fun q hq=>by rw [bO.1 hq];exact hr);have hn:n=1:=hn;subst hn;refine ⟨a,cap,F,rfl,⟨by simp [hr],fun j v hv=>?_⟩,fun W hW=>qn (rows:=[r]) rfl hF W hW⟩;rw [aL] at hv;obtain ⟨d,hd,rfl⟩:=aB.1 hv;obtain ⟨hj,rfl⟩:=ai.1 hd;have:=hFd 0 dM j (by simpa using hj);simp only [gm,gk,bf] at this;exact ⟨F j,by simp [← hr,hj],.d _ _ this,this.one⟩
theorem Kh {z:Value} (h1:∀ u∈z.cells.toList,u.oneCell' = true) (sz:Nat) (h2:z.cells.size=sz) (n:Nat):kI c w (List.replicate (n * sz) .undef) (Builtin.zeroCells z.cells n).toList:=by
 have jS:(Builtin.zeroCells z.cells n).toList.length=n * sz:=by simp [size_zeroCells,h2]
 refine ⟨by rw [jS];simp,fun j v hv=>?_⟩;rw [List.getElem?_replicate] at hv
 split at hv
 case isFalse=>cases hv
 rename_i hj;obtain rfl:=ag hv;have Mi:j < n * z.cells.size:=by rw [h2];exact hj
 have hz0:0 < z.cells.size:=by
  rcases Nat.eq_zero_or_pos z.cells.size with h | h
  ·rw [h] at Mi;omega
  ·exact h
 have hm:=qm j hz0;refine ⟨z.cells[j % z.cells.size],?_,.undef _,h1 _ dM⟩;simp only [Builtin.zeroCells,mU,Array.getElem?_map];rw [Array.getElem?_range,aD Mi];simp only [cJ];rw [getElem!_pos z.cells (j % z.cells.size) hm]
theorem ji.grow {L:bQ} {T:eg} (h:ji c w ⟨L,T⟩) {ts us ty e:TypeId} {ti te ui:zI} (o9:eT P ts=some ti) (he:ti.d = .slice e) (sq:eT P e=some te) (HZ:eT P us=some ui) (Gk:∃ k,ui.d = .slice k) (a:Option Addr) (n cap:Nat) (old:List V) (xs:List Value)
 (Xq:kI c w old xs) (hold:∀ W:World,W.heap=w.heap→(Builtin.firstCells te.size n (.slice a n cap)).run P W = .ok xs.toArray W) (gh:¬ n+1≤cap) (abq:n+1≤9223372036854775807) {x:V} {X:Value} {r:List D} (hx:VR c w x X) (hd:uw x=some (.sl [r])) (hr:r.length=te.size) (hb:(n+1) * te.bytes≤140737488355328) :
 ∃ w' c' gF,(Builtin.append_ #[ts,us] ty #[.slice a n cap,X]).run P w = .ok (.slice (some ⟨w.heap.size,0,none⟩) (n+1) gF) w'∧n+1≤gF∧ji c' w' ⟨L++[old++r.map .d++List.replicate ((gF - (n+1)) * te.size) .undef],T⟩∧Ext c w c' w'∧VR c' w' (.bx L.length (n+1) gF) (.slice (some ⟨w.heap.size,0,none⟩) (n+1) gF):=by
 obtain ⟨fi,d,z,h1,h2,h3,h4,h5,h6,_⟩:=cQ o9;obtain ⟨gi,d2,z2,g1,g2,g3,g4,g5,g6,g7,g8,g9,g10⟩:=cQ sq;obtain ⟨ui1,d3,z3,u1,u2,u3,u4,u5,u6,_⟩:=cQ HZ;rw [he] at h6;obtain rfl:=fN h6;obtain ⟨ke,hke⟩:=Gk;rw [hke] at u6;obtain rfl:=fN u6;have Ty:Dx P ts e te.size te.bytes:=⟨h2,gi,z2,g1,g3,g4,g5,g8⟩;obtain ⟨ax,TA,F,rfl,hF,mE⟩:=OT (P:=P) hx hd hr;obtain ⟨i,zz,k1,k2,k3,eI⟩:=uW (P:=P) (w:=w) (ty:=ty) Ty ⟨_,u2,dM⟩ a n cap 1 gh (.slice ax 1 TA) xs ((List.range (1 * te.size)).map F) (fun W=>by simp [Builtin.lenOf]) mE hold abq hb;rw [g1] at k1;obtain rfl:=ag k1;rw [g3] at k2;obtain rfl:=ag k2;have nU:=grownCap_ge w (n+1) cap e;have DD:grownCap w (n+1) cap e≤9223372036854775807:=grownCap_le_maxLen w (n+1) cap e (by unfold maxLen;omega);unfold sG at eI;generalize grownCap w (n+1) cap e=gF at eI nU DD;have JN:Below w.heap.size w w.drew:=(Below.refl _ _).drew;obtain ⟨r1,r2⟩:=h.under JN;have DY:=((Xq.append hF).append (Kh (c:=c) (w:=w) g10 te.size k3 (gF - (n+1)))).jC r2.keeps
 have Mx:xs.toArray++((List.range (1 * te.size)).map F).toArray++Builtin.zeroCells z2.cells (gF - (n+1))=(xs++(List.range (1 * te.size)).map F++(Builtin.zeroCells z2.cells (gF - (n+1))).toList).toArray:=by
  apply Array.ext';simp
 rw [Mx] at eI;obtain ⟨q1,q2⟩:=r1.Da _ e _ (by simpa using DY.1) (DY.at);refine ⟨_,_,gF,eI,nU,q1,r2.trans q2,.bx _ _ _ _ ?_ nU DD ⟨_,oA.new _ _⟩⟩;show (c.ρ++[w.drew.heap.size])[L.length]? = _;rw [show L.length=c.ρ.length from h.len];simp
theorem yV.store {L G:bQ} {T:eg} {t:TypeId} {te:zI} {rows:List (List D)} {v:V} {i k cap j:Nat} {r:List D} (sq:eT P t=some te) (h:yV L.length te.size G rows v) (hv:v = .bx i k cap) (hj:j < rows.length) (hr:r.length=te.size) :
 ∃ G',uX P ⟨L++G,T⟩ t (.ptr i (j * te.size)) (.agg (r.map .d))=some (.undef,⟨L++G',T⟩)∧yV L.length te.size G' (rows.set j r) v:=by
 rcases h with ⟨rfl,rfl,h2⟩ | ⟨G0,Im,rfl,h2,QD,hG0,gh⟩
 ·exact absurd hj dM
 ·rw [h2] at hv;cases hv;obtain ⟨J,hJe⟩:=aV (List.replicate ((cap - rows.length) * te.size) V.undef);rw [hJe];have vF:=nj QD;have wI:=uE vF;have bu:=Mv (sz:=te.size) hj (q:=0)
  have hle:j * te.size+te.size≤rows.length * te.size:=by
   have:=cD te.size (show j+1≤rows.length by omega);rw [ej] at this;omega
  have hg:(⟨L++(G0++[rows.flatten.map V.d++J]),T⟩:Mem).boxes[L.length+G0.length]? = some (rows.flatten.map .d++J):=by
   show (L++(G0++[rows.flatten.map .d++J]))[L.length+G0.length]? = _;rw [← aE,aN dM];simp
  refine ⟨G0++[(rows.set j r).flatten.map .d++J],?_,.inr ⟨G0,cap,by rw [List.length_set,hJe],by rw [List.length_set];exact h2,?_,hG0,by simpa using gh⟩⟩
  ·unfold uX;simp only [sq,kU,hg];rw [if_pos ⟨by simpa using hr,by rw [List.length_append,wI];omega⟩]
   have sN:(rows.flatten.map V.d++J).take (j * te.size)++r.map .d++(rows.flatten.map V.d++J).drop (j * te.size+(r.map V.d).length)=(rows.set j r).flatten.map .d++J:=by
    have e1:rows=rows.take j++rows[j] :: rows.drop (j+1):=by rw [← aJ hj,eX]
    have e2:rows.set j r=rows.take j++r :: rows.drop (j+1):=List.set_eq_take_append_cons_drop.trans (aD hj)
    have f1:((rows.take j).flatten.map V.d).length=j * te.size:=by
     rw [uE (fun q hq=>vF q (iL hq))];simp only [cg];rw [mO ak]
    have f2:(rows[j].map V.d).length=te.size:=by simpa using vF _ (List.getElem_mem hj)
    rw [e2]
    conv=>lhs;rw [e1]
    simp only [List.flatten_append,gM,cr,aE];generalize (rows.take j).flatten.map V.d=A at f1 ⊢;generalize rows[j].map V.d=X at f2 ⊢;rw [show (r.map V.d).length=te.size by simpa using hr];rw [gd ak,bS ak,fQ,fQ];rw [ay ak,dO,f1,f2,jL,ay ak,dO,iU,iE]
   rw [sN]
   congr 3
   rw [← aE,iz _ _ dM];simp
  ·simp only [fE,cC] at QD ⊢;intro q hq;rcases tj hq with h | rfl
   ·exact QD q h
   ·simpa using hr
theorem yV.load {L G:bQ} {T:eg} {t:TypeId} {te:zI} {rows:List (List D)} {v:V} {i k cap j:Nat} {r:List D} (sq:eT P t=some te) (hag:te.agg=true) (h:yV L.length te.size G rows v) (hv:v = .bx i k cap) (hj:rows[j]? = some r):jE P ⟨L++G,T⟩ t (.ptr i (j * te.size))=some (.agg (r.map .d)):=by
 obtain ⟨ZZ,hjr⟩:=ai.1 hj;clear hj;have hj:=ZZ;subst hjr;rcases h with ⟨rfl,rfl,h2⟩ | ⟨G0,Im,rfl,h2,QD,hG0,gh⟩
 ·exact absurd hj dM
 ·rw [h2] at hv;cases hv;obtain ⟨J,hJe⟩:=aV (List.replicate ((cap - rows.length) * te.size) V.undef);rw [hJe];have vF:=nj QD;have wI:=uE vF
  have hle:j * te.size+te.size≤rows.length * te.size:=by
   have:=cD te.size (show j+1≤rows.length by omega);rw [ej] at this;omega
  have hg:(⟨L++(G0++[rows.flatten.map V.d++J]),T⟩:Mem).boxes[L.length+G0.length]? = some (rows.flatten.map .d++J):=by
   show (L++(G0++[rows.flatten.map .d++J]))[L.length+G0.length]? = _;rw [← aE,aN dM];simp
  unfold jE;simp only [sq,hg,yj,hag,gj];rw [aD (by rw [av,wI];omega)]
  congr 2
  have e1:rows=rows.take j++rows[j] :: rows.drop (j+1):=by rw [← aJ hj,eX]
  have f1:((rows.take j).flatten.map V.d).length=j * te.size:=by
   rw [uE (fun q hq=>vF q (iL hq))];simp only [cg];rw [mO ak]
  have f2:(rows[j].map V.d).length=te.size:=by simpa using vF _ (List.getElem_mem hj)
  conv=>lhs;rw [e1]
  simp only [List.flatten_append,gM,cr,aE];generalize (rows.take j).flatten.map V.d=A at f1 ⊢;generalize rows[j].map V.d=X at f2 ⊢;rw [fQ,ay ak,dO,f1,iU,iE,gd ak,bS ak]
theorem yV.lt {n sz:Nat} {G:bQ} {rows:List (List D)} {v:V} {i k cap:Nat} (h:yV n sz G rows v) (hv:v = .bx i k cap):i < n+G.length:=by
 rcases h with ⟨_,rfl,h2⟩ | ⟨G0,Im,rfl,h2,QD,hG0,gh⟩
 ·rw [h2] at hv;cases hv
 ·rw [h2] at hv;cases hv;simp
theorem yV.idx {t e:TypeId} {ti te:zI} {i k cap j:Nat} {q:IntKind} (o9:eT P t=some ti) (he:ti.d = .slice e) (sq:eT P e=some te) (hj:j < k):oI P t (.bx i k cap) (.d (.int q (j:Int)))=some (.ptr i (j * te.size)):=by
 unfold oI;simp only [o9,uw,Hx,he,sq];rw [aD ⟨ak,ak⟩];simp
theorem yV.mM {n sz:Nat} {G:bQ} {rows:List (List D)} {v:V} {t e:TypeId} {ti:zI} (o9:eT P t=some ti) (he:ti.d = .slice e) (h:yV n sz G rows v):Ab.mM P t v=some (.d (.int .i64 (rows.length:Int))):=by
 rcases h with ⟨rfl,rfl,rfl⟩ | ⟨G0,cap,rfl,rfl,_⟩
 ·simp [Ab.mM,o9,uw,he]
 ·simp [Ab.mM,o9,uw,Bu,he]
theorem yV.len {n sz:Nat} {G:bQ} {rows:List (List D)} {v:V} {i k cap:Nat} (h:yV n sz G rows v) (hv:v = .bx i k cap):k=rows.length:=by
 rcases h with ⟨_,rfl,h2⟩ | ⟨G0,Im,rfl,h2,QD,hG0,gh⟩
 ·rw [h2] at hv;cases hv
 ·rw [h2] at hv;cases hv;rfl
end
mutual
def Bh (n i:Nat) (rows:List (List D)):V→V
 | .ptr j k=>if j < n then .ptr j k else .undef
 | .bx j k cap=>if j < n then .bx j k cap else if j=i∧k=rows.length then .d (.sl rows) else .undef
 | .mp j=>if j < n then .mp j else .undef
 | .vY ks vs=>.vY ks (Io n i rows vs)
 | .self j T=>if j < n then .self j T else .undef
 | .buf r t T=>.buf r t T
 | .func f a b=>.func f (Io n i rows a) (Io n i rows b)
 | .agg vs=>.agg (Io n i rows vs)
 | .fZ vs=>.fZ (Io n i rows vs)
 | .undef=>.undef
 | .d x=>.d x
 | .sl r t=>.sl r t
 | .nc r k=>.nc r k
 | .oU=>.oU
 | .sF=>.sF
def Io (n i:Nat) (rows:List (List D)):List V→List V
 | []=>[]
 | v :: vs=>Bh n i rows v :: Io n i rows vs
end
theorem uF (n i:Nat) (rows:List (List D)):∀ vs:List V,Io n i rows vs=vs.map (Bh n i rows)
 | []=>by simp [Io]
 | v :: vs=>by simp [Io,uF n i rows vs]
theorem VR.Bh {c:Cx} {w:World} {n i b:Nat} {rows:List (List D)} (hi:c.ρ[i]? = some b) (hD:∀ cap,rows.length≤cap→cap≤9223372036854775807→DR (c.cut n c.τ.length).M w (.sl rows) (.slice (some ⟨b,0,none⟩) rows.length cap)) {x:V} {v:Value} (h:VR c w x v):VR (c.cut n c.τ.length) w (Bh n i rows x) v:=by
 induction h with
 | undef v=>unfold Ab.Bh;exact .undef v
 | d x v h=>unfold Ab.Bh;exact .d x v (h.cut _ _)
 | full r a h ha=>unfold Ab.Bh;exact .full r a (h.cut _ _) ha
 | own r t a cap j h ht hr hn hl=>unfold Ab.Bh;exact .own r t a cap j (h.cut _ _) (iG ht (List.getElem?_eq_some_iff.1 ht).1) hr hn hl
 | ptr j k b h hT =>
  unfold Ab.Bh
  split
  ·rename_i bu;exact .ptr j k b (iG h bu) hT
  ·exact .undef _
 | bx j k cap b2 h hn hm hT =>
  unfold Ab.Bh
  split
  ·rename_i bu;exact .bx j k cap b2 (iG h bu) hn hm hT
  ·split
   ·rename_i he;obtain ⟨rfl,rfl⟩:=he;rw [hi] at h;obtain rfl:=ag h;exact .d _ _ (hD cap hn hm)
   ·exact .undef _
 | mp j b2 h =>
  unfold Ab.Bh
  split
  ·rename_i bu;exact .mp j b2 (iG h bu)
  ·exact .undef _
 | self j T b2 v h hT hv =>
  unfold Ab.Bh
  split
  ·rename_i bu;exact .self j T b2 v (iG h bu) hT hv
  ·exact .undef _
 | buf r t T v h hT ih =>
  unfold Ab.Bh at ih ⊢;exact .buf r t T v ih hT
 | nc row k g o f h =>
  unfold Ab.Bh;refine .nc row k g o f fun q hq=>?_;obtain ⟨a,b,d⟩:=h q hq;exact ⟨fun h=>a (DS h),b,d.cut _ _⟩
 | oU=>unfold Ab.Bh;exact .oU
 | sF=>unfold Ab.Bh;exact .sF
 | func f first caps cf cc h1 h2 h3 h4 SQ o8 =>
  unfold Ab.Bh;rw [uF,uF];exact .func f _ _ cf cc (by simpa using h1) (by simpa using h2) (fun j hj=>by simpa using SQ j (by simpa using hj)) (fun j hj=>by simpa using o8 j (by simpa using hj))
 | agg vs cs h1 h2 h3 ih =>
  unfold Ab.Bh;rw [uF];exact .agg _ cs (by simpa using h1) (fun j hj=>by simpa using ih j (by simpa using hj)) (fun j hj=>h3 j (by simpa using hj))
 | fZ vs cs h1 h2 ih =>
  unfold Ab.Bh;rw [uF];exact .fZ _ cs (by simpa using h1) (fun j hj=>by simpa using ih j (by simpa using hj))
section
variable {P:Program} {I:Inv} {z:Nat × Nat} {fn:FuncId} {R:V→Mem→Prop} {k:List Item} {env:List V}
theorem az.freeze {L G J:bQ} {T:eg} {sz i len cap:Nat} {rows:List (List D)} (h0:0 < sz) (hB:yV L.length sz G rows (.bx i len cap)) (hz:z.1≤L.length∧z.2≤T.length) (h:az P I z fn k (env.map (Bh L.length i rows)) ⟨L.map (·.map (Bh L.length i rows)),T⟩ R):az P I z fn k env ⟨L++(G++J),T⟩ R:=by
 rcases hB with ⟨_,_,h2⟩ | ⟨G0,Im,rfl,h2,QD,_,gh⟩
 ·cases h2
 cases h2;intro b a c w c0 w0 h1 h2 h3 h4 h5 h6 hI;have vF:=nj QD
 have Fx:WU (rows.flatten.map V.d++List.replicate ((cap - rows.length) * sz) V.undef):=by
  intro ks us he;have h0:V.vY ks us∈rows.flatten.map V.d++List.replicate ((cap - rows.length) * sz) V.undef:=by rw [he];simp
  rcases dA.1 h0 with h | h
  ·obtain ⟨d,_,e⟩:=eu.1 h;cases e
  ·have:=tY h;cases this
 generalize List.replicate ((cap - rows.length) * sz) V.undef=X at *
 have hm:c.τ.length=T.length:=by
  have:=gR List.length h5.dG;simp at this;omega
 have Ip:(L++((G0++[rows.flatten.map V.d++X])++J)).length=c.ρ.length:=h5.len;obtain ⟨b0,p8⟩:∃ b0,c.ρ[L.length+G0.length]? = some b0:=⟨_,au (by rw [← Ip];simp)⟩
 have aeL:(⟨L++((G0++[rows.flatten.map .d++X])++J),T⟩:Mem).boxes[L.length+G0.length]? = some (rows.flatten.map .d++X):=by
  show (L++((G0++[rows.flatten.map .d++X])++J))[L.length+G0.length]? = _;rw [← aE,← aE,bk dM,aN dM];simp
 obtain ⟨cs,Ty,hh,jS,we⟩:=h5.wh p8 (h5.Hw p8 aeL Fx) aeL
 have hnM:∀ q,¬ (c.cut L.length c.τ.length).M b0 q:=by
  rintro q ((hm | hm) | ⟨t,i,off,ht,ha,e1,e2⟩)
  ·have e1:=(c.hX _ _ hm).2;have e2:c.X b0 q:=hm;obtain ⟨e3,_⟩:=h5.box _ _ p8;omega
  ·obtain ⟨j,hj⟩:=ql.1 hm;have jT:(c.ρ.take L.length)[j]? = some b0:=hj;rw [bp] at jT
   split at jT
   case isFalse=>cases jT
   have:=h5.inj _ _ _ jT p8;omega
  ·have nX:(c.τ.take c.τ.length)[t]? = some i:=ht;rw [fR] at nX;obtain ⟨a1,a2,a3,a4,a5⟩:=h5.tok t i nX
   have bu:i.n < i.cap:=by
    rcases ct i.n i.cap with h' | h'
    ·exact h'
    ·have:=cD i.sz h';omega
   exact (a5 bu b0 off ha).2.1 (ql.2 ⟨_,p8⟩)
 have hD:∀ cp,rows.length≤cp→cp≤9223372036854775807→DR (c.cut L.length c.τ.length).M w (.sl rows) (.slice (some ⟨b0,0,none⟩) rows.length cp):=by
  intro cp OE FF
  have CO:∀ (j q:Nat) (r:List D) (d:D),rows[j]? = some r→r[q]? = some d→w.cell? ⟨b0,j * sz+q,none⟩=some (cs.getD (j * sz+q) undef)∧DR c.M w d (cs.getD (j * sz+q) undef):=by
   intro j q r d hj hq;have e1:=wH vF j q r d hj hq;have e2:=(ai.1 e1).1;have bu:j * sz+q < (rows.flatten.map V.d++X).length:=by rw [av,aS];omega
   obtain ⟨q1,q2,_⟩:=we _ bu;refine ⟨q1,?_⟩
   have e3:(rows.flatten.map V.d++X)[j * sz+q] = .d d:=by
    rw [cA (by rw [aS];exact e2),dy]
    congr 1
    exact (ai.1 e1).2
   rw [e3] at q2;cases q2 with
   | d _ _ h=>exact h
  refine .sl rows sz _ cp (fun j q=>cs.getD (j * sz+q) undef) h0 vF OE FF (fun _=>⟨b0,0,rfl,fun j hj q hq=>⟨hnM _,?_⟩⟩) (fun j hj q hq=>?_)
  ·rw [bf];exact (CO j q _ _ (au hj) (au hq)).1
  ·exact (CO j q _ _ (au hj) (au hq)).2.cut _ _
 have Bw:ji (c.cut L.length c.τ.length) w ⟨L.map (·.map (Bh L.length (L.length+G0.length) rows)),T⟩:=by
  refine ⟨h5.hB,by simp [Cx.cut];simp at Ip;omega,fun i b hi=>?_,fun i j b hi hj=>?_,?_,fun t i ht=>?_,fun t t' i i' g off Bq ht nX=>?_,h5.inv⟩
  ·have rE:(c.ρ.take L.length)[i]? = some b:=hi;rw [bp] at rE
   split at rE
   case isFalse=>cases rE
   rename_i bu;obtain ⟨a,o,hh,vs,g1,g2⟩:=h5.box i b rE
   have g1':L[i]? = some vs:=by
    have:(L++((G0++[rows.flatten.map .d++X])++J))[i]? = some vs:=g1
    rwa [bk bu] at this
   refine ⟨a,o,hh,vs.map (Bh L.length (L.length+G0.length) rows),?_,?_⟩
   ·show (L.map _)[i]? = _;rw [aL,g1'];rfl
   ·cases g2 with
    | cells cs Ty _ g2 g3 =>
     refine .cells cs Ty _ (by simpa using g2) fun j hj=>?_;have jT:j < vs.length:=by simpa using hj
     rw [dy];exact ⟨(g3 j jT).1.Bh p8 hD,(g3 j jT).2⟩
    | map es ck ks us g0 k1 g2 =>
     simp only [cw,eB,Bh,uF];refine .map es ck ks _ g0 (by simpa using k1) fun j k v hj hv=>?_;rw [aL] at hv;obtain ⟨u,hu,rfl⟩:=aB.1 hv;exact (g2 j k u hj hu).imp fun e he=>⟨he.1,he.2.1,he.2.2.Bh p8 hD⟩
  ·have rE:(c.ρ.take L.length)[i]? = some b:=hi;have jT:(c.ρ.take L.length)[j]? = some b:=hj;rw [bp] at rE jT
   split at rE
   case isFalse=>cases rE
   split at jT
   case isFalse=>cases jT
   exact h5.inj i j b rE jT
  ·show T=(c.τ.take c.τ.length).map _;rw [fR];exact h5.dG
  ·have nX:(c.τ.take c.τ.length)[t]? = some i:=ht;rw [fR] at nX;obtain ⟨a1,a2,a3,a4,a5⟩:=h5.tok t i nX;refine ⟨a1,a2,a3,a4,fun bu g off ha=>?_⟩;obtain ⟨b1,b2,b3⟩:=a5 bu g off ha;exact ⟨b1,fun hm=>b2 (iL hm),b3⟩
  ·have Cj:(c.τ.take c.τ.length)[t]? = some i:=ht;have zx:(c.τ.take c.τ.length)[t']? = some i':=nX;rw [fR] at Cj zx;exact h5.yL t t' i i' g off Bq Cj zx
 have Tn:ij (c.cut L.length c.τ.length) w (env.map (Bh L.length (L.length+G0.length) rows)) a.tmps:=by
  refine ⟨by simpa using h4.1,fun t ht=>?_⟩;have nX:t < env.length:=by simpa using ht
  rw [dy];exact (h4.2 t nX).Bh p8 hD
 refine h b a (c.cut L.length c.τ.length) w c0 w0 h1 h2 h3 Tn Bw ⟨⟨fun g k v hm hv=>?_,fun i b hi=>?_,fun t i hi=>?_,h6.B,h6.keeps.ty⟩,h6.B,h6.I,h6.X,h6.below⟩ ⟨hI.1,hI.2⟩
 ·exact ⟨fun h=>(h6.keeps.cell g k v hm hv).1 (DS h),(h6.keeps.cell g k v hm hv).2⟩
 ·have:=(ai.1 hi).1;exact iG (h6.keeps.ρ i b hi) ak
 ·obtain ⟨i',a1,a2⟩:=h6.keeps.τ t i hi;have:=(ai.1 a1).1;exact ⟨i',iG a1 this,a2⟩
theorem az.oC {S:Mem} (q:Nat) (rows:List (List D)) (tk:Tok) (hq:env.getD q .undef = .sl rows tk) (h:az P I z fn k (env.set q (.d (.sl rows))) S R):az P I z fn k env S R:=by
 intro b a c w c0 w0 h1 h2 h3 h4 h5 h6 hI;refine h b a c w c0 w0 h1 h2 h3 ⟨by simpa using h4.1,fun t ht=>?_⟩ h5 h6 hI;have nX:t < env.length:=by simpa using ht
 by_cases e:q=t
 ·subst e;have hv:=h4.get q;rw [hq] at hv
  have hp:VR c w (.d (.sl rows)) (a.tmps.getD q undef):=by
   generalize a.tmps.getD q undef=v at hv;cases hv with
   | full _ a h ha=>exact .d _ _ h
   | own _ t a cap i h ht hr hn hl=>exact .d _ _ h
  simpa using hp
 ·have:=h4.2 t nX
  simpa [e] using this
end
section
variable {P:Program} {I:Inv} {ops:Array Oper} {W:List Nat} {MM:Mem→Prop} {K:List V→Mem→Prop} {env:List V} {S:Mem} {listed:Array Bool}
theorem yW {n:Nat} (i:Nat) {oi:Oper} {v:V} (hi:ops[i]? = some oi) (hq:W.contains i=false) (hr:(Region.ready .any ops listed).contains i=true) (hf:Region.free .any ops listed i=true) (hg:oi.guard=none) (hy:∀ S,MM S→jt P (bw I env) S oi.op=some (v,S)) (h:rL P I ops W MM K n (listed.setIfInBounds i true) (dD env oi.dst v) S):rL P I ops W MM K (n+1) listed env S :=
 yU hi hq n listed env S (Region.free_spec hi hf) (by simpa using hr) (.inl ⟨.inl hg,hy⟩) h
theorem Gl {o:Oper} {K:V→Mem→Prop} {v:V} {S':Mem} (hg:o.guard=none) (h1:jt P (bw I env) S o.op=some (v,S')) (h:K v S'):WC P I ops o env S K :=
 ⟨fun u T=>u=v∧T=S',⟨v,S',rfl,rfl⟩,.inl ⟨.inl hg,.inl ⟨v,S',h1,rfl,rfl⟩⟩,fun u T ⟨e1,e2⟩=>by subst e1 e2;exact h⟩
end
section
variable {P:Program} {c:Cx} {w:World} {S:Mem}
theorem QE {x:V} {X:Value} {bU:List (List D)} {sz:Nat} (h0:0 < sz) (hx:VR c w x X) (hd:uw x=some (.sl bU)) (hr:∀ r∈bU,r.length=sz):∃ (a:Option Addr) (cap:Nat) (F:Nat→Value),X = .slice a bU.length cap∧kI c w (bU.flatten.map .d) ((List.range (bU.length * sz)).map F) ∧
 ∀ W:World,W.heap=w.heap→(Builtin.firstCells sz bU.length X).run P W = .ok ((List.range (bU.length * sz)).map F).toArray W:=by
 have hD:=mV hx hd;have sI:∃ a n cap,X = .slice a n cap:=by cases hD;exact ⟨_,_,_,rfl⟩
 obtain ⟨a,n,cap,rfl⟩:=sI;obtain ⟨hn,_,_,F,hF,hFd⟩:=hD.flat sz hr;subst hn;have wI:=DX hr;refine ⟨a,cap,F,rfl,⟨by simp only [aS,lu,wI],fun j v hv=>?_⟩,fun W hW=>qn (rows:=bU) rfl hF W hW⟩;rw [aL] at hv;obtain ⟨d,hd,rfl⟩:=aB.1 hv
 have bu:j < bU.length * sz:=by
  have:=(ai.1 hd).1
  rwa [wI] at this
 have hj:j / sz < bU.length:=qZ (by rw [nD];exact bu);have hq:j % sz < (bU[j / sz]).length:=by rw [hr _ (aH hj)];exact qm _ h0
 have e:j / sz * sz+j % sz=j:=by rw [nD];exact vC j sz
 have hg:=wH hr (j / sz) (j % sz) _ _ (au hj) (au hq);rw [e,hd] at hg;have:=hFd (j / sz) hj (j % sz) hq;rw [← ag hg,e] at this;exact ⟨F j,by simp [bu],.d _ _ this,this.one⟩
theorem ji.TB {L:bQ} {T:eg} (h:ji c w ⟨L,T⟩) {ts us ty e:TypeId} {ti te ui:zI} (o9:eT P ts=some ti) (he:ti.d = .slice e) (sq:eT P e=some te) (HZ:eT P us=some ui) (Gk:∃ k,ui.d = .slice k) (a:Option Addr) (n cap:Nat) (old:List V) (xs:List Value)
 (Xq:kI c w old xs) (hold:∀ W:World,W.heap=w.heap→(Builtin.firstCells te.size n (.slice a n cap)).run P W = .ok xs.toArray W) {x:V} {X:Value} {bU:List (List D)} (gh:¬ n+bU.length≤cap) (abq:n+bU.length≤9223372036854775807) (h0:0 < te.size) (hx:VR c w x X) (hd:uw x=some (.sl bU)) (hr:∀ r∈bU,r.length=te.size) (hb:(n+bU.length) * te.bytes≤140737488355328) :
 ∃ w' c' gF,(Builtin.append_ #[ts,us] ty #[.slice a n cap,X]).run P w = .ok (.slice (some ⟨w.heap.size,0,none⟩) (n+bU.length) gF) w'∧n+bU.length≤gF∧gF≤9223372036854775807∧ji c' w' ⟨L++[old++bU.flatten.map .d++List.replicate ((gF - (n+bU.length)) * te.size) .undef],T⟩∧Ext c w c' w'∧VR c' w' (.bx L.length (n+bU.length) gF) (.slice (some ⟨w.heap.size,0,none⟩) (n+bU.length) gF):=by
 obtain ⟨fi,d,z,h1,h2,h3,h4,h5,h6,_⟩:=cQ o9;obtain ⟨gi,d2,z2,g1,g2,g3,g4,g5,g6,g7,g8,g9,g10⟩:=cQ sq;obtain ⟨ui1,d3,z3,u1,u2,u3,u4,u5,u6,_⟩:=cQ HZ;rw [he] at h6;obtain rfl:=fN h6;obtain ⟨ke,hke⟩:=Gk;rw [hke] at u6;obtain rfl:=fN u6;have Ty:Dx P ts e te.size te.bytes:=⟨h2,gi,z2,g1,g3,g4,g5,g8⟩;obtain ⟨ax,TA,F,rfl,hF,mE⟩:=QE (P:=P) h0 hx hd hr;obtain ⟨i,zz,k1,k2,k3,eI⟩:=uW (P:=P) (w:=w) (ty:=ty) Ty ⟨_,u2,dM⟩ a n cap bU.length gh (.slice ax bU.length TA) xs ((List.range (bU.length * te.size)).map F) (fun W=>by simp [Builtin.lenOf]) mE hold abq hb;rw [g1] at k1;obtain rfl:=ag k1;rw [g3] at k2;obtain rfl:=ag k2;have nU:=grownCap_ge w (n+bU.length) cap e;have DD:grownCap w (n+bU.length) cap e≤9223372036854775807:=grownCap_le_maxLen w (n+bU.length) cap e (by unfold maxLen;omega);unfold sG at eI;generalize grownCap w (n+bU.length) cap e=gF at eI nU DD;have JN:Below w.heap.size w w.drew:=(Below.refl _ _).drew;obtain ⟨r1,r2⟩:=h.under JN;have DY:=((Xq.append hF).append (Kh (c:=c) (w:=w) g10 te.size k3 (gF - (n+bU.length)))).jC r2.keeps
 have Mx:xs.toArray++((List.range (bU.length * te.size)).map F).toArray++Builtin.zeroCells z2.cells (gF - (n+bU.length))=(xs++(List.range (bU.length * te.size)).map F++(Builtin.zeroCells z2.cells (gF - (n+bU.length))).toList).toArray:=by
  apply Array.ext';simp
 rw [Mx] at eI;obtain ⟨q1,q2⟩:=r1.Da _ e _ (by simpa using DY.1) (DY.at);refine ⟨_,_,gF,eI,nU,DD,q1,r2.trans q2,.bx _ _ _ _ ?_ nU DD ⟨_,oA.new _ _⟩⟩;show (c.ρ++[w.drew.heap.size])[L.length]? = _;rw [show L.length=c.ρ.length from h.len];simp
def Iq (sz:Nat) (B:bQ) (T:eg) (s:V) (r:List D) (v:V) (S':Mem):Prop :=
 match s with
 | .sl [] .full=>∃ gF,1≤gF∧gF≤9223372036854775807∧v = .bx B.length 1 gF∧S' = ⟨B++[r.map .d++List.replicate ((gF - 1) * sz) .undef],T⟩
 | .bx i n cap=>∃ X,B[i]? = some X∧((n+1≤cap∧v = .bx i (n+1) cap∧S' = ⟨B.set i (X.take (n * sz)++r.map .d++X.drop (n * sz+sz)),T⟩)∨∃ gF,n+1≤gF∧gF≤9223372036854775807∧v = .bx B.length (n+1) gF∧S' = ⟨B++[X.take (n * sz)++r.map .d++List.replicate ((gF - (n+1)) * sz) .undef],T⟩)
 | _=>False
def M7 (sz:Nat) (B:bQ) (s:V):Prop :=
 match s with
 | .sl [] .full=>True
 | .bx i n cap=>∃ X,B[i]? = some X∧X.length=cap * sz∧n≤1000000000
 | _=>False
theorem Iq.ex {sz:Nat} {B:bQ} (T:eg) {s:V} (r:List D) (h:M7 sz B s):∃ v S',Iq sz B T s r v S':=by
 unfold M7 at h
 split at h
 ·exact ⟨_,_,1,ak,ak,rfl,rfl⟩
 ·rename_i i n cap;obtain ⟨X,hX,_⟩:=h;exact ⟨_,_,X,hX,.inr ⟨n+1,aA _,ak,rfl,rfl⟩⟩
 ·exact h.elim
theorem ji.abt {B:bQ} {T:eg} (h:ji c w ⟨B,T⟩) {ts us ty e:TypeId} {ti te ui:zI} (o9:eT P ts=some ti) (he:ti.d = .slice e) (sq:eT P e=some te) (HZ:eT P us=some ui) (Gk:∃ k,ui.d = .slice k) (h0:0 < te.size) {s x:V} {A X:Value} {r:List D}
 (hs:M7 te.size B s) (hA:VR c w s A) (hx:VR c w x X) (hd:uw x=some (.sl [r])) (hr:r.length=te.size) (hb:te.bytes≤100000) :
 ∃ y w' c' v S',(Builtin.append_ #[ts,us] ty #[A,X]).run P w = .ok y w'∧Iq te.size B T s r v S'∧ji c' w' S'∧Ext c w c' w'∧VR c' w' v y:=by
 have Bk:∀ q∈[r],q.length=te.size:=fun q hq=>by rw [bO.1 hq];exact hr
 unfold M7 at hs
 split at hs
 ·cases hA with
  | full _ a JN ha =>
   obtain ⟨w',c',gF,k1,k2,k2',k3,k4,k5⟩:=h.TB (ty:=ty) (bU:=[r]) o9 he sq HZ Gk a 0 0 [] [] .nil (fun W hW=>by
    obtain ⟨_,_,_,F,hF,_⟩:=JN.flat te.size dM;have:=qn (P:=P) (sz:=te.size) (cap:=0) (a:=a) (rows:=[]) (n:=0) rfl hF W hW
    simpa using this) dM dM h0 hx hd Bk fk
   refine ⟨_,w',c',_,_,k1,⟨gF,by simpa using k2,k2',?_,rfl⟩,?_,k4,k5⟩
   ·simp
   ·simpa using k3
 ·rename_i i n cap;obtain ⟨Y,hY,hYl,hn9⟩:=hs;cases hA with
  | bx _ _ _ b hi hn hm hT =>
   obtain ⟨cs,Tb,hh,we⟩:=h.abp hi hT hY;have Ir:=we.take (n * te.size)
   have amF:cs.size=cap * te.size:=by
    have:=we.1;rw [hYl] at this
    simpa using this
   have hnc:n * te.size≤cap * te.size:=cD _ hn
   by_cases rR:n+1≤cap
   ·obtain ⟨ax,TA,F,rfl,hF,mE⟩:=OT (P:=P) hx hd hr;obtain ⟨fi,d,z,h1,h2,h3,h4,h5,h6,_⟩:=cQ o9;obtain ⟨gi,d2,z2,g1,g2,g3,g4,g5,g6,g7,g8,g9,g10⟩:=cQ sq;obtain ⟨ui1,d3,z3,u1,u2,u3,u4,u5,u6,_⟩:=cQ HZ;rw [he] at h6;obtain rfl:=fN h6;obtain ⟨ke,hke⟩:=Gk;rw [hke] at u6;obtain rfl:=fN u6;have Ty:Dx P ts e te.size te.bytes:=⟨h2,gi,z2,g1,g3,g4,g5,g8⟩
    have hr2:n * te.size+te.size≤cap * te.size:=by
     have:=cD te.size rR;rw [ej,Nat.one_mul] at this;exact this
    have kz:=qV (P:=P) b (n * te.size) Tb (0,0) ((List.range (1 * te.size)).map F) 0 cs w hh fk dM (fun u hu=>by
     obtain ⟨j,hj,rfl⟩:=ga.1 hu;have jT:j < te.size:=by simpa using hj
     obtain ⟨x,e1,_,e2⟩:=hF.2 j (.d (r[j]'ak)) (by simp [hr,jT]);rw [au hj] at e1;rw [ag e1];exact e2)
    have eI:=DB (P:=P) (ty:=ty) Ty ⟨_,u2,dM⟩ b 0 n cap 1 rR (.slice ax 1 TA) _ (fun W=>by simp [Builtin.lenOf]) mE (by simpa using kz);have nV:=(Ir.append hF).append (we.drop (n * te.size+te.size))
    obtain ⟨q1,q2⟩:=h.SR hi hT (cs.toList.take (n * te.size+0)++(List.range (1 * te.size)).map F++cs.toList.drop (n * te.size+0+((List.range (1 * te.size)).map F).length)).toArray (Y.take (n * te.size)++r.map .d++Y.drop (n * te.size+te.size)) (by
     have:=nV.1
     simpa using this) (fun j hj=>by
     have:=nV.at j hj
     simpa using this)
    exact ⟨_,_,c,_,_,by simpa using eI,⟨Y,hY,.inl ⟨rR,rfl,rfl⟩⟩,q1,q2,.bx i (n+1) cap b (q2.keeps.ρ _ _ hi) rR hm (hT.imp fun T=>q2.keeps.ty b T)⟩
   ·have hce:cap=n:=ak;subst hce
    obtain ⟨w',c',gF,k1,k2,k2',k3,k4,k5⟩:=h.TB (ty:=ty) (bU:=[r]) o9 he sq HZ Gk (some ⟨b,0,none⟩) cap cap (Y.take (cap * te.size)) (cs.toList.take (cap * te.size)) Ir (fun W hW=>by
     refine run_firstCells_some (P:=P) W te.size cap ⟨b,0,none⟩ cap cap (cs.toList.take (cap * te.size)) fk (fun j v hv=>?_);rw [Addr.add_plain,bf];rw [bp] at hv
     split at hv
     case isFalse=>cases hv
     simp only [World.cell?,hW,hh]
     simpa using hv) dM fk h0 hx hd Bk (by
      have:(cap+1) * te.bytes≤1000000001 * 100000:=Nat.mul_le_mul ak hb;simp only [aP,aW,bf];omega)
    refine ⟨_,w',c',_,_,k1,⟨Y,hY,.inr ⟨gF,by simpa using k2,k2',rfl,rfl⟩⟩,?_,k4,k5⟩
    simpa using k3
 ·exact hs.elim
theorem uD.abt {I:Inv} {env:List V} {o:Oper} {B:bQ} {T:eg} {so xo:Operand} {ts us e:TypeId} {ti te ui:zI} {s x:V} {r:List D} (ho:o.op = .call ⟨.builtin .append,#[so,xo],#[ts,us]⟩)
 (o9:eT P ts=some ti) (he:ti.d = .slice e) (sq:eT P e=some te) (HZ:eT P us=some ui) (Gk:∃ k,ui.d = .slice k) (h0:0 < te.size) (Bg:bw I env so=s) (hex:bw I env xo=x) (hs:M7 te.size B s) (hd:uw x=some (.sl [r])) (hr:r.length=te.size) (hb:te.bytes≤100000) :
 uD P I o env ⟨B,T⟩ (Iq te.size B T s r):=by
 intro c w ev h1 h2 h3
 have uZ:∀ y,y=so∨y=xo→y∈o.op.operands:=by
  intro y hy;rw [ho];simp only [Op.operands,Call.operands];rcases hy with rfl | rfl<;>simp
 have hA:=h3 so (uZ so (.inl rfl));have hX:=h3 xo (uZ xo (.inr rfl));rw [Bg] at hA;rw [hex] at hX;obtain ⟨y,w',c',v,S',k1,k2,k4,k5,k6⟩:=h1.abt (ty:=o.type) o9 he sq HZ Gk h0 hs hA hX hd hr hb;refine ⟨y,w',c',v,S',?_,k2,k4,k5,k6⟩;simp [execOp,ho,resolve,invoke,builtin,k1]
def Ki (sz:Nat) (B:bQ) (T:eg) (bU:List (List D)) (v:V) (S':Mem):Prop :=
 ∃ gF,bU.length≤gF∧gF≤9223372036854775807∧v = .bx B.length bU.length gF∧S' = ⟨B++[bU.flatten.map .d++List.replicate ((gF - bU.length) * sz) .undef],T⟩
theorem uD.QF {I:Inv} {env:List V} {o:Oper} {B:bQ} {T:eg} {so xo:Operand} {ts us e:TypeId} {ti te ui:zI} {x:V} {bU:List (List D)} (ho:o.op = .call ⟨.builtin .append,#[so,xo],#[ts,us]⟩)
 (o9:eT P ts=some ti) (he:ti.d = .slice e) (sq:eT P e=some te) (HZ:eT P us=some ui) (Gk:∃ k,ui.d = .slice k) (h0:0 < te.size) (Bg:bw I env so = .sl [] .full) (hex:bw I env xo=x) (gW:bU ≠ []) (hd:uw x=some (.sl bU)) (hr:∀ r∈bU,r.length=te.size) (hb:te.bytes≤100000) (hl:bU.length≤1000000000) :
 uD P I o env ⟨B,T⟩ (Ki te.size B T bU):=by
 intro c w ev h1 h2 h3
 have uZ:∀ y,y=so∨y=xo→y∈o.op.operands:=by
  intro y hy;rw [ho];simp only [Op.operands,Call.operands];rcases hy with rfl | rfl<;>simp
 have hA:=h3 so (uZ so (.inl rfl));have hX:=h3 xo (uZ xo (.inr rfl));rw [Bg] at hA;rw [hex] at hX;have hlen:0 < bU.length:=jZ.2 gW
 have Jx:(0+bU.length) * te.bytes≤140737488355328:=by
  have:(0+bU.length) * te.bytes≤1000000000 * 100000:=Nat.mul_le_mul ak hb;omega
 generalize hev:ev so=A at hA;cases hA with
 | full _ a JN ha =>
  obtain ⟨w',c',gF,k1,k2,k2',k3,k4,k5⟩:=h1.TB (ty:=o.type) (bU:=bU) o9 he sq HZ Gk a 0 0 [] [] .nil (fun W hW=>by
   obtain ⟨_,_,_,F,hF,_⟩:=JN.flat te.size dM;have:=qn (P:=P) (sz:=te.size) (cap:=0) (a:=a) (rows:=[]) (n:=0) rfl hF W hW
   simpa using this) ak ak h0 hX hd hr Jx
  rw [bf] at k1 k2 k3 k5;refine ⟨.slice (some ⟨w.heap.size,0,none⟩) bU.length gF,w',c',.bx B.length bU.length gF,⟨B++[bU.flatten.map .d++List.replicate ((gF - bU.length) * te.size) .undef],T⟩,?_,⟨gF,k2,k2',rfl,rfl⟩,?_,k4,k5⟩
  ·simp only [aW] at hev;simp [execOp,ho,resolve,invoke,builtin,hev,k1]
  ·rw [dO] at k3;exact k3
end
def sO:Op→Bool
 | .store _ _ _ | .alloc _ | .box _ _ | .makeMap _ _ | .mapUpdate _ _ _ _=>true
 | .call c=>match c.callee with
  | .value _=>true
  | .builtin .append=>true
  | .builtin .delete=>true
  | _=>false
 | _=>false
def QG:Op→Bool
 | .load _ _ | .lookup _ _ _ _=>true
 | _=>false
def uG:List Nat→Nat→Bool
 | [],_=>false
 | a :: l,k=>(a == k) || uG l k
theorem qX:∀ {l:List Nat} {k:Nat},uG l k=true↔k∈l
 | [],k=>by simp [uG]
 | a :: l,k=>by rw [uG,lg,iK,qX,bB,eq_comm]
def QH (A:List Nat) (ops:Array Oper):List Nat:=(List.range ops.size).filter fun k=>sO (fG ops k).op && !uG A k
def sP (S:Mem) (Z:bQ):Mem:=⟨S.boxes++Z,S.dG⟩
theorem pI (S:Mem):sP S []=S:=by simp [sP]
def zA (P:Program) (ops:Array Oper) (a:Nat):List V :=
 match (fG ops a).op with
 | .alloc t=>(match eT P t with
  | some i=>i.zero
  | none=>[])
 | _=>[.vY [] []]
def M8 (ops:Array Oper) (a N:Nat):V :=
 match (fG ops a).op with
 | .alloc _=>.ptr N 0
 | _=>.mp N
def nS (ops:Array Oper):Nat→List Nat→List V→List V
 | _,[],env=>env
 | N,a :: l,env=>nS ops (N+1) l (dD env (fG ops a).dst (M8 ops a N))
def aeP (P:Program):Op→Bool
 | .alloc t=>(eT P t).isSome
 | .makeMap _ none=>true
 | _=>false
def nodupB:List Nat→Bool
 | []=>true
 | a :: l=>!uG l a && nodupB l
def okA (P:Program) (ops:Array Oper) (A:List Nat) (p:Nat):Bool:=nodupB A && A.all fun a=>Nat.ble (a+1) p && (match ops[a]? with
 | some o=>o.guard.isNone && aeP P o.op && (o.after.all fun e=>!Region.binds .any e) && (List.range p).all fun j=>(j == a) || (match ops[j]? with
  | some oj=>(oj.after.all fun e=>!(Region.binds .any e && (e.on == a))) && (match o.dst with
   | some t=>!(oj.dst == some t) && !(oj.looksAt ops).contains t
   | none=>true)
  | none=>true)
 | none=>false)
def xW:List Nat→Nat→Prop
 | [],_=>False
 | x :: l,i=>x=i∨xW l i
def Kept (L:List Nat) (S S':Mem):Prop:=∀ i,xW L i→∀ vs,S.boxes[i]? = some vs→S'.boxes[i]? = some vs
def kR:List Nat→Mem→Mem→Prop
 | [],_,_=>True
 | x :: l,S,S'=>S'.boxes[x]? = S.boxes[x]?∧kR l S S'
theorem kR.kept {S S':Mem}:∀ {L:List Nat},kR L S S'→Kept L S S'
 | [],_,_,h=>h.elim
 | _ :: _,h,i,.inl e=>fun vs hv=>by subst e;rw [h.1];exact hv
 | _ :: _,h,i,.inr e=>h.2.kept i e
theorem sQ (S:Mem):∀ (L:List Nat),kR L S S
 | []=>trivial
 | _ :: l=>⟨rfl,sQ S l⟩
def wJ:List Nat→Mem→Prop
 | [],_=>True
 | x :: l,S=>(S.boxes[x]?).isSome=true∧wJ l S
theorem wJ.get {S:Mem}:∀ {L:List Nat},wJ L S→∀ i,xW L i→∃ vs,S.boxes[i]? = some vs
 | [],_,_,h=>h.elim
 | _ :: _,h,i,.inl e=>by subst e;exact lI.1 h.1
 | _ :: _,h,i,.inr e=>h.2.get i e
theorem Kept.sP {L:List Nat} {S S':Mem} (h:Kept L S S') (Z:bQ):Kept L S (sP S' Z):=fun i hi vs hv=>by
 have:=h i hi vs hv;show (S'.boxes++Z)[i]? = some vs;rw [bk (ai.1 this).1];exact this
section machine
variable {P:Program} {I:Inv} {ops:Array Oper} {A W:List Nat} {MM:Mem→Prop} {p:Nat}
def WX (P:Program) (I:Inv) (ops:Array Oper) (A:List Nat) (o:Oper) (env:List V) (S:Mem) (Q:V→Mem→Prop):Prop:=(kQ env ops o∧∀ Z,(A=[]→Z=[])→WO P I o env (sP S Z) fun v T=>∃ S',T=sP S' Z∧Q v S')∨(wu env ops o∧Q (.fZ []) S)
theorem WX.congr {o:Oper} {env:List V} {d:Option Tmp} {x:V} {S:Mem} {Q:V→Mem→Prop} (h:∀ t,d=some t→t ∉ o.looksAt ops):WX P I ops A o (dD env d x) S Q↔WX P I ops A o env S Q:=by
 cases d with
 | none=>rfl
 | some t=>exact uz (sr (wE (h t rfl)) (forall_congr' fun Z=>imp_congr pG (WO.congr h))) (sr (wF (h t rfl)) pG)
def WCx (P:Program) (I:Inv) (ops:Array Oper) (A:List Nat) (o:Oper) (env:List V) (S:Mem) (K:V→Mem→Prop):Prop:=∃ Q:V→Mem→Prop,(∃ v S',Q v S')∧(∀ v S',Q v S'→S'.boxes.length=S.boxes.length∨A=[])∧WX P I ops A o env S Q∧∀ v S',Q v S'→K v S'
def CR (P:Program) (I:Inv) (ops:Array Oper) (A W:List Nat) (p:Nat) (MM:Mem→Prop) (K:Array Bool→List V→Mem→Prop):Nat→Array Bool→List V→Mem→Prop
 | 0,la,env,S=>MM S∧(∀ j,j < p→la.getD j true=true)∧K la env S
 | n+1,la,env,S=>MM S∧((∀ j,j < p→la.getD j true=true)→K la env S)∧∀ i∈Region.ready .any ops la,i < p→∃ o,ops[i]? = some o ∧
  ((W.contains i=true∧WCx P I ops A o env S fun v S'=>CR P I ops A W p MM K n (la.setIfInBounds i true) (dD env o.dst v) S') ∨
   (W.contains i=false∧∃ v,QC P I ops MM o env v∧CR P I ops A W p MM K n (la.setIfInBounds i true) (dD env o.dst v) S))
variable {K:Array Bool→List V→Mem→Prop}
theorem CR.in:∀ {n:Nat} {la:Array Bool} {env:List V} {S:Mem},CR P I ops A W p MM K n la env S→MM S
 | 0,_,_,_,h=>h.1
 | _+1,_,_,_,h=>h.1
theorem M9 {i:Nat} {oi:Oper} (hi:ops[i]? = some oi) (JB:i < p) (hq:W.contains i=false) {v:V}:∀ (n:Nat) (listed:Array Bool) (env:List V) (S:Mem),zU ops listed i oi→i∈Region.ready .any ops listed→QC P I ops MM oi env v→CR P I ops A W p MM K n (listed.setIfInBounds i true) (dD env oi.dst v) S→CR P I ops A W p MM K (n+1) listed env S:=by
 intro n
 induction n with
 | zero =>
  intro listed env S _ hr hy H;refine ⟨H.in,fun h=>(by have:=h i JB;rw [(mem_ready.1 hr).1] at this;cases this),fun j hj Wr=>?_⟩
  by_cases mB:j=i
  ·subst mB;exact ⟨oi,hi,.inr ⟨hq,v,hy,H⟩⟩
  ·have h1:=H.2.1 j Wr;rw [(mem_ready.1 (ready_mono hj mB)).1] at h1;cases h1
 | succ n ih =>
  intro listed env S m6 hr hy H;refine ⟨H.in,fun h=>(by have:=h i JB;rw [(mem_ready.1 hr).1] at this;cases this),fun j hj Wr=>?_⟩
  by_cases mB:j=i
  ·subst mB;exact ⟨oi,hi,.inr ⟨hq,v,hy,H⟩⟩
  obtain ⟨oj,qs,hH⟩:=H.2.2 j (ready_mono hj mB) Wr;have sL:=(mem_ready.1 hj).1;obtain ⟨a1,a2,a3⟩:=m6.apart hr hj mB qs;have vb:=ready_mono hr (jk mB);rcases hH with ⟨uU,Q,gW,Gm,QB,hk⟩ | ⟨uU,u,Wp,h1⟩
  ·refine ⟨oj,qs,.inl ⟨uU,Q,gW,Gm,(WX.congr a1).1 QB,fun u S' hQ=>?_⟩⟩;refine ih (listed.setIfInBounds j true) (dD env oj.dst u) S' (m6.next sL) vb ((QC.congr a3).2 hy) ?_;rw [gG _ _ mB,← oK env v u a2];exact hk u S' hQ
  ·refine ⟨oj,qs,.inr ⟨uU,u,(QC.congr a1).1 Wp,ih (listed.setIfInBounds j true) (dD env oj.dst u) S (m6.next sL) vb ((QC.congr a3).2 hy) ?_⟩⟩;rw [gG _ _ mB,← oK env v u a2];exact h1
theorem Na {U:List Nat} {i:Nat} {oi:Oper} (hi:ops[i]? = some oi) (JB:i < p) (hq:W.contains i=true):∀ (n:Nat) (listed:Array Bool) (env:List V) (S:Mem),MM S→zU ops listed i oi→DV ops U listed i→(∀ j oj,ops[j]? = some oj→W.contains j=true→listed.getD j true=false→j=i∨U.contains j=true)→i∈Region.ready .any ops listed→WCx P I ops A oi env S (fun v S'=>CR P I ops A W p MM K n (listed.setIfInBounds i true) (dD env oi.dst v) S')→CR P I ops A W p MM K (n+1) listed env S:=by
 intro n
 induction n with
 | zero =>
  intro listed env S hS _ _ _ hr hy;refine ⟨hS,fun h=>(by have:=h i JB;rw [(mem_ready.1 hr).1] at this;cases this),fun j hj Wr=>?_⟩
  by_cases mB:j=i
  ·subst mB;exact ⟨oi,hi,.inl ⟨hq,hy⟩⟩
  ·obtain ⟨Q,⟨v0,S0,h0⟩,_,_,hk⟩:=hy;have h1:=(hk v0 S0 h0).2.1 j Wr;rw [(mem_ready.1 (ready_mono hj mB)).1] at h1;cases h1
 | succ n ih =>
  intro listed env S hS m6 Ke hWU hr hy;refine ⟨hS,fun h=>(by have:=h i JB;rw [(mem_ready.1 hr).1] at this;cases this),fun j hj Wr=>?_⟩
  by_cases mB:j=i
  ·subst mB;exact ⟨oi,hi,.inl ⟨hq,hy⟩⟩
  obtain ⟨Q,⟨v0,S0,h0⟩,Gm,QB,hk⟩:=hy;obtain ⟨oj,qs,hH⟩:=(hk v0 S0 h0).2.2 j (ready_mono hj mB) Wr;obtain ⟨sL,oj',sM,j4⟩:=mem_ready.1 hj;rw [qs] at sM;obtain rfl:=ag sM;obtain ⟨a1,a2,a3⟩:=m6.apart hr hj mB qs;have vb:=ready_mono hr (jk mB);rcases hH with ⟨uU,_⟩ | ⟨uU,u,Wp,_⟩
  ·obtain ⟨e,he,hb,_,tD⟩:=Ke j oj qs ((hWU j oj qs uU sL).resolve_left mB) mB sL;have h1:=j4 e he hb;rcases ct e.on listed.size with h' | h'
   ·simp [h'] at tD h1;rw [tD] at h1;cases h1
   ·simp [fy h'] at h1
  ·have Kf:=(QC.congr a1).1 Wp;refine ⟨oj,qs,.inr ⟨uU,u,Kf,ih (listed.setIfInBounds j true) (dD env oj.dst u) S hS (m6.next sL) (Ke.next j4 qs mB sL) (fun k ok hk Gj tD=>?_) vb ⟨Q,⟨v0,S0,h0⟩,Gm,(WX.congr a3).2 QB,fun v S' hQ=>?_⟩⟩⟩
   ·by_cases xC:j=k
    ·subst xC;rw [uU] at Gj;cases Gj
    ·rw [getD_set_ne true xC] at tD;exact hWU k ok hk Gj tD
   ·obtain ⟨oj',sM,hH'⟩:=(hk v S' hQ).2.2 j (ready_mono hj mB) Wr;rw [qs] at sM;obtain rfl:=ag sM;rcases hH' with ⟨Tx,_⟩ | ⟨_,u',Kf,h1⟩
    ·rw [uU] at Tx;cases Tx
    ·have e2:QC P I ops MM oj env u':=(QC.congr a1).1 Kf;have e3:=QC.one hS e2 ((QC.congr a1).1 Wp);subst e3;rw [gG _ _ mB,← oK env v u' a2];exact h1
def Kk (A:List Nat):Nat→Nat→Nat
 | _,0=>0
 | k,q+1=>cond (uG A k) (Kk A (k+1) q) (Kk A (k+1) q+1)
def QI (P:Program) (I:Inv) (ops:Array Oper) (A W:List Nat) (MM:Mem→Prop) (K:List V→Mem→Prop):List Oper→Nat→List V→Mem→Prop
 | [],_,env,S=>MM S∧K env S
 | o :: l,k,env,S=>(uG A k=true→QI P I ops A W MM K l (k+1) env S)∧(uG A k=false→(W.contains k=true→MM S∧WCx P I ops A o env S fun v S'=>QI P I ops A W MM K l (k+1) (dD env o.dst v) S') ∧
  (W.contains k=false→∃ v,QC P I ops MM o env v∧QI P I ops A W MM K l (k+1) (dD env o.dst v) S))
theorem BC {listed la:Array Bool} {i:Nat} (jS:la.size=ops.size) (wG:∀ j,j < ops.size→listed.getD j true=true→la.getD j true=true) (Is:listed.size=ops.size) (hi:i∈Region.ready .any ops listed) (hu:la.getD i true=false):i∈Region.ready .any ops la:=by
 obtain ⟨_,oi,FJ,j4⟩:=mem_ready.1 hi;refine mem_ready.2 ⟨hu,oi,FJ,fun e he hb=>?_⟩;have h1:=j4 e he hb;rcases ct e.on ops.size with h' | h'
 ·have h2:=wG e.on h' (by simp [Is,h'] at h1 ⊢;exact h1);simp [jS,h'] at h2 ⊢;exact h2
 ·simp [fy (show listed.size≤e.on by omega)] at h1
theorem Kl {k:Nat} {la:Array Bool} (Xr:∀ a o,uG A a=true→ops[a]? = some o→∀ e∈o.after,Region.binds .any e=false) (hk:k < ops.size) (ha:uG A k=false) (Co:∀ j,j < ops.size→la.getD j true=(decide (j < k) || uG A j)):DV ops (desc ops k) la k:=by
 intro j oj qs hj xC _;rcases zV (bZ.1 hj) with rfl | ⟨_,oj',sM,e,he,hb,Xo⟩
 ·exact absurd rfl xC
 rw [qs] at sM;obtain rfl:=ag sM;refine ⟨e,he,hb,bZ.2 Xo,?_⟩;rcases zV Xo with h | ⟨h,oe,hoe,e2,Th,xV,_⟩
 ·rw [h,Co k hk,ha,mS];exact af (nY k)
 ·rw [Co _ (bD.1 hoe).1]
  have h1:uG A e.on=false:=by
   cases hx:uG A e.on with
   | false=>rfl
   | true=>rw [Xr _ _ hx hoe e2 Th] at xV;cases xV
  rw [h1,mS];exact af ak
theorem zX (Xr:∀ a o,uG A a=true→ops[a]? = some o→∀ e∈o.after,Region.binds .any e=false) (Xs:p≤ops.size) (hW0:(W.all fun k=>Nat.ble (k+1) ops.size)=true) (Wq:(W.all fun k=>W.all fun j=>Nat.ble j k || (desc ops k).contains j)=true) {KK:List V→Mem→Prop} (m:Nat)
 (hKK:∀ la env S,la.size=ops.size→(∀ j,j < ops.size→la.getD j true=(decide (j < p) || uG A j))→(∀ listed:Array Bool,listed.size=ops.size→(∀ j,j < ops.size→listed.getD j true=decide (j < p))→Region.lexFrom .any ops m p listed=true)→KK env S→K la env S):∀ (l:List Oper) (k:Nat) (listed la:Array Bool) (env:List V) (S:Mem),(∀ j,j < l.length→l[j]? = ops[k+j]?)→k+l.length=p→listed.size=ops.size→la.size=ops.size→(∀ j,j < ops.size→listed.getD j true=decide (j < k))→(∀ j,j < ops.size→la.getD j true=(decide (j < k) || uG A j)) →
 Region.lexFrom .any ops (l.length+m) k listed=true→QI P I ops A W MM KK l k env S→CR P I ops A W p MM K (Kk A k l.length) la env S
 | [],k,listed,la,env,S,_,Ws,sI,jS,SA,Co,hB,h=>by
  have Ws:k=p:=by simpa using Ws
  subst Ws;refine ⟨h.1,fun j hj=>?_,hKK la env S jS Co (fun li hli Xt=>?_) h.2⟩
  ·rw [Co j ak,ah hj,gq]
  ·have e:li=listed:=by
    apply xD
    ·omega
    ·intro j hj jT;have h1:=Xt j ak;have h2:=SA j ak;simp [hj,jT] at h1 h2;rw [h1,h2]
   rw [e]
   simpa using hB
 | o :: l,k,listed,la,env,S,hl,Ws,sI,jS,SA,Co,hB,h=>by
  have h0:ops[k]? = some o:=by simpa using (hl 0 dM).symm
  have hk:=(bD.1 h0).1;have aeR:k < p:=by simp at Ws;omega
  rw [show (o :: l).length+m=(l.length+m)+1 by simp;omega] at hB;simp only [Region.lexFrom,aF] at hB;obtain ⟨⟨hr,hf⟩,Wo⟩:=hB
  have Cd:∀ j,j < l.length→l[j]? = ops[k+1+j]?:=fun j hj=>by
   have:=hl (j+1) fk
   simpa [Nat.add_assoc,Nat.add_comm 1 j] using this
  have nZ:∀ j,j < ops.size→(listed.setIfInBounds k true).getD j true=decide (j < k+1):=by
   intro j hj
   by_cases xC:k=j
   ·subst xC;have:decide (k < k+1)=true:=ah ak;rw [this]
    by_cases hs:k < listed.size<;>simp [hs]
   ·rw [getD_set_ne true xC,SA j hj];exact cM.2 ak
  have hlen:(o :: l).length=l.length+1:=rfl;cases ha:uG A k with
  | true =>
   rw [hlen,Kk,ha,uC];refine zX Xr Xs hW0 Wq m hKK l (k+1) _ la env S Cd (by simp at Ws;omega) (by simpa using sI) jS nZ (fun j hj=>?_) Wo (h.1 ha);rw [Co j hj]
   by_cases xC:j=k
   ·subst xC;simp [ha]
   ·congr 1
    exact cM.2 ak
  | false =>
   rw [hlen,Kk,ha,nt]
   have Kg:∀ j,j < ops.size→(la.setIfInBounds k true).getD j true=(decide (j < k+1) || uG A j):=by
    intro j hj
    by_cases xC:k=j
    ·subst xC;have:decide (k < k+1)=true:=ah ak;rw [this,gq]
     by_cases hs:k < la.size<;>simp [hs]
    ·rw [getD_set_ne true xC,Co j hj]
     congr 1
     exact cM.2 ak
   have Z0:la.getD k true=false:=by rw [Co k hk,ha,mS];exact af (nY k)
   have wG:∀ j,j < ops.size→listed.getD j true=true→la.getD j true=true:=fun j hj h1=>by rw [Co j hj,← SA j hj,h1,gq]
   have hra:k∈Region.ready .any ops la:=BC jS wG sI (by simpa using hr) Z0;have abu:zU ops listed k o:=Region.free_spec h0 hf
   have m6:zU ops la k o:=fun j oj qs xC tD Fx=>abu j oj qs xC (by
    have hjs:=(bD.1 qs).1;rw [Co j hjs,fA] at tD;rw [SA j hjs];exact tD.1) Fx
   cases hw:W.contains k with
   | true =>
    obtain ⟨hS,Q,gW,Gm,QB,hK⟩:=(h.2 ha).1 hw;refine Na (U:=desc ops k) h0 aeR hw _ la env S hS m6 (Kl Xr hk ha Co) (fun j oj qs uU tD=>?_) hra ⟨Q,gW,Gm,QB,fun v S' hQ=>zX Xr Xs hW0 Wq m hKK l (k+1) _ _ _ _ Cd (by simp at Ws;omega) (by simpa using sI) (by simpa using jS) nZ Kg Wo (hK v S' hQ)⟩;rw [Co j (bD.1 qs).1,fA] at tD;have hkj:=dJ tD.1;have h1:=cC.1 (cC.1 Wq k (bZ.1 hw)) j (bZ.1 uU);rw [lg] at h1;rcases h1 with h | h
    ·exact .inl (by have:=cm h;omega)
    ·exact .inr h
   | false =>
    obtain ⟨v,hv,hK⟩:=(h.2 ha).2 hw;exact M9 h0 aeR hw _ la env S m6 hra hv (zX Xr Xs hW0 Wq m hKK l (k+1) _ _ _ _ Cd (by simp at Ws;omega) (by simpa using sI) (by simpa using jS) nZ Kg Wo hK)
theorem Gn (a:Nat):∀ (l:List Nat) (N:Nat) (env:List V),nS ops N (l++[a]) env=dD (nS ops N l env) (fG ops a).dst (M8 ops a (N+l.length))
 | [],N,env=>rfl
 | b :: l,N,env=>by
  rw [gH,nS,Gn a l,nS,aP,fD,nE 1]
theorem DZ {d:Option Tmp} (v:V):∀ (l:List Nat) (N:Nat) (env:List V),(∀ a∈l,∀ t,d=some t→(fG ops a).dst ≠ some t)→nS ops N l (dD env d v)=dD (nS ops N l env) d v
 | [],_,_,_=>rfl
 | a :: l,N,env,h=>by
  rw [nS,nS,← DZ v l (N+1) _ fun b hb=>h b (aU _ hb),oK env v _ fun t ht=>h a aI t ht]
theorem It {o:Oper} {v:V}:∀ (l:List Nat) (N:Nat) (env:List V),(∀ a∈l,∀ t,(fG ops a).dst=some t→t ∉ o.looksAt ops)→(QC P I ops MM o (nS ops N l env) v↔QC P I ops MM o env v)
 | [],_,_,_=>pG
 | a :: l,N,env,h=>by
  rw [nS,It l (N+1) _ fun b hb=>h b (aU _ hb)];exact QC.congr fun t ht=>h a aI t ht
theorem OU {o:Oper} {S:Mem} {Q:V→Mem→Prop}:∀ (l:List Nat) (N:Nat) (env:List V),(∀ a∈l,∀ t,(fG ops a).dst=some t→t ∉ o.looksAt ops)→(WX P I ops A o (nS ops N l env) S Q↔WX P I ops A o env S Q)
 | [],_,_,_=>pG
 | a :: l,N,env,h=>by
  rw [nS,OU l (N+1) _ fun b hb=>h b (aU _ hb)];exact WX.congr fun t ht=>h a aI t ht
structure OkA (P:Program) (ops:Array Oper) (A:List Nat) (p:Nat):Prop where
 lt:∀ a∈A,a < p
 op:∀ a∈A,∃ o,ops[a]? = some o∧o.guard=none∧aeP P o.op=true∧(∀ e∈o.after,Region.binds .any e=false)
 el:∀ a∈A,∀ j oj,j < p→j ≠ a→ops[j]? = some oj→(∀ e∈oj.after,Region.binds .any e=true→e.on ≠ a)∧(∀ t,(fG ops a).dst=some t→oj.dst ≠ some t∧t ∉ oj.looksAt ops)
 nd:A.Nodup
theorem Gp:∀ {l:List Nat},nodupB l=true→l.Nodup
 | [],_=>List.nodup_nil
 | a :: l,h=>by
  rw [nodupB,aF] at h;refine List.nodup_cons.2 ⟨fun hm=>?_,Gp h.2⟩;rw [qX.2 hm] at h;cases h.1
theorem abv (h:okA P ops A p=true):OkA P ops A p:=by
 rw [okA,aF,cC] at h;obtain ⟨hn,h⟩:=h;refine ⟨fun a ha=>?_,fun a ha=>?_,fun a ha j oj hj ZY qs=>?_,Gp hn⟩
 ·have:=h a ha;rw [aF] at this;have:=cm this.1;omega
 ·have h1:=h a ha;rw [aF] at h1;have h2:=h1.2
  split at h2
  ·rename_i o ho;simp only [aF] at h2;refine ⟨o,ho,by simpa using h2.1.1.1,h2.1.1.2,fun e he=>?_⟩;have h3:=h2.1.2;rw [Array.all_eq_true'] at h3
   simpa using h3 e he
  ·cases h2
 ·have h1:=h a ha;rw [aF] at h1;have h2:=h1.2
  split at h2
  ·rename_i o ho;simp only [aF] at h2;have h4:=cC.1 h2.2 j (sR.2 hj);rw [show (j == a)=false from cB.2 ZY,eN,qs] at h4;simp only [aF] at h4;have e:fG ops a=o:=by unfold fG;rw [ho]
   refine ⟨fun e he hb Xo=>?_,fun t ht=>?_⟩
   ·have h5:=h4.1;rw [Array.all_eq_true'] at h5;have h6:=h5 e he;rw [hb,Xo] at h6;simp at h6
   ·rw [e] at ht;have h5:=h4.2;rw [ht] at h5;simp only [aF,iV,cB,List.contains_eq_mem] at h5;exact ⟨h5.1,by simpa using h5.2⟩
  ·cases h2
theorem OV {P:Program} {ev:Operand→V} {op:Op} {S:Mem} {v:V} {S':Mem} (hw:sO op=false) (hl:QG op=false) (h:jt P ev S op=some (v,S')):∀ S2:Mem,jt P ev S2 op=some (v,S2):=by
 intro S2
 have st:∀ {r:Option V},still S r=some (v,S')→still S2 r=some (v,S2):=by
  intro r hr;obtain ⟨u,hu,e⟩:=aB.1 hr;obtain ⟨rfl,rfl⟩:=aR e;rw [hu];rfl
 cases op<;>simp only [jt] at h ⊢<;>try (cases h;done)
 all_goals try (cases hw;done)
 all_goals try (cases hl;done)
 case move x=>cases h;rfl
 case assign x=>cases h;rfl
 case pick c a b =>
  split at h
  ·cases h;rfl
  ·cases h
 case build t ps=>exact st h
 case buildSlice t n ps=>exact st h
 case nilCheck x =>
  split at h
  ·cases h;rfl
  ·cases h;rfl
  ·cases h
 case binOp o t x y u=>exact st h
 case unOp o t x=>exact st h
 case convert s d x=>exact st h
 case makeFunc fn first caps =>
  cases fn<;>simp only at h ⊢<;>cases h;rfl
 case slice t x lo hi mx =>
  cases mx<;>simp only at h ⊢
  ·exact st h
  ·cases h
 case fieldAddr s x f=>exact st h
 case field s x f=>exact st h
 case indexAddr t x i=>exact st h
 case index t x i=>exact st h
 case extract x i =>
  split at h
  ·exact st h
  ·cases h
 case call c =>
  unfold jV at h ⊢
  split at h
  ·exact st h
  ·rename_i hc _ _;simp [sO,hc] at hw
  ·exact st h
  ·exact st h
  ·rename_i hc _ _;simp [sO,hc] at hw
  ·cases h
def TC (ops:Array Oper):Prop:=∀ k,k < ops.size→∃ o,ops[k]? = some o∧∀ la:Array Bool,la.size=ops.size→(∀ j,j < k→la.getD j true=true)→la.getD k true=false→k∈Region.ready .any ops la∧zU ops la k o
theorem D0:∀ (n k:Nat) (listed:Array Bool),listed.size=ops.size→(∀ j,j < ops.size→listed.getD j true=decide (j < k))→Region.lexFrom .any ops n k listed=true→∀ i,k≤i→i < k+n→i < ops.size →
 ∃ o,ops[i]? = some o∧∀ la:Array Bool,la.size=ops.size→(∀ j,j < i→la.getD j true=true)→la.getD i true=false→i∈Region.ready .any ops la∧zU ops la i o
 | 0,k,_,_,_,_,i,h1,h2,_=>ak
 | n+1,k,listed,jS,hl,hB,i,h1,h2,h3=>by
  simp only [Region.lexFrom,aF] at hB;obtain ⟨⟨hr,hf⟩,Wo⟩:=hB
  by_cases hik:i=k
  ·subst hik;have h0:ops[i]? = some ops[i]:=kV h3;refine ⟨_,h0,fun la Bl Xt hu=>⟨BC Bl (fun j hj h=>Xt j (by rw [hl j hj] at h;exact of_decide_eq_true h)) jS (by simpa using hr) hu,fun j oj qs mB tD Fx=>?_⟩⟩;refine Region.free_spec h0 hf j oj qs mB ?_ Fx;have hjs:=(bD.1 qs).1;rw [hl j hjs];refine af fun bu=>?_;rw [Xt j bu] at tD;cases tD
  ·refine D0 n (k+1) _ (by simpa using jS) (fun j hj=>?_) Wo i ak ak h3
   by_cases xC:k=j
   ·subst xC;have:decide (k < k+1)=true:=ah ak;rw [this]
    by_cases hs:k < listed.size<;>simp [hs]
   ·rw [getD_set_ne true xC,hl j hj];exact cM.2 ak
def abw (ops:Array Oper) (p i:Nat):Bool:=(List.range ops.size).any fun j=>!Nat.ble (j+1) p && !(desc ops i).contains j
def Iu (ops:Array Oper) (A:List Nat) (p:Nat):Bool:=(List.range p).all fun i=>!abw ops p i || (!uG A i && (match ops[i]? with
 | some o=>!sO o.op && !QG o.op
 | none=>false))
def aeS (ops:Array Oper) (A:List Nat) (p:Nat):Prop:=∀ i,i < p→(∀ j oj,p≤j→ops[j]? = some oj→j∈desc ops i)∨(uG A i=false∧∃ o,ops[i]? = some o∧sO o.op=false∧QG o.op=false)
theorem QJ (h:Iu ops A p=true):aeS ops A p:=by
 intro i hi;have h1:=cC.1 h i (sR.2 hi);rw [lg] at h1;rcases h1 with h1 | h1
 ·left;intro j oj hj qs;have h2:abw ops p i=false:=by simpa using h1
  unfold abw at h2;rw [List.any_eq_false] at h2;have h3:=h2 j (sR.2 (bD.1 qs).1)
  have hb:Nat.ble (j+1) p=false:=by
   cases hb:Nat.ble (j+1) p with
   | false=>rfl
   | true=>have:=cm hb;omega
  rw [hb] at h3
  simpa using h3
 ·right;rw [aF] at h1;refine ⟨by simpa using h1.1,?_⟩;have h2:=h1.2
  split at h2
  ·rename_i o ho;rw [aF] at h2;exact ⟨o,ho,by simpa using h2.1,by simpa using h2.2⟩
  ·cases h2
def QK (ops:Array Oper) (listed:Array Bool):Prop:=∀ (j:Nat) (o:Oper),ops[j]? = some o→listed.getD j true=true→∀ e∈o.after,Region.binds .any e=true→listed.getD e.on true=true
theorem QK.desc {listed:Array Bool} (h:QK ops listed) {k:Nat} (hk:listed.getD k true=false):∀ j∈desc ops k,listed.getD j true=false:=by
 have key:∀ (l acc:List Nat),(∀ x∈acc,listed.getD x true=false)→∀ x∈l.foldl (yu ops k) acc,listed.getD x true=false:=by
  intro l
  induction l with
  | nil=>exact fun _ h=>h
  | cons q l ih =>
   intro acc ha;refine ih _ fun x hx=>?_;unfold yu at hx;cases hb:Nat.ble q k with
   | true=>rw [hb] at hx;exact ha x hx
   | false =>
    rw [hb] at hx;simp only [nt] at hx
    split at hx
    ·rename_i o ho;cases zO:(o.after.any fun e=>Region.binds .any e && acc.contains e.on) with
     | false=>rw [zO] at hx;exact ha x hx
     | true =>
      rw [zO] at hx;rcases bB.1 hx with rfl | hx
      ·rw [Array.any_eq_true] at zO;obtain ⟨e,Bg,h3⟩:=zO;rw [aF] at h3;have h4:=ha _ (bZ.1 h3.2);cases hl:listed.getD x true with
       | false=>rfl
       | true=>rw [h x o ho hl _ (Array.getElem_mem Bg) h3.1] at h4;cases h4
      ·exact ha x hx
    ·exact ha x hx
 exact key _ _ fun x hx=>by rw [bO.1 hx];exact hk
theorem QK.set {listed:Array Bool} (h:QK ops listed) {i:Nat} {oi:Oper} (FJ:ops[i]? = some oi) (j4:∀ e∈oi.after,Region.binds .any e=true→listed.getD e.on true=true):QK ops (listed.setIfInBounds i true):=by
 have up:∀ x,listed.getD x true=true→(listed.setIfInBounds i true).getD x true=true:=fun x hx=>by
  by_cases hix:i=x
  ·subst hix
   by_cases hs:i < listed.size<;>simp [hs]
  ·rw [getD_set_ne true hix];exact hx
 intro j o ho hl e he hb
 by_cases hij:i=j
 ·subst hij;rw [FJ] at ho;obtain rfl:=ag ho;exact up _ (j4 e he hb)
 ·rw [getD_set_ne true hij] at hl;exact up _ (h j o ho hl e he hb)
theorem BD {KK:List V→Mem→Prop}:∀ (n:Nat) (la:Array Bool) (env:List V) (S:Mem),rL P I ops W MM KK n la env S→rL P I ops W MM KK (n+1) la env S
 | 0,la,env,S,h=>⟨h.1,fun _=>h.2.2,fun i hi=>by rw [h.2.1] at hi;cases hi⟩
 | n+1,la,env,S,h=>by
  refine ⟨h.1,h.2.1,fun i hi=>?_⟩;obtain ⟨o,ho,⟨hw,Q,gW,hq,hk⟩ | ⟨hw,v,hq,hk⟩⟩:=h.2.2 i hi
  ·exact ⟨o,ho,.inl ⟨hw,Q,gW,hq,fun v S' h'=>BD n _ _ _ (hk v S' h')⟩⟩
  ·exact ⟨o,ho,.inr ⟨hw,v,hq,BD n _ _ _ hk⟩⟩
theorem OW {KK:List V→Mem→Prop} {n m:Nat} (Df:n≤m) {la:Array Bool} {env:List V} {S:Mem} (h:rL P I ops W MM KK n la env S):rL P I ops W MM KK m la env S:=by
 induction Df with
 | refl=>exact h
 | step _ ih=>exact BD _ _ _ _ ih
theorem D1 (f:Nat→Bool):∀ q,(∀ j,j < q→f j=true)∨∃ i,i < q∧f i=false∧∀ j,j < i→f j=true
 | 0=>.inl fun j hj=>absurd hj (jY j)
 | q+1=>by
  rcases D1 f q with h1 | ⟨i,h1,h2⟩
  ·cases hx:f q with
   | true =>
    refine .inl fun j hj=>?_;rcases Nat.lt_succ_iff_lt_or_eq.1 hj with h3 | rfl
    ·exact h1 j h3
    ·exact hx
   | false=>exact .inr ⟨q,ak,hx,h1⟩
  ·exact .inr ⟨i,ak,h2⟩
theorem Gq {KK:List V→Mem→Prop} {rest:Nat} (hL:TC ops) (hA:OkA P ops A p) (Z6:∀ i o,ops[i]? = some o→W.contains i=true→sO o.op=true) (Xs:p≤ops.size) {done:List Nat} (hd:∀ a∈done,a∈A)
 (hK:∀ la env S,la.size=ops.size→K la env S→rL P I ops W (fun _=>True) KK rest la (nS ops S.boxes.length done env) (sP S (done.map (zA P ops)))) :
 ∀ (n:Nat) (la:Array Bool) (env:List V) (S:Mem),la.size=ops.size→CR P I ops A W p MM K n la env S→(∀ i,i < p→la.getD i true=false→uG A i=false∧∃ o,ops[i]? = some o∧sO o.op=false∧QG o.op=false) →
  rL P I ops W (fun _=>True) KK (rest+n) la (nS ops S.boxes.length done env) (sP S (done.map (zA P ops)))
 | 0,la,env,S,jS,h,_=>hK la env S jS h.2.2
 | n+1,la,env,S,jS,h,hu=>by
  by_cases j4:∀ j,j < p→la.getD j true=true
  ·exact OW ak (hK la env S jS (h.2.1 j4))
  ·obtain ⟨i,JB,hiu,TE⟩:∃ i,i < p∧la.getD i true=false∧∀ j,j < i→la.getD j true=true:=by
    rcases D1 (fun j=>la.getD j true) p with h1 | h1
    ·exact absurd h1 j4
    ·exact h1
   obtain ⟨TF,o,ho,hw,hl⟩:=hu i JB hiu;obtain ⟨o',Z7,TG⟩:=hL i ak;rw [ho] at Z7;obtain rfl:=ag Z7;obtain ⟨hr,m6⟩:=TG la jS TE hiu;obtain ⟨o',Z7,D2⟩:=h.2.2 i hr JB;rw [ho] at Z7;obtain rfl:=ag Z7;rcases D2 with ⟨ie,_⟩ | ⟨ie,v,hq,hn⟩
   ·rw [Z6 i o ho ie] at hw;cases hw
   ·have aeU:∀ x∈done,i ≠ x:=fun x hx e=>by
     have:=qX.2 (hd x hx);rw [← e,TF] at this;cases this
    have OE:∀ x∈done,∀ t,(fG ops x).dst=some t→t ∉ o.looksAt ops:=fun x hx t ht=>((hA.el x (hd x hx) i o JB (aeU x hx) ho).2 t ht).2;have FF:∀ x∈done,∀ t,o.dst=some t→(fG ops x).dst ≠ some t:=fun x hx t ht h2=>((hA.el x (hd x hx) i o JB (aeU x hx) ho).2 t h2).1 ht
    have ih:=Gq hL hA Z6 Xs hd hK n (la.setIfInBounds i true) (dD env o.dst v) S (by simpa using jS) hn (fun j hj tD=>by
     have mB:i ≠ j:=fun e=>by
      subst e;have:(la.setIfInBounds i true).getD i true=true:=by by_cases hs:i < la.size<;>simp [hs]
      rw [this] at tD;cases tD
     rw [getD_set_ne true mB] at tD;exact hu j hj tD)
    rw [DZ v done _ _ FF] at ih
    have hqt:QC P I ops (fun _=>True) o env v:=by
     rcases hq with ⟨hg,hq⟩ | hq
     ·exact .inl ⟨hg,fun S2 _=>OV hw hl (hq S h.1) S2⟩
     ·exact .inr hq
    exact yU ho ie (rest+n) la _ _ m6 hr ((It done S.boxes.length env OE).2 hqt) ih
theorem D3 {z:Nat × Nat} {fn:FuncId} {k:List Item} {R:V→Mem→Prop} {rest:Nat} (hs:aeS ops A p) (hL:TC ops) (Z6:∀ i o,ops[i]? = some o→W.contains i=true→sO o.op=true) (Xs:p≤ops.size) (hA:OkA P ops A p) (hMM:∀ S Z,MM S→MM (sP S Z))
 (hK:∀ la env S,la.size=ops.size→K la env S→∀ done:List Nat,done.Perm A→rL P I ops W (fun _=>True) (fun env S=>az P I z fn k env S R) rest la (nS ops S.boxes.length done env) (sP S (done.map (zA P ops)))) :
 ∀ (q n m:Nat),q=n+m→∀ (t:Nat) (la listed:Array Bool) (env:List V) (S:Mem) (done wK:List Nat),CR P I ops A W p MM K n la env S→(done++wK).Perm A→wK.length=m→listed.size=ops.size→la.size=ops.size→(∀ j,j < ops.size→la.getD j true=(listed.getD j true || uG wK j))→(∀ j∈wK,listed.getD j true=false)→QK ops listed→(∀ j∈done,listed.getD j true=true) →
  az P I z fn (.inRegion ops (Region.linearise.go .any ops (q+rest) t listed []) :: k) (nS ops S.boxes.length done env) (sP S (done.map (zA P ops))) R
 | q,n,m,hq,t,la,listed,env,S,done,wK,h,hp,hm,sI,jS,hrel,tD,qW,hdl=>by
  have hpA:∀ a∈wK,a∈A:=fun a ha=>hp.mem_iff.1 (iA _ ha);have hdA:∀ a∈done,a∈A:=fun a ha=>hp.mem_iff.1 (eO _ ha)
  have OX:∀ a∈wK,a∈Region.ready .any ops listed:=fun a ha=>by
   obtain ⟨o,ho,_,_,Fx⟩:=hA.op a (hpA a ha);exact mem_ready.2 ⟨tD a ha,o,ho,fun e he hb=>by rw [Fx e he] at hb;cases hb⟩
  have heq:wK=[]→la=listed:=fun h0=>by
   apply xD
   ·omega
   ·intro j hj jT;have h1:=hrel j ak;rw [h0] at h1;simp [hj,jT,uG] at h1;exact h1
  -- is there adB ahead of p aiH the rest waits amI
  by_cases aeV:∃ i,i < p∧listed.getD i true=false∧∀ j oj,p≤j→ops[j]? = some oj→j∈desc ops i
  case neg =>
   have W9:∀ i,i < p→listed.getD i true=false→uG A i=false∧∃ o,ops[i]? = some o∧sO o.op=false∧QG o.op=false:=fun i hi hu=>by
    rcases hs i hi with h1 | h1
    ·exact absurd ⟨i,hi,hu,h1⟩ aeV
    ·exact h1
   have h0:wK=[]:=qt.2 fun a ha=>by
    have:=(W9 a (hA.lt a (hpA a ha)) (tD a ha)).1;rw [qX.2 (hpA a ha)] at this;cases this
   have Bl:=heq h0;subst Bl;have hdp:done.Perm A:=by rw [h0,aQ] at hp;exact hp
   have hC:=Gq hL hA Z6 Xs hdA (fun la env S hs hk=>hK la env S hs hk done hdp) n la env S jS h W9;exact zW _ t la _ _ (OW ak hC)
  case pos =>
  obtain ⟨i0,hi0,hu0,hw0⟩:=aeV
  obtain ⟨q,rfl⟩:∃ q',q=q' + 1:=by
   cases q with
   | succ q=>exact ⟨q,rfl⟩
   | zero =>
    exfalso
    obtain rfl:n=0:=ak;have hm0:wK=[]:=aM ak;have:=h.2.1 i0 hi0;rw [heq hm0,hu0] at this;cases this
  have gW:Region.ready .any ops listed ≠ []:=by
   by_cases hm0:wK=[]
   ·-- the first aiH is left is ready
    rcases D1 (fun j=>listed.getD j true) (i0+1) with h1 | ⟨i,hi,h1,h2⟩
    ·rw [h1 i0 ak] at hu0;cases hu0
    ·obtain ⟨o,_,TG⟩:=hL i ak;exact List.ne_nil_of_mem (TG listed sI h2 h1).1
   ·obtain ⟨a,l,hpc⟩:=ni hm0;exact List.ne_nil_of_mem (OX a (by rw [hpc];exact aI))
  rw [show q+1+rest=(q+rest)+1 by omega];simp only [Region.linearise.go]
  change az P I z fn (.inRegion ops (match (Region.ready .any ops listed)[t % (Region.ready .any ops listed).length]? with
   | some i=>Region.linearise.go .any ops (q+rest) (t / (Region.ready .any ops listed).length) (listed.setIfInBounds i true) [i]
   | none=>[].reverse) :: k) (nS ops S.boxes.length done env) (sP S (done.map (zA P ops))) R
  cases hi:(Region.ready .any ops listed)[t % (Region.ready .any ops listed).length]? with
  | none =>
   exfalso
   cases hr:Region.ready .any ops listed with
   | nil=>exact gW hr
   | cons x xs =>
    rw [hr] at hi;have bu:t % (x :: xs).length < (x :: xs).length:=qm _ dM;simp at hi;simp at bu;omega
  | some i =>
   simp only [];rw [linearise_go_acc,pH,mW];have hir:=eM hi;obtain ⟨hiu,oi,FJ,j4⟩:=mem_ready.1 hir;have aiJ:=(bD.1 FJ).1
   have aeW:∀ e∈oi.after,Region.binds .any e=true→listed.getD e.on true=true:=fun e he hb=>by
    have h1:=j4 e he hb;rcases ct e.on listed.size with h2 | h2
    ·simp [h2] at h1 ⊢;exact h1
    ·simp [fy h2] at h1
   have abx:=qW.set FJ aeW
   have Xu:i < p:=by
    rcases ct i p with h' | h'
    ·exact h'
    ·rcases zV (hw0 i oi h' FJ) with h1 | ⟨_,oj,qs,e,he,hb,Xo⟩
     ·omega
     ·rw [FJ] at qs;obtain rfl:=ag qs;have h2:=qW.desc hu0 _ Xo;rw [aeW e he hb] at h2;cases h2
   by_cases JB:i∈wK
   ·-- a new box
    obtain ⟨o,ho,hg,jB,_⟩:=hA.op i (hpA i JB);have eo:fG ops i=o:=by unfold fG;rw [ho]
    have Gr:jt P (bw I (nS ops S.boxes.length done env)) (sP S (done.map (zA P ops))) o.op=some (M8 ops i (S.boxes.length+done.length),sP S ((done++[i]).map (zA P ops))):=by
     have e1:(sP S (done.map (zA P ops))).boxes.length=S.boxes.length+done.length:=by simp [sP]
     cases uZ:o.op with
     | alloc t =>
      rw [uZ] at jB;obtain ⟨ti,o9⟩:=lI.1 jB;simp only [jt,o9,e1];simp only [M8,zA,eo,uZ,o9,cr,cw,eB,sP,aE]
     | makeMap t r =>
      rw [uZ] at jB;cases r with
      | none =>
       simp only [jt,e1];simp only [M8,zA,eo,uZ,cr,cw,eB,sP,aE]
      | some r=>cases jB
     | _=>rw [uZ] at jB;cases jB
    refine az.op ho (.inl hg) Gr ?_;rw [← eo,← Gn];refine D3 hs hL Z6 Xs hA hMM hK q n (m - 1) (by have:=List.length_pos_of_mem JB;omega) _ la _ env S (done++[i]) (wK.erase i) h ?_ ?_ (by simpa using sI) jS (fun j hj=>?_) (fun j hj=>?_) abx (fun j hj=>?_)
    ·rw [aE,mW];exact ((List.perm_cons_erase JB).symm.append_left done).trans hp
    ·rw [List.length_erase_of_mem JB,hm]
    ·rw [hrel j hj]
     by_cases mB:i=j
     ·subst mB;have h1:(listed.setIfInBounds i true).getD i true=true:=by by_cases hs:i < listed.size<;>simp [hs]
      rw [h1,gq,qX.2 JB,Bool.or_true]
     ·rw [getD_set_ne true mB]
      congr 1
      rw [dQ,qX,qX,List.mem_erase_of_ne (fun e=>mB e.symm)]
    ·have hnd:wK.Nodup:=(List.nodup_append.1 (hp.nodup_iff.2 hA.nd)).2.1;have mB:i ≠ j:=fun e=>by subst e;exact (List.Nodup.not_mem_erase hnd) hj
     rw [getD_set_ne true mB];exact tD j (List.mem_of_mem_erase hj)
    ·by_cases mB:i=j
     ·subst mB
      by_cases hs:i < listed.size<;>simp [hs]
     ·rw [getD_set_ne true mB];rcases dA.1 hj with hj | hj
      ·exact hdl j hj
      ·exact absurd (bO.1 hj).symm mB
   ·have Z0:la.getD i true=false:=by
     rw [hrel i aiJ,hiu,eN];cases hx:uG wK i with
     | false=>rfl
     | true=>exact absurd (qX.1 hx) JB
    have hra:=BC jS (fun j hj h1=>by rw [hrel j hj,h1,gq]) sI hir Z0
    obtain ⟨n',rfl⟩:∃ n',n=n' + 1:=by
     cases n with
     | succ n'=>exact ⟨n',rfl⟩
     | zero =>
      have:=h.2.1 i Xu;rw [Z0] at this;cases this
    obtain ⟨hS,_,aeX⟩:=h;obtain ⟨o,ho,D2⟩:=aeX i hra Xu
    have TF:∀ x∈done,i ≠ x:=fun x hx e=>by
     have:=hdl x hx;rw [← e,hiu] at this;cases this
    have OE:∀ x∈done,∀ t,(fG ops x).dst=some t→t ∉ o.looksAt ops:=fun x hx t ht=>((hA.el x (hdA x hx) i o Xu (TF x hx) ho).2 t ht).2;have FF:∀ x∈done,∀ t,o.dst=some t→(fG ops x).dst ≠ some t:=fun x hx t ht h2=>((hA.el x (hdA x hx) i o Xu (TF x hx) ho).2 t h2).1 ht;have Bs:A=[]→done=[]:=fun h0=>qt.2 fun x hx=>by have:=hdA x hx;rw [h0] at this;cases this
    have next:∀ v S',(S'.boxes.length=S.boxes.length∨A=[])→CR P I ops A W p MM K n' (la.setIfInBounds i true) (dD env o.dst v) S'→∀ t,az P I z fn (.inRegion ops (Region.linearise.go .any ops (q+rest) t (listed.setIfInBounds i true) []) :: k) (dD (nS ops S.boxes.length done env) o.dst v) (sP S' (done.map (zA P ops))) R:=by
     intro v S' Gm hn t
     have e:dD (nS ops S.boxes.length done env) o.dst v=nS ops S'.boxes.length done (dD env o.dst v):=by
      rcases Gm with Gm | h0
      ·rw [Gm,DZ v done _ _ FF]
      ·rw [Bs h0];rfl
     rw [e];refine D3 hs hL Z6 Xs hA hMM hK q n' m ak t _ _ _ S' done wK hn hp hm (by simpa using sI) (by simpa using jS) (fun j hj=>?_) (fun j hj=>?_) abx (fun j hj=>?_)
     ·by_cases mB:i=j
      ·subst mB;have h1:(listed.setIfInBounds i true).getD i true=true:=by by_cases hs:i < listed.size<;>simp [hs]
       have h2:(la.setIfInBounds i true).getD i true=true:=by by_cases hs:i < la.size<;>simp [hs]
       rw [h1,h2,gq]
      ·rw [getD_set_ne true mB,getD_set_ne true mB];exact hrel j hj
     ·rw [getD_set_ne true (fun e=>JB (by rw [e];exact hj))];exact tD j hj
     ·rw [getD_set_ne true (TF j hj)];exact hdl j hj
    rcases D2 with ⟨_,Q,_,Gm,hwx,hk⟩ | ⟨_,v,hy,hn⟩
    ·have aiK:=(OU (A:=A) done S.boxes.length env OE).2 hwx;refine WG.step (Q:=fun v T=>∃ S',T=sP S' (done.map (zA P ops))∧Q v S') ho ?_ ?_
     ·rcases aiK with ⟨hg,hz⟩ | ⟨hg,hq⟩
      ·exact .inl ⟨hg,hz _ fun h0=>by rw [Bs h0];rfl⟩
      ·exact .inr ⟨hg,S,rfl,hq⟩
     ·rintro v T ⟨S',rfl,hQ⟩;exact next v S' (Gm v S' hQ) (hk v S' hQ) _
    ·exact QC.step ho (hMM S _ hS) ((It done S.boxes.length env OE).2 hy) (next v S (.inl rfl) hn _)
termination_by q=>q
end machine
def Nb (L:List Nat):V→Prop
 | .ptr i _=>xW L i
 | .mp i=>xW L i
 | _=>True
abbrev nL:=List V→Mem→Prop
def ri (A L:List Nat) (S0:Mem) (next:nL) (r:Option (V × Mem)) (d:Option Tmp) (env:List V):Prop :=
 match r with
 | some (v,S')=>A=[]∧kR L S0 S'∧next (dD env d v) S'
 | none=>False
def oh (next:nL) (r:Option (V × Mem)) (d:Option Tmp) (env:List V) (S:Mem):Prop :=
 match r with
 | some (v,_)=>next (dD env d v) S
 | none=>False
def zY (L:List Nat) (a:V) (next:nL) (r:Option (V × Mem)) (d:Option Tmp) (env:List V) (S:Mem):Prop :=
 match r with
 | some (v,_)=>Nb L a∧next (dD env d v) S
 | none=>False
def Cp (P:Program) (I:Inv) (A L:List Nat) (S0:Mem) (next:nL) (f:V) (args:List V) (d:Option Tmp) (env:List V) (S:Mem):Prop :=
 match f with
 | .func g first caps=>∃ Q:V→Mem→Prop,(∃ v S',Q v S')∧(∀ v S',Q v S'→S'.boxes.length=S.boxes.length∨A=[])∧(∀ Z,(A=[]→Z=[])→cy P I g (first++args++caps) (sP S Z) fun v T=>∃ S',T=sP S' Z∧Q v S')∧∀ v S',Q v S'→kR L S0 S'∧next (dD env d v) S'
 | _=>False
def abz (P:Program) (I:Inv) (A L:List Nat) (S0:Mem) (next:nL) (op:Op) (d:Option Tmp) (env:List V) (S:Mem):Prop :=
 ∃ Q:V→Mem→Prop,(∃ v S',Q v S')∧A=[]∧(∀ o:Oper,o.op=op→uD P I o env S Q)∧∀ v S',Q v S'→kR L S0 S'∧next (dD env d v) S'
def xE (P:Program) (I:Inv) (A L:List Nat) (S0:Mem) (next:nL) (op:Op) (d:Option Tmp) (env:List V) (S:Mem):Prop :=
 match op with
 | .load t a=>zY L (bw I env a) next (jt P (bw I env) S (.load t a)) d env S
 | .lookup t m k ok=>zY L (bw I env m) next (jt P (bw I env) S (.lookup t m k ok)) d env S
 | .store t a x=>ri A L S0 next (jt P (bw I env) S (.store t a x)) d env
 | .alloc t=>ri A L S0 next (jt P (bw I env) S (.alloc t)) d env
 | .box t x=>ri A L S0 next (jt P (bw I env) S (.box t x)) d env
 | .makeMap t r=>ri A L S0 next (jt P (bw I env) S (.makeMap t r)) d env
 | .mapUpdate t m k x=>ri A L S0 next (jt P (bw I env) S (.mapUpdate t m k x)) d env
 | .call c=>match c.callee with
  | .value f=>Cp P I A L S0 next (bw I env f) (c.args.toList.map (bw I env)) d env S
  | .builtin .append=>abz P I A L S0 next (.call c) d env S∨ri A L S0 next (jV P (bw I env) S c) d env
  | .builtin .delete=>ri A L S0 next (jV P (bw I env) S c) d env
  | _=>oh next (jV P (bw I env) S c) d env S
 | op=>oh next (jt P (bw I env) S op) d env S
def gX (P:Program) (I:Inv) (A L:List Nat) (S0:Mem) (next:nL) (g:V) (op:Op) (d:Option Tmp) (env:List V) (S:Mem):Prop :=
 match g with
 | .d (.bool true)=>xE P I A L S0 next op d env S
 | .d (.bool false)=>next (dD env d (.fZ [])) S
 | _=>False
def orX (b:Bool) (p q:Prop):Prop :=
 match b with
 | true=>p
 | false=>q
def tZ (P:Program) (I:Inv) (ops:Array Oper) (A L:List Nat) (S0:Mem) (K:nL):Nat→List Oper→nL
 | _,[]=>fun env S=>kR L S0 S∧K env S
 | k,o :: l=>fun env S=>orX (uG A k) (tZ P I ops A L S0 K (k+1) l env S) (gX P I A L S0 (tZ P I ops A L S0 K (k+1) l) (OQ env ops o) o.op o.dst env S)
def zZ:List Nat→(List Nat→Prop)→Prop
 | [],f=>f []
 | [a],f=>f [a]
 | [a,b],f=>f [a,b]∧f [b,a]
 | l,f=>∀ d:List Nat,d.Perm l→f d
theorem TH:∀ {l:List Nat} {f:List Nat→Prop},zZ l f→∀ d:List Nat,d.Perm l→f d
 | [],_,h,d,hd=>by rw [List.perm_nil.1 hd];exact h
 | [a],_,h,d,hd=>by rw [rT.1 hd];exact h
 | [a,b],_,h,d,hd=>by
  match d,hd with
  | [],hd=>exact absurd hd.length_eq dM
  | [_],hd=>exact absurd hd.length_eq dM
  | _ :: _ :: _ :: _,hd=>exact absurd hd.length_eq dM
  | [x,y],hd =>
   have hx:x∈[a,b]:=hd.mem_iff.1 aI;rcases bB.1 hx with rfl | hx
   ·have:=rT.1 ((List.perm_cons _).1 hd);rw [this];exact h.1
   ·obtain rfl:=bO.1 hx;have h2:[x,y].Perm [x,a]:=hd.trans (List.Perm.swap _ _ _);have:=rT.1 ((List.perm_cons _).1 h2);rw [this];exact h.2
 | _ :: _ :: _ :: _,_,h,d,hd=>h d hd
section
variable {P:Program} {I:Inv} {ops:Array Oper} {A L:List Nat} {S0:Mem} {K:nL}
theorem OY {env:List V} {o:Oper} (h:OQ env ops o = .d (.bool true)):kQ env ops o:=by
 unfold OQ at h
 split at h
 ·rename_i hg;exact .inl hg
 ·rename_i j want hg;unfold MW at h
  split at h
  ·rename_i t ht;simp only [V.d.injEq,D.bool.injEq,iK] at h;subst h;exact .inr ⟨j,t,hg,ht⟩
  ·cases h
  ·cases h
theorem TJ {env:List V} {o:Oper} (h:OQ env ops o = .d (.bool false)):wu env ops o:=by
 unfold OQ at h
 split at h
 ·cases h
 ·rename_i j want hg;unfold MW at h
  split at h
  ·rename_i t ht;simp only [V.d.injEq,D.bool.injEq] at h;exact ⟨j,want,hg,.inl ⟨t,ht,h⟩⟩
  ·rename_i ht;exact ⟨j,want,hg,.inr ht⟩
  ·cases h
theorem Xv {ev:Operand→V} {t:TypeId} {a:Operand} {S S2:Mem} {v:V} {S':Mem} (hl:Nb L (ev a)) (hk:∀ i,xW L i→S2.boxes[i]? = S.boxes[i]?) (h:jt P ev S (.load t a)=some (v,S')):jt P ev S2 (.load t a)=some (v,S2):=by
 simp only [jt] at h ⊢;obtain ⟨u,hu,e⟩:=aB.1 h;obtain ⟨rfl,rfl⟩:=aR e
 have:jE P S2 t (ev a)=jE P S t (ev a):=by
  unfold jE
  split
  ·rename_i i k hp;rw [hp] at hl;rw [hk i hl]
  ·rfl
  ·rfl
 rw [this,hu];rfl
theorem Xw {ev:Operand→V} {t:TypeId} {m k:Operand} {ok:Bool} {S S2:Mem} {v:V} {S':Mem} (hl:Nb L (ev m)) (hk:∀ i,xW L i→S2.boxes[i]? = S.boxes[i]?) (h:jt P ev S (.lookup t m k ok)=some (v,S')):jt P ev S2 (.lookup t m k ok)=some (v,S2):=by
 simp only [jt] at h ⊢;obtain ⟨u,hu,e⟩:=aB.1 h;obtain ⟨rfl,rfl⟩:=aR e
 have:jm P S2 t (ev m) (ev k) ok=jm P S t (ev m) (ev k) ok:=by
  unfold jm
  split
  ·rename_i z i s hz hp _;rw [hp] at hl;rw [hk i hl]
  ·rfl
 rw [this,hu];rfl
theorem abA {next:nL} {o:Oper} {env:List V} {S:Mem} (hL:wJ L S0) (hS:Kept L S0 S) (h:xE P I A L S0 next o.op o.dst env S) :
 (sO o.op=true∧∃ Q:V→Mem→Prop,(∃ v S',Q v S')∧(∀ v S',Q v S'→S'.boxes.length=S.boxes.length∨A=[])∧(∀ Z,(A=[]→Z=[])→WO P I o env (sP S Z) fun v T=>∃ S',T=sP S' Z∧Q v S')∧∀ v S',Q v S'→kR L S0 S'∧next (dD env o.dst v) S')∨(sO o.op=false∧∃ v,(∀ S',Kept L S0 S'→jt P (bw I env) S' o.op=some (v,S'))∧next (dD env o.dst v) S):=by
 have bind:∀ r,jt P (bw I env) S o.op=r→sO o.op=true→ri A L S0 next r o.dst env→(sO o.op=true∧∃ Q:V→Mem→Prop,(∃ v S',Q v S')∧(∀ v S',Q v S'→S'.boxes.length=S.boxes.length∨A=[])∧(∀ Z,(A=[]→Z=[])→WO P I o env (sP S Z) fun v T=>∃ S',T=sP S' Z∧Q v S')∧∀ v S',Q v S'→kR L S0 S'∧next (dD env o.dst v) S'):=by
  intro r hr hw hb;cases r with
  | none=>exact hb.elim
  | some p =>
   obtain ⟨v,S'⟩:=p;obtain ⟨h0,h1,h2⟩:=hb;refine ⟨hw,fun u T=>u=v∧T=S',⟨v,S',rfl,rfl⟩,fun _ _ _=>.inr h0,fun Z hZ=>?_,fun u T ⟨e1,e2⟩=>by subst e1 e2;exact ⟨h1,h2⟩⟩;rw [hZ h0,pI];exact .inl ⟨v,S',hr,S',(pI S').symm,rfl,rfl⟩
 have pur:∀ r,jt P (bw I env) S o.op=r→sO o.op=false→QG o.op=false→oh next r o.dst env S→(sO o.op=false∧∃ v,(∀ S',Kept L S0 S'→jt P (bw I env) S' o.op=some (v,S'))∧next (dD env o.dst v) S):=by
  intro r hr hw hl hb;cases r with
  | none=>exact hb.elim
  | some p =>
   obtain ⟨v,S'⟩:=p;exact ⟨hw,v,fun S2 _=>OV hw hl hr S2,hb⟩
 have kk:∀ S',Kept L S0 S'→∀ i,xW L i→S'.boxes[i]? = S.boxes[i]?:=fun S' h' i hi=>by
  obtain ⟨vs,hv⟩:=hL.get i hi;rw [h' i hi vs hv,hS i hi vs hv]
 generalize ho:o.op=op at *;cases op with
 | load t a =>
  right;obtain ⟨r,hr⟩:=aV (jt P (bw I env) S (.load t a));have h:zY L (bw I env a) next (jt P (bw I env) S (.load t a)) o.dst env S:=h
  rw [hr] at h;cases r with
  | none=>exact h.elim
  | some p=>exact ⟨rfl,p.1,fun S2 h2=>Xv h.1 (kk S2 h2) hr,h.2⟩
 | lookup t m k ok =>
  right;obtain ⟨r,hr⟩:=aV (jt P (bw I env) S (.lookup t m k ok));have h:zY L (bw I env m) next (jt P (bw I env) S (.lookup t m k ok)) o.dst env S:=h
  rw [hr] at h;cases r with
  | none=>exact h.elim
  | some p=>exact ⟨rfl,p.1,fun S2 h2=>Xw h.1 (kk S2 h2) hr,h.2⟩
 | store t a x=>exact .inl (bind _ rfl rfl h)
 | alloc t=>exact .inl (bind _ rfl rfl h)
 | box t x=>exact .inl (bind _ rfl rfl h)
 | makeMap t r=>exact .inl (bind _ rfl rfl h)
 | mapUpdate t m k x=>exact .inl (bind _ rfl rfl h)
 | call c =>
  unfold xE at h;dsimp only at h
  split at h
  ·rename_i f hf;left;unfold Cp at h
   split at h
   ·rename_i g first caps hg
    obtain ⟨Q,h1,h0,h2,h3⟩:=h;exact ⟨by simp [sO,hf],Q,h1,h0,fun Z hZ=>.inr (.inl ⟨c,f,g,first,caps,ho,hf,hg,h2 Z hZ⟩),h3⟩
   ·exact h.elim
  ·rename_i hf;rcases h with ⟨Q,h1,h2,h3,h4⟩ | h
   ·refine .inl ⟨by simp [sO,hf],Q,h1,fun _ _ _=>.inr h2,fun Z hZ=>?_,h4⟩;rw [hZ h2,pI];refine .inr (.inr fun c w ev r1 r2 r3=>?_);obtain ⟨x,w',c',v,S',k1,k2,k3⟩:=h3 o ho c w ev r1 r2 r3;exact ⟨x,w',c',v,S',k1,⟨S',(pI S').symm,k2⟩,k3⟩
   ·exact .inl (bind _ rfl (by simp [sO,hf]) h)
  ·rename_i hf;exact .inl (bind _ rfl (by simp [sO,hf]) h)
  ·rename_i h1 h2 h3;refine .inr (pur _ rfl ?_ rfl h);unfold sO;dsimp only
   split
   ·rename_i f hf;exact (h1 f hf).elim
   ·rename_i hf;exact (h2 hf).elim
   ·rename_i hf;exact (h3 hf).elim
   ·rfl
 | _=>exact .inr (pur _ rfl rfl rfl h)
theorem abB {k:Nat} {o:Oper} (h:ops[k]? = some o) (ha:uG A k=false):(QH A ops).contains k=sO o.op:=by
 have hk:=(bD.1 h).1;rw [dQ,bZ];unfold QH;rw [rM,sR];have:fG ops k=o:=by unfold fG;rw [h]
 rw [this,ha,aO,gU];exact ⟨fun h=>h.2,fun h=>⟨hk,h⟩⟩
theorem xF (hL:wJ L S0) {K':nL} (hK:∀ env S,K env S→K' env S):∀ (l:List Oper) (k:Nat) (env:List V) (S:Mem),(∀ j o,l[j]? = some o→ops[k+j]? = some o)→Kept L S0 S→tZ P I ops A L S0 K k l env S→QI P I ops A (QH A ops) (Kept L S0) K' l k env S
 | [],_,_,_,_,hS,h=>⟨hS,hK _ _ h.2⟩
 | o :: l,k,env,S,hl,hS,h=>by
  have h0:ops[k]? = some o:=hl 0 o rfl
  have Cd:∀ j o,l[j]? = some o→ops[k+1+j]? = some o:=fun j o h=>by
   have:=hl (j+1) o (by simpa using h)
   rwa [fD,nE 1 j]
  have h:orX (uG A k) (tZ P I ops A L S0 K (k+1) l env S) (gX P I A L S0 (tZ P I ops A L S0 K (k+1) l) (OQ env ops o) o.op o.dst env S):=h;cases ha:uG A k with
  | true =>
   rw [ha] at h;exact ⟨fun _=>xF hL hK l (k+1) _ S Cd hS h,fun hc=>by rw [ha] at hc;cases hc⟩
  | false =>
   rw [ha] at h;refine ⟨fun hc=>(by rw [ha] at hc;cases hc),fun _=>?_⟩;have hw:=abB h0 ha;have h:gX P I A L S0 (tZ P I ops A L S0 K (k+1) l) (OQ env ops o) o.op o.dst env S:=h;unfold gX at h
   split at h
   ·rename_i hg;rcases abA hL hS h with ⟨Bm,Q,h1,h4,h2,h3⟩ | ⟨Bm,v,h2,h3⟩
    ·refine ⟨fun _=>⟨hS,Q,h1,h4,.inl ⟨OY hg,h2⟩,fun v S' hQ=>?_⟩,fun hc=>absurd (hc.symm.trans (hw.trans Bm)) bH⟩;obtain ⟨q1,q2⟩:=h3 v S' hQ;exact xF hL hK l (k+1) _ S' Cd q1.kept q2
    ·exact ⟨fun hc=>absurd (hc.symm.trans (hw.trans Bm)) bH,fun _=>⟨v,.inl ⟨OY hg,h2⟩,xF hL hK l (k+1) _ S Cd hS h3⟩⟩
   ·rename_i hg;have hn:=xF hL hK l (k+1) _ S Cd hS h;exact ⟨fun _=>⟨hS,fun u T=>u = .fZ []∧T=S,⟨_,_,rfl,rfl⟩,(fun u T hq=>.inl (by rw [hq.2])),.inr ⟨TJ hg,rfl,rfl⟩,fun u T ⟨e1,e2⟩=>by subst e1 e2;exact hn⟩,fun _=>⟨_,.inr ⟨TJ hg,rfl⟩,hn⟩⟩
   ·exact h.elim
theorem Nc {W:List Nat} {MM:Mem→Prop} {K:nL}:∀ (l:List Oper) (k:Nat) (env:List V) (S:Mem),QI P I ops [] W MM K l k env S→Il P I ops W MM K l k env S
 | [],_,_,_,h=>h
 | o :: l,k,env,S,h=>by
  refine ⟨fun hw=>?_,fun hw=>?_⟩
  ·obtain ⟨hS,Q,h1,_,h2,h3⟩:=(h.2 rfl).1 hw;refine ⟨hS,Q,h1,?_,fun v S' hQ=>Nc l _ _ _ (h3 v S' hQ)⟩;rcases h2 with ⟨a,b⟩ | h2
   ·refine .inl ⟨a,?_⟩;have:=b [] fun _=>rfl;rw [pI] at this;rcases this with ⟨v,T,h5,S',rfl,h6⟩ | ⟨q,f,g,first,caps,h5,h6,h7,h8⟩ | h5
    ·rw [pI] at h5;exact .inl ⟨v,S',h5,h6⟩
    ·exact .inr (.inl ⟨q,f,g,first,caps,h5,h6,h7,h8.mono fun v T ⟨S',e,hq⟩=>by rw [pI] at e;subst e;exact hq⟩)
    ·refine .inr (.inr fun c w ev q1 q2 q3=>?_);obtain ⟨x,w',c',v,T,r1,⟨S',e,hq⟩,r2⟩:=h5 c w ev q1 q2 q3;rw [pI] at e;subst e;exact ⟨x,w',c',v,T,r1,hq,r2⟩
   ·exact .inr h2
  ·obtain ⟨v,h2,h3⟩:=(h.2 rfl).2 hw;exact ⟨v,h2,Nc l _ _ _ h3⟩
theorem Nd {W W':List Nat} {MM:Mem→Prop} {K:nL}:∀ (l:List Oper) (k:Nat) (env:List V) (S:Mem),(∀ j,k≤j→W.contains j=W'.contains j)→Il P I ops W MM K l k env S→Il P I ops W' MM K l k env S
 | [],_,_,_,_,h=>h
 | o :: l,k,env,S,hW,h=>by
  refine ⟨fun hw=>?_,fun hw=>?_⟩
  ·obtain ⟨hS,Q,h1,h2,h3⟩:=h.1 ((hW k (aA _)).trans hw);exact ⟨hS,Q,h1,h2,fun v S' hQ=>Nd l _ _ _ (fun j hj=>hW j ak) (h3 v S' hQ)⟩
  ·obtain ⟨v,h2,h3⟩:=h.2 ((hW k (aA _)).trans hw);exact ⟨v,h2,Nd l _ _ _ (fun j hj=>hW j ak) h3⟩
end
theorem az.Z8 {P:Program} {I:Inv} {z:Nat × Nat} {fn:FuncId} {k:List Item} {R:V→Mem→Prop} {ops:Array Oper} {id:Nat} {env:List V} {S:Mem} (p:Nat) (A L:List Nat) (hm:P.follows .mixedOrders=true) (hB:Region.lexB .any ops=true) (hW:Ik ops (QH A ops)=true) (hs:Iu ops A p=true) (hp:Nat.ble p ops.size=true) (hA:okA P ops A p=true) (hc:Nat.beq (Kk A 0 p+A.length) p=true)
 (h:wJ L S∧tZ P I ops A L S (fun env S1=>zZ A fun done=>tZ P I ops [] [] (sP S1 (done.map (zA P ops))) (fun env S=>az P I z fn k env S R) p (ops.toList.drop p) (nS ops S1.boxes.length done env) (sP S1 (done.map (zA P ops)))) 0 (ops.toList.take p) env S):az P I z fn (.code (.region id ops true) :: k) env S R:=by
 obtain ⟨hL,h⟩:=h;intro b a c w c0 w0 h1 h2 h3 h4 h5 h6 hI cs;have hp:=cm hp;have hOk:=abv hA;have hc:=mX hc;have hd:Below w.heap.size w { w with drawn:=w.drawn+1 }:=⟨rfl,rfl,rfl,aA _,fun _ _=>rfl⟩;obtain ⟨r1,r2⟩:=h5.under hd;simp only [Region.lexB,aF] at hB;simp only [Ik,aF] at hW;have bu:(ops.toList.take p).length=p:=fk;have hld:(ops.toList.drop p).length=ops.size - p:=dM
 have Wt:Region.lexFrom .any ops ((ops.toList.take p).length+(ops.size - p)) 0 (Array.replicate ops.size false)=true:=by
  rw [bu,Nat.add_sub_cancel' hp]
  simpa using hB.2
 have nU:∀ j,p≤j→uG A j=false:=fun j hj=>by
  cases hx:uG A j with
  | false=>rfl
  | true=>have:=hOk.lt j (qX.1 hx);omega
 let la:Array Bool:=((List.range ops.size).map (uG A)).toArray
 have Bl:la.size=ops.size:=by simp [la]
 have Xt:∀ j,j < ops.size→la.getD j true=uG A j:=fun j hj=>by simp [la,hj]
 have hD:=xF (ops:=ops) hL (K':=fun env S1=>zZ A fun done=>Il P I ops (QH A ops) (fun _=>True) (fun env S=>az P I z fn k env S R) (ops.toList.drop p) p (nS ops S1.boxes.length done env) (sP S1 (done.map (zA P ops)))) (fun env S1 hq=>by
  have step:∀ done:List Nat,tZ P I ops [] [] (sP S1 (done.map (zA P ops))) (fun env S=>az P I z fn k env S R) p (ops.toList.drop p) (nS ops S1.boxes.length done env) (sP S1 (done.map (zA P ops)))→Il P I ops (QH A ops) (fun _=>True) (fun env S=>az P I z fn k env S R) (ops.toList.drop p) p (nS ops S1.boxes.length done env) (sP S1 (done.map (zA P ops))):=by
   intro done hq
   have e:(fun _:Mem=>True)=Kept [] (sP S1 (done.map (zA P ops))):=by
    funext S'
    exact propext ⟨fun _ _ h=>h.elim,fun _=>trivial⟩
   rw [e];have:=Nc _ p _ _ (xF (A:=[]) (L:=[]) trivial (fun _ _ h=>h) _ p _ _ (fun j o hj=>by simpa using hj) (fun _ h=>h.elim) hq);refine Nd _ p _ _ (fun j hj=>?_) this;rw [dQ,bZ,bZ];unfold QH;rw [rM,rM,nU j hj];rfl
  revert hq
  unfold zZ
  split
  ·exact step _
  ·exact step _
  ·exact fun hq=>⟨step _ hq.1,step _ hq.2⟩
  ·exact fun hq d hd=>step d (hq d hd)) _ 0 env S (fun j o hj=>by
   rw [bp] at hj
   split at hj
   ·simpa using hj
   ·cases hj) (fun _ _ _ hv=>hv) h
 have zO:=zX (P:=P) (I:=I) (MM:=Kept L S) (W:=QH A ops) (A:=A)
  (K:=fun la env S1=>(∀ j,j < ops.size→la.getD j true=decide (j < p))∧Region.lexFrom .any ops (ops.size - p) p la=true∧zZ A fun done=>Il P I ops (QH A ops) (fun _=>True) (fun env S=>az P I z fn k env S R) (ops.toList.drop p) p (nS ops S1.boxes.length done env) (sP S1 (done.map (zA P ops))))
  (fun x o hx ho=>by
   obtain ⟨o',Z7,_,_,Fx⟩:=hOk.op x (qX.1 hx);rw [ho] at Z7;obtain rfl:=ag Z7;exact Fx) hp hW.1 hW.2 (ops.size - p) (fun la env S1 jS Xt hlx hq=>by
   have hj:∀ j,j < ops.size→la.getD j true=decide (j < p):=fun j hj=>by
    rw [Xt j hj]
    by_cases Wr:j < p
    ·rw [ah Wr,gq]
    ·rw [nU j ak,mS]
   exact ⟨hj,hlx la jS hj,hq⟩) (ops.toList.take p) 0 (Array.replicate ops.size false) la env S (fun j hj=>by rw [bu] at hj;simp [hj]) (by rw [bu,bf]) dM Bl (fun j hj=>by simp [hj]) (fun j hj=>by rw [Xt j hj];simp) Wt hD
 have tD:∀ j∈A,(Array.replicate ops.size false).getD j true=false:=fun j hj=>by
  have h8:j < ops.size:=by have:=hOk.lt j hj;omega
  simp [h8]
 have TG:TC ops:=fun q hq=>D0 ops.size 0 (Array.replicate ops.size false) dM (fun j hj=>by simp [hj]) (by simpa using hB.2) q (Nat.zero_le _) ak hq
 have Z6:∀ i o,ops[i]? = some o→(QH A ops).contains i=true→sO o.op=true:=fun i o ho hw=>by
  have hw:=bZ.1 hw;unfold QH at hw;rw [rM] at hw;have e:fG ops i=o:=by unfold fG;rw [ho]
  rw [e,aF] at hw;exact hw.2.1
 have eI:=D3 (fn:=fn) (k:=k) (R:=R) (z:=z) (MM:=Kept L S) (rest:=ops.size - p) (QJ hs) TG Z6 hp hOk (fun S' Z h=>Kept.sP h Z) (fun la env S1 jS hq done hdp=>by
  have hC:=TH hq.2.2 done hdp;have h7:=DW hW.1 hW.2 (ops.toList.drop p) p la _ _ (fun j=>dM) hq.1 (by rw [hld];exact hq.2.1) hC;rw [hld] at h7;exact h7) _ _ _ rfl (w.tape w.drawn (.order b.fn id)) la (Array.replicate ops.size false) env S [] A zO (List.Perm.refl _) rfl dM Bl (fun j hj=>by rw [Xt j hj];simp [hj]) tD (fun j o ho hl=>by
  have h8:=(bD.1 ho).1;simp [h8] at hl) (fun j hj=>absurd hj aT)
 rw [bu,hc,Nat.add_sub_cancel' hp] at eI;rw [show (List.map (zA P ops) ([]:List Nat))=[] from rfl,pI] at eI;obtain ⟨e,w',fr,g1,g2,g3⟩:=eI b a c _ c0 w0 h1 h2 h3 (h4.ext r2) r1 (h6.trans r2) ⟨r2.I.trans hI.1,hI.2⟩ cs;refine ⟨e,w',fr,g1,.of_steps (.one ?_) g2,g3⟩;have:=step_region_draw (P:=P) (b:=b) (a:=a) (k:=k) (cs:=cs) (w:=w) (ops:=ops) (id:=id);rw [this];simp only [Region.schedule,hm,gq,gj,Region.linearise]
theorem dj {P:Program} {I:Inv} {z:Nat × Nat} {fn:FuncId} {k:List Item} {R:V→Mem→Prop} {ops:Array Oper} {id:Nat} {env:List V} {S:Mem} (p:Nat) (A L:List Nat) (h:wJ L S∧tZ P I ops A L S (fun env S1=>zZ A fun done=>tZ P I ops [] [] (sP S1 (done.map (zA P ops))) (fun env S=>az P I z fn k env S R) p (ops.toList.drop p) (nS ops S1.boxes.length done env) (sP S1 (done.map (zA P ops)))) 0 (ops.toList.take p) env S) (hm:P.follows .mixedOrders=true:=by kernel_rfl) (hB:Region.lexB .any ops=true:=by kernel_rfl) (hW:Ik ops (QH A ops)=true:=by kernel_rfl) (hs:Iu ops A p=true:=by kernel_rfl) (hp:Nat.ble p ops.size=true:=by kernel_rfl) (hA:okA P ops A p=true:=by kernel_rfl) (hc:Nat.beq (Kk A 0 p+A.length) p=true:=by kernel_rfl):az P I z fn (.code (.region id ops true) :: k) env S R:=az.Z8 p A L hm hB hW hs hp hA hc h
section
variable {P:Program} {I:Inv} {ops:Array Oper} {A L:List Nat} {S0:Mem} {next:nL} {d:Option Tmp} {env:List V} {S:Mem}
theorem Km (K:nL) (k:Nat):tZ P I ops A L S0 K k [] env S=(kR L S0 S∧K env S):=by cases k<;>rfl
theorem BE (K:nL) (k:Nat) (o:Oper) (l:List Oper):tZ P I ops A L S0 K k (o :: l) env S=orX (uG A k) (tZ P I ops A L S0 K (k+1) l env S) (gX P I A L S0 (tZ P I ops A L S0 K (k+1) l) (OQ env ops o) o.op o.dst env S):=rfl
theorem Xx (K:nL) (k:Nat) (o:Oper) (l:List Oper) (h:uG A k=true):tZ P I ops A L S0 K k (o :: l) env S=tZ P I ops A L S0 K (k+1) l env S:=by rw [BE,h];rfl
theorem Xy (K:nL) (k:Nat) (o:Oper) (l:List Oper) (h:uG A k=false):tZ P I ops A L S0 K k (o :: l) env S=gX P I A L S0 (tZ P I ops A L S0 K (k+1) l) (OQ env ops o) o.op o.dst env S:=by rw [BE,h];rfl
theorem Z9 (p q:Prop):orX true p q=p:=rfl
theorem ae0 (p q:Prop):orX false p q=q:=rfl
theorem Xz (k:Nat):uG [] k=false:=rfl
theorem TK (a k:Nat) (l:List Nat):uG (a :: l) k=((a == k) || uG l k):=rfl
theorem TL (N:Nat):nS ops N [] env=env:=rfl
theorem QL (N a:Nat) (l:List Nat):nS ops N (a :: l) env=nS ops (N+1) l (dD env (fG ops a).dst (M8 ops a N)):=rfl
theorem TM (B Z:bQ) (T:eg):sP ⟨B,T⟩ Z=⟨B++Z,T⟩:=rfl
theorem OZ (f:List Nat→Prop):zZ [] f=f []:=rfl
theorem O0 (a:Nat) (f:List Nat→Prop):zZ [a] f=f [a]:=rfl
theorem XA (a b:Nat) (f:List Nat→Prop):zZ [a,b] f=(f [a,b]∧f [b,a]):=rfl
theorem Gs (S:Mem):wJ [] S=True:=rfl
theorem D4 (x:Nat) (l:List Nat) (S:Mem):wJ (x :: l) S=((S.boxes[x]?).isSome=true∧wJ l S):=rfl
theorem TN (op:Op):gX P I A L S0 next (.d (.bool true)) op d env S=xE P I A L S0 next op d env S:=rfl
theorem aaa (op:Op):gX P I A L S0 next (.d (.bool false)) op d env S=next (dD env d (.fZ [])) S:=rfl
theorem abC (t:Bool):MW (.d (.bool t)) true = .d (.bool t):=by cases t<;>rfl
theorem abD (t:Bool):MW (.d (.bool t)) false = .d (.bool (!t)):=by cases t<;>rfl
theorem abE (w:Bool):MW (.fZ []) w = .d (.bool false):=rfl
theorem D5 (v:V) (S':Mem):ri A L S0 next (some (v,S')) d env=(A=[]∧kR L S0 S'∧next (dD env d v) S'):=rfl
theorem D6 (v:V) (S':Mem):oh next (some (v,S')) d env S=next (dD env d v) S:=rfl
theorem Nf (a v:V) (S':Mem):zY L a next (some (v,S')) d env S=(Nb L a∧next (dD env d v) S):=rfl
theorem TO (x:Operand):xE P I A L S0 next (.move x) d env S=next (dD env d (bw I env x)) S:=rfl
theorem Ng (x:Operand):xE P I A L S0 next (.assign x) d env S=next (dD env d (bw I env x)) S:=rfl
theorem TP (a b c:Operand):xE P I A L S0 next (.pick a b c) d env S=oh next (jt P (bw I env) S (.pick a b c)) d env S:=rfl
theorem Iv (a:Operand):xE P I A L S0 next (.nilCheck a) d env S=oh next (jt P (bw I env) S (.nilCheck a)) d env S:=rfl
theorem FK (t:TypeId) (a:Operand) (f:Nat):xE P I A L S0 next (.fieldAddr t a f) d env S=oh next (jt P (bw I env) S (.fieldAddr t a f)) d env S:=rfl
theorem QM (t:TypeId) (a:Operand) (f:Nat):xE P I A L S0 next (.field t a f) d env S=oh next (jt P (bw I env) S (.field t a f)) d env S:=rfl
theorem FL (t:TypeId) (a b:Operand):xE P I A L S0 next (.indexAddr t a b) d env S=oh next (jt P (bw I env) S (.indexAddr t a b)) d env S:=rfl
theorem QN (t:TypeId) (a b:Operand):xE P I A L S0 next (.index t a b) d env S=oh next (jt P (bw I env) S (.index t a b)) d env S:=rfl
theorem Kn (a:Operand) (i:Nat):xE P I A L S0 next (.extract a i) d env S=oh next (jt P (bw I env) S (.extract a i)) d env S:=rfl
theorem QO (o:BinOp) (t:TypeId) (a b:Operand) (u:TypeId):xE P I A L S0 next (.binOp o t a b u) d env S=oh next (jt P (bw I env) S (.binOp o t a b u)) d env S:=rfl
theorem TQ (o:UnOp) (t:TypeId) (a:Operand):xE P I A L S0 next (.unOp o t a) d env S=oh next (jt P (bw I env) S (.unOp o t a)) d env S:=rfl
theorem Ko (t u:TypeId) (a:Operand):xE P I A L S0 next (.convert t u a) d env S=oh next (jt P (bw I env) S (.convert t u a)) d env S:=rfl
theorem QS (t:TypeId) (ps:Array (Nat × Operand)):xE P I A L S0 next (.build t ps) d env S=oh next (jt P (bw I env) S (.build t ps)) d env S:=rfl
theorem D7 (t:TypeId) (n:Nat) (ps:Array (Nat × Operand)):xE P I A L S0 next (.buildSlice t n ps) d env S=oh next (jt P (bw I env) S (.buildSlice t n ps)) d env S:=rfl
theorem QT (t:TypeId) (a:Operand) (l h m:Option Operand):xE P I A L S0 next (.slice t a l h m) d env S=oh next (jt P (bw I env) S (.slice t a l h m)) d env S:=rfl
theorem Iw (f:Fn) (a b:Array Operand):xE P I A L S0 next (.makeFunc f a b) d env S=oh next (jt P (bw I env) S (.makeFunc f a b)) d env S:=rfl
theorem TR (t:TypeId) (a:Operand):xE P I A L S0 next (.load t a) d env S=zY L (bw I env a) next (jt P (bw I env) S (.load t a)) d env S:=rfl
theorem Nh (t:TypeId) (m k:Operand) (ok:Bool):xE P I A L S0 next (.lookup t m k ok) d env S=zY L (bw I env m) next (jt P (bw I env) S (.lookup t m k ok)) d env S:=rfl
theorem QU (t:TypeId) (a x:Operand):xE P I A L S0 next (.store t a x) d env S=ri A L S0 next (jt P (bw I env) S (.store t a x)) d env:=rfl
theorem QV (t:TypeId):xE P I A L S0 next (.alloc t) d env S=ri A L S0 next (jt P (bw I env) S (.alloc t)) d env:=rfl
theorem XB (t:TypeId) (x:Operand):xE P I A L S0 next (.box t x) d env S=ri A L S0 next (jt P (bw I env) S (.box t x)) d env:=rfl
theorem Kp (t:TypeId) (r:Option Operand):xE P I A L S0 next (.makeMap t r) d env S=ri A L S0 next (jt P (bw I env) S (.makeMap t r)) d env:=rfl
theorem FM (t:TypeId) (m k x:Operand):xE P I A L S0 next (.mapUpdate t m k x) d env S=ri A L S0 next (jt P (bw I env) S (.mapUpdate t m k x)) d env:=rfl
theorem TS (f:Operand) (aa:Array Operand) (ts:Array TypeId):xE P I A L S0 next (.call ⟨.value f,aa,ts⟩) d env S=Cp P I A L S0 next (bw I env f) (aa.toList.map (bw I env)) d env S:=rfl
theorem Nj (aa:Array Operand) (ts:Array TypeId):xE P I A L S0 next (.call ⟨.builtin .append,aa,ts⟩) d env S=(abz P I A L S0 next (.call ⟨.builtin .append,aa,ts⟩) d env S∨ri A L S0 next (jV P (bw I env) S ⟨.builtin .append,aa,ts⟩) d env):=rfl
theorem Nk (aa:Array Operand) (ts:Array TypeId):xE P I A L S0 next (.call ⟨.builtin .delete,aa,ts⟩) d env S=ri A L S0 next (jV P (bw I env) S ⟨.builtin .delete,aa,ts⟩) d env:=rfl
theorem XC (aa:Array Operand) (ts:Array TypeId):xE P I A L S0 next (.call ⟨.builtin .len,aa,ts⟩) d env S=oh next (jV P (bw I env) S ⟨.builtin .len,aa,ts⟩) d env S:=rfl
theorem TT (i k:Nat):Nb L (.ptr i k)=xW L i:=rfl
theorem XD (i:Nat):Nb L (.mp i)=xW L i:=rfl
theorem QW (r:List D) (k:Nat):Nb L (.nc r k)=True:=rfl
theorem TU (i:Nat):xW [] i=False:=rfl
theorem QX (x i:Nat) (l:List Nat):xW (x :: l) i=(x=i∨xW l i):=rfl
theorem xG (S S':Mem):kR [] S S' = True:=rfl
theorem D8 (x:Nat) (l:List Nat) (S S':Mem):kR (x :: l) S S' = (S'.boxes[x]? = S.boxes[x]?∧kR l S S'):=rfl
theorem Nl (L:List Nat) (S:Mem):kR L S S=True:=eq_true (sQ S L)
theorem QY {so xo:Operand} {ts us e:TypeId} {ti te ui:zI} {s x:V} {r:List D} {B:bQ} {T:eg} (o9:eT P ts=some ti) (he:ti.d = .slice e) (sq:eT P e=some te) (HZ:eT P us=some ui) (Gk:∃ k,ui.d = .slice k) (h0:0 < te.size) (hb:te.bytes≤100000) (Bg:bw I env so=s) (hex:bw I env xo=x) (hs:M7 te.size B s) (hd:uw x=some (.sl [r])) (hr:r.length=te.size)
 (hk:∀ v S',Iq te.size B T s r v S'→kR L S0 S'∧next (dD env d v) S'):abz P I [] L S0 next (.call ⟨.builtin .append,#[so,xo],#[ts,us]⟩) d env ⟨B,T⟩ :=
 ⟨_,Iq.ex T r hs,rfl,fun _ ho=>uD.abt ho o9 he sq HZ Gk h0 Bg hex hs hd hr hb,hk⟩
theorem bK {g:FuncId} {first caps args:List V} {v:V} (h:∀ Z,cy P I g (first++args++caps) (sP S Z) fun r T=>r=v∧T=sP S Z) (hk:kR L S0 S∧next (dD env d v) S):Cp P I A L S0 next (.func g first caps) args d env S :=
 ⟨fun u T=>u=v∧T=S,⟨v,S,rfl,rfl⟩,fun u T hq=>.inl (by rw [hq.2]),fun Z _=>(h Z).mono fun r T hq=>⟨S,hq.2,hq.1,rfl⟩,fun u T ⟨e1,e2⟩=>by subst e1 e2;exact hk⟩
theorem iW {g:FuncId} {first caps args:List V} {Q:V→Prop} (gW:∃ v,Q v) (h:∀ Z,cy P I g (first++args++caps) (sP S Z) fun r T=>Q r∧T=sP S Z) (hk:∀ v,Q v→kR L S0 S∧next (dD env d v) S):Cp P I A L S0 next (.func g first caps) args d env S:=by
 obtain ⟨v,hv⟩:=gW;exact ⟨fun u T=>Q u∧T=S,⟨v,S,hv,rfl⟩,fun u T hq=>.inl (by rw [hq.2]),fun Z _=>(h Z).mono fun r T hq=>⟨S,hq.2,hq.1,rfl⟩,fun u T ⟨e1,e2⟩=>by subst e2;exact hk u e1⟩
theorem TV {g:FuncId} {first caps args:List V} {Q:V→Mem→Prop} (gW:∃ v S',Q v S') (hl:∀ v S',Q v S'→S'.boxes.length=S.boxes.length) (h:∀ Z,cy P I g (first++args++caps) (sP S Z) fun v T=>∃ S',T=sP S' Z∧Q v S') (hk:∀ v S',Q v S'→kR L S0 S'∧next (dD env d v) S'):Cp P I A L S0 next (.func g first caps) args d env S :=
 ⟨Q,gW,fun v S' hq=>.inl (hl v S' hq),fun Z _=>h Z,hk⟩
theorem iO {g:FuncId} {first caps args:List V} {Q:V→Mem→Prop} (gW:∃ v S',Q v S') (h:cy P I g (first++args++caps) S Q) (hk:∀ v S',Q v S'→kR L S0 S'∧next (dD env d v) S'):Cp P I [] L S0 next (.func g first caps) args d env S :=
 ⟨Q,gW,fun v S' hq=>.inr rfl,fun Z hZ=>by rw [hZ rfl,pI];exact h.mono fun v S' hq=>⟨S',(pI S').symm,hq⟩,hk⟩
end
set_option linter.defProp false in
def xw:=And.intro @Km (And.intro @Xx (And.intro @Xy (And.intro @Z9 (And.intro @Xz (And.intro @TK (And.intro @TL (And.intro @QL (And.intro @TM (And.intro @OZ (And.intro @O0 (And.intro @XA (And.intro @Gs (And.intro @D4 (And.intro @TN (And.intro @aaa (And.intro @abC (And.intro @abD (And.intro @Bool.not_true (And.intro @Bool.not_false (And.intro @abE (And.intro @D5 (And.intro @D6 (And.intro @Nf (And.intro @TO (And.intro @Ng (And.intro @TP (And.intro @Iv (And.intro @FK (And.intro @QM (And.intro @FL (And.intro @QN (And.intro @Kn (And.intro @QO (And.intro @TQ (And.intro @Ko (And.intro @QS (And.intro @D7 (And.intro @QT (And.intro @Iw (And.intro @TR (And.intro @Nh (And.intro @QU (And.intro @QV (And.intro @XB (And.intro @Kp (And.intro @FM (And.intro @TS (And.intro @Nj (And.intro @Nk (And.intro @XC (And.intro @TT (And.intro @XD (And.intro @QW (And.intro @TU (And.intro @QX (And.intro @xG (And.intro @Nl (And.intro @D8 (And.intro @M8.eq_1 (And.intro @zA.eq_1 (And.intro @or_true (And.intro @true_or (And.intro @true_and (And.intro @and_true (And.intro @and_self (And.intro @Option.isSome_some.{0} (And.intro @Bool.or_false (And.intro @Bool.false_or (And.intro @Bool.true_or (And.intro @Bool.or_true (And.intro @List.length_append.{0} (And.intro @List.length_cons.{0} (And.intro @List.length_nil.{0} (And.intro @List.append_assoc.{0} (And.intro @List.cons_append.{0} (And.intro @List.nil_append.{0} (And.intro @List.drop_succ_cons.{0} (And.intro @List.drop_zero.{0} (And.intro @List.take_succ_cons.{0} (And.intro @List.take_zero.{0} (And.intro @List.map_cons.{0,0} @List.map_nil.{0,0})))))))))))))))))))))))))))))))))))))))))))))))))))))))))))))))))))))))))))))))))
abbrev zy:=FuncId→List Item→List V→Mem→Option (V × Mem)
def O1 (P:Program) (fn:FuncId) (env:List V) (S:Mem):Option (V × Mem) :=
 match P.funcs[fn]? with
 | some f=>match DN P S env f.results.toList with
  | some v=>some (v,S)
  | none=>none
 | none=>none
def Ix (S:Mem) (v:V) (S':Mem):V × Mem :=
 match fit S.boxes.length S'.dG.length v && (S'.boxes.take S.boxes.length).all (fun vs=>vs.all (fit S.boxes.length S.dG.length)) && Nat.ble S.boxes.length S'.boxes.length && Nat.ble S.dG.length S'.dG.length with
 | true=>(wk S.boxes.length S.dG.length v,⟨S'.boxes.take S.boxes.length,S'.dG.take S.dG.length⟩)
 | false=>(v,S')
def ae1 (run:zy) (g:FuncId) (body:Code) (init:List V) (S:Mem):Option (V × Mem) :=
 match run g [.code body] init S with
 | some (v,S')=>some (Ix S v S')
 | none=>none
def D9 (P:Program) (kB:FuncId→List V→Option V) (run:zy) (g:FuncId) (args:List V):Option V :=
 match P.funcs[g]? with
 | some f=>match f.body with
  | some body=>match kB g args with
   | some v=>some (wk 0 0 v)
   | none=>match run g [.code body] (args++List.replicate (f.ntmps - args.length) .undef) ⟨[],[]⟩ with
    | some (v,S0)=>match fit 0 S0.dG.length v with
     | true=>some (wk 0 0 v)
     | false=>none
    | none=>none
  | none=>none
 | none=>none
def O2 (P:Program) (run:zy) (g:FuncId) (args:List V) (S:Mem):Option (V × Mem) :=
 match P.funcs[g]? with
 | some f=>match f.body with
  | some body=>ae1 run g body (args++List.replicate (f.ntmps - args.length) .undef) S
  | none=>none
 | none=>none
def TX (P:Program) (kB:FuncId→List V→Option V) (run:zy) (g:FuncId) (args:List V) (S:Mem):Option (V × Mem) :=
 match qq 0 0 args with
 | true=>match D9 P kB run g (u7 0 0 args) with
  | some v=>some (v,S)
  | none=>O2 P run g args S
 | false=>O2 P run g args S
def BF (run:zy) (fn:FuncId) (r:Option (V × Mem)) (k:List Item) (d:Option Tmp) (env:List V):Option (V × Mem) :=
 match r with
 | some (v,S)=>run fn k (dD env d v) S
 | none=>none
def Kq (P:Program) (env:List V) (S:Mem) (s:Operand) (t:TypeId):List V × Mem :=
 match s with
 | .tmp q=>match env.getD q .undef with
  | .sl rows .full=>match eT P t with
   | some ti=>match ti.d with
    | .slice e=>match eT P e with
     | some te=>match decide (0 < te.size) && fE te.size rows with
      | true=>(env.set q (.sl rows (.own S.dG.length)),{ S with dG:=S.dG++[(rows.length,te.size)] })
      | false=>(env,S)
     | none=>(env,S)
    | _=>(env,S)
   | none=>(env,S)
  | _=>(env,S)
 | _=>(env,S)
def XE (P:Program) (I:Inv) (kB:FuncId→List V→Option V) (run:zy) (fn:FuncId) (ops:Array Oper) (rest:List Nat) (o:Oper) (k:List Item) (env:List V) (S:Mem):Option (V × Mem) :=
 match o.op with
 | .call q=>match q.callee with
  | .value f=>match bw I env f with
   | .func g first caps=>BF run fn (TX P kB run g (first++q.args.toList.map (bw I env)++caps) S) (.inRegion ops rest :: k) o.dst env
   | _=>none
  | .builtin .append=>match q.args.toList,q.argTypes.toList with
   | [s,_],[t,_]=>match Kq P env S s t with
    | (iI,S')=>BF run fn (jV P (bw I iI) S' q) (.inRegion ops rest :: k) o.dst iI
   | _,_=>none
  | _=>BF run fn (jV P (bw I env) S q) (.inRegion ops rest :: k) o.dst env
 | op=>BF run fn (jt P (bw I env) S op) (.inRegion ops rest :: k) o.dst env
def aab (P:Program) (I:Inv) (kB:FuncId→List V→Option V) (run:zy) (fn:FuncId) (ops:Array Oper) (i:Nat) (rest:List Nat) (k:List Item) (env:List V) (S:Mem):Option (V × Mem) :=
 match ops[i]? with
 | some o=>match o.guard with
  | none=>XE P I kB run fn ops rest o k env S
  | some (j,want)=>match lJ env ops j with
   | .d (.bool t)=>match t == want with
    | true=>XE P I kB run fn ops rest o k env S
    | false=>run fn (.inRegion ops rest :: k) (dD env o.dst (.fZ [])) S
   | .fZ []=>run fn (.inRegion ops rest :: k) (dD env o.dst (.fZ [])) S
   | _=>none
 | none=>none
def Kr:Op→Bool
 | .move _=>true
 | .assign _=>true
 | .pick ..=>true
 | .build ..=>true
 | .load ..=>true
 | .nilCheck _=>true
 | .binOp ..=>true
 | .unOp ..=>true
 | .makeFunc ..=>true
 | .slice ..=>true
 | .fieldAddr ..=>true
 | .indexAddr ..=>true
 | .index ..=>true
 | .extract ..=>true
 | _=>false
def O3 (r:Option (V × Mem)):Option V :=
 match r with
 | some (v,_)=>some v
 | none=>none
def Ks (P:Program) (I:Inv) (kB:FuncId→List V→Option V) (run:zy) (o:Oper) (env:List V) (S:Mem):Option V :=
 match o.op with
 | .call q=>match q.callee with
  | .value f=>match bw I env f with
   | .func g first caps=>match qq 0 0 (first++q.args.toList.map (bw I env)++caps) with
    | true=>D9 P kB run g (u7 0 0 (first++q.args.toList.map (bw I env)++caps))
    | false=>none
   | _=>none
  | .builtin .len=>O3 (jV P (bw I env) S q)
  | _=>none
 | op=>match Kr op with
  | true=>O3 (jt P (bw I env) S op)
  | false=>none
def Cq (P:Program) (I:Inv) (kB:FuncId→List V→Option V) (run:zy) (ops:Array Oper) (S:Mem):List Oper→List V→Option (List V)
 | [],env=>some env
 | o :: l,env=>match o.guard with
  | none=>match Ks P I kB run o env S with
   | some v=>Cq P I kB run ops S l (dD env o.dst v)
   | none=>none
  | some (j,want)=>match lJ env ops j with
   | .d (.bool t)=>match t == want with
    | true=>match Ks P I kB run o env S with
     | some v=>Cq P I kB run ops S l (dD env o.dst v)
     | none=>none
    | false=>Cq P I kB run ops S l (dD env o.dst (.fZ []))
   | .fZ []=>Cq P I kB run ops S l (dD env o.dst (.fZ []))
   | _=>none
mutual
def XF:D→D→Bool
 | .int k n,.int j m=>decide (k=j) && decide (n=m)
 | .bool a,.bool b=>a == b
 | .str a,.str b=>decide (a=b)
 | .sl a,.sl b=>wM a b
 | _,_=>false
def wM:List (List D)→List (List D)→Bool
 | [],[]=>true
 | a :: l,b :: m=>Kt a b && wM l m
 | _,_=>false
def Kt:List D→List D→Bool
 | [],[]=>true
 | a :: l,b :: m=>XF a b && Kt l m
 | _,_=>false
end
mutual
theorem Iy:∀ a b,XF a b=true→a=b
 | .int k n,b,h=>by
  cases b<;>simp [XF] at h;rw [h.1,h.2]
 | .bool k,b,h=>by
  cases b<;>simp [XF] at h;rw [h]
 | .str k,b,h=>by
  cases b<;>simp [XF] at h;rw [h]
 | .sl k,b,h=>by
  cases b<;>simp [XF] at h;rw [uH _ _ h]
theorem uH:∀ a b,wM a b=true→a=b
 | [],b,h=>by
  cases b
  ·rfl
  ·simp [wM] at h
 | x :: l,b,h=>by
  cases b<;>simp [wM] at h;rw [Ku _ _ h.1,uH _ _ h.2]
theorem Ku:∀ a b,Kt a b=true→a=b
 | [],b,h=>by
  cases b
  ·rfl
  ·simp [Kt] at h
 | x :: l,b,h=>by
  cases b<;>simp [Kt] at h;rw [Iy _ _ h.1,Ku _ _ h.2]
end
def eqV:V→V→Bool
 | .undef,.undef=>true
 | .d a,.d b=>XF a b
 | .sl a .full,.sl b .full=>wM a b
 | .sl a (.own t),.sl b (.own u)=>wM a b && decide (t=u)
 | .ptr i k,.ptr j l=>decide (i=j) && decide (k=l)
 | .oU,.oU=>true
 | _,_=>false
theorem abF {a b:V} (h:eqV a b=true):a=b:=by
 unfold eqV at h
 split at h
 ·rfl
 ·rw [Iy _ _ h]
 ·rw [uH _ _ h]
 ·rw [aF,aZ] at h;rw [uH _ _ h.1,h.2]
 ·rw [aF,aZ,aZ] at h;rw [h.1,h.2]
 ·rfl
 ·cases h
def XG:List V→List V→Bool
 | [],[]=>true
 | a :: l,b :: m=>eqV a b && XG l m
 | _,_=>false
theorem O4:∀ {a b:List V},XG a b=true→a=b
 | [],[],_=>rfl
 | a :: l,b :: m,h=>by
  rw [XG,aF] at h;rw [abF h.1,O4 h.2]
def eqC:Option (List V)→Option (List V)→Bool
 | some a,some b=>XG a b
 | none,none=>true
 | _,_=>false
theorem abG {a b:Option (List V)} (h:eqC a b=true):a=b:=by
 unfold eqC at h
 split at h
 ·rw [O4 h]
 ·rfl
 ·cases h
def O5:List Nat→Mem→Mem→Bool
 | [],_,_=>true
 | i :: l,S,S'=>eqC S'.boxes[i]? S.boxes[i]? && O5 l S S'
theorem Kv {S S':Mem}:∀ {L:List Nat},O5 L S S' = true→kR L S S'
 | [],_=>by rw [xG];trivial
 | i :: l,h=>by
  rw [O5,aF] at h;rw [D8];exact ⟨abG h.1,Kv h.2⟩
def O6:List Nat→Mem→Bool
 | [],_=>true
 | i :: l,S=>(S.boxes[i]?).isSome && O6 l S
theorem Kw {S:Mem}:∀ {L:List Nat},O6 L S=true→wJ L S
 | [],_=>by rw [Gs];trivial
 | i :: l,h=>by
  rw [O6,aF] at h;rw [D4];exact ⟨h.1,Kw h.2⟩
theorem Ky {i:Nat}:∀ {L:List Nat},i∈L→xW L i
 | x :: l,h=>by
  rcases bB.1 h with rfl | h
  ·exact .inl rfl
  ·exact .inr (Ky h)
def ldN:V→List Nat
 | .ptr i _=>[i]
 | .mp i=>[i]
 | _=>[]
def XH (A:List Nat) (r:Option (V × Mem)):Option (V × Mem × Bool × List Nat) :=
 match A with
 | []=>match r with
  | some (v,S')=>some (v,S',true,[])
  | none=>none
 | _=>none
def ewP (S:Mem) (l:List Nat) (r:Option (V × Mem)):Option (V × Mem × Bool × List Nat) :=
 match r with
 | some (v,_)=>some (v,S,false,l)
 | none=>none
def ae2 (P:Program) (kB:FuncId→List V→Option V) (run:zy) (A:List Nat) (g:FuncId) (args:List V) (S:Mem):Option (V × Mem × Bool × List Nat) :=
 match A with
 | []=>match TX P kB run g args S with
  | some (v,S')=>some (v,S',true,[])
  | none=>none
 | _=>match qq 0 0 args with
  | true=>match D9 P kB run g (u7 0 0 args) with
   | some v=>some (v,S,false,[])
   | none=>none
  | false=>none
def abI (P:Program) (I:Inv) (kB:FuncId→List V→Option V) (run:zy) (A:List Nat) (op:Op) (env:List V) (S:Mem):Option (V × Mem × Bool × List Nat) :=
 match op with
 | .load t a=>ewP S (ldN (bw I env a)) (jt P (bw I env) S (.load t a))
 | .lookup t m k ok=>ewP S (ldN (bw I env m)) (jt P (bw I env) S (.lookup t m k ok))
 | .store t a x=>XH A (jt P (bw I env) S (.store t a x))
 | .alloc t=>XH A (jt P (bw I env) S (.alloc t))
 | .box t x=>XH A (jt P (bw I env) S (.box t x))
 | .makeMap t r=>XH A (jt P (bw I env) S (.makeMap t r))
 | .mapUpdate t m k x=>XH A (jt P (bw I env) S (.mapUpdate t m k x))
 | .call c=>match c.callee with
  | .value f=>match bw I env f with
   | .func g first caps=>ae2 P kB run A g (first++c.args.toList.map (bw I env)++caps) S
   | _=>none
  | .builtin .append=>XH A (jV P (bw I env) S c)
  | .builtin .delete=>XH A (jV P (bw I env) S c)
  | _=>ewP S [] (jV P (bw I env) S c)
 | op=>ewP S [] (jt P (bw I env) S op)
def Kz (P:Program) (I:Inv) (kB:FuncId→List V→Option V) (run:zy) (ops:Array Oper) (A:List Nat):Nat→List Oper→List V→Mem→Option (List V × Mem × List Mem × List Nat)
 | _,[],env,S=>some (env,S,[],[])
 | k,o :: l,env,S=>match uG A k with
  | true=>Kz P I kB run ops A (k+1) l env S
  | false=>match OQ env ops o with
   | .d (.bool b)=>match b with
    | true=>match abI P I kB run A o.op env S with
     | some (v,S1,w,ld)=>match Kz P I kB run ops A (k+1) l (dD env o.dst v) S1 with
      | some (e,S2,tr,ls)=>some (e,S2,(match w with
       | true=>S1 :: tr
       | false=>tr),ld++ls)
      | none=>none
     | none=>none
    | false=>Kz P I kB run ops A (k+1) l (dD env o.dst (.fZ [])) S
   | _=>none
def XI (P:Program) (I:Inv) (kB:FuncId→List V→Option V) (run:zy) (p:Nat) (fn:FuncId) (ops:Array Oper) (k:List Item) (done:List Nat) (Nm:List V) (S1:Mem):Option (V × Mem) :=
 match Kz P I kB run ops [] p (ops.toList.drop p) (nS ops S1.boxes.length done Nm) (sP S1 (done.map (zA P ops))) with
 | some (ae3,S3,_,[])=>run fn k ae3 S3
 | _=>none
def No (P:Program) (I:Inv) (kB:FuncId→List V→Option V) (run:zy) (p:Nat) (A:List Nat) (fn:FuncId) (ops:Array Oper) (k:List Item) (env:List V) (S:Mem):Option (V × Mem) :=
 match Ik ops (QH A ops) && Iu ops A p && Nat.ble p ops.size && okA P ops A p && Nat.beq (Kk A 0 p+A.length) p with
 | true=>match Kz P I kB run ops A 0 (ops.toList.take p) env S with
  | some (Nm,S1,tr,ls)=>match O6 ls S && tr.all (O5 ls S) with
   | true=>match A with
    | []=>XI P I kB run p fn ops k [] Nm S1
    | [a]=>XI P I kB run p fn ops k [a] Nm S1
    | _=>none
   | false=>none
  | none=>none
 | false=>none
def TY (P:Program) (I:Inv) (kB:FuncId→List V→Option V) (Np:FuncId→Nat→Option (Nat × List Nat)) (run:zy) (fn:FuncId) (c:Code) (k:List Item) (env:List V) (S:Mem):Option (V × Mem) :=
 match c with
 | .seq a b=>run fn (.code a :: .code b :: k) env S
 | .skip=>run fn k env S
 | .label _=>run fn k env S
 | .block id a=>run fn (.code a :: .inBlock id :: k) env S
 | .region _ ops false=>run fn (.inRegion ops (Bz 0 ops.toList) :: k) env S
 | .region id ops true=>match P.follows .mixedOrders && Region.lexB .any ops with
  | true=>match Np fn id with
   | some (p,A)=>No P I kB run p A fn ops k env S
   | none=>match Cq P I kB run ops S ops.toList env with
    | some iI=>run fn k iI S
    | none=>none
  | false=>none
 | .cond x a b=>match bw I env x with
  | .d (.bool t)=>match t with
   | true=>run fn (.code a :: k) env S
   | false=>run fn (.code b :: k) env S
  | _=>none
 | .exit id=>match exitTo id k with
  | some k'=>run fn k' env S
  | none=>none
 | .loop x=>run fn (.code x :: .inLoop x :: k) env S
 | .ret=>O1 P fn env S
 | _=>none
def Nq (P:Program) (I:Inv) (kB:FuncId→List V→Option V) (Np:FuncId→Nat→Option (Nat × List Nat)) (run:zy):zy:=fun fn k env S =>
 match k with
 | []=>O1 P fn env S
 | .code c :: k=>TY P I kB Np run fn c k env S
 | .inBlock _ :: k=>run fn k env S
 | .inLoop x :: k=>run fn (.code x :: .inLoop x :: k) env S
 | .inRegion _ [] :: k=>run fn k env S
 | .inRegion ops (i :: rest) :: k=>aab P I kB run fn ops i rest k env S
 | _=>none
noncomputable def ew (P:Program) (I:Inv) (kB:FuncId→List V→Option V) (Np:FuncId→Nat→Option (Nat × List Nat)) (n:Nat):zy:=Nat.rec (fun _ _ _ _=>none) (fun _ run=>Nq P I kB Np run) n
def lB (P:Program):Bool:=P.funcs.toList.all fun f=>!(f.name == "runtime.NumGoroutine")
section
variable {P:Program} {I:Inv} {kB:FuncId→List V→Option V}
def qu (P:Program) (I:Inv) (run:zy):Prop:=∀ fn k env S v S',run fn k env S=some (v,S')→∀ z R,R v S'→az P I z fn k env S R
theorem Gt (hN:lB P=true) {g:FuncId} {f:Func} (hf:P.funcs[g]? = some f):(f.name == "runtime.NumGoroutine")=false:=by
 have:=List.all_eq_true.1 hN f (by simpa using Array.mem_of_getElem? hf)
 simpa using this
theorem QZ {S S':Mem} {v:V} {g:FuncId} {args:List V} {Q:V→Mem→Prop} (h:∀ R:V→Mem→Prop,R v S'→cy P I g args S R) (hq:Q (Ix S v S').1 (Ix S v S').2):cy P I g args S Q:=by
 unfold Ix at hq
 split at hq
 ·rename_i hc;simp only [aF,Nat.ble_eq] at hc;obtain ⟨⟨⟨_,h2⟩,h3⟩,h4⟩:=hc;refine cy.left (h _ ⟨S'.boxes.take S.boxes.length,S'.boxes.drop S.boxes.length,S'.dG.take S.dG.length,S'.dG.drop S.dG.length,dM,fk,fk,fun i vs hi v hv=>.inr ?_,hq⟩);exact cC.1 (cC.1 h2 vs (eM hi)) v hv
 ·exact h _ hq
theorem BG (hN:lB P=true) (ho:∀ g args v,kB g args=some v→cy P I g args ⟨[],[]⟩ (fun v' _=>v' = v)) {run:zy} (eI:qu P I run) {g:FuncId} {args:List V} {v:V} (h:D9 P kB run g (u7 0 0 args)=some v) (S:Mem):cy P I g args S fun v' S'=>v' = v∧S' = S:=by
 unfold D9 at h
 split at h
 case h_2=>cases h
 rename_i f hf
 split at h
 case h_2=>cases h
 rename_i body hb;have hn:=Gt hN hf
 split at h
 ·rename_i v1 ho1;obtain rfl:=ag h;refine ((ho _ _ _ ho1).frame S).mono ?_;rintro v' S'' ⟨rfl,v0,S0,rfl,rfl⟩;exact ⟨rfl,rfl⟩
 ·split at h
  case h_2=>cases h
  rename_i v1 S1 h1
  split at h
  case h_2=>cases h
  obtain rfl:=ag h;have hA:cy P I g (u7 0 0 args) ⟨[],[]⟩ (fun v' _=>v' = v1):=cy.enter hf hb hn (eI _ _ _ _ _ _ h1 _ _ rfl);refine (hA.frame S).mono ?_;rintro v' S'' ⟨rfl,v0,S0,rfl,rfl⟩;exact ⟨rfl,rfl⟩
theorem KA (hN:lB P=true) {run:zy} (eI:qu P I run) {g:FuncId} {args:List V} {S S':Mem} {v:V} (h:O2 P run g args S=some (v,S')) {Q:V→Mem→Prop} (hq:Q v S'):cy P I g args S Q:=by
 unfold O2 at h
 split at h
 case h_2=>cases h
 rename_i f hf
 split at h
 case h_2=>cases h
 rename_i body hb;have hn:=Gt hN hf;unfold ae1 at h
 split at h
 case h_2=>cases h
 rename_i v1 S1 h1;have e:=ag h;refine QZ (v:=v1) (S':=S1) (fun R hR=>cy.enter hf hb hn (eI _ _ _ _ _ _ h1 _ _ hR)) ?_;rw [e];exact hq
theorem Iz (hN:lB P=true) (ho:∀ g args v,kB g args=some v→cy P I g args ⟨[],[]⟩ (fun v' _=>v' = v)) {run:zy} (eI:qu P I run) {g:FuncId} {args:List V} {S S':Mem} {v:V} (h:TX P kB run g args S=some (v,S')) {Q:V→Mem→Prop} (hq:Q v S'):cy P I g args S Q:=by
 unfold TX at h
 split at h
 case h_2=>exact KA hN eI h hq
 rename_i FD
 split at h
 case h_2=>exact KA hN eI h hq
 rename_i v1 h1;obtain ⟨rfl,rfl⟩:=aR (ag h);refine (BG hN ho eI h1 S).mono ?_;rintro v' S'' ⟨rfl,rfl⟩;exact hq
theorem KC {r:Option (V × Mem)} {v:V} (h:O3 r=some v):∃ S,r=some (v,S):=by
 unfold O3 at h
 split at h
 case h_2=>cases h
 rename_i v1 S1;obtain rfl:=ag h;exact ⟨S1,rfl⟩
theorem yX {S S':Mem} {r:Option V} {v:V} (h:still S r=some (v,S')):S' = S:=by
 obtain ⟨_,_,e⟩:=aB.1 h;exact (aR e).2.symm
theorem Nr {ev:Operand→V} {S S':Mem} {op:Op} {v:V} (hq:Kr op=true) (h:jt P ev S op=some (v,S')):S' = S:=by
 unfold jt at h
 split at h<;>try (cases hq;done)
 all_goals first
  | exact yX h
  | (obtain ⟨_,rfl⟩:=aR (ag h);rfl)
  | (split at h<;>first
   | exact yX h
   | (obtain ⟨_,rfl⟩:=aR (ag h);rfl)
   | (cases h;done))
  | (cases h;done)
theorem TZ (hN:lB P=true) (ho:∀ g args v,kB g args=some v→cy P I g args ⟨[],[]⟩ (fun v' _=>v' = v)) {run:zy} (eI:qu P I run) {o:Oper} {env:List V} {S:Mem} {v:V} (h:Ks P I kB run o env S=some v):QOp P I o env S v:=by
 unfold Ks at h
 split at h
 ·rename_i q hq
  split at h
  ·rename_i f hf
   split at h
   case h_2=>cases h
   rename_i g first caps hg
   split at h
   case h_2=>cases h
   rename_i FD;exact .inr ⟨q,f,g,first,caps,hq,hf,hg,BG hN ho eI h S⟩
  ·rename_i hb;obtain ⟨S',h1⟩:=KC h
   have h2:S' = S:=by
    unfold jV at h1;rw [hb] at h1
    split at h1
    all_goals first
     | exact yX h1
     | (rename_i e _ _;cases e;done)
     | (cases h1;done)
   rw [h2] at h1;exact .inl (by rw [hq];exact h1)
  ·cases h
 ·split at h
  case h_2=>cases h
  rename_i hqo;obtain ⟨S',h1⟩:=KC h;have h2:=Nr hqo h1;rw [h2] at h1;exact .inl h1
theorem z7 (hN:lB P=true) (ho:∀ g args v,kB g args=some v→cy P I g args ⟨[],[]⟩ (fun v' _=>v' = v)) {run:zy} (eI:qu P I run) {ops:Array Oper} {S:Mem} {K:List V→Prop}:∀ (l:List Oper) (env iI:List V),Cq P I kB run ops S l env=some iI→K iI→J6 P I ops S K l env
 | [],env,iI,h,hK=>by
  obtain rfl:=ag h;exact hK
 | o :: l,env,iI,h,hK=>by
  unfold Cq at h
  have go:kQ env ops o→(match Ks P I kB run o env S with
   | some v=>Cq P I kB run ops S l (dD env o.dst v)
   | none=>none)=some iI→J6 P I ops S K (o :: l) env:=by
   intro hw h
   split at h
   case h_2=>cases h
   rename_i v hv;exact ⟨v,.inl ⟨hw,TZ hN ho eI hv⟩,z7 hN ho eI l _ _ h hK⟩
  split at h
  ·rename_i hg;exact go (.inl hg) h
  ·rename_i j want hg
   split at h
   ·rename_i t ht
    split at h
    ·rename_i hw;have:t=want:=by simpa using hw
     subst this;exact go (.inr ⟨j,t,hg,ht⟩) h
    ·rename_i hw;exact ⟨.fZ [],.inr ⟨⟨j,want,hg,.inl ⟨t,ht,hw⟩⟩,rfl⟩,z7 hN ho eI l _ _ h hK⟩
   ·rename_i ht;exact ⟨.fZ [],.inr ⟨⟨j,want,hg,.inr ht⟩,rfl⟩,z7 hN ho eI l _ _ h hK⟩
   ·cases h
theorem xH {run:zy} (eI:qu P I run) {fn:FuncId} {r:Option (V × Mem)} {k:List Item} {d:Option Tmp} {env:List V} {v:V} {S':Mem} (h:BF run fn r k d env=some (v,S')):∃ v1 S1,r=some (v1,S1)∧∀ z R,R v S'→az P I z fn k (dD env d v1) S1 R:=by
 unfold BF at h
 split at h
 case h_2=>cases h
 rename_i v1 S1;exact ⟨v1,S1,rfl,eI _ _ _ _ _ _ h⟩
theorem T3 {env:List V} {S:Mem} {s:Operand} {t:TypeId} {iI:List V} {S1:Mem} (h:Kq P env S s t=(iI,S1)) {z:Nat × Nat} {fn:FuncId} {k:List Item} {R:V→Mem→Prop} (hr:az P I z fn k iI S1 R):az P I z fn k env S R:=by
 have hid:(env,S)=(iI,S1)→az P I z fn k env S R:=by
  intro e;obtain ⟨rfl,rfl⟩:=aR e;exact hr
 unfold Kq at h
 split at h
 case h_2=>exact hid h
 rename_i q
 split at h
 case h_2=>exact hid h
 rename_i rows hq
 split at h
 case h_2=>exact hid h
 split at h
 case h_2=>exact hid h
 split at h
 case h_2=>exact hid h
 rename_i te _
 split at h
 case h_2=>exact hid h
 rename_i hc;rw [aF,aZ] at hc;obtain ⟨rfl,rfl⟩:=aR h;exact az.token q rows hq te.size hc.1 hc.2 hr
theorem KD {env:List V} {S:Mem} {s:Operand} {t:TypeId} {iI:List V} {S1:Mem} (h:Kq P env S s t=(iI,S1)) {ops:Array Oper} {o:Oper} (hw:kQ env ops o):kQ iI ops o:=by
 have hid:(env,S)=(iI,S1)→kQ iI ops o:=by
  intro e;obtain ⟨rfl,rfl⟩:=aR e;exact hw
 unfold Kq at h
 split at h
 case h_2=>exact hid h
 rename_i q
 split at h
 case h_2=>exact hid h
 rename_i rows hq
 split at h
 case h_2=>exact hid h
 split at h
 case h_2=>exact hid h
 split at h
 case h_2=>exact hid h
 rename_i te _
 split at h
 case h_2=>exact hid h
 obtain ⟨rfl,rfl⟩:=aR h;rcases hw with hw | ⟨j,t,h1,h2⟩
 ·exact .inl hw
 ·refine .inr ⟨j,t,h1,?_⟩;unfold lJ at h2 ⊢
  split
  ·rename_i u hu;rw [hu] at h2;simp only at h2
   by_cases e:q=u
   ·subst e;rw [hq] at h2;cases h2
   ·rw [dm,aj e,← dm];exact h2
  ·rename_i hu;rw [hu] at h2;exact h2
theorem O7 (hN:lB P=true) (ho:∀ g args v,kB g args=some v→cy P I g args ⟨[],[]⟩ (fun v' _=>v' = v)) {run:zy} (eI:qu P I run) {fn:FuncId} {ops:Array Oper} {i:Nat} {rest:List Nat} {o:Oper} {k:List Item} {env:List V} {S S':Mem} {v:V} (FJ:ops[i]? = some o) (hw:kQ env ops o)
 (h:XE P I kB run fn ops rest o k env S=some (v,S')) (z:Nat × Nat) (R:V→Mem→Prop) (hR:R v S'):az P I z fn (.inRegion ops (i :: rest) :: k) env S R:=by
 unfold XE at h
 split at h
 ·rename_i q hq
  split at h
  ·rename_i f hf
   split at h
   case h_2=>cases h
   rename_i g first caps hg
   obtain ⟨v1,S1,h1,h2⟩:=xH eI h;exact .call FJ hw hq hf hg (Iz hN ho eI h1 (h2 z R hR))
  ·rename_i hb
   split at h
   case h_2=>cases h
   rename_i s _ t _ _ _
   split at h
   rename_i iI S2 Tg;obtain ⟨v1,S1,h1,h2⟩:=xH eI h;exact T3 Tg (.op FJ (KD Tg hw) (by rw [hq];exact h1) (h2 z R hR))
  ·obtain ⟨v1,S1,h1,h2⟩:=xH eI h;exact .op FJ hw (by rw [hq];exact h1) (h2 z R hR)
 ·obtain ⟨v1,S1,h1,h2⟩:=xH eI h;exact .op FJ hw h1 (h2 z R hR)
theorem KE {fn:FuncId} {env:List V} {S S':Mem} {v:V} (h:O1 P fn env S=some (v,S')):S' = S∧∃ f,P.funcs[fn]? = some f∧DN P S env f.results.toList=some v:=by
 unfold O1 at h
 split at h
 case h_2=>cases h
 rename_i f hf
 split at h
 case h_2=>cases h
 rename_i v1 hv;obtain ⟨rfl,rfl⟩:=aR (ag h);exact ⟨rfl,f,hf,hv⟩
theorem XJ (hN:lB P=true) (ho:∀ g args v,kB g args=some v→cy P I g args ⟨[],[]⟩ (fun v' _=>v' = v)) {run:zy} (eI:qu P I run) {A L:List Nat} {S0:Mem} {next:nL} {op:Op} {d:Option Tmp} {env:List V} {S S1:Mem} {v:V} {w:Bool} {ld:List Nat}
 (h:abI P I kB run A op env S=some (v,S1,w,ld)) (hL:∀ i∈ld,xW L i) (h0:kR L S0 S) (h1:w=true→kR L S0 S1) (hn:kR L S0 S1→next (dD env d v) S1):xE P I A L S0 next op d env S:=by
 have hB:∀ r,XH A r=some (v,S1,w,ld)→ri A L S0 next r d env:=by
  intro r h;unfold XH at h
  split at h
  case h_2=>cases h
  split at h
  case h_2=>cases h
  simp only [fX,om] at h;obtain ⟨rfl,rfl,rfl,rfl⟩:=h;rw [D5];exact ⟨rfl,h1 rfl,hn (h1 rfl)⟩
 have hP:∀ l r,ewP S l r=some (v,S1,w,ld)→l=ld∧oh next r d env S:=by
  intro l r h;unfold ewP at h
  split at h
  case h_2=>cases h
  simp only [fX,om] at h;obtain ⟨rfl,rfl,rfl,rfl⟩:=h;rw [D6];exact ⟨rfl,hn h0⟩
 have hl:∀ a r,ewP S (ldN a) r=some (v,S1,w,ld)→zY L a next r d env S:=by
  intro a r h;obtain ⟨e,hp⟩:=hP _ _ h;unfold oh at hp;unfold zY
  split at hp
  case h_2=>cases hp
  refine ⟨?_,hp⟩;rw [← e] at hL;cases a
  all_goals first
   | trivial
   | exact hL _ aI
 unfold abI at h
 split at h
 ·exact hl _ _ h
 ·exact hl _ _ h
 ·exact hB _ h
 ·exact hB _ h
 ·exact hB _ h
 ·exact hB _ h
 ·exact hB _ h
 ·rename_i c;unfold xE;dsimp only
  split at h
  ·rename_i f hf
   try rw [hf]
   try dsimp only
   split at h
   case h_2=>cases h
   rename_i g first caps hg
   rw [hg];unfold ae2 at h
   split at h
   ·split at h
    case h_2=>cases h
    rename_i v1 S2 h2;simp only [fX,om] at h;obtain ⟨rfl,rfl,rfl,rfl⟩:=h;exact iO (Q:=fun u T=>u=v1∧T=S2) ⟨_,_,rfl,rfl⟩ (Iz hN ho eI h2 ⟨rfl,rfl⟩) fun u T hq=>by rw [hq.1,hq.2];exact ⟨h1 rfl,hn (h1 rfl)⟩
   ·split at h
    case h_2=>cases h
    split at h
    case h_2=>cases h
    rename_i v1 h2;simp only [fX,om] at h;obtain ⟨rfl,rfl,rfl,rfl⟩:=h;exact bK (fun Z=>BG hN ho eI h2 _) ⟨h0,hn h0⟩
  ·rename_i hb
   try rw [hb]
   exact .inr (hB _ h)
  ·rename_i hb
   try rw [hb]
   exact hB _ h
  ·rename_i h1 h2 h3
   first
    | exact (hP _ _ h).2
    | (split
       ·rename_i f hf;exact absurd hf (h1 f)
       ·rename_i hf;exact absurd hf h2
       ·rename_i hf;exact absurd hf h3
       ·exact (hP _ _ h).2)
 ·rename_i n1 n2 n3 n4 n5 n6 n7 n8;unfold xE
  try split
  all_goals first
   | exact (hP _ _ h).2
   | exact absurd rfl (n1 _ _)
   | exact absurd rfl (n2 _ _ _ _)
   | exact absurd rfl (n3 _ _ _)
   | exact absurd rfl (n4 _)
   | exact absurd rfl (n5 _ _)
   | exact absurd rfl (n6 _ _)
   | exact absurd rfl (n7 _ _ _ _)
   | exact absurd rfl (n8 _)
theorem z8 (hN:lB P=true) (ho:∀ g args v,kB g args=some v→cy P I g args ⟨[],[]⟩ (fun v' _=>v' = v)) {run:zy} (eI:qu P I run) {ops:Array Oper} {A L:List Nat} {S0:Mem} {K:nL}:∀ (l:List Oper) (k:Nat) (env:List V) (S:Mem) (e:List V) (S2:Mem) (tr:List Mem) (ls:List Nat),
 Kz P I kB run ops A k l env S=some (e,S2,tr,ls)→(∀ M∈tr,kR L S0 M)→(∀ i∈ls,xW L i)→kR L S0 S→K e S2→tZ P I ops A L S0 K k l env S
 | [],k,env,S,e,S2,tr,ls,h,_,_,h0,hK=>by
  unfold Kz at h;simp only [fX,om] at h;obtain ⟨rfl,rfl,rfl,rfl⟩:=h;rw [Km];exact ⟨h0,hK⟩
 | o :: l,k,env,S,e,S2,tr,ls,h,ht,hl,h0,hK=>by
  unfold Kz at h;rw [BE]
  split at h
  ·rename_i hA;rw [hA,Z9];exact z8 hN ho eI l _ _ _ _ _ _ _ h ht hl h0 hK
  ·rename_i hA;rw [hA,ae0]
   split at h
   case h_2=>cases h
   rename_i b hg;rw [hg]
   split at h
   ·rw [TN]
    split at h
    case h_2=>cases h
    rename_i v S1 w ld hd
    split at h
    case h_2=>cases h
    rename_i e1 S3 tr1 ls1 hr;simp only [fX,om] at h;obtain ⟨rfl,rfl,rfl,rfl⟩:=h;have hw:w=true→kR L S0 S1:=fun e=>by subst e;exact ht _ aI
    have Cj:∀ M∈tr1,kR L S0 M:=fun M hM=>by
     cases w
     ·exact ht M hM
     ·exact ht M (aU _ hM)
    exact XJ hN ho eI hd (fun i hi=>hl i (eO _ hi)) h0 hw fun h1=>z8 hN ho eI l _ _ _ _ _ _ _ hr Cj (fun i hi=>hl i (iA _ hi)) h1 hK
   ·rw [aaa];exact z8 hN ho eI l _ _ _ _ _ _ _ h ht hl h0 hK
theorem Q0 (hN:lB P=true) (ho:∀ g args v,kB g args=some v→cy P I g args ⟨[],[]⟩ (fun v' _=>v' = v)) {run:zy} (eI:qu P I run) {p:Nat} {A:List Nat} {fn:FuncId} {id:Nat} {ops:Array Oper} {k:List Item} {env:List V} {S S':Mem} {v:V} (hm:P.follows .mixedOrders=true) (hB:Region.lexB .any ops=true)
 (h:No P I kB run p A fn ops k env S=some (v,S')) (z:Nat × Nat) (R:V→Mem→Prop) (hR:R v S'):az P I z fn (.code (.region id ops true) :: k) env S R:=by
 unfold No at h
 split at h
 case h_2=>cases h
 rename_i hc;simp only [aF] at hc;obtain ⟨⟨⟨⟨c1,c2⟩,c3⟩,c4⟩,c5⟩:=hc
 split at h
 case h_2=>cases h
 rename_i Nm S1 tr ls h1
 split at h
 case h_2=>cases h
 rename_i hk;rw [aF,cC] at hk
 have aac:∀ done,XI P I kB run p fn ops k done Nm S1=some (v,S')→tZ P I ops [] [] (sP S1 (done.map (zA P ops))) (fun env S=>az P I z fn k env S R) p (ops.toList.drop p) (nS ops S1.boxes.length done Nm) (sP S1 (done.map (zA P ops))):=by
  intro done h;unfold XI at h
  split at h
  case h_2=>cases h
  rename_i ae3 S3 tr3 h3;exact z8 hN ho eI _ _ _ _ _ _ _ _ h3 (fun M _=>by rw [xG];trivial) (fun i hi=>absurd hi aT) (by rw [xG];trivial) (eI _ _ _ _ _ _ h z R hR)
 refine az.Z8 p A ls hm hB c1 c2 c3 c4 c5 ⟨Kw hk.1,z8 hN ho eI _ _ _ _ _ _ _ _ h1 (fun M hM=>Kv (hk.2 M hM)) (fun i hi=>Ky hi) (sQ _ _) ?_⟩
 split at h
 ·rw [OZ];exact aac _ h
 ·rw [O0];exact aac _ h
 ·cases h
theorem Q1 {Np:FuncId→Nat→Option (Nat × List Nat)} (hN:lB P=true) (ho:∀ g args v,kB g args=some v→cy P I g args ⟨[],[]⟩ (fun v' _=>v' = v)) {run:zy} (eI:qu P I run):qu P I (Nq P I kB Np run):=by
 intro fn k env S v S' h z R hR;unfold Nq at h
 split at h
 ·obtain ⟨rfl,f,hf,hv⟩:=KE h;exact .fin hf hv hR
 ·rename_i c k;unfold TY at h
  split at h
  ·exact .seq (eI _ _ _ _ _ _ h _ _ hR)
  ·exact .skip (eI _ _ _ _ _ _ h _ _ hR)
  ·exact .label (eI _ _ _ _ _ _ h _ _ hR)
  ·exact .block (eI _ _ _ _ _ _ h _ _ hR)
  ·rw [DQ] at h;exact .region (eI _ _ _ _ _ _ h _ _ hR)
  ·split at h
   case h_2=>cases h
   rename_i hc;rw [aF] at hc
   split at h
   ·exact Q0 hN ho eI hc.1 hc.2 h z R hR
   split at h
   case h_2=>cases h
   rename_i iI he;exact .draw hc.1 hc.2 (z7 hN ho eI _ _ _ he (eI _ _ _ _ _ _ h _ _ hR))
  ·rename_i x a b
   split at h
   case h_2=>cases h
   rename_i t ht;refine .cond ht ?_
   split at h
   ·exact eI _ _ _ _ _ _ h _ _ hR
   ·exact eI _ _ _ _ _ _ h _ _ hR
  ·split at h
   case h_2=>cases h
   rename_i k' hk;exact .exit hk (eI _ _ _ _ _ _ h _ _ hR)
  ·exact .loop (eI _ _ _ _ _ _ h _ _ hR)
  ·obtain ⟨rfl,f,hf,hv⟩:=KE h;exact .ret hf hv hR
  ·cases h
 ·exact .inBlock (eI _ _ _ _ _ _ h _ _ hR)
 ·exact .inLoop (eI _ _ _ _ _ _ h _ _ hR)
 ·exact .qp (eI _ _ _ _ _ _ h _ _ hR)
 ·rename_i ops i rest k;unfold aab at h
  split at h
  case h_2=>cases h
  rename_i o FJ
  split at h
  ·rename_i hg;exact O7 hN ho eI FJ (.inl hg) h z R hR
  ·rename_i j want hg
   split at h
   ·rename_i t ht
    split at h
    ·rename_i hw;have:t=want:=by simpa using hw
     subst this;exact O7 hN ho eI FJ (.inr ⟨j,t,hg,ht⟩) h z R hR
    ·rename_i hw;exact .uY FJ ⟨j,want,hg,.inl ⟨t,ht,hw⟩⟩ (eI _ _ _ _ _ _ h _ _ hR)
   ·rename_i ht;exact .uY FJ ⟨j,want,hg,.inr ht⟩ (eI _ _ _ _ _ _ h _ _ hR)
   ·cases h
 ·cases h
theorem aad {Np:FuncId→Nat→Option (Nat × List Nat)} (hN:lB P=true) (ho:∀ g args v,kB g args=some v→cy P I g args ⟨[],[]⟩ (fun v' _=>v' = v)):∀ n,qu P I (ew P I kB Np n)
 | 0=>fun _ _ _ _ _ _ h=>by cases h
 | n+1=>Q1 hN ho (aad hN ho n)
end
noncomputable def IA (P:Program) (I:Inv) (kB:FuncId→List V→Option V) (Np:FuncId→Nat→Option (Nat × List Nat)) (n:Nat) (g:FuncId) (args:List V):Option V :=
 match TX P kB (ew P I kB Np n) g args ⟨[],[]⟩ with
 | some (v,_)=>some v
 | none=>none
theorem Gu {P:Program} {I:Inv} {kB:FuncId→List V→Option V} {Np:FuncId→Nat→Option (Nat × List Nat)} (hN:lB P=true) (ho:∀ g args v,kB g args=some v→cy P I g args ⟨[],[]⟩ (fun v' _=>v' = v)) {n:Nat} {g:FuncId} {args:List V} {v:V} (h:IA P I kB Np n g args=some v):cy P I g args ⟨[],[]⟩ (fun v' _=>v' = v):=by
 unfold IA at h
 split at h
 case h_2=>cases h
 rename_i v1 S1 h1;obtain rfl:=ag h;exact Iz hN ho (aad hN ho n) h1 rfl
end Go.Ab
namespace Go.Proofs.YtnfnbjjnjjdjdaaGreatDoor
open _root_.Go.Proofs.Tryz
open Go.RowKit
def qv (l p:List UInt8):Bool:=p.isPrefixOf l
end Go.Proofs.YtnfnbjjnjjdjdaaGreatDoor
namespace Go.Av
def fJ (c:UInt8):Bool:=decide (97≤c.toNat∧c.toNat≤122∨65≤c.toNat∧c.toNat≤90∨c.toNat=95)
def gA (c:UInt8):Bool:=decide (48≤c.toNat∧c.toNat≤57)
def rO (c:UInt8):Bool:=decide (c.toNat=32∨c.toNat=9∨c.toNat=10∨c.toNat=13)
def lR:Bool→List UInt8→List UInt8
 | _,[]=>[]
 | true,c :: r=>if c.toNat=10 then lR false r else lR true r
 | false,c :: r=>if rO c=true then lR false r else if c.toNat=47∧r.head? = some 47 then lR true r else c :: r
theorem Q2 (b:Bool):lR b []=[]:=by cases b<;>rfl
theorem Ns (c:UInt8) (r:List UInt8) (h:rO c=true):lR false (c :: r)=lR false r:=by simp [lR,h]
theorem Q3 (c:UInt8) (r:List UInt8) (h:c.toNat=47) (h':r.head? = some 47):lR false (c :: r)=lR true (c :: r):=by
 have hw:¬ rO c=true:=by unfold rO;rw [decide_eq_true_iff];omega
 simp only [lR];rw [aq hw,aD ⟨h,h'⟩,aq ak]
theorem Gv (c:UInt8) (r:List UInt8) (h:¬ rO c=true) (h':¬ (c.toNat=47∧r.head? = some 47)):lR false (c :: r)=c :: r:=by
 simp only [lR];rw [aq h,aq h']
theorem XK (c:UInt8) (r:List UInt8) (h:¬ c.toNat=10):lR true (c :: r)=lR true r:=by simp [lR,h]
theorem Gw (c:UInt8) (r:List UInt8) (h:c.toNat=10):lR true (c :: r)=lR false (c :: r):=by
 have hw:rO c=true:=by unfold rO;rw [decide_eq_true_iff];omega
 simp [lR,h,hw]
def jx (bs:List UInt8) (k:Nat):Nat:=bs.length - (lR false (bs.drop k)).length
theorem yY (bs:List UInt8) (k m:Nat) (hm:m≤bs.length) (h:lR false (bs.drop k)=bs.drop m):jx bs k=m:=by
 unfold jx;rw [h,eG];omega
theorem qw (bs:List UInt8) (k:Nat):jx bs k≤bs.length:=by unfold jx;omega
def kS (p:UInt8→Bool) (bs:List UInt8) (k:Nat):Nat:=k+((bs.drop k).takeWhile p).length
theorem KF (p:UInt8→Bool) (bs:List UInt8) (k:Nat) (h:k≤bs.length):k≤kS p bs k∧kS p bs k≤bs.length:=by
 unfold kS;have:=(qb p (l:=bs.drop k)).length_le;rw [eG] at this;omega
theorem nG {bs:List UInt8} {k:Nat} {c:UInt8} (h:bs[k]? = some c):bs.drop k=c :: bs.drop (k+1):=by
 obtain ⟨bu,rfl⟩:=ai.1 h;exact aJ bu
theorem Nt (p:UInt8→Bool) (bs:List UInt8) (k:Nat) (c:UInt8) (h:bs[k]? = some c) (hp:p c=true):kS p bs k=kS p bs (k+1):=by
 unfold kS;rw [nG h,List.takeWhile_cons_of_pos hp];simp only [aP];omega
theorem Nu (p:UInt8→Bool) (bs:List UInt8) (k:Nat) (c:UInt8) (h:bs[k]? = some c) (hp:¬ p c=true):kS p bs k=k:=by
 unfold kS;rw [nG h,List.takeWhile_cons_of_neg hp];rfl
theorem Q4 (p:UInt8→Bool) (bs:List UInt8) (k:Nat) (h:bs.length≤k):kS p bs k=k:=by
 unfold kS;rw [ay h];rfl
def RdB (B:Nat) (w:World) (v:Value) (bs:List UInt8):Prop :=
 (v = .slice none 0 0∧bs=[])∨∃ (g off cap:Nat),v = .slice (some ⟨g,off,none⟩) bs.length cap∧g < B∧bs.length≤cap∧cap≤maxLen∧∀ j u,(bv bs)[j]? = some u→w.cell? ⟨g,off+j,none⟩=some u
theorem RdB.below {B:Nat} {w w':World} {v:Value} {bs:List UInt8} (h:RdB B w v bs) (hb:RowKit.Below B w w'):RdB B w' v bs:=by
 rcases h with h | ⟨g,off,cap,hv,hg,h1,h2,hc⟩
 ·exact .inl h
 ·exact .inr ⟨g,off,cap,hv,hg,h1,h2,fun j u hu=>by rw [hb.cell (p:=⟨g,off+j,none⟩) hg];exact hc j u hu⟩
theorem RdB.mono {B B':Nat} {w:World} {v:Value} {bs:List UInt8} (h:RdB B w v bs) (hB:B≤B'):RdB B' w v bs:=by
 rcases h with h | ⟨g,off,cap,hv,hg,h1,h2,hc⟩
 ·exact .inl h
 ·exact .inr ⟨g,off,cap,hv,ak,h1,h2,hc⟩
theorem tE {bs:List UInt8} {k:Nat} {a:UInt8} (h:bs[k]? = some a):(bv bs)[k]? = some (.int .u8 (a.toNat:Int)):=by
 simp [bv,h]
theorem IB {bs:List UInt8} {k:Nat} {u:Value} (h:(bv bs)[k]? = some u):∃ a,bs[k]? = some a∧u = .int .u8 (a.toNat:Int):=by
 simp only [bv,aL,aB] at h;obtain ⟨a,ha,rfl⟩:=h;exact ⟨a,ha,rfl⟩
theorem Nv {w:World} {g off:Nat} {bs:List UInt8} (hc:∀ j u,(bv bs)[j]? = some u→w.cell? ⟨g,off+j,none⟩=some u) (k:Nat) :
 ∀ j u,(bv (bs.drop k))[j]? = some u→w.cell? ⟨g,off+k+j,none⟩=some u:=by
 intro j u hu;obtain ⟨a,ha,rfl⟩:=IB hu;rw [dS] at ha;have:=hc (k+j) _ (tE ha)
 rwa [← fD] at this
theorem Nw {w:World} {g off:Nat} {bs:List UInt8} (hc:∀ j u,(bv bs)[j]? = some u→w.cell? ⟨g,off+j,none⟩=some u) (n:Nat) :
 ∀ j u,(bv (bs.take n))[j]? = some u→w.cell? ⟨g,off+j,none⟩=some u:=by
 intro j u hu;obtain ⟨a,ha,rfl⟩:=IB hu;rw [bp] at ha
 split at ha
 ·exact hc j _ (tE ha)
 ·cases ha
end Go.Av
namespace Go.Proofs.YtnfnbjjnjjdjdaaGreatDoor
open _root_.Go.Proofs.Tryz
open Go.RowKit Go.Av
set_option maxRecDepth 100000 in
theorem sx (c:UInt8) (x:Int) (hx:(c.toNat:Int)=x) (w:World):Calls prog 154 #[.int .u8 x] w fun e w'=>e = .returned (.bool (fJ c))∧w=w':=by
 have hc:x < 256:=by have:=c.toNat_lt;omega
 have hr:fJ c=true↔(97≤x∧x≤122∨65≤x∧x≤90∨x=95):=by
  unfold fJ;rw [bz];omega
 generalize fJ c=r at hr ⊢;have h0:0≤x:=ak;clear hx
 by_cases h1:97≤x<;>by_cases h2:x≤122<;>by_cases h3:65≤x<;>by_cases h4:x≤90<;>by_cases h5:x=95<;>first | omega | skip
 all_goals
  first | (have e5:(x == 95)=true:=by simpa using h5) | (have e5:(x == 95)=false:=by simpa using h5)
  cases r<;>simp [h1,h2,h3,h4,h5] at hr;clear h5
  go_enter func154,Tryz.ntmps154
  go_wp2_with fail
  go_ret
  exact ⟨rfl,rfl⟩
set_option maxRecDepth 100000 in
theorem Aa (c:UInt8) (x:Int) (hx:(c.toNat:Int)=x) (w:World):Calls prog 157 #[.int .u8 x] w fun e w'=>e = .returned (.bool (gA c))∧w=w':=by
 have hc:x < 256:=by have:=c.toNat_lt;omega
 have hr:gA c=true↔(48≤x∧x≤57):=by
  unfold gA;rw [bz];omega
 generalize gA c=r at hr ⊢;have h0:0≤x:=ak;clear hx
 by_cases h1:48≤x<;>by_cases h2:x≤57<;>first | omega | skip
 all_goals
  cases r<;>simp [h1,h2] at hr
  go_enter func157,Tryz.ntmps157
  go_wp2_with fail
  go_ret
  exact ⟨rfl,rfl⟩
def nu (c:UInt8):Bool:=fJ c || gA c
set_option maxRecDepth 100000 in
theorem XL (c:UInt8) (x:Int) (hx:(c.toNat:Int)=x) (w:World):Calls prog 156 #[.int .u8 x] w fun e w'=>e = .returned (.bool (nu c))∧w=w':=by
 have hl:=sx c x hx;have hd:=Aa c x hx;have hw:nu c=(fJ c || gA c):=rfl;rw [hw];clear hw hx;generalize fJ c=p at hl ⊢;generalize gA c=q at hd ⊢;have HL:=Lib.hid hl;have HD:=Lib.hid hd;clear hl hd;cases p
 ·go_enter func156,Tryz.ntmps156
  go_wp2_with fail
  refine (HL.out _).mono ?_;rintro e w1 ⟨rfl,rfl⟩
  go_wp2_with fail
  refine (HD.out _).mono ?_;rintro e w1 ⟨rfl,rfl⟩
  go_wp2_with fail
  go_ret
  exact ⟨by cases q<;>rfl,rfl⟩
 ·go_enter func156,Tryz.ntmps156
  go_wp2_with fail
  refine (HL.out _).mono ?_;rintro e w1 ⟨rfl,rfl⟩
  go_wp2_with fail
  go_ret
  exact ⟨rfl,rfl⟩
set_option maxRecDepth 100000 in
theorem Gx (F:Nat) (p:UInt8→Bool) (hE:∀ args w,(callFunc F args).run prog w = .ok (.enter F args) w) (hF:∀ (c:UInt8) (w:World),Calls prog F #[.int .u8 (c.toNat:Int)] w fun e w'=>e = .returned (.bool (p c))∧w=w')
 (B:Nat) (v:Value) (bs:List UInt8) (k0:Nat) (w:World) (hv:RdB B w v bs) (hk:k0≤bs.length) (hn:bs.length≤9223372036854775807) :
 Calls prog 155 #[v,.int .i64 (k0:Int),.func (.func F) #[] #[]] w fun e w'=>e = .returned (.int .i64 (kS p bs k0:Int))∧w=w':=by
 have HF:=Lib.hid hF;clear hF;rcases hv with ⟨rfl,rfl⟩ | ⟨g,off,cap,rfl,hg,gh,yM,hc⟩
 ·have:k0=0:=by simpa using hk
  subst this
  go_enter func155,Tryz.ntmps155
  go_wp2_with fail
  refine wp_loop_rounds 1 ?_;rw [rounds_succ]
  go_wp2_with fail
  go_ret
  exact ⟨rfl,rfl⟩
 ·have hi:∀ k:Nat,k < bs.length→∃ a,bs[k]? = some a∧w.cell? ⟨g,off+k,none⟩=some (.int .u8 (a.toNat:Int)):=by
   intro k hk;exact ⟨bs[k],au hk,hc k _ (tE (au hk))⟩
  have HI:=Lib.hid hi;clear hi hc
  go_enter func155,Tryz.ntmps155
  go_wp2_with fail
  go_loop [1] (fun i=>∃ k:Nat,i = .int .i64 k∧k≤bs.length∧Hid (kS p bs k0=kS p bs k)) (fun i=>(bs.length - intOf i).toNat)
  case atStart=>exact ⟨k0,rfl,hk,Lib.hid rfl⟩
  case round =>
   obtain ⟨k,rfl,hk,HR⟩:=hrel
   by_cases bu:k < bs.length
   ·obtain ⟨a,ha,l8⟩:=HI.out k bu;have HA:=Lib.hid ha;clear ha;have hFa:=HF.out a;have dY:(k:Int) < bs.length:=ak
    by_cases hp:p a=true
    ·rw [hp] at hFa;have HP:=Lib.hid hp;have HFA:=Lib.hid hFa;clear hp hFa
     go_wp2_with fail
     refine (HFA.out _).mono ?_;rintro e w1 ⟨rfl,rfl⟩
     go_wp2_with fail
     go_round
     case rel=>exact ⟨k+1,by go_num,ak,Lib.hid (by rw [HR.out,Nt p bs k a HA.out HP.out])⟩
     case measure=>simp [intOf];omega
    ·rw [qx] at hp;rw [hp] at hFa;have HP:=Lib.hid hp;have HFA:=Lib.hid hFa;clear hp hFa
     go_wp2_with fail
     refine (HFA.out _).mono ?_;rintro e w1 ⟨rfl,rfl⟩
     go_wp2_with fail
     go_ret
     exact ⟨by rw [HR.out,Nu p bs k a HA.out (by rw [HP.out];exact Bool.false_ne_true)];rfl,rfl⟩
   ·have dY:¬ (k:Int) < bs.length:=ak
    go_wp2_with fail
    go_ret
    exact ⟨by rw [HR.out,Q4 p bs k ak];rfl,rfl⟩
def sS:List (List UInt8):=[[97,112,112,101,110,100],[98,111,111,108],[98,121,116,101],[99,97,115,101],[100,101,102,97,117,108,116],[101,108,115,101],[102,97,108,115,101],[102,111,114],[102,117,110,99],[105,102],[105,110,116],[105,110,116,51,50],[108,101,110],[112,97,99,107,97,103,101],[114,101,116,117,114,110],[115,116,114,117,99,116],[115,119,105,116,99,104],[116,114,117,101],[116,121,112,101],[117,105,110,116,51,50],[117,105,110,116,54,52],[118,97,114]]
def kX:List (List UInt8):=[[38,38],[124,124],[61,61],[33,61],[60,61],[62,61],[60,60],[62,62],[40],[41],[123],[125],[91],[93],[44],[46],[58],[61],[60],[62],[43],[45],[42],[47],[37],[38],[124],[94],[33]]
def KG (l:List (List UInt8)):Array Value:=(l.map fun s=>Value.string ⟨s.toArray⟩).toArray
structure xX (w:World):Prop where
 KH:∃ t fr,w.heap[0]? = some (.cells (KG kX) t fr)
 keys:∃ t fr,w.heap[1]? = some (.cells (KG sS) t fr)
theorem xX.size {w:World} (h:xX w):1 < w.heap.size∧0 < w.heap.size:=by
 obtain ⟨t,fr,h1⟩:=h.KH;obtain ⟨t',fr',h2⟩:=h.keys;exact ⟨(bD.1 h2).1,(bD.1 h1).1⟩
theorem xX.below {w w':World} (h:xX w) (hb:Below w.heap.size w w'):xX w':=by
 have hs:=h.size;obtain ⟨t,fr,h1⟩:=h.KH;obtain ⟨t',fr',h2⟩:=h.keys;exact ⟨⟨t,fr,by rw [hb.block _ hs.2];exact h1⟩,⟨t',fr',by rw [hb.block _ hs.1];exact h2⟩⟩
set_option linter.unusedVariables false in
theorem xX.kept {w w':World} (h:xX w) {B:Nat} (hb:Below B w w') (hB:1+0+1≤B)
 : xX w':=by
 obtain ⟨t,fr,h1⟩:=h.KH;obtain ⟨t',fr',h2⟩:=h.keys;exact ⟨⟨t,fr,by rw [hb.block _ ak];exact h1⟩,⟨t',fr',by rw [hb.block _ ak];exact h2⟩⟩
theorem T4 (k:Nat) (hk:k < 22):∀ W,(Instr.index 198 (.agg (KG sS)) (.int .i64 (k:Int))).run prog W = .ok (.string ⟨(sS.getD k []).toArray⟩) W:=by
 intro W;have:k=0∨k=1∨k=2∨k=3∨k=4∨k=5∨k=6∨k=7∨k=8∨k=9∨k=10∨k=11∨k=12∨k=13∨k=14∨k=15∨k=16∨k=17∨k=18∨k=19∨k=20∨k=21:=ak;rcases this with rfl | rfl | rfl | rfl | rfl | rfl | rfl | rfl | rfl | rfl | rfl | rfl | rfl | rfl | rfl | rfl | rfl | rfl | rfl | rfl | rfl | rfl
 all_goals
  show _=_
  kernel_rfl
theorem Q5 (k:Nat) (hk:k < 29):∀ W,(Instr.index 189 (.agg (KG kX)) (.int .i64 (k:Int))).run prog W = .ok (.string ⟨(kX.getD k []).toArray⟩) W:=by
 intro W;have:k=0∨k=1∨k=2∨k=3∨k=4∨k=5∨k=6∨k=7∨k=8∨k=9∨k=10∨k=11∨k=12∨k=13∨k=14∨k=15∨k=16∨k=17∨k=18∨k=19∨k=20∨k=21∨k=22∨k=23∨k=24∨k=25∨k=26∨k=27∨k=28:=ak;rcases this with rfl | rfl | rfl | rfl | rfl | rfl | rfl | rfl | rfl | rfl | rfl | rfl | rfl | rfl | rfl | rfl | rfl | rfl | rfl | rfl | rfl | rfl | rfl | rfl | rfl | rfl | rfl | rfl | rfl
 all_goals
  show _=_
  kernel_rfl
def ia (s:List UInt8):Bool:=sS.any (s == ·)
def Ac (s:List UInt8) (k:Nat):Bool:=(sS.drop k).any (s == ·)
theorem IC (s:List UInt8) (k:Nat) (hk:k < 22):Ac s k=(s == sS.getD k [] || Ac s (k+1)):=by
 unfold Ac
 have:sS.drop k=sS.getD k [] :: sS.drop (k+1):=by
  have h:k < sS.length:=hk;rw [aJ h];simp [List.getD,h]
 rw [this,ua]
set_option maxRecDepth 100000 in
theorem T5 (s:ByteArray) (w:World) (ht:xX w):Calls prog 158 #[.string s] w fun e w'=>e = .returned (.bool (ia s.data.toList))∧w=w':=by
 obtain ⟨t,fr,Cg⟩:=ht.keys;have HK:=Lib.hid Cg;clear Cg ht;have hi:=T4;generalize hkv:KG sS=kv at HK hi;have jS:(Tryz.prog.info? 198).map (·.size)=some kv.size:=by rw [← hkv];kernel_rfl
 have HS:=Lib.hid jS;have HI:=Lib.hid hi;clear hkv jS hi
 go_enter func158,Tryz.ntmps158
 go_wp2_with (refine wpList_load_row rfl 198 _ rfl 1 rfl _ kv _ _ HK.out Tryz.underlying198 rfl HS.out ?_)
 go_loop [6] (fun i=>∃ k:Nat,i = .int .i64 k∧k≤22∧Hid (ia s.data.toList=Ac s.data.toList k)) (fun i=>(22 - intOf i).toNat)
 case atStart=>exact ⟨0,rfl,ak,Lib.hid rfl⟩
 case round =>
  obtain ⟨k,rfl,hk,HR⟩:=hrel
  by_cases bu:k < 22
  ·have hik:=HI.out k bu;have kz:=IC s.data.toList k bu;generalize sS.getD k []=q at hik kz;have O8:=Lib.hid kz;clear kz
   by_cases hq:q=s.data.toList
   ·have e:(q == s.toList)=true:=by rw [ByteArray.toList_eq];simpa using hq
    have HQ:=Lib.hid hq;clear hq
    go_wp2_with fail
    go_ret
    exact ⟨by rw [HR.out,O8.out,HQ.out];simp,rfl⟩
   ·have e:(q == s.toList)=false:=by rw [ByteArray.toList_eq];simpa using hq
    have e2:(s.data.toList == q)=false:=by simpa using fun h=>hq h.symm
    have HQ:=Lib.hid e2;clear hq e2
    go_wp2_with fail
    go_round
    case rel=>exact ⟨k+1,by go_num,ak,Lib.hid (by rw [HR.out,O8.out,HQ.out];rfl)⟩
    case measure=>simp [intOf];omega
  ·have e:Ac s.data.toList k=false:=by
    rw [show k=22 by omega];rfl
   have HE:=Lib.hid e;clear e
   go_wp2_with fail
   go_ret
   exact ⟨by rw [HR.out,HE.out];rfl,rfl⟩
set_option maxRecDepth 100000 in
theorem Q6 (s:ByteArray) (w:World):Calls prog 140 #[.string s] w fun e w'=>e = .returned (.bool (ia s.data.toList))∧w=w':=by
 have hr:ia s.data.toList=ia s.toList:=by rw [ByteArray.toList_eq]
 rw [hr];clear hr;have HR:∀ b:Bool,Hid (ia s.toList=b)→Ending.returned (.bool b) = .returned (.bool (ia s.toList)):=fun b h=>by rw [h.out]
 go_enter func140,Tryz.ntmps140
 go_wp2_with fail
 all_goals
  go_ret
  refine ⟨HR _ ?_,rfl⟩;clear HR;unfold Hid ia sS
  simp_all
end Go.Proofs.YtnfnbjjnjjdjdaaGreatDoor
namespace Go.Proofs.YtnfnbjjnjjdjdaaGreatDoor
open _root_.Go.Proofs.Tryz
open Go.RowKit Go.Av Go.Ab
def BH (l:List (List UInt8)):List D:=l.map .str
theorem Cr {w:World} {g:Nat} {l:List (List UInt8)} {t:TypeId} {fr:Nat × Nat} (h:w.heap[g]? = some (.cells (KG l) t fr)) (hs:l.all (fun s=>decide (s.length≤9223372036854775807))=true) (q:Nat) (hq:q < (BH l).length):∃ v,JK (BH l)[q]=some v∧w.cell? ⟨g,q,none⟩=some v:=by
 have Ht:q < l.length:=by simpa [BH] using hq
 have sI:=bV (cC.1 hs l[q] (aH Ht));refine ⟨.string ⟨(l[q]).toArray⟩,?_,?_⟩
 ·simp [BH,JK,sI]
 ·simp [World.cell?,h,KG,Ht]
def ae4 (g:Nat):Option (List D):=bif g == 0 then some (BH kX) else bif g == 1 then some (BH sS) else none
def bI:Inv:=⟨xX,1+0+1,ae4,by
 intro w g row h hg;unfold ae4 at hg
 by_cases e:(g == 0)=true
 ·rw [e,uC] at hg;obtain rfl:=ag hg;obtain rfl:=eq_of_beq e;obtain ⟨t,fr,h1⟩:=h.KH;exact ⟨bH,fun q hq=>Cr h1 cP q hq⟩
 ·rw [mZ.2 e,nt] at hg
  by_cases e:(g == 1)=true
  ·rw [e,uC] at hg;obtain rfl:=ag hg;obtain rfl:=eq_of_beq e;obtain ⟨t,fr,h1⟩:=h.keys;exact ⟨bH,fun q hq=>Cr h1 cP q hq⟩
  ·rw [mZ.2 e,nt] at hg;cases hg⟩
end Go.Proofs.YtnfnbjjnjjdjdaaGreatDoor
namespace Go.Proofs.YtnfnbjjnjjdjdaaGreatDoor
open _root_.Go.Proofs.Tryz
open Go.RowKit Go.Av
theorem wN (c x:UInt8) (r:List UInt8):Lib.indexByte (c :: r) x=if c == x then 0 else if Lib.indexByte r x == -1 then -1 else Lib.indexByte r x+1:=rfl
def yw (bs:List UInt8) (x:UInt8) (k:Nat):Int:=if Lib.indexByte (bs.drop k) x == -1 then -1 else Lib.indexByte (bs.drop k) x+k
theorem Nx (bs:List UInt8) (x:UInt8):yw bs x 0=Lib.indexByte bs x:=by
 unfold yw;rw [iE]
 split
 ·rename_i h;exact (eq_of_beq h).symm
 ·simp
theorem Q7 (bs:List UInt8) (x c:UInt8) (k:Nat) (h:bs[k]? = some c) (hc:c=x):yw bs x k=k:=by
 subst hc;unfold yw;rw [nG h,wN];simp
theorem Ny (bs:List UInt8) (x c:UInt8) (k:Nat) (h:bs[k]? = some c) (hc:¬ c=x):yw bs x k=yw bs x (k+1):=by
 unfold yw;rw [nG h,wN];have h0:=(Lib.indexByte_ge (bs.drop (k+1)) x);have Q8:(c == x)=false:=by simpa using hc
 rw [Q8];simp only [cS,iF]
 by_cases h1:Lib.indexByte (bs.drop (k+1)) x = -1
 ·rw [h1];rfl
 ·have e1:(Lib.indexByte (bs.drop (k+1)) x == -1)=false:=by simpa using h1
  have e2:(Lib.indexByte (bs.drop (k+1)) x+1 == -1)=false:=by rw [cB];omega
  rw [e1];simp only [cS,iF];rw [e2];simp only [cS,iF];omega
theorem Q9 (bs:List UInt8) (x:UInt8) (k:Nat) (h:bs.length≤k):yw bs x k = -1:=by
 unfold yw;rw [ay h];rfl
set_option maxRecDepth 100000 in
theorem KI (g off cap:Nat) (bs:List UInt8) (x:UInt8) (w:World) (hc:∀ j u,(bv bs)[j]? = some u→w.cell? ⟨g,off+j,none⟩=some u) (hn:bs.length≤9223372036854775807) :
 Calls prog 198 #[.slice (some ⟨g,off,none⟩) bs.length cap,.int .u8 (x.toNat:Int)] w fun e w'=>e = .returned (.int .i64 (Lib.indexByte bs x))∧w=w':=by
 have hi:∀ k:Nat,k < bs.length→∃ a,bs[k]? = some a∧w.cell? ⟨g,off+k,none⟩=some (.int .u8 (a.toNat:Int)):=by
  intro k hk;exact ⟨bs[k],au hk,hc k _ (tE (au hk))⟩
 have HI:=Lib.hid hi;clear hi hc
 go_enter func198,Tryz.ntmps198
 go_wp2_with fail
 go_loop [8] (fun i=>∃ k:Nat,i = .int .i64 k∧k≤bs.length∧Hid (Lib.indexByte bs x=yw bs x k)) (fun i=>(bs.length - intOf i).toNat)
 case atStart=>exact ⟨0,rfl,ak,Lib.hid (by rw [Nx])⟩
 case round =>
  obtain ⟨k,rfl,hk,HR⟩:=hrel
  by_cases bu:k < bs.length
  ·obtain ⟨a,ha,l8⟩:=HI.out k bu;have HA:=Lib.hid ha;clear ha
   by_cases hax:a=x
   ·have e:((x.toNat:Int) == (a.toNat:Int))=true:=by rw [hax];simp
    have HX:=Lib.hid hax;clear hax
    go_wp2_with fail
    go_ret
    exact ⟨by rw [HR.out,Q7 bs x a k HA.out HX.out];rfl,rfl⟩
   ·have e:((x.toNat:Int) == (a.toNat:Int))=false:=by
     rw [cB];intro h;apply hax;apply UInt8.toNat_inj.1;omega
    have HX:=Lib.hid hax;clear hax
    go_wp2_with fail
    go_round
    case rel=>exact ⟨k+1,by go_num,ak,Lib.hid (by rw [HR.out,Ny bs x a k HA.out HX.out])⟩
    case measure=>simp [intOf];omega
  ·have dY:¬ (k:Int) < bs.length:=ak
   go_wp2_with fail
   go_ret
   exact ⟨by rw [HR.out,Q9 bs x k ak];rfl,rfl⟩
set_option maxRecDepth 100000 in
theorem Ea (g off cap:Nat) (bs:List UInt8) (x:UInt8) (w:World) (hc:∀ j u,(bv bs)[j]? = some u→w.cell? ⟨g,off+j,none⟩=some u) (hn:bs.length≤9223372036854775807) :
 Calls prog 179 #[.slice (some ⟨g,off,none⟩) bs.length cap,.int .u8 (x.toNat:Int)] w fun e w'=>e = .returned (.bool (decide (0≤Lib.indexByte bs x)))∧w=w':=by
 have h:=KI g off cap bs x w hc hn;generalize Lib.indexByte bs x=r at h ⊢;have H:=Lib.hid h;clear h hc
 go_enter func179,Tryz.ntmps179
 go_wp2_with fail
 refine H.out.mono ?_;rintro e w1 ⟨rfl,rfl⟩
 go_wp2_with fail
 go_ret
 exact ⟨rfl,rfl⟩
theorem Nz (x:UInt8):decide (0≤Lib.indexByte [32,9,10,13] x)=rO x:=by
 have hx:∀ n:Nat,n < 256→decide (0≤Lib.indexByte [32,9,10,13] (UInt8.ofNat n))=rO (UInt8.ofNat n):=by decide +kernel
 have:=hx x.toNat x.toNat_lt
 simpa using this
set_option maxRecDepth 100000 in
theorem KJ (v1 v2:Value) (l1 l2:List UInt8) (w:World) (h1:(convert 57 9 v1).run prog w = .ok (.string ⟨l1.toArray⟩) w) (h2:(convert 57 9 v2).run prog w = .ok (.string ⟨l2.toArray⟩) w) :
 Calls prog 180 #[v1,v2] w fun e w'=>e = .returned (.bool (l1 == l2))∧w=w':=by
 go_enter func180,Tryz.ntmps180
 go_wp2_with fail
 go_ret
 exact ⟨dM,rfl⟩
theorem vc (g off cap n:Nat) (bs:List UInt8) (w:World) (hlen:bs.length=n) (hc:∀ j u,(bv bs)[j]? = some u→w.cell? ⟨g,off+j,none⟩=some u) :
 (convert 57 9 (.slice (some ⟨g,off,none⟩) n cap)).run prog w = .ok (.string ⟨bs.toArray⟩) w :=
 yh (P:=prog) 57 5 9 Tryz.underlying57 Tryz.underlying5 Tryz.underlying9 g off cap n bs hlen hc
theorem T6 (l p:List UInt8):(l.take p.length == p)=qv l p:=by
 unfold qv;rw [dQ,iK,kJ,oL];exact eq_comm
set_option maxRecDepth 100000 in
theorem vH (g off n cap g2 abJ Im:Nat) (l p:List UInt8) (w:World) (hl:l.length=n) (gh:n≤cap) (_hmax:n≤9223372036854775807) (hp1:1≤p.length) (XM:p.length≤9223372036854775807)
 (hc:∀ j u,(bv l)[j]? = some u→w.cell? ⟨g,off+j,none⟩=some u) (FF:∀ j u,(bv p)[j]? = some u→w.cell? ⟨g2,abJ+j,none⟩=some u) :
 Calls prog 160 #[.slice (some ⟨g,off,none⟩) n cap,.slice (some ⟨g2,abJ,none⟩) p.length Im] w fun e w'=>e = .returned (.bool (qv l p))∧w=w':=by
 by_cases h:p.length≤n
 ·have k1:=vc g off cap p.length (l.take p.length) w (by rw [cg];omega) (Nw hc _);have k2:=vc g2 abJ Im p.length p w rfl FF;have he:=KJ _ _ _ _ w k1 k2;rw [T6] at he;generalize qv l p=r at he ⊢;have HE:=Lib.hid he;clear he k1 k2 hc FF hl;have h':(p.length:Int)≤n:=ak
  go_enter func160,Tryz.ntmps160
  go_wp2_with fail
  refine HE.out.mono ?_;rintro e w1 ⟨rfl,rfl⟩
  go_wp2_with fail
  go_ret
  exact ⟨rfl,rfl⟩
 ·have e:qv l p=false:=by
   unfold qv;rw [mZ];intro e;have:=(kJ.1 e).length_le;omega
  rw [e];clear e hc FF hl;have h':¬ (p.length:Int)≤n:=ak
  go_enter func160,Tryz.ntmps160
  go_wp2_with fail
  go_ret
  exact ⟨rfl,rfl⟩
theorem Gy (l:List UInt8) (c:UInt8) (r:List UInt8) (h:l=c :: r):qv l [47,47]=true↔(c.toNat=47∧r.head? = some 47):=by
 subst h;unfold qv;rw [kJ];constructor
 ·rintro ⟨t,ht⟩;simp at ht;obtain ⟨rfl,rfl⟩:=ht;exact ⟨rfl,rfl⟩
 ·rintro ⟨h1,h2⟩;have hc:c=47:=UInt8.toNat_inj.1 h1;subst hc;cases r with
  | nil=>simp at h2
  | cons d t=>simp at h2;subst h2;exact ⟨t,rfl⟩
theorem Ra (w:World):Calls prog 153 #[.slice none 0 0,.int .i64 0] w fun e w'=>e = .returned (.int .i64 0)∧w=w':=by
 go_enter func153,Tryz.ntmps153
 go_wp2_with fail
 refine wp_loop_rounds 1 ?_;rw [rounds_succ]
 go_wp2_with fail
 go_ret
 exact ⟨rfl,rfl⟩
theorem iX (w:World) (o:Obj) (a:Addr) (h:a.block < w.heap.size):(w.alloc o).cell? a=w.cell? a:=World.cell?_of_block (Below.heap_alloc w o a.block h)
theorem Gz (w:World) (bs:List UInt8) (e:TypeId):∀ j u,(bv bs)[j]? = some u→(w.alloc (.cells (bv bs).toArray e)).cell? ⟨w.heap.size,0+j,none⟩=some u:=SO w (bv bs) e
set_option maxRecDepth 100000 in
theorem tF (g off cap:Nat) (bs:List UInt8) (k0:Nat) (w:World) (hg:g < w.heap.size) (gh:bs.length≤cap) (yM:bs.length≤9223372036854775807) (hk0:k0≤bs.length)
 (hc:∀ j u,(bv bs)[j]? = some u→w.cell? ⟨g,off+j,none⟩=some u) :
 Calls prog 153 #[.slice (some ⟨g,off,none⟩) bs.length cap,.int .i64 (k0:Int)] w fun e w'=>e = .returned (.int .i64 (jx bs k0:Int))∧Below w.heap.size w w':=by
 have HC:=Lib.hid hc;clear hc
 go_enter func153,Tryz.ntmps153
 go_wp2_with fail
 go_loopw [1] (fun i wr=>∃ k:Nat,i = .int .i64 k∧k≤bs.length∧Hid (lR false (bs.drop k0)=lR false (bs.drop k))∧Below w.heap.size w wr) (fun i _=>(bs.length - intOf i).toNat)
 case atStart=>exact ⟨k0,rfl,hk0,Lib.hid rfl,Below.refl _ _⟩
 case round =>
  obtain ⟨k,rfl,hk,HR,hb⟩:=hrel;have jS:=hb.size
  by_cases bu:k < bs.length
  ·have dY:(k:Int) < bs.length:=ak;obtain ⟨a,ha⟩:∃ a,bs[k]? = some a:=⟨bs[k],au bu⟩;have l8:wr.cell? ⟨g,off+k,none⟩=some (.int .u8 (a.toNat:Int)):=by rw [hb.cell (p:=⟨g,off+k,none⟩) hg];exact HC.out k _ (tE ha)
   have akZ:k < cap:=ak;have O9:∀ o:Obj,(wr.alloc o).cell? ⟨g,off+k,none⟩=some (.int .u8 (a.toNat:Int)):=fun o=>by rw [iX _ _ _ (show g < wr.heap.size by omega)];exact l8
   have HD:=Lib.hid (nG ha);have HA:=Lib.hid ha;clear ha;have h4:=Ea wr.heap.size 0 4 [32,9,10,13] a (wr.alloc (.cells #[.int .u8 32,.int .u8 9,.int .u8 10,.int .u8 13] 5)) (Gz wr [32,9,10,13] _) bH;rw [Nz] at h4
   by_cases hw:rO a=true
   ·rw [hw] at h4;have HW:=Lib.hid hw;clear hw
    go_wp2_with fail
    refine h4.mono ?_;rintro e w1 ⟨rfl,rfl⟩
    go_wp2_with fail
    go_roundw
    case rel=>exact ⟨k+1,by go_num,ak,Lib.hid (by rw [HR.out,HD.out,Ns _ _ HW.out]),hb.alloc jS _⟩
    case measure=>simp [intOf];omega
   ·rw [qx] at hw;rw [hw] at h4;have HW:=Lib.hid hw;clear hw
    go_wp2_with fail
    refine h4.mono ?_;rintro e w1 ⟨rfl,rfl⟩
    go_wp2_with fail
    have hcw:∀ j u,(bv bs)[j]? = some u→wr.cell? ⟨g,off+j,none⟩=some u:=fun j u hu=>by rw [hb.cell (p:=⟨g,off+j,none⟩) hg];exact HC.out j u hu
    have FF:∀ j u,(bv (bs.drop k))[j]? = some u→((wr.alloc (.cells #[.int .u8 32,.int .u8 9,.int .u8 10,.int .u8 13] 5)).alloc (.cells #[.int .u8 47,.int .u8 47] 5)).cell? ⟨g,off+k+j,none⟩=some u:=by
     intro j u hu;rw [iX _ _ _ (show g < (wr.alloc _).heap.size by simp;omega),iX _ _ _ (show g < wr.heap.size by omega)];exact Nv hcw k j u hu
    have hc3:∀ j u,(bv [47,47])[j]? = some u→((wr.alloc (.cells #[.int .u8 32,.int .u8 9,.int .u8 10,.int .u8 13] 5)).alloc (.cells #[.int .u8 47,.int .u8 47] 5)).cell? ⟨wr.heap.size+1,0+j,none⟩=some u:=by
     have:=Gz (wr.alloc (.cells #[.int .u8 32,.int .u8 9,.int .u8 10,.int .u8 13] 5)) [47,47] 5;rw [show (wr.alloc (.cells #[.int .u8 32,.int .u8 9,.int .u8 10,.int .u8 13] 5)).heap.size=wr.heap.size+1 from by simp] at this;exact this
    have BI:=vH g (off+k) (bs.length - k) (cap - k) (wr.heap.size+1) 0 2 (bs.drop k) [47,47] _ (by rw [eG]) ak ak bH bH FF hc3;clear FF hc3;have Jx:=(hb.alloc jS (.cells #[.int .u8 32,.int .u8 9,.int .u8 10,.int .u8 13] 5)).alloc (iT jS dM) (.cells #[.int .u8 47,.int .u8 47] 5)
    by_cases hs:qv (bs.drop k) [47,47]=true
    ·rw [hs] at BI;have sI:=(Gy _ _ _ HD.out).1 hs;have HS:=Lib.hid (Q3 a (bs.drop (k+1)) sI.1 sI.2);have ae5:=sI.1;clear hs sI;refine BI.mono ?_;rintro e w1 ⟨rfl,rfl⟩
     have yx:∀ j u,(bv bs)[j]? = some u→((wr.alloc (.cells #[.int .u8 32,.int .u8 9,.int .u8 10,.int .u8 13] 5)).alloc (.cells #[.int .u8 47,.int .u8 47] 5)).cell? ⟨g,off+j,none⟩=some u:=by
      intro j u hu;rw [iX _ _ _ (show g < (wr.alloc _).heap.size by simp;omega),iX _ _ _ (show g < wr.heap.size by omega)];exact hcw j u hu
     have HCA:=Lib.hid yx;have HAA:=Lib.hid ae5;clear yx hcw O9 l8 h4 BI ae5;generalize JC:(wr.alloc (.cells #[.int .u8 32,.int .u8 9,.int .u8 10,.int .u8 13] 5)).alloc (.cells #[.int .u8 47,.int .u8 47] 5)=w2 at HCA Jx ⊢;clear JC
     go_wp2_with fail
     go_loop [1] (fun i=>∃ m:Nat,i = .int .i64 m∧k≤m∧m≤bs.length∧Hid (lR false (bs.drop k)=lR true (bs.drop m))) (fun i=>(bs.length - intOf i).toNat)
     case atStart=>exact ⟨k,rfl,ak,ak,Lib.hid (by rw [HD.out,HS.out])⟩
     case round =>
      obtain ⟨m,rfl,hkm,hm,HM⟩:=hrel
      by_cases hml:m < bs.length
      ·have aiR:(m:Int) < bs.length:=ak;obtain ⟨d,hd⟩:∃ d,bs[m]? = some d:=⟨bs[m],au hml⟩;have hdc:w2.cell? ⟨g,off+m,none⟩=some (.int .u8 (d.toNat:Int)):=HCA.out m _ (tE hd);have HDD:=Lib.hid (nG hd);have HD1:=Lib.hid hd;clear hd
       by_cases yN:d.toNat=10
       ·have gW:((d.toNat:Int) != 10)=false:=fk;have HT:=Lib.hid yN;clear yN
        have amR:k < m:=by
         rcases ct k m with h | h
         ·exact h
         ·exfalso
          have aiU:k=m:=ak;subst aiU;have:=HA.out;rw [HD1.out] at this;injection this with this;have h1:=HT.out;have h2:=HAA.out;rw [this] at h1;omega
        go_wp2_with fail
        first
         | exact ⟨⟨m,rfl,hm,Lib.hid (by rw [HR.out,HM.out,HDD.out,Gw _ _ HT.out]),Jx⟩,by simp [intOf];omega⟩
         | (go_roundw;(case rel=>exact ⟨m,rfl,hm,Lib.hid (by rw [HR.out,HM.out,HDD.out,Gw _ _ HT.out]),Jx⟩);(case measure=>simp [intOf];omega))
       ·have gW:((d.toNat:Int) != 10)=true:=fk;have HT:=Lib.hid yN;clear yN
        go_wp2_with fail
        go_round
        case rel=>exact ⟨m+1,by go_num,ak,ak,Lib.hid (by rw [HM.out,HDD.out,XK _ _ HT.out])⟩
        case measure=>simp [intOf];omega
      ·have aiR:¬ (m:Int) < bs.length:=ak;have e:bs.drop m=[]:=ay ak;have HE:=Lib.hid e;clear e
       go_wp2_with fail
       first
        | exact ⟨⟨m,rfl,hm,Lib.hid (by rw [HR.out,HM.out,HE.out];rfl),Jx⟩,by simp [intOf];omega⟩
        | (go_roundw;(case rel=>exact ⟨m,rfl,hm,Lib.hid (by rw [HR.out,HM.out,HE.out];rfl),Jx⟩);(case measure=>simp [intOf];omega))
    ·have hs':=hs;rw [qx] at hs';rw [hs'] at BI
     have aaf:lR false (bs.drop k0)=bs.drop k:=by
      rw [HR.out,HD.out];exact Gv a _ (by rw [HW.out];exact Bool.false_ne_true) (fun h=>hs ((Gy _ _ _ HD.out).2 h))
     have HW2:=Lib.hid (yY bs k0 k hk aaf);clear hs hs' aaf;refine BI.mono ?_;rintro e w1 ⟨rfl,rfl⟩
     go_wp2_with fail
     go_ret
     exact ⟨by rw [HW2.out];rfl,Jx⟩
  ·have dY:¬ (k:Int) < bs.length:=ak
   go_wp2_with fail
   go_ret
   exact ⟨by rw [yY bs k0 k hk (by rw [HR.out,ay ak];rfl)];rfl,hb⟩
theorem iM (W:World) (b i j:Nat) (v:Value) (h:¬ i=j):(W.setCell ⟨b,i,none⟩ v).cell? ⟨b,j,none⟩=W.cell? ⟨b,j,none⟩ :=
 World.cell?_setCell_other W ⟨b,i,none⟩ ⟨b,j,none⟩ v (fun e=>h (gR Addr.off e))
def r7 (l:List UInt8):Nat:=l.foldl (fun n c=>n * 10+(c.toNat - 48)) 0
theorem Rb (l:List UInt8) (c:UInt8):r7 (l++[c])=r7 l * 10+(c.toNat - 48):=by simp [r7]
theorem ID (l:List UInt8) (k:Nat):r7 (l.take k)≤r7 l:=by
 have h:∀ (r:List UInt8) (n:Nat),n≤r.foldl (fun n c=>n * 10+(c.toNat - 48)) n:=by
  intro r
  induction r with
  | nil=>intro n;exact aA _
  | cons c r ih =>
   intro n;rw [dc];exact iT ak (ih _)
 have e:r7 l=(l.drop k).foldl (fun n c=>n * 10+(c.toNat - 48)) (r7 (l.take k)):=by
  unfold r7;rw [← List.foldl_append,eX]
 rw [e];exact h _ _
def KL:Nat:=18446744073709551615
structure fS where
 kind:Nat
 text:List UInt8
 int:Nat
 at':Nat
 next:Nat
def fS.zero:fS:=⟨0,[],0,0,0⟩
def fS.cells (x:fS):Array Value:=#[.int .i64 (x.kind:Int),.string ⟨x.text.toArray⟩,.int .u64 (x.int:Int),.int .i64 (x.at':Int),.int .i64 (x.next:Int)]
def oo (bs:List UInt8) (k:Nat):List UInt8:=(bs.drop k).take (kS gA bs k - k)
def iY (bs:List UInt8) (k:Nat):Bool :=
 decide (r7 (oo bs k)≤KL) && !(decide (kS gA bs k < bs.length) && fJ (bs.getD (kS gA bs k) 0)) && !(decide (k+1 < kS gA bs k) && decide (bs.getD k 0=48))
def r8 (bs:List UInt8) (k:Nat):fS:=⟨2,oo bs k,r7 (oo bs k),k,kS gA bs k⟩
def pJ (bs:List UInt8) (k:Nat) (w:World) (e:Ending) (w':World):Prop :=
 e = .returned (.tuple #[.agg (if iY bs k=true then r8 bs k else fS.zero).cells,.bool (iY bs k)])∧Below w.heap.size w w'
theorem pJ.no {bs:List UInt8} {k:Nat} {w w':World} (h:iY bs k=false) (hb:Below w.heap.size w w'):pJ bs k w (.returned (.tuple #[.agg #[.int .i64 0,.string ⟨#[]⟩,.int .u64 0,.int .i64 0,.int .i64 0],.bool false])) w':=by
 unfold pJ;rw [h];exact ⟨rfl,hb⟩
theorem pJ.yes {bs:List UInt8} {k:Nat} {w w':World} (h:iY bs k=true) (hb:Below w.heap.size w w'):pJ bs k w (.returned (.tuple #[.agg (r8 bs k).cells,.bool true])) w':=by
 unfold pJ;rw [h];exact ⟨rfl,hb⟩
theorem IE {bs:List UInt8} {k:Nat} (h:¬ r7 (oo bs k)≤KL):iY bs k=false:=by
 unfold iY;rw [af h];rfl
set_option maxRecDepth 100000 in
theorem T7 (g off cap:Nat) (bs:List UInt8) (k:Nat) (w:World) (hg:g < w.heap.size) (gh:bs.length≤cap) (yM:cap≤9223372036854775807) (hk:k < bs.length)
 (hc:∀ j u,(bv bs)[j]? = some u→w.cell? ⟨g,off+j,none⟩=some u) :
 Calls prog 159 #[.slice (some ⟨g,off,none⟩) bs.length cap,.int .i64 (k:Int)] w (pJ bs k w):=by
 have T8:∀ (args:Array Value) (w:World),(callFunc 157 args).run prog w = .ok (.enter 157 args) w:=by
  intro args w;simp [go_sem]
 have IF:=fun W hv=>Gx 157 gA T8 (fun c w=>Aa c _ rfl w) (w.heap.size+1) (.slice (some ⟨g,off,none⟩) bs.length cap) bs k W hv ak ak;have hre:=KF gA bs k ak
 have hds:(oo bs k).length=kS gA bs k - k:=by
  unfold oo;rw [cg,eG];omega
 have hdc:∀ j:Nat,j < kS gA bs k - k→∃ a,(oo bs k)[j]? = some a∧gA a=true∧w.cell? ⟨g,off+k+j,none⟩=some (.int .u8 (a.toNat:Int)):=by
  intro j hj;have hkj:k+j < bs.length:=ak;have CO:bs[k+j]? = some bs[k+j]:=au hkj;refine ⟨bs[k+j],?_,?_,?_⟩
  ·unfold oo;rw [bp,aD hj,dS,CO]
  ·have Jy:=List.all_takeWhile (p:=gA) (l:=bs.drop k);have BI:=qb gA (l:=bs.drop k);have hlen:((bs.drop k).takeWhile gA).length=kS gA bs k - k:=by unfold kS;omega
   have uq:((bs.drop k).takeWhile gA)[j]? = some bs[k+j]:=by
    rw [oL.1 BI,bp,aD ak,dS,CO]
   exact cC.1 Jy _ (eM uq)
  ·have:=hc (k+j) _ (tE CO);rw [show off+k+j=off+(k+j) by omega];exact this
 have aiV:iY bs k=iY bs k:=rfl;generalize gI:kS gA bs k=e at *;generalize hdg:oo bs k=ds at *;have HWH:=Lib.hid IF;have HDC:=Lib.hid hdc;have HDS:=Lib.hid hds;have ae7:=Lib.hid gI;have HDG:=Lib.hid hdg;clear T8 IF hdc hds aiV gI hdg;have HC:=Lib.hid hc;clear hc;have hek:(k:Int)≤e:=ak;have heb:(e:Int)≤bs.length:=ak;have hkc:k < cap:=ak
 go_enter func159,Tryz.ntmps159
 go_wp2_with fail
 refine (HWH.out _ ?_).mono ?_
 ·exact .inr ⟨g,off,cap,rfl,ak,gh,by unfold maxLen;omega,fun j u hu=>by rw [iX _ _ _ hg];exact HC.out j u hu⟩
 rintro e' w1 ⟨rfl,rfl⟩
 go_wp2_with fail
 obtain ⟨m,hm⟩:=aV (e - k);rw [hm];have HM:=Lib.hid hm;clear hm;have hmb:m≤9223372036854775807:=by have:=HM.out;omega
 have hmc:m≤cap - k:=by have:=HM.out;omega
 go_loop [7,19] (fun n i=>∃ j:Nat,i = .int .i64 j∧j≤m∧n = .int .u64 (r7 (ds.take j):Int)∧Hid (r7 (ds.take j)≤KL)) (fun _ i=>(m - intOf i).toNat)
 case atStart=>exact ⟨0,rfl,ak,rfl,by unfold Hid KL;simp [r7]⟩
 case round =>
  obtain ⟨j,rfl,hj,rfl,HV⟩:=hrel
  by_cases bu:j < m
  ·obtain ⟨a,ha,had,hac⟩:=HDC.out j (by have:=HM.out;omega);have O9:∀ o:Obj,(w.alloc o).cell? ⟨g,off+k+j,none⟩=some (.int .u8 (a.toNat:Int)):=fun o=>by rw [iX _ _ _ hg];exact hac
   have kz:r7 (ds.take (j+1))=r7 (ds.take j) * 10+(a.toNat - 48):=by
    obtain ⟨hl,rfl⟩:=ai.1 ha;rw [bF hl,Rb]
   have hb:=bV had;obtain ⟨d,hd⟩:∃ d,a.toNat=48+d:=⟨a.toNat - 48,ak⟩;have hd9:d≤9:=ak;have ae8:(a.toNat:Int)=48+d:=ak;have O8:Hid (r7 (ds.take (j+1))=r7 (ds.take j) * 10+d):=by unfold Hid;rw [kz,hd];omega
   rw [ae8] at O9;generalize r7 (ds.take j)=n at HV O8 ⊢;clear hac ha had kz hb hd ae8;have hjm:(j:Int) < m:=ak
   by_cases hov:(18446744073709551615 - (48+(d:Int) - 48)) / 10 < (n:Int)
   ·have Fx:iY bs k=false:=by
     refine IE ?_;rw [HDG.out];have h1:=ID ds (j+1);rw [O8.out] at h1;have h2:KL=18446744073709551615:=rfl;omega
    go_wp2_with fail
    refine bodyPost_ret (v:=.tuple #[.agg #[.int .i64 0,.string ⟨#[]⟩,.int .u64 0,.int .i64 0,.int .i64 0],.bool false]) (by simp [results,Tryz.results159,go_sem]) rfl (pJ.no Fx ?_);exact (Below.refl _ _).alloc (aA _) _
   ·have Sz:r7 (ds.take (j+1))≤KL:=by
     rw [O8.out];unfold KL;omega
    have HV2:=Lib.hid Sz;clear Sz;have hnn:(n:Int) * 10+d≤18446744073709551615:=ak
    go_wp2_with fail
    exact ⟨⟨j+1,by go_num,ak,by rw [O8.out];congr 1;omega,HV2⟩,by simp [intOf];omega⟩
  ·obtain rfl:j=m:=ak;have T9:ds.take j=ds:=bS (by have:=HDS.out;have:=HM.out;omega);rw [T9] at HV;rw [T9];have aag:bs[k]? = some (bs.getD k 0):=by rw [dm,au hk];rfl
   have hcK:∀ o:Obj,(w.alloc o).cell? ⟨g,off+k,none⟩=some (.int .u8 ((bs.getD k 0).toNat:Int)):=fun o=>by rw [iX _ _ _ hg];exact HC.out k _ (tE aag)
   have hcE:e < bs.length→∀ o:Obj,(w.alloc o).cell? ⟨g,off+e,none⟩=some (.int .u8 ((bs.getD e 0).toNat:Int)):=fun h o=>by
    have ae9:bs[e]? = some (bs.getD e 0):=by rw [dm,au h];rfl
    rw [iX _ _ _ hg];exact HC.out e _ (tE ae9)
   have hOK:iY bs k=(!(decide (e < bs.length) && fJ (bs.getD e 0)) && !(decide (k+1 < e) && decide (bs.getD k 0=48))):=by
    unfold iY;rw [HDG.out,ae7.out,ah HV.out];rfl
   have hW:r8 bs k=⟨2,ds,r7 ds,k,e⟩:=by
    unfold r8;rw [HDG.out,ae7.out]
   have afa:(decide (bs.getD k 0=48))=decide (((bs.getD k 0).toNat:Int)=48):=by
    apply cM.2;constructor
    ·intro h;rw [h];rfl
    ·intro h;apply UInt8.toNat.inj;show _=48;omega
   rw [afa] at hOK
   have aah:∀ o:Obj,(convert 57 9 (.slice (some ⟨g,off+k,none⟩) (e - k) (cap - k))).run prog (w.alloc o) = .ok (.string ⟨ds.toArray⟩) (w.alloc o):=by
    intro o;refine vc g (off+k) (cap - k) (e - k) ds _ (by have:=HDS.out;have:=HM.out;omega) ?_;intro i u hu
    have hi:i < j:=by
     have:=(ai.1 hu).1;have h2:(bv ds).length=ds.length:=by simp [bv]
     have:=HDS.out;have:=HM.out;omega
    obtain ⟨a,ha,_,hac⟩:=HDC.out i (by have:=HM.out;omega);rw [iX _ _ _ hg,hac];rw [tE ha] at hu;exact hu
   have HOK:=Lib.hid hOK;have HW:=Lib.hid hW;have HCE:=Lib.hid hcE;have HCV:=Lib.hid aah;have amW:((bs.getD k 0).toNat:Int) < 256:=by have:=(bs.getD k 0).toNat_lt;omega
   clear T9 aag hcE hOK hW afa aah;generalize bs.getD k 0=cK at *;generalize bs.getD e 0=cE at *;generalize r7 ds=vd at *
   by_cases Cj:e < bs.length∧fJ cE=true
   ·obtain ⟨he,hle⟩:=Cj;have ai2:=HCE.out he
    have Fx:iY bs k=false:=by
     rw [HOK.out,ah he,hle];rfl
    have Jz:(e:Int) < bs.length:=ak;have hec:e < cap:=ak;clear he
    go_wp2_with fail
    refine (sx cE _ rfl _).mono ?_;rintro e' w1 ⟨rfl,rfl⟩;rw [hle]
    go_wp2_with fail
    refine bodyPost_ret (v:=.tuple #[.agg #[.int .i64 0,.string ⟨#[]⟩,.int .u64 0,.int .i64 0,.int .i64 0],.bool false]) (by simp [results,Tryz.results159,go_sem]) rfl (pJ.no Fx ?_);exact (Below.refl _ _).alloc (aA _) _
   ·have hE:(¬ (e:Int) < bs.length)∨((e:Int) < bs.length∧fJ cE=false∧e < cap∧∀ o:Obj,(w.alloc o).cell? ⟨g,off+e,none⟩=some (.int .u8 (cE.toNat:Int))):=by
     by_cases h:e < bs.length
     ·refine .inr ⟨ak,?_,ak,HCE.out h⟩;cases hx:fJ cE
      ·rfl
      ·exact absurd ⟨h,hx⟩ Cj
     ·exact .inl ak
    have Rc:iY bs k = !(decide (k+1 < e) && decide ((cK.toNat:Int)=48)):=by
     rw [HOK.out]
     have:(decide (e < bs.length) && fJ cE)=false:=by
      rw [Bool.and_eq_false_iff]
      by_cases h:e < bs.length
      ·right;cases hx:fJ cE
       ·rfl
       ·exact absurd ⟨h,hx⟩ Cj
      ·left;exact af h
     rw [this];rfl
    have hT:((e:Int) > k+1∧((cK.toNat:Int) == 48)=true∧Hid (iY bs k=false))∨((e:Int) > k+1∧((cK.toNat:Int) == 48)=false∧Hid (iY bs k=true))∨(¬ (e:Int) > k+1∧Hid (iY bs k=true)):=by
     by_cases h:k+1 < e
     ·by_cases h2:(cK.toNat:Int)=48
      ·exact .inl ⟨ak,beq_iff_eq.2 h2,by unfold Hid;rw [Rc,decide_eq_true h,decide_eq_true h2];rfl⟩
      ·exact .inr (.inl ⟨ak,beq_eq_false_iff_ne.2 h2,by unfold Hid;rw [Rc,decide_eq_false h2];simp⟩)
     ·exact .inr (.inr ⟨ak,by unfold Hid;rw [Rc,decide_eq_false h];rfl⟩)
    have HT:=Lib.hid hT;have HEE:=Lib.hid hE;have S7:=HCV.out;clear hT hE Rc Cj HCE HOK;rcases HT.out with ⟨t1,t2,HN⟩ | ⟨t1,t2,HN⟩ | ⟨t1,HN⟩
    all_goals
     clear HT;rcases HEE.out with he | ⟨he,hle,hec,ai2⟩
     all_goals
      clear HEE
      go_wp2_with fail
      try (refine (sx cE _ rfl _).mono ?_;rintro e' w1 ⟨rfl,rfl⟩;rw [hle];go_wp2_with fail)
      first
       | exact bodyPost_ret (v:=.tuple #[.agg #[.int .i64 0,.string ⟨#[]⟩,.int .u64 0,.int .i64 0,.int .i64 0],.bool false]) (by simp [results,Tryz.results159,go_sem]) rfl (pJ.no HN.out ((Below.refl _ _).alloc (aA _) _))
       | (refine bodyPost_ret (v:=.tuple #[.agg (r8 bs k).cells,.bool true]) ?_ rfl (pJ.yes HN.out ?_);(· rw [HW.out];simp [results,Tryz.results159,fS.cells,go_sem]);exact (Below.refl _ _).alloc (aA _) _)
def NA (l:List UInt8):Option (List UInt8):=kX.find? fun s=>qv l s
def uc (bs:List UInt8) (p e:Nat):List UInt8:=(bs.drop p).take (e - p)
def kf (bs:List UInt8) (p:Nat):fS × Nat :=
 if p=bs.length then (⟨0,[],0,p,p⟩,0)
 else if fJ (bs.getD p 0)=true then (⟨if ia (uc bs p (kS nu bs p))=true then 4 else 1,uc bs p (kS nu bs p),0,p,kS nu bs p⟩,0)
 else if gA (bs.getD p 0)=true then (if iY bs p=true then (r8 bs p,0) else (fS.zero,50))
 else match NA (bs.drop p) with
  | some s=>(⟨3,s,0,p,p+s.length⟩,0)
  | none=>(fS.zero,50)
def lC (bs:List UInt8) (i:Int):fS × Nat:=if i < 0∨i > bs.length then (fS.zero,2) else kf bs (jx bs i.toNat)
def KM (r:fS × Nat) (w:World) (e:Ending) (w':World):Prop:=e = .returned (.tuple #[.agg r.1.cells,.int .i64 (r.2:Int)])∧Below w.heap.size w w'
def FN (W:World) (b:Nat) (v0 v1 v2 v3 v4:Value):World:=((((W.setCell ⟨b,0,none⟩ v0).setCell ⟨b,1,none⟩ v1).setCell ⟨b,2,none⟩ v2).setCell ⟨b,3,none⟩ v3).setCell ⟨b,4,none⟩ v4
def kg (w:World):World:=w.alloc (.cells #[.int .i64 0,.string ⟨#[]⟩,.int .u64 0,.int .i64 0,.int .i64 0] 112)
theorem jg (w:World):(kg w).heap.size=w.heap.size+1:=by simp [kg]
theorem pK (w:World):Below w.heap.size w (kg w):=(Below.refl _ _).alloc (aA _) _
theorem qy (w W:World) (hb:Below (kg w).heap.size (kg w) W) (v0 v1 v2 v3 v4:Value) :
 (FN W w.heap.size v0 v1 v2 v3 v4).cell? ⟨w.heap.size,0,none⟩=some v0∧(FN W w.heap.size v0 v1 v2 v3 v4).cell? ⟨w.heap.size,1,none⟩=some v1∧(FN W w.heap.size v0 v1 v2 v3 v4).cell? ⟨w.heap.size,2,none⟩=some v2 ∧
 (FN W w.heap.size v0 v1 v2 v3 v4).cell? ⟨w.heap.size,3,none⟩=some v3∧(FN W w.heap.size v0 v1 v2 v3 v4).cell? ⟨w.heap.size,4,none⟩=some v4∧Below w.heap.size w (FN W w.heap.size v0 v1 v2 v3 v4):=by
 have KN:∀ k:Nat,k < 5→∃ v,W.cell? ⟨w.heap.size,k,none⟩=some v:=by
  intro k hk;rw [hb.cell (p:=⟨w.heap.size,k,none⟩) (by rw [jg];exact qz _)];simp only [kg,World.cell?,World.alloc,Array.getElem?_push_size];have:k=0∨k=1∨k=2∨k=3∨k=4:=ak;rcases this with rfl | rfl | rfl | rfl | rfl<;>exact ⟨_,rfl⟩
 obtain ⟨u0,h0⟩:=KN 0 ak;obtain ⟨u1,h1⟩:=KN 1 ak;obtain ⟨u2,h2⟩:=KN 2 ak;obtain ⟨u3,h3⟩:=KN 3 ak;obtain ⟨u4,h4⟩:=KN 4 ak;have p8:Below w.heap.size w W:=(pK w).trans (hb.mono (by rw [jg];omega));unfold FN;refine ⟨?_,?_,?_,?_,?_,?_⟩
 ·exact (iM _ _ 4 0 _ bH).trans ((iM _ _ 3 0 _ bH).trans ((iM _ _ 2 0 _ bH).trans ((iM _ _ 1 0 _ bH).trans (World.cell?_setCell_same _ _ _ (u:=u0) (h0)))))
 ·exact (iM _ _ 4 1 _ bH).trans ((iM _ _ 3 1 _ bH).trans ((iM _ _ 2 1 _ bH).trans (World.cell?_setCell_same _ _ _ (u:=u1) ((iM _ _ 0 1 _ bH).trans (h1)))))
 ·exact (iM _ _ 4 2 _ bH).trans ((iM _ _ 3 2 _ bH).trans (World.cell?_setCell_same _ _ _ (u:=u2) ((iM _ _ 1 2 _ bH).trans ((iM _ _ 0 2 _ bH).trans (h2)))))
 ·exact (iM _ _ 4 3 _ bH).trans (World.cell?_setCell_same _ _ _ (u:=u3) ((iM _ _ 2 3 _ bH).trans ((iM _ _ 1 3 _ bH).trans ((iM _ _ 0 3 _ bH).trans (h3)))))
 ·exact World.cell?_setCell_same _ _ _ (u:=u4) ((iM _ _ 3 4 _ bH).trans ((iM _ _ 2 4 _ bH).trans ((iM _ _ 1 4 _ bH).trans ((iM _ _ 0 4 _ bH).trans h4))))
 ·exact ((((p8.setCell (aA _) _).setCell (aA _) _).setCell (aA _) _).setCell (aA _) _).setCell (aA _) _
theorem rj (w W:World) (hb:Below (kg w).heap.size (kg w) W) (k:Nat):W.cell? ⟨w.heap.size,k,none⟩=(w.alloc (.cells #[.int .i64 0,.string ⟨#[]⟩,.int .u64 0,.int .i64 0,.int .i64 0] 112)).cell? ⟨w.heap.size,k,none⟩ :=
 hb.cell (p:=⟨w.heap.size,k,none⟩) (by rw [jg];exact qz _)
theorem oq (w W:World) (hb:Below (kg w).heap.size (kg w) W) (k:Nat):W.frozen? ⟨w.heap.size,k,none⟩=(w.alloc (.cells #[.int .i64 0,.string ⟨#[]⟩,.int .u64 0,.int .i64 0,.int .i64 0] 112)).frozen? ⟨w.heap.size,k,none⟩ :=
 hb.frozen (p:=⟨w.heap.size,k,none⟩) (by rw [jg];exact qz _)
set_option maxRecDepth 100000 in
theorem Ua (v:Value) (n:Nat) (i:Int) (w:World) (hv:∃ a cap,v = .slice a n cap) (hi:i < 0∨(¬ i < 0∧i > n)):Calls prog 128 #[v,.int .i64 i] w (KM (fS.zero,2) w):=by
 obtain ⟨a,cap,rfl⟩:=hv;rcases hi with h | ⟨h,h'⟩
 all_goals
  go_enter func128,Tryz.ntmps128
  go_wp2_with fail
  exact bodyPost_ret (v:=.tuple #[.agg fS.zero.cells,.int .i64 2]) (by simp [results,Tryz.results128,fS.cells,fS.zero,go_sem]) rfl ⟨rfl,(Below.refl _ _).alloc (aA _) _⟩
set_option maxRecDepth 100000 in
theorem take_nil (w:World):Calls prog 128 #[.slice none 0 0,.int .i64 0] w (KM (lC [] 0) w):=by
 go_enter func128,Tryz.ntmps128
 go_wp2_with fail
 refine (Ra _).mono ?_;rintro e w1 ⟨rfl,rfl⟩
 go_wp2_with fail
 exact bodyPost_ret (v:=.tuple #[.agg (lC [] 0).1.cells,.int .i64 0]) (by simp [results,Tryz.results128,fS.cells,lC,kf,jx,Q2,go_sem]) rfl ⟨rfl,(Below.refl _ _).alloc (aA _) _⟩
set_option maxRecDepth 100000 in
theorem Ub (g off cap:Nat) (bs:List UInt8) (k p:Nat) (w:World) (hg:g < w.heap.size) (gh:bs.length≤cap) (yM:cap≤9223372036854775807) (hk:k≤bs.length)
 (IF:jx bs k=p) (hc:∀ j u,(bv bs)[j]? = some u→w.cell? ⟨g,off+j,none⟩=some u) (hp:p=bs.length) :
 Calls prog 128 #[.slice (some ⟨g,off,none⟩) bs.length cap,.int .i64 (k:Int)] w (KM (kf bs p) w):=by
 have hr:kf bs p=(⟨0,[],0,p,p⟩,0):=by unfold kf;rw [if_pos hp]
 rw [hr];have abK:p≤bs.length:=by rw [← IF];exact qw bs k
 have oD:=fun W hg hc=>tF g off cap bs k W hg gh ak hk hc;rw [IF] at oD;have yZ:=Lib.hid oD;have HC:=Lib.hid hc;clear oD hc IF;have uA:(k:Int)≤bs.length:=ak;have hpe:((p:Int) == (bs.length:Int))=true:=iK.2 ak;clear hr hp
 go_enter func128,Tryz.ntmps128
 go_wp2_with fail
 refine (yZ.out _ fk (fun j u hu=>by rw [iX _ _ _ hg];exact HC.out j u hu)).mono ?_;rintro e w2 ⟨rfl,xV⟩;have ve:Below (kg w).heap.size (kg w) w2:=xV;clear xV;have XN:Below w.heap.size w w2:=(pK w).trans (ve.mono (by rw [jg];omega));have Is:=ve.size;rw [jg] at Is;have l8:∀ j u,(bv bs)[j]? = some u→w2.cell? ⟨g,off+j,none⟩=some u:=fun j u hu=>by rw [XN.cell (p:=⟨g,off+j,none⟩) hg];exact HC.out j u hu
 have Wu:=Lib.hid l8;have Pa:=Lib.hid ve;clear l8;have qW:=rj w w2 Pa.out;have vI:=oq w w2 Pa.out;clear ve
 go_wp2_with fail
 obtain ⟨c0,c1,c2,c3,c4,Eb⟩:=qy w w2 Pa.out (.int .i64 0) (.string ⟨#[]⟩) (.int .u64 0) (.int .i64 (p:Int)) (.int .i64 (p:Int));change bodyPost _ _ _ _ _ (FN w2 w.heap.size (.int .i64 0) (.string ⟨#[]⟩) (.int .u64 0) (.int .i64 (p:Int)) (.int .i64 (p:Int)));generalize FN w2 w.heap.size (.int .i64 0) (.string ⟨#[]⟩) (.int .u64 0) (.int .i64 (p:Int)) (.int .i64 (p:Int))=W5 at *;clear qW vI;refine bodyPost_ret (v:=.tuple #[.agg (fS.mk 0 [] 0 p p).cells,.int .i64 0]) ?_ rfl ⟨rfl,Eb⟩;simp [results,Tryz.results128,fS.cells,c0,c1,c2,c3,c4,go_sem]
set_option maxRecDepth 100000 in
theorem KO (g off cap:Nat) (bs:List UInt8) (k p:Nat) (w:World) (ht:xX w) (hg:g < w.heap.size) (gh:bs.length≤cap) (yM:cap≤9223372036854775807) (hk:k≤bs.length)
 (IF:jx bs k=p) (hc:∀ j u,(bv bs)[j]? = some u→w.cell? ⟨g,off+j,none⟩=some u) (hp:p < bs.length) (hl:fJ (bs.getD p 0)=true) :
 Calls prog 128 #[.slice (some ⟨g,off,none⟩) bs.length cap,.int .i64 (k:Int)] w (KM (kf bs p) w):=by
 obtain ⟨e,he⟩:=aV (kS nu bs p);have heb:=KF nu bs p ak;rw [he] at heb;obtain ⟨tx,Rd⟩:=aV (uc bs p e)
 have htl:tx.length=e - p:=by
  rw [← Rd];unfold uc;rw [cg,eG];omega
 have Cs:bs[p]? = some (bs.getD p 0):=by rw [dm,au hp];rfl
 have hbp:=tE Cs
 have wG:∀ j u,(bv tx)[j]? = some u→(bv bs)[p+j]? = some u:=by
  intro j u hu;rw [← Rd] at hu;unfold uc bv at hu;rw [og,yz,bp] at hu
  split at hu
  ·rw [dS] at hu;exact hu
  ·cases hu
 have T8:∀ (args:Array Value) (w:World),(callFunc 156 args).run prog w = .ok (.enter 156 args) w:=by
  intro args w;simp [go_sem]
 have Uc:=fun W hv=>Gx 156 nu T8 (fun c w=>XL c _ rfl w) W.heap.size (.slice (some ⟨g,off,none⟩) bs.length cap) bs p W hv ak ak;rw [he] at Uc
 have hr:∀ b:Bool,ia tx=b→kf bs p=(⟨if b=true then 4 else 1,tx,0,p,e⟩,0):=by
  intro b hb;unfold kf;rw [aq ak,aD hl,he,Rd,hb]
 have Pb:(p:Int) < bs.length:=ak;have hpe:((p:Int) == (bs.length:Int))=false:=cB.2 ak;have hpc:p < cap:=ak;have amX:(p:Int)≤e:=ak;have amY:(e:Int)≤cap:=ak;have abK:p≤bs.length:=by rw [← IF];exact qw bs k
 have oD:=fun W hg hc=>tF g off cap bs k W hg gh ak hk hc;rw [IF] at oD;have yZ:=Lib.hid oD;have HC:=Lib.hid hc;clear oD hc IF;have uA:(k:Int)≤bs.length:=ak;have HBP:=Lib.hid hbp;have abM:=Lib.hid wG;have afc:=Lib.hid Uc;have HR:=Lib.hid hr;have HL:=Lib.hid hl;have HTL:=Lib.hid htl;clear hbp wG Uc hr hl htl Rd he Cs T8;generalize bs.getD p 0=c at *
 go_enter func128,Tryz.ntmps128
 go_wp2_with fail
 refine (yZ.out _ fk (fun j u hu=>by rw [iX _ _ _ hg];exact HC.out j u hu)).mono ?_;rintro e w2 ⟨rfl,xV⟩;have ve:Below (kg w).heap.size (kg w) w2:=xV;clear xV;have XN:Below w.heap.size w w2:=(pK w).trans (ve.mono (by rw [jg];omega));have Is:=ve.size;rw [jg] at Is;have l8:∀ j u,(bv bs)[j]? = some u→w2.cell? ⟨g,off+j,none⟩=some u:=fun j u hu=>by rw [XN.cell (p:=⟨g,off+j,none⟩) hg];exact HC.out j u hu
 have Wu:=Lib.hid l8;have Pa:=Lib.hid ve;clear l8;have FF:w2.cell? ⟨g,off+p,none⟩=some (.int .u8 (c.toNat:Int)):=Wu.out p _ HBP.out;have zx:=ht.below XN;clear ve
 go_wp2_with fail
 refine (sx c _ rfl _).mono ?_;rintro e' w3 ⟨rfl,rfl⟩;rw [HL.out]
 go_wp2_with fail
 refine (afc.out _ ?_).mono ?_
 ·exact .inr ⟨g,off,cap,rfl,ak,gh,by unfold maxLen;omega,Wu.out⟩
 rintro e' w3 ⟨rfl,rfl⟩;have S7:(convert 57 9 (.slice (some ⟨g,off+p,none⟩) (e - p) (cap - p))).run prog w2 = .ok (.string ⟨tx.toArray⟩) w2:=vc g (off+p) (cap - p) (e - p) tx w2 HTL.out (fun j u hu=>by rw [show off+p+j=off+(p+j) by omega];exact Wu.out _ _ (abM.out j u hu))
 go_wp2_with fail
 have QD:=fun W ht=>T5 ⟨tx.toArray⟩ W ht;rw [show (ByteArray.mk tx.toArray).data.toList=tx by simp] at QD;have HRS:=Lib.hid QD;have ht3:∀ o:Obj,xX (w2.alloc o):=fun o=>zx.below ((Below.refl _ _).alloc (aA _) o);have XO:∀ o:Obj,Below (kg w).heap.size (kg w) (w2.alloc o):=fun o=>Pa.out.alloc Pa.out.size o;have qW:=fun o=>rj w (w2.alloc o) (XO o);have vI:=fun o=>oq w (w2.alloc o) (XO o);have HHB:=Lib.hid XO;clear QD XO;refine (HRS.out _ (ht3 _)).mono ?_;rintro e' w3 ⟨rfl,rfl⟩;clear ht3 S7;cases hv:ia tx
 ·have NB:=Lib.hid (HR.out false hv);clear HR HRS hv
  go_wp2_with fail
  obtain ⟨c0,c1,c2,c3,c4,Eb⟩:=qy w (w2.alloc (.cells #[.int .i64 1,.string ⟨tx.toArray⟩,.int .u64 0,.int .i64 (p:Int),.int .i64 (e:Int)] 112)) (HHB.out _) (.int .i64 1) (.string ⟨tx.toArray⟩) (.int .u64 0) (.int .i64 (p:Int)) (.int .i64 (e:Int));change bodyPost _ _ _ _ _ (FN (w2.alloc (.cells #[.int .i64 1,.string ⟨tx.toArray⟩,.int .u64 0,.int .i64 (p:Int),.int .i64 (e:Int)] 112)) w.heap.size (.int .i64 1) (.string ⟨tx.toArray⟩) (.int .u64 0) (.int .i64 (p:Int)) (.int .i64 (e:Int)));generalize FN (w2.alloc (.cells #[.int .i64 1,.string ⟨tx.toArray⟩,.int .u64 0,.int .i64 (p:Int),.int .i64 (e:Int)] 112)) w.heap.size (.int .i64 1) (.string ⟨tx.toArray⟩) (.int .u64 0) (.int .i64 (p:Int)) (.int .i64 (e:Int))=W5 at *;clear qW vI;refine bodyPost_ret (v:=.tuple #[.agg (fS.mk 1 tx 0 p e).cells,.int .i64 0]) ?_ rfl ?_
  ·simp [results,Tryz.results128,fS.cells,c0,c1,c2,c3,c4,go_sem]
  ·rw [NB.out];exact ⟨rfl,Eb⟩
 ·have NB:=Lib.hid (HR.out true hv);clear HR HRS hv
  go_wp2_with fail
  obtain ⟨c0,c1,c2,c3,c4,Eb⟩:=qy w (w2.alloc (.cells #[.int .i64 4,.string ⟨tx.toArray⟩,.int .u64 0,.int .i64 (p:Int),.int .i64 (e:Int)] 112)) (HHB.out _) (.int .i64 4) (.string ⟨tx.toArray⟩) (.int .u64 0) (.int .i64 (p:Int)) (.int .i64 (e:Int));change bodyPost _ _ _ _ _ (FN (w2.alloc (.cells #[.int .i64 4,.string ⟨tx.toArray⟩,.int .u64 0,.int .i64 (p:Int),.int .i64 (e:Int)] 112)) w.heap.size (.int .i64 4) (.string ⟨tx.toArray⟩) (.int .u64 0) (.int .i64 (p:Int)) (.int .i64 (e:Int)));generalize FN (w2.alloc (.cells #[.int .i64 4,.string ⟨tx.toArray⟩,.int .u64 0,.int .i64 (p:Int),.int .i64 (e:Int)] 112)) w.heap.size (.int .i64 4) (.string ⟨tx.toArray⟩) (.int .u64 0) (.int .i64 (p:Int)) (.int .i64 (e:Int))=W5 at *;clear qW vI;refine bodyPost_ret (v:=.tuple #[.agg (fS.mk 4 tx 0 p e).cells,.int .i64 0]) ?_ rfl ?_
  ·simp [results,Tryz.results128,fS.cells,c0,c1,c2,c3,c4,go_sem]
  ·rw [NB.out];exact ⟨rfl,Eb⟩
end Go.Proofs.YtnfnbjjnjjdjdaaGreatDoor
