/- gotypeMore Part 2 of 6 of the proof. -/
import Derived.Test.YtnfnbjjnjjdjdaaGreatDoorGotypeMorea
import Derived.Test.YtnfnbjjnjjdjdaaGreatDoorRows
import Derived.WalkKit
import Derived.WalkSpells
import Derived.WalkLawsBesides
import Derived.Lib.Bytealg
import Derived.Lib.Hide
import Derived.BigQuiet
namespace Go.Ab
open Go.RowKit Go.Av
def lk:List (Nat × V)→Nat→V
 | [],_=>.undef
 | p :: l,t=>cond (p.1 == t) p.2 (lk l t)
def aR (n:Nat) (u:List (Nat × V)):List V:=(List.range n).map (lk u)
theorem kr (a:Nat) (v:V) (u:List (Nat × V)) (t:Nat):lk ((a,v) :: u) t=cond (a == t) v (lk u t):=rfl
theorem Hi (p:Nat × V) (u:List (Nat × V)) (t:Nat):lk (p :: u) t=if p.1=t then p.2 else lk u t:=by
 rw [lk]
 by_cases h:p.1=t
 ·rw [if_pos h,beq_iff_eq.2 h,cond_true]
 ·rw [if_neg h,beq_eq_false_iff_ne.2 h,cond_false]
theorem nu (t:Nat):lk [] t = .undef:=rfl
theorem gV (n:Nat) (u:List (Nat × V)) (t:Nat):(aR n u).getD t .undef=cond (t+1 - n == 0) (lk u t) .undef:=by
 unfold aR
 by_cases h:t < n
 ·have e:(t+1 - n == 0)=true:=beq_iff_eq.2 (by omega)
  rw [e,cond_true]
  simp [List.getD,h]
 ·have e:(t+1 - n == 0)=false:=beq_eq_false_iff_ne.2 (by omega)
  rw [e,cond_false]
  simp [List.getD,h]
theorem zi (I:Inv) (n:Nat) (u:List (Nat × V)) (t:Nat):ai I (aR n u) (.tmp t)=cond (t+1 - n == 0) (lk u t) .undef:=gV n u t
theorem rU (n:Nat) (u:List (Nat × V)) (t:Nat) (v:V):(aR n u).set t v=aR n ((t,v) :: u):=by
 unfold aR
 apply List.ext_getElem
 ·simp
 intro i h1 h2
 simp only [List.length_set,List.length_map,List.length_range] at h1
 rw [List.getElem_set]
 simp only [List.getElem_map,List.getElem_range,Hi]
theorem L1 (n:Nat) (u:List (Nat × V)) (t:Nat) (v:V):aO (aR n u) (some t) v=aR n ((t,v) :: u):=rU n u t v
theorem Pg (n:Nat) (u:List (Nat × V)) (v:V):aO (aR n u) none v=aR n u:=rfl
def gz:Nat→List V→List (Nat × V)
 | _,[]=>[]
 | i,v :: l=>(i,v) :: gz (i+1) l
theorem ur:∀ (l:List V) (i t:Nat),lk (gz i l) t=if i≤t then l.getD (t - i) .undef else .undef
 | [],i,t=>by simp [gz,lk,List.getD]
 | v :: l,i,t=>by
  rw [gz,Hi,ur l (i+1) t]
  by_cases h:i=t
  ·subst h;simp
  ·rw [if_neg h]
   by_cases h2:i≤t
   ·have h3:i+1≤t:=by omega
    have h4:t - i=(t - (i+1))+1:=by omega
    rw [if_pos h3,if_pos h2,h4]
    simp [List.getD]
   ·rw [if_neg h2,if_neg (by omega)]
theorem zj (n:Nat) (args:List V) (h:args.length≤n):args++List.replicate (n - args.length) .undef=aR n (gz 0 args):=by
 unfold aR
 apply List.ext_getElem
 ·simp;omega
 intro i h1 h2
 simp only [List.length_map,List.length_range] at h2
 simp only [List.getElem_map,List.getElem_range,ur,Nat.zero_le,if_true,Nat.sub_zero]
 rw [List.getElem_append]
 split
 ·rename_i h3
  simp [List.getD,h3]
 ·rename_i h3
  simp only [List.getElem_replicate,List.getD]
  rw [List.getElem?_eq_none (by omega)]
  rfl
theorem aF.VZ {P:Program} {I:Inv} {fn:FuncId} {f:Func} {body:Code} {args:List V} {S:Mem} {R:V→Mem→Prop} (n:Nat) (hf:P.funcs[fn]? = some f) (hb:f.body=some body) (oJ:(f.name == "runtime.NumGoroutine")=false) (hn:f.ntmps=n) (hl:args.length≤n)
 (h:CI args=true→af P I (S.boxes.length,S.aL.length) fn [.code body] (aR n (gz 0 args)) S (Left S R)):aF P I fn args S R :=
 aF.Hh hf hb oJ fun hs=>by
  rw [hn,zj n args hl]
  exact h hs
def ay (u:List (Nat × V)):List (Nat × V)→Prop
 | []=>True
 | p :: l=>lk u p.1=p.2∧ay u l
theorem ay.lk {u:List (Nat × V)}:∀ {l:List (Nat × V)},ay u l→∀ t,lk l t = .undef∨lk l t=Ab.lk u t
 | [],_,t=>.inl rfl
 | p :: l,h,t=>by
  rw [Hi]
  by_cases e:p.1=t
  ·rw [if_pos e,← h.1,e];exact .inr rfl
  ·rw [if_neg e];exact ay.lk h.2 t
theorem CJ (f g:Nat→V) (h:∀ t,f t = .undef∨f t=g t):∀ l:List Nat,gO (l.map f) (l.map g)
 | []=>trivial
 | t :: l=>⟨h t,CJ f g h l⟩
theorem ay.env {u l:List (Nat × V)} (n:Nat) (h:ay u l):gO (aR n l) (aR n u):=CJ _ _ h.lk _
def bw (a b:Nat) (u:List (Nat × V)):List (Nat × V)→Prop
 | []=>True
 | p :: l=>(lk u p.1=p.2∧fit a b p.2=true)∧bw a b u l
theorem bw.lk {a b:Nat} {u:List (Nat × V)}:∀ {l:List (Nat × V)},bw a b u l→∀ t,lk l t = .undef∨(lk l t=Ab.lk u t∧fit a b (Ab.lk u t)=true)
 | [],_,t=>.inl rfl
 | p :: l,h,t=>by
  rw [Hi]
  by_cases e:p.1=t
  ·rw [if_pos e,← e,h.1.1];exact .inr ⟨rfl,h.1.2⟩
  ·rw [if_neg e];exact bw.lk h.2 t
theorem zk (a b:Nat) (f g:Nat→V) (h:∀ t,f t = .undef∨(f t=g t∧fit a b (g t)=true)):∀ l:List Nat,qz a b (l.map f) (l.map g)
 | []=>trivial
 | t :: l=>⟨h t,zk a b f g h l⟩
theorem bw.env {a b:Nat} {u l:List (Nat × V)} (n:Nat) (h:bw a b u l):qz a b (aR n l) (aR n u):=zk a b _ _ h.lk _
theorem Jf (u:List (Nat × V)):ay u []=True:=rfl
theorem Fy (u:List (Nat × V)) (t:Nat) (v:V) (l:List (Nat × V)):ay u ((t,v) :: l)=(lk u t=v∧ay u l):=rfl
theorem Fz (a b:Nat) (u:List (Nat × V)):bw a b u []=True:=rfl
theorem CK (a b:Nat) (u:List (Nat × V)) (t:Nat) (v:V) (l:List (Nat × V)):bw a b u ((t,v) :: l)=((lk u t=v∧fit a b v=true)∧bw a b u l):=rfl
def L2 (f:Func):Code :=
 match f.body with
 | some c=>c
 | none=>.skip
def opsOf:Code→Array Oper
 | .region _ o _=>o
 | _=>#[]
def bh (a:Array Oper) (i:Nat):Oper :=
 match a[i]? with
 | some o=>o
 | none=>⟨none,.move (.tmp 0),0, "",#[],none⟩
def RJ (next:dY) (v:V) (a b:Code) (k:List Item) (env:List V) (S:Mem):Prop :=
 match v with
 | .d (.bool t)=>um next t (.code a :: k) env (.code b :: k) env S
 | _=>False
theorem Ph (next:dY) (t:Bool) (a b:Code) (k:List Item) (env:List V) (S:Mem):RJ next (.d (.bool t)) a b k env S=um next t (.code a :: k) env (.code b :: k) env S:=rfl
def L3 (next:dY) (r:Option (List Item)) (env:List V) (S:Mem):Prop :=
 match r with
 | some k=>next k env S
 | none=>False
theorem FA (next:dY) (k:List Item) (env:List V) (S:Mem):L3 next (some k) env S=next k env S:=rfl
def L4 (P:Program) (I:Inv) (next:kg) (S:Mem) (v:V) (want:Bool) (o:Oper) (l:List Oper) (env:List V):Prop :=
 match v with
 | .d (.bool t)=>mh P I next S t want o l env
 | .bY []=>next l (aO env o.dst (.bY []))
 | _=>False
theorem Pj (P:Program) (I:Inv) (next:kg) (S:Mem) (t want:Bool) (o:Oper) (l:List Oper) (env:List V):L4 P I next S (.d (.bool t)) want o l env=mh P I next S t want o l env:=rfl
theorem Pk (P:Program) (I:Inv) (next:kg) (S:Mem) (want:Bool) (o:Oper) (l:List Oper) (env:List V):L4 P I next S (.bY []) want o l env=next l (aO env o.dst (.bY [])):=rfl
def FB (v:V) (want:Bool):V :=
 match v with
 | .d (.bool t)=>.d (.bool (t == want))
 | .bY []=>.d (.bool false)
 | _=>.undef
def Hj (env:List V) (ops:Array Oper) (o:Oper):V :=
 match o.guard with
 | none=>.d (.bool true)
 | some (j,want)=>FB (eO env ops j) want
def dG:Code→List Code→List Code
 | .seq a b,l=>.seq a b :: dG a (dG b l)
 | .cond x a b,l=>.cond x a b :: dG a (dG b l)
 | .block i a,l=>.block i a :: dG a l
 | .loop a,l=>.loop a :: dG a l
 | c,l=>c :: l
def nth:List Code→Nat→Code
 | [],_=>.skip
 | c :: _,0=>c
 | _ :: l,i+1=>nth l i
def AN:Code→Nat
 | .seq a b=>AN a+AN b+1
 | .cond _ a b=>AN a+AN b+1
 | .block _ a=>AN a+1
 | .loop a=>AN a+1
 | _=>1
def kF (f:Func) (i:Nat):Code:=nth (dG (L2 f) []) i
inductive Kx where
 | S (a b c:Nat) | B (a b j:Nat) | C (a:Nat) (x:Operand) (b c:Nat) | L (a b:Nat) | E (a j:Nat) | T (a:Nat) | N (a:Nat) | R (a:Nat) (l:List Nat) | D (a j:Nat) (l:List Nat)
 | r (a j:Nat) (q:Op) (d:Option Tmp) | g (a j t:Nat) (b:Bool) (q:Op) (d:Option Tmp) | q (a j:Nat) (q:Op) (d:Option Tmp) | h (a j t:Nat) (b:Bool) (q:Op) (d:Option Tmp)
def eG (P:Program) (I:Inv) (next stop:dY) (ops:Array Oper) (rest:List Nat) (q:Op) (d:Option Tmp) (k:List Item) (env:List V) (S:Mem):Prop :=
 match q with
 | .call c=>match c.callee with
  | .value f=>rQ P I stop (ai I env f) (c.args.toList.map (ai I env)) (.inRegion ops rest :: k) d env S
  | _=>vQ next (dD P (ai I env) S c) (.inRegion ops rest :: k) d env
 | op=>vQ next (cU P (ai I env) S op) (.inRegion ops rest :: k) d env
def eH (P:Program) (I:Inv) (next:kg) (S:Mem) (q:Op) (d:Option Tmp) (l:List Oper) (env:List V):Prop :=
 match q with
 | .call c=>match c.callee with
  | .value f=>Hg P I next S c (ai I env f) (c.args.toList.map (ai I env)) l d env
  | _=>vV next S (dD P (ai I env) S c) l d env
 | op=>vV next S (cU P (ai I env) S op) l d env
def FC (i:Nat) (draw:Bool) (A:Array Oper):Nat→List Oper→List Kx→List Kx
 | _,[],l=>l
 | j,o :: m,l=>match o.guard with
  | none=>(cond draw (.q i j o.op o.dst) (.r i j o.op o.dst)) :: FC i draw A (j+1) m l
  | some (t,b)=>match (A[t]?).bind (·.dst) with
   | some t=>(cond draw (.h i j t b o.op o.dst) (.g i j t b o.op o.dst)) :: FC i draw A (j+1) m l
   | none=>FC i draw A (j+1) m l
def CL (i:Nat):Code→List Kx→List Kx
 | .seq a b,l=>.S i (i+1) (i+AN a+1) :: CL (i+1) a (CL (i+AN a+1) b l)
 | .cond x a b,l=>.C i x (i+1) (i+AN a+1) :: CL (i+1) a (CL (i+AN a+1) b l)
 | .block j a,l=>.B i (i+1) j :: CL (i+1) a l
 | .loop a,l=>.L i (i+1) :: CL (i+1) a l
 | .exit j,l=>.E i j :: l
 | .ret,l=>.T i :: l
 | .skip,l=>.N i :: l
 | .label _,l=>.N i :: l
 | .region _ A false,l=>.R i (tB 0 A.toList) :: FC i false A 0 A.toList l
 | .region j A true,l=>.D i j (tB 0 A.toList) :: FC i true A 0 A.toList l
 | _,l=>l
def eN (n:Nat→Code):Kx→Prop
 | .S a b c=>∀ (I:Inv) (next stop:dY) (k:List Item) (env:List V) (S:Mem),gU I next stop (n a) k env S=next (.code (n b) :: .code (n c) :: k) env S
 | .B a b j=>∀ (I:Inv) (next stop:dY) (k:List Item) (env:List V) (S:Mem),gU I next stop (n a) k env S=next (.code (n b) :: .inBlock j :: k) env S
 | .C a x b c=>∀ (I:Inv) (next stop:dY) (k:List Item) (env:List V) (S:Mem),gU I next stop (n a) k env S=RJ next (ai I env x) (n b) (n c) k env S
 | .L a b=>∀ (I:Inv) (next stop:dY) (k:List Item) (env:List V) (S:Mem),gU I next stop (n a) k env S=stop (.code (.loop (n b)) :: k) env S
 | .E a j=>∀ (I:Inv) (next stop:dY) (k:List Item) (env:List V) (S:Mem),gU I next stop (n a) k env S=L3 next (exitTo j k) env S
 | .T a=>∀ (I:Inv) (next stop:dY) (k:List Item) (env:List V) (S:Mem),gU I next stop (n a) k env S=stop (.code .ret :: k) env S
 | .N a=>∀ (I:Inv) (next stop:dY) (k:List Item) (env:List V) (S:Mem),gU I next stop (n a) k env S=next k env S
 | .R a l=>∀ (I:Inv) (next stop:dY) (k:List Item) (env:List V) (S:Mem),gU I next stop (n a) k env S=next (.inRegion (opsOf (n a)) l :: k) env S
 | .D a j l=>(∀ (I:Inv) (next stop:dY) (k:List Item) (env:List V) (S:Mem),gU I next stop (n a) k env S=stop (.code (.region j (opsOf (n a)) true) :: k) env S)∧(opsOf (n a)).toList=l.map (bh (opsOf (n a)))
 | .r a j q d=>∀ (P:Program) (I:Inv) (next stop:dY) (rest:List Nat) (k:List Item) (env:List V) (S:Mem),Cz P I next stop (opsOf (n a)) j rest k env S=eG P I next stop (opsOf (n a)) rest q d k env S
 | .g a j t b q d=>(∀ (P:Program) (I:Inv) (next stop:dY) (rest:List Nat) (k:List Item) (env:List V) (S:Mem),Cz P I next stop (opsOf (n a)) j rest k env S=qT P I next stop (env.getD t .undef) b (opsOf (n a)) rest (bh (opsOf (n a)) j) k env S)∧(∀ (P:Program) (I:Inv) (next stop:dY) (rest:List Nat) (k:List Item) (env:List V) (S:Mem),AK P I next stop (opsOf (n a)) rest (bh (opsOf (n a)) j) k env S=eG P I next stop (opsOf (n a)) rest q d k env S)∧(bh (opsOf (n a)) j).dst=d
 | .q a j q d=>(∀ (P:Program) (I:Inv) (nq:kg) (S:Mem) (l:List Oper) (env:List V),rT P I (opsOf (n a)) nq S (bh (opsOf (n a)) j) l env=eH P I nq S q d l env)∧(∀ env,Hj env (opsOf (n a)) (bh (opsOf (n a)) j) = .d (.bool true))∧(bh (opsOf (n a)) j).op=q∧(bh (opsOf (n a)) j).dst=d
 | .h a j t b q d=>(∀ (P:Program) (I:Inv) (nq:kg) (S:Mem) (l:List Oper) (env:List V),rT P I (opsOf (n a)) nq S (bh (opsOf (n a)) j) l env=L4 P I nq S (env.getD t .undef) b (bh (opsOf (n a)) j) l env)∧(∀ (P:Program) (I:Inv) (nq:kg) (S:Mem) (l:List Oper) (env:List V),S9 P I nq S (bh (opsOf (n a)) j) l env=eH P I nq S q d l env)∧(∀ env,Hj env (opsOf (n a)) (bh (opsOf (n a)) j)=FB (env.getD t .undef) b)∧(bh (opsOf (n a)) j).op=q∧(bh (opsOf (n a)) j).dst=d
def KK (n:Nat→Code):List Kx→Prop
 | []=>True
 | x :: l=>eN n x∧KK n l
theorem dH:∀ (c:Code) (l:List Code),∃ m,dG c l=c :: m++l∧m.length+1=AN c
 | .seq a b,l=>by
  obtain ⟨m1,e1,n1⟩:=dH b l
  obtain ⟨m2,e2,n2⟩:=dH a (dG b l)
  exact ⟨a :: m2++(b :: m1),by rw [dG,e2,e1];simp,by simp [AN];omega⟩
 | .cond x a b,l=>by
  obtain ⟨m1,e1,n1⟩:=dH b l
  obtain ⟨m2,e2,n2⟩:=dH a (dG b l)
  exact ⟨a :: m2++(b :: m1),by rw [dG,e2,e1];simp,by simp [AN];omega⟩
 | .block _ a,l=>by
  obtain ⟨m,e,n⟩:=dH a l
  exact ⟨a :: m,by rw [dG,e];simp,by simp [AN];omega⟩
 | .loop a,l=>by
  obtain ⟨m,e,n⟩:=dH a l
  exact ⟨a :: m,by rw [dG,e];simp,by simp [AN];omega⟩
 | .skip,_ | .region _ _ _,_ | .rangeFunc _ _ _ _,_ | .exit _,_ | .scope _,_ | .label _,_ | .goto _,_ | .ret,_ | .refuse _,_=>⟨[],rfl,rfl⟩
theorem dA:∀ (L:List Code) (i:Nat) (c:Code) (m:List Code),L.drop i=c :: m→nth L i=c
 | [],i,c,m,h=>by simp at h
 | x :: L,0,c,m,h=>by simp at h;exact h.1
 | x :: L,i+1,c,m,h=>dA L i c m (by simpa using h)
theorem zl {L:List Code} {i:Nat} {a b:List Code} (h:L.drop i=a++b):L.drop (i+a.length)=b:=by
 rw [← List.drop_drop,h,List.drop_left]
theorem Hl {A:Array Oper} {j:Nat} {o:Oper} (h:A[j]? = some o):bh A j=o:=by unfold bh;rw [h]
theorem AO {n:Nat→Code} {i:Nat} {draw:Bool} {A:Array Oper} (hA:opsOf (n i)=A):∀ (m:List Oper) (j:Nat) (l:List Kx),A.toList.drop j=m→KK n l→KK n (FC i draw A j m l)
 | [],_,_,_,hl=>hl
 | o :: m,j,l,hd,hl=>by
  have hm:A.toList.drop (j+1)=m:=by rw [← List.drop_drop,hd];rfl
  have ho:A[j]? = some o:=by
   have h0:(A.toList.drop j)[0]? = some o:=by rw [hd];rfl
   rw [List.getElem?_drop] at h0
   simpa using h0
  have ih:=AO (draw:=draw) hA m (j+1) l hm hl
  have hp:=Hl ho
  unfold FC
  split
  ·rename_i hg
   refine ⟨?_,ih⟩
   cases draw
   ·intro P I next stop rest k env S
    rw [hA]
    unfold Cz
    rw [ho]
    simp only [hg]
    rfl
   ·refine ⟨?_,fun env=>by rw [hA,hp];unfold Hj;simp only [hg],by rw [hA,hp],by rw [hA,hp]⟩
    intro P I nq S l env
    rw [hA,hp]
    unfold rT
    simp only [hg]
    rfl
  ·rename_i t b hg
   split
   ·rename_i t2 ht
    have hv:∀ env:List V,eO env A t=env.getD t2 .undef:=fun env=>by unfold eO;rw [ht]
    refine ⟨?_,ih⟩
    cases draw
    ·refine ⟨?_,?_,by rw [hA,hp]⟩
     ·intro P I next stop rest k env S
      rw [hA,hp]
      unfold Cz
      rw [ho]
      simp only [hg,hv]
     ·intro P I next stop rest k env S
      rw [hA,hp]
      rfl
    ·refine ⟨?_,?_,fun env=>by rw [hA,hp];unfold Hj;simp only [hg,hv],by rw [hA,hp],by rw [hA,hp]⟩
     ·intro P I nq S l env
      rw [hA,hp]
      unfold rT
      simp only [hg,hv]
      rfl
     ·intro P I nq S l env
      rw [hA,hp]
      rfl
   ·exact ih
theorem CM (A:Array Oper):∀ (l:List Oper) (i:Nat),A.toList.drop i=l→(tB i l).map (bh A)=l
 | [],_,_=>rfl
 | o :: m,i,h=>by
  have hm:A.toList.drop (i+1)=m:=by rw [← List.drop_drop,h];rfl
  have ho:A[i]? = some o:=by
   have h0:(A.toList.drop i)[0]? = some o:=by rw [h];rfl
   rw [List.getElem?_drop] at h0
   simpa using h0
  rw [tB,List.map_cons,Hl ho,CM A m (i+1) hm]
theorem nv (L:List Code):∀ (c:Code) (i:Nat) (rest:List Code) (l:List Kx),L.drop i=dG c rest→KK (nth L) l→KK (nth L) (CL i c l)
 | .seq a b,i,rest,l,h,hl=>by
  obtain ⟨m1,e1,n1⟩:=dH b rest
  obtain ⟨m2,e2,n2⟩:=dH a (dG b rest)
  have h1:L.drop (i+1)=dG a (dG b rest):=by rw [← List.drop_drop,h];rfl
  have h2:L.drop (i+AN a+1)=dG b rest:=by
   have:=zl (h1.trans e2)
   rw [← this];congr 1;simp;omega
  have k0:=dA L i _ _ h
  have k1:=dA L (i+1) _ _ (h1.trans e2)
  have k2:=dA L (i+AN a+1) _ _ (h2.trans e1)
  refine ⟨?_,nv L a (i+1) _ _ h1 (nv L b _ _ _ h2 hl)⟩
  intro I next stop k env S
  rw [k0,k1,k2];rfl
 | .cond x a b,i,rest,l,h,hl=>by
  obtain ⟨m1,e1,n1⟩:=dH b rest
  obtain ⟨m2,e2,n2⟩:=dH a (dG b rest)
  have h1:L.drop (i+1)=dG a (dG b rest):=by rw [← List.drop_drop,h];rfl
  have h2:L.drop (i+AN a+1)=dG b rest:=by
   have:=zl (h1.trans e2)
   rw [← this];congr 1;simp;omega
  have k0:=dA L i _ _ h
  have k1:=dA L (i+1) _ _ (h1.trans e2)
  have k2:=dA L (i+AN a+1) _ _ (h2.trans e1)
  refine ⟨?_,nv L a (i+1) _ _ h1 (nv L b _ _ _ h2 hl)⟩
  intro I next stop k env S
  rw [k0,k1,k2];rfl
 | .block j a,i,rest,l,h,hl=>by
  obtain ⟨m,e,n⟩:=dH a rest
  have h1:L.drop (i+1)=dG a rest:=by rw [← List.drop_drop,h];rfl
  have k0:=dA L i _ _ h
  have k1:=dA L (i+1) _ _ (h1.trans e)
  refine ⟨?_,nv L a (i+1) _ _ h1 hl⟩
  intro I next stop k env S
  rw [k0,k1];rfl
 | .loop a,i,rest,l,h,hl=>by
  obtain ⟨m,e,n⟩:=dH a rest
  have h1:L.drop (i+1)=dG a rest:=by rw [← List.drop_drop,h];rfl
  have k0:=dA L i _ _ h
  have k1:=dA L (i+1) _ _ (h1.trans e)
  refine ⟨?_,nv L a (i+1) _ _ h1 hl⟩
  intro I next stop k env S
  rw [k0,k1];rfl
 | .region j A false,i,rest,l,h,hl=>by
  have k0:=dA L i _ _ h
  refine ⟨?_,AO (by rw [k0];rfl) _ _ _ rfl hl⟩
  intro I next stop k env S
  rw [k0];rfl
 | .region j A true,i,rest,l,h,hl=>by
  have k0:=dA L i _ _ h
  refine ⟨⟨?_,?_⟩,AO (by rw [k0];rfl) _ _ _ rfl hl⟩
  ·intro I next stop k env S
   rw [k0];rfl
  ·rw [k0];exact (CM A _ 0 rfl).symm
 | .skip,i,rest,l,h,hl=>⟨fun I next stop k env S=>by rw [dA L i _ _ h];rfl,hl⟩
 | .label _,i,rest,l,h,hl=>⟨fun I next stop k env S=>by rw [dA L i _ _ h];rfl,hl⟩
 | .ret,i,rest,l,h,hl=>⟨fun I next stop k env S=>by rw [dA L i _ _ h];rfl,hl⟩
 | .exit j,i,rest,l,h,hl=>⟨fun I next stop k env S=>by rw [dA L i _ _ h];unfold gU L3;rfl,hl⟩
 | .rangeFunc _ _ _ _,_,_,_,_,hl | .scope _,_,_,_,_,hl | .goto _,_,_,_,_,hl | .refuse _,_,_,_,_,hl=>hl
theorem aM (f:Func) {t:List Kx} (h:CL 0 (L2 f) []=t):KK (kF f) t:=by
 subst h
 exact nv _ _ 0 [] [] rfl trivial
def bI (P:Program) (fn:FuncId) (f:Func) (n:Nat):Prop:=P.funcs[fn]? = some f∧(f.body,f.name == "runtime.NumGoroutine",f.ntmps)=(some (kF f 0),false,n)
theorem bI.run {P:Program} {I:Inv} {fn:FuncId} {f:Func} {n:Nat} (b:bI P fn f n) {args:List V} {S:Mem} {R:V→Mem→Prop} (hl:Nat.ble args.length n=true)
 (h:CI args=true→af P I (S.boxes.length,S.aL.length) fn [.code (kF f 0)] (aR n (gz 0 args)) S (Left S R)):aF P I fn args S R :=
 aF.VZ n b.1 (Prod.mk.inj b.2).1 (Prod.mk.inj (Prod.mk.inj b.2).2).1 (Prod.mk.inj (Prod.mk.inj b.2).2).2 (Nat.le_of_ble_eq_true hl) h
theorem bI.go {P:Program} {I:Inv} {fn:FuncId} {f:Func} {n:Nat} (b:bI P fn f n) {args:List V} {S:Mem} {R:V→Mem→Prop} (m:Nat) (hl:Nat.ble args.length n=true)
 (h:CI args=true→steps P I m (fun k env S'=>af P I (S.boxes.length,S.aL.length) fn k env S' (Left S R)) [.code (kF f 0)] (aR n (gz 0 args)) S):aF P I fn args S R :=
 b.run hl fun hs=>af.go m (h hs)
abbrev aB (v:V) (S:Mem):V→Mem→Prop:=fun v' S'=>v' = v∧S' = S
def Cx.bare (c:Cx) (w:World) (hM:∀ g k,c.M g k→c.I.top≤g∧g < w.heap.size):Cx:=⟨w.heap.size,[],[],c.I,c.M,hM⟩
theorem dz.ZG {c:Cx} {w:World} {S:Mem} (h:dz c w S) (g k:Nat) (hm:c.M g k):c.I.top≤g∧g < w.heap.size:=by
 refine ⟨?_,?_⟩
 ·have hB:=h.hB.1
  rcases hm with (hm | hm) | ⟨t,i,off,ht,ha,h1,h2⟩
  ·exact (c.hX _ _ hm).1
  ·obtain ⟨i,hi⟩:=jj.1 hm
   have:=(h.box i g hi).1
   omega
  ·obtain ⟨a1,a2,a3,a4,a5⟩:=h.tok t i ht
   have au:i.n < i.cap:=by
    rcases Nat.lt_or_ge i.n i.cap with h' | h'
    ·exact h'
    ·have:=Nat.mul_le_mul_right i.sz h'
     omega
   have:=(a5 au g off ha).1
   omega
 ·rcases Nat.lt_or_ge g w.heap.size with h' | h'
  ·exact h'
  ·exact absurd hm (h.vD h')
theorem VR.move {c c':Cx} {w:World} {v:V} {x:Value} (h:VR c w v x) (hM:∀ g k,c'.M g k→c.M g k):VR c' w (wk 0 0 v) x:=by
 have hd:∀ {d:D} {x:Value},DR c.M w d x→DR c'.M w d x:=fun h=>h.mono fun _ _ _ hm hv=>⟨fun h=>hm (hM _ _ h),hv⟩
 induction h with
 | undef v=>unfold wk;exact .undef v
 | d x v h=>unfold wk;exact .d x v (hd h)
 | full rows a h ha=>unfold wk;exact .d _ _ (hd h)
 | own rows t a cap i h ht hr hn hl =>
  unfold wk
  rw [if_neg (by omega)]
  exact .d _ _ (hd h)
 | ptr i k b h hT =>
  unfold wk
  rw [if_neg (by omega)]
  exact .undef _
 | bx i k cap b h hn hm hT =>
  unfold wk
  rw [if_neg (by omega)]
  exact .undef _
 | mp i b h =>
  unfold wk
  rw [if_neg (by omega)]
  exact .undef _
 | self i T b v h hT hv =>
  unfold wk
  rw [if_neg (by omega)]
  exact .undef _
 | buf rows t T v h hT ih =>
  unfold wk at ih ⊢
  rw [if_neg (by omega)] at ih ⊢
  exact ih
 | gp row k g o f h =>
  unfold wk
  refine .gp row k g o f fun q hq=>?_
  obtain ⟨a,b,d⟩:=h q hq
  exact ⟨fun h=>a (hM _ _ h),b,hd d⟩
 | iG=>unfold wk;exact .iG
 | kM=>unfold wk;exact .kM
 | func f first caps cf cc h1 h2 h3 h4 Ly lM =>
  unfold wk
  rw [iO,iO]
  exact .func f _ _ cf cc (by simpa using h1) (by simpa using h2) (fun j hj=>by simpa using Ly j (by simpa using hj)) (fun j hj=>by simpa using lM j (by simpa using hj))
 | agg vs cs h1 h2 h3 ih =>
  unfold wk
  rw [iO]
  exact .agg _ cs (by simpa using h1) (fun j hj=>by simpa using ih j (by simpa using hj)) (fun j hj=>h3 j (by simpa using hj))
 | bY vs cs h1 h2 ih =>
  unfold wk
  rw [iO]
  exact .bY _ cs (by simpa using h1) (fun j hj=>by simpa using ih j (by simpa using hj))
theorem aF.frame {P:Program} {I:Inv} {f:FuncId} {args:List V} {R:V→Mem→Prop} (h:aF P I f (uW 0 0 args) ⟨[],[]⟩ R) (S:Mem):aF P I f args S fun v S'=>S' = S∧∃ v0 S0,R v0 S0∧v=wk 0 0 v0:=by
 refine ⟨h.1,fun c w xs h1 h2 h3 hI cs=>?_⟩
 have hM:=h3.ZG
 have Lc:∀ g k,(c.bare w hM).M g k↔c.M g k:=by
  intro g k
  constructor
  ·rintro ((h' | h') | ⟨t,i,off,ht,_⟩)
   ·exact h'
   ·simp [Cx.bare] at h'
   ·simp [Cx.bare] at ht
  ·exact fun h'=>.inl (.inl h')
 have hr:dz (c.bare w hM) w ⟨[],[]⟩ :=
  ⟨⟨by have:=h3.hB;show c.I.top≤w.heap.size;omega,Nat.le_refl _⟩,rfl,fun i b h=>by simp [Cx.bare] at h,fun i j b h=>by simp [Cx.bare] at h,rfl,fun t i h=>by simp [Cx.bare] at h,fun t t' i i' g off th h=>by simp [Cx.bare] at h,
    fun w' hw=>h3.inv w' (hw.mono h3.hB.2)⟩
 have Jg:(uW 0 0 args).length=args.length:=by rw [iO,List.length_map]
 obtain ⟨e,w',fr,⟨v,x,S0,c',rfl,a2,a3,a4,a5⟩,r⟩:=h.2 (c.bare w hM) w xs (by rw [Jg];exact h1) (fun j hj=>by
  have eS:j < args.length:=by rw [← Jg];exact hj
  have e:(uW 0 0 args)[j]=wk 0 0 args[j]:=by simp [iO]
  rw [e]
  exact (h2 j eS).move fun g k h'=>(Lc g k).1 h') hr hI cs
 have hb:Below w.heap.size w w':=a4.below
 obtain ⟨q1,q2⟩:=h3.under hb
 refine ⟨.returned x,w',fr,⟨wk 0 0 v,x,S,c,rfl,⟨rfl,v,S0,a2,rfl⟩,q1,q2,?_⟩,r⟩
 refine a5.move fun g k hm=>?_
 have hX:c'.X=c.M:=a4.X
 refine .inl (.inl ?_)
 show c'.X g k
 rw [hX]
 exact hm
theorem aF.same {P:Program} {I:Inv} {f:FuncId} {args:List V} {v:V} (h:aF P I f args ⟨[],[]⟩ (aB v ⟨[],[]⟩)) (hd:uW 0 0 args=args) (hv:wk 0 0 v=v) (S:Mem):aF P I f args S (aB v S) :=
 aF.mono (aF.frame (R:=aB v ⟨[],[]⟩) (by rw [hd];exact h) S) fun v' S' h=>by
  obtain ⟨h1,v0,S0,⟨h2,_⟩,h3⟩:=h
  exact ⟨by rw [h3,h2,hv],h1⟩
theorem af.FD {P:Program} {I:Inv} {z:Nat × Nat} {fn:FuncId} {R:V→Mem→Prop} {k:List Item} {env:List V} {S:Mem} (h:(∀ t,fit S.boxes.length S.aL.length (env.getD t .undef)=true)→af P I z fn k env S R):af P I z fn k env S R :=
 fun b a c w c0 w0 h1 h2 h3 h4 h5 h6 hI=>h (fun t=>by
  have:=(h4.get t).fits
  rw [h5.len,h5.aL,List.length_map]
  exact this) b a c w c0 w0 h1 h2 h3 h4 h5 h6 hI
def gd {α β:Type} (e:α→β→Bool):List α→List β→Bool
 | [],[]=>true
 | x :: a,y :: b=>e x y && gd e a b
 | _,_=>false
theorem lR {α β:Type} (e:α→β→Bool):∀ (a:List α) (b:List β),a.length ≠ b.length→gd e a b=false
 | [],[],h=>absurd rfl h
 | [],_ :: _,_=>rfl
 | _ :: _,[],_=>rfl
 | x :: a,y :: b,h=>by rw [gd,lR e a b (by simpa using h),Bool.and_false]
theorem kR {α β:Type} (e:α→β→Bool) (a:List α) (b:List β) (i:Nat) (h:i < a.length) (h':i < b.length):gd e (a.drop i) (b.drop i)=(e a[i] b[i] && gd e (a.drop (i+1)) (b.drop (i+1))):=by
 rw [List.drop_eq_getElem_cons h,List.drop_eq_getElem_cons h',gd]
theorem nx {α β:Type} (e:α→β→Bool) (a:List α) (b:List β) (i:Nat) (h:a.length≤i) (h':b.length≤i):gd e (a.drop i) (b.drop i)=true:=by
 rw [List.drop_eq_nil_of_le h,List.drop_eq_nil_of_le h',gd]
theorem Left.empty {R:V→Mem→Prop} {v:V} {S':Mem} (h:R (wk 0 0 v) ⟨[],[]⟩):Left ⟨[],[]⟩ R v S':=⟨[],S'.boxes,[],S'.aL,rfl,rfl,rfl,fun i vs h=>by simp at h,h⟩
section
variable {P:Program} {I:Inv} {ops:Array Oper} {W:List Nat} {M:Nat→Mem}
def QA (P:Program) (I:Inv) (ops:Array Oper) (M:Nat→Mem) (o:Oper) (env cF:List V):Prop:=∀ b,∃ v,YA P I ops o env (M b) v∧cF=aO env o.dst v
def WA (P:Program) (I:Inv) (ops:Array Oper) (M:Nat→Mem) (o:Oper) (env:List V) (a:Nat) (v:V):Prop:=ek env ops o∧cU P (ai I env) (M a) o.op=some (v,M (a+1))
theorem WA.congr {o:Oper} {env:List V} {d:Option Tmp} {x v:V} {a:Nat} (h:∀ t,d=some t→t ∉ o.looksAt ops):WA P I ops M o (aO env d x) a v↔WA P I ops M o env a v:=by
 cases d with
 | none=>rfl
 | some t =>
  have h:=h t rfl
  unfold WA
  have he:∀ y∈o.op.operands,ai I (env.set t x) y=ai I env y:=fun y hy=>pS (rR h y hy)
  have hw:ek (env.set t x) ops o↔ek env ops o:=by
   unfold ek
   constructor
   ·rintro (h1 | ⟨j,t,h1,h2⟩)
    ·exact .inl h1
    ·exact .inr ⟨j,t,h1,by rw [← eP (dO h h1)];exact h2⟩
   ·rintro (h1 | ⟨j,t,h1,h2⟩)
    ·exact .inl h1
    ·exact .inr ⟨j,t,h1,by rw [eP (dO h h1)];exact h2⟩
  show ek (env.set t x) ops o∧cU P (ai I (env.set t x)) (M a) o.op=_↔_
  rw [hw,pT o.op he]
theorem L5 (env:List V) (d:Option Tmp) (v:V):(aO env d v).length=env.length:=by
 cases d with
 | none=>rfl
 | some t=>simp [aO]
theorem QA.len {o:Oper} {env cF:List V} (h:QA P I ops M o env cF):cF.length=env.length:=by
 obtain ⟨v,_,rfl⟩:=h 0
 exact L5 _ _ _
def rV (ops:Array Oper) (listed:Array Bool) (i:Nat) (oi:Oper):Prop:=∀ j oj,ops[j]? = some oj→j ≠ i→listed.getD j true=false→(∀ e∈oj.after,Region.binds .any e=true→e.on ≠ i)→oi.apart ops oj=true
theorem rV.next {listed:Array Bool} {i j:Nat} {oi:Oper} (h:rV ops listed i oi) (hj:listed.getD j true=false):rV ops (listed.setIfInBounds j true) i oi:=fun k ok hk mO lQ AM=>by
 refine h k ok hk mO ?_ AM
 by_cases pU:j=k
 ·subst pU;exact hj
 ·rw [getD_set_ne true pU] at lQ;exact lQ
theorem rV.apart {listed:Array Bool} {i j:Nat} {oi oj:Oper} (h:rV ops listed i oi) (hr:i∈Region.ready .any ops listed) (hj:j∈Region.ready .any ops listed) (fC:j ≠ i) (jq:ops[j]? = some oj) :
 (∀ d,oi.dst=some d→d ∉ oj.looksAt ops)∧(∀ d,oi.dst=some d→oj.dst ≠ some d)∧(∀ d,oj.dst=some d→d ∉ oi.looksAt ops):=by
 obtain ⟨kP,S7,kQ,jb⟩:=mem_ready.1 hj
 rw [jq] at kQ
 obtain rfl:=Option.some.inj kQ
 refine Oper.apart_spec (h j oj jq fC kP fun e he hb heq=>?_)
 have h1:=jb e he hb
 have h0:=(mem_ready.1 hr).1
 rw [heq] at h1
 rcases Nat.lt_or_ge i listed.size with h' | h'
 ·simp [h'] at h0 h1;rw [h0] at h1;cases h1
 ·simp [Array.getElem?_eq_none h'] at h1
variable {K:List V→Mem→Prop}
def vW (ops:Array Oper) (W:List Nat) (listed:Array Bool) (i:Nat):Prop:=∀ j oj,ops[j]? = some oj→W.contains j=true→j ≠ i→listed.getD j true=false→∃ e∈oj.after,Region.binds .any e=true∧W.contains e.on=true∧listed.getD e.on true=false
end
set_option linter.unusedVariables false
section
variable {P:Program} {I:Inv} {ops:Array Oper} {W:List Nat} {MM:Mem→Prop}
def qA (P:Program) (I:Inv) (o:Oper) (env:List V) (S:Mem) (Q:V→Mem→Prop):Prop :=
 ∀ (c:Cx) (w:World) (ev:Operand→Value),dz c w S→c.I=I→(∀ y∈o.op.operands,VR c w (ai I env y) (ev y))→∃ x w' c' v S',(execOp ev o).run P w = .ok (.value x) w'∧Q v S'∧dz c' w' S'∧Ext c w c' w'∧VR c' w' v x
theorem qA.congr {o:Oper} {env cF:List V} {S:Mem} {Q:V→Mem→Prop} (he:∀ y∈o.op.operands,ai I cF y=ai I env y):qA P I o cF S Q↔qA P I o env S Q:=by
 constructor
 ·exact fun h c w ev h1 h2 h3=>h c w ev h1 h2 fun y hy=>by rw [he y hy];exact h3 y hy
 ·exact fun h c w ev h1 h2 h3=>h c w ev h1 h2 fun y hy=>by rw [← he y hy];exact h3 y hy
theorem qA.step {z:Nat × Nat} {fn:FuncId} {k:List Item} {R:V→Mem→Prop} {i:Nat} {rest:List Nat} {o:Oper} {env:List V} {S:Mem} {Q:V→Mem→Prop} (ho:ops[i]? = some o) (hw:ek env ops o) (h:qA P I o env S Q) (hk:∀ v S',Q v S'→af P I z fn (.inRegion ops rest :: k) (aO env o.dst v) S' R):af P I z fn (.inRegion ops (i :: rest) :: k) env S R:=by
 intro b a c w c0 w0 h1 h2 h3 h4 h5 h6 hI
 obtain ⟨x,w',c',v,S',bp,hQ,tA,vP,hv⟩:=h c w a.eval h5 hI.1 fun y _=>by
  have:=cw.eval h5 h4 y
  rwa [hI.1] at this
 have hg:=fun cs=>stepG_op (P:=P) (b:=b) (k:=k) (cs:=cs) (w:=w) (rest:=rest) ho (rP h4 hw)
 have hs:∀ cs,Go.step P (lone (b.at a (.inRegion ops (i :: rest) :: k)) cs w) = .next (lone (b.at (a.put o.dst x) (.inRegion ops rest :: k)) cs w'):=by
  intro cs
  refine step_lone_go ?_
  have ir:(b.at a (.inRegion ops (i :: rest) :: k)).finish x=b.at (a.put o.dst x) (.inRegion ops rest :: k):=by rw [Frame.finish_at,ho];rfl
  rw [hg cs,← ir]
  simp [stepG.apply,bp]
 refine yB.step hs (hk v S' hQ b (a.put o.dst x) c' w' c0 w0 h1 h2 ?_ ?_ tA (h6.trans vP) ⟨vP.I.trans hI.1,hI.2⟩)
 ·cases o.dst<;>simpa [Act.put] using h3
 ·exact (h4.ext vP).put o.dst hv
def WO (P:Program) (I:Inv) (o:Oper) (env:List V) (S:Mem) (Q:V→Mem→Prop):Prop :=
 (∃ v S',cU P (ai I env) S o.op=some (v,S')∧Q v S')∨(∃ q f g first caps,o.op = .call q∧q.callee = .value f∧ai I env f = .func g first caps∧aF P I g (first++q.args.toList.map (ai I env)++caps) S Q)∨qA P I o env S Q
theorem WO.congr {o:Oper} {env:List V} {d:Option Tmp} {x:V} {S:Mem} {Q:V→Mem→Prop} (h:∀ t,d=some t→t ∉ o.looksAt ops):WO P I o (aO env d x) S Q↔WO P I o env S Q:=by
 cases d with
 | none=>rfl
 | some t =>
  have h:=h t rfl
  have he:∀ y∈o.op.operands,ai I (env.set t x) y=ai I env y:=fun y hy=>pS (rR h y hy)
  unfold WO
  show (∃ v S',cU P (ai I (env.set t x)) S o.op=some (v,S')∧Q v S')∨_↔_
  rw [pT o.op he]
  refine or_congr Iff.rfl (or_congr ?_ (qA.congr he))
  refine exists_congr fun q=>exists_congr fun f=>exists_congr fun g=>exists_congr fun first=>exists_congr fun caps=>?_
  constructor
  ·rintro ⟨h1,h2,h3,h4⟩
   have lP:∀ y∈q.operands,ai I (env.set t x) y=ai I env y:=fun y hy=>he y (by rw [h1];exact hy)
   have h5:q.args.toList.map (ai I (env.set t x))=q.args.toList.map (ai I env):=List.map_congr_left fun y hy=>lP y (by unfold Call.operands;simp only [Array.mem_append];exact .inr (by simpa using hy))
   have h6:ai I (env.set t x) f=ai I env f:=lP f (by unfold Call.operands;rw [h2];simp)
   exact ⟨h1,h2,by rw [← h6];exact h3,by rw [← h5];exact h4⟩
  ·rintro ⟨h1,h2,h3,h4⟩
   have lP:∀ y∈q.operands,ai I (env.set t x) y=ai I env y:=fun y hy=>he y (by rw [h1];exact hy)
   have h5:q.args.toList.map (ai I (env.set t x))=q.args.toList.map (ai I env):=List.map_congr_left fun y hy=>lP y (by unfold Call.operands;simp only [Array.mem_append];exact .inr (by simpa using hy))
   have h6:ai I (env.set t x) f=ai I env f:=lP f (by unfold Call.operands;rw [h2];simp)
   exact ⟨h1,h2,by show ai I (env.set t x) f=_;rw [h6];exact h3,by show aF P I g (first++q.args.toList.map (ai I (env.set t x))++caps) S Q;rw [h5];exact h4⟩
def WG (P:Program) (I:Inv) (ops:Array Oper) (o:Oper) (env:List V) (S:Mem) (Q:V→Mem→Prop):Prop:=(ek env ops o∧WO P I o env S Q)∨(oI env ops o∧Q (.bY []) S)
theorem WG.congr {o:Oper} {env:List V} {d:Option Tmp} {x:V} {S:Mem} {Q:V→Mem→Prop} (h:∀ t,d=some t→t ∉ o.looksAt ops):WG P I ops o (aO env d x) S Q↔WG P I ops o env S Q:=by
 cases d with
 | none=>rfl
 | some t=>exact or_congr (and_congr (oM (h t rfl)) (WO.congr h)) (and_congr (oN (h t rfl)) Iff.rfl)
def WC (P:Program) (I:Inv) (ops:Array Oper) (o:Oper) (env:List V) (S:Mem) (K:V→Mem→Prop):Prop:=∃ Q,(∃ v S',Q v S')∧WG P I ops o env S Q∧∀ v S',Q v S'→K v S'
def QC (P:Program) (I:Inv) (ops:Array Oper) (MM:Mem→Prop) (o:Oper) (env:List V) (v:V):Prop:=(ek env ops o∧∀ S,MM S→cU P (ai I env) S o.op=some (v,S))∨(oI env ops o∧v = .bY [])
theorem QC.congr {o:Oper} {env:List V} {d:Option Tmp} {x v:V} (h:∀ t,d=some t→t ∉ o.looksAt ops):QC P I ops MM o (aO env d x) v↔QC P I ops MM o env v:=by
 cases d with
 | none=>rfl
 | some t =>
  have h:=h t rfl
  have he:∀ y∈o.op.operands,ai I (env.set t x) y=ai I env y:=fun y hy=>pS (rR h y hy)
  refine or_congr (and_congr (oM h) (forall_congr' fun S=>?_)) (and_congr (oN h) Iff.rfl)
  show (MM S→cU P (ai I (env.set t x)) S o.op=_)↔_
  rw [pT o.op he]
theorem QC.one {o:Oper} {env:List V} {v u:V} {S:Mem} (hS:MM S) (h:QC P I ops MM o env v) (h':QC P I ops MM o env u):v=u:=by
 rcases h with ⟨a,h⟩ | ⟨a,h⟩<;>rcases h' with ⟨b,h'⟩ | ⟨b,h'⟩
 ·have h1:=h S hS
  rw [h' S hS] at h1
  cases h1
  rfl
 ·exact (uq a b).elim
 ·exact (uq b a).elim
 ·rw [h,h']
def j7 (P:Program) (I:Inv) (ops:Array Oper) (W:List Nat) (MM:Mem→Prop) (K:List V→Mem→Prop):Nat→Array Bool→List V→Mem→Prop
 | 0,listed,env,S=>MM S∧Region.ready .any ops listed=[]∧K env S
 | n+1,listed,env,S=>MM S∧(Region.ready .any ops listed=[]→K env S)∧∀ i∈Region.ready .any ops listed,∃ o,ops[i]? = some o ∧
  ((W.contains i=true∧WC P I ops o env S fun v S'=>j7 P I ops W MM K n (listed.setIfInBounds i true) (aO env o.dst v) S') ∨
   (W.contains i=false∧∃ v,QC P I ops MM o env v∧j7 P I ops W MM K n (listed.setIfInBounds i true) (aO env o.dst v) S))
variable {K:List V→Mem→Prop}
theorem j7.in:∀ {n:Nat} {listed:Array Bool} {env:List V} {S:Mem},j7 P I ops W MM K n listed env S→MM S
 | 0,_,_,_,h=>h.1
 | _+1,_,_,_,h=>h.1
theorem qW {i:Nat} {oi:Oper} (hi:ops[i]? = some oi) (hq:W.contains i=false) {v:V}:∀ (n:Nat) (listed:Array Bool) (env:List V) (S:Mem),rV ops listed i oi→i∈Region.ready .any ops listed→QC P I ops MM oi env v→j7 P I ops W MM K n (listed.setIfInBounds i true) (aO env oi.dst v) S→j7 P I ops W MM K (n+1) listed env S:=by
 intro n
 induction n with
 | zero =>
  intro listed env S _ hr hy H
  refine ⟨H.in,fun h=>(by rw [h] at hr;cases hr),fun j hj=>?_⟩
  by_cases fC:j=i
  ·subst fC;exact ⟨oi,hi,.inr ⟨hq,v,hy,H⟩⟩
  ·have:=ready_mono hj fC
   rw [H.2.1] at this
   cases this
 | succ n ih =>
  intro listed env S fZ hr hy H
  refine ⟨H.in,fun h=>(by rw [h] at hr;cases hr),fun j hj=>?_⟩
  by_cases fC:j=i
  ·subst fC;exact ⟨oi,hi,.inr ⟨hq,v,hy,H⟩⟩
  obtain ⟨oj,jq,hH⟩:=H.2.2 j (ready_mono hj fC)
  have kP:=(mem_ready.1 hj).1
  obtain ⟨a1,a2,a3⟩:=fZ.apart hr hj fC jq
  have ny:=ready_mono hr (Ne.symm fC)
  rcases hH with ⟨m9,Q,cm,Jh,hk⟩ | ⟨m9,u,OC,h1⟩
  ·refine ⟨oj,jq,.inl ⟨m9,Q,cm,(WG.congr a1).1 Jh,fun u S' hQ=>?_⟩⟩
   refine ih (listed.setIfInBounds j true) (aO env oj.dst u) S' (fZ.next kP) ny ((QC.congr a3).2 hy) ?_
   rw [Array.setIfInBounds_comm _ _ fC,← iD env v u a2]
   exact hk u S' hQ
  ·refine ⟨oj,jq,.inr ⟨m9,u,(QC.congr a1).1 OC,ih (listed.setIfInBounds j true) (aO env oj.dst u) S (fZ.next kP) ny ((QC.congr a3).2 hy) ?_⟩⟩
   rw [Array.setIfInBounds_comm _ _ fC,← iD env v u a2]
   exact h1
def qB (ops:Array Oper) (k:Nat) (acc:List Nat) (j:Nat):List Nat :=
 cond (Nat.ble j k) acc (match ops[j]? with
  | some o=>cond (o.after.any fun e=>Region.binds .any e && acc.contains e.on) (j :: acc) acc
  | none=>acc)
def desc (ops:Array Oper) (k:Nat):List Nat:=(List.range ops.size).foldl (qB ops k) [k]
def FE (ops:Array Oper) (W:List Nat):Bool:=(W.all fun k=>Nat.ble (k+1) ops.size) && W.all fun k=>W.all fun j=>Nat.ble j k || (desc ops k).contains j
theorem zm (k:Nat):∀ (l acc:List Nat),(∀ j∈acc,j=k∨(k < j∧∃ oj,ops[j]? = some oj∧∃ e∈oj.after,Region.binds .any e=true∧e.on∈acc)) →
 ∀ j∈l.foldl (qB ops k) acc,j=k∨(k < j∧∃ oj,ops[j]? = some oj∧∃ e∈oj.after,Region.binds .any e=true∧e.on∈l.foldl (qB ops k) acc)
 | [],_,h=>h
 | q :: l,acc,h=>by
  refine zm k l (qB ops k acc q) fun j hj=>?_
  have uX:∀ x∈acc,x∈qB ops k acc q:=by
   intro x hx
   unfold qB
   cases Nat.ble q k with
   | true=>exact hx
   | false =>
    simp only [cond_false]
    split
    ·rename_i o _
     cases (o.after.any fun e=>Region.binds .any e && acc.contains e.on) with
     | true=>exact List.mem_cons_of_mem _ hx
     | false=>exact hx
    ·exact hx
  have hold:j∈acc→j=k∨(k < j∧∃ oj,ops[j]? = some oj∧∃ e∈oj.after,Region.binds .any e=true∧e.on∈qB ops k acc q):=fun hj=>(h j hj).imp_right fun ⟨h1,oj,h2,e,h3,h4,h5⟩=>⟨h1,oj,h2,e,h3,h4,uX _ h5⟩
  by_cases Te:j∈acc
  ·exact hold Te
  have VB:=hj
  unfold qB at hj
  cases hb:Nat.ble q k with
  | true=>rw [hb] at hj;exact absurd hj Te
  | false =>
   rw [hb] at hj
   simp only [cond_false] at hj
   split at hj
   ·rename_i o ho
    cases ha:(o.after.any fun e=>Region.binds .any e && acc.contains e.on) with
    | false=>rw [ha] at hj;exact absurd hj Te
    | true =>
     rw [ha] at hj
     rcases List.mem_cons.1 hj with rfl | hj
     ·rw [Array.any_eq_true] at ha
      obtain ⟨e,FF,h3⟩:=ha
      rw [Bool.and_eq_true] at h3
      refine .inr ⟨?_,o,ho,o.after[e],Array.getElem_mem FF,h3.1,uX _ (List.contains_iff_mem.1 h3.2)⟩
      rcases Nat.lt_or_ge k j with h' | h'
      ·exact h'
      ·rw [Nat.ble_eq_true_of_le h'] at hb;cases hb
     ·exact absurd hj Te
   ·exact absurd hj Te
theorem rW {k j:Nat} (h:j∈desc ops k):j=k∨(k < j∧∃ oj,ops[j]? = some oj∧∃ e∈oj.after,Region.binds .any e=true∧e.on∈desc ops k) :=
 zm k _ _ (fun j hj=>.inl (List.mem_singleton.1 hj)) j h
theorem FG {k:Nat} {listed:Array Bool} (hk:k < ops.size) (vn:∀ j,j < ops.size→listed.getD j true=decide (j < k)):vW ops (desc ops k) listed k:=by
 intro j oj jq hj pU _
 rcases rW (List.contains_iff_mem.1 hj) with rfl | ⟨_,S7,kQ,e,he,hb,Pm⟩
 ·exact absurd rfl pU
 rw [jq] at kQ
 obtain rfl:=Option.some.inj kQ
 refine ⟨e,he,hb,List.contains_iff_mem.2 Pm,?_⟩
 rcases rW Pm with h | ⟨h,oe,Yn,_⟩
 ·rw [h,vn k hk];exact decide_eq_false (Nat.lt_irrefl k)
 ·rw [vn _ (Array.getElem?_eq_some_iff.1 Yn).1];exact decide_eq_false (by omega)
theorem L6 {W:List Nat} {k:Nat} {listed:Array Bool} (OD:(W.all fun k=>W.all fun j=>Nat.ble j k || (desc ops k).contains j)=true) (hw:W.contains k=true) (vn:∀ j,j < ops.size→listed.getD j true=decide (j < k)) :
 ∀ j oj,ops[j]? = some oj→W.contains j=true→listed.getD j true=false→j=k∨(desc ops k).contains j=true:=by
 intro j oj jq m9 lQ
 rw [vn j (Array.getElem?_eq_some_iff.1 jq).1] at lQ
 have ZH:=of_decide_eq_false lQ
 have h1:=List.all_eq_true.1 (List.all_eq_true.1 OD k (List.contains_iff_mem.1 hw)) j (List.contains_iff_mem.1 m9)
 rw [Bool.or_eq_true] at h1
 rcases h1 with h | h
 ·exact .inl (by have:=Nat.le_of_ble_eq_true h;omega)
 ·exact .inr h
theorem vW.next {U:List Nat} {listed:Array Bool} {i j:Nat} {oj:Oper} (h:vW ops U listed i) (jb:∀ e∈oj.after,Region.binds .any e=true→listed.getD e.on false=true) (jq:ops[j]? = some oj) (fC:j ≠ i) (kP:listed.getD j true=false):vW ops U (listed.setIfInBounds j true) i:=by
 intro k ok hk E1 mO lQ
 by_cases pU:j=k
 ·subst pU
  rw [jq] at hk
  obtain rfl:=Option.some.inj hk
  obtain ⟨e,he,hb,_,Lf⟩:=h j oj jq E1 fC kP
  have h1:=jb e he hb
  rcases Nat.lt_or_ge e.on listed.size with h' | h'
  ·simp [h'] at Lf h1;rw [Lf] at h1;cases h1
  ·simp [Array.getElem?_eq_none h'] at h1
 ·rw [getD_set_ne true pU] at lQ
  obtain ⟨e,he,hb,hwe,Lf⟩:=h k ok hk E1 mO lQ
  refine ⟨e,he,hb,hwe,?_⟩
  have cm:j ≠ e.on:=by
   intro hje
   obtain ⟨e2,LR,ou,_,V0⟩:=h j oj jq (by rw [hje];exact hwe) fC kP
   have h1:=jb e2 LR ou
   rcases Nat.lt_or_ge e2.on listed.size with h' | h'
   ·simp [h'] at V0 h1;rw [V0] at h1;cases h1
   ·simp [Array.getElem?_eq_none h'] at h1
  rw [getD_set_ne true cm]
  exact Lf
theorem FH {U:List Nat} {i:Nat} {oi:Oper} (hi:ops[i]? = some oi) (hq:W.contains i=true):∀ (n:Nat) (listed:Array Bool) (env:List V) (S:Mem),MM S→rV ops listed i oi→vW ops U listed i→(∀ j oj,ops[j]? = some oj→W.contains j=true→listed.getD j true=false→j=i∨U.contains j=true)→i∈Region.ready .any ops listed→WC P I ops oi env S (fun v S'=>j7 P I ops W MM K n (listed.setIfInBounds i true) (aO env oi.dst v) S')→j7 P I ops W MM K (n+1) listed env S:=by
 intro n
 induction n with
 | zero =>
  intro listed env S hS _ _ _ hr hy
  refine ⟨hS,fun h=>(by rw [h] at hr;cases hr),fun j hj=>?_⟩
  by_cases fC:j=i
  ·subst fC;exact ⟨oi,hi,.inl ⟨hq,hy⟩⟩
  ·have:=ready_mono hj fC
   obtain ⟨Q,⟨v0,S0,h0⟩,_,hk⟩:=hy
   rw [(hk v0 S0 h0).2.1] at this
   cases this
 | succ n ih =>
  intro listed env S hS fZ CN V1 hr hy
  refine ⟨hS,fun h=>(by rw [h] at hr;cases hr),fun j hj=>?_⟩
  by_cases fC:j=i
  ·subst fC;exact ⟨oi,hi,.inl ⟨hq,hy⟩⟩
  obtain ⟨Q,⟨v0,S0,h0⟩,Jh,hk⟩:=hy
  obtain ⟨oj,jq,hH⟩:=(hk v0 S0 h0).2.2 j (ready_mono hj fC)
  obtain ⟨kP,S7,kQ,jb⟩:=mem_ready.1 hj
  rw [jq] at kQ
  obtain rfl:=Option.some.inj kQ
  obtain ⟨a1,a2,a3⟩:=fZ.apart hr hj fC jq
  have ny:=ready_mono hr (Ne.symm fC)
  rcases hH with ⟨m9,_⟩ | ⟨m9,u,OC,_⟩
  ·obtain ⟨e,he,hb,_,lQ⟩:=CN j oj jq ((V1 j oj jq m9 kP).resolve_left fC) fC kP
   have h1:=jb e he hb
   rcases Nat.lt_or_ge e.on listed.size with h' | h'
   ·simp [h'] at lQ h1;rw [lQ] at h1;cases h1
   ·simp [Array.getElem?_eq_none h'] at h1
  ·have CO:=(QC.congr a1).1 OC
   refine ⟨oj,jq,.inr ⟨m9,u,CO,ih (listed.setIfInBounds j true) (aO env oj.dst u) S hS (fZ.next kP) (CN.next jb jq fC kP) (fun k ok hk E1 lQ=>?_) ny ⟨Q,⟨v0,S0,h0⟩,(WG.congr a3).2 Jh,fun v S' hQ=>?_⟩⟩⟩
   ·by_cases pU:j=k
    ·subst pU
     rw [m9] at E1;cases E1
    ·rw [getD_set_ne true pU] at lQ
     exact V1 k ok hk E1 lQ
   ·obtain ⟨S7,kQ,ZI⟩:=(hk v S' hQ).2.2 j (ready_mono hj fC)
    rw [jq] at kQ
    obtain rfl:=Option.some.inj kQ
    rcases ZI with ⟨L7,_⟩ | ⟨_,u',CO,h1⟩
    ·rw [m9] at L7;cases L7
    ·have e:=QC.one hS CO ((QC.congr a1).2 ((QC.congr a1).1 OC))
     have e2:QC P I ops MM oj env u':=(QC.congr a1).1 CO
     have e3:=QC.one hS e2 ((QC.congr a1).1 OC)
     subst e3
     rw [Array.setIfInBounds_comm _ _ fC,← iD env v u' a2]
     exact h1
def AP (P:Program) (I:Inv) (ops:Array Oper) (W:List Nat) (MM:Mem→Prop) (K:List V→Mem→Prop):List Oper→Nat→List V→Mem→Prop
 | [],_,env,S=>MM S∧K env S
 | o :: l,k,env,S=>(W.contains k=true→MM S∧WC P I ops o env S fun v S'=>AP P I ops W MM K l (k+1) (aO env o.dst v) S') ∧
  (W.contains k=false→∃ v,QC P I ops MM o env v∧AP P I ops W MM K l (k+1) (aO env o.dst v) S)
theorem vX (UX:(W.all fun k=>Nat.ble (k+1) ops.size)=true) (OD:(W.all fun k=>W.all fun j=>Nat.ble j k || (desc ops k).contains j)=true):∀ (l:List Oper) (k:Nat) (listed:Array Bool) (env:List V) (S:Mem),(∀ j,l[j]? = ops[k+j]?)→(∀ j,j < ops.size→listed.getD j true=decide (j < k)) →
 Region.lexFrom .any ops l.length k listed=true→AP P I ops W MM K l k env S→j7 P I ops W MM K l.length listed env S
 | [],_,_,_,_,_,_,hB,h=>⟨h.1,by simpa [Region.lexFrom] using hB,h.2⟩
 | o :: l,k,listed,env,S,hl,vn,hB,h=>by
  have h0:ops[k]? = some o:=by simpa using (hl 0).symm
  have hk:=(Array.getElem?_eq_some_iff.1 h0).1
  simp only [List.length_cons,Region.lexFrom,Bool.and_eq_true] at hB
  obtain ⟨⟨hr,hf⟩,OA⟩:=hB
  have CP:∀ j,j < ops.size→(listed.setIfInBounds k true).getD j true=decide (j < k+1):=by
   intro j hj
   by_cases pU:k=j
   ·subst pU
    have:decide (k < k+1)=true:=decide_eq_true (by omega)
    rw [this]
    by_cases hs:k < listed.size<;>simp [hs]
   ·rw [getD_set_ne true pU,vn j hj]
    exact decide_eq_decide.2 (by omega)
  have fZ:rV ops listed k o:=Region.free_spec h0 hf
  cases hw:W.contains k with
  | true =>
   obtain ⟨hS,Q,cm,Jh,hK⟩:=h.1 hw
   exact FH h0 hw l.length listed env S hS fZ (FG hk vn) (L6 OD hw vn) (by simpa using hr) ⟨Q,cm,Jh,fun v S' hQ=>vX UX OD l (k+1) _ _ _ (fun j=>by have:=hl (j+1);simpa [Nat.add_assoc,Nat.add_comm 1 j] using this) CP OA (hK v S' hQ)⟩
  | false =>
   obtain ⟨v,hv,hK⟩:=h.2 hw
   exact qW h0 hw l.length listed env S fZ (by simpa using hr) hv (vX UX OD l (k+1) _ _ _ (fun j=>by have:=hl (j+1);simpa [Nat.add_assoc,Nat.add_comm 1 j] using this) CP OA hK)
theorem WG.step {z:Nat × Nat} {fn:FuncId} {k:List Item} {R:V→Mem→Prop} {i:Nat} {rest:List Nat} {o:Oper} {env:List V} {S:Mem} {Q:V→Mem→Prop} (ho:ops[i]? = some o) (hw:WG P I ops o env S Q) (h:∀ v S',Q v S'→af P I z fn (.inRegion ops rest :: k) (aO env o.dst v) S' R):af P I z fn (.inRegion ops (i :: rest) :: k) env S R:=by
 rcases hw with ⟨hg,hw⟩ | ⟨hg,hw⟩
 ·rcases hw with ⟨v,S',h1,h2⟩ | ⟨q,f,g,first,caps,h1,h2,h3,h4⟩ | hr
  ·exact .op ho hg h1 (h v S' h2)
  ·exact .call ho hg h1 h2 h3 (h4.mono fun v S' hQ=>h v S' hQ)
  ·exact hr.step ho hg h
 ·exact .nt ho hg (h _ _ hw)
theorem QC.step {z:Nat × Nat} {fn:FuncId} {k:List Item} {R:V→Mem→Prop} {i:Nat} {rest:List Nat} {o:Oper} {env:List V} {S:Mem} {v:V} (ho:ops[i]? = some o) (hS:MM S) (hy:QC P I ops MM o env v) (h:af P I z fn (.inRegion ops rest :: k) (aO env o.dst v) S R):af P I z fn (.inRegion ops (i :: rest) :: k) env S R:=by
 rcases hy with ⟨hg,hy⟩ | ⟨hg,rfl⟩
 ·exact .op ho hg (hy S hS) h
 ·exact .nt ho hg h
theorem rX {z:Nat × Nat} {fn:FuncId} {k:List Item} {R:V→Mem→Prop}:∀ (n t:Nat) (listed:Array Bool) (env:List V) (S:Mem),j7 P I ops W MM (fun env S=>af P I z fn k env S R) n listed env S→af P I z fn (.inRegion ops (Region.linearise.go .any ops n t listed []) :: k) env S R
 | 0,t,listed,env,S,h=>by
  simp only [Region.linearise.go,List.reverse_nil]
  exact .jm h.2.2
 | n+1,t,listed,env,S,h=>by
  obtain ⟨hS,h₀,h₁⟩:=h
  simp only [Region.linearise.go]
  change af P I z fn (.inRegion ops (match (Region.ready .any ops listed)[t % (Region.ready .any ops listed).length]? with
   | some i=>Region.linearise.go .any ops n (t / (Region.ready .any ops listed).length) (listed.setIfInBounds i true) [i]
   | none=>[].reverse) :: k) env S R
  cases hi:(Region.ready .any ops listed)[t % (Region.ready .any ops listed).length]? with
  | none =>
   have qS:Region.ready .any ops listed=[]:=by
    cases hr:Region.ready .any ops listed with
    | nil=>rfl
    | cons x xs =>
     rw [hr] at hi
     have au:t % (x :: xs).length < (x :: xs).length:=Nat.mod_lt _ (by simp)
     simp at hi
     simp at au
     omega
   exact .jm (h₀ qS)
  | some i =>
   simp only []
   rw [linearise_go_acc,List.reverse_singleton,List.singleton_append]
   obtain ⟨o,ho,⟨_,Q,_,Jh,hn⟩ | ⟨_,v,hy,hn⟩⟩:=h₁ i (List.mem_of_getElem? hi)
   ·exact Jh.step ho fun v S' hQ=>rX n _ _ _ _ (hn v S' hQ)
   ·exact hy.step ho hS (rX n _ _ _ _ hn)
end
section
variable {P:Program} {I:Inv} {ops:Array Oper} {W:List Nat} {MM:Mem→Prop} {p:Nat}
def Pn (P:Program) (I:Inv) (ops:Array Oper) (W:List Nat) (p:Nat) (MM:Mem→Prop) (K:Array Bool→List V→Mem→Prop):Nat→Array Bool→List V→Mem→Prop
 | 0,listed,env,S=>MM S∧(∀ i∈Region.ready .any ops listed,p≤i)∧K listed env S
 | n+1,listed,env,S=>MM S∧Region.ready .any ops listed ≠ []∧∀ i∈Region.ready .any ops listed,i < p∧∃ o,ops[i]? = some o ∧
  ((W.contains i=true∧WC P I ops o env S fun v S'=>Pn P I ops W p MM K n (listed.setIfInBounds i true) (aO env o.dst v) S') ∨
   (W.contains i=false∧∃ v,QC P I ops MM o env v∧Pn P I ops W p MM K n (listed.setIfInBounds i true) (aO env o.dst v) S))
variable {K:Array Bool→List V→Mem→Prop}
theorem Pn.in:∀ {n:Nat} {listed:Array Bool} {env:List V} {S:Mem},Pn P I ops W p MM K n listed env S→MM S
 | 0,_,_,_,h=>h.1
 | _+1,_,_,_,h=>h.1
end
def eD (c:Cx) (w:World) (vs:List V) (l:List Value):Prop:=l.length=vs.length∧∀ (j:Nat) (v:V),vs[j]? = some v→∃ x,l[j]? = some x∧VR c w v x∧x.oneCell' = true
section
variable {P:Program} {c:Cx} {w:World} {S:Mem}
theorem eD.nil:eD c w [] []:=⟨rfl,fun j v h=>by simp at h⟩
theorem eD.append {a b:List V} {A B:List Value} (h:eD c w a A) (k:eD c w b B):eD c w (a++b) (A++B):=by
 refine ⟨by simp [h.1,k.1],fun j v hv=>?_⟩
 rcases Nat.lt_or_ge j a.length with h' | h'
 ·rw [List.getElem?_append_left h'] at hv
  rw [List.getElem?_append_left (by rw [h.1];exact h')]
  exact h.2 j v hv
 ·rw [List.getElem?_append_right h'] at hv
  rw [List.getElem?_append_right (by rw [h.1];exact h'),h.1]
  exact k.2 _ v hv
theorem eD.take {a:List V} {A:List Value} (h:eD c w a A) (n:Nat):eD c w (a.take n) (A.take n):=by
 refine ⟨by simp [h.1],fun j v hv=>?_⟩
 rw [List.getElem?_take] at hv ⊢
 split at hv
 ·rename_i au
  rw [if_pos au]
  exact h.2 j v hv
 ·cases hv
theorem eD.drop {a:List V} {A:List Value} (h:eD c w a A) (n:Nat):eD c w (a.drop n) (A.drop n):=by
 refine ⟨by simp [h.1],fun j v hv=>?_⟩
 rw [List.getElem?_drop] at hv ⊢
 exact h.2 _ v hv
theorem eD.eC {c':Cx} {w':World} (hk:iA c w c' w') {a:List V} {A:List Value} (h:eD c w a A):eD c' w' a A:=⟨h.1,fun j v hv=>by
 obtain ⟨x,h1,h2,h3⟩:=h.2 j v hv
 exact ⟨x,h1,h2.eC hk,h3⟩⟩
theorem eD.at {a:List V} {A:List Value} (h:eD c w a A) (j:Nat) (hj:j < a.length):VR c w a[j] (A.toArray.getD j undef)∧(A.toArray.getD j undef).oneCell' = true:=by
 obtain ⟨x,h1,h2⟩:=h.2 j a[j] (List.getElem?_eq_getElem hj)
 obtain ⟨hl,rfl⟩:=List.getElem?_eq_some_iff.1 h1
 rw [fT hl]
 exact h2
def qX (n sz:Nat) (G:List (List V)) (rows:List (List D)) (v:V):Prop :=
 (G=[]∧rows=[]∧v = .sl [] .full)∨∃ G0 cap,G=G0++[rows.flatten.map .d++List.replicate ((cap - rows.length) * sz) .undef]∧v = .bx (n+G0.length) rows.length cap∧cy sz rows=true∧(∀ vs∈G0,vs.all (fit 0 0)=true)∧rows.length≤cap
theorem L8 (rows:List (List D)) (k:Nat):(rows.flatten.map V.d++List.replicate k V.undef).all (fit 0 0)=true:=by
 rw [List.all_eq_true]
 intro v hv
 rcases List.mem_append.1 hv with h | h
 ·obtain ⟨d,_,rfl⟩:=List.mem_map.1 h
  rfl
 ·obtain rfl:=List.eq_of_mem_replicate h
  rfl
theorem qX.fits {n sz:Nat} {G:List (List V)} {rows:List (List D)} {v:V} (h:qX n sz G rows v):∀ vs∈G,vs.all (fit 0 0)=true:=by
 rcases h with ⟨rfl,_,_⟩ | ⟨G0,cap,rfl,_,_,h,_⟩
 ·intro vs h;cases h
 ·intro vs hv
  rcases List.mem_append.1 hv with h' | h'
  ·exact h vs h'
  ·obtain rfl:=List.mem_singleton.1 h'
   exact L8 _ _
theorem vY {sz:Nat}:∀ {rows:List (List D)},(∀ r∈rows,r.length=sz)→rows.flatten.length=rows.length * sz
 | [],_=>by simp
 | r :: rows,h=>by
  rw [List.flatten_cons,List.length_append,h r (by simp),vY fun q hq=>h q (List.mem_cons_of_mem _ hq),List.length_cons,Nat.add_mul]
  omega
theorem rY {sz:Nat}:∀ {rows:List (List D)},(∀ r∈rows,r.length=sz)→∀ (j q:Nat) (r:List D) (d:D),rows[j]? = some r→r[q]? = some d→rows.flatten[j * sz+q]? = some d
 | [],_,j,q,r,d,h,_=>by simp at h
 | r0 :: rows,hs,j,q,r,d,h,hq=>by
  have h0:=hs r0 (by simp)
  cases j with
  | zero =>
   obtain rfl:r0=r:=by simpa using h
   have:=(List.getElem?_eq_some_iff.1 hq).1
   rw [List.flatten_cons,Nat.zero_mul,Nat.zero_add,List.getElem?_append_left this]
   exact hq
  | succ j =>
   have:=rY (fun x hx=>hs x (List.mem_cons_of_mem _ hx)) j q r d (by simpa using h) hq
   rw [List.flatten_cons,List.getElem?_append_right (by rw [h0,Nat.add_mul];omega),h0,← this]
   congr 1
   rw [Nat.add_mul]
   omega
theorem mQ {sz:Nat} {rows:List (List D)} (h:∀ r∈rows,r.length=sz):(rows.flatten.map V.d).length=rows.length * sz:=by rw [List.length_map];exact vY h
theorem Po {x:V} {X:Value} {r:List D} {sz:Nat} (hx:VR c w x X) (hd:mL x=some (.sl [r])) (hr:r.length=sz):∃ (a:Option Addr) (cap:Nat) (F:Nat→Value),X = .slice a 1 cap∧eD c w (r.map .d) ((List.range (1 * sz)).map F) ∧
 ∀ W:World,W.heap=w.heap→(Builtin.firstCells sz 1 X).run P W = .ok ((List.range (1 * sz)).map F).toArray W:=by
 have hD:=fU hx hd
 have m8:∃ a n cap,X = .slice a n cap:=by cases hD;exact ⟨_,_,_,rfl⟩
 obtain ⟨a,n,cap,rfl⟩:=m8
 obtain ⟨hn,_,_,F,hF,VQ⟩:=hD.flat sz (fun q hq=>by rw [List.mem_singleton.1 hq];exact hr)
 have hn:n=1:=hn
 subst hn
 refine ⟨a,cap,F,rfl,⟨by simp [hr],fun j v hv=>?_⟩,fun W hW=>kD (rows:=[r]) rfl hF W hW⟩
 rw [List.getElem?_map] at hv
 obtain ⟨d,hd,rfl⟩:=Option.map_eq_some_iff.1 hv
 obtain ⟨hj,rfl⟩:=List.getElem?_eq_some_iff.1 hd
 have:=VQ 0 (by simp) j (by simpa using hj)
 simp only [List.getElem_cons_zero,Nat.zero_mul,Nat.zero_add] at this
 exact ⟨F j,by simp [← hr,hj],.d _ _ this,this.one⟩
theorem CQ {z:Value} (h1:∀ u∈z.cells.toList,u.oneCell' = true) (sz:Nat) (h2:z.cells.size=sz) (n:Nat):eD c w (List.replicate (n * sz) .undef) (Builtin.zeroCells z.cells n).toList:=by
 have dJ:(Builtin.zeroCells z.cells n).toList.length=n * sz:=by simp [size_zeroCells,h2]
 refine ⟨by rw [dJ];simp,fun j v hv=>?_⟩
 rw [List.getElem?_replicate] at hv
 split at hv
 case isFalse=>cases hv
 rename_i hj
 obtain rfl:=Option.some.inj hv
 have E2:j < n * z.cells.size:=by rw [h2];exact hj
 have Yo:0 < z.cells.size:=by
  rcases Nat.eq_zero_or_pos z.cells.size with h | h
  ·rw [h] at E2;omega
  ·exact h
 have hm:=Nat.mod_lt j Yo
 refine ⟨z.cells[j % z.cells.size],?_,.undef _,h1 _ (by simp)⟩
 simp only [Builtin.zeroCells,Array.getElem?_toList,Array.getElem?_map]
 rw [Array.getElem?_range,if_pos E2]
 simp only [Option.map_some]
 rw [getElem!_pos z.cells (j % z.cells.size) hm]
theorem dz.grow {L:List (List V)} {T:List (Nat × Nat)} (h:dz c w ⟨L,T⟩) {ts us ty e:TypeId} {ti te ui:tq} (jZ:bD P ts=some ti) (he:ti.d = .slice e) (nN:bD P e=some te) (LQ:bD P us=some ui) (Lf:∃ k,ui.d = .slice k) (a:Option Addr) (n cap:Nat) (old:List V) (xs:List Value)
 (Pp:eD c w old xs) (hold:∀ W:World,W.heap=w.heap→(Builtin.firstCells te.size n (.slice a n cap)).run P W = .ok xs.toArray W) (fF:¬ n+1≤cap) (Tf:n+1≤9223372036854775807) {x:V} {X:Value} {r:List D} (hx:VR c w x X) (hd:mL x=some (.sl [r])) (hr:r.length=te.size) (hb:(n+1) * te.bytes≤140737488355328) :
 ∃ w' c' cu,(Builtin.append_ #[ts,us] ty #[.slice a n cap,X]).run P w = .ok (.slice (some ⟨w.heap.size,0,none⟩) (n+1) cu) w'∧n+1≤cu∧dz c' w' ⟨L++[old++r.map .d++List.replicate ((cu - (n+1)) * te.size) .undef],T⟩∧Ext c w c' w'∧VR c' w' (.bx L.length (n+1) cu) (.slice (some ⟨w.heap.size,0,none⟩) (n+1) cu):=by
 obtain ⟨fi,d,z,h1,h2,h3,h4,h5,h6,_⟩:=aI jZ
 obtain ⟨gi,d2,z2,g1,g2,g3,g4,g5,g6,g7,g8,g9,US⟩:=aI nN
 obtain ⟨Yk,d3,z3,u1,u2,u3,u4,u5,u6,_⟩:=aI LQ
 rw [he] at h6
 obtain rfl:=bW h6
 obtain ⟨ke,V2⟩:=Lf
 rw [V2] at u6
 obtain rfl:=bW u6
 have Ty:yw P ts e te.size te.bytes:=⟨h2,gi,z2,g1,g3,g4,g5,g8⟩
 obtain ⟨ax,Tg,F,rfl,hF,gu⟩:=Po (P:=P) hx hd hr
 obtain ⟨i,zz,k1,k2,k3,bp⟩:=nj (P:=P) (w:=w) (ty:=ty) Ty ⟨_,u2,by simp⟩ a n cap 1 fF (.slice ax 1 Tg) xs ((List.range (1 * te.size)).map F) (fun W=>by simp [Builtin.lenOf]) gu hold Tf hb
 rw [g1] at k1
 obtain rfl:=Option.some.inj k1
 rw [g3] at k2
 obtain rfl:=Option.some.inj k2
 have mc:=grownCap_ge w (n+1) cap e
 have yx:grownCap w (n+1) cap e≤9223372036854775807:=grownCap_le_maxLen w (n+1) cap e (by unfold maxLen;omega)
 unfold kN at bp
 generalize grownCap w (n+1) cap e=cu at bp mc yx
 have I0:Below w.heap.size w w.drew:=(Below.refl _ _).drew
 obtain ⟨r1,r2⟩:=h.under I0
 have vZ:=((Pp.append hF).append (CQ (c:=c) (w:=w) US te.size k3 (cu - (n+1)))).eC r2.keeps
 have Fc:xs.toArray++((List.range (1 * te.size)).map F).toArray++Builtin.zeroCells z2.cells (cu - (n+1))=(xs++(List.range (1 * te.size)).map F++(Builtin.zeroCells z2.cells (cu - (n+1))).toList).toArray:=by
  apply Array.ext'
  simp
 rw [Fc] at bp
 obtain ⟨q1,q2⟩:=r1.vi _ e _ (by simpa using vZ.1) (vZ.at)
 refine ⟨_,_,cu,bp,mc,q1,r2.trans q2,.bx _ _ _ _ ?_ mc yx ⟨_,iH.new _ _⟩⟩
 show (c.ρ++[w.drew.heap.size])[L.length]? = _
 rw [show L.length=c.ρ.length from h.len]
 simp
theorem qX.store {L G:List (List V)} {T:List (Nat × Nat)} {t:TypeId} {te:tq} {rows:List (List D)} {v:V} {i k cap j:Nat} {r:List D} (nN:bD P t=some te) (h:qX L.length te.size G rows v) (hv:v = .bx i k cap) (hj:j < rows.length) (hr:r.length=te.size) :
 ∃ G',nk P ⟨L++G,T⟩ t (.ptr i (j * te.size)) (.agg (r.map .d))=some (.undef,⟨L++G',T⟩)∧qX L.length te.size G' (rows.set j r) v:=by
 rcases h with ⟨rfl,rfl,h2⟩ | ⟨G0,AR,rfl,h2,FI,Yp,fF⟩
 ·exact absurd hj (by simp)
 ·rw [h2] at hv
  cases hv
  obtain ⟨J,Yq⟩:∃ J,List.replicate ((cap - rows.length) * te.size) V.undef=J:=⟨_,rfl⟩
  rw [Yq]
  have nP:=gv FI
  have vo:=mQ nP
  have au:=Fa (sz:=te.size) hj (q:=0)
  have hle:j * te.size+te.size≤rows.length * te.size:=by
   have:=Nat.mul_le_mul_right te.size (show j+1≤rows.length by omega)
   rw [Nat.add_mul] at this
   omega
  have hg:(⟨L++(G0++[rows.flatten.map V.d++J]),T⟩:Mem).boxes[L.length+G0.length]? = some (rows.flatten.map .d++J):=by
   show (L++(G0++[rows.flatten.map .d++J]))[L.length+G0.length]? = _
   rw [← List.append_assoc,List.getElem?_append_right (by simp)]
   simp
  refine ⟨G0++[(rows.set j r).flatten.map .d++J],?_,.inr ⟨G0,cap,by rw [List.length_set,Yq],by rw [List.length_set];exact h2,?_,Yp,by simpa using fF⟩⟩
  ·unfold nk
   simp only [nN,fG,hg]
   rw [if_pos ⟨by simpa using hr,by rw [List.length_append,vo];omega⟩]
   have kS:(rows.flatten.map V.d++J).take (j * te.size)++r.map .d++(rows.flatten.map V.d++J).drop (j * te.size+(r.map V.d).length)=(rows.set j r).flatten.map .d++J:=by
    have e1:rows=rows.take j++rows[j] :: rows.drop (j+1):=by rw [← List.drop_eq_getElem_cons hj,List.take_append_drop]
    have e2:rows.set j r=rows.take j++r :: rows.drop (j+1):=List.set_eq_take_append_cons_drop.trans (if_pos hj)
    have f1:((rows.take j).flatten.map V.d).length=j * te.size:=by
     rw [mQ (fun q hq=>nP q (List.mem_of_mem_take hq))]
     simp only [List.length_take]
     rw [Nat.min_eq_left (by omega)]
    have f2:(rows[j].map V.d).length=te.size:=by simpa using nP _ (List.getElem_mem hj)
    rw [e2]
    conv=>lhs;rw [e1]
    simp only [List.flatten_append,List.flatten_cons,List.map_append,List.append_assoc]
    generalize (rows.take j).flatten.map V.d=A at f1 ⊢
    generalize rows[j].map V.d=X at f2 ⊢
    rw [show (r.map V.d).length=te.size by simpa using hr]
    rw [List.take_append_of_le_length (by omega),List.take_of_length_le (by omega),List.drop_append,List.drop_append]
    rw [List.drop_eq_nil_of_le (by omega),List.nil_append,f1,f2,Nat.add_sub_cancel_left,List.drop_eq_nil_of_le (by omega),List.nil_append,Nat.sub_self,List.drop_zero]
   rw [kS]
   congr 3
   rw [← List.append_assoc,List.set_append_right _ _ (by simp)]
   simp
  ·simp only [cy,List.all_eq_true] at FI ⊢
   intro q hq
   rcases List.mem_or_eq_of_mem_set hq with h | rfl
   ·exact FI q h
   ·simpa using hr
theorem qX.load {L G:List (List V)} {T:List (Nat × Nat)} {t:TypeId} {te:tq} {rows:List (List D)} {v:V} {i k cap j:Nat} {r:List D} (nN:bD P t=some te) (V3:te.agg=true) (h:qX L.length te.size G rows v) (hv:v = .bx i k cap) (hj:rows[j]? = some r):ff P ⟨L++G,T⟩ t (.ptr i (j * te.size))=some (.agg (r.map .d)):=by
 obtain ⟨Yr,hjr⟩:=List.getElem?_eq_some_iff.1 hj
 clear hj
 have hj:=Yr
 subst hjr
 rcases h with ⟨rfl,rfl,h2⟩ | ⟨G0,AR,rfl,h2,FI,Yp,fF⟩
 ·exact absurd hj (by simp)
 ·rw [h2] at hv
  cases hv
  obtain ⟨J,Yq⟩:∃ J,List.replicate ((cap - rows.length) * te.size) V.undef=J:=⟨_,rfl⟩
  rw [Yq]
  have nP:=gv FI
  have vo:=mQ nP
  have hle:j * te.size+te.size≤rows.length * te.size:=by
   have:=Nat.mul_le_mul_right te.size (show j+1≤rows.length by omega)
   rw [Nat.add_mul] at this
   omega
  have hg:(⟨L++(G0++[rows.flatten.map V.d++J]),T⟩:Mem).boxes[L.length+G0.length]? = some (rows.flatten.map .d++J):=by
   show (L++(G0++[rows.flatten.map .d++J]))[L.length+G0.length]? = _
   rw [← List.append_assoc,List.getElem?_append_right (by simp)]
   simp
  unfold ff
  simp only [nN,hg,oD,V3,if_true]
  rw [if_pos (by rw [List.length_append,vo];omega)]
  congr 2
  have e1:rows=rows.take j++rows[j] :: rows.drop (j+1):=by rw [← List.drop_eq_getElem_cons hj,List.take_append_drop]
  have f1:((rows.take j).flatten.map V.d).length=j * te.size:=by
   rw [mQ (fun q hq=>nP q (List.mem_of_mem_take hq))]
   simp only [List.length_take]
   rw [Nat.min_eq_left (by omega)]
  have f2:(rows[j].map V.d).length=te.size:=by simpa using nP _ (List.getElem_mem hj)
  conv=>lhs;rw [e1]
  simp only [List.flatten_append,List.flatten_cons,List.map_append,List.append_assoc]
  generalize (rows.take j).flatten.map V.d=A at f1 ⊢
  generalize rows[j].map V.d=X at f2 ⊢
  rw [List.drop_append,List.drop_eq_nil_of_le (by omega),List.nil_append,f1,Nat.sub_self,List.drop_zero,List.take_append_of_le_length (by omega),List.take_of_length_le (by omega)]
theorem qX.lt {n sz:Nat} {G:List (List V)} {rows:List (List D)} {v:V} {i k cap:Nat} (h:qX n sz G rows v) (hv:v = .bx i k cap):i < n+G.length:=by
 rcases h with ⟨_,rfl,h2⟩ | ⟨G0,AR,rfl,h2,FI,Yp,fF⟩
 ·rw [h2] at hv;cases hv
 ·rw [h2] at hv;cases hv;simp
theorem qX.idx {t e:TypeId} {ti te:tq} {i k cap j:Nat} {q:IntKind} (jZ:bD P t=some ti) (he:ti.d = .slice e) (nN:bD P e=some te) (hj:j < k):iB P t (.bx i k cap) (.d (.int q (j:Int)))=some (.ptr i (j * te.size)):=by
 unfold iB
 simp only [jZ,mL,Ax,he,nN]
 rw [if_pos ⟨by omega,by omega⟩]
 simp
theorem qX.fP {n sz:Nat} {G:List (List V)} {rows:List (List D)} {v:V} {t e:TypeId} {ti:tq} (jZ:bD P t=some ti) (he:ti.d = .slice e) (h:qX n sz G rows v):Ab.fP P t v=some (.d (.int .i64 (rows.length:Int))):=by
 rcases h with ⟨rfl,rfl,rfl⟩ | ⟨G0,cap,rfl,rfl,_⟩
 ·simp [Ab.fP,jZ,mL,he]
 ·simp [Ab.fP,jZ,mL,tu,he]
theorem qX.len {n sz:Nat} {G:List (List V)} {rows:List (List D)} {v:V} {i k cap:Nat} (h:qX n sz G rows v) (hv:v = .bx i k cap):k=rows.length:=by
 rcases h with ⟨_,rfl,h2⟩ | ⟨G0,AR,rfl,h2,FI,Yp,fF⟩
 ·rw [h2] at hv;cases hv
 ·rw [h2] at hv;cases hv;rfl
end
mutual
def td (n i:Nat) (rows:List (List D)):V→V
 | .ptr j k=>if j < n then .ptr j k else .undef
 | .bx j k cap=>if j < n then .bx j k cap else if j=i∧k=rows.length then .d (.sl rows) else .undef
 | .mp j=>if j < n then .mp j else .undef
 | .oy ks vs=>.oy ks (AS n i rows vs)
 | .self j T=>if j < n then .self j T else .undef
 | .buf r t T=>.buf r t T
 | .func f a b=>.func f (AS n i rows a) (AS n i rows b)
 | .agg vs=>.agg (AS n i rows vs)
 | .bY vs=>.bY (AS n i rows vs)
 | .undef=>.undef
 | .d x=>.d x
 | .sl r t=>.sl r t
 | .gp r k=>.gp r k
 | .iG=>.iG
 | .kM=>.kM
def AS (n i:Nat) (rows:List (List D)):List V→List V
 | []=>[]
 | v :: vs=>td n i rows v :: AS n i rows vs
end
theorem mR (n i:Nat) (rows:List (List D)):∀ vs:List V,AS n i rows vs=vs.map (td n i rows)
 | []=>by simp [AS]
 | v :: vs=>by simp [AS,mR n i rows vs]
theorem VR.td {c:Cx} {w:World} {n i b:Nat} {rows:List (List D)} (hi:c.ρ[i]? = some b) (hD:∀ cap,rows.length≤cap→cap≤9223372036854775807→DR (c.cut n c.τ.length).M w (.sl rows) (.slice (some ⟨b,0,none⟩) rows.length cap)) {x:V} {v:Value} (h:VR c w x v):VR (c.cut n c.τ.length) w (td n i rows x) v:=by
 induction h with
 | undef v=>unfold Ab.td;exact .undef v
 | d x v h=>unfold Ab.td;exact .d x v (h.cut _ _)
 | full r a h ha=>unfold Ab.td;exact .full r a (h.cut _ _) ha
 | own r t a cap j h ht hr hn hl=>unfold Ab.td;exact .own r t a cap j (h.cut _ _) (cz ht (List.getElem?_eq_some_iff.1 ht).1) hr hn hl
 | ptr j k b h hT =>
  unfold Ab.td
  split
  ·rename_i au
   exact .ptr j k b (cz h au) hT
  ·exact .undef _
 | bx j k cap b2 h hn hm hT =>
  unfold Ab.td
  split
  ·rename_i au
   exact .bx j k cap b2 (cz h au) hn hm hT
  ·split
   ·rename_i he
    obtain ⟨rfl,rfl⟩:=he
    rw [hi] at h
    obtain rfl:=Option.some.inj h
    exact .d _ _ (hD cap hn hm)
   ·exact .undef _
 | mp j b2 h =>
  unfold Ab.td
  split
  ·rename_i au
   exact .mp j b2 (cz h au)
  ·exact .undef _
 | self j T b2 v h hT hv =>
  unfold Ab.td
  split
  ·rename_i au
   exact .self j T b2 v (cz h au) hT hv
  ·exact .undef _
 | buf r t T v h hT ih =>
  unfold Ab.td at ih ⊢
  exact .buf r t T v ih hT
 | gp row k g o f h =>
  unfold Ab.td
  refine .gp row k g o f fun q hq=>?_
  obtain ⟨a,b,d⟩:=h q hq
  exact ⟨fun h=>a (vT h),b,d.cut _ _⟩
 | iG=>unfold Ab.td;exact .iG
 | kM=>unfold Ab.td;exact .kM
 | func f first caps cf cc h1 h2 h3 h4 Ly lM =>
  unfold Ab.td
  rw [mR,mR]
  exact .func f _ _ cf cc (by simpa using h1) (by simpa using h2) (fun j hj=>by simpa using Ly j (by simpa using hj)) (fun j hj=>by simpa using lM j (by simpa using hj))
 | agg vs cs h1 h2 h3 ih =>
  unfold Ab.td
  rw [mR]
  exact .agg _ cs (by simpa using h1) (fun j hj=>by simpa using ih j (by simpa using hj)) (fun j hj=>h3 j (by simpa using hj))
 | bY vs cs h1 h2 ih =>
  unfold Ab.td
  rw [mR]
  exact .bY _ cs (by simpa using h1) (fun j hj=>by simpa using ih j (by simpa using hj))
section
variable {P:Program} {I:Inv} {z:Nat × Nat} {fn:FuncId} {R:V→Mem→Prop} {k:List Item} {env:List V}
theorem af.freeze {L G J:List (List V)} {T:List (Nat × Nat)} {sz i len cap:Nat} {rows:List (List D)} (h0:0 < sz) (hB:qX L.length sz G rows (.bx i len cap)) (hz:z.1≤L.length∧z.2≤T.length) (h:af P I z fn k (env.map (td L.length i rows)) ⟨L.map (·.map (td L.length i rows)),T⟩ R):af P I z fn k env ⟨L++(G++J),T⟩ R:=by
 rcases hB with ⟨_,_,h2⟩ | ⟨G0,AR,rfl,h2,FI,_,fF⟩
 ·cases h2
 cases h2
 intro b a c w c0 w0 h1 h2 h3 h4 h5 h6 hI
 have nP:=gv FI
 have AM:OQ (rows.flatten.map V.d++List.replicate ((cap - rows.length) * sz) V.undef):=by
  intro ks us he
  have h0:V.oy ks us∈rows.flatten.map V.d++List.replicate ((cap - rows.length) * sz) V.undef:=by rw [he];simp
  rcases List.mem_append.1 h0 with h | h
  ·obtain ⟨d,_,e⟩:=List.mem_map.1 h
   cases e
  ·have:=List.eq_of_mem_replicate h
   cases this
 generalize List.replicate ((cap - rows.length) * sz) V.undef=X at *
 have hm:c.τ.length=T.length:=by
  have:=congrArg List.length h5.aL
  simp at this;omega
 have Th:(L++((G0++[rows.flatten.map V.d++X])++J)).length=c.ρ.length:=h5.len
 obtain ⟨b0,jc⟩:∃ b0,c.ρ[L.length+G0.length]? = some b0:=⟨_,List.getElem?_eq_getElem (by rw [← Th];simp)⟩
 have V4:(⟨L++((G0++[rows.flatten.map .d++X])++J),T⟩:Mem).boxes[L.length+G0.length]? = some (rows.flatten.map .d++X):=by
  show (L++((G0++[rows.flatten.map .d++X])++J))[L.length+G0.length]? = _
  rw [← List.append_assoc,← List.append_assoc,List.getElem?_append_left (by simp),List.getElem?_append_right (by simp)]
  simp
 obtain ⟨cs,Ty,hh,dJ,qw⟩:=h5.rL jc (h5.Aw jc V4 AM) V4
 have UR:∀ q,¬ (c.cut L.length c.τ.length).M b0 q:=by
  rintro q ((hm | hm) | ⟨t,i,off,ht,ha,e1,e2⟩)
  ·have e1:=(c.hX _ _ hm).2
   have e2:c.X b0 q:=hm
   obtain ⟨e3,_⟩:=h5.box _ _ jc
   omega
  ·obtain ⟨j,hj⟩:=jj.1 hm
   have eS:(c.ρ.take L.length)[j]? = some b0:=hj
   rw [List.getElem?_take] at eS
   split at eS
   case isFalse=>cases eS
   have:=h5.inj _ _ _ eS jc
   omega
  ·have gR:(c.τ.take c.τ.length)[t]? = some i:=ht
   rw [List.take_length] at gR
   obtain ⟨a1,a2,a3,a4,a5⟩:=h5.tok t i gR
   have au:i.n < i.cap:=by
    rcases Nat.lt_or_ge i.n i.cap with h' | h'
    ·exact h'
    ·have:=Nat.mul_le_mul_right i.sz h'
     omega
   exact (a5 au b0 off ha).2.1 (jj.2 ⟨_,jc⟩)
 have hD:∀ cp,rows.length≤cp→cp≤9223372036854775807→DR (c.cut L.length c.τ.length).M w (.sl rows) (.slice (some ⟨b0,0,none⟩) rows.length cp):=by
  intro cp Lc zb
  have uT:∀ (j q:Nat) (r:List D) (d:D),rows[j]? = some r→r[q]? = some d→w.cell? ⟨b0,j * sz+q,none⟩=some (cs.getD (j * sz+q) undef)∧DR c.M w d (cs.getD (j * sz+q) undef):=by
   intro j q r d hj hq
   have e1:=rY nP j q r d hj hq
   have e2:=(List.getElem?_eq_some_iff.1 e1).1
   have au:j * sz+q < (rows.flatten.map V.d++X).length:=by rw [List.length_append,List.length_map];omega
   obtain ⟨q1,q2,_⟩:=qw _ au
   refine ⟨q1,?_⟩
   have e3:(rows.flatten.map V.d++X)[j * sz+q] = .d d:=by
    rw [List.getElem_append_left (by rw [List.length_map];exact e2),List.getElem_map]
    congr 1
    exact (List.getElem?_eq_some_iff.1 e1).2
   rw [e3] at q2
   cases q2 with
   | d _ _ h=>exact h
  refine .sl rows sz _ cp (fun j q=>cs.getD (j * sz+q) undef) h0 nP Lc zb (fun _=>⟨b0,0,rfl,fun j hj q hq=>⟨UR _,?_⟩⟩) (fun j hj q hq=>?_)
  ·rw [Nat.zero_add]
   exact (uT j q _ _ (List.getElem?_eq_getElem hj) (List.getElem?_eq_getElem hq)).1
  ·exact (uT j q _ _ (List.getElem?_eq_getElem hj) (List.getElem?_eq_getElem hq)).2.cut _ _
 have tA:dz (c.cut L.length c.τ.length) w ⟨L.map (·.map (td L.length (L.length+G0.length) rows)),T⟩:=by
  refine ⟨h5.hB,by simp [Cx.cut];simp at Th;omega,fun i b hi=>?_,fun i j b hi hj=>?_,?_,fun t i ht=>?_,fun t t' i i' g off th ht gR=>?_,h5.inv⟩
  ·have jX:(c.ρ.take L.length)[i]? = some b:=hi
   rw [List.getElem?_take] at jX
   split at jX
   case isFalse=>cases jX
   rename_i au
   obtain ⟨a,o,hh,vs,g1,g2⟩:=h5.box i b jX
   have SZ:L[i]? = some vs:=by
    have:(L++((G0++[rows.flatten.map .d++X])++J))[i]? = some vs:=g1
    rwa [List.getElem?_append_left au] at this
   refine ⟨a,o,hh,vs.map (td L.length (L.length+G0.length) rows),?_,?_⟩
   ·show (L.map _)[i]? = _
    rw [List.getElem?_map,SZ]
    rfl
   ·cases g2 with
    | cells cs Ty _ g2 g3 =>
     refine .cells cs Ty _ (by simpa using g2) fun j hj=>?_
     have eS:j < vs.length:=by simpa using hj
     rw [List.getElem_map]
     exact ⟨(g3 j eS).1.td jc hD,(g3 j eS).2⟩
    | map es ck ks us g0 k1 g2 =>
     simp only [List.map_cons,List.map_nil,td,mR]
     refine .map es ck ks _ g0 (by simpa using k1) fun j k v hj hv=>?_
     rw [List.getElem?_map] at hv
     obtain ⟨u,hu,rfl⟩:=Option.map_eq_some_iff.1 hv
     exact (g2 j k u hj hu).imp fun e he=>⟨he.1,he.2.1,he.2.2.td jc hD⟩
  ·have jX:(c.ρ.take L.length)[i]? = some b:=hi
   have eS:(c.ρ.take L.length)[j]? = some b:=hj
   rw [List.getElem?_take] at jX eS
   split at jX
   case isFalse=>cases jX
   split at eS
   case isFalse=>cases eS
   exact h5.inj i j b jX eS
  ·show T=(c.τ.take c.τ.length).map _
   rw [List.take_length]
   exact h5.aL
  ·have gR:(c.τ.take c.τ.length)[t]? = some i:=ht
   rw [List.take_length] at gR
   obtain ⟨a1,a2,a3,a4,a5⟩:=h5.tok t i gR
   refine ⟨a1,a2,a3,a4,fun au g off ha=>?_⟩
   obtain ⟨b1,b2,b3⟩:=a5 au g off ha
   exact ⟨b1,fun hm=>b2 (List.mem_of_mem_take hm),b3⟩
  ·have yC:(c.τ.take c.τ.length)[t]? = some i:=ht
   have uV:(c.τ.take c.τ.length)[t']? = some i':=gR
   rw [List.take_length] at yC uV
   exact h5.rG t t' i i' g off th yC uV
 have LY:cw (c.cut L.length c.τ.length) w (env.map (td L.length (L.length+G0.length) rows)) a.tmps:=by
  refine ⟨by simpa using h4.1,fun t ht=>?_⟩
  have gR:t < env.length:=by simpa using ht
  rw [List.getElem_map]
  exact (h4.2 t gR).td jc hD
 refine h b a (c.cut L.length c.τ.length) w c0 w0 h1 h2 h3 LY tA ⟨⟨fun g k v hm hv=>?_,fun i b hi=>?_,fun t i hi=>?_,h6.B,h6.keeps.ty⟩,h6.B,h6.I,h6.X,h6.below⟩ ⟨hI.1,hI.2⟩
 ·exact ⟨fun h=>(h6.keeps.cell g k v hm hv).1 (vT h),(h6.keeps.cell g k v hm hv).2⟩
 ·have:=(List.getElem?_eq_some_iff.1 hi).1
  exact cz (h6.keeps.ρ i b hi) (by omega)
 ·obtain ⟨i',a1,a2⟩:=h6.keeps.τ t i hi
  have:=(List.getElem?_eq_some_iff.1 a1).1
  exact ⟨i',cz a1 this,a2⟩
theorem af.nA {S:Mem} (q:Nat) (rows:List (List D)) (tk:Tok) (hq:env.getD q .undef = .sl rows tk) (h:af P I z fn k (env.set q (.d (.sl rows))) S R):af P I z fn k env S R:=by
 intro b a c w c0 w0 h1 h2 h3 h4 h5 h6 hI
 refine h b a c w c0 w0 h1 h2 h3 ⟨by simpa using h4.1,fun t ht=>?_⟩ h5 h6 hI
 have gR:t < env.length:=by simpa using ht
 by_cases e:q=t
 ·subst e
  have hv:=h4.get q
  rw [hq] at hv
  have hp:VR c w (.d (.sl rows)) (a.tmps.getD q undef):=by
   generalize a.tmps.getD q undef=v at hv
   cases hv with
   | full _ a h ha=>exact .d _ _ h
   | own _ t a cap i h ht hr hn hl=>exact .d _ _ h
  simpa using hp
 ·have:=h4.2 t gR
  simpa [e] using this
end
section
variable {P:Program} {I:Inv} {ops:Array Oper} {W:List Nat} {MM:Mem→Prop} {K:List V→Mem→Prop} {env:List V} {S:Mem} {listed:Array Bool}
theorem gA {n:Nat} (i:Nat) {oi:Oper} {v:V} (hi:ops[i]? = some oi) (hq:W.contains i=false) (hr:(Region.ready .any ops listed).contains i=true) (hf:Region.free .any ops listed i=true) (hg:oi.guard=none) (hy:∀ S,MM S→cU P (ai I env) S oi.op=some (v,S)) (h:j7 P I ops W MM K n (listed.setIfInBounds i true) (aO env oi.dst v) S):j7 P I ops W MM K (n+1) listed env S :=
 qW hi hq n listed env S (Region.free_spec hi hf) (by simpa using hr) (.inl ⟨.inl hg,hy⟩) h
theorem jN {o:Oper} {K:V→Mem→Prop} {v:V} {S':Mem} (hg:o.guard=none) (h1:cU P (ai I env) S o.op=some (v,S')) (h:K v S'):WC P I ops o env S K :=
 ⟨fun u T=>u=v∧T=S',⟨v,S',rfl,rfl⟩,.inl ⟨.inl hg,.inl ⟨v,S',h1,rfl,rfl⟩⟩,fun u T ⟨e1,e2⟩=>by subst e1 e2;exact h⟩
end
set_option linter.unusedSimpArgs false
section
variable {P:Program} {c:Cx} {w:World} {S:Mem}
theorem Ji {x:V} {X:Value} {an:List (List D)} {sz:Nat} (h0:0 < sz) (hx:VR c w x X) (hd:mL x=some (.sl an)) (hr:∀ r∈an,r.length=sz):∃ (a:Option Addr) (cap:Nat) (F:Nat→Value),X = .slice a an.length cap∧eD c w (an.flatten.map .d) ((List.range (an.length * sz)).map F) ∧
 ∀ W:World,W.heap=w.heap→(Builtin.firstCells sz an.length X).run P W = .ok ((List.range (an.length * sz)).map F).toArray W:=by
 have hD:=fU hx hd
 have m8:∃ a n cap,X = .slice a n cap:=by cases hD;exact ⟨_,_,_,rfl⟩
 obtain ⟨a,n,cap,rfl⟩:=m8
 obtain ⟨hn,_,_,F,hF,VQ⟩:=hD.flat sz hr
 subst hn
 have vo:=vY hr
 refine ⟨a,cap,F,rfl,⟨by simp only [List.length_map,List.length_range,vo],fun j v hv=>?_⟩,fun W hW=>kD (rows:=an) rfl hF W hW⟩
 rw [List.getElem?_map] at hv
 obtain ⟨d,hd,rfl⟩:=Option.map_eq_some_iff.1 hv
 have au:j < an.length * sz:=by
  have:=(List.getElem?_eq_some_iff.1 hd).1
  rwa [vo] at this
 have hj:j / sz < an.length:=Nat.div_lt_of_lt_mul (by rw [Nat.mul_comm];exact au)
 have hq:j % sz < (an[j / sz]).length:=by rw [hr _ (List.getElem_mem hj)];exact Nat.mod_lt _ h0
 have e:j / sz * sz+j % sz=j:=by rw [Nat.mul_comm];exact Nat.div_add_mod j sz
 have hg:=rY hr (j / sz) (j % sz) _ _ (List.getElem?_eq_getElem hj) (List.getElem?_eq_getElem hq)
 rw [e,hd] at hg
 have:=VQ (j / sz) hj (j % sz) hq
 rw [← Option.some.inj hg,e] at this
 exact ⟨F j,by simp [au],.d _ _ this,this.one⟩
theorem dz.V5 {L:List (List V)} {T:List (Nat × Nat)} (h:dz c w ⟨L,T⟩) {ts us ty e:TypeId} {ti te ui:tq} (jZ:bD P ts=some ti) (he:ti.d = .slice e) (nN:bD P e=some te) (LQ:bD P us=some ui) (Lf:∃ k,ui.d = .slice k) (a:Option Addr) (n cap:Nat) (old:List V) (xs:List Value)
 (Pp:eD c w old xs) (hold:∀ W:World,W.heap=w.heap→(Builtin.firstCells te.size n (.slice a n cap)).run P W = .ok xs.toArray W) {x:V} {X:Value} {an:List (List D)} (fF:¬ n+an.length≤cap) (Tf:n+an.length≤9223372036854775807) (h0:0 < te.size) (hx:VR c w x X) (hd:mL x=some (.sl an)) (hr:∀ r∈an,r.length=te.size) (hb:(n+an.length) * te.bytes≤140737488355328) :
 ∃ w' c' cu,(Builtin.append_ #[ts,us] ty #[.slice a n cap,X]).run P w = .ok (.slice (some ⟨w.heap.size,0,none⟩) (n+an.length) cu) w'∧n+an.length≤cu∧cu≤9223372036854775807∧dz c' w' ⟨L++[old++an.flatten.map .d++List.replicate ((cu - (n+an.length)) * te.size) .undef],T⟩∧Ext c w c' w'∧VR c' w' (.bx L.length (n+an.length) cu) (.slice (some ⟨w.heap.size,0,none⟩) (n+an.length) cu):=by
 obtain ⟨fi,d,z,h1,h2,h3,h4,h5,h6,_⟩:=aI jZ
 obtain ⟨gi,d2,z2,g1,g2,g3,g4,g5,g6,g7,g8,g9,US⟩:=aI nN
 obtain ⟨Yk,d3,z3,u1,u2,u3,u4,u5,u6,_⟩:=aI LQ
 rw [he] at h6
 obtain rfl:=bW h6
 obtain ⟨ke,V2⟩:=Lf
 rw [V2] at u6
 obtain rfl:=bW u6
 have Ty:yw P ts e te.size te.bytes:=⟨h2,gi,z2,g1,g3,g4,g5,g8⟩
 obtain ⟨ax,Tg,F,rfl,hF,gu⟩:=Ji (P:=P) h0 hx hd hr
 obtain ⟨i,zz,k1,k2,k3,bp⟩:=nj (P:=P) (w:=w) (ty:=ty) Ty ⟨_,u2,by simp⟩ a n cap an.length fF (.slice ax an.length Tg) xs ((List.range (an.length * te.size)).map F) (fun W=>by simp [Builtin.lenOf]) gu hold Tf hb
 rw [g1] at k1
 obtain rfl:=Option.some.inj k1
 rw [g3] at k2
 obtain rfl:=Option.some.inj k2
 have mc:=grownCap_ge w (n+an.length) cap e
 have yx:grownCap w (n+an.length) cap e≤9223372036854775807:=grownCap_le_maxLen w (n+an.length) cap e (by unfold maxLen;omega)
 unfold kN at bp
 generalize grownCap w (n+an.length) cap e=cu at bp mc yx
 have I0:Below w.heap.size w w.drew:=(Below.refl _ _).drew
 obtain ⟨r1,r2⟩:=h.under I0
 have vZ:=((Pp.append hF).append (CQ (c:=c) (w:=w) US te.size k3 (cu - (n+an.length)))).eC r2.keeps
 have Fc:xs.toArray++((List.range (an.length * te.size)).map F).toArray++Builtin.zeroCells z2.cells (cu - (n+an.length))=(xs++(List.range (an.length * te.size)).map F++(Builtin.zeroCells z2.cells (cu - (n+an.length))).toList).toArray:=by
  apply Array.ext'
  simp
 rw [Fc] at bp
 obtain ⟨q1,q2⟩:=r1.vi _ e _ (by simpa using vZ.1) (vZ.at)
 refine ⟨_,_,cu,bp,mc,yx,q1,r2.trans q2,.bx _ _ _ _ ?_ mc yx ⟨_,iH.new _ _⟩⟩
 show (c.ρ++[w.drew.heap.size])[L.length]? = _
 rw [show L.length=c.ρ.length from h.len]
 simp
def Pq (sz:Nat) (B:List (List V)) (T:List (Nat × Nat)) (s:V) (r:List D) (v:V) (S':Mem):Prop :=
 match s with
 | .sl [] .full=>∃ cu,1≤cu∧cu≤9223372036854775807∧v = .bx B.length 1 cu∧S' = ⟨B++[r.map .d++List.replicate ((cu - 1) * sz) .undef],T⟩
 | .bx i n cap=>∃ X,B[i]? = some X∧((n+1≤cap∧v = .bx i (n+1) cap∧S' = ⟨B.set i (X.take (n * sz)++r.map .d++X.drop (n * sz+sz)),T⟩)∨∃ cu,n+1≤cu∧cu≤9223372036854775807∧v = .bx B.length (n+1) cu∧S' = ⟨B++[X.take (n * sz)++r.map .d++List.replicate ((cu - (n+1)) * sz) .undef],T⟩)
 | _=>False
def Ti (sz:Nat) (B:List (List V)) (s:V):Prop :=
 match s with
 | .sl [] .full=>True
 | .bx i n cap=>∃ X,B[i]? = some X∧X.length=cap * sz∧n≤1000000000
 | _=>False
theorem Pq.ex {sz:Nat} {B:List (List V)} (T:List (Nat × Nat)) {s:V} (r:List D) (h:Ti sz B s):∃ v S',Pq sz B T s r v S':=by
 unfold Ti at h
 split at h
 ·exact ⟨_,_,1,by omega,by omega,rfl,rfl⟩
 ·rename_i i n cap
  obtain ⟨X,hX,_⟩:=h
  exact ⟨_,_,X,hX,.inr ⟨n+1,Nat.le_refl _,by omega,rfl,rfl⟩⟩
 ·exact h.elim
def L9 (sz:Nat) (B:List (List V)) (T:List (Nat × Nat)) (an:List (List D)) (v:V) (S':Mem):Prop :=
 ∃ cu,an.length≤cu∧cu≤9223372036854775807∧v = .bx B.length an.length cu∧S' = ⟨B++[an.flatten.map .d++List.replicate ((cu - an.length) * sz) .undef],T⟩
theorem qA.Ma {I:Inv} {env:List V} {o:Oper} {B:List (List V)} {T:List (Nat × Nat)} {so xo:Operand} {ts us e:TypeId} {ti te ui:tq} {x:V} {an:List (List D)} (ho:o.op = .call ⟨.builtin .append,#[so,xo],#[ts,us]⟩)
 (jZ:bD P ts=some ti) (he:ti.d = .slice e) (nN:bD P e=some te) (LQ:bD P us=some ui) (Lf:∃ k,ui.d = .slice k) (h0:0 < te.size) (FF:ai I env so = .sl [] .full) (hex:ai I env xo=x) (cm:an ≠ []) (hd:mL x=some (.sl an)) (hr:∀ r∈an,r.length=te.size) (hb:te.bytes≤100000) (hl:an.length≤1000000000) :
 qA P I o env ⟨B,T⟩ (L9 te.size B T an):=by
 intro c w ev h1 h2 h3
 have lP:∀ y,y=so∨y=xo→y∈o.op.operands:=by
  intro y hy
  rw [ho]
  simp only [Op.operands,Call.operands]
  rcases hy with rfl | rfl<;>simp
 have hA:=h3 so (lP so (.inl rfl))
 have hX:=h3 xo (lP xo (.inr rfl))
 rw [FF] at hA
 rw [hex] at hX
 have hlen:0 < an.length:=List.length_pos_iff.2 cm
 have E9:(0+an.length) * te.bytes≤140737488355328:=by
  have:(0+an.length) * te.bytes≤1000000000 * 100000:=Nat.mul_le_mul (by omega) hb
  omega
 generalize V6:ev so=A at hA
 cases hA with
 | full _ a I0 ha =>
  obtain ⟨w',c',cu,k1,k2,k2',k3,k4,k5⟩:=h1.V5 (ty:=o.type) (an:=an) jZ he nN LQ Lf a 0 0 [] [] .nil (fun W hW=>by
   obtain ⟨_,_,_,F,hF,_⟩:=I0.flat te.size (by simp)
   have:=kD (P:=P) (sz:=te.size) (cap:=0) (a:=a) (rows:=[]) (n:=0) rfl hF W hW
   simpa using this) (by omega) (by omega) h0 hX hd hr E9
  rw [Nat.zero_add] at k1 k2 k3 k5
  refine ⟨.slice (some ⟨w.heap.size,0,none⟩) an.length cu,w',c',.bx B.length an.length cu,⟨B++[an.flatten.map .d++List.replicate ((cu - an.length) * te.size) .undef],T⟩,?_,⟨cu,k2,k2',rfl,rfl⟩,?_,k4,k5⟩
  ·simp only [List.length_nil] at V6
   simp [execOp,ho,resolve,invoke,builtin,V6,k1]
  ·rw [List.nil_append] at k3
   exact k3
end
def kT:Op→Bool
 | .store _ _ _ | .alloc _ | .box _ _ | .makeMap _ _ | .mapUpdate _ _ _ _=>true
 | .call c=>match c.callee with
  | .value _=>true
  | .builtin .append=>true
  | .builtin .delete=>true
  | _=>false
 | _=>false
def Jj:Op→Bool
 | .load _ _ | .lookup _ _ _ _=>true
 | _=>false
def mS:List Nat→Nat→Bool
 | [],_=>false
 | a :: l,k=>(a == k) || mS l k
theorem jJ:∀ {l:List Nat} {k:Nat},mS l k=true↔k∈l
 | [],k=>by simp [mS]
 | a :: l,k=>by rw [mS,Bool.or_eq_true,beq_iff_eq,jJ,List.mem_cons,eq_comm]
def Lg (A:List Nat) (ops:Array Oper):List Nat:=(List.range ops.size).filter fun k=>kT (bh ops k).op && !mS A k
def lJ (S:Mem) (Z:List (List V)):Mem:=⟨S.boxes++Z,S.aL⟩
theorem iP (S:Mem):lJ S []=S:=by simp [lJ]
def zA (P:Program) (ops:Array Oper) (a:Nat):List V :=
 match (bh ops a).op with
 | .alloc t=>(match bD P t with
  | some i=>i.zero
  | none=>[])
 | _=>[.oy [] []]
def FJ (ops:Array Oper) (a N:Nat):V :=
 match (bh ops a).op with
 | .alloc _=>.ptr N 0
 | _=>.mp N
def gW (ops:Array Oper):Nat→List Nat→List V→List V
 | _,[],env=>env
 | N,a :: l,env=>gW ops (N+1) l (aO env (bh ops a).dst (FJ ops a N))
def V7 (P:Program):Op→Bool
 | .alloc t=>(bD P t).isSome
 | .makeMap _ none=>true
 | _=>false
def nodupB:List Nat→Bool
 | []=>true
 | a :: l=>!mS l a && nodupB l
def Ys (P:Program) (ops:Array Oper) (A:List Nat) (p:Nat):Bool:=nodupB A && A.all fun a=>Nat.ble (a+1) p && (match ops[a]? with
 | some o=>o.guard.isNone && V7 P o.op && (o.after.all fun e=>!Region.binds .any e) && (List.range p).all fun j=>(j == a) || (match ops[j]? with
  | some oj=>(oj.after.all fun e=>!(Region.binds .any e && (e.on == a))) && (match o.dst with
   | some t=>!(oj.dst == some t) && !(oj.looksAt ops).contains t
   | none=>true)
  | none=>true)
 | none=>false)
def qn:List Nat→Nat→Prop
 | [],_=>False
 | x :: l,i=>x=i∨qn l i
def Kept (L:List Nat) (S S':Mem):Prop:=∀ i,qn L i→∀ vs,S.boxes[i]? = some vs→S'.boxes[i]? = some vs
def eI:List Nat→Mem→Mem→Prop
 | [],_,_=>True
 | x :: l,S,S'=>S'.boxes[x]? = S.boxes[x]?∧eI l S S'
theorem eI.kept {S S':Mem}:∀ {L:List Nat},eI L S S'→Kept L S S'
 | [],_,_,h=>h.elim
 | _ :: _,h,i,.inl e=>fun vs hv=>by subst e;rw [h.1];exact hv
 | _ :: _,h,i,.inr e=>h.2.kept i e
theorem kU (S:Mem):∀ (L:List Nat),eI L S S
 | []=>trivial
 | _ :: l=>⟨rfl,kU S l⟩
def qC:List Nat→Mem→Prop
 | [],_=>True
 | x :: l,S=>(S.boxes[x]?).isSome=true∧qC l S
theorem qC.get {S:Mem}:∀ {L:List Nat},qC L S→∀ i,qn L i→∃ vs,S.boxes[i]? = some vs
 | [],_,_,h=>h.elim
 | _ :: _,h,i,.inl e=>by subst e;exact Option.isSome_iff_exists.1 h.1
 | _ :: _,h,i,.inr e=>h.2.get i e
theorem Kept.lJ {L:List Nat} {S S':Mem} (h:Kept L S S') (Z:List (List V)):Kept L S (lJ S' Z):=fun i hi vs hv=>by
 have:=h i hi vs hv
 show (S'.boxes++Z)[i]? = some vs
 rw [List.getElem?_append_left (List.getElem?_eq_some_iff.1 this).1];exact this
section machine
variable {P:Program} {I:Inv} {ops:Array Oper} {A W:List Nat} {MM:Mem→Prop} {p:Nat}
def WX (P:Program) (I:Inv) (ops:Array Oper) (A:List Nat) (o:Oper) (env:List V) (S:Mem) (Q:V→Mem→Prop):Prop:=(ek env ops o∧∀ Z,(A=[]→Z=[])→WO P I o env (lJ S Z) fun v T=>∃ S',T=lJ S' Z∧Q v S')∨(oI env ops o∧Q (.bY []) S)
theorem WX.congr {o:Oper} {env:List V} {d:Option Tmp} {x:V} {S:Mem} {Q:V→Mem→Prop} (h:∀ t,d=some t→t ∉ o.looksAt ops):WX P I ops A o (aO env d x) S Q↔WX P I ops A o env S Q:=by
 cases d with
 | none=>rfl
 | some t=>exact or_congr (and_congr (oM (h t rfl)) (forall_congr' fun Z=>imp_congr Iff.rfl (WO.congr h))) (and_congr (oN (h t rfl)) Iff.rfl)
def ZJ (P:Program) (I:Inv) (ops:Array Oper) (A:List Nat) (o:Oper) (env:List V) (S:Mem) (K:V→Mem→Prop):Prop:=∃ Q:V→Mem→Prop,(∃ v S',Q v S')∧(∀ v S',Q v S'→S'.boxes.length=S.boxes.length∨A=[])∧WX P I ops A o env S Q∧∀ v S',Q v S'→K v S'
def uY (P:Program) (I:Inv) (ops:Array Oper) (A W:List Nat) (p:Nat) (MM:Mem→Prop) (K:Array Bool→List V→Mem→Prop):Nat→Array Bool→List V→Mem→Prop
 | 0,la,env,S=>MM S∧(∀ j,j < p→la.getD j true=true)∧K la env S
 | n+1,la,env,S=>MM S∧((∀ j,j < p→la.getD j true=true)→K la env S)∧∀ i∈Region.ready .any ops la,i < p→∃ o,ops[i]? = some o ∧
  ((W.contains i=true∧ZJ P I ops A o env S fun v S'=>uY P I ops A W p MM K n (la.setIfInBounds i true) (aO env o.dst v) S') ∨
   (W.contains i=false∧∃ v,QC P I ops MM o env v∧uY P I ops A W p MM K n (la.setIfInBounds i true) (aO env o.dst v) S))
variable {K:Array Bool→List V→Mem→Prop}
theorem uY.in:∀ {n:Nat} {la:Array Bool} {env:List V} {S:Mem},uY P I ops A W p MM K n la env S→MM S
 | 0,_,_,_,h=>h.1
 | _+1,_,_,_,h=>h.1
theorem FK {i:Nat} {oi:Oper} (hi:ops[i]? = some oi) (Cb:i < p) (hq:W.contains i=false) {v:V}:∀ (n:Nat) (listed:Array Bool) (env:List V) (S:Mem),rV ops listed i oi→i∈Region.ready .any ops listed→QC P I ops MM oi env v→uY P I ops A W p MM K n (listed.setIfInBounds i true) (aO env oi.dst v) S→uY P I ops A W p MM K (n+1) listed env S:=by
 intro n
 induction n with
 | zero =>
  intro listed env S _ hr hy H
  refine ⟨H.in,fun h=>(by have:=h i Cb;rw [(mem_ready.1 hr).1] at this;cases this),fun j hj OE=>?_⟩
  by_cases fC:j=i
  ·subst fC;exact ⟨oi,hi,.inr ⟨hq,v,hy,H⟩⟩
  ·have h1:=H.2.1 j OE
   rw [(mem_ready.1 (ready_mono hj fC)).1] at h1
   cases h1
 | succ n ih =>
  intro listed env S fZ hr hy H
  refine ⟨H.in,fun h=>(by have:=h i Cb;rw [(mem_ready.1 hr).1] at this;cases this),fun j hj OE=>?_⟩
  by_cases fC:j=i
  ·subst fC;exact ⟨oi,hi,.inr ⟨hq,v,hy,H⟩⟩
  obtain ⟨oj,jq,hH⟩:=H.2.2 j (ready_mono hj fC) OE
  have kP:=(mem_ready.1 hj).1
  obtain ⟨a1,a2,a3⟩:=fZ.apart hr hj fC jq
  have ny:=ready_mono hr (Ne.symm fC)
  rcases hH with ⟨m9,Q,cm,Ho,Jh,hk⟩ | ⟨m9,u,OC,h1⟩
  ·refine ⟨oj,jq,.inl ⟨m9,Q,cm,Ho,(WX.congr a1).1 Jh,fun u S' hQ=>?_⟩⟩
   refine ih (listed.setIfInBounds j true) (aO env oj.dst u) S' (fZ.next kP) ny ((QC.congr a3).2 hy) ?_
   rw [Array.setIfInBounds_comm _ _ fC,← iD env v u a2]
   exact hk u S' hQ
  ·refine ⟨oj,jq,.inr ⟨m9,u,(QC.congr a1).1 OC,ih (listed.setIfInBounds j true) (aO env oj.dst u) S (fZ.next kP) ny ((QC.congr a3).2 hy) ?_⟩⟩
   rw [Array.setIfInBounds_comm _ _ fC,← iD env v u a2]
   exact h1
theorem FL {U:List Nat} {i:Nat} {oi:Oper} (hi:ops[i]? = some oi) (Cb:i < p) (hq:W.contains i=true):∀ (n:Nat) (listed:Array Bool) (env:List V) (S:Mem),MM S→rV ops listed i oi→vW ops U listed i→(∀ j oj,ops[j]? = some oj→W.contains j=true→listed.getD j true=false→j=i∨U.contains j=true)→i∈Region.ready .any ops listed→ZJ P I ops A oi env S (fun v S'=>uY P I ops A W p MM K n (listed.setIfInBounds i true) (aO env oi.dst v) S')→uY P I ops A W p MM K (n+1) listed env S:=by
 intro n
 induction n with
 | zero =>
  intro listed env S hS _ _ _ hr hy
  refine ⟨hS,fun h=>(by have:=h i Cb;rw [(mem_ready.1 hr).1] at this;cases this),fun j hj OE=>?_⟩
  by_cases fC:j=i
  ·subst fC;exact ⟨oi,hi,.inl ⟨hq,hy⟩⟩
  ·obtain ⟨Q,⟨v0,S0,h0⟩,_,_,hk⟩:=hy
   have h1:=(hk v0 S0 h0).2.1 j OE
   rw [(mem_ready.1 (ready_mono hj fC)).1] at h1
   cases h1
 | succ n ih =>
  intro listed env S hS fZ CN V1 hr hy
  refine ⟨hS,fun h=>(by have:=h i Cb;rw [(mem_ready.1 hr).1] at this;cases this),fun j hj OE=>?_⟩
  by_cases fC:j=i
  ·subst fC;exact ⟨oi,hi,.inl ⟨hq,hy⟩⟩
  obtain ⟨Q,⟨v0,S0,h0⟩,Ho,Jh,hk⟩:=hy
  obtain ⟨oj,jq,hH⟩:=(hk v0 S0 h0).2.2 j (ready_mono hj fC) OE
  obtain ⟨kP,S7,kQ,jb⟩:=mem_ready.1 hj
  rw [jq] at kQ
  obtain rfl:=Option.some.inj kQ
  obtain ⟨a1,a2,a3⟩:=fZ.apart hr hj fC jq
  have ny:=ready_mono hr (Ne.symm fC)
  rcases hH with ⟨m9,_⟩ | ⟨m9,u,OC,_⟩
  ·obtain ⟨e,he,hb,_,lQ⟩:=CN j oj jq ((V1 j oj jq m9 kP).resolve_left fC) fC kP
   have h1:=jb e he hb
   rcases Nat.lt_or_ge e.on listed.size with h' | h'
   ·simp [h'] at lQ h1;rw [lQ] at h1;cases h1
   ·simp [Array.getElem?_eq_none h'] at h1
  ·have CO:=(QC.congr a1).1 OC
   refine ⟨oj,jq,.inr ⟨m9,u,CO,ih (listed.setIfInBounds j true) (aO env oj.dst u) S hS (fZ.next kP) (CN.next jb jq fC kP) (fun k ok hk E1 lQ=>?_) ny ⟨Q,⟨v0,S0,h0⟩,Ho,(WX.congr a3).2 Jh,fun v S' hQ=>?_⟩⟩⟩
   ·by_cases pU:j=k
    ·subst pU
     rw [m9] at E1;cases E1
    ·rw [getD_set_ne true pU] at lQ
     exact V1 k ok hk E1 lQ
   ·obtain ⟨S7,kQ,ZI⟩:=(hk v S' hQ).2.2 j (ready_mono hj fC) OE
    rw [jq] at kQ
    obtain rfl:=Option.some.inj kQ
    rcases ZI with ⟨L7,_⟩ | ⟨_,u',CO,h1⟩
    ·rw [m9] at L7;cases L7
    ·have e2:QC P I ops MM oj env u':=(QC.congr a1).1 CO
     have e3:=QC.one hS e2 ((QC.congr a1).1 OC)
     subst e3
     rw [Array.setIfInBounds_comm _ _ fC,← iD env v u' a2]
     exact h1
def FM (A:List Nat):Nat→Nat→Nat
 | _,0=>0
 | k,q+1=>cond (mS A k) (FM A (k+1) q) (FM A (k+1) q+1)
def Jk (P:Program) (I:Inv) (ops:Array Oper) (A W:List Nat) (MM:Mem→Prop) (K:List V→Mem→Prop):List Oper→Nat→List V→Mem→Prop
 | [],_,env,S=>MM S∧K env S
 | o :: l,k,env,S=>(mS A k=true→Jk P I ops A W MM K l (k+1) env S)∧(mS A k=false→(W.contains k=true→MM S∧ZJ P I ops A o env S fun v S'=>Jk P I ops A W MM K l (k+1) (aO env o.dst v) S') ∧
  (W.contains k=false→∃ v,QC P I ops MM o env v∧Jk P I ops A W MM K l (k+1) (aO env o.dst v) S))
theorem tD {listed la:Array Bool} {i:Nat} (dJ:la.size=ops.size) (uX:∀ j,j < ops.size→listed.getD j true=true→la.getD j true=true) (AT:listed.size=ops.size) (hi:i∈Region.ready .any ops listed) (hu:la.getD i true=false):i∈Region.ready .any ops la:=by
 obtain ⟨_,oi,yE,jb⟩:=mem_ready.1 hi
 refine mem_ready.2 ⟨hu,oi,yE,fun e he hb=>?_⟩
 have h1:=jb e he hb
 rcases Nat.lt_or_ge e.on ops.size with h' | h'
 ·have h2:=uX e.on h' (by simp [AT,h'] at h1 ⊢;exact h1)
  simp [dJ,h'] at h2 ⊢
  exact h2
 ·simp [Array.getElem?_eq_none (show listed.size≤e.on by omega)] at h1
theorem CR {k:Nat} {la:Array Bool} (Pr:∀ a o,mS A a=true→ops[a]? = some o→∀ e∈o.after,Region.binds .any e=false) (hk:k < ops.size) (ha:mS A k=false) (vn:∀ j,j < ops.size→la.getD j true=(decide (j < k) || mS A j)):vW ops (desc ops k) la k:=by
 intro j oj jq hj pU _
 rcases rW (List.contains_iff_mem.1 hj) with rfl | ⟨_,S7,kQ,e,he,hb,Pm⟩
 ·exact absurd rfl pU
 rw [jq] at kQ
 obtain rfl:=Option.some.inj kQ
 refine ⟨e,he,hb,List.contains_iff_mem.2 Pm,?_⟩
 rcases rW Pm with h | ⟨h,oe,Yn,e2,LR,ou,_⟩
 ·rw [h,vn k hk,ha,Bool.or_false];exact decide_eq_false (Nat.lt_irrefl k)
 ·rw [vn _ (Array.getElem?_eq_some_iff.1 Yn).1]
  have h1:mS A e.on=false:=by
   cases hx:mS A e.on with
   | false=>rfl
   | true=>rw [Pr _ _ hx Yn e2 LR] at ou;cases ou
  rw [h1,Bool.or_false]
  exact decide_eq_false (by omega)
theorem rZ (Pr:∀ a o,mS A a=true→ops[a]? = some o→∀ e∈o.after,Region.binds .any e=false) (Pt:p≤ops.size) (UX:(W.all fun k=>Nat.ble (k+1) ops.size)=true) (OD:(W.all fun k=>W.all fun j=>Nat.ble j k || (desc ops k).contains j)=true) {KK:List V→Mem→Prop} (m:Nat)
 (Yt:∀ la env S,la.size=ops.size→(∀ j,j < ops.size→la.getD j true=(decide (j < p) || mS A j))→(∀ listed:Array Bool,listed.size=ops.size→(∀ j,j < ops.size→listed.getD j true=decide (j < p))→Region.lexFrom .any ops m p listed=true)→KK env S→K la env S):∀ (l:List Oper) (k:Nat) (listed la:Array Bool) (env:List V) (S:Mem),(∀ j,j < l.length→l[j]? = ops[k+j]?)→k+l.length=p→listed.size=ops.size→la.size=ops.size→(∀ j,j < ops.size→listed.getD j true=decide (j < k))→(∀ j,j < ops.size→la.getD j true=(decide (j < k) || mS A j)) →
 Region.lexFrom .any ops (l.length+m) k listed=true→Jk P I ops A W MM KK l k env S→uY P I ops A W p MM K (FM A k l.length) la env S
 | [],k,listed,la,env,S,_,OF,m8,dJ,V8,vn,hB,h=>by
  have OF:k=p:=by simpa using OF
  subst OF
  refine ⟨h.1,fun j hj=>?_,Yt la env S dJ vn (fun li hli Pu=>?_) h.2⟩
  ·rw [vn j (by omega),decide_eq_true hj,Bool.true_or]
  ·have e:li=listed:=by
    apply Array.ext
    ·omega
    ·intro j hj eS
     have h1:=Pu j (by omega)
     have h2:=V8 j (by omega)
     simp [hj,eS] at h1 h2
     rw [h1,h2]
   rw [e]
   simpa using hB
 | o :: l,k,listed,la,env,S,hl,OF,m8,dJ,V8,vn,hB,h=>by
  have h0:ops[k]? = some o:=by simpa using (hl 0 (by simp)).symm
  have hk:=(Array.getElem?_eq_some_iff.1 h0).1
  have V9:k < p:=by simp at OF;omega
  rw [show (o :: l).length+m=(l.length+m)+1 by simp;omega] at hB
  simp only [Region.lexFrom,Bool.and_eq_true] at hB
  obtain ⟨⟨hr,hf⟩,OA⟩:=hB
  have lO:∀ j,j < l.length→l[j]? = ops[k+1+j]?:=fun j hj=>by
   have:=hl (j+1) (by simp;omega)
   simpa [Nat.add_assoc,Nat.add_comm 1 j] using this
  have gS:∀ j,j < ops.size→(listed.setIfInBounds k true).getD j true=decide (j < k+1):=by
   intro j hj
   by_cases pU:k=j
   ·subst pU
    have:decide (k < k+1)=true:=decide_eq_true (by omega)
    rw [this]
    by_cases hs:k < listed.size<;>simp [hs]
   ·rw [getD_set_ne true pU,V8 j hj]
    exact decide_eq_decide.2 (by omega)
  have hlen:(o :: l).length=l.length+1:=rfl
  cases ha:mS A k with
  | true =>
   rw [hlen,FM,ha,cond_true]
   refine rZ Pr Pt UX OD m Yt l (k+1) _ la env S lO (by simp at OF;omega) (by simpa using m8) dJ gS (fun j hj=>?_) OA (h.1 ha)
   rw [vn j hj]
   by_cases pU:j=k
   ·subst pU
    simp [ha]
   ·congr 1
    exact decide_eq_decide.2 (by omega)
  | false =>
   rw [hlen,FM,ha,cond_false]
   have CP:∀ j,j < ops.size→(la.setIfInBounds k true).getD j true=(decide (j < k+1) || mS A j):=by
    intro j hj
    by_cases pU:k=j
    ·subst pU
     have:decide (k < k+1)=true:=decide_eq_true (by omega)
     rw [this,Bool.true_or]
     by_cases hs:k < la.size<;>simp [hs]
    ·rw [getD_set_ne true pU,vn j hj]
     congr 1
     exact decide_eq_decide.2 (by omega)
   have Yu:la.getD k true=false:=by rw [vn k hk,ha,Bool.or_false];exact decide_eq_false (Nat.lt_irrefl k)
   have uX:∀ j,j < ops.size→listed.getD j true=true→la.getD j true=true:=fun j hj h1=>by rw [vn j hj,← V8 j hj,h1,Bool.true_or]
   have Yv:k∈Region.ready .any ops la:=tD dJ uX m8 (by simpa using hr) Yu
   have Tj:rV ops listed k o:=Region.free_spec h0 hf
   have fZ:rV ops la k o:=fun j oj jq pU lQ AM=>Tj j oj jq pU (by
    have SU:=(Array.getElem?_eq_some_iff.1 jq).1
    rw [vn j SU,Bool.or_eq_false_iff] at lQ
    rw [V8 j SU];exact lQ.1) AM
   cases hw:W.contains k with
   | true =>
    obtain ⟨hS,Q,cm,Ho,Jh,hK⟩:=(h.2 ha).1 hw
    refine FL (U:=desc ops k) h0 V9 hw _ la env S hS fZ (CR Pr hk ha vn) (fun j oj jq m9 lQ=>?_) Yv ⟨Q,cm,Ho,Jh,fun v S' hQ=>rZ Pr Pt UX OD m Yt l (k+1) _ _ _ _ lO (by simp at OF;omega) (by simpa using m8) (by simpa using dJ) gS CP OA (hK v S' hQ)⟩
    rw [vn j (Array.getElem?_eq_some_iff.1 jq).1,Bool.or_eq_false_iff] at lQ
    have ZH:=of_decide_eq_false lQ.1
    have h1:=List.all_eq_true.1 (List.all_eq_true.1 OD k (List.contains_iff_mem.1 hw)) j (List.contains_iff_mem.1 m9)
    rw [Bool.or_eq_true] at h1
    rcases h1 with h | h
    ·exact .inl (by have:=Nat.le_of_ble_eq_true h;omega)
    ·exact .inr h
   | false =>
    obtain ⟨v,hv,hK⟩:=(h.2 ha).2 hw
    exact FK h0 V9 hw _ la env S fZ Yv hv (rZ Pr Pt UX OD m Yt l (k+1) _ _ _ _ lO (by simp at OF;omega) (by simpa using m8) (by simpa using dJ) gS CP OA hK)
theorem zn (a:Nat):∀ (l:List Nat) (N:Nat) (env:List V),gW ops N (l++[a]) env=aO (gW ops N l env) (bh ops a).dst (FJ ops a (N+l.length))
 | [],N,env=>rfl
 | b :: l,N,env=>by
  rw [List.cons_append,gW,zn a l,gW,List.length_cons,Nat.add_assoc,Nat.add_comm 1]
theorem v7 {d:Option Tmp} (v:V):∀ (l:List Nat) (N:Nat) (env:List V),(∀ a∈l,∀ t,d=some t→(bh ops a).dst ≠ some t)→gW ops N l (aO env d v)=aO (gW ops N l env) d v
 | [],_,_,_=>rfl
 | a :: l,N,env,h=>by
  rw [gW,gW,← v7 v l (N+1) _ fun b hb=>h b (List.mem_cons_of_mem _ hb),iD env v _ fun t ht=>h a List.mem_cons_self t ht]
theorem AU {o:Oper} {v:V}:∀ (l:List Nat) (N:Nat) (env:List V),(∀ a∈l,∀ t,(bh ops a).dst=some t→t ∉ o.looksAt ops)→(QC P I ops MM o (gW ops N l env) v↔QC P I ops MM o env v)
 | [],_,_,_=>Iff.rfl
 | a :: l,N,env,h=>by
  rw [gW,AU l (N+1) _ fun b hb=>h b (List.mem_cons_of_mem _ hb)]
  exact QC.congr fun t ht=>h a List.mem_cons_self t ht
theorem Hp {o:Oper} {S:Mem} {Q:V→Mem→Prop}:∀ (l:List Nat) (N:Nat) (env:List V),(∀ a∈l,∀ t,(bh ops a).dst=some t→t ∉ o.looksAt ops)→(WX P I ops A o (gW ops N l env) S Q↔WX P I ops A o env S Q)
 | [],_,_,_=>Iff.rfl
 | a :: l,N,env,h=>by
  rw [gW,Hp l (N+1) _ fun b hb=>h b (List.mem_cons_of_mem _ hb)]
  exact WX.congr fun t ht=>h a List.mem_cons_self t ht
structure ZK (P:Program) (ops:Array Oper) (A:List Nat) (p:Nat):Prop where
 lt:∀ a∈A,a < p
 op:∀ a∈A,∃ o,ops[a]? = some o∧o.guard=none∧V7 P o.op=true∧(∀ e∈o.after,Region.binds .any e=false)
 el:∀ a∈A,∀ j oj,j < p→j ≠ a→ops[j]? = some oj→(∀ e∈oj.after,Region.binds .any e=true→e.on ≠ a)∧(∀ t,(bh ops a).dst=some t→oj.dst ≠ some t∧t ∉ oj.looksAt ops)
 nd:A.Nodup
theorem zo:∀ {l:List Nat},nodupB l=true→l.Nodup
 | [],_=>List.nodup_nil
 | a :: l,h=>by
  rw [nodupB,Bool.and_eq_true] at h
  refine List.nodup_cons.2 ⟨fun hm=>?_,zo h.2⟩
  rw [jJ.2 hm] at h
  cases h.1
theorem Tk (h:Ys P ops A p=true):ZK P ops A p:=by
 rw [Ys,Bool.and_eq_true,List.all_eq_true] at h
 obtain ⟨hn,h⟩:=h
 refine ⟨fun a ha=>?_,fun a ha=>?_,fun a ha j oj hj Te jq=>?_,zo hn⟩
 ·have:=h a ha
  rw [Bool.and_eq_true] at this
  have:=Nat.le_of_ble_eq_true this.1
  omega
 ·have h1:=h a ha
  rw [Bool.and_eq_true] at h1
  have h2:=h1.2
  split at h2
  ·rename_i o ho
   simp only [Bool.and_eq_true] at h2
   refine ⟨o,ho,by simpa using h2.1.1.1,h2.1.1.2,fun e he=>?_⟩
   have h3:=h2.1.2
   rw [Array.all_eq_true'] at h3
   simpa using h3 e he
  ·cases h2
 ·have h1:=h a ha
  rw [Bool.and_eq_true] at h1
  have h2:=h1.2
  split at h2
  ·rename_i o ho
   simp only [Bool.and_eq_true] at h2
   have h4:=List.all_eq_true.1 h2.2 j (List.mem_range.2 hj)
   rw [show (j == a)=false from beq_eq_false_iff_ne.2 Te,Bool.false_or,jq] at h4
   simp only [Bool.and_eq_true] at h4
   have e:bh ops a=o:=by unfold bh;rw [ho]
   refine ⟨fun e he hb Pm=>?_,fun t ht=>?_⟩
   ·have h5:=h4.1
    rw [Array.all_eq_true'] at h5
    have h6:=h5 e he
    rw [hb,Pm] at h6
    simp at h6
   ·rw [e] at ht
    have h5:=h4.2
    rw [ht] at h5
    simp only [Bool.and_eq_true,Bool.not_eq_true',beq_eq_false_iff_ne,List.contains_eq_mem] at h5
    exact ⟨h5.1,by simpa using h5.2⟩
  ·cases h2
theorem Hq {P:Program} {ev:Operand→V} {op:Op} {S:Mem} {v:V} {S':Mem} (hw:kT op=false) (hl:Jj op=false) (h:cU P ev S op=some (v,S')):∀ S2:Mem,cU P ev S2 op=some (v,S2):=by
 intro S2
 have st:∀ {r:Option V},still S r=some (v,S')→still S2 r=some (v,S2):=by
  intro r hr
  obtain ⟨u,hu,e⟩:=Option.map_eq_some_iff.1 hr
  obtain ⟨rfl,rfl⟩:=Prod.mk.inj e
  rw [hu];rfl
 cases op<;>simp only [cU] at h ⊢<;>try (cases h;done)
 all_goals try (cases hw;done)
 all_goals try (cases hl;done)
 case move x=>cases h;rfl
 case assign x=>cases h;rfl
 case pick c a b =>
  split at h
  ·cases h;rfl
  ·cases h
 case build t ps=>exact st h
 case buildSlice t n ps=>exact st h
 case nilCheck x =>
  split at h
  ·cases h;rfl
  ·cases h;rfl
  ·cases h
 case binOp o t x y u=>exact st h
 case unOp o t x=>exact st h
 case convert s d x=>exact st h
 case makeFunc fn first caps =>
  cases fn<;>simp only at h ⊢<;>cases h
  rfl
 case slice t x lo hi mx =>
  cases mx<;>simp only at h ⊢
  ·exact st h
  ·cases h
 case fieldAddr s x f=>exact st h
 case field s x f=>exact st h
 case indexAddr t x i=>exact st h
 case index t x i=>exact st h
 case extract x i =>
  split at h
  ·exact st h
  ·cases h
 case call c =>
  unfold dD at h ⊢
  split at h
  ·exact st h
  ·rename_i hc _ _;simp [kT,hc] at hw
  ·exact st h
  ·exact st h
  ·rename_i hc _ _;simp [kT,hc] at hw
  ·cases h
def Mb (ops:Array Oper):Prop:=∀ k,k < ops.size→∃ o,ops[k]? = some o∧∀ la:Array Bool,la.size=ops.size→(∀ j,j < k→la.getD j true=true)→la.getD k true=false→k∈Region.ready .any ops la∧rV ops la k o
theorem v8:∀ (n k:Nat) (listed:Array Bool),listed.size=ops.size→(∀ j,j < ops.size→listed.getD j true=decide (j < k))→Region.lexFrom .any ops n k listed=true→∀ i,k≤i→i < k+n→i < ops.size →
 ∃ o,ops[i]? = some o∧∀ la:Array Bool,la.size=ops.size→(∀ j,j < i→la.getD j true=true)→la.getD i true=false→i∈Region.ready .any ops la∧rV ops la i o
 | 0,k,_,_,_,_,i,h1,h2,_=>by omega
 | n+1,k,listed,dJ,hl,hB,i,h1,h2,h3=>by
  simp only [Region.lexFrom,Bool.and_eq_true] at hB
  obtain ⟨⟨hr,hf⟩,OA⟩:=hB
  by_cases Yw:i=k
  ·subst Yw
   have h0:ops[i]? = some ops[i]:=Array.getElem?_eq_getElem h3
   refine ⟨_,h0,fun la zq Pu hu=>⟨tD zq (fun j hj h=>Pu j (by rw [hl j hj] at h;exact of_decide_eq_true h)) dJ (by simpa using hr) hu,fun j oj jq fC lQ AM=>?_⟩⟩
   refine Region.free_spec h0 hf j oj jq fC ?_ AM
   have SU:=(Array.getElem?_eq_some_iff.1 jq).1
   rw [hl j SU]
   refine decide_eq_false fun au=>?_
   rw [Pu j au] at lQ
   cases lQ
  ·refine v8 n (k+1) _ (by simpa using dJ) (fun j hj=>?_) OA i (by omega) (by omega) h3
   by_cases pU:k=j
   ·subst pU
    have:decide (k < k+1)=true:=decide_eq_true (by omega)
    rw [this]
    by_cases hs:k < listed.size<;>simp [hs]
   ·rw [getD_set_ne true pU,hl j hj]
    exact decide_eq_decide.2 (by omega)
def Tl (ops:Array Oper) (p i:Nat):Bool:=(List.range ops.size).any fun j=>!Nat.ble (j+1) p && !(desc ops i).contains j
def FN (ops:Array Oper) (A:List Nat) (p:Nat):Bool:=(List.range p).all fun i=>!Tl ops p i || (!mS A i && (match ops[i]? with
 | some o=>!kT o.op && !Jj o.op
 | none=>false))
def Wa (ops:Array Oper) (A:List Nat) (p:Nat):Prop:=∀ i,i < p→(∀ j oj,p≤j→ops[j]? = some oj→j∈desc ops i)∨(mS A i=false∧∃ o,ops[i]? = some o∧kT o.op=false∧Jj o.op=false)
theorem Jl (h:FN ops A p=true):Wa ops A p:=by
 intro i hi
 have h1:=List.all_eq_true.1 h i (List.mem_range.2 hi)
 rw [Bool.or_eq_true] at h1
 rcases h1 with h1 | h1
 ·left
  intro j oj hj jq
  have h2:Tl ops p i=false:=by simpa using h1
  unfold Tl at h2
  rw [List.any_eq_false] at h2
  have h3:=h2 j (List.mem_range.2 (Array.getElem?_eq_some_iff.1 jq).1)
  have hb:Nat.ble (j+1) p=false:=by
   cases hb:Nat.ble (j+1) p with
   | false=>rfl
   | true=>have:=Nat.le_of_ble_eq_true hb;omega
  rw [hb] at h3
  simpa using h3
 ·right
  rw [Bool.and_eq_true] at h1
  refine ⟨by simpa using h1.1,?_⟩
  have h2:=h1.2
  split at h2
  ·rename_i o ho
   rw [Bool.and_eq_true] at h2
   exact ⟨o,ho,by simpa using h2.1,by simpa using h2.2⟩
  ·cases h2
def Jm (ops:Array Oper) (listed:Array Bool):Prop:=∀ (j:Nat) (o:Oper),ops[j]? = some o→listed.getD j true=true→∀ e∈o.after,Region.binds .any e=true→listed.getD e.on true=true
theorem Jm.desc {listed:Array Bool} (h:Jm ops listed) {k:Nat} (hk:listed.getD k true=false):∀ j∈desc ops k,listed.getD j true=false:=by
 have key:∀ (l acc:List Nat),(∀ x∈acc,listed.getD x true=false)→∀ x∈l.foldl (qB ops k) acc,listed.getD x true=false:=by
  intro l
  induction l with
  | nil=>exact fun _ h=>h
  | cons q l ih =>
   intro acc ha
   refine ih _ fun x hx=>?_
   unfold qB at hx
   cases hb:Nat.ble q k with
   | true=>rw [hb] at hx;exact ha x hx
   | false =>
    rw [hb] at hx
    simp only [cond_false] at hx
    split at hx
    ·rename_i o ho
     cases rS:(o.after.any fun e=>Region.binds .any e && acc.contains e.on) with
     | false=>rw [rS] at hx;exact ha x hx
     | true =>
      rw [rS] at hx
      rcases List.mem_cons.1 hx with rfl | hx
      ·rw [Array.any_eq_true] at rS
       obtain ⟨e,FF,h3⟩:=rS
       rw [Bool.and_eq_true] at h3
       have h4:=ha _ (List.contains_iff_mem.1 h3.2)
       cases hl:listed.getD x true with
       | false=>rfl
       | true=>rw [h x o ho hl _ (Array.getElem_mem FF) h3.1] at h4;cases h4
      ·exact ha x hx
    ·exact ha x hx
 exact key _ _ fun x hx=>by rw [List.mem_singleton.1 hx];exact hk
theorem Jm.set {listed:Array Bool} (h:Jm ops listed) {i:Nat} {oi:Oper} (yE:ops[i]? = some oi) (jb:∀ e∈oi.after,Region.binds .any e=true→listed.getD e.on true=true):Jm ops (listed.setIfInBounds i true):=by
 have up:∀ x,listed.getD x true=true→(listed.setIfInBounds i true).getD x true=true:=fun x hx=>by
  by_cases hix:i=x
  ·subst hix
   by_cases hs:i < listed.size<;>simp [hs]
  ·rw [getD_set_ne true hix];exact hx
 intro j o ho hl e he hb
 by_cases hij:i=j
 ·subst hij
  rw [yE] at ho
  obtain rfl:=Option.some.inj ho
  exact up _ (jb e he hb)
 ·rw [getD_set_ne true hij] at hl
  exact up _ (h j o ho hl e he hb)
theorem tE {KK:List V→Mem→Prop}:∀ (n:Nat) (la:Array Bool) (env:List V) (S:Mem),j7 P I ops W MM KK n la env S→j7 P I ops W MM KK (n+1) la env S
 | 0,la,env,S,h=>⟨h.1,fun _=>h.2.2,fun i hi=>by rw [h.2.1] at hi;cases hi⟩
 | n+1,la,env,S,h=>by
  refine ⟨h.1,h.2.1,fun i hi=>?_⟩
  obtain ⟨o,ho,⟨hw,Q,cm,hq,hk⟩ | ⟨hw,v,hq,hk⟩⟩:=h.2.2 i hi
  ·exact ⟨o,ho,.inl ⟨hw,Q,cm,hq,fun v S' h'=>tE n _ _ _ (hk v S' h')⟩⟩
  ·exact ⟨o,ho,.inr ⟨hw,v,hq,tE n _ _ _ hk⟩⟩
theorem Hr {KK:List V→Mem→Prop} {n m:Nat} (RK:n≤m) {la:Array Bool} {env:List V} {S:Mem} (h:j7 P I ops W MM KK n la env S):j7 P I ops W MM KK m la env S:=by
 induction RK with
 | refl=>exact h
 | step _ ih=>exact tE _ _ _ _ ih
theorem v9 (f:Nat→Bool):∀ q,(∀ j,j < q→f j=true)∨∃ i,i < q∧f i=false∧∀ j,j < i→f j=true
 | 0=>.inl fun j hj=>absurd hj (Nat.not_lt_zero j)
 | q+1=>by
  rcases v9 f q with h1 | ⟨i,h1,h2⟩
  ·cases hx:f q with
   | true =>
    refine .inl fun j hj=>?_
    rcases Nat.lt_succ_iff_lt_or_eq.1 hj with h3 | rfl
    ·exact h1 j h3
    ·exact hx
   | false=>exact .inr ⟨q,by omega,hx,h1⟩
  ·exact .inr ⟨i,by omega,h2⟩
theorem zu {KK:List V→Mem→Prop} {rest:Nat} (hL:Mb ops) (hA:ZK P ops A p) (RL:∀ i o,ops[i]? = some o→W.contains i=true→kT o.op=true) (Pt:p≤ops.size) {done:List Nat} (hd:∀ a∈done,a∈A)
 (hK:∀ la env S,la.size=ops.size→K la env S→j7 P I ops W (fun _=>True) KK rest la (gW ops S.boxes.length done env) (lJ S (done.map (zA P ops)))) :
 ∀ (n:Nat) (la:Array Bool) (env:List V) (S:Mem),la.size=ops.size→uY P I ops A W p MM K n la env S→(∀ i,i < p→la.getD i true=false→mS A i=false∧∃ o,ops[i]? = some o∧kT o.op=false∧Jj o.op=false) →
  j7 P I ops W (fun _=>True) KK (rest+n) la (gW ops S.boxes.length done env) (lJ S (done.map (zA P ops)))
 | 0,la,env,S,dJ,h,_=>hK la env S dJ h.2.2
 | n+1,la,env,S,dJ,h,hu=>by
  by_cases jb:∀ j,j < p→la.getD j true=true
  ·exact Hr (by omega) (hK la env S dJ (h.2.1 jb))
  ·obtain ⟨i,Cb,Wb,CS⟩:∃ i,i < p∧la.getD i true=false∧∀ j,j < i→la.getD j true=true:=by
    rcases v9 (fun j=>la.getD j true) p with h1 | h1
    ·exact absurd h1 jb
    ·exact h1
   obtain ⟨we,o,ho,hw,hl⟩:=hu i Cb Wb
   obtain ⟨o',RM,Mc⟩:=hL i (by omega)
   rw [ho] at RM
   obtain rfl:=Option.some.inj RM
   obtain ⟨hr,fZ⟩:=Mc la dJ CS Wb
   obtain ⟨o',RM,wg⟩:=h.2.2 i hr Cb
   rw [ho] at RM
   obtain rfl:=Option.some.inj RM
   rcases wg with ⟨oO,_⟩ | ⟨oO,v,hq,hn⟩
   ·rw [RL i o ho oO] at hw;cases hw
   ·have Wc:∀ x∈done,i ≠ x:=fun x hx e=>by
     have:=jJ.2 (hd x hx)
     rw [← e,we] at this
     cases this
    have Lc:∀ x∈done,∀ t,(bh ops x).dst=some t→t ∉ o.looksAt ops:=fun x hx t ht=>((hA.el x (hd x hx) i o Cb (Wc x hx) ho).2 t ht).2
    have zb:∀ x∈done,∀ t,o.dst=some t→(bh ops x).dst ≠ some t:=fun x hx t ht h2=>((hA.el x (hd x hx) i o Cb (Wc x hx) ho).2 t h2).1 ht
    have ih:=zu hL hA RL Pt hd hK n (la.setIfInBounds i true) (aO env o.dst v) S (by simpa using dJ) hn (fun j hj lQ=>by
     have fC:i ≠ j:=fun e=>by
      subst e
      have:(la.setIfInBounds i true).getD i true=true:=by by_cases hs:i < la.size<;>simp [hs]
      rw [this] at lQ;cases lQ
     rw [getD_set_ne true fC] at lQ
     exact hu j hj lQ)
    rw [v7 v done _ _ zb] at ih
    have hqt:QC P I ops (fun _=>True) o env v:=by
     rcases hq with ⟨hg,hq⟩ | hq
     ·exact .inl ⟨hg,fun S2 _=>Hq hw hl (hq S h.1) S2⟩
     ·exact .inr hq
    exact qW ho oO (rest+n) la _ _ fZ hr ((AU done S.boxes.length env Lc).2 hqt) ih
theorem wh {z:Nat × Nat} {fn:FuncId} {k:List Item} {R:V→Mem→Prop} {rest:Nat} (hs:Wa ops A p) (hL:Mb ops) (RL:∀ i o,ops[i]? = some o→W.contains i=true→kT o.op=true) (Pt:p≤ops.size) (hA:ZK P ops A p) (SI:∀ S Z,MM S→MM (lJ S Z))
 (hK:∀ la env S,la.size=ops.size→K la env S→∀ done:List Nat,done.Perm A→j7 P I ops W (fun _=>True) (fun env S=>af P I z fn k env S R) rest la (gW ops S.boxes.length done env) (lJ S (done.map (zA P ops)))) :
 ∀ (q n m:Nat),q=n+m→∀ (t:Nat) (la listed:Array Bool) (env:List V) (S:Mem) (done oQ:List Nat),uY P I ops A W p MM K n la env S→(done++oQ).Perm A→oQ.length=m→listed.size=ops.size→la.size=ops.size→(∀ j,j < ops.size→la.getD j true=(listed.getD j true || mS oQ j))→(∀ j∈oQ,listed.getD j true=false)→Jm ops listed→(∀ j∈done,listed.getD j true=true) →
  af P I z fn (.inRegion ops (Region.linearise.go .any ops (q+rest) t listed []) :: k) (gW ops S.boxes.length done env) (lJ S (done.map (zA P ops))) R
 | q,n,m,hq,t,la,listed,env,S,done,oQ,h,hp,hm,m8,dJ,hrel,lQ,jY,UY=>by
  have Yx:∀ a∈oQ,a∈A:=fun a ha=>hp.mem_iff.1 (List.mem_append_right _ ha)
  have Yy:∀ a∈done,a∈A:=fun a ha=>hp.mem_iff.1 (List.mem_append_left _ ha)
  have Tm:∀ a∈oQ,a∈Region.ready .any ops listed:=fun a ha=>by
   obtain ⟨o,ho,_,_,AM⟩:=hA.op a (Yx a ha)
   exact mem_ready.2 ⟨lQ a ha,o,ho,fun e he hb=>by rw [AM e he] at hb;cases hb⟩
  have heq:oQ=[]→la=listed:=fun h0=>by
   apply Array.ext
   ·omega
   ·intro j hj eS
    have h1:=hrel j (by omega)
    rw [h0] at h1
    simp [hj,eS,mS] at h1
    exact h1
  -- is there UZ ahead of p ZL the rest waits aef
  by_cases We:∃ i,i < p∧listed.getD i true=false∧∀ j oj,p≤j→ops[j]? = some oj→j∈desc ops i
  case neg =>
   have O6:∀ i,i < p→listed.getD i true=false→mS A i=false∧∃ o,ops[i]? = some o∧kT o.op=false∧Jj o.op=false:=fun i hi hu=>by
    rcases hs i hi with h1 | h1
    ·exact absurd ⟨i,hi,hu,h1⟩ We
    ·exact h1
   have h0:oQ=[]:=List.eq_nil_iff_forall_not_mem.2 fun a ha=>by
    have:=(O6 a (hA.lt a (Yx a ha)) (lQ a ha)).1
    rw [jJ.2 (Yx a ha)] at this
    cases this
   have zq:=heq h0
   subst zq
   have ZM:done.Perm A:=by rw [h0,List.append_nil] at hp;exact hp
   have hC:=zu hL hA RL Pt Yy (fun la env S hs hk=>hK la env S hs hk done ZM) n la env S dJ h O6
   exact rX _ t la _ _ (Hr (by omega) hC)
  case pos =>
  obtain ⟨i0,hi0,Yz,hw0⟩:=We
  obtain ⟨q,rfl⟩:∃ q',q=q' + 1:=by
   cases q with
   | succ q=>exact ⟨q,rfl⟩
   | zero =>
    exfalso
    obtain rfl:n=0:=by omega
    have SE:oQ=[]:=List.eq_nil_of_length_eq_zero (by omega)
    have:=h.2.1 i0 hi0
    rw [heq SE,Yz] at this
    cases this
  have cm:Region.ready .any ops listed ≠ []:=by
   by_cases SE:oQ=[]
   ·-- the first ZL is left is ready
    rcases v9 (fun j=>listed.getD j true) (i0+1) with h1 | ⟨i,hi,h1,h2⟩
    ·rw [h1 i0 (by omega)] at Yz;cases Yz
    ·obtain ⟨o,_,Mc⟩:=hL i (by omega)
     exact List.ne_nil_of_mem (Mc listed m8 h2 h1).1
   ·obtain ⟨a,l,YB⟩:=List.exists_cons_of_ne_nil SE
    exact List.ne_nil_of_mem (Tm a (by rw [YB];exact List.mem_cons_self))
  rw [show q+1+rest=(q+rest)+1 by omega]
  simp only [Region.linearise.go]
  change af P I z fn (.inRegion ops (match (Region.ready .any ops listed)[t % (Region.ready .any ops listed).length]? with
   | some i=>Region.linearise.go .any ops (q+rest) (t / (Region.ready .any ops listed).length) (listed.setIfInBounds i true) [i]
   | none=>[].reverse) :: k) (gW ops S.boxes.length done env) (lJ S (done.map (zA P ops))) R
  cases hi:(Region.ready .any ops listed)[t % (Region.ready .any ops listed).length]? with
  | none =>
   exfalso
   cases hr:Region.ready .any ops listed with
   | nil=>exact cm hr
   | cons x xs =>
    rw [hr] at hi
    have au:t % (x :: xs).length < (x :: xs).length:=Nat.mod_lt _ (by simp)
    simp at hi
    simp at au
    omega
  | some i =>
   simp only []
   rw [linearise_go_acc,List.reverse_singleton,List.singleton_append]
   have hir:=List.mem_of_getElem? hi
   obtain ⟨Wb,oi,yE,jb⟩:=mem_ready.1 hir
   have ZN:=(Array.getElem?_eq_some_iff.1 yE).1
   have Wf:∀ e∈oi.after,Region.binds .any e=true→listed.getD e.on true=true:=fun e he hb=>by
    have h1:=jb e he hb
    rcases Nat.lt_or_ge e.on listed.size with h2 | h2
    ·simp [h2] at h1 ⊢;exact h1
    ·simp [Array.getElem?_eq_none h2] at h1
   have Tn:=jY.set yE Wf
   have Pv:i < p:=by
    rcases Nat.lt_or_ge i p with h' | h'
    ·exact h'
    ·rcases rW (hw0 i oi h' yE) with h1 | ⟨_,oj,jq,e,he,hb,Pm⟩
     ·omega
     ·rw [yE] at jq
      obtain rfl:=Option.some.inj jq
      have h2:=jY.desc Yz _ Pm
      rw [Wf e he hb] at h2
      cases h2
   by_cases Cb:i∈oQ
   ·-- a new box
    obtain ⟨o,ho,hg,dI,_⟩:=hA.op i (Yx i Cb)
    have eo:bh ops i=o:=by unfold bh;rw [ho]
    have zv:cU P (ai I (gW ops S.boxes.length done env)) (lJ S (done.map (zA P ops))) o.op=some (FJ ops i (S.boxes.length+done.length),lJ S ((done++[i]).map (zA P ops))):=by
     have e1:(lJ S (done.map (zA P ops))).boxes.length=S.boxes.length+done.length:=by simp [lJ]
     cases lP:o.op with
     | alloc t =>
      rw [lP] at dI
      obtain ⟨ti,jZ⟩:=Option.isSome_iff_exists.1 dI
      simp only [cU,jZ,e1]
      simp only [FJ,zA,eo,lP,jZ,List.map_append,List.map_cons,List.map_nil,lJ,List.append_assoc]
     | makeMap t r =>
      rw [lP] at dI
      cases r with
      | none =>
       simp only [cU,e1]
       simp only [FJ,zA,eo,lP,List.map_append,List.map_cons,List.map_nil,lJ,List.append_assoc]
      | some r=>cases dI
     | _=>rw [lP] at dI;cases dI
    refine af.op ho (.inl hg) zv ?_
    rw [← eo,← zn]
    refine wh hs hL RL Pt hA SI hK q n (m - 1) (by have:=List.length_pos_of_mem Cb;omega) _ la _ env S (done++[i]) (oQ.erase i) h ?_ ?_ (by simpa using m8) dJ (fun j hj=>?_) (fun j hj=>?_) Tn (fun j hj=>?_)
    ·rw [List.append_assoc,List.singleton_append]
     exact ((List.perm_cons_erase Cb).symm.append_left done).trans hp
    ·rw [List.length_erase_of_mem Cb,hm]
    ·rw [hrel j hj]
     by_cases fC:i=j
     ·subst fC
      have h1:(listed.setIfInBounds i true).getD i true=true:=by by_cases hs:i < listed.size<;>simp [hs]
      rw [h1,Bool.true_or,jJ.2 Cb,Bool.or_true]
     ·rw [getD_set_ne true fC]
      congr 1
      rw [Bool.eq_iff_iff,jJ,jJ,List.mem_erase_of_ne (fun e=>fC e.symm)]
    ·have hnd:oQ.Nodup:=(List.nodup_append.1 (hp.nodup_iff.2 hA.nd)).2.1
     have fC:i ≠ j:=fun e=>by subst e;exact (List.Nodup.not_mem_erase hnd) hj
     rw [getD_set_ne true fC]
     exact lQ j (List.mem_of_mem_erase hj)
    ·by_cases fC:i=j
     ·subst fC
      by_cases hs:i < listed.size<;>simp [hs]
     ·rw [getD_set_ne true fC]
      rcases List.mem_append.1 hj with hj | hj
      ·exact UY j hj
      ·exact absurd (List.mem_singleton.1 hj).symm fC
   ·have Yu:la.getD i true=false:=by
     rw [hrel i ZN,Wb,Bool.false_or]
     cases hx:mS oQ i with
     | false=>rfl
     | true=>exact absurd (jJ.1 hx) Cb
    have Yv:=tD dJ (fun j hj h1=>by rw [hrel j hj,h1,Bool.true_or]) m8 hir Yu
    obtain ⟨n',rfl⟩:∃ n',n=n' + 1:=by
     cases n with
     | succ n'=>exact ⟨n',rfl⟩
     | zero =>
      have:=h.2.1 i Pv
      rw [Yu] at this
      cases this
    obtain ⟨hS,_,Wg⟩:=h
    obtain ⟨o,ho,wg⟩:=Wg i Yv Pv
    have we:∀ x∈done,i ≠ x:=fun x hx e=>by
     have:=UY x hx
     rw [← e,Wb] at this
     cases this
    have Lc:∀ x∈done,∀ t,(bh ops x).dst=some t→t ∉ o.looksAt ops:=fun x hx t ht=>((hA.el x (Yy x hx) i o Pv (we x hx) ho).2 t ht).2
    have zb:∀ x∈done,∀ t,o.dst=some t→(bh ops x).dst ≠ some t:=fun x hx t ht h2=>((hA.el x (Yy x hx) i o Pv (we x hx) ho).2 t h2).1 ht
    have UP:A=[]→done=[]:=fun h0=>List.eq_nil_iff_forall_not_mem.2 fun x hx=>by have:=Yy x hx;rw [h0] at this;cases this
    have next:∀ v S',(S'.boxes.length=S.boxes.length∨A=[])→uY P I ops A W p MM K n' (la.setIfInBounds i true) (aO env o.dst v) S'→∀ t,af P I z fn (.inRegion ops (Region.linearise.go .any ops (q+rest) t (listed.setIfInBounds i true) []) :: k) (aO (gW ops S.boxes.length done env) o.dst v) (lJ S' (done.map (zA P ops))) R:=by
     intro v S' Ho hn t
     have e:aO (gW ops S.boxes.length done env) o.dst v=gW ops S'.boxes.length done (aO env o.dst v):=by
      rcases Ho with Ho | h0
      ·rw [Ho,v7 v done _ _ zb]
      ·rw [UP h0];rfl
     rw [e]
     refine wh hs hL RL Pt hA SI hK q n' m (by omega) t _ _ _ S' done oQ hn hp hm (by simpa using m8) (by simpa using dJ) (fun j hj=>?_) (fun j hj=>?_) Tn (fun j hj=>?_)
     ·by_cases fC:i=j
      ·subst fC
       have h1:(listed.setIfInBounds i true).getD i true=true:=by by_cases hs:i < listed.size<;>simp [hs]
       have h2:(la.setIfInBounds i true).getD i true=true:=by by_cases hs:i < la.size<;>simp [hs]
       rw [h1,h2,Bool.true_or]
      ·rw [getD_set_ne true fC,getD_set_ne true fC]
       exact hrel j hj
     ·rw [getD_set_ne true (fun e=>Cb (by rw [e];exact hj))]
      exact lQ j hj
     ·rw [getD_set_ne true (we j hj)]
      exact UY j hj
    rcases wg with ⟨_,Q,_,Ho,hwx,hk⟩ | ⟨_,v,hy,hn⟩
    ·have ZO:=(Hp (A:=A) done S.boxes.length env Lc).2 hwx
     refine WG.step (Q:=fun v T=>∃ S',T=lJ S' (done.map (zA P ops))∧Q v S') ho ?_ ?_
     ·rcases ZO with ⟨hg,hz⟩ | ⟨hg,hq⟩
      ·exact .inl ⟨hg,hz _ fun h0=>by rw [UP h0];rfl⟩
      ·exact .inr ⟨hg,S,rfl,hq⟩
     ·rintro v T ⟨S',rfl,hQ⟩
      exact next v S' (Ho v S' hQ) (hk v S' hQ) _
    ·exact QC.step ho (SI S _ hS) ((AU done S.boxes.length env Lc).2 hy) (next v S (.inl rfl) hn _)
termination_by q=>q
end machine
def FO (L:List Nat):V→Prop
 | .ptr i _=>qn L i
 | .mp i=>qn L i
 | _=>True
abbrev gJ:=List V→Mem→Prop
def jO (A L:List Nat) (S0:Mem) (next:gJ) (r:Option (V × Mem)) (d:Option Tmp) (env:List V):Prop :=
 match r with
 | some (v,S')=>A=[]∧eI L S0 S'∧next (aO env d v) S'
 | none=>False
def gY (next:gJ) (r:Option (V × Mem)) (d:Option Tmp) (env:List V) (S:Mem):Prop :=
 match r with
 | some (v,_)=>next (aO env d v) S
 | none=>False
def r6 (L:List Nat) (a:V) (next:gJ) (r:Option (V × Mem)) (d:Option Tmp) (env:List V) (S:Mem):Prop :=
 match r with
 | some (v,_)=>FO L a∧next (aO env d v) S
 | none=>False
def uu (P:Program) (I:Inv) (A L:List Nat) (S0:Mem) (next:gJ) (f:V) (args:List V) (d:Option Tmp) (env:List V) (S:Mem):Prop :=
 match f with
 | .func g first caps=>∃ Q:V→Mem→Prop,(∃ v S',Q v S')∧(∀ v S',Q v S'→S'.boxes.length=S.boxes.length∨A=[])∧(∀ Z,(A=[]→Z=[])→aF P I g (first++args++caps) (lJ S Z) fun v T=>∃ S',T=lJ S' Z∧Q v S')∧∀ v S',Q v S'→eI L S0 S'∧next (aO env d v) S'
 | _=>False
def Wh (P:Program) (I:Inv) (A L:List Nat) (S0:Mem) (next:gJ) (op:Op) (d:Option Tmp) (env:List V) (S:Mem):Prop :=
 ∃ Q:V→Mem→Prop,(∃ v S',Q v S')∧A=[]∧(∀ o:Oper,o.op=op→qA P I o env S Q)∧∀ v S',Q v S'→eI L S0 S'∧next (aO env d v) S'
def pW (P:Program) (I:Inv) (A L:List Nat) (S0:Mem) (next:gJ) (op:Op) (d:Option Tmp) (env:List V) (S:Mem):Prop :=
 match op with
 | .load t a=>r6 L (ai I env a) next (cU P (ai I env) S (.load t a)) d env S
 | .lookup t m k ok=>r6 L (ai I env m) next (cU P (ai I env) S (.lookup t m k ok)) d env S
 | .store t a x=>jO A L S0 next (cU P (ai I env) S (.store t a x)) d env
 | .alloc t=>jO A L S0 next (cU P (ai I env) S (.alloc t)) d env
 | .box t x=>jO A L S0 next (cU P (ai I env) S (.box t x)) d env
 | .makeMap t r=>jO A L S0 next (cU P (ai I env) S (.makeMap t r)) d env
 | .mapUpdate t m k x=>jO A L S0 next (cU P (ai I env) S (.mapUpdate t m k x)) d env
 | .call c=>match c.callee with
  | .value f=>uu P I A L S0 next (ai I env f) (c.args.toList.map (ai I env)) d env S
  | .builtin .append=>Wh P I A L S0 next (.call c) d env S∨jO A L S0 next (dD P (ai I env) S c) d env
  | .builtin .delete=>jO A L S0 next (dD P (ai I env) S c) d env
  | _=>gY next (dD P (ai I env) S c) d env S
 | op=>gY next (cU P (ai I env) S op) d env S
def gX (P:Program) (I:Inv) (A L:List Nat) (S0:Mem) (next:gJ) (g:V) (op:Op) (d:Option Tmp) (env:List V) (S:Mem):Prop :=
 match g with
 | .d (.bool true)=>pW P I A L S0 next op d env S
 | .d (.bool false)=>next (aO env d (.bY [])) S
 | _=>False
def Wi (b:Bool) (p q:Prop):Prop :=
 match b with
 | true=>p
 | false=>q
def nB (P:Program) (I:Inv) (ops:Array Oper) (A L:List Nat) (S0:Mem) (K:gJ):Nat→List Oper→gJ
 | _,[]=>fun env S=>eI L S0 S∧K env S
 | k,o :: l=>fun env S=>Wi (mS A k) (nB P I ops A L S0 K (k+1) l env S) (gX P I A L S0 (nB P I ops A L S0 K (k+1) l) (Hj env ops o) o.op o.dst env S)
def uv:List Nat→(List Nat→Prop)→Prop
 | [],f=>f []
 | [a],f=>f [a]
 | [a,b],f=>f [a,b]∧f [b,a]
 | l,f=>∀ d:List Nat,d.Perm l→f d
theorem Md:∀ {l:List Nat} {f:List Nat→Prop},uv l f→∀ d:List Nat,d.Perm l→f d
 | [],_,h,d,hd=>by rw [List.perm_nil.1 hd];exact h
 | [a],_,h,d,hd=>by rw [List.perm_singleton.1 hd];exact h
 | [a,b],_,h,d,hd=>by
  match d,hd with
  | [],hd=>exact absurd hd.length_eq (by simp)
  | [_],hd=>exact absurd hd.length_eq (by simp)
  | _ :: _ :: _ :: _,hd=>exact absurd hd.length_eq (by simp)
  | [x,y],hd =>
   have hx:x∈[a,b]:=hd.mem_iff.1 List.mem_cons_self
   rcases List.mem_cons.1 hx with rfl | hx
   ·have:=List.perm_singleton.1 ((List.perm_cons _).1 hd)
    rw [this];exact h.1
   ·obtain rfl:=List.mem_singleton.1 hx
    have h2:[x,y].Perm [x,a]:=hd.trans (List.Perm.swap _ _ _)
    have:=List.perm_singleton.1 ((List.perm_cons _).1 h2)
    rw [this];exact h.2
 | _ :: _ :: _ :: _,_,h,d,hd=>h d hd
section
variable {P:Program} {I:Inv} {ops:Array Oper} {A L:List Nat} {S0:Mem} {K:gJ}
theorem Hs {env:List V} {o:Oper} (h:Hj env ops o = .d (.bool true)):ek env ops o:=by
 unfold Hj at h
 split at h
 ·rename_i hg;exact .inl hg
 ·rename_i j want hg
  unfold FB at h
  split at h
  ·rename_i t ht
   simp only [V.d.injEq,D.bool.injEq,beq_iff_eq] at h
   subst h
   exact .inr ⟨j,t,hg,ht⟩
  ·cases h
  ·cases h
theorem Me {env:List V} {o:Oper} (h:Hj env ops o = .d (.bool false)):oI env ops o:=by
 unfold Hj at h
 split at h
 ·cases h
 ·rename_i j want hg
  unfold FB at h
  split at h
  ·rename_i t ht
   simp only [V.d.injEq,D.bool.injEq] at h
   exact ⟨j,want,hg,.inl ⟨t,ht,h⟩⟩
  ·rename_i ht;exact ⟨j,want,hg,.inr ht⟩
  ·cases h
theorem Pw {ev:Operand→V} {t:TypeId} {a:Operand} {S S2:Mem} {v:V} {S':Mem} (hl:FO L (ev a)) (hk:∀ i,qn L i→S2.boxes[i]? = S.boxes[i]?) (h:cU P ev S (.load t a)=some (v,S')):cU P ev S2 (.load t a)=some (v,S2):=by
 simp only [cU] at h ⊢
 obtain ⟨u,hu,e⟩:=Option.map_eq_some_iff.1 h
 obtain ⟨rfl,rfl⟩:=Prod.mk.inj e
 have:ff P S2 t (ev a)=ff P S t (ev a):=by
  unfold ff
  split
  ·rename_i i k hp
   rw [hp] at hl
   rw [hk i hl]
  ·rfl
  ·rfl
 rw [this,hu];rfl
theorem Px {ev:Operand→V} {t:TypeId} {m k:Operand} {ok:Bool} {S S2:Mem} {v:V} {S':Mem} (hl:FO L (ev m)) (hk:∀ i,qn L i→S2.boxes[i]? = S.boxes[i]?) (h:cU P ev S (.lookup t m k ok)=some (v,S')):cU P ev S2 (.lookup t m k ok)=some (v,S2):=by
 simp only [cU] at h ⊢
 obtain ⟨u,hu,e⟩:=Option.map_eq_some_iff.1 h
 obtain ⟨rfl,rfl⟩:=Prod.mk.inj e
 have:cZ P S2 t (ev m) (ev k) ok=cZ P S t (ev m) (ev k) ok:=by
  unfold cZ
  split
  ·rename_i z i s hz hp _
   rw [hp] at hl
   rw [hk i hl]
  ·rfl
 rw [this,hu];rfl
theorem To {next:gJ} {o:Oper} {env:List V} {S:Mem} (hL:qC L S0) (hS:Kept L S0 S) (h:pW P I A L S0 next o.op o.dst env S) :
 (kT o.op=true∧∃ Q:V→Mem→Prop,(∃ v S',Q v S')∧(∀ v S',Q v S'→S'.boxes.length=S.boxes.length∨A=[])∧(∀ Z,(A=[]→Z=[])→WO P I o env (lJ S Z) fun v T=>∃ S',T=lJ S' Z∧Q v S')∧∀ v S',Q v S'→eI L S0 S'∧next (aO env o.dst v) S')∨(kT o.op=false∧∃ v,(∀ S',Kept L S0 S'→cU P (ai I env) S' o.op=some (v,S'))∧next (aO env o.dst v) S):=by
 have bind:∀ r,cU P (ai I env) S o.op=r→kT o.op=true→jO A L S0 next r o.dst env→(kT o.op=true∧∃ Q:V→Mem→Prop,(∃ v S',Q v S')∧(∀ v S',Q v S'→S'.boxes.length=S.boxes.length∨A=[])∧(∀ Z,(A=[]→Z=[])→WO P I o env (lJ S Z) fun v T=>∃ S',T=lJ S' Z∧Q v S')∧∀ v S',Q v S'→eI L S0 S'∧next (aO env o.dst v) S'):=by
  intro r hr hw hb
  cases r with
  | none=>exact hb.elim
  | some p =>
   obtain ⟨v,S'⟩:=p
   obtain ⟨h0,h1,h2⟩:=hb
   refine ⟨hw,fun u T=>u=v∧T=S',⟨v,S',rfl,rfl⟩,fun _ _ _=>.inr h0,fun Z hZ=>?_,fun u T ⟨e1,e2⟩=>by subst e1 e2;exact ⟨h1,h2⟩⟩
   rw [hZ h0,iP]
   exact .inl ⟨v,S',hr,S',(iP S').symm,rfl,rfl⟩
 have pur:∀ r,cU P (ai I env) S o.op=r→kT o.op=false→Jj o.op=false→gY next r o.dst env S→(kT o.op=false∧∃ v,(∀ S',Kept L S0 S'→cU P (ai I env) S' o.op=some (v,S'))∧next (aO env o.dst v) S):=by
  intro r hr hw hl hb
  cases r with
  | none=>exact hb.elim
  | some p =>
   obtain ⟨v,S'⟩:=p
   exact ⟨hw,v,fun S2 _=>Hq hw hl hr S2,hb⟩
 have kk:∀ S',Kept L S0 S'→∀ i,qn L i→S'.boxes[i]? = S.boxes[i]?:=fun S' h' i hi=>by
  obtain ⟨vs,hv⟩:=hL.get i hi
  rw [h' i hi vs hv,hS i hi vs hv]
 generalize ho:o.op=op at *
 cases op with
 | load t a =>
  right
  obtain ⟨r,hr⟩:∃ r,cU P (ai I env) S (.load t a)=r:=⟨_,rfl⟩
  have h:r6 L (ai I env a) next (cU P (ai I env) S (.load t a)) o.dst env S:=h
  rw [hr] at h
  cases r with
  | none=>exact h.elim
  | some p=>exact ⟨rfl,p.1,fun S2 h2=>Pw h.1 (kk S2 h2) hr,h.2⟩
 | lookup t m k ok =>
  right
  obtain ⟨r,hr⟩:∃ r,cU P (ai I env) S (.lookup t m k ok)=r:=⟨_,rfl⟩
  have h:r6 L (ai I env m) next (cU P (ai I env) S (.lookup t m k ok)) o.dst env S:=h
  rw [hr] at h
  cases r with
  | none=>exact h.elim
  | some p=>exact ⟨rfl,p.1,fun S2 h2=>Px h.1 (kk S2 h2) hr,h.2⟩
 | store t a x=>exact .inl (bind _ rfl rfl h)
 | alloc t=>exact .inl (bind _ rfl rfl h)
 | box t x=>exact .inl (bind _ rfl rfl h)
 | makeMap t r=>exact .inl (bind _ rfl rfl h)
 | mapUpdate t m k x=>exact .inl (bind _ rfl rfl h)
 | call c =>
  unfold pW at h
  dsimp only at h
  split at h
  ·rename_i f hf
   left
   unfold uu at h
   split at h
   ·rename_i g first caps hg
    obtain ⟨Q,h1,h0,h2,h3⟩:=h
    exact ⟨by simp [kT,hf],Q,h1,h0,fun Z hZ=>.inr (.inl ⟨c,f,g,first,caps,ho,hf,hg,h2 Z hZ⟩),h3⟩
   ·exact h.elim
  ·rename_i hf
   rcases h with ⟨Q,h1,h2,h3,h4⟩ | h
   ·refine .inl ⟨by simp [kT,hf],Q,h1,fun _ _ _=>.inr h2,fun Z hZ=>?_,h4⟩
    rw [hZ h2,iP]
    refine .inr (.inr fun c w ev r1 r2 r3=>?_)
    obtain ⟨x,w',c',v,S',k1,k2,k3⟩:=h3 o ho c w ev r1 r2 r3
    exact ⟨x,w',c',v,S',k1,⟨S',(iP S').symm,k2⟩,k3⟩
   ·exact .inl (bind _ rfl (by simp [kT,hf]) h)
  ·rename_i hf;exact .inl (bind _ rfl (by simp [kT,hf]) h)
  ·rename_i h1 h2 h3
   refine .inr (pur _ rfl ?_ rfl h)
   unfold kT
   dsimp only
   split
   ·rename_i f hf;exact (h1 f hf).elim
   ·rename_i hf;exact (h2 hf).elim
   ·rename_i hf;exact (h3 hf).elim
   ·rfl
 | _=>exact .inr (pur _ rfl rfl rfl h)
theorem Tp {k:Nat} {o:Oper} (h:ops[k]? = some o) (ha:mS A k=false):(Lg A ops).contains k=kT o.op:=by
 have hk:=(Array.getElem?_eq_some_iff.1 h).1
 rw [Bool.eq_iff_iff,List.contains_iff_mem]
 unfold Lg
 rw [List.mem_filter,List.mem_range]
 have:bh ops k=o:=by unfold bh;rw [h]
 rw [this,ha,Bool.not_false,Bool.and_true]
 exact ⟨fun h=>h.2,fun h=>⟨hk,h⟩⟩
theorem pX (hL:qC L S0) {K':gJ} (hK:∀ env S,K env S→K' env S):∀ (l:List Oper) (k:Nat) (env:List V) (S:Mem),(∀ j o,l[j]? = some o→ops[k+j]? = some o)→Kept L S0 S→nB P I ops A L S0 K k l env S→Jk P I ops A (Lg A ops) (Kept L S0) K' l k env S
 | [],_,_,_,_,hS,h=>⟨hS,hK _ _ h.2⟩
 | o :: l,k,env,S,hl,hS,h=>by
  have h0:ops[k]? = some o:=hl 0 o rfl
  have lO:∀ j o,l[j]? = some o→ops[k+1+j]? = some o:=fun j o h=>by
   have:=hl (j+1) o (by simpa using h)
   rwa [Nat.add_assoc,Nat.add_comm 1 j]
  have h:Wi (mS A k) (nB P I ops A L S0 K (k+1) l env S) (gX P I A L S0 (nB P I ops A L S0 K (k+1) l) (Hj env ops o) o.op o.dst env S):=h
  cases ha:mS A k with
  | true =>
   rw [ha] at h
   exact ⟨fun _=>pX hL hK l (k+1) _ S lO hS h,fun hc=>by rw [ha] at hc;cases hc⟩
  | false =>
   rw [ha] at h
   refine ⟨fun hc=>(by rw [ha] at hc;cases hc),fun _=>?_⟩
   have hw:=Tp h0 ha
   have h:gX P I A L S0 (nB P I ops A L S0 K (k+1) l) (Hj env ops o) o.op o.dst env S:=h
   unfold gX at h
   split at h
   ·rename_i hg
    rcases To hL hS h with ⟨yF,Q,h1,h4,h2,h3⟩ | ⟨yF,v,h2,h3⟩
    ·refine ⟨fun _=>⟨hS,Q,h1,h4,.inl ⟨Hs hg,h2⟩,fun v S' hQ=>?_⟩,fun hc=>absurd (hc.symm.trans (hw.trans yF)) (by decide)⟩
     obtain ⟨q1,q2⟩:=h3 v S' hQ
     exact pX hL hK l (k+1) _ S' lO q1.kept q2
    ·exact ⟨fun hc=>absurd (hc.symm.trans (hw.trans yF)) (by decide),fun _=>⟨v,.inl ⟨Hs hg,h2⟩,pX hL hK l (k+1) _ S lO hS h3⟩⟩
   ·rename_i hg
    have hn:=pX hL hK l (k+1) _ S lO hS h
    exact ⟨fun _=>⟨hS,fun u T=>u = .bY []∧T=S,⟨_,_,rfl,rfl⟩,(fun u T hq=>.inl (by rw [hq.2])),.inr ⟨Me hg,rfl,rfl⟩,fun u T ⟨e1,e2⟩=>by subst e1 e2;exact hn⟩,fun _=>⟨_,.inr ⟨Me hg,rfl⟩,hn⟩⟩
   ·exact h.elim
theorem FP {W:List Nat} {MM:Mem→Prop} {K:gJ}:∀ (l:List Oper) (k:Nat) (env:List V) (S:Mem),Jk P I ops [] W MM K l k env S→AP P I ops W MM K l k env S
 | [],_,_,_,h=>h
 | o :: l,k,env,S,h=>by
  refine ⟨fun hw=>?_,fun hw=>?_⟩
  ·obtain ⟨hS,Q,h1,_,h2,h3⟩:=(h.2 rfl).1 hw
   refine ⟨hS,Q,h1,?_,fun v S' hQ=>FP l _ _ _ (h3 v S' hQ)⟩
   rcases h2 with ⟨a,b⟩ | h2
   ·refine .inl ⟨a,?_⟩
    have:=b [] fun _=>rfl
    rw [iP] at this
    rcases this with ⟨v,T,h5,S',rfl,h6⟩ | ⟨q,f,g,first,caps,h5,h6,h7,h8⟩ | h5
    ·rw [iP] at h5
     exact .inl ⟨v,S',h5,h6⟩
    ·exact .inr (.inl ⟨q,f,g,first,caps,h5,h6,h7,h8.mono fun v T ⟨S',e,hq⟩=>by rw [iP] at e;subst e;exact hq⟩)
    ·refine .inr (.inr fun c w ev q1 q2 q3=>?_)
     obtain ⟨x,w',c',v,T,r1,⟨S',e,hq⟩,r2⟩:=h5 c w ev q1 q2 q3
     rw [iP] at e
     subst e
     exact ⟨x,w',c',v,T,r1,hq,r2⟩
   ·exact .inr h2
  ·obtain ⟨v,h2,h3⟩:=(h.2 rfl).2 hw
   exact ⟨v,h2,FP l _ _ _ h3⟩
theorem FQ {W W':List Nat} {MM:Mem→Prop} {K:gJ}:∀ (l:List Oper) (k:Nat) (env:List V) (S:Mem),(∀ j,k≤j→W.contains j=W'.contains j)→AP P I ops W MM K l k env S→AP P I ops W' MM K l k env S
 | [],_,_,_,_,h=>h
 | o :: l,k,env,S,hW,h=>by
  refine ⟨fun hw=>?_,fun hw=>?_⟩
  ·obtain ⟨hS,Q,h1,h2,h3⟩:=h.1 ((hW k (Nat.le_refl _)).trans hw)
   exact ⟨hS,Q,h1,h2,fun v S' hQ=>FQ l _ _ _ (fun j hj=>hW j (by omega)) (h3 v S' hQ)⟩
  ·obtain ⟨v,h2,h3⟩:=h.2 ((hW k (Nat.le_refl _)).trans hw)
   exact ⟨v,h2,FQ l _ _ _ (fun j hj=>hW j (by omega)) h3⟩
end
theorem af.bE {P:Program} {I:Inv} {z:Nat × Nat} {fn:FuncId} {k:List Item} {R:V→Mem→Prop} {ops:Array Oper} {id:Nat} {env:List V} {S:Mem} (p:Nat) (A L:List Nat) (hm:P.follows .mixedOrders=true) (hB:Region.lexB .any ops=true) (hW:FE ops (Lg A ops)=true) (hs:FN ops A p=true) (hp:Nat.ble p ops.size=true) (hA:Ys P ops A p=true) (hc:Nat.beq (FM A 0 p+A.length) p=true)
 (h:qC L S∧nB P I ops A L S (fun env S1=>uv A fun done=>nB P I ops [] [] (lJ S1 (done.map (zA P ops))) (fun env S=>af P I z fn k env S R) p (ops.toList.drop p) (gW ops S1.boxes.length done env) (lJ S1 (done.map (zA P ops)))) 0 (ops.toList.take p) env S):af P I z fn (.code (.region id ops true) :: k) env S R:=by
 obtain ⟨hL,h⟩:=h
 intro b a c w c0 w0 h1 h2 h3 h4 h5 h6 hI cs
 have hp:=Nat.le_of_ble_eq_true hp
 have YC:=Tk hA
 have hc:=Nat.eq_of_beq_eq_true hc
 have hd:Below w.heap.size w { w with drawn:=w.drawn+1 }:=⟨rfl,rfl,rfl,Nat.le_refl _,fun _ _=>rfl⟩
 obtain ⟨r1,r2⟩:=h5.under hd
 simp only [Region.lexB,Bool.and_eq_true] at hB
 simp only [FE,Bool.and_eq_true] at hW
 have au:(ops.toList.take p).length=p:=by simp;omega
 have hld:(ops.toList.drop p).length=ops.size - p:=by simp
 have hB2:Region.lexFrom .any ops ((ops.toList.take p).length+(ops.size - p)) 0 (Array.replicate ops.size false)=true:=by
  rw [au,Nat.add_sub_cancel' hp]
  simpa using hB.2
 have mc:∀ j,p≤j→mS A j=false:=fun j hj=>by
  cases hx:mS A j with
  | false=>rfl
  | true=>have:=YC.lt j (jJ.1 hx);omega
 let la:Array Bool:=((List.range ops.size).map (mS A)).toArray
 have zq:la.size=ops.size:=by simp [la]
 have Pu:∀ j,j < ops.size→la.getD j true=mS A j:=fun j hj=>by simp [la,hj]
 have hD:=pX (ops:=ops) hL (K':=fun env S1=>uv A fun done=>AP P I ops (Lg A ops) (fun _=>True) (fun env S=>af P I z fn k env S R) (ops.toList.drop p) p (gW ops S1.boxes.length done env) (lJ S1 (done.map (zA P ops)))) (fun env S1 hq=>by
  have step:∀ done:List Nat,nB P I ops [] [] (lJ S1 (done.map (zA P ops))) (fun env S=>af P I z fn k env S R) p (ops.toList.drop p) (gW ops S1.boxes.length done env) (lJ S1 (done.map (zA P ops)))→AP P I ops (Lg A ops) (fun _=>True) (fun env S=>af P I z fn k env S R) (ops.toList.drop p) p (gW ops S1.boxes.length done env) (lJ S1 (done.map (zA P ops))):=by
   intro done hq
   have e:(fun _:Mem=>True)=Kept [] (lJ S1 (done.map (zA P ops))):=by
    funext S'
    exact propext ⟨fun _ _ h=>h.elim,fun _=>trivial⟩
   rw [e]
   have:=FP _ p _ _ (pX (A:=[]) (L:=[]) trivial (fun _ _ h=>h) _ p _ _ (fun j o hj=>by simpa using hj) (fun _ h=>h.elim) hq)
   refine FQ _ p _ _ (fun j hj=>?_) this
   rw [Bool.eq_iff_iff,List.contains_iff_mem,List.contains_iff_mem]
   unfold Lg
   rw [List.mem_filter,List.mem_filter,mc j hj]
   rfl
  revert hq
  unfold uv
  split
  ·exact step _
  ·exact step _
  ·exact fun hq=>⟨step _ hq.1,step _ hq.2⟩
  ·exact fun hq d hd=>step d (hq d hd)) _ 0 env S (fun j o hj=>by
   rw [List.getElem?_take] at hj
   split at hj
   ·simpa using hj
   ·cases hj) (fun _ _ _ hv=>hv) h
 have rS:=rZ (P:=P) (I:=I) (MM:=Kept L S) (W:=Lg A ops) (A:=A)
  (K:=fun la env S1=>(∀ j,j < ops.size→la.getD j true=decide (j < p))∧Region.lexFrom .any ops (ops.size - p) p la=true∧uv A fun done=>AP P I ops (Lg A ops) (fun _=>True) (fun env S=>af P I z fn k env S R) (ops.toList.drop p) p (gW ops S1.boxes.length done env) (lJ S1 (done.map (zA P ops))))
  (fun x o hx ho=>by
   obtain ⟨o',RM,_,_,AM⟩:=YC.op x (jJ.1 hx)
   rw [ho] at RM
   obtain rfl:=Option.some.inj RM
   exact AM) hp hW.1 hW.2 (ops.size - p) (fun la env S1 dJ Pu hlx hq=>by
   have hj:∀ j,j < ops.size→la.getD j true=decide (j < p):=fun j hj=>by
    rw [Pu j hj]
    by_cases OE:j < p
    ·rw [decide_eq_true OE,Bool.true_or]
    ·rw [mc j (by omega),Bool.or_false]
   exact ⟨hj,hlx la dJ hj,hq⟩) (ops.toList.take p) 0 (Array.replicate ops.size false) la env S (fun j hj=>by rw [au] at hj;simp [hj]) (by rw [au,Nat.zero_add]) (by simp) zq (fun j hj=>by simp [hj]) (fun j hj=>by rw [Pu j hj];simp) hB2 hD
 have lQ:∀ j∈A,(Array.replicate ops.size false).getD j true=false:=fun j hj=>by
  have h8:j < ops.size:=by have:=YC.lt j hj;omega
  simp [h8]
 have Mc:Mb ops:=fun q hq=>v8 ops.size 0 (Array.replicate ops.size false) (by simp) (fun j hj=>by simp [hj]) (by simpa using hB.2) q (Nat.zero_le _) (by omega) hq
 have RL:∀ i o,ops[i]? = some o→(Lg A ops).contains i=true→kT o.op=true:=fun i o ho hw=>by
  have hw:=List.contains_iff_mem.1 hw
  unfold Lg at hw
  rw [List.mem_filter] at hw
  have e:bh ops i=o:=by unfold bh;rw [ho]
  rw [e,Bool.and_eq_true] at hw
  exact hw.2.1
 have bp:=wh (fn:=fn) (k:=k) (R:=R) (z:=z) (MM:=Kept L S) (rest:=ops.size - p) (Jl hs) Mc RL hp YC (fun S' Z h=>Kept.lJ h Z) (fun la env S1 dJ hq done ZM=>by
  have hC:=Md hq.2.2 done ZM
  have h7:=vX hW.1 hW.2 (ops.toList.drop p) p la _ _ (fun j=>by simp) hq.1 (by rw [hld];exact hq.2.1) hC
  rw [hld] at h7
  exact h7) _ _ _ rfl (w.tape w.drawn (.order b.fn id)) la (Array.replicate ops.size false) env S [] A rS (List.Perm.refl _) rfl (by simp) zq (fun j hj=>by rw [Pu j hj];simp [hj]) lQ (fun j o ho hl=>by
  have h8:=(Array.getElem?_eq_some_iff.1 ho).1
  simp [h8] at hl) (fun j hj=>absurd hj List.not_mem_nil)
 rw [au,hc,Nat.add_sub_cancel' hp] at bp
 rw [show (List.map (zA P ops) ([]:List Nat))=[] from rfl,iP] at bp
 obtain ⟨e,w',fr,g1,g2,g3⟩:=bp b a c _ c0 w0 h1 h2 h3 (h4.ext r2) r1 (h6.trans r2) ⟨r2.I.trans hI.1,hI.2⟩ cs
 refine ⟨e,w',fr,g1,.of_steps (.one ?_) g2,g3⟩
 have:=step_region_draw (P:=P) (b:=b) (a:=a) (k:=k) (cs:=cs) (w:=w) (ops:=ops) (id:=id)
 rw [this]
 simp only [Region.schedule,hm,Bool.true_or,if_true,Region.linearise]
section
variable {P:Program} {I:Inv} {ops:Array Oper} {A L:List Nat} {S0:Mem} {next:gJ} {d:Option Tmp} {env:List V} {S:Mem}
theorem CT (K:gJ) (k:Nat):nB P I ops A L S0 K k [] env S=(eI L S0 S∧K env S):=by cases k<;>rfl
theorem tF (K:gJ) (k:Nat) (o:Oper) (l:List Oper):nB P I ops A L S0 K k (o :: l) env S=Wi (mS A k) (nB P I ops A L S0 K (k+1) l env S) (gX P I A L S0 (nB P I ops A L S0 K (k+1) l) (Hj env ops o) o.op o.dst env S):=rfl
theorem Py (K:gJ) (k:Nat) (o:Oper) (l:List Oper) (h:mS A k=true):nB P I ops A L S0 K k (o :: l) env S=nB P I ops A L S0 K (k+1) l env S:=by rw [tF,h];rfl
theorem Pz (K:gJ) (k:Nat) (o:Oper) (l:List Oper) (h:mS A k=false):nB P I ops A L S0 K k (o :: l) env S=gX P I A L S0 (nB P I ops A L S0 K (k+1) l) (Hj env ops o) o.op o.dst env S:=by rw [tF,h];rfl
theorem RN (p q:Prop):Wi true p q=p:=rfl
theorem Wj (p q:Prop):Wi false p q=q:=rfl
theorem PA (k:Nat):mS [] k=false:=rfl
theorem Mf (a k:Nat) (l:List Nat):mS (a :: l) k=((a == k) || mS l k):=rfl
theorem Mg (N:Nat):gW ops N [] env=env:=rfl
theorem Jn (N a:Nat) (l:List Nat):gW ops N (a :: l) env=gW ops (N+1) l (aO env (bh ops a).dst (FJ ops a N)):=rfl
theorem Mh (B Z:List (List V)) (T:List (Nat × Nat)):lJ ⟨B,T⟩ Z=⟨B++Z,T⟩:=rfl
theorem Ht (f:List Nat→Prop):uv [] f=f []:=rfl
theorem Hu (a:Nat) (f:List Nat→Prop):uv [a] f=f [a]:=rfl
theorem PB (a b:Nat) (f:List Nat→Prop):uv [a,b] f=(f [a,b]∧f [b,a]):=rfl
theorem zw (S:Mem):qC [] S=True:=rfl
theorem wj (x:Nat) (l:List Nat) (S:Mem):qC (x :: l) S=((S.boxes[x]?).isSome=true∧qC l S):=rfl
theorem Mi (op:Op):gX P I A L S0 next (.d (.bool true)) op d env S=pW P I A L S0 next op d env S:=rfl
theorem RO (op:Op):gX P I A L S0 next (.d (.bool false)) op d env S=next (aO env d (.bY [])) S:=rfl
theorem Tq (t:Bool):FB (.d (.bool t)) true = .d (.bool t):=by cases t<;>rfl
theorem Tr (t:Bool):FB (.d (.bool t)) false = .d (.bool (!t)):=by cases t<;>rfl
theorem Ts (w:Bool):FB (.bY []) w = .d (.bool false):=rfl
theorem wm (v:V) (S':Mem):jO A L S0 next (some (v,S')) d env=(A=[]∧eI L S0 S'∧next (aO env d v) S'):=rfl
theorem wo (v:V) (S':Mem):gY next (some (v,S')) d env S=next (aO env d v) S:=rfl
theorem FR (a v:V) (S':Mem):r6 L a next (some (v,S')) d env S=(FO L a∧next (aO env d v) S):=rfl
theorem Mj (x:Operand):pW P I A L S0 next (.move x) d env S=next (aO env d (ai I env x)) S:=rfl
theorem FT (x:Operand):pW P I A L S0 next (.assign x) d env S=next (aO env d (ai I env x)) S:=rfl
theorem Mk (a b c:Operand):pW P I A L S0 next (.pick a b c) d env S=gY next (cU P (ai I env) S (.pick a b c)) d env S:=rfl
theorem AV (a:Operand):pW P I A L S0 next (.nilCheck a) d env S=gY next (cU P (ai I env) S (.nilCheck a)) d env S:=rfl
theorem yG (t:TypeId) (a:Operand) (f:Nat):pW P I A L S0 next (.fieldAddr t a f) d env S=gY next (cU P (ai I env) S (.fieldAddr t a f)) d env S:=rfl
theorem Jo (t:TypeId) (a:Operand) (f:Nat):pW P I A L S0 next (.field t a f) d env S=gY next (cU P (ai I env) S (.field t a f)) d env S:=rfl
theorem yH (t:TypeId) (a b:Operand):pW P I A L S0 next (.indexAddr t a b) d env S=gY next (cU P (ai I env) S (.indexAddr t a b)) d env S:=rfl
theorem Jp (t:TypeId) (a b:Operand):pW P I A L S0 next (.index t a b) d env S=gY next (cU P (ai I env) S (.index t a b)) d env S:=rfl
theorem CU (a:Operand) (i:Nat):pW P I A L S0 next (.extract a i) d env S=gY next (cU P (ai I env) S (.extract a i)) d env S:=rfl
theorem Jq (o:BinOp) (t:TypeId) (a b:Operand) (u:TypeId):pW P I A L S0 next (.binOp o t a b u) d env S=gY next (cU P (ai I env) S (.binOp o t a b u)) d env S:=rfl
theorem Ml (o:UnOp) (t:TypeId) (a:Operand):pW P I A L S0 next (.unOp o t a) d env S=gY next (cU P (ai I env) S (.unOp o t a)) d env S:=rfl
theorem CV (t u:TypeId) (a:Operand):pW P I A L S0 next (.convert t u a) d env S=gY next (cU P (ai I env) S (.convert t u a)) d env S:=rfl
theorem Jr (t:TypeId) (ps:Array (Nat × Operand)):pW P I A L S0 next (.build t ps) d env S=gY next (cU P (ai I env) S (.build t ps)) d env S:=rfl
theorem wq (t:TypeId) (n:Nat) (ps:Array (Nat × Operand)):pW P I A L S0 next (.buildSlice t n ps) d env S=gY next (cU P (ai I env) S (.buildSlice t n ps)) d env S:=rfl
theorem Js (t:TypeId) (a:Operand) (l h m:Option Operand):pW P I A L S0 next (.slice t a l h m) d env S=gY next (cU P (ai I env) S (.slice t a l h m)) d env S:=rfl
theorem AW (f:Fn) (a b:Array Operand):pW P I A L S0 next (.makeFunc f a b) d env S=gY next (cU P (ai I env) S (.makeFunc f a b)) d env S:=rfl
theorem Mm (t:TypeId) (a:Operand):pW P I A L S0 next (.load t a) d env S=r6 L (ai I env a) next (cU P (ai I env) S (.load t a)) d env S:=rfl
theorem FU (t:TypeId) (m k:Operand) (ok:Bool):pW P I A L S0 next (.lookup t m k ok) d env S=r6 L (ai I env m) next (cU P (ai I env) S (.lookup t m k ok)) d env S:=rfl
theorem Jt (t:TypeId) (a x:Operand):pW P I A L S0 next (.store t a x) d env S=jO A L S0 next (cU P (ai I env) S (.store t a x)) d env:=rfl
theorem Ju (t:TypeId):pW P I A L S0 next (.alloc t) d env S=jO A L S0 next (cU P (ai I env) S (.alloc t)) d env:=rfl
theorem PC (t:TypeId) (x:Operand):pW P I A L S0 next (.box t x) d env S=jO A L S0 next (cU P (ai I env) S (.box t x)) d env:=rfl
theorem CW (t:TypeId) (r:Option Operand):pW P I A L S0 next (.makeMap t r) d env S=jO A L S0 next (cU P (ai I env) S (.makeMap t r)) d env:=rfl
theorem yI (t:TypeId) (m k x:Operand):pW P I A L S0 next (.mapUpdate t m k x) d env S=jO A L S0 next (cU P (ai I env) S (.mapUpdate t m k x)) d env:=rfl
theorem Mn (f:Operand) (aa:Array Operand) (ts:Array TypeId):pW P I A L S0 next (.call ⟨.value f,aa,ts⟩) d env S=uu P I A L S0 next (ai I env f) (aa.toList.map (ai I env)) d env S:=rfl
theorem FV (aa:Array Operand) (ts:Array TypeId):pW P I A L S0 next (.call ⟨.builtin .append,aa,ts⟩) d env S=(Wh P I A L S0 next (.call ⟨.builtin .append,aa,ts⟩) d env S∨jO A L S0 next (dD P (ai I env) S ⟨.builtin .append,aa,ts⟩) d env):=rfl
theorem FW (aa:Array Operand) (ts:Array TypeId):pW P I A L S0 next (.call ⟨.builtin .delete,aa,ts⟩) d env S=jO A L S0 next (dD P (ai I env) S ⟨.builtin .delete,aa,ts⟩) d env:=rfl
theorem PD (aa:Array Operand) (ts:Array TypeId):pW P I A L S0 next (.call ⟨.builtin .len,aa,ts⟩) d env S=gY next (dD P (ai I env) S ⟨.builtin .len,aa,ts⟩) d env S:=rfl
theorem Mo (i k:Nat):FO L (.ptr i k)=qn L i:=rfl
theorem PE (i:Nat):FO L (.mp i)=qn L i:=rfl
theorem Jv (r:List D) (k:Nat):FO L (.gp r k)=True:=rfl
theorem Mp (i:Nat):qn [] i=False:=rfl
theorem Jw (x i:Nat) (l:List Nat):qn (x :: l) i=(x=i∨qn l i):=rfl
theorem pY (S S':Mem):eI [] S S' = True:=rfl
theorem wu (x:Nat) (l:List Nat) (S S':Mem):eI (x :: l) S S' = (S'.boxes[x]? = S.boxes[x]?∧eI l S S'):=rfl
theorem FX (L:List Nat) (S:Mem):eI L S S=True:=eq_true (kU S L)
theorem bO {g:FuncId} {first caps args:List V} {v:V} (h:∀ Z,aF P I g (first++args++caps) (lJ S Z) fun r T=>r=v∧T=lJ S Z) (hk:eI L S0 S∧next (aO env d v) S):uu P I A L S0 next (.func g first caps) args d env S :=
 ⟨fun u T=>u=v∧T=S,⟨v,S,rfl,rfl⟩,fun u T hq=>.inl (by rw [hq.2]),fun Z _=>(h Z).mono fun r T hq=>⟨S,hq.2,hq.1,rfl⟩,fun u T ⟨e1,e2⟩=>by subst e1 e2;exact hk⟩
theorem wv {g:FuncId} {first caps args:List V} {Q:V→Prop} (cm:∃ v,Q v) (h:∀ Z,aF P I g (first++args++caps) (lJ S Z) fun r T=>Q r∧T=lJ S Z) (hk:∀ v,Q v→eI L S0 S∧next (aO env d v) S):uu P I A L S0 next (.func g first caps) args d env S:=by
 obtain ⟨v,hv⟩:=cm
 exact ⟨fun u T=>Q u∧T=S,⟨v,S,hv,rfl⟩,fun u T hq=>.inl (by rw [hq.2]),fun Z _=>(h Z).mono fun r T hq=>⟨S,hq.2,hq.1,rfl⟩,fun u T ⟨e1,e2⟩=>by subst e2;exact hk u e1⟩
theorem Mq {g:FuncId} {first caps args:List V} {Q:V→Mem→Prop} (cm:∃ v S',Q v S') (hl:∀ v S',Q v S'→S'.boxes.length=S.boxes.length) (h:∀ Z,aF P I g (first++args++caps) (lJ S Z) fun v T=>∃ S',T=lJ S' Z∧Q v S') (hk:∀ v S',Q v S'→eI L S0 S'∧next (aO env d v) S'):uu P I A L S0 next (.func g first caps) args d env S :=
 ⟨Q,cm,fun v S' hq=>.inl (hl v S' hq),fun Z _=>h Z,hk⟩
theorem cM {g:FuncId} {first caps args:List V} {Q:V→Mem→Prop} (cm:∃ v S',Q v S') (h:aF P I g (first++args++caps) S Q) (hk:∀ v S',Q v S'→eI L S0 S'∧next (aO env d v) S'):uu P I [] L S0 next (.func g first caps) args d env S :=
 ⟨Q,cm,fun v S' hq=>.inr rfl,fun Z hZ=>by rw [hZ rfl,iP];exact h.mono fun v S' hq=>⟨S',(iP S').symm,hq⟩,hk⟩
end
set_option linter.defProp false in
def xw:=And.intro @CT (And.intro @Py (And.intro @Pz (And.intro @RN (And.intro @PA (And.intro @Mf (And.intro @Mg (And.intro @Jn (And.intro @Mh (And.intro @Ht (And.intro @Hu (And.intro @PB (And.intro @zw (And.intro @wj (And.intro @Mi (And.intro @RO (And.intro @Tq (And.intro @Tr (And.intro @Bool.not_true (And.intro @Bool.not_false (And.intro @Ts (And.intro @wm (And.intro @wo (And.intro @FR (And.intro @Mj (And.intro @FT (And.intro @Mk (And.intro @AV (And.intro @yG (And.intro @Jo (And.intro @yH (And.intro @Jp (And.intro @CU (And.intro @Jq (And.intro @Ml (And.intro @CV (And.intro @Jr (And.intro @wq (And.intro @Js (And.intro @AW (And.intro @Mm (And.intro @FU (And.intro @Jt (And.intro @Ju (And.intro @PC (And.intro @CW (And.intro @yI (And.intro @Mn (And.intro @FV (And.intro @FW (And.intro @PD (And.intro @Mo (And.intro @PE (And.intro @Jv (And.intro @Mp (And.intro @Jw (And.intro @pY (And.intro @FX (And.intro @wu (And.intro @FJ.eq_1 (And.intro @zA.eq_1 (And.intro @or_true (And.intro @true_or (And.intro @true_and (And.intro @and_true (And.intro @and_self (And.intro @Option.isSome_some.{0} (And.intro @Bool.or_false (And.intro @Bool.false_or (And.intro @Bool.true_or (And.intro @Bool.or_true (And.intro @List.length_append.{0} (And.intro @List.length_cons.{0} (And.intro @List.length_nil.{0} (And.intro @List.append_assoc.{0} (And.intro @List.cons_append.{0} (And.intro @List.nil_append.{0} (And.intro @List.drop_succ_cons.{0} (And.intro @List.drop_zero.{0} (And.intro @List.take_succ_cons.{0} (And.intro @List.take_zero.{0} (And.intro @List.map_cons.{0,0} @List.map_nil.{0,0})))))))))))))))))))))))))))))))))))))))))))))))))))))))))))))))))))))))))))))))))
abbrev rD:=FuncId→List Item→List V→Mem→Option (V × Mem)
def Hv (P:Program) (fn:FuncId) (env:List V) (S:Mem):Option (V × Mem) :=
 match P.funcs[fn]? with
 | some f=>match Cy P S env f.results.toList with
  | some v=>some (v,S)
  | none=>none
 | none=>none
def AX (S:Mem) (v:V) (S':Mem):V × Mem :=
 match fit S.boxes.length S'.aL.length v && (S'.boxes.take S.boxes.length).all (fun vs=>vs.all (fit S.boxes.length S.aL.length)) && Nat.ble S.boxes.length S'.boxes.length && Nat.ble S.aL.length S'.aL.length with
 | true=>(wk S.boxes.length S.aL.length v,⟨S'.boxes.take S.boxes.length,S'.aL.take S.aL.length⟩)
 | false=>(v,S')
def Wk (run:rD) (g:FuncId) (body:Code) (init:List V) (S:Mem):Option (V × Mem) :=
 match run g [.code body] init S with
 | some (v,S')=>some (AX S v S')
 | none=>none
def wA (P:Program) (dQ:FuncId→List V→Option V) (run:rD) (g:FuncId) (args:List V):Option V :=
 match P.funcs[g]? with
 | some f=>match f.body with
  | some body=>match dQ g args with
   | some v=>some (wk 0 0 v)
   | none=>match run g [.code body] (args++List.replicate (f.ntmps - args.length) .undef) ⟨[],[]⟩ with
    | some (v,S0)=>match fit 0 S0.aL.length v with
     | true=>some (wk 0 0 v)
     | false=>none
    | none=>none
  | none=>none
 | none=>none
def Hw (P:Program) (run:rD) (g:FuncId) (args:List V) (S:Mem):Option (V × Mem) :=
 match P.funcs[g]? with
 | some f=>match f.body with
  | some body=>Wk run g body (args++List.replicate (f.ntmps - args.length) .undef) S
  | none=>none
 | none=>none
def Mr (P:Program) (dQ:FuncId→List V→Option V) (run:rD) (g:FuncId) (args:List V) (S:Mem):Option (V × Mem) :=
 match jn 0 0 args with
 | true=>match wA P dQ run g (uW 0 0 args) with
  | some v=>some (v,S)
  | none=>Hw P run g args S
 | false=>Hw P run g args S
def tG (run:rD) (fn:FuncId) (r:Option (V × Mem)) (k:List Item) (d:Option Tmp) (env:List V):Option (V × Mem) :=
 match r with
 | some (v,S)=>run fn k (aO env d v) S
 | none=>none
def CX (P:Program) (env:List V) (S:Mem) (s:Operand) (t:TypeId):List V × Mem :=
 match s with
 | .tmp q=>match env.getD q .undef with
  | .sl rows .full=>match bD P t with
   | some ti=>match ti.d with
    | .slice e=>match bD P e with
     | some te=>match decide (0 < te.size) && cy te.size rows with
      | true=>(env.set q (.sl rows (.own S.aL.length)),{ S with aL:=S.aL++[(rows.length,te.size)] })
      | false=>(env,S)
     | none=>(env,S)
    | _=>(env,S)
   | none=>(env,S)
  | _=>(env,S)
 | _=>(env,S)
def PG (P:Program) (I:Inv) (dQ:FuncId→List V→Option V) (run:rD) (fn:FuncId) (ops:Array Oper) (rest:List Nat) (o:Oper) (k:List Item) (env:List V) (S:Mem):Option (V × Mem) :=
 match o.op with
 | .call q=>match q.callee with
  | .value f=>match ai I env f with
   | .func g first caps=>tG run fn (Mr P dQ run g (first++q.args.toList.map (ai I env)++caps) S) (.inRegion ops rest :: k) o.dst env
   | _=>none
  | .builtin .append=>match q.args.toList,q.argTypes.toList with
   | [s,_],[t,_]=>match CX P env S s t with
    | (cF,S')=>tG run fn (dD P (ai I cF) S' q) (.inRegion ops rest :: k) o.dst cF
   | _,_=>none
  | _=>tG run fn (dD P (ai I env) S q) (.inRegion ops rest :: k) o.dst env
 | op=>tG run fn (cU P (ai I env) S op) (.inRegion ops rest :: k) o.dst env
def RP (P:Program) (I:Inv) (dQ:FuncId→List V→Option V) (run:rD) (fn:FuncId) (ops:Array Oper) (i:Nat) (rest:List Nat) (k:List Item) (env:List V) (S:Mem):Option (V × Mem) :=
 match ops[i]? with
 | some o=>match o.guard with
  | none=>PG P I dQ run fn ops rest o k env S
  | some (j,want)=>match eO env ops j with
   | .d (.bool t)=>match t == want with
    | true=>PG P I dQ run fn ops rest o k env S
    | false=>run fn (.inRegion ops rest :: k) (aO env o.dst (.bY [])) S
   | .bY []=>run fn (.inRegion ops rest :: k) (aO env o.dst (.bY [])) S
   | _=>none
 | none=>none
def CY:Op→Bool
 | .move _=>true
 | .assign _=>true
 | .pick ..=>true
 | .build ..=>true
 | .load ..=>true
 | .nilCheck _=>true
 | .binOp ..=>true
 | .unOp ..=>true
 | .makeFunc ..=>true
 | .slice ..=>true
 | .fieldAddr ..=>true
 | .indexAddr ..=>true
 | .index ..=>true
 | .extract ..=>true
 | _=>false
def Hx (r:Option (V × Mem)):Option V :=
 match r with
 | some (v,_)=>some v
 | none=>none
def CZ (P:Program) (I:Inv) (dQ:FuncId→List V→Option V) (run:rD) (o:Oper) (env:List V) (S:Mem):Option V :=
 match o.op with
 | .call q=>match q.callee with
  | .value f=>match ai I env f with
   | .func g first caps=>match jn 0 0 (first++q.args.toList.map (ai I env)++caps) with
    | true=>wA P dQ run g (uW 0 0 (first++q.args.toList.map (ai I env)++caps))
    | false=>none
   | _=>none
  | .builtin .len=>Hx (dD P (ai I env) S q)
  | _=>none
 | op=>match CY op with
  | true=>Hx (cU P (ai I env) S op)
  | false=>none
def uw (P:Program) (I:Inv) (dQ:FuncId→List V→Option V) (run:rD) (ops:Array Oper) (S:Mem):List Oper→List V→Option (List V)
 | [],env=>some env
 | o :: l,env=>match o.guard with
  | none=>match CZ P I dQ run o env S with
   | some v=>uw P I dQ run ops S l (aO env o.dst v)
   | none=>none
  | some (j,want)=>match eO env ops j with
   | .d (.bool t)=>match t == want with
    | true=>match CZ P I dQ run o env S with
     | some v=>uw P I dQ run ops S l (aO env o.dst v)
     | none=>none
    | false=>uw P I dQ run ops S l (aO env o.dst (.bY []))
   | .bY []=>uw P I dQ run ops S l (aO env o.dst (.bY []))
   | _=>none
mutual
def PI:D→D→Bool
 | .int k n,.int j m=>decide (k=j) && decide (n=m)
 | .bool a,.bool b=>a == b
 | .str a,.str b=>decide (a=b)
 | .sl a,.sl b=>oR a b
 | _,_=>false
def oR:List (List D)→List (List D)→Bool
 | [],[]=>true
 | a :: l,b :: m=>C0 a b && oR l m
 | _,_=>false
def C0:List D→List D→Bool
 | [],[]=>true
 | a :: l,b :: m=>PI a b && C0 l m
 | _,_=>false
end
mutual
theorem AY:∀ a b,PI a b=true→a=b
 | .int k n,b,h=>by
  cases b<;>simp [PI] at h
  rw [h.1,h.2]
 | .bool k,b,h=>by
  cases b<;>simp [PI] at h
  rw [h]
 | .str k,b,h=>by
  cases b<;>simp [PI] at h
  rw [h]
 | .sl k,b,h=>by
  cases b<;>simp [PI] at h
  rw [mT _ _ h]
theorem mT:∀ a b,oR a b=true→a=b
 | [],b,h=>by
  cases b
  ·rfl
  ·simp [oR] at h
 | x :: l,b,h=>by
  cases b<;>simp [oR] at h
  rw [C4 _ _ h.1,mT _ _ h.2]
theorem C4:∀ a b,C0 a b=true→a=b
 | [],b,h=>by
  cases b
  ·rfl
  ·simp [C0] at h
 | x :: l,b,h=>by
  cases b<;>simp [C0] at h
  rw [AY _ _ h.1,C4 _ _ h.2]
end
def ZP:V→V→Bool
 | .undef,.undef=>true
 | .d a,.d b=>PI a b
 | .sl a .full,.sl b .full=>oR a b
 | .sl a (.own t),.sl b (.own u)=>oR a b && decide (t=u)
 | .ptr i k,.ptr j l=>decide (i=j) && decide (k=l)
 | .iG,.iG=>true
 | _,_=>false
theorem Tt {a b:V} (h:ZP a b=true):a=b:=by
 unfold ZP at h
 split at h
 ·rfl
 ·rw [AY _ _ h]
 ·rw [mT _ _ h]
 ·rw [Bool.and_eq_true,decide_eq_true_eq] at h
  rw [mT _ _ h.1,h.2]
 ·rw [Bool.and_eq_true,decide_eq_true_eq,decide_eq_true_eq] at h
  rw [h.1,h.2]
 ·rfl
 ·cases h
def PJ:List V→List V→Bool
 | [],[]=>true
 | a :: l,b :: m=>ZP a b && PJ l m
 | _,_=>false
theorem Hy:∀ {a b:List V},PJ a b=true→a=b
 | [],[],_=>rfl
 | a :: l,b :: m,h=>by
  rw [PJ,Bool.and_eq_true] at h
  rw [Tt h.1,Hy h.2]
def ZQ:Option (List V)→Option (List V)→Bool
 | some a,some b=>PJ a b
 | none,none=>true
 | _,_=>false
theorem Tu {a b:Option (List V)} (h:ZQ a b=true):a=b:=by
 unfold ZQ at h
 split at h
 ·rw [Hy h]
 ·rfl
 ·cases h
def Hz:List Nat→Mem→Mem→Bool
 | [],_,_=>true
 | i :: l,S,S'=>ZQ S'.boxes[i]? S.boxes[i]? && Hz l S S'
theorem C6 {S S':Mem}:∀ {L:List Nat},Hz L S S' = true→eI L S S'
 | [],_=>by rw [pY];trivial
 | i :: l,h=>by
  rw [Hz,Bool.and_eq_true] at h
  rw [wu]
  exact ⟨Tu h.1,C6 h.2⟩
def HB:List Nat→Mem→Bool
 | [],_=>true
 | i :: l,S=>(S.boxes[i]?).isSome && HB l S
theorem C7 {S:Mem}:∀ {L:List Nat},HB L S=true→qC L S
 | [],_=>by rw [zw];trivial
 | i :: l,h=>by
  rw [HB,Bool.and_eq_true] at h
  rw [wj]
  exact ⟨h.1,C7 h.2⟩
theorem C8 {i:Nat}:∀ {L:List Nat},i∈L→qn L i
 | x :: l,h=>by
  rcases List.mem_cons.1 h with rfl | h
  ·exact .inl rfl
  ·exact .inr (C8 h)
def ZR:V→List Nat
 | .ptr i _=>[i]
 | .mp i=>[i]
 | _=>[]
def PK (A:List Nat) (r:Option (V × Mem)):Option (V × Mem × Bool × List Nat) :=
 match A with
 | []=>match r with
  | some (v,S')=>some (v,S',true,[])
  | none=>none
 | _=>none
def Tv (S:Mem) (l:List Nat) (r:Option (V × Mem)):Option (V × Mem × Bool × List Nat) :=
 match r with
 | some (v,_)=>some (v,S,false,l)
 | none=>none
def Wl (P:Program) (dQ:FuncId→List V→Option V) (run:rD) (A:List Nat) (g:FuncId) (args:List V) (S:Mem):Option (V × Mem × Bool × List Nat) :=
 match A with
 | []=>match Mr P dQ run g args S with
  | some (v,S')=>some (v,S',true,[])
  | none=>none
 | _=>match jn 0 0 args with
  | true=>match wA P dQ run g (uW 0 0 args) with
   | some v=>some (v,S,false,[])
   | none=>none
  | false=>none
def Tw (P:Program) (I:Inv) (dQ:FuncId→List V→Option V) (run:rD) (A:List Nat) (op:Op) (env:List V) (S:Mem):Option (V × Mem × Bool × List Nat) :=
 match op with
 | .load t a=>Tv S (ZR (ai I env a)) (cU P (ai I env) S (.load t a))
 | .lookup t m k ok=>Tv S (ZR (ai I env m)) (cU P (ai I env) S (.lookup t m k ok))
 | .store t a x=>PK A (cU P (ai I env) S (.store t a x))
 | .alloc t=>PK A (cU P (ai I env) S (.alloc t))
 | .box t x=>PK A (cU P (ai I env) S (.box t x))
 | .makeMap t r=>PK A (cU P (ai I env) S (.makeMap t r))
 | .mapUpdate t m k x=>PK A (cU P (ai I env) S (.mapUpdate t m k x))
 | .call c=>match c.callee with
  | .value f=>match ai I env f with
   | .func g first caps=>Wl P dQ run A g (first++c.args.toList.map (ai I env)++caps) S
   | _=>none
  | .builtin .append=>PK A (dD P (ai I env) S c)
  | .builtin .delete=>PK A (dD P (ai I env) S c)
  | _=>Tv S [] (dD P (ai I env) S c)
 | op=>Tv S [] (cU P (ai I env) S op)
def C9 (P:Program) (I:Inv) (dQ:FuncId→List V→Option V) (run:rD) (ops:Array Oper) (A:List Nat):Nat→List Oper→List V→Mem→Option (List V × Mem × List Mem × List Nat)
 | _,[],env,S=>some (env,S,[],[])
 | k,o :: l,env,S=>match mS A k with
  | true=>C9 P I dQ run ops A (k+1) l env S
  | false=>match Hj env ops o with
   | .d (.bool b)=>match b with
    | true=>match Tw P I dQ run A o.op env S with
     | some (v,S1,w,ld)=>match C9 P I dQ run ops A (k+1) l (aO env o.dst v) S1 with
      | some (e,S2,tr,ls)=>some (e,S2,(match w with
       | true=>S1 :: tr
       | false=>tr),ld++ls)
      | none=>none
     | none=>none
    | false=>C9 P I dQ run ops A (k+1) l (aO env o.dst (.bY [])) S
   | _=>none
def PL (P:Program) (I:Inv) (dQ:FuncId→List V→Option V) (run:rD) (p:Nat) (fn:FuncId) (ops:Array Oper) (k:List Item) (done:List Nat) (FY:List V) (S1:Mem):Option (V × Mem) :=
 match C9 P I dQ run ops [] p (ops.toList.drop p) (gW ops S1.boxes.length done FY) (lJ S1 (done.map (zA P ops))) with
 | some (Wm,S3,_,[])=>run fn k Wm S3
 | _=>none
def FZ (P:Program) (I:Inv) (dQ:FuncId→List V→Option V) (run:rD) (p:Nat) (A:List Nat) (fn:FuncId) (ops:Array Oper) (k:List Item) (env:List V) (S:Mem):Option (V × Mem) :=
 match FE ops (Lg A ops) && FN ops A p && Nat.ble p ops.size && Ys P ops A p && Nat.beq (FM A 0 p+A.length) p with
 | true=>match C9 P I dQ run ops A 0 (ops.toList.take p) env S with
  | some (FY,S1,tr,ls)=>match HB ls S && tr.all (Hz ls S) with
   | true=>match A with
    | []=>PL P I dQ run p fn ops k [] FY S1
    | [a]=>PL P I dQ run p fn ops k [a] FY S1
    | _=>none
   | false=>none
  | none=>none
 | false=>none
def Ms (P:Program) (I:Inv) (dQ:FuncId→List V→Option V) (tab:FuncId→Nat→Option (Nat × List Nat)) (run:rD) (fn:FuncId) (c:Code) (k:List Item) (env:List V) (S:Mem):Option (V × Mem) :=
 match c with
 | .seq a b=>run fn (.code a :: .code b :: k) env S
 | .skip=>run fn k env S
 | .label _=>run fn k env S
 | .block id a=>run fn (.code a :: .inBlock id :: k) env S
 | .region _ ops false=>run fn (.inRegion ops (tB 0 ops.toList) :: k) env S
 | .region id ops true=>match P.follows .mixedOrders && Region.lexB .any ops with
  | true=>match tab fn id with
   | some (p,A)=>FZ P I dQ run p A fn ops k env S
   | none=>match uw P I dQ run ops S ops.toList env with
    | some cF=>run fn k cF S
    | none=>none
  | false=>none
 | .cond x a b=>match ai I env x with
  | .d (.bool t)=>match t with
   | true=>run fn (.code a :: k) env S
   | false=>run fn (.code b :: k) env S
  | _=>none
 | .exit id=>match exitTo id k with
  | some k'=>run fn k' env S
  | none=>none
 | .loop x=>run fn (.code x :: .inLoop x :: k) env S
 | .ret=>Hv P fn env S
 | _=>none
def F1 (P:Program) (I:Inv) (dQ:FuncId→List V→Option V) (tab:FuncId→Nat→Option (Nat × List Nat)) (run:rD):rD:=fun fn k env S =>
 match k with
 | []=>Hv P fn env S
 | .code c :: k=>Ms P I dQ tab run fn c k env S
 | .inBlock _ :: k=>run fn k env S
 | .inLoop x :: k=>run fn (.code x :: .inLoop x :: k) env S
 | .inRegion _ [] :: k=>run fn k env S
 | .inRegion ops (i :: rest) :: k=>RP P I dQ run fn ops i rest k env S
 | _=>none
noncomputable def ew (P:Program) (I:Inv) (dQ:FuncId→List V→Option V) (tab:FuncId→Nat→Option (Nat × List Nat)) (n:Nat):rD:=Nat.rec (fun _ _ _ _=>none) (fun _ run=>F1 P I dQ tab run) n
def eJ (P:Program):Bool:=P.funcs.toList.all fun f=>!(f.name == "runtime.NumGoroutine")
section
variable {P:Program} {I:Inv} {dQ:FuncId→List V→Option V}
def jr (P:Program) (I:Inv) (run:rD):Prop:=∀ fn k env S v S',run fn k env S=some (v,S')→∀ z R,R v S'→af P I z fn k env S R
theorem zx (hN:eJ P=true) {g:FuncId} {f:Func} (hf:P.funcs[g]? = some f):(f.name == "runtime.NumGoroutine")=false:=by
 have:=List.all_eq_true.1 hN f (by simpa using Array.mem_of_getElem? hf)
 simpa using this
theorem Jx {S S':Mem} {v:V} {g:FuncId} {args:List V} {Q:V→Mem→Prop} (h:∀ R:V→Mem→Prop,R v S'→aF P I g args S R) (hq:Q (AX S v S').1 (AX S v S').2):aF P I g args S Q:=by
 unfold AX at hq
 split at hq
 ·rename_i hc
  simp only [Bool.and_eq_true,Nat.ble_eq] at hc
  obtain ⟨⟨⟨_,h2⟩,h3⟩,h4⟩:=hc
  refine aF.left (h _ ⟨S'.boxes.take S.boxes.length,S'.boxes.drop S.boxes.length,S'.aL.take S.aL.length,S'.aL.drop S.aL.length,by simp,by simp;omega,by simp;omega,fun i vs hi v hv=>.inr ?_,hq⟩)
  exact List.all_eq_true.1 (List.all_eq_true.1 h2 vs (List.mem_of_getElem? hi)) v hv
 ·exact h _ hq
theorem tH (hN:eJ P=true) (ho:∀ g args v,dQ g args=some v→aF P I g args ⟨[],[]⟩ (fun v' _=>v' = v)) {run:rD} (bp:jr P I run) {g:FuncId} {args:List V} {v:V} (h:wA P dQ run g (uW 0 0 args)=some v) (S:Mem):aF P I g args S fun v' S'=>v' = v∧S' = S:=by
 unfold wA at h
 split at h
 case h_2=>cases h
 rename_i f hf
 split at h
 case h_2=>cases h
 rename_i body hb
 have hn:=zx hN hf
 split at h
 ·rename_i v1 ho1
  obtain rfl:=Option.some.inj h
  refine ((ho _ _ _ ho1).frame S).mono ?_
  rintro v' S'' ⟨rfl,v0,S0,rfl,rfl⟩
  exact ⟨rfl,rfl⟩
 ·split at h
  case h_2=>cases h
  rename_i v1 S1 h1
  split at h
  case h_2=>cases h
  obtain rfl:=Option.some.inj h
  have hA:aF P I g (uW 0 0 args) ⟨[],[]⟩ (fun v' _=>v' = v1):=aF.enter hf hb hn (bp _ _ _ _ _ _ h1 _ _ rfl)
  refine (hA.frame S).mono ?_
  rintro v' S'' ⟨rfl,v0,S0,rfl,rfl⟩
  exact ⟨rfl,rfl⟩
theorem Da (hN:eJ P=true) {run:rD} (bp:jr P I run) {g:FuncId} {args:List V} {S S':Mem} {v:V} (h:Hw P run g args S=some (v,S')) {Q:V→Mem→Prop} (hq:Q v S'):aF P I g args S Q:=by
 unfold Hw at h
 split at h
 case h_2=>cases h
 rename_i f hf
 split at h
 case h_2=>cases h
 rename_i body hb
 have hn:=zx hN hf
 unfold Wk at h
 split at h
 case h_2=>cases h
 rename_i v1 S1 h1
 have e:=Option.some.inj h
 refine Jx (v:=v1) (S':=S1) (fun R hR=>aF.enter hf hb hn (bp _ _ _ _ _ _ h1 _ _ hR)) ?_
 rw [e];exact hq
theorem AZ (hN:eJ P=true) (ho:∀ g args v,dQ g args=some v→aF P I g args ⟨[],[]⟩ (fun v' _=>v' = v)) {run:rD} (bp:jr P I run) {g:FuncId} {args:List V} {S S':Mem} {v:V} (h:Mr P dQ run g args S=some (v,S')) {Q:V→Mem→Prop} (hq:Q v S'):aF P I g args S Q:=by
 unfold Mr at h
 split at h
 case h_2=>exact Da hN bp h hq
 rename_i yt
 split at h
 case h_2=>exact Da hN bp h hq
 rename_i v1 h1
 obtain ⟨rfl,rfl⟩:=Prod.mk.inj (Option.some.inj h)
 refine (tH hN ho bp h1 S).mono ?_
 rintro v' S'' ⟨rfl,rfl⟩
 exact hq
theorem Db {r:Option (V × Mem)} {v:V} (h:Hx r=some v):∃ S,r=some (v,S):=by
 unfold Hx at h
 split at h
 case h_2=>cases h
 rename_i v1 S1
 obtain rfl:=Option.some.inj h
 exact ⟨S1,rfl⟩
theorem qY {S S':Mem} {r:Option V} {v:V} (h:still S r=some (v,S')):S' = S:=by
 obtain ⟨_,_,e⟩:=Option.map_eq_some_iff.1 h
 exact (Prod.mk.inj e).2.symm
theorem F2 {ev:Operand→V} {S S':Mem} {op:Op} {v:V} (hq:CY op=true) (h:cU P ev S op=some (v,S')):S' = S:=by
 unfold cU at h
 split at h<;>try (cases hq;done)
 all_goals first
  | exact qY h
  | (obtain ⟨_,rfl⟩:=Prod.mk.inj (Option.some.inj h);rfl)
  | (split at h<;>first
   | exact qY h
   | (obtain ⟨_,rfl⟩:=Prod.mk.inj (Option.some.inj h);rfl)
   | (cases h;done))
  | (cases h;done)
theorem Mt (hN:eJ P=true) (ho:∀ g args v,dQ g args=some v→aF P I g args ⟨[],[]⟩ (fun v' _=>v' = v)) {run:rD} (bp:jr P I run) {o:Oper} {env:List V} {S:Mem} {v:V} (h:CZ P I dQ run o env S=some v):VW P I o env S v:=by
 unfold CZ at h
 split at h
 ·rename_i q hq
  split at h
  ·rename_i f hf
   split at h
   case h_2=>cases h
   rename_i g first caps hg
   split at h
   case h_2=>cases h
   rename_i yt
   exact .inr ⟨q,f,g,first,caps,hq,hf,hg,tH hN ho bp h S⟩
  ·rename_i hb
   obtain ⟨S',h1⟩:=Db h
   have h2:S' = S:=by
    unfold dD at h1
    rw [hb] at h1
    split at h1
    all_goals first
     | exact qY h1
     | (rename_i e _ _;cases e;done)
     | (cases h1;done)
   rw [h2] at h1
   exact .inl (by rw [hq];exact h1)
  ·cases h
 ·split at h
  case h_2=>cases h
  rename_i hqo
  obtain ⟨S',h1⟩:=Db h
  have h2:=F2 hqo h1
  rw [h2] at h1
  exact .inl h1
theorem r7 (hN:eJ P=true) (ho:∀ g args v,dQ g args=some v→aF P I g args ⟨[],[]⟩ (fun v' _=>v' = v)) {run:rD} (bp:jr P I run) {ops:Array Oper} {S:Mem} {K:List V→Prop}:∀ (l:List Oper) (env cF:List V),uw P I dQ run ops S l env=some cF→K cF→CE P I ops S K l env
 | [],env,cF,h,hK=>by
  obtain rfl:=Option.some.inj h
  exact hK
 | o :: l,env,cF,h,hK=>by
  unfold uw at h
  have go:ek env ops o→(match CZ P I dQ run o env S with
   | some v=>uw P I dQ run ops S l (aO env o.dst v)
   | none=>none)=some cF→CE P I ops S K (o :: l) env:=by
   intro hw h
   split at h
   case h_2=>cases h
   rename_i v hv
   exact ⟨v,.inl ⟨hw,Mt hN ho bp hv⟩,r7 hN ho bp l _ _ h hK⟩
  split at h
  ·rename_i hg
   exact go (.inl hg) h
  ·rename_i j want hg
   split at h
   ·rename_i t ht
    split at h
    ·rename_i hw
     have:t=want:=by simpa using hw
     subst this
     exact go (.inr ⟨j,t,hg,ht⟩) h
    ·rename_i hw
     exact ⟨.bY [],.inr ⟨⟨j,want,hg,.inl ⟨t,ht,hw⟩⟩,rfl⟩,r7 hN ho bp l _ _ h hK⟩
   ·rename_i ht
    exact ⟨.bY [],.inr ⟨⟨j,want,hg,.inr ht⟩,rfl⟩,r7 hN ho bp l _ _ h hK⟩
   ·cases h
theorem pZ {run:rD} (bp:jr P I run) {fn:FuncId} {r:Option (V × Mem)} {k:List Item} {d:Option Tmp} {env:List V} {v:V} {S':Mem} (h:tG run fn r k d env=some (v,S')):∃ v1 S1,r=some (v1,S1)∧∀ z R,R v S'→af P I z fn k (aO env d v1) S1 R:=by
 unfold tG at h
 split at h
 case h_2=>cases h
 rename_i v1 S1
 exact ⟨v1,S1,rfl,bp _ _ _ _ _ _ h⟩
theorem Mu {env:List V} {S:Mem} {s:Operand} {t:TypeId} {cF:List V} {S1:Mem} (h:CX P env S s t=(cF,S1)) {z:Nat × Nat} {fn:FuncId} {k:List Item} {R:V→Mem→Prop} (hr:af P I z fn k cF S1 R):af P I z fn k env S R:=by
 have hid:(env,S)=(cF,S1)→af P I z fn k env S R:=by
  intro e
  obtain ⟨rfl,rfl⟩:=Prod.mk.inj e
  exact hr
 unfold CX at h
 split at h
 case h_2=>exact hid h
 rename_i q
 split at h
 case h_2=>exact hid h
 rename_i rows hq
 split at h
 case h_2=>exact hid h
 split at h
 case h_2=>exact hid h
 split at h
 case h_2=>exact hid h
 rename_i te _
 split at h
 case h_2=>exact hid h
 rename_i hc
 rw [Bool.and_eq_true,decide_eq_true_eq] at hc
 obtain ⟨rfl,rfl⟩:=Prod.mk.inj h
 exact af.token q rows hq te.size hc.1 hc.2 hr
theorem Dc {env:List V} {S:Mem} {s:Operand} {t:TypeId} {cF:List V} {S1:Mem} (h:CX P env S s t=(cF,S1)) {ops:Array Oper} {o:Oper} (hw:ek env ops o):ek cF ops o:=by
 have hid:(env,S)=(cF,S1)→ek cF ops o:=by
  intro e
  obtain ⟨rfl,rfl⟩:=Prod.mk.inj e
  exact hw
 unfold CX at h
 split at h
 case h_2=>exact hid h
 rename_i q
 split at h
 case h_2=>exact hid h
 rename_i rows hq
 split at h
 case h_2=>exact hid h
 split at h
 case h_2=>exact hid h
 split at h
 case h_2=>exact hid h
 rename_i te _
 split at h
 case h_2=>exact hid h
 obtain ⟨rfl,rfl⟩:=Prod.mk.inj h
 rcases hw with hw | ⟨j,t,h1,h2⟩
 ·exact .inl hw
 ·refine .inr ⟨j,t,h1,?_⟩
  unfold eO at h2 ⊢
  split
  ·rename_i u hu
   rw [hu] at h2
   simp only at h2
   by_cases e:q=u
   ·subst e
    rw [hq] at h2
    cases h2
   ·rw [List.getD_eq_getElem?_getD,List.getElem?_set_ne e,← List.getD_eq_getElem?_getD]
    exact h2
  ·rename_i hu
   rw [hu] at h2
   exact h2
theorem HH (hN:eJ P=true) (ho:∀ g args v,dQ g args=some v→aF P I g args ⟨[],[]⟩ (fun v' _=>v' = v)) {run:rD} (bp:jr P I run) {fn:FuncId} {ops:Array Oper} {i:Nat} {rest:List Nat} {o:Oper} {k:List Item} {env:List V} {S S':Mem} {v:V} (yE:ops[i]? = some o) (hw:ek env ops o)
 (h:PG P I dQ run fn ops rest o k env S=some (v,S')) (z:Nat × Nat) (R:V→Mem→Prop) (hR:R v S'):af P I z fn (.inRegion ops (i :: rest) :: k) env S R:=by
 unfold PG at h
 split at h
 ·rename_i q hq
  split at h
  ·rename_i f hf
   split at h
   case h_2=>cases h
   rename_i g first caps hg
   obtain ⟨v1,S1,h1,h2⟩:=pZ bp h
   exact .call yE hw hq hf hg (AZ hN ho bp h1 (h2 z R hR))
  ·rename_i hb
   split at h
   case h_2=>cases h
   rename_i s _ t _ _ _
   split at h
   rename_i cF S2 LP
   obtain ⟨v1,S1,h1,h2⟩:=pZ bp h
   exact Mu LP (.op yE (Dc LP hw) (by rw [hq];exact h1) (h2 z R hR))
  ·obtain ⟨v1,S1,h1,h2⟩:=pZ bp h
   exact .op yE hw (by rw [hq];exact h1) (h2 z R hR)
 ·obtain ⟨v1,S1,h1,h2⟩:=pZ bp h
  exact .op yE hw h1 (h2 z R hR)
theorem Dd {fn:FuncId} {env:List V} {S S':Mem} {v:V} (h:Hv P fn env S=some (v,S')):S' = S∧∃ f,P.funcs[fn]? = some f∧Cy P S env f.results.toList=some v:=by
 unfold Hv at h
 split at h
 case h_2=>cases h
 rename_i f hf
 split at h
 case h_2=>cases h
 rename_i v1 hv
 obtain ⟨rfl,rfl⟩:=Prod.mk.inj (Option.some.inj h)
 exact ⟨rfl,f,hf,hv⟩
theorem PM (hN:eJ P=true) (ho:∀ g args v,dQ g args=some v→aF P I g args ⟨[],[]⟩ (fun v' _=>v' = v)) {run:rD} (bp:jr P I run) {A L:List Nat} {S0:Mem} {next:gJ} {op:Op} {d:Option Tmp} {env:List V} {S S1:Mem} {v:V} {w:Bool} {ld:List Nat}
 (h:Tw P I dQ run A op env S=some (v,S1,w,ld)) (hL:∀ i∈ld,qn L i) (h0:eI L S0 S) (h1:w=true→eI L S0 S1) (hn:eI L S0 S1→next (aO env d v) S1):pW P I A L S0 next op d env S:=by
 have hB:∀ r,PK A r=some (v,S1,w,ld)→jO A L S0 next r d env:=by
  intro r h
  unfold PK at h
  split at h
  case h_2=>cases h
  split at h
  case h_2=>cases h
  simp only [Option.some.injEq,Prod.mk.injEq] at h
  obtain ⟨rfl,rfl,rfl,rfl⟩:=h
  rw [wm]
  exact ⟨rfl,h1 rfl,hn (h1 rfl)⟩
 have hP:∀ l r,Tv S l r=some (v,S1,w,ld)→l=ld∧gY next r d env S:=by
  intro l r h
  unfold Tv at h
  split at h
  case h_2=>cases h
  simp only [Option.some.injEq,Prod.mk.injEq] at h
  obtain ⟨rfl,rfl,rfl,rfl⟩:=h
  rw [wo]
  exact ⟨rfl,hn h0⟩
 have hl:∀ a r,Tv S (ZR a) r=some (v,S1,w,ld)→r6 L a next r d env S:=by
  intro a r h
  obtain ⟨e,hp⟩:=hP _ _ h
  unfold gY at hp
  unfold r6
  split at hp
  case h_2=>cases hp
  refine ⟨?_,hp⟩
  rw [← e] at hL
  cases a
  all_goals first
   | trivial
   | exact hL _ List.mem_cons_self
 unfold Tw at h
 split at h
 ·exact hl _ _ h
 ·exact hl _ _ h
 ·exact hB _ h
 ·exact hB _ h
 ·exact hB _ h
 ·exact hB _ h
 ·exact hB _ h
 ·rename_i c
  unfold pW
  dsimp only
  split at h
  ·rename_i f hf
   try rw [hf]
   try dsimp only
   split at h
   case h_2=>cases h
   rename_i g first caps hg
   rw [hg]
   unfold Wl at h
   split at h
   ·split at h
    case h_2=>cases h
    rename_i v1 S2 h2
    simp only [Option.some.injEq,Prod.mk.injEq] at h
    obtain ⟨rfl,rfl,rfl,rfl⟩:=h
    exact cM (Q:=fun u T=>u=v1∧T=S2) ⟨_,_,rfl,rfl⟩ (AZ hN ho bp h2 ⟨rfl,rfl⟩) fun u T hq=>by rw [hq.1,hq.2];exact ⟨h1 rfl,hn (h1 rfl)⟩
   ·split at h
    case h_2=>cases h
    split at h
    case h_2=>cases h
    rename_i v1 h2
    simp only [Option.some.injEq,Prod.mk.injEq] at h
    obtain ⟨rfl,rfl,rfl,rfl⟩:=h
    exact bO (fun Z=>tH hN ho bp h2 _) ⟨h0,hn h0⟩
  ·rename_i hb
   try rw [hb]
   exact .inr (hB _ h)
  ·rename_i hb
   try rw [hb]
   exact hB _ h
  ·rename_i h1 h2 h3
   first
    | exact (hP _ _ h).2
    | (split
       ·rename_i f hf
        exact absurd hf (h1 f)
       ·rename_i hf
        exact absurd hf h2
       ·rename_i hf
        exact absurd hf h3
       ·exact (hP _ _ h).2)
 ·rename_i n1 n2 n3 n4 n5 n6 n7 n8
  unfold pW
  try split
  all_goals first
   | exact (hP _ _ h).2
   | exact absurd rfl (n1 _ _)
   | exact absurd rfl (n2 _ _ _ _)
   | exact absurd rfl (n3 _ _ _)
   | exact absurd rfl (n4 _)
   | exact absurd rfl (n5 _ _)
   | exact absurd rfl (n6 _ _)
   | exact absurd rfl (n7 _ _ _ _)
   | exact absurd rfl (n8 _)
theorem r8 (hN:eJ P=true) (ho:∀ g args v,dQ g args=some v→aF P I g args ⟨[],[]⟩ (fun v' _=>v' = v)) {run:rD} (bp:jr P I run) {ops:Array Oper} {A L:List Nat} {S0:Mem} {K:gJ}:∀ (l:List Oper) (k:Nat) (env:List V) (S:Mem) (e:List V) (S2:Mem) (tr:List Mem) (ls:List Nat),
 C9 P I dQ run ops A k l env S=some (e,S2,tr,ls)→(∀ M∈tr,eI L S0 M)→(∀ i∈ls,qn L i)→eI L S0 S→K e S2→nB P I ops A L S0 K k l env S
 | [],k,env,S,e,S2,tr,ls,h,_,_,h0,hK=>by
  unfold C9 at h
  simp only [Option.some.injEq,Prod.mk.injEq] at h
  obtain ⟨rfl,rfl,rfl,rfl⟩:=h
  rw [CT]
  exact ⟨h0,hK⟩
 | o :: l,k,env,S,e,S2,tr,ls,h,ht,hl,h0,hK=>by
  unfold C9 at h
  rw [tF]
  split at h
  ·rename_i hA
   rw [hA,RN]
   exact r8 hN ho bp l _ _ _ _ _ _ _ h ht hl h0 hK
  ·rename_i hA
   rw [hA,Wj]
   split at h
   case h_2=>cases h
   rename_i b hg
   rw [hg]
   split at h
   ·rw [Mi]
    split at h
    case h_2=>cases h
    rename_i v S1 w ld hd
    split at h
    case h_2=>cases h
    rename_i e1 S3 tr1 ls1 hr
    simp only [Option.some.injEq,Prod.mk.injEq] at h
    obtain ⟨rfl,rfl,rfl,rfl⟩:=h
    have hw:w=true→eI L S0 S1:=fun e=>by subst e;exact ht _ List.mem_cons_self
    have yC:∀ M∈tr1,eI L S0 M:=fun M hM=>by
     cases w
     ·exact ht M hM
     ·exact ht M (List.mem_cons_of_mem _ hM)
    exact PM hN ho bp hd (fun i hi=>hl i (List.mem_append_left _ hi)) h0 hw fun h1=>r8 hN ho bp l _ _ _ _ _ _ _ hr yC (fun i hi=>hl i (List.mem_append_right _ hi)) h1 hK
   ·rw [RO]
    exact r8 hN ho bp l _ _ _ _ _ _ _ h ht hl h0 hK
theorem Jy (hN:eJ P=true) (ho:∀ g args v,dQ g args=some v→aF P I g args ⟨[],[]⟩ (fun v' _=>v' = v)) {run:rD} (bp:jr P I run) {p:Nat} {A:List Nat} {fn:FuncId} {id:Nat} {ops:Array Oper} {k:List Item} {env:List V} {S S':Mem} {v:V} (hm:P.follows .mixedOrders=true) (hB:Region.lexB .any ops=true)
 (h:FZ P I dQ run p A fn ops k env S=some (v,S')) (z:Nat × Nat) (R:V→Mem→Prop) (hR:R v S'):af P I z fn (.code (.region id ops true) :: k) env S R:=by
 unfold FZ at h
 split at h
 case h_2=>cases h
 rename_i hc
 simp only [Bool.and_eq_true] at hc
 obtain ⟨⟨⟨⟨c1,c2⟩,c3⟩,c4⟩,c5⟩:=hc
 split at h
 case h_2=>cases h
 rename_i FY S1 tr ls h1
 split at h
 case h_2=>cases h
 rename_i hk
 rw [Bool.and_eq_true,List.all_eq_true] at hk
 have RQ:∀ done,PL P I dQ run p fn ops k done FY S1=some (v,S')→nB P I ops [] [] (lJ S1 (done.map (zA P ops))) (fun env S=>af P I z fn k env S R) p (ops.toList.drop p) (gW ops S1.boxes.length done FY) (lJ S1 (done.map (zA P ops))):=by
  intro done h
  unfold PL at h
  split at h
  case h_2=>cases h
  rename_i Wm S3 tr3 h3
  exact r8 hN ho bp _ _ _ _ _ _ _ _ h3 (fun M _=>by rw [pY];trivial) (fun i hi=>absurd hi List.not_mem_nil) (by rw [pY];trivial) (bp _ _ _ _ _ _ h z R hR)
 refine af.bE p A ls hm hB c1 c2 c3 c4 c5 ⟨C7 hk.1,r8 hN ho bp _ _ _ _ _ _ _ _ h1 (fun M hM=>C6 (hk.2 M hM)) (fun i hi=>C8 hi) (kU _ _) ?_⟩
 split at h
 ·rw [Ht]
  exact RQ _ h
 ·rw [Hu]
  exact RQ _ h
 ·cases h
theorem Jz {tab:FuncId→Nat→Option (Nat × List Nat)} (hN:eJ P=true) (ho:∀ g args v,dQ g args=some v→aF P I g args ⟨[],[]⟩ (fun v' _=>v' = v)) {run:rD} (bp:jr P I run):jr P I (F1 P I dQ tab run):=by
 intro fn k env S v S' h z R hR
 unfold F1 at h
 split at h
 ·obtain ⟨rfl,f,hf,hv⟩:=Dd h
  exact .fin hf hv hR
 ·rename_i c k
  unfold Ms at h
  split at h
  ·exact .seq (bp _ _ _ _ _ _ h _ _ hR)
  ·exact .skip (bp _ _ _ _ _ _ h _ _ hR)
  ·exact .label (bp _ _ _ _ _ _ h _ _ hR)
  ·exact .block (bp _ _ _ _ _ _ h _ _ hR)
  ·rw [vS] at h
   exact .region (bp _ _ _ _ _ _ h _ _ hR)
  ·split at h
   case h_2=>cases h
   rename_i hc
   rw [Bool.and_eq_true] at hc
   split at h
   ·exact Jy hN ho bp hc.1 hc.2 h z R hR
   split at h
   case h_2=>cases h
   rename_i cF he
   exact .draw hc.1 hc.2 (r7 hN ho bp _ _ _ he (bp _ _ _ _ _ _ h _ _ hR))
  ·rename_i x a b
   split at h
   case h_2=>cases h
   rename_i t ht
   refine .cond ht ?_
   split at h
   ·exact bp _ _ _ _ _ _ h _ _ hR
   ·exact bp _ _ _ _ _ _ h _ _ hR
  ·split at h
   case h_2=>cases h
   rename_i k' hk
   exact .exit hk (bp _ _ _ _ _ _ h _ _ hR)
  ·exact .loop (bp _ _ _ _ _ _ h _ _ hR)
  ·obtain ⟨rfl,f,hf,hv⟩:=Dd h
   exact .ret hf hv hR
  ·cases h
 ·exact .inBlock (bp _ _ _ _ _ _ h _ _ hR)
 ·exact .inLoop (bp _ _ _ _ _ _ h _ _ hR)
 ·exact .jm (bp _ _ _ _ _ _ h _ _ hR)
 ·rename_i ops i rest k
  unfold RP at h
  split at h
  case h_2=>cases h
  rename_i o yE
  split at h
  ·rename_i hg
   exact HH hN ho bp yE (.inl hg) h z R hR
  ·rename_i j want hg
   split at h
   ·rename_i t ht
    split at h
    ·rename_i hw
     have:t=want:=by simpa using hw
     subst this
     exact HH hN ho bp yE (.inr ⟨j,t,hg,ht⟩) h z R hR
    ·rename_i hw
     exact .nt yE ⟨j,want,hg,.inl ⟨t,ht,hw⟩⟩ (bp _ _ _ _ _ _ h _ _ hR)
   ·rename_i ht
    exact .nt yE ⟨j,want,hg,.inr ht⟩ (bp _ _ _ _ _ _ h _ _ hR)
   ·cases h
 ·cases h
theorem RR {tab:FuncId→Nat→Option (Nat × List Nat)} (hN:eJ P=true) (ho:∀ g args v,dQ g args=some v→aF P I g args ⟨[],[]⟩ (fun v' _=>v' = v)):∀ n,jr P I (ew P I dQ tab n)
 | 0=>fun _ _ _ _ _ _ h=>by cases h
 | n+1=>Jz hN ho (RR hN ho n)
end
noncomputable def A0 (P:Program) (I:Inv) (dQ:FuncId→List V→Option V) (tab:FuncId→Nat→Option (Nat × List Nat)) (n:Nat) (g:FuncId) (args:List V):Option V :=
 match Mr P dQ (ew P I dQ tab n) g args ⟨[],[]⟩ with
 | some (v,_)=>some v
 | none=>none
theorem zy {P:Program} {I:Inv} {dQ:FuncId→List V→Option V} {tab:FuncId→Nat→Option (Nat × List Nat)} (hN:eJ P=true) (ho:∀ g args v,dQ g args=some v→aF P I g args ⟨[],[]⟩ (fun v' _=>v' = v)) {n:Nat} {g:FuncId} {args:List V} {v:V} (h:A0 P I dQ tab n g args=some v):aF P I g args ⟨[],[]⟩ (fun v' _=>v' = v):=by
 unfold A0 at h
 split at h
 case h_2=>cases h
 rename_i v1 S1 h1
 obtain rfl:=Option.some.inj h
 exact AZ hN ho (RR hN ho n) h1 rfl
end Go.Ab
namespace Go.Proofs.YtnfnbjjnjjdjdaaGreatDoor
open Go.RowKit
def js (l p:List UInt8):Bool:=p.isPrefixOf l
end Go.Proofs.YtnfnbjjnjjdjdaaGreatDoor
namespace Go.Av
def dx (c:UInt8):Bool:=decide (97≤c.toNat∧c.toNat≤122∨65≤c.toNat∧c.toNat≤90∨c.toNat=95)
def cj (c:UInt8):Bool:=decide (48≤c.toNat∧c.toNat≤57)
def mj (c:UInt8):Bool:=decide (c.toNat=32∨c.toNat=9∨c.toNat=10∨c.toNat=13)
def eU:Bool→List UInt8→List UInt8
 | _,[]=>[]
 | true,c :: r=>if c.toNat=10 then eU false r else eU true r
 | false,c :: r=>if mj c=true then eU false r else if c.toNat=47∧r.head? = some 47 then eU true r else c :: r
theorem JA (b:Bool):eU b []=[]:=by cases b<;>rfl
theorem F3 (c:UInt8) (r:List UInt8) (h:mj c=true):eU false (c :: r)=eU false r:=by simp [eU,h]
theorem JB (c:UInt8) (r:List UInt8) (h:c.toNat=47) (h':r.head? = some 47):eU false (c :: r)=eU true (c :: r):=by
 have hw:¬ mj c=true:=by unfold mj;rw [decide_eq_true_iff];omega
 simp only [eU]
 rw [if_neg hw,if_pos ⟨h,h'⟩,if_neg (by omega)]
theorem JC (c:UInt8) (r:List UInt8) (h:¬ mj c=true) (h':¬ (c.toNat=47∧r.head? = some 47)):eU false (c :: r)=c :: r:=by
 simp only [eU]
 rw [if_neg h,if_neg h']
theorem PN (c:UInt8) (r:List UInt8) (h:¬ c.toNat=10):eU true (c :: r)=eU true r:=by simp [eU,h]
theorem zB (c:UInt8) (r:List UInt8) (h:c.toNat=10):eU true (c :: r)=eU false (c :: r):=by
 have hw:mj c=true:=by unfold mj;rw [decide_eq_true_iff];omega
 simp [eU,h,hw]
def fJ (bs:List UInt8) (k:Nat):Nat:=bs.length - (eU false (bs.drop k)).length
theorem wB (bs:List UInt8) (k m:Nat) (hm:m≤bs.length) (h:eU false (bs.drop k)=bs.drop m):fJ bs k=m:=by
 unfold fJ
 rw [h,List.length_drop]
 omega
theorem kV (bs:List UInt8) (k:Nat):fJ bs k≤bs.length:=by unfold fJ;omega
def fj (p:UInt8→Bool) (bs:List UInt8) (k:Nat):Nat:=k+((bs.drop k).takeWhile p).length
theorem De (p:UInt8→Bool) (bs:List UInt8) (k:Nat) (h:k≤bs.length):k≤fj p bs k∧fj p bs k≤bs.length:=by
 unfold fj
 have:=(List.takeWhile_prefix p (l:=bs.drop k)).length_le
 rw [List.length_drop] at this
 omega
theorem gH {bs:List UInt8} {k:Nat} {c:UInt8} (h:bs[k]? = some c):bs.drop k=c :: bs.drop (k+1):=by
 obtain ⟨au,rfl⟩:=List.getElem?_eq_some_iff.1 h
 exact List.drop_eq_getElem_cons au
theorem F4 (p:UInt8→Bool) (bs:List UInt8) (k:Nat) (c:UInt8) (h:bs[k]? = some c) (hp:p c=true):fj p bs k=fj p bs (k+1):=by
 unfold fj
 rw [gH h,List.takeWhile_cons_of_pos hp]
 simp only [List.length_cons]
 omega
theorem F5 (p:UInt8→Bool) (bs:List UInt8) (k:Nat) (c:UInt8) (h:bs[k]? = some c) (hp:¬ p c=true):fj p bs k=k:=by
 unfold fj
 rw [gH h,List.takeWhile_cons_of_neg hp]
 rfl
theorem JD (p:UInt8→Bool) (bs:List UInt8) (k:Nat) (h:bs.length≤k):fj p bs k=k:=by
 unfold fj
 rw [List.drop_eq_nil_of_le h]
 rfl
def RS (B:Nat) (w:World) (v:Value) (bs:List UInt8):Prop :=
 (v = .slice none 0 0∧bs=[])∨∃ (g off cap:Nat),v = .slice (some ⟨g,off,none⟩) bs.length cap∧g < B∧bs.length≤cap∧cap≤maxLen∧∀ j u,(bv bs)[j]? = some u→w.cell? ⟨g,off+j,none⟩=some u
theorem RS.below {B:Nat} {w w':World} {v:Value} {bs:List UInt8} (h:RS B w v bs) (hb:RowKit.Below B w w'):RS B w' v bs:=by
 rcases h with h | ⟨g,off,cap,hv,hg,h1,h2,hc⟩
 ·exact .inl h
 ·exact .inr ⟨g,off,cap,hv,hg,h1,h2,fun j u hu=>by rw [hb.cell (p:=⟨g,off+j,none⟩) hg];exact hc j u hu⟩
theorem RS.mono {B B':Nat} {w:World} {v:Value} {bs:List UInt8} (h:RS B w v bs) (hB:B≤B'):RS B' w v bs:=by
 rcases h with h | ⟨g,off,cap,hv,hg,h1,h2,hc⟩
 ·exact .inl h
 ·exact .inr ⟨g,off,cap,hv,by omega,h1,h2,hc⟩
theorem lS {bs:List UInt8} {k:Nat} {a:UInt8} (h:bs[k]? = some a):(bv bs)[k]? = some (.int .u8 (a.toNat:Int)):=by
 simp [bv,h]
theorem A4 {bs:List UInt8} {k:Nat} {u:Value} (h:(bv bs)[k]? = some u):∃ a,bs[k]? = some a∧u = .int .u8 (a.toNat:Int):=by
 simp only [bv,List.getElem?_map,Option.map_eq_some_iff] at h
 obtain ⟨a,ha,rfl⟩:=h
 exact ⟨a,ha,rfl⟩
theorem F6 {w:World} {g off:Nat} {bs:List UInt8} (hc:∀ j u,(bv bs)[j]? = some u→w.cell? ⟨g,off+j,none⟩=some u) (k:Nat) :
 ∀ j u,(bv (bs.drop k))[j]? = some u→w.cell? ⟨g,off+k+j,none⟩=some u:=by
 intro j u hu
 obtain ⟨a,ha,rfl⟩:=A4 hu
 rw [List.getElem?_drop] at ha
 have:=hc (k+j) _ (lS ha)
 rwa [← Nat.add_assoc] at this
theorem F7 {w:World} {g off:Nat} {bs:List UInt8} (hc:∀ j u,(bv bs)[j]? = some u→w.cell? ⟨g,off+j,none⟩=some u) (n:Nat) :
 ∀ j u,(bv (bs.take n))[j]? = some u→w.cell? ⟨g,off+j,none⟩=some u:=by
 intro j u hu
 obtain ⟨a,ha,rfl⟩:=A4 hu
 rw [List.getElem?_take] at ha
 split at ha
 ·exact hc j _ (lS ha)
 ·cases ha
end Go.Av
namespace Go.Proofs.YtnfnbjjnjjdjdaaGreatDoor
open Go.RowKit Go.Av
set_option maxRecDepth 100000 in
set_option maxHeartbeats 400000 in
theorem kG (c:UInt8) (x:Int) (hx:(c.toNat:Int)=x) (w:World):Calls Tryz.prog 154 #[.int .u8 x] w fun e w'=>e = .returned (.bool (dx c))∧w=w':=by
 have hc:x < 256:=by have:=c.toNat_lt;omega
 have hr:dx c=true↔(97≤x∧x≤122∨65≤x∧x≤90∨x=95):=by
  unfold dx
  rw [decide_eq_true_iff]
  omega
 generalize dx c=r at hr ⊢
 have h0:0≤x:=by omega
 clear hx
 by_cases h1:97≤x<;>by_cases h2:x≤122<;>by_cases h3:65≤x<;>by_cases h4:x≤90<;>by_cases h5:x=95<;>first | omega | skip
 all_goals
  first | (have e5:(x == 95)=true:=by simpa using h5) | (have e5:(x == 95)=false:=by simpa using h5)
  cases r<;>simp [h1,h2,h3,h4,h5] at hr
  clear h5
  go_enter Tryz.func154,Tryz.ntmps154
  go_wp2_with fail
  go_ret
  exact ⟨rfl,rfl⟩
set_option maxRecDepth 100000 in
set_option maxHeartbeats 400000 in
theorem r9 (c:UInt8) (x:Int) (hx:(c.toNat:Int)=x) (w:World):Calls Tryz.prog 157 #[.int .u8 x] w fun e w'=>e = .returned (.bool (cj c))∧w=w':=by
 have hc:x < 256:=by have:=c.toNat_lt;omega
 have hr:cj c=true↔(48≤x∧x≤57):=by
  unfold cj
  rw [decide_eq_true_iff]
  omega
 generalize cj c=r at hr ⊢
 have h0:0≤x:=by omega
 clear hx
 by_cases h1:48≤x<;>by_cases h2:x≤57<;>first | omega | skip
 all_goals
  cases r<;>simp [h1,h2] at hr
  go_enter Tryz.func157,Tryz.ntmps157
  go_wp2_with fail
  go_ret
  exact ⟨rfl,rfl⟩
def oS (c:UInt8):Bool:=dx c || cj c
set_option maxRecDepth 100000 in
set_option maxHeartbeats 400000 in
theorem PO (c:UInt8) (x:Int) (hx:(c.toNat:Int)=x) (w:World):Calls Tryz.prog 156 #[.int .u8 x] w fun e w'=>e = .returned (.bool (oS c))∧w=w':=by
 have hl:=kG c x hx
 have hd:=r9 c x hx
 have hw:oS c=(dx c || cj c):=rfl
 rw [hw]
 clear hw hx
 generalize dx c=p at hl ⊢
 generalize cj c=q at hd ⊢
 have HL:=Lib.hid hl
 have HD:=Lib.hid hd
 clear hl hd
 cases p
 ·go_enter Tryz.func156,Tryz.ntmps156
  go_wp2_with fail
  refine (HL.out _).mono ?_
  rintro e w1 ⟨rfl,rfl⟩
  go_wp2_with fail
  refine (HD.out _).mono ?_
  rintro e w1 ⟨rfl,rfl⟩
  go_wp2_with fail
  go_ret
  exact ⟨by cases q<;>rfl,rfl⟩
 ·go_enter Tryz.func156,Tryz.ntmps156
  go_wp2_with fail
  refine (HL.out _).mono ?_
  rintro e w1 ⟨rfl,rfl⟩
  go_wp2_with fail
  go_ret
  exact ⟨rfl,rfl⟩
set_option maxRecDepth 100000 in
set_option maxHeartbeats 400000 in
theorem zC (F:Nat) (p:UInt8→Bool) (hE:∀ args w,(callFunc F args).run Tryz.prog w = .ok (.enter F args) w) (hF:∀ (c:UInt8) (w:World),Calls Tryz.prog F #[.int .u8 (c.toNat:Int)] w fun e w'=>e = .returned (.bool (p c))∧w=w')
 (B:Nat) (v:Value) (bs:List UInt8) (k0:Nat) (w:World) (hv:RS B w v bs) (hk:k0≤bs.length) (hn:bs.length≤9223372036854775807) :
 Calls Tryz.prog 155 #[v,.int .i64 (k0:Int),.func (.func F) #[] #[]] w fun e w'=>e = .returned (.int .i64 (fj p bs k0:Int))∧w=w':=by
 have HF:=Lib.hid hF
 clear hF
 rcases hv with ⟨rfl,rfl⟩ | ⟨g,off,cap,rfl,hg,fF,qP,hc⟩
 ·have:k0=0:=by simpa using hk
  subst this
  go_enter Tryz.func155,Tryz.ntmps155
  go_wp2_with fail
  refine wp_loop_rounds 1 ?_
  rw [rounds_succ]
  go_wp2_with fail
  go_ret
  exact ⟨rfl,rfl⟩
 ·have hi:∀ k:Nat,k < bs.length→∃ a,bs[k]? = some a∧w.cell? ⟨g,off+k,none⟩=some (.int .u8 (a.toNat:Int)):=by
   intro k hk
   exact ⟨bs[k],List.getElem?_eq_getElem hk,hc k _ (lS (List.getElem?_eq_getElem hk))⟩
  have HI:=Lib.hid hi
  clear hi hc
  go_enter Tryz.func155,Tryz.ntmps155
  go_wp2_with fail
  go_loop [1] (fun i=>∃ k:Nat,i = .int .i64 k∧k≤bs.length∧Hid (fj p bs k0=fj p bs k)) (fun i=>(bs.length - intOf i).toNat)
  case atStart=>exact ⟨k0,rfl,hk,Lib.hid rfl⟩
  case round =>
   obtain ⟨k,rfl,hk,HR⟩:=hrel
   by_cases au:k < bs.length
   ·obtain ⟨a,ha,eZ⟩:=HI.out k au
    have HA:=Lib.hid ha
    clear ha
    have U0:=HF.out a
    have aC:(k:Int) < bs.length:=by omega
    by_cases hp:p a=true
    ·rw [hp] at U0
     have HP:=Lib.hid hp
     have ZS:=Lib.hid U0
     clear hp U0
     go_wp2_with fail
     refine (ZS.out _).mono ?_
     rintro e w1 ⟨rfl,rfl⟩
     go_wp2_with fail
     go_round
     case rel=>exact ⟨k+1,by go_num,by omega,Lib.hid (by rw [HR.out,F4 p bs k a HA.out HP.out])⟩
     case measure=>simp [intOf];omega
    ·rw [Bool.not_eq_true] at hp
     rw [hp] at U0
     have HP:=Lib.hid hp
     have ZS:=Lib.hid U0
     clear hp U0
     go_wp2_with fail
     refine (ZS.out _).mono ?_
     rintro e w1 ⟨rfl,rfl⟩
     go_wp2_with fail
     go_ret
     exact ⟨by rw [HR.out,F5 p bs k a HA.out (by rw [HP.out];exact Bool.false_ne_true)];rfl,rfl⟩
   ·have aC:¬ (k:Int) < bs.length:=by omega
    go_wp2_with fail
    go_ret
    exact ⟨by rw [HR.out,JD p bs k (by omega)];rfl,rfl⟩
def lT:List (List UInt8):=[[97,112,112,101,110,100],[98,111,111,108],[98,121,116,101],[99,97,115,101],[100,101,102,97,117,108,116],[101,108,115,101],[102,97,108,115,101],[102,111,114],[102,117,110,99],[105,102],[105,110,116],[105,110,116,51,50],[108,101,110],[112,97,99,107,97,103,101],[114,101,116,117,114,110],[115,116,114,117,99,116],[115,119,105,116,99,104],[116,114,117,101],[116,121,112,101],[117,105,110,116,51,50],[117,105,110,116,54,52],[118,97,114]]
def eE:List (List UInt8):=[[38,38],[124,124],[61,61],[33,61],[60,61],[62,61],[60,60],[62,62],[40],[41],[123],[125],[91],[93],[44],[46],[58],[61],[60],[62],[43],[45],[42],[47],[37],[38],[124],[94],[33]]
def Df (l:List (List UInt8)):Array Value:=(l.map fun s=>Value.string ⟨s.toArray⟩).toArray
structure qo (w:World):Prop where
 Dg:∃ t fr,w.heap[0]? = some (.cells (Df eE) t fr)
 keys:∃ t fr,w.heap[1]? = some (.cells (Df lT) t fr)
theorem qo.size {w:World} (h:qo w):1 < w.heap.size∧0 < w.heap.size:=by
 obtain ⟨t,fr,h1⟩:=h.Dg
 obtain ⟨t',YD,h2⟩:=h.keys
 exact ⟨(Array.getElem?_eq_some_iff.1 h2).1,(Array.getElem?_eq_some_iff.1 h1).1⟩
theorem qo.below {w w':World} (h:qo w) (hb:Below w.heap.size w w'):qo w':=by
 have hs:=h.size
 obtain ⟨t,fr,h1⟩:=h.Dg
 obtain ⟨t',YD,h2⟩:=h.keys
 exact ⟨⟨t,fr,by rw [hb.block _ hs.2];exact h1⟩,⟨t',YD,by rw [hb.block _ hs.1];exact h2⟩⟩
set_option linter.unusedVariables false in
theorem qo.kept {w w':World} (h:qo w) {B:Nat} (hb:Below B w w') (hB:1+0+1≤B)
 : qo w':=by
 obtain ⟨t,fr,h1⟩:=h.Dg
 obtain ⟨t',YD,h2⟩:=h.keys
 exact ⟨⟨t,fr,by rw [hb.block _ (by omega)];exact h1⟩,⟨t',YD,by rw [hb.block _ (by omega)];exact h2⟩⟩
theorem Mv (k:Nat) (hk:k < 22):∀ W,(Instr.index 198 (.agg (Df lT)) (.int .i64 (k:Int))).run Tryz.prog W = .ok (.string ⟨(lT.getD k []).toArray⟩) W:=by
 intro W
 have:k=0∨k=1∨k=2∨k=3∨k=4∨k=5∨k=6∨k=7∨k=8∨k=9∨k=10∨k=11∨k=12∨k=13∨k=14∨k=15∨k=16∨k=17∨k=18∨k=19∨k=20∨k=21:=by omega
 rcases this with rfl | rfl | rfl | rfl | rfl | rfl | rfl | rfl | rfl | rfl | rfl | rfl | rfl | rfl | rfl | rfl | rfl | rfl | rfl | rfl | rfl | rfl
 all_goals
  show _=_
  kernel_rfl
theorem JE (k:Nat) (hk:k < 29):∀ W,(Instr.index 189 (.agg (Df eE)) (.int .i64 (k:Int))).run Tryz.prog W = .ok (.string ⟨(eE.getD k []).toArray⟩) W:=by
 intro W
 have:k=0∨k=1∨k=2∨k=3∨k=4∨k=5∨k=6∨k=7∨k=8∨k=9∨k=10∨k=11∨k=12∨k=13∨k=14∨k=15∨k=16∨k=17∨k=18∨k=19∨k=20∨k=21∨k=22∨k=23∨k=24∨k=25∨k=26∨k=27∨k=28:=by omega
 rcases this with rfl | rfl | rfl | rfl | rfl | rfl | rfl | rfl | rfl | rfl | rfl | rfl | rfl | rfl | rfl | rfl | rfl | rfl | rfl | rfl | rfl | rfl | rfl | rfl | rfl | rfl | rfl | rfl | rfl
 all_goals
  show _=_
  kernel_rfl
def kH (s:List UInt8):Bool:=lT.any (s == ·)
def sg (s:List UInt8) (k:Nat):Bool:=(lT.drop k).any (s == ·)
theorem A6 (s:List UInt8) (k:Nat) (hk:k < 22):sg s k=(s == lT.getD k [] || sg s (k+1)):=by
 unfold sg
 have:lT.drop k=lT.getD k [] :: lT.drop (k+1):=by
  have h:k < lT.length:=hk
  rw [List.drop_eq_getElem_cons h]
  simp [List.getD,h]
 rw [this,List.any_cons]
set_option maxRecDepth 100000 in
set_option maxHeartbeats 400000 in
theorem Mw (s:ByteArray) (w:World) (ht:qo w):Calls Tryz.prog 158 #[.string s] w fun e w'=>e = .returned (.bool (kH s.data.toList))∧w=w':=by
 obtain ⟨t,fr,uh⟩:=ht.keys
 have HK:=Lib.hid uh
 clear uh ht
 have hi:=Mv
 generalize hkv:Df lT=kv at HK hi
 have dJ:(Tryz.prog.info? 198).map (·.size)=some kv.size:=by rw [← hkv];kernel_rfl
 have HS:=Lib.hid dJ
 have HI:=Lib.hid hi
 clear hkv dJ hi
 go_enter Tryz.func158,Tryz.ntmps158
 go_wp2_with (refine wpList_load_row rfl 198 _ rfl 1 rfl _ kv _ _ HK.out Tryz.underlying198 rfl HS.out ?_)
 go_loop [6] (fun i=>∃ k:Nat,i = .int .i64 k∧k≤22∧Hid (kH s.data.toList=sg s.data.toList k)) (fun i=>(22 - intOf i).toNat)
 case atStart=>exact ⟨0,rfl,by omega,Lib.hid rfl⟩
 case round =>
  obtain ⟨k,rfl,hk,HR⟩:=hrel
  by_cases au:k < 22
  ·have Yw:=HI.out k au
   have jW:=A6 s.data.toList k au
   generalize lT.getD k []=q at Yw jW
   have HJ:=Lib.hid jW
   clear jW
   by_cases hq:q=s.data.toList
   ·have e:(q == s.toList)=true:=by rw [ByteArray.toList_eq];simpa using hq
    have HQ:=Lib.hid hq
    clear hq
    go_wp2_with fail
    go_ret
    exact ⟨by rw [HR.out,HJ.out,HQ.out];simp,rfl⟩
   ·have e:(q == s.toList)=false:=by rw [ByteArray.toList_eq];simpa using hq
    have e2:(s.data.toList == q)=false:=by simpa using fun h=>hq h.symm
    have HQ:=Lib.hid e2
    clear hq e2
    go_wp2_with fail
    go_round
    case rel=>exact ⟨k+1,by go_num,by omega,Lib.hid (by rw [HR.out,HJ.out,HQ.out];rfl)⟩
    case measure=>simp [intOf];omega
  ·have e:sg s.data.toList k=false:=by
    rw [show k=22 by omega]
    rfl
   have HE:=Lib.hid e
   clear e
   go_wp2_with fail
   go_ret
   exact ⟨by rw [HR.out,HE.out];rfl,rfl⟩
end Go.Proofs.YtnfnbjjnjjdjdaaGreatDoor
namespace Go.Proofs.YtnfnbjjnjjdjdaaGreatDoor
open Go.RowKit Go.Av Go.Ab
def tI (l:List (List UInt8)):List D:=l.map .str
theorem ux {w:World} {g:Nat} {l:List (List UInt8)} {t:TypeId} {fr:Nat × Nat} (h:w.heap[g]? = some (.cells (Df l) t fr)) (hs:l.all (fun s=>decide (s.length≤9223372036854775807))=true) (q:Nat) (hq:q < (tI l).length):∃ v,Ck (tI l)[q]=some v∧w.cell? ⟨g,q,none⟩=some v:=by
 have Ar:q < l.length:=by simpa [tI] using hq
 have m8:=of_decide_eq_true (List.all_eq_true.1 hs l[q] (List.getElem_mem Ar))
 refine ⟨.string ⟨(l[q]).toArray⟩,?_,?_⟩
 ·simp [tI,Ck,m8]
 ·simp [World.cell?,h,Df,Ar]
def Wn (g:Nat):Option (List D):=bif g == 0 then some (tI eE) else bif g == 1 then some (tI lT) else none
def av:Inv:=⟨qo,1+0+1,Wn,by
 intro w g row h hg
 unfold Wn at hg
 by_cases e:(g == 0)=true
 ·rw [e,cond_true] at hg
  obtain rfl:=Option.some.inj hg
  obtain rfl:=eq_of_beq e
  obtain ⟨t,fr,h1⟩:=h.Dg
  exact ⟨by decide,fun q hq=>ux h1 (by kernel_rfl) q hq⟩
 ·rw [Bool.eq_false_iff.2 e,cond_false] at hg
  by_cases e:(g == 1)=true
  ·rw [e,cond_true] at hg
   obtain rfl:=Option.some.inj hg
   obtain rfl:=eq_of_beq e
   obtain ⟨t,fr,h1⟩:=h.keys
   exact ⟨by decide,fun q hq=>ux h1 (by kernel_rfl) q hq⟩
  ·rw [Bool.eq_false_iff.2 e,cond_false] at hg
   cases hg⟩
end Go.Proofs.YtnfnbjjnjjdjdaaGreatDoor
namespace Go.Proofs.YtnfnbjjnjjdjdaaGreatDoor
open Go.RowKit Go.Av
theorem oT (c x:UInt8) (r:List UInt8):Lib.indexByte (c :: r) x=if c == x then 0 else if Lib.indexByte r x == -1 then -1 else Lib.indexByte r x+1:=rfl
def qD (bs:List UInt8) (x:UInt8) (k:Nat):Int:=if Lib.indexByte (bs.drop k) x == -1 then -1 else Lib.indexByte (bs.drop k) x+k
theorem F8 (bs:List UInt8) (x:UInt8):qD bs x 0=Lib.indexByte bs x:=by
 unfold qD
 rw [List.drop_zero]
 split
 ·rename_i h;exact (eq_of_beq h).symm
 ·simp
theorem JF (bs:List UInt8) (x c:UInt8) (k:Nat) (h:bs[k]? = some c) (hc:c=x):qD bs x k=k:=by
 subst hc
 unfold qD
 rw [gH h,oT]
 simp
theorem F9 (bs:List UInt8) (x c:UInt8) (k:Nat) (h:bs[k]? = some c) (hc:¬ c=x):qD bs x k=qD bs x (k+1):=by
 unfold qD
 rw [gH h,oT]
 have h0:=(Lib.indexByte_ge (bs.drop (k+1)) x)
 have oU:(c == x)=false:=by simpa using hc
 rw [oU]
 simp only [Bool.false_eq_true,if_false]
 by_cases h1:Lib.indexByte (bs.drop (k+1)) x = -1
 ·rw [h1];rfl
 ·have e1:(Lib.indexByte (bs.drop (k+1)) x == -1)=false:=by simpa using h1
  have e2:(Lib.indexByte (bs.drop (k+1)) x+1 == -1)=false:=by rw [beq_eq_false_iff_ne];omega
  rw [e1]
  simp only [Bool.false_eq_true,if_false]
  rw [e2]
  simp only [Bool.false_eq_true,if_false]
  omega
theorem JG (bs:List UInt8) (x:UInt8) (k:Nat) (h:bs.length≤k):qD bs x k = -1:=by
 unfold qD
 rw [List.drop_eq_nil_of_le h]
 rfl
set_option maxRecDepth 100000 in
set_option maxHeartbeats 400000 in
theorem Dh (g off cap:Nat) (bs:List UInt8) (x:UInt8) (w:World) (hc:∀ j u,(bv bs)[j]? = some u→w.cell? ⟨g,off+j,none⟩=some u) (hn:bs.length≤9223372036854775807) :
 Calls Tryz.prog 198 #[.slice (some ⟨g,off,none⟩) bs.length cap,.int .u8 (x.toNat:Int)] w fun e w'=>e = .returned (.int .i64 (Lib.indexByte bs x))∧w=w':=by
 have hi:∀ k:Nat,k < bs.length→∃ a,bs[k]? = some a∧w.cell? ⟨g,off+k,none⟩=some (.int .u8 (a.toNat:Int)):=by
  intro k hk
  exact ⟨bs[k],List.getElem?_eq_getElem hk,hc k _ (lS (List.getElem?_eq_getElem hk))⟩
 have HI:=Lib.hid hi
 clear hi hc
 go_enter Tryz.func198,Tryz.ntmps198
 go_wp2_with fail
 go_loop [8] (fun i=>∃ k:Nat,i = .int .i64 k∧k≤bs.length∧Hid (Lib.indexByte bs x=qD bs x k)) (fun i=>(bs.length - intOf i).toNat)
 case atStart=>exact ⟨0,rfl,by omega,Lib.hid (by rw [F8])⟩
 case round =>
  obtain ⟨k,rfl,hk,HR⟩:=hrel
  by_cases au:k < bs.length
  ·obtain ⟨a,ha,eZ⟩:=HI.out k au
   have HA:=Lib.hid ha
   clear ha
   by_cases U1:a=x
   ·have e:((x.toNat:Int) == (a.toNat:Int))=true:=by rw [U1];simp
    have HX:=Lib.hid U1
    clear U1
    go_wp2_with fail
    go_ret
    exact ⟨by rw [HR.out,JF bs x a k HA.out HX.out];rfl,rfl⟩
   ·have e:((x.toNat:Int) == (a.toNat:Int))=false:=by
     rw [beq_eq_false_iff_ne]
     intro h
     apply U1
     apply UInt8.toNat_inj.1
     omega
    have HX:=Lib.hid U1
    clear U1
    go_wp2_with fail
    go_round
    case rel=>exact ⟨k+1,by go_num,by omega,Lib.hid (by rw [HR.out,F9 bs x a k HA.out HX.out])⟩
    case measure=>simp [intOf];omega
  ·have aC:¬ (k:Int) < bs.length:=by omega
   go_wp2_with fail
   go_ret
   exact ⟨by rw [HR.out,JG bs x k (by omega)];rfl,rfl⟩
set_option maxRecDepth 100000 in
set_option maxHeartbeats 400000 in
theorem wC (g off cap:Nat) (bs:List UInt8) (x:UInt8) (w:World) (hc:∀ j u,(bv bs)[j]? = some u→w.cell? ⟨g,off+j,none⟩=some u) (hn:bs.length≤9223372036854775807) :
 Calls Tryz.prog 179 #[.slice (some ⟨g,off,none⟩) bs.length cap,.int .u8 (x.toNat:Int)] w fun e w'=>e = .returned (.bool (decide (0≤Lib.indexByte bs x)))∧w=w':=by
 have h:=Dh g off cap bs x w hc hn
 generalize Lib.indexByte bs x=r at h ⊢
 have H:=Lib.hid h
 clear h hc
 go_enter Tryz.func179,Tryz.ntmps179
 go_wp2_with fail
 refine H.out.mono ?_
 rintro e w1 ⟨rfl,rfl⟩
 go_wp2_with fail
 go_ret
 exact ⟨rfl,rfl⟩
theorem Ga (x:UInt8):decide (0≤Lib.indexByte [32,9,10,13] x)=mj x:=by
 have hx:∀ n:Nat,n < 256→decide (0≤Lib.indexByte [32,9,10,13] (UInt8.ofNat n))=mj (UInt8.ofNat n):=by decide +kernel
 have:=hx x.toNat x.toNat_lt
 simpa using this
set_option maxRecDepth 100000 in
set_option maxHeartbeats 400000 in
theorem Di (v1 v2:Value) (l1 l2:List UInt8) (w:World) (h1:(convert 57 9 v1).run Tryz.prog w = .ok (.string ⟨l1.toArray⟩) w) (h2:(convert 57 9 v2).run Tryz.prog w = .ok (.string ⟨l2.toArray⟩) w) :
 Calls Tryz.prog 180 #[v1,v2] w fun e w'=>e = .returned (.bool (l1 == l2))∧w=w':=by
 go_enter Tryz.func180,Tryz.ntmps180
 go_wp2_with fail
 go_ret
 exact ⟨by simp,rfl⟩
theorem nC (g off cap n:Nat) (bs:List UInt8) (w:World) (hlen:bs.length=n) (hc:∀ j u,(bv bs)[j]? = some u→w.cell? ⟨g,off+j,none⟩=some u) :
 (convert 57 9 (.slice (some ⟨g,off,none⟩) n cap)).run Tryz.prog w = .ok (.string ⟨bs.toArray⟩) w :=
 qv (P:=Tryz.prog) 57 5 9 Tryz.underlying57 Tryz.underlying5 Tryz.underlying9 g off cap n bs hlen hc
theorem Mx (l p:List UInt8):(l.take p.length == p)=js l p:=by
 unfold js
 rw [Bool.eq_iff_iff,beq_iff_eq,List.isPrefixOf_iff_prefix,List.prefix_iff_eq_take]
 exact eq_comm
set_option maxRecDepth 100000 in
set_option maxHeartbeats 400000 in
theorem nQ (g off n cap g2 Tx AR:Nat) (l p:List UInt8) (w:World) (hl:l.length=n) (fF:n≤cap) (_hmax:n≤9223372036854775807) (Wo:1≤p.length) (Lh:p.length≤9223372036854775807)
 (hc:∀ j u,(bv l)[j]? = some u→w.cell? ⟨g,off+j,none⟩=some u) (zb:∀ j u,(bv p)[j]? = some u→w.cell? ⟨g2,Tx+j,none⟩=some u) :
 Calls Tryz.prog 160 #[.slice (some ⟨g,off,none⟩) n cap,.slice (some ⟨g2,Tx,none⟩) p.length AR] w fun e w'=>e = .returned (.bool (js l p))∧w=w':=by
 by_cases h:p.length≤n
 ·have k1:=nC g off cap p.length (l.take p.length) w (by rw [List.length_take];omega) (F7 hc _)
  have k2:=nC g2 Tx AR p.length p w rfl zb
  have he:=Di _ _ _ _ w k1 k2
  rw [Mx] at he
  generalize js l p=r at he ⊢
  have HE:=Lib.hid he
  clear he k1 k2 hc zb hl
  have h':(p.length:Int)≤n:=by omega
  go_enter Tryz.func160,Tryz.ntmps160
  go_wp2_with fail
  refine HE.out.mono ?_
  rintro e w1 ⟨rfl,rfl⟩
  go_wp2_with fail
  go_ret
  exact ⟨rfl,rfl⟩
 ·have e:js l p=false:=by
   unfold js
   rw [Bool.eq_false_iff]
   intro e
   have:=(List.isPrefixOf_iff_prefix.1 e).length_le
   omega
  rw [e]
  clear e hc zb hl
  have h':¬ (p.length:Int)≤n:=by omega
  go_enter Tryz.func160,Tryz.ntmps160
  go_wp2_with fail
  go_ret
  exact ⟨rfl,rfl⟩
theorem zD (l:List UInt8) (c:UInt8) (r:List UInt8) (h:l=c :: r):js l [47,47]=true↔(c.toNat=47∧r.head? = some 47):=by
 subst h
 unfold js
 rw [List.isPrefixOf_iff_prefix]
 constructor
 ·rintro ⟨t,ht⟩
  simp at ht
  obtain ⟨rfl,rfl⟩:=ht
  exact ⟨rfl,rfl⟩
 ·rintro ⟨h1,h2⟩
  have hc:c=47:=UInt8.toNat_inj.1 h1
  subst hc
  cases r with
  | nil=>simp at h2
  | cons d t=>simp at h2;subst h2;exact ⟨t,rfl⟩
theorem JH (w:World):Calls Tryz.prog 153 #[.slice none 0 0,.int .i64 0] w fun e w'=>e = .returned (.int .i64 0)∧w=w':=by
 go_enter Tryz.func153,Tryz.ntmps153
 go_wp2_with fail
 refine wp_loop_rounds 1 ?_
 rw [rounds_succ]
 go_wp2_with fail
 go_ret
 exact ⟨rfl,rfl⟩
theorem cO (w:World) (o:Obj) (a:Addr) (h:a.block < w.heap.size):(w.alloc o).cell? a=w.cell? a:=World.cell?_of_block (Below.heap_alloc w o a.block h)
theorem zE (w:World) (bs:List UInt8) (e:TypeId):∀ j u,(bv bs)[j]? = some u→(w.alloc (.cells (bv bs).toArray e)).cell? ⟨w.heap.size,0+j,none⟩=some u:=Lw w (bv bs) e
set_option maxRecDepth 100000 in
set_option maxHeartbeats 1000000 in
theorem lU (g off cap:Nat) (bs:List UInt8) (k0:Nat) (w:World) (hg:g < w.heap.size) (fF:bs.length≤cap) (qP:bs.length≤9223372036854775807) (hk0:k0≤bs.length)
 (hc:∀ j u,(bv bs)[j]? = some u→w.cell? ⟨g,off+j,none⟩=some u) :
 Calls Tryz.prog 153 #[.slice (some ⟨g,off,none⟩) bs.length cap,.int .i64 (k0:Int)] w fun e w'=>e = .returned (.int .i64 (fJ bs k0:Int))∧Below w.heap.size w w':=by
 have HC:=Lib.hid hc
 clear hc
 go_enter Tryz.func153,Tryz.ntmps153
 go_wp2_with fail
 go_loopw [1] (fun i wr=>∃ k:Nat,i = .int .i64 k∧k≤bs.length∧Hid (eU false (bs.drop k0)=eU false (bs.drop k))∧Below w.heap.size w wr) (fun i _=>(bs.length - intOf i).toNat)
 case atStart=>exact ⟨k0,rfl,hk0,Lib.hid rfl,Below.refl _ _⟩
 case round =>
  obtain ⟨k,rfl,hk,HR,hb⟩:=hrel
  have dJ:=hb.size
  by_cases au:k < bs.length
  ·have aC:(k:Int) < bs.length:=by omega
   obtain ⟨a,ha⟩:∃ a,bs[k]? = some a:=⟨bs[k],List.getElem?_eq_getElem au⟩
   have eZ:wr.cell? ⟨g,off+k,none⟩=some (.int .u8 (a.toNat:Int)):=by rw [hb.cell (p:=⟨g,off+k,none⟩) hg];exact HC.out k _ (lS ha)
   have acd:k < cap:=by omega
   have OG:∀ o:Obj,(wr.alloc o).cell? ⟨g,off+k,none⟩=some (.int .u8 (a.toNat:Int)):=fun o=>by rw [cO _ _ _ (show g < wr.heap.size by omega)];exact eZ
   have HD:=Lib.hid (gH ha)
   have HA:=Lib.hid ha
   clear ha
   have h4:=wC wr.heap.size 0 4 [32,9,10,13] a (wr.alloc (.cells #[.int .u8 32,.int .u8 9,.int .u8 10,.int .u8 13] 5)) (zE wr [32,9,10,13] _) (by decide)
   rw [Ga] at h4
   by_cases hw:mj a=true
   ·rw [hw] at h4
    have HW:=Lib.hid hw
    clear hw
    go_wp2_with fail
    refine h4.mono ?_
    rintro e w1 ⟨rfl,rfl⟩
    go_wp2_with fail
    go_roundw
    case rel=>exact ⟨k+1,by go_num,by omega,Lib.hid (by rw [HR.out,HD.out,F3 _ _ HW.out]),hb.alloc dJ _⟩
    case measure=>simp [intOf];omega
   ·rw [Bool.not_eq_true] at hw
    rw [hw] at h4
    have HW:=Lib.hid hw
    clear hw
    go_wp2_with fail
    refine h4.mono ?_
    rintro e w1 ⟨rfl,rfl⟩
    go_wp2_with fail
    have ZT:∀ j u,(bv bs)[j]? = some u→wr.cell? ⟨g,off+j,none⟩=some u:=fun j u hu=>by rw [hb.cell (p:=⟨g,off+j,none⟩) hg];exact HC.out j u hu
    have zb:∀ j u,(bv (bs.drop k))[j]? = some u→((wr.alloc (.cells #[.int .u8 32,.int .u8 9,.int .u8 10,.int .u8 13] 5)).alloc (.cells #[.int .u8 47,.int .u8 47] 5)).cell? ⟨g,off+k+j,none⟩=some u:=by
     intro j u hu
     rw [cO _ _ _ (show g < (wr.alloc _).heap.size by simp;omega),cO _ _ _ (show g < wr.heap.size by omega)]
     exact F6 ZT k j u hu
    have hc3:∀ j u,(bv [47,47])[j]? = some u→((wr.alloc (.cells #[.int .u8 32,.int .u8 9,.int .u8 10,.int .u8 13] 5)).alloc (.cells #[.int .u8 47,.int .u8 47] 5)).cell? ⟨wr.heap.size+1,0+j,none⟩=some u:=by
     have:=zE (wr.alloc (.cells #[.int .u8 32,.int .u8 9,.int .u8 10,.int .u8 13] 5)) [47,47] 5
     rw [show (wr.alloc (.cells #[.int .u8 32,.int .u8 9,.int .u8 10,.int .u8 13] 5)).heap.size=wr.heap.size+1 from by simp] at this
     exact this
    have tJ:=nQ g (off+k) (bs.length - k) (cap - k) (wr.heap.size+1) 0 2 (bs.drop k) [47,47] _ (by rw [List.length_drop]) (by omega) (by omega) (by decide) (by decide) zb hc3
    clear zb hc3
    have E9:=(hb.alloc dJ (.cells #[.int .u8 32,.int .u8 9,.int .u8 10,.int .u8 13] 5)).alloc (Nat.le_trans dJ (by simp)) (.cells #[.int .u8 47,.int .u8 47] 5)
    by_cases hs:js (bs.drop k) [47,47]=true
    ·rw [hs] at tJ
     have m8:=(zD _ _ _ HD.out).1 hs
     have HS:=Lib.hid (JB a (bs.drop (k+1)) m8.1 m8.2)
     have Wp:=m8.1
     clear hs m8
     refine tJ.mono ?_
     rintro e w1 ⟨rfl,rfl⟩
     have qE:∀ j u,(bv bs)[j]? = some u→((wr.alloc (.cells #[.int .u8 32,.int .u8 9,.int .u8 10,.int .u8 13] 5)).alloc (.cells #[.int .u8 47,.int .u8 47] 5)).cell? ⟨g,off+j,none⟩=some u:=by
      intro j u hu
      rw [cO _ _ _ (show g < (wr.alloc _).heap.size by simp;omega),cO _ _ _ (show g < wr.heap.size by omega)]
      exact ZT j u hu
     have HCA:=Lib.hid qE
     have HAA:=Lib.hid Wp
     clear qE ZT OG eZ h4 tJ Wp
     generalize U2:(wr.alloc (.cells #[.int .u8 32,.int .u8 9,.int .u8 10,.int .u8 13] 5)).alloc (.cells #[.int .u8 47,.int .u8 47] 5)=w2 at HCA E9 ⊢
     clear U2
     go_wp2_with fail
     go_loop [1] (fun i=>∃ m:Nat,i = .int .i64 m∧k≤m∧m≤bs.length∧Hid (eU false (bs.drop k)=eU true (bs.drop m))) (fun i=>(bs.length - intOf i).toNat)
     case atStart=>exact ⟨k,rfl,by omega,by omega,Lib.hid (by rw [HD.out,HS.out])⟩
     case round =>
      obtain ⟨m,rfl,hkm,hm,HM⟩:=hrel
      by_cases hml:m < bs.length
      ·have ZU:(m:Int) < bs.length:=by omega
       obtain ⟨d,hd⟩:∃ d,bs[m]? = some d:=⟨bs[m],List.getElem?_eq_getElem hml⟩
       have Tz:w2.cell? ⟨g,off+m,none⟩=some (.int .u8 (d.toNat:Int)):=HCA.out m _ (lS hd)
       have ZV:=Lib.hid (gH hd)
       have HD1:=Lib.hid hd
       clear hd
       by_cases B8:d.toNat=10
       ·have cm:((d.toNat:Int) != 10)=false:=by simp;omega
        have HT:=Lib.hid B8
        clear B8
        have aer:k < m:=by
         rcases Nat.lt_or_ge k m with h | h
         ·exact h
         ·exfalso
          have ZW:k=m:=by omega
          subst ZW
          have:=HA.out
          rw [HD1.out] at this
          injection this with this
          have h1:=HT.out
          have h2:=HAA.out
          rw [this] at h1
          omega
        go_wp2_with fail
        first
         | exact ⟨⟨m,rfl,hm,Lib.hid (by rw [HR.out,HM.out,ZV.out,zB _ _ HT.out]),E9⟩,by simp [intOf];omega⟩
         | (go_roundw;(case rel=>exact ⟨m,rfl,hm,Lib.hid (by rw [HR.out,HM.out,ZV.out,zB _ _ HT.out]),E9⟩);(case measure=>simp [intOf];omega))
       ·have cm:((d.toNat:Int) != 10)=true:=by simp;omega
        have HT:=Lib.hid B8
        clear B8
        go_wp2_with fail
        go_round
        case rel=>exact ⟨m+1,by go_num,by omega,by omega,Lib.hid (by rw [HM.out,ZV.out,PN _ _ HT.out])⟩
        case measure=>simp [intOf];omega
      ·have ZU:¬ (m:Int) < bs.length:=by omega
       have e:bs.drop m=[]:=List.drop_eq_nil_of_le (by omega)
       have HE:=Lib.hid e
       clear e
       go_wp2_with fail
       first
        | exact ⟨⟨m,rfl,hm,Lib.hid (by rw [HR.out,HM.out,HE.out];rfl),E9⟩,by simp [intOf];omega⟩
        | (go_roundw;(case rel=>exact ⟨m,rfl,hm,Lib.hid (by rw [HR.out,HM.out,HE.out];rfl),E9⟩);(case measure=>simp [intOf];omega))
    ·have ZX:=hs
     rw [Bool.not_eq_true] at ZX
     rw [ZX] at tJ
     have RT:eU false (bs.drop k0)=bs.drop k:=by
      rw [HR.out,HD.out]
      exact JC a _ (by rw [HW.out];exact Bool.false_ne_true) (fun h=>hs ((zD _ _ _ HD.out).2 h))
     have HW2:=Lib.hid (wB bs k0 k hk RT)
     clear hs ZX RT
     refine tJ.mono ?_
     rintro e w1 ⟨rfl,rfl⟩
     go_wp2_with fail
     go_ret
     exact ⟨by rw [HW2.out];rfl,E9⟩
  ·have aC:¬ (k:Int) < bs.length:=by omega
   go_wp2_with fail
   go_ret
   exact ⟨by rw [wB bs k0 k hk (by rw [HR.out,List.drop_eq_nil_of_le (by omega)];rfl)];rfl,hb⟩
theorem cI (W:World) (b i j:Nat) (v:Value) (h:¬ i=j):(W.setCell ⟨b,i,none⟩ v).cell? ⟨b,j,none⟩=W.cell? ⟨b,j,none⟩ :=
 World.cell?_setCell_other W ⟨b,i,none⟩ ⟨b,j,none⟩ v (fun e=>h (congrArg Addr.off e))
def ku (l:List UInt8):Nat:=l.foldl (fun n c=>n * 10+(c.toNat - 48)) 0
theorem JI (l:List UInt8) (c:UInt8):ku (l++[c])=ku l * 10+(c.toNat - 48):=by simp [ku]
theorem A7 (l:List UInt8) (k:Nat):ku (l.take k)≤ku l:=by
 have h:∀ (r:List UInt8) (n:Nat),n≤r.foldl (fun n c=>n * 10+(c.toNat - 48)) n:=by
  intro r
  induction r with
  | nil=>intro n;exact Nat.le_refl _
  | cons c r ih =>
   intro n
   rw [List.foldl_cons]
   exact Nat.le_trans (by omega) (ih _)
 have e:ku l=(l.drop k).foldl (fun n c=>n * 10+(c.toNat - 48)) (ku (l.take k)):=by
  unfold ku
  rw [← List.foldl_append,List.take_append_drop]
 rw [e]
 exact h _ _
def Dj:Nat:=18446744073709551615
structure bJ where
 kind:Nat
 text:List UInt8
 int:Nat
 at':Nat
 next:Nat
def bJ.zero:bJ:=⟨0,[],0,0,0⟩
def bJ.cells (x:bJ):Array Value:=#[.int .i64 (x.kind:Int),.string ⟨x.text.toArray⟩,.int .u64 (x.int:Int),.int .i64 (x.at':Int),.int .i64 (x.next:Int)]
def gZ (bs:List UInt8) (k:Nat):List UInt8:=(bs.drop k).take (fj cj bs k - k)
def cP (bs:List UInt8) (k:Nat):Bool :=
 decide (ku (gZ bs k)≤Dj) && !(decide (fj cj bs k < bs.length) && dx (bs.getD (fj cj bs k) 0)) && !(decide (k+1 < fj cj bs k) && decide (bs.getD k 0=48))
def kz (bs:List UInt8) (k:Nat):bJ:=⟨2,gZ bs k,ku (gZ bs k),k,fj cj bs k⟩
def iQ (bs:List UInt8) (k:Nat) (w:World) (e:Ending) (w':World):Prop :=
 e = .returned (.tuple #[.agg (if cP bs k=true then kz bs k else bJ.zero).cells,.bool (cP bs k)])∧Below w.heap.size w w'
theorem iQ.no {bs:List UInt8} {k:Nat} {w w':World} (h:cP bs k=false) (hb:Below w.heap.size w w'):iQ bs k w (.returned (.tuple #[.agg #[.int .i64 0,.string ⟨#[]⟩,.int .u64 0,.int .i64 0,.int .i64 0],.bool false])) w':=by
 unfold iQ
 rw [h]
 exact ⟨rfl,hb⟩
theorem iQ.yes {bs:List UInt8} {k:Nat} {w w':World} (h:cP bs k=true) (hb:Below w.heap.size w w'):iQ bs k w (.returned (.tuple #[.agg (kz bs k).cells,.bool true])) w':=by
 unfold iQ
 rw [h]
 exact ⟨rfl,hb⟩
theorem A8 {bs:List UInt8} {k:Nat} (h:¬ ku (gZ bs k)≤Dj):cP bs k=false:=by
 unfold cP
 rw [decide_eq_false h]
 rfl
set_option maxRecDepth 100000 in
set_option maxHeartbeats 1000000 in
theorem My (g off cap:Nat) (bs:List UInt8) (k:Nat) (w:World) (hg:g < w.heap.size) (fF:bs.length≤cap) (qP:cap≤9223372036854775807) (hk:k < bs.length)
 (hc:∀ j u,(bv bs)[j]? = some u→w.cell? ⟨g,off+j,none⟩=some u) :
 Calls Tryz.prog 159 #[.slice (some ⟨g,off,none⟩) bs.length cap,.int .i64 (k:Int)] w (iQ bs k w):=by
 have Mz:∀ (args:Array Value) (w:World),(callFunc 157 args).run Tryz.prog w = .ok (.enter 157 args) w:=by
  intro args w
  simp [go_sem]
 have A9:=fun W hv=>zC 157 cj Mz (fun c w=>r9 c _ rfl w) (w.heap.size+1) (.slice (some ⟨g,off,none⟩) bs.length cap) bs k W hv (by omega) (by omega)
 have U3:=De cj bs k (by omega)
 have VI:(gZ bs k).length=fj cj bs k - k:=by
  unfold gZ
  rw [List.length_take,List.length_drop]
  omega
 have Tz:∀ j:Nat,j < fj cj bs k - k→∃ a,(gZ bs k)[j]? = some a∧cj a=true∧w.cell? ⟨g,off+k+j,none⟩=some (.int .u8 (a.toNat:Int)):=by
  intro j hj
  have ZH:k+j < bs.length:=by omega
  have uT:bs[k+j]? = some bs[k+j]:=List.getElem?_eq_getElem ZH
  refine ⟨bs[k+j],?_,?_,?_⟩
  ·unfold gZ
   rw [List.getElem?_take,if_pos hj,List.getElem?_drop,uT]
  ·have OY:=List.all_takeWhile (p:=cj) (l:=bs.drop k)
   have tJ:=List.takeWhile_prefix cj (l:=bs.drop k)
   have hlen:((bs.drop k).takeWhile cj).length=fj cj bs k - k:=by unfold fj;omega
   have Fg:((bs.drop k).takeWhile cj)[j]? = some bs[k+j]:=by
    rw [List.prefix_iff_eq_take.1 tJ,List.getElem?_take,if_pos (by omega),List.getElem?_drop,uT]
   exact List.all_eq_true.1 OY _ (List.mem_of_getElem? Fg)
  ·have:=hc (k+j) _ (lS uT)
   rw [show off+k+j=off+(k+j) by omega]
   exact this
 have ZY:cP bs k=cP bs k:=rfl
 generalize Wq:fj cj bs k=e at *
 generalize hdg:gZ bs k=ds at *
 have HWH:=Lib.hid A9
 have HDC:=Lib.hid Tz
 have ZZ:=Lib.hid VI
 have Wr:=Lib.hid Wq
 have Z0:=Lib.hid hdg
 clear Mz A9 Tz VI ZY Wq hdg
 have HC:=Lib.hid hc
 clear hc
 have ZA:(k:Int)≤e:=by omega
 have heb:(e:Int)≤bs.length:=by omega
 have hkc:k < cap:=by omega
 go_enter Tryz.func159,Tryz.ntmps159
 go_wp2_with fail
 refine (HWH.out _ ?_).mono ?_
 ·exact .inr ⟨g,off,cap,rfl,by omega,fF,by unfold maxLen;omega,fun j u hu=>by rw [cO _ _ _ hg];exact HC.out j u hu⟩
 rintro e' w1 ⟨rfl,rfl⟩
 go_wp2_with fail
 obtain ⟨m,hm⟩:∃ m,e - k=m:=⟨_,rfl⟩
 rw [hm]
 have HM:=Lib.hid hm
 clear hm
 have hmb:m≤9223372036854775807:=by have:=HM.out;omega
 have hmc:m≤cap - k:=by have:=HM.out;omega
 go_loop [7,19] (fun n i=>∃ j:Nat,i = .int .i64 j∧j≤m∧n = .int .u64 (ku (ds.take j):Int)∧Hid (ku (ds.take j)≤Dj)) (fun _ i=>(m - intOf i).toNat)
 case atStart=>exact ⟨0,rfl,by omega,rfl,by unfold Hid Dj;simp [ku]⟩
 case round =>
  obtain ⟨j,rfl,hj,rfl,HV⟩:=hrel
  by_cases au:j < m
  ·obtain ⟨a,ha,had,YE⟩:=HDC.out j (by have:=HM.out;omega)
   have OG:∀ o:Obj,(w.alloc o).cell? ⟨g,off+k+j,none⟩=some (.int .u8 (a.toNat:Int)):=fun o=>by rw [cO _ _ _ hg];exact YE
   have jW:ku (ds.take (j+1))=ku (ds.take j) * 10+(a.toNat - 48):=by
    obtain ⟨hl,rfl⟩:=List.getElem?_eq_some_iff.1 ha
    rw [List.take_succ_eq_append_getElem hl,JI]
   have hb:=of_decide_eq_true had
   obtain ⟨d,hd⟩:∃ d,a.toNat=48+d:=⟨a.toNat - 48,by omega⟩
   have hd9:d≤9:=by omega
   have Ws:(a.toNat:Int)=48+d:=by omega
   have HJ:Hid (ku (ds.take (j+1))=ku (ds.take j) * 10+d):=by unfold Hid;rw [jW,hd];omega
   rw [Ws] at OG
   generalize ku (ds.take j)=n at HV HJ ⊢
   clear YE ha had jW hb hd Ws
   have hjm:(j:Int) < m:=by omega
   by_cases hov:(18446744073709551615 - (48+(d:Int) - 48)) / 10 < (n:Int)
   ·have AM:cP bs k=false:=by
     refine A8 ?_
     rw [Z0.out]
     have h1:=A7 ds (j+1)
     rw [HJ.out] at h1
     have h2:Dj=18446744073709551615:=rfl
     omega
    go_wp2_with fail
    refine bodyPost_ret (v:=.tuple #[.agg #[.int .i64 0,.string ⟨#[]⟩,.int .u64 0,.int .i64 0,.int .i64 0],.bool false]) (by simp [results,Tryz.results159,go_sem]) rfl (iQ.no AM ?_)
    exact (Below.refl _ _).alloc (Nat.le_refl _) _
   ·have Le:ku (ds.take (j+1))≤Dj:=by
     rw [HJ.out]
     unfold Dj
     omega
    have HV2:=Lib.hid Le
    clear Le
    have hnn:(n:Int) * 10+d≤18446744073709551615:=by omega
    go_wp2_with fail
    exact ⟨⟨j+1,by go_num,by omega,by rw [HJ.out];congr 1;omega,HV2⟩,by simp [intOf];omega⟩
  ·obtain rfl:j=m:=by omega
   have MA:ds.take j=ds:=List.take_of_length_le (by have:=ZZ.out;have:=HM.out;omega)
   rw [MA] at HV
   rw [MA]
   have RU:bs[k]? = some (bs.getD k 0):=by rw [List.getD_eq_getElem?_getD,List.getElem?_eq_getElem hk];rfl
   have hcK:∀ o:Obj,(w.alloc o).cell? ⟨g,off+k,none⟩=some (.int .u8 ((bs.getD k 0).toNat:Int)):=fun o=>by rw [cO _ _ _ hg];exact HC.out k _ (lS RU)
   have hcE:e < bs.length→∀ o:Obj,(w.alloc o).cell? ⟨g,off+e,none⟩=some (.int .u8 ((bs.getD e 0).toNat:Int)):=fun h o=>by
    have Wt:bs[e]? = some (bs.getD e 0):=by rw [List.getD_eq_getElem?_getD,List.getElem?_eq_getElem h];rfl
    rw [cO _ _ _ hg]
    exact HC.out e _ (lS Wt)
   have Z6:cP bs k=(!(decide (e < bs.length) && dx (bs.getD e 0)) && !(decide (k+1 < e) && decide (bs.getD k 0=48))):=by
    unfold cP
    rw [Z0.out,Wr.out,decide_eq_true HV.out]
    rfl
   have hW:kz bs k=⟨2,ds,ku ds,k,e⟩:=by
    unfold kz
    rw [Z0.out,Wr.out]
   have Wu:(decide (bs.getD k 0=48))=decide (((bs.getD k 0).toNat:Int)=48):=by
    apply decide_eq_decide.2
    constructor
    ·intro h;rw [h];rfl
    ·intro h
     apply UInt8.toNat.inj
     show _=48
     omega
   rw [Wu] at Z6
   have RV:∀ o:Obj,(convert 57 9 (.slice (some ⟨g,off+k,none⟩) (e - k) (cap - k))).run Tryz.prog (w.alloc o) = .ok (.string ⟨ds.toArray⟩) (w.alloc o):=by
    intro o
    refine nC g (off+k) (cap - k) (e - k) ds _ (by have:=ZZ.out;have:=HM.out;omega) ?_
    intro i u hu
    have hi:i < j:=by
     have:=(List.getElem?_eq_some_iff.1 hu).1
     have h2:(bv ds).length=ds.length:=by simp [bv]
     have:=ZZ.out
     have:=HM.out
     omega
    obtain ⟨a,ha,_,YE⟩:=HDC.out i (by have:=HM.out;omega)
    rw [cO _ _ _ hg,YE]
    rw [lS ha] at hu
    exact hu
   have Z7:=Lib.hid Z6
   have HW:=Lib.hid hW
   have Z8:=Lib.hid hcE
   have HCV:=Lib.hid RV
   have aex:((bs.getD k 0).toNat:Int) < 256:=by have:=(bs.getD k 0).toNat_lt;omega
   clear MA RU hcE Z6 hW Wu RV
   generalize bs.getD k 0=cK at *
   generalize bs.getD e 0=cE at *
   generalize ku ds=vd at *
   by_cases yC:e < bs.length∧dx cE=true
   ·obtain ⟨he,hle⟩:=yC
    have Z9:=Z8.out he
    have AM:cP bs k=false:=by
     rw [Z7.out,decide_eq_true he,hle]
     rfl
    have zg:(e:Int) < bs.length:=by omega
    have YF:e < cap:=by omega
    clear he
    go_wp2_with fail
    refine (kG cE _ rfl _).mono ?_
    rintro e' w1 ⟨rfl,rfl⟩
    rw [hle]
    go_wp2_with fail
    refine bodyPost_ret (v:=.tuple #[.agg #[.int .i64 0,.string ⟨#[]⟩,.int .u64 0,.int .i64 0,.int .i64 0],.bool false]) (by simp [results,Tryz.results159,go_sem]) rfl (iQ.no AM ?_)
    exact (Below.refl _ _).alloc (Nat.le_refl _) _
   ·have hE:(¬ (e:Int) < bs.length)∨((e:Int) < bs.length∧dx cE=false∧e < cap∧∀ o:Obj,(w.alloc o).cell? ⟨g,off+e,none⟩=some (.int .u8 (cE.toNat:Int))):=by
     by_cases h:e < bs.length
     ·refine .inr ⟨by omega,?_,by omega,Z8.out h⟩
      cases hx:dx cE
      ·rfl
      ·exact absurd ⟨h,hx⟩ yC
     ·exact .inl (by omega)
    have PR:cP bs k = !(decide (k+1 < e) && decide ((cK.toNat:Int)=48)):=by
     rw [Z7.out]
     have:(decide (e < bs.length) && dx cE)=false:=by
      rw [Bool.and_eq_false_iff]
      by_cases h:e < bs.length
      ·right
       cases hx:dx cE
       ·rfl
       ·exact absurd ⟨h,hx⟩ yC
      ·left
       exact decide_eq_false h
     rw [this]
     rfl
    have hT:((e:Int) > k+1∧((cK.toNat:Int) == 48)=true∧Hid (cP bs k=false))∨((e:Int) > k+1∧((cK.toNat:Int) == 48)=false∧Hid (cP bs k=true))∨(¬ (e:Int) > k+1∧Hid (cP bs k=true)):=by
     by_cases h:k+1 < e
     ·by_cases h2:(cK.toNat:Int)=48
      ·exact .inl ⟨by omega,beq_iff_eq.2 h2,by unfold Hid;rw [PR,decide_eq_true h,decide_eq_true h2];rfl⟩
      ·exact .inr (.inl ⟨by omega,beq_eq_false_iff_ne.2 h2,by unfold Hid;rw [PR,decide_eq_false h2];simp⟩)
     ·exact .inr (.inr ⟨by omega,by unfold Hid;rw [PR,decide_eq_false h];rfl⟩)
    have HT:=Lib.hid hT
    have HEE:=Lib.hid hE
    have O0:=HCV.out
    clear hT hE PR yC Z8 Z7
    rcases HT.out with ⟨t1,t2,HN⟩ | ⟨t1,t2,HN⟩ | ⟨t1,HN⟩
    all_goals
     clear HT
     rcases HEE.out with he | ⟨he,hle,YF,Z9⟩
     all_goals
      clear HEE
      go_wp2_with fail
      try (refine (kG cE _ rfl _).mono ?_;rintro e' w1 ⟨rfl,rfl⟩;rw [hle];go_wp2_with fail)
      first
       | exact bodyPost_ret (v:=.tuple #[.agg #[.int .i64 0,.string ⟨#[]⟩,.int .u64 0,.int .i64 0,.int .i64 0],.bool false]) (by simp [results,Tryz.results159,go_sem]) rfl (iQ.no HN.out ((Below.refl _ _).alloc (Nat.le_refl _) _))
       | (refine bodyPost_ret (v:=.tuple #[.agg (kz bs k).cells,.bool true]) ?_ rfl (iQ.yes HN.out ?_);(· rw [HW.out];simp [results,Tryz.results159,bJ.cells,go_sem]);exact (Below.refl _ _).alloc (Nat.le_refl _) _)
def Gb (l:List UInt8):Option (List UInt8):=eE.find? fun s=>js l s
def tK (bs:List UInt8) (p e:Nat):List UInt8:=(bs.drop p).take (e - p)
def gP (bs:List UInt8) (p:Nat):bJ × Nat :=
 if p=bs.length then (⟨0,[],0,p,p⟩,0)
 else if dx (bs.getD p 0)=true then (⟨if kH (tK bs p (fj oS bs p))=true then 4 else 1,tK bs p (fj oS bs p),0,p,fj oS bs p⟩,0)
 else if cj (bs.getD p 0)=true then (if cP bs p=true then (kz bs p,0) else (bJ.zero,50))
 else match Gb (bs.drop p) with
  | some s=>(⟨3,s,0,p,p+s.length⟩,0)
  | none=>(bJ.zero,50)
def fk (bs:List UInt8) (i:Int):bJ × Nat:=if i < 0∨i > bs.length then (bJ.zero,2) else gP bs (fJ bs i.toNat)
def Dk (r:bJ × Nat) (w:World) (e:Ending) (w':World):Prop:=e = .returned (.tuple #[.agg r.1.cells,.int .i64 (r.2:Int)])∧Below w.heap.size w w'
def yJ (W:World) (b:Nat) (v0 v1 v2 v3 v4:Value):World:=((((W.setCell ⟨b,0,none⟩ v0).setCell ⟨b,1,none⟩ v1).setCell ⟨b,2,none⟩ v2).setCell ⟨b,3,none⟩ v3).setCell ⟨b,4,none⟩ v4
def dM (w:World):World:=w.alloc (.cells #[.int .i64 0,.string ⟨#[]⟩,.int .u64 0,.int .i64 0,.int .i64 0] 112)
theorem cW (w:World):(dM w).heap.size=w.heap.size+1:=by simp [dM]
theorem iR (w:World):Below w.heap.size w (dM w):=(Below.refl _ _).alloc (Nat.le_refl _) _
theorem jt (w W:World) (hb:Below (dM w).heap.size (dM w) W) (v0 v1 v2 v3 v4:Value) :
 (yJ W w.heap.size v0 v1 v2 v3 v4).cell? ⟨w.heap.size,0,none⟩=some v0∧(yJ W w.heap.size v0 v1 v2 v3 v4).cell? ⟨w.heap.size,1,none⟩=some v1∧(yJ W w.heap.size v0 v1 v2 v3 v4).cell? ⟨w.heap.size,2,none⟩=some v2 ∧
 (yJ W w.heap.size v0 v1 v2 v3 v4).cell? ⟨w.heap.size,3,none⟩=some v3∧(yJ W w.heap.size v0 v1 v2 v3 v4).cell? ⟨w.heap.size,4,none⟩=some v4∧Below w.heap.size w (yJ W w.heap.size v0 v1 v2 v3 v4):=by
 have Dl:∀ k:Nat,k < 5→∃ v,W.cell? ⟨w.heap.size,k,none⟩=some v:=by
  intro k hk
  rw [hb.cell (p:=⟨w.heap.size,k,none⟩) (by rw [cW];exact Nat.lt_succ_self _)]
  simp only [dM,World.cell?,World.alloc,Array.getElem?_push_size]
  have:k=0∨k=1∨k=2∨k=3∨k=4:=by omega
  rcases this with rfl | rfl | rfl | rfl | rfl<;>exact ⟨_,rfl⟩
 obtain ⟨u0,h0⟩:=Dl 0 (by omega)
 obtain ⟨u1,h1⟩:=Dl 1 (by omega)
 obtain ⟨u2,h2⟩:=Dl 2 (by omega)
 obtain ⟨u3,h3⟩:=Dl 3 (by omega)
 obtain ⟨u4,h4⟩:=Dl 4 (by omega)
 have jc:Below w.heap.size w W:=(iR w).trans (hb.mono (by rw [cW];omega))
 unfold yJ
 refine ⟨?_,?_,?_,?_,?_,?_⟩
 ·exact (cI _ _ 4 0 _ (by decide)).trans ((cI _ _ 3 0 _ (by decide)).trans ((cI _ _ 2 0 _ (by decide)).trans ((cI _ _ 1 0 _ (by decide)).trans (World.cell?_setCell_same _ _ _ (u:=u0) (h0)))))
 ·exact (cI _ _ 4 1 _ (by decide)).trans ((cI _ _ 3 1 _ (by decide)).trans ((cI _ _ 2 1 _ (by decide)).trans (World.cell?_setCell_same _ _ _ (u:=u1) ((cI _ _ 0 1 _ (by decide)).trans (h1)))))
 ·exact (cI _ _ 4 2 _ (by decide)).trans ((cI _ _ 3 2 _ (by decide)).trans (World.cell?_setCell_same _ _ _ (u:=u2) ((cI _ _ 1 2 _ (by decide)).trans ((cI _ _ 0 2 _ (by decide)).trans (h2)))))
 ·exact (cI _ _ 4 3 _ (by decide)).trans (World.cell?_setCell_same _ _ _ (u:=u3) ((cI _ _ 2 3 _ (by decide)).trans ((cI _ _ 1 3 _ (by decide)).trans ((cI _ _ 0 3 _ (by decide)).trans (h3)))))
 ·exact World.cell?_setCell_same _ _ _ (u:=u4) ((cI _ _ 3 4 _ (by decide)).trans ((cI _ _ 2 4 _ (by decide)).trans ((cI _ _ 1 4 _ (by decide)).trans ((cI _ _ 0 4 _ (by decide)).trans h4))))
 ·exact ((((jc.setCell (Nat.le_refl _) _).setCell (Nat.le_refl _) _).setCell (Nat.le_refl _) _).setCell (Nat.le_refl _) _).setCell (Nat.le_refl _) _
theorem jP (w W:World) (hb:Below (dM w).heap.size (dM w) W) (k:Nat):W.cell? ⟨w.heap.size,k,none⟩=(w.alloc (.cells #[.int .i64 0,.string ⟨#[]⟩,.int .u64 0,.int .i64 0,.int .i64 0] 112)).cell? ⟨w.heap.size,k,none⟩ :=
 hb.cell (p:=⟨w.heap.size,k,none⟩) (by rw [cW];exact Nat.lt_succ_self _)
theorem hU (w W:World) (hb:Below (dM w).heap.size (dM w) W) (k:Nat):W.frozen? ⟨w.heap.size,k,none⟩=(w.alloc (.cells #[.int .i64 0,.string ⟨#[]⟩,.int .u64 0,.int .i64 0,.int .i64 0] 112)).frozen? ⟨w.heap.size,k,none⟩ :=
 hb.frozen (p:=⟨w.heap.size,k,none⟩) (by rw [cW];exact Nat.lt_succ_self _)
set_option maxRecDepth 100000 in
set_option maxHeartbeats 1000000 in
theorem MB (v:Value) (n:Nat) (i:Int) (w:World) (hv:∃ a cap,v = .slice a n cap) (hi:i < 0∨(¬ i < 0∧i > n)):Calls Tryz.prog 128 #[v,.int .i64 i] w (Dk (bJ.zero,2) w):=by
 obtain ⟨a,cap,rfl⟩:=hv
 rcases hi with h | ⟨h,h'⟩
 all_goals
  go_enter Tryz.func128,Tryz.ntmps128
  go_wp2_with fail
  exact bodyPost_ret (v:=.tuple #[.agg bJ.zero.cells,.int .i64 2]) (by simp [results,Tryz.results128,bJ.cells,bJ.zero,go_sem]) rfl ⟨rfl,(Below.refl _ _).alloc (Nat.le_refl _) _⟩
set_option maxRecDepth 100000 in
set_option maxHeartbeats 1000000 in
theorem take_nil (w:World):Calls Tryz.prog 128 #[.slice none 0 0,.int .i64 0] w (Dk (fk [] 0) w):=by
 go_enter Tryz.func128,Tryz.ntmps128
 go_wp2_with fail
 refine (JH _).mono ?_
 rintro e w1 ⟨rfl,rfl⟩
 go_wp2_with fail
 exact bodyPost_ret (v:=.tuple #[.agg (fk [] 0).1.cells,.int .i64 0]) (by simp [results,Tryz.results128,bJ.cells,fk,gP,fJ,JA,go_sem]) rfl ⟨rfl,(Below.refl _ _).alloc (Nat.le_refl _) _⟩
set_option maxRecDepth 100000 in
set_option maxHeartbeats 1000000 in
theorem MC (g off cap:Nat) (bs:List UInt8) (k p:Nat) (w:World) (hg:g < w.heap.size) (fF:bs.length≤cap) (qP:cap≤9223372036854775807) (hk:k≤bs.length)
 (A9:fJ bs k=p) (hc:∀ j u,(bv bs)[j]? = some u→w.cell? ⟨g,off+j,none⟩=some u) (hp:p=bs.length) :
 Calls Tryz.prog 128 #[.slice (some ⟨g,off,none⟩) bs.length cap,.int .i64 (k:Int)] w (Dk (gP bs p) w):=by
 have hr:gP bs p=(⟨0,[],0,p,p⟩,0):=by unfold gP;rw [if_pos hp]
 rw [hr]
 have TA:p≤bs.length:=by rw [← A9];exact kV bs k
 have iu:=fun W hg hc=>lU g off cap bs k W hg fF (by omega) hk hc
 rw [A9] at iu
 have qZ:=Lib.hid iu
 have HC:=Lib.hid hc
 clear iu hc A9
 have mO:(k:Int)≤bs.length:=by omega
 have hpe:((p:Int) == (bs.length:Int))=true:=beq_iff_eq.2 (by omega)
 clear hr hp
 go_enter Tryz.func128,Tryz.ntmps128
 go_wp2_with fail
 refine (qZ.out _ (by simp;omega) (fun j u hu=>by rw [cO _ _ _ hg];exact HC.out j u hu)).mono ?_
 rintro e w2 ⟨rfl,ou⟩
 have nD:Below (dM w).heap.size (dM w) w2:=ou
 clear ou
 have Li:Below w.heap.size w w2:=(iR w).trans (nD.mono (by rw [cW];omega))
 have AT:=nD.size
 rw [cW] at AT
 have eZ:∀ j u,(bv bs)[j]? = some u→w2.cell? ⟨g,off+j,none⟩=some u:=fun j u hu=>by rw [Li.cell (p:=⟨g,off+j,none⟩) hg];exact HC.out j u hu
 have OH:=Lib.hid eZ
 have HO:=Lib.hid nD
 clear eZ
 have jY:=jP w w2 HO.out
 have oV:=hU w w2 HO.out
 clear nD
 go_wp2_with fail
 obtain ⟨c0,c1,c2,c3,c4,wD⟩:=jt w w2 HO.out (.int .i64 0) (.string ⟨#[]⟩) (.int .u64 0) (.int .i64 (p:Int)) (.int .i64 (p:Int))
 change bodyPost _ _ _ _ _ (yJ w2 w.heap.size (.int .i64 0) (.string ⟨#[]⟩) (.int .u64 0) (.int .i64 (p:Int)) (.int .i64 (p:Int)))
 generalize yJ w2 w.heap.size (.int .i64 0) (.string ⟨#[]⟩) (.int .u64 0) (.int .i64 (p:Int)) (.int .i64 (p:Int))=W5 at *
 clear jY oV
 refine bodyPost_ret (v:=.tuple #[.agg (bJ.mk 0 [] 0 p p).cells,.int .i64 0]) ?_ rfl ⟨rfl,wD⟩
 simp [results,Tryz.results128,bJ.cells,c0,c1,c2,c3,c4,go_sem]
set_option maxRecDepth 100000 in
set_option maxHeartbeats 1000000 in
theorem Dm (g off cap:Nat) (bs:List UInt8) (k p:Nat) (w:World) (ht:qo w) (hg:g < w.heap.size) (fF:bs.length≤cap) (qP:cap≤9223372036854775807) (hk:k≤bs.length)
 (A9:fJ bs k=p) (hc:∀ j u,(bv bs)[j]? = some u→w.cell? ⟨g,off+j,none⟩=some u) (hp:p < bs.length) (hl:dx (bs.getD p 0)=true) :
 Calls Tryz.prog 128 #[.slice (some ⟨g,off,none⟩) bs.length cap,.int .i64 (k:Int)] w (Dk (gP bs p) w):=by
 obtain ⟨e,he⟩:∃ e,fj oS bs p=e:=⟨_,rfl⟩
 have heb:=De oS bs p (by omega)
 rw [he] at heb
 obtain ⟨tx,YG⟩:∃ tx,tK bs p e=tx:=⟨_,rfl⟩
 have htl:tx.length=e - p:=by
  rw [← YG]
  unfold tK
  rw [List.length_take,List.length_drop]
  omega
 have uy:bs[p]? = some (bs.getD p 0):=by rw [List.getD_eq_getElem?_getD,List.getElem?_eq_getElem hp];rfl
 have RW:=lS uy
 have uX:∀ j u,(bv tx)[j]? = some u→(bv bs)[p+j]? = some u:=by
  intro j u hu
  rw [← YG] at hu
  unfold tK bv at hu
  rw [List.map_take,List.map_drop,List.getElem?_take] at hu
  split at hu
  ·rw [List.getElem?_drop] at hu
   exact hu
  ·cases hu
 have Mz:∀ (args:Array Value) (w:World),(callFunc 156 args).run Tryz.prog w = .ok (.enter 156 args) w:=by
  intro args w
  simp [go_sem]
 have MD:=fun W hv=>zC 156 oS Mz (fun c w=>PO c _ rfl w) W.heap.size (.slice (some ⟨g,off,none⟩) bs.length cap) bs p W hv (by omega) (by omega)
 rw [he] at MD
 have hr:∀ b:Bool,kH tx=b→gP bs p=(⟨if b=true then 4 else 1,tx,0,p,e⟩,0):=by
  intro b hb
  unfold gP
  rw [if_neg (by omega),if_pos hl,he,YG,hb]
 have hpi:(p:Int) < bs.length:=by omega
 have hpe:((p:Int) == (bs.length:Int))=false:=beq_eq_false_iff_ne.2 (by omega)
 have YB:p < cap:=by omega
 have aey:(p:Int)≤e:=by omega
 have aez:(e:Int)≤cap:=by omega
 have TA:p≤bs.length:=by rw [← A9];exact kV bs k
 have iu:=fun W hg hc=>lU g off cap bs k W hg fF (by omega) hk hc
 rw [A9] at iu
 have qZ:=Lib.hid iu
 have HC:=Lib.hid hc
 clear iu hc A9
 have mO:(k:Int)≤bs.length:=by omega
 have Wv:=Lib.hid RW
 have TB:=Lib.hid uX
 have Ww:=Lib.hid MD
 have HR:=Lib.hid hr
 have HL:=Lib.hid hl
 have HTL:=Lib.hid htl
 clear RW uX MD hr hl htl YG he uy Mz
 generalize bs.getD p 0=c at *
 go_enter Tryz.func128,Tryz.ntmps128
 go_wp2_with fail
 refine (qZ.out _ (by simp;omega) (fun j u hu=>by rw [cO _ _ _ hg];exact HC.out j u hu)).mono ?_
 rintro e w2 ⟨rfl,ou⟩
 have nD:Below (dM w).heap.size (dM w) w2:=ou
 clear ou
 have Li:Below w.heap.size w w2:=(iR w).trans (nD.mono (by rw [cW];omega))
 have AT:=nD.size
 rw [cW] at AT
 have eZ:∀ j u,(bv bs)[j]? = some u→w2.cell? ⟨g,off+j,none⟩=some u:=fun j u hu=>by rw [Li.cell (p:=⟨g,off+j,none⟩) hg];exact HC.out j u hu
 have OH:=Lib.hid eZ
 have HO:=Lib.hid nD
 clear eZ
 have zb:w2.cell? ⟨g,off+p,none⟩=some (.int .u8 (c.toNat:Int)):=OH.out p _ Wv.out
 have uV:=ht.below Li
 clear nD
 go_wp2_with fail
 refine (kG c _ rfl _).mono ?_
 rintro e' w3 ⟨rfl,rfl⟩
 rw [HL.out]
 go_wp2_with fail
 refine (Ww.out _ ?_).mono ?_
 ·exact .inr ⟨g,off,cap,rfl,by omega,fF,by unfold maxLen;omega,OH.out⟩
 rintro e' w3 ⟨rfl,rfl⟩
 have O0:(convert 57 9 (.slice (some ⟨g,off+p,none⟩) (e - p) (cap - p))).run Tryz.prog w2 = .ok (.string ⟨tx.toArray⟩) w2:=nC g (off+p) (cap - p) (e - p) tx w2 HTL.out (fun j u hu=>by rw [show off+p+j=off+(p+j) by omega];exact OH.out _ _ (TB.out j u hu))
 go_wp2_with fail
 have FI:=fun W ht=>Mw ⟨tx.toArray⟩ W ht
 rw [show (ByteArray.mk tx.toArray).data.toList=tx by simp] at FI
 have HRS:=Lib.hid FI
 have ht3:∀ o:Obj,qo (w2.alloc o):=fun o=>uV.below ((Below.refl _ _).alloc (Nat.le_refl _) o)
 have PS:∀ o:Obj,Below (dM w).heap.size (dM w) (w2.alloc o):=fun o=>HO.out.alloc HO.out.size o
 have jY:=fun o=>jP w (w2.alloc o) (PS o)
 have oV:=fun o=>hU w (w2.alloc o) (PS o)
 have Wx:=Lib.hid PS
 clear FI PS
 refine (HRS.out _ (ht3 _)).mono ?_
 rintro e' w3 ⟨rfl,rfl⟩
 clear ht3 O0
 cases hv:kH tx
 ·have Gc:=Lib.hid (HR.out false hv)
  clear HR HRS hv
  go_wp2_with fail
  obtain ⟨c0,c1,c2,c3,c4,wD⟩:=jt w (w2.alloc (.cells #[.int .i64 1,.string ⟨tx.toArray⟩,.int .u64 0,.int .i64 (p:Int),.int .i64 (e:Int)] 112)) (Wx.out _) (.int .i64 1) (.string ⟨tx.toArray⟩) (.int .u64 0) (.int .i64 (p:Int)) (.int .i64 (e:Int))
  change bodyPost _ _ _ _ _ (yJ (w2.alloc (.cells #[.int .i64 1,.string ⟨tx.toArray⟩,.int .u64 0,.int .i64 (p:Int),.int .i64 (e:Int)] 112)) w.heap.size (.int .i64 1) (.string ⟨tx.toArray⟩) (.int .u64 0) (.int .i64 (p:Int)) (.int .i64 (e:Int)))
  generalize yJ (w2.alloc (.cells #[.int .i64 1,.string ⟨tx.toArray⟩,.int .u64 0,.int .i64 (p:Int),.int .i64 (e:Int)] 112)) w.heap.size (.int .i64 1) (.string ⟨tx.toArray⟩) (.int .u64 0) (.int .i64 (p:Int)) (.int .i64 (e:Int))=W5 at *
  clear jY oV
  refine bodyPost_ret (v:=.tuple #[.agg (bJ.mk 1 tx 0 p e).cells,.int .i64 0]) ?_ rfl ?_
  ·simp [results,Tryz.results128,bJ.cells,c0,c1,c2,c3,c4,go_sem]
  ·rw [Gc.out]
   exact ⟨rfl,wD⟩
 ·have Gc:=Lib.hid (HR.out true hv)
  clear HR HRS hv
  go_wp2_with fail
  obtain ⟨c0,c1,c2,c3,c4,wD⟩:=jt w (w2.alloc (.cells #[.int .i64 4,.string ⟨tx.toArray⟩,.int .u64 0,.int .i64 (p:Int),.int .i64 (e:Int)] 112)) (Wx.out _) (.int .i64 4) (.string ⟨tx.toArray⟩) (.int .u64 0) (.int .i64 (p:Int)) (.int .i64 (e:Int))
  change bodyPost _ _ _ _ _ (yJ (w2.alloc (.cells #[.int .i64 4,.string ⟨tx.toArray⟩,.int .u64 0,.int .i64 (p:Int),.int .i64 (e:Int)] 112)) w.heap.size (.int .i64 4) (.string ⟨tx.toArray⟩) (.int .u64 0) (.int .i64 (p:Int)) (.int .i64 (e:Int)))
  generalize yJ (w2.alloc (.cells #[.int .i64 4,.string ⟨tx.toArray⟩,.int .u64 0,.int .i64 (p:Int),.int .i64 (e:Int)] 112)) w.heap.size (.int .i64 4) (.string ⟨tx.toArray⟩) (.int .u64 0) (.int .i64 (p:Int)) (.int .i64 (e:Int))=W5 at *
  clear jY oV
  refine bodyPost_ret (v:=.tuple #[.agg (bJ.mk 4 tx 0 p e).cells,.int .i64 0]) ?_ rfl ?_
  ·simp [results,Tryz.results128,bJ.cells,c0,c1,c2,c3,c4,go_sem]
  ·rw [Gc.out]
   exact ⟨rfl,wD⟩
set_option maxRecDepth 100000 in
set_option maxHeartbeats 1000000 in
theorem Gd (g off cap:Nat) (bs:List UInt8) (k p:Nat) (w:World) (hg:g < w.heap.size) (fF:bs.length≤cap) (qP:cap≤9223372036854775807) (hk:k≤bs.length)
 (A9:fJ bs k=p) (hc:∀ j u,(bv bs)[j]? = some u→w.cell? ⟨g,off+j,none⟩=some u) (hp:p < bs.length) (hl:dx (bs.getD p 0)=false) (hd:cj (bs.getD p 0)=true) :
 Calls Tryz.prog 128 #[.slice (some ⟨g,off,none⟩) bs.length cap,.int .i64 (k:Int)] w (Dk (gP bs p) w):=by
 have uy:bs[p]? = some (bs.getD p 0):=by rw [List.getD_eq_getElem?_getD,List.getElem?_eq_getElem hp];rfl
 have RW:=lS uy
 have hr:∀ b:Bool,cP bs p=b→gP bs p=if b=true then (kz bs p,0) else (bJ.zero,50):=by
  intro b hb
  unfold gP
  rw [if_neg (by omega),if_neg (by rw [hl];decide),if_pos hd,hb]
 have hpi:(p:Int) < bs.length:=by omega
 have hpe:((p:Int) == (bs.length:Int))=false:=beq_eq_false_iff_ne.2 (by omega)
 have YB:p < cap:=by omega
 have Wy:=fun W hg hc=>My g off cap bs p W hg fF qP hp hc
 have TA:p≤bs.length:=by rw [← A9];exact kV bs k
 have iu:=fun W hg hc=>lU g off cap bs k W hg fF (by omega) hk hc
 rw [A9] at iu
 have qZ:=Lib.hid iu
 have HC:=Lib.hid hc
 clear iu hc A9
 have mO:(k:Int)≤bs.length:=by omega
 have Wv:=Lib.hid RW
 have HR:=Lib.hid hr
 have HL:=Lib.hid hl
 have HD:=Lib.hid hd
 have aad:=Lib.hid Wy
 clear RW hr hl hd uy Wy
 generalize bs.getD p 0=c at *
 go_enter Tryz.func128,Tryz.ntmps128
 go_wp2_with fail
 refine (qZ.out _ (by simp;omega) (fun j u hu=>by rw [cO _ _ _ hg];exact HC.out j u hu)).mono ?_
 rintro e w2 ⟨rfl,ou⟩
 have nD:Below (dM w).heap.size (dM w) w2:=ou
 clear ou
 have Li:Below w.heap.size w w2:=(iR w).trans (nD.mono (by rw [cW];omega))
 have AT:=nD.size
 rw [cW] at AT
 have eZ:∀ j u,(bv bs)[j]? = some u→w2.cell? ⟨g,off+j,none⟩=some u:=fun j u hu=>by rw [Li.cell (p:=⟨g,off+j,none⟩) hg];exact HC.out j u hu
 have OH:=Lib.hid eZ
 have HO:=Lib.hid nD
 clear eZ
 have zb:w2.cell? ⟨g,off+p,none⟩=some (.int .u8 (c.toNat:Int)):=OH.out p _ Wv.out
 clear nD
 go_wp2_with fail
 refine (kG c _ rfl _).mono ?_
 rintro e' w3 ⟨rfl,rfl⟩
 rw [HL.out]
 go_wp2_with fail
 refine (r9 c _ rfl _).mono ?_
 rintro e' w3 ⟨rfl,rfl⟩
 rw [HD.out]
 go_wp2_with fail
 refine (aad.out _ (by omega) OH.out).mono ?_
 rintro e' w3 ⟨rfl,U4⟩
 have wD:Below (dM w).heap.size (dM w) w3:=HO.out.trans (U4.mono HO.out.size)
 have PS:∀ o:Obj,Below (dM w).heap.size (dM w) (w3.alloc o):=fun o=>wD.alloc wD.size o
 have jY:=fun o=>jP w (w3.alloc o) (PS o)
 have oV:=fun o=>hU w (w3.alloc o) (PS o)
 have Wx:=Lib.hid PS
 have aeB:=U4.size
 clear PS wD U4
 cases hv:cP bs p
 ·have Gc:=Lib.hid (HR.out false hv)
  rw [if_neg (by decide)] at Gc
  rw [if_neg (by decide)]
  simp only [bJ.zero,bJ.cells]
  clear HR hv
  go_wp2_with fail
  obtain ⟨c0,c1,c2,c3,c4,wD⟩:=jt w (w3.alloc (.cells #[.int .i64 0,.string ⟨#[]⟩,.int .u64 0,.int .i64 0,.int .i64 0] 112)) (Wx.out _) (.int .i64 0) (.string ⟨#[]⟩) (.int .u64 0) (.int .i64 0) (.int .i64 0)
  change bodyPost _ _ _ _ _ (yJ (w3.alloc (.cells #[.int .i64 0,.string ⟨#[]⟩,.int .u64 0,.int .i64 0,.int .i64 0] 112)) w.heap.size (.int .i64 0) (.string ⟨#[]⟩) (.int .u64 0) (.int .i64 0) (.int .i64 0))
  generalize yJ (w3.alloc (.cells #[.int .i64 0,.string ⟨#[]⟩,.int .u64 0,.int .i64 0,.int .i64 0] 112)) w.heap.size (.int .i64 0) (.string ⟨#[]⟩) (.int .u64 0) (.int .i64 0) (.int .i64 0)=W5 at *
  clear jY oV
  refine bodyPost_ret (v:=.tuple #[.agg bJ.zero.cells,.int .i64 50]) ?_ rfl ?_
  ·simp [results,Tryz.results128,bJ.cells,bJ.zero,c0,c1,c2,c3,c4,go_sem]
  ·rw [Gc.out]
   exact ⟨rfl,wD⟩
 ·have Gc:=Lib.hid (HR.out true hv)
  rw [if_pos rfl] at Gc
  rw [if_pos rfl]
  generalize kz bs p=nw at *
  obtain ⟨k1,t1,n1,a1,x1⟩:=nw
  simp only [bJ.cells]
  clear HR hv
  go_wp2_with fail
  obtain ⟨c0,c1,c2,c3,c4,wD⟩:=jt w (w3.alloc (.cells #[.int .i64 (k1:Int),.string ⟨t1.toArray⟩,.int .u64 (n1:Int),.int .i64 (a1:Int),.int .i64 (x1:Int)] 112)) (Wx.out _) (.int .i64 (k1:Int)) (.string ⟨t1.toArray⟩) (.int .u64 (n1:Int)) (.int .i64 (a1:Int)) (.int .i64 (x1:Int))
  change bodyPost _ _ _ _ _ (yJ (w3.alloc (.cells #[.int .i64 (k1:Int),.string ⟨t1.toArray⟩,.int .u64 (n1:Int),.int .i64 (a1:Int),.int .i64 (x1:Int)] 112)) w.heap.size (.int .i64 (k1:Int)) (.string ⟨t1.toArray⟩) (.int .u64 (n1:Int)) (.int .i64 (a1:Int)) (.int .i64 (x1:Int)))
  generalize yJ (w3.alloc (.cells #[.int .i64 (k1:Int),.string ⟨t1.toArray⟩,.int .u64 (n1:Int),.int .i64 (a1:Int),.int .i64 (x1:Int)] 112)) w.heap.size (.int .i64 (k1:Int)) (.string ⟨t1.toArray⟩) (.int .u64 (n1:Int)) (.int .i64 (a1:Int)) (.int .i64 (x1:Int))=W5 at *
  clear jY oV
  refine bodyPost_ret (v:=.tuple #[.agg (bJ.mk k1 t1 n1 a1 x1).cells,.int .i64 0]) ?_ rfl ?_
  ·simp [results,Tryz.results128,bJ.cells,c0,c1,c2,c3,c4,go_sem]
  ·rw [Gc.out]
   exact ⟨rfl,wD⟩
def jQ (l:List UInt8) (m:Nat):Option (List UInt8):=(eE.drop m).find? fun s=>js l s
theorem yK (l:List UInt8) (m:Nat) (hm:m < 29):jQ l m=if js l (eE.getD m [])=true then some (eE.getD m []) else jQ l (m+1):=by
 unfold jQ
 have:eE.drop m=eE.getD m [] :: eE.drop (m+1):=by
  have h:m < eE.length:=hm
  rw [List.drop_eq_getElem_cons h]
  simp [List.getD,h]
 rw [this,List.find?_cons]
 split<;>simp_all
theorem JJ (m:Nat) (hm:m < 29):1≤(eE.getD m []).length∧(eE.getD m []).length≤2:=by
 have h:∀ s∈eE,1≤s.length∧s.length≤2:=by decide
 refine h _ ?_
 have hl:m < eE.length:=hm
 have:eE.getD m []=eE[m]:=by simp [List.getD,hl]
 rw [this]
 exact List.getElem_mem hl
set_option maxRecDepth 100000 in
set_option maxHeartbeats 1000000 in
theorem JK (g off cap:Nat) (bs:List UInt8) (k p:Nat) (w:World) (ht:qo w) (hg:g < w.heap.size) (fF:bs.length≤cap) (qP:cap≤9223372036854775807) (hk:k≤bs.length)
 (A9:fJ bs k=p) (hc:∀ j u,(bv bs)[j]? = some u→w.cell? ⟨g,off+j,none⟩=some u) (hp:p < bs.length) (hl:dx (bs.getD p 0)=false) (hd:cj (bs.getD p 0)=false) :
 Calls Tryz.prog 128 #[.slice (some ⟨g,off,none⟩) bs.length cap,.int .i64 (k:Int)] w (Dk (gP bs p) w):=by
 have uy:bs[p]? = some (bs.getD p 0):=by rw [List.getD_eq_getElem?_getD,List.getElem?_eq_getElem hp];rfl
 have RW:=lS uy
 have hr:∀ b,jQ (bs.drop p) 0=b→gP bs p=match b with | some s=>(⟨3,s,0,p,p+s.length⟩,0) | none=>(bJ.zero,50):=by
  intro b hb
  unfold gP
  rw [if_neg (by omega),if_neg (by rw [hl];decide),if_neg (by rw [hd];decide)]
  have:Gb (bs.drop p)=b:=hb
  rw [this]
  all_goals (cases b<;>rfl)
 have UY:(bs.drop p).length=bs.length - p:=List.length_drop
 have uX:∀ j u,(bv (bs.drop p))[j]? = some u→(bv bs)[p+j]? = some u:=by
  intro j u hu
  unfold bv at hu
  rw [List.map_drop,List.getElem?_drop] at hu
  exact hu
 have hpi:(p:Int) < bs.length:=by omega
 have hpe:((p:Int) == (bs.length:Int))=false:=beq_eq_false_iff_ne.2 (by omega)
 have YB:p < cap:=by omega
 have TA:p≤bs.length:=by rw [← A9];exact kV bs k
 have iu:=fun W hg hc=>lU g off cap bs k W hg fF (by omega) hk hc
 rw [A9] at iu
 have qZ:=Lib.hid iu
 have HC:=Lib.hid hc
 clear iu hc A9
 have mO:(k:Int)≤bs.length:=by omega
 have Wv:=Lib.hid RW
 have HR:=Lib.hid hr
 have HL:=Lib.hid hl
 have HD:=Lib.hid hd
 have TB:=Lib.hid uX
 have HDL:=Lib.hid UY
 clear RW hr hl hd uy uX UY
 generalize bs.getD p 0=c at *
 generalize bs.drop p=l at *
 have hi:=JE
 obtain ⟨sv,TC⟩:∃ sv,Df eE=sv:=⟨_,rfl⟩
 rw [TC] at hi
 have dJ:(Tryz.prog.info? 189).map (·.size)=some sv.size:=by rw [← TC];kernel_rfl
 have HS:=Lib.hid dJ
 have HI:=Lib.hid hi
 have HSV:=Lib.hid TC
 clear dJ hi TC
 go_enter Tryz.func128,Tryz.ntmps128
 go_wp2_with fail
 refine (qZ.out _ (by simp;omega) (fun j u hu=>by rw [cO _ _ _ hg];exact HC.out j u hu)).mono ?_
 rintro e w2 ⟨rfl,ou⟩
 have nD:Below (dM w).heap.size (dM w) w2:=ou
 clear ou
 have Li:Below w.heap.size w w2:=(iR w).trans (nD.mono (by rw [cW];omega))
 have AT:=nD.size
 rw [cW] at AT
 have eZ:∀ j u,(bv bs)[j]? = some u→w2.cell? ⟨g,off+j,none⟩=some u:=fun j u hu=>by rw [Li.cell (p:=⟨g,off+j,none⟩) hg];exact HC.out j u hu
 have OH:=Lib.hid eZ
 have HO:=Lib.hid nD
 clear eZ
 have zb:w2.cell? ⟨g,off+p,none⟩=some (.int .u8 (c.toNat:Int)):=OH.out p _ Wv.out
 obtain ⟨tt,fr,aD⟩:=(ht.below Li).Dg
 rw [HSV.out] at aD
 have HK:=Lib.hid aD
 clear nD aD
 go_wp2_with fail
 refine (kG c _ rfl _).mono ?_
 rintro e' w3 ⟨rfl,rfl⟩
 rw [HL.out]
 go_wp2_with fail
 refine (r9 c _ rfl _).mono ?_
 rintro e' w3 ⟨rfl,rfl⟩
 rw [HD.out]
 clear zb
 go_wp2_with (refine wpList_load_row rfl 189 _ rfl 0 rfl _ sv _ _ HK.out Tryz.underlying189 rfl HS.out ?_)
 go_loopw [71] (fun i wr=>∃ m:Nat,i = .int .i64 m∧m≤29∧Hid (jQ l 0=jQ l m)∧Below w2.heap.size w2 wr) (fun i _=>(29 - intOf i).toNat)
 case atStart=>exact ⟨0,rfl,by omega,Lib.hid rfl,Below.refl _ _⟩
 case round =>
  obtain ⟨m,rfl,hm,HM,TE⟩:=hrel
  have HBR:=Lib.hid (HO.out.trans (TE.mono HO.out.size))
  have aeD:=TE.size
  by_cases au:m < 29
  ·have Yw:=HI.out m au
   have jW:=yK l m au
   have hql:=JJ m au
   generalize eE.getD m []=q at *
   have HJ:=Lib.hid jW
   clear jW
   have PT:(ByteArray.mk q.toArray).size=q.length:=by simp [ByteArray.size]
   have hqd:(ByteArray.mk q.toArray).data.toList=q:=by simp
   have kc:=Lib.run_convert_string_bytes (P:=Tryz.prog) wr 9 57 5 ⟨q.toArray⟩ Tryz.underlying9 Tryz.underlying57 Tryz.underlying5
   rw [PT] at kc
   have ho:=ox wr wr.heap.size 5 ⟨q.toArray⟩ (Nat.le_refl _) (by rw [PT];unfold maxLen;omega)
   rw [PT,hqd] at ho
   have hbq:=ji wr wr.heap.size 5 ⟨q.toArray⟩ (Nat.le_refl _)
   have hcq:=ho.cells rfl
   generalize grownCap wr q.length 0 5=aaf at *
   generalize Lib.bytesWorld wr 5 ⟨q.toArray⟩=wb at *
   have E9:=TE.trans (hbq.mono TE.size)
   have YH:=HO.out.trans (E9.mono HO.out.size)
   have tJ:=nQ g (off+p) (bs.length - p) (cap - p) wr.heap.size 0 aaf l q wb HDL.out (by omega) (by omega) (by omega) (by omega)
    (fun j u hu=>by
     have h1:=OH.out _ _ (TB.out j u hu)
     rw [← E9.cell (p:=⟨g,off+(p+j),none⟩) (by show g < _;omega)] at h1
     rw [show off+p+j=off+(p+j) by omega]
     exact h1) hcq
   have PU:=Lib.hid tJ
   have jY:=jP w wb YH
   have oV:=hU w wb YH
   have HBB:=Lib.hid YH
   have aag:=Lib.hid E9
   clear ho hcq PT hqd tJ E9 YH hbq
   cases hv:js l q
   ·rw [hv] at PU HJ
    have HN:Hid (jQ l 0=jQ l (m+1)):=by
     unfold Hid
     rw [HM.out,HJ.out]
     rfl
    clear hv HJ jY oV
    go_wp2_with fail
    refine PU.out.mono ?_
    rintro e' w3 ⟨rfl,rfl⟩
    go_wp2_with fail
    go_roundw
    case rel=>exact ⟨m+1,by go_num,by omega,HN,aag.out⟩
    case measure=>simp [intOf];omega
   ·rw [hv] at PU HJ
    have Gc:=Lib.hid (HR.out (some q) (by rw [HM.out,HJ.out];rfl))
    simp only at Gc
    have hqn:=(List.isPrefixOf_iff_prefix.1 hv).length_le
    rw [HDL.out] at hqn
    clear hv HJ HR
    have hpq:(p:Int)+(q.length:Int)≤9223372036854775807:=by omega
    go_wp2_with fail
    refine PU.out.mono ?_
    rintro e' w3 ⟨rfl,rfl⟩
    go_wp2_with fail
    obtain ⟨c0,c1,c2,c3,c4,wD⟩:=jt w wb HBB.out (.int .i64 3) (.string ⟨q.toArray⟩) (.int .u64 0) (.int .i64 (p:Int)) (.int .i64 ((p:Int)+(q.length:Int)))
    change bodyPost _ _ _ _ _ (yJ wb w.heap.size (.int .i64 3) (.string ⟨q.toArray⟩) (.int .u64 0) (.int .i64 (p:Int)) (.int .i64 ((p:Int)+(q.length:Int))))
    generalize yJ wb w.heap.size (.int .i64 3) (.string ⟨q.toArray⟩) (.int .u64 0) (.int .i64 (p:Int)) (.int .i64 ((p:Int)+(q.length:Int)))=W5 at *
    clear jY oV
    refine bodyPost_ret (v:=.tuple #[.agg (bJ.mk 3 q 0 p (p+q.length)).cells,.int .i64 0]) ?_ rfl ?_
    ·simp [results,Tryz.results128,bJ.cells,c0,c1,c2,c3,c4,go_sem]
    ·rw [Gc.out]
     exact ⟨rfl,wD⟩
  ·obtain rfl:m=29:=by omega
   have Gc:=Lib.hid (HR.out none (by rw [HM.out];rfl))
   simp only at Gc
   clear HR
   have jY:=jP w wr HBR.out
   have oV:=hU w wr HBR.out
   go_wp2_with fail
   obtain ⟨c0,c1,c2,c3,c4,wD⟩:=jt w wr HBR.out (.int .i64 0) (.string ⟨#[]⟩) (.int .u64 0) (.int .i64 0) (.int .i64 0)
   change bodyPost _ _ _ _ _ (yJ wr w.heap.size (.int .i64 0) (.string ⟨#[]⟩) (.int .u64 0) (.int .i64 0) (.int .i64 0))
   generalize yJ wr w.heap.size (.int .i64 0) (.string ⟨#[]⟩) (.int .u64 0) (.int .i64 0) (.int .i64 0)=W5 at *
   clear jY oV
   refine bodyPost_ret (v:=.tuple #[.agg bJ.zero.cells,.int .i64 50]) ?_ rfl ?_
   ·simp [results,Tryz.results128,bJ.cells,bJ.zero,c0,c1,c2,c3,c4,go_sem]
   ·rw [Gc.out]
    exact ⟨rfl,wD⟩
theorem RX (B:Nat) (v:Value) (bs:List UInt8) (i:Int) (w:World) (ht:qo w) (hv:RS B w v bs) (hB:B≤w.heap.size):Calls Tryz.prog 128 #[v,.int .i64 i] w (Dk (fk bs i) w):=by
 by_cases hi:i < 0∨i > bs.length
 ·have hr:fk bs i=(bJ.zero,2):=by unfold fk;rw [if_pos hi]
  rw [hr]
  refine MB v bs.length i w ?_ (by omega)
  rcases hv with ⟨rfl,rfl⟩ | ⟨g,off,cap,rfl,_⟩
  ·exact ⟨_,_,rfl⟩
  ·exact ⟨_,_,rfl⟩
 ·obtain ⟨k,rfl⟩:∃ k:Nat,i=k:=⟨i.toNat,by omega⟩
  have hr:fk bs k=gP bs (fJ bs k):=by
   unfold fk
   rw [if_neg hi]
   rfl
  rcases hv with ⟨rfl,rfl⟩ | ⟨g,off,cap,rfl,hg,fF,qP,hc⟩
  ·have:k=0:=by simp at hi;omega
   subst this
   exact take_nil w
  ·rw [hr]
   have hk:k≤bs.length:=by omega
   have hle:=kV bs k
   have hm:cap≤9223372036854775807:=qP
   by_cases hp:fJ bs k=bs.length
   ·exact MC g off cap bs k _ w (by omega) fF hm hk rfl hc hp
   ·cases hl:dx (bs.getD (fJ bs k) 0)
    ·cases hd:cj (bs.getD (fJ bs k) 0)
     ·exact JK g off cap bs k _ w ht (by omega) fF hm hk rfl hc (by omega) hl hd
     ·exact Gd g off cap bs k _ w (by omega) fF hm hk rfl hc (by omega) hl hd
    ·exact Dm g off cap bs k _ w ht (by omega) fF hm hk rfl hc (by omega) hl
end Go.Proofs.YtnfnbjjnjjdjdaaGreatDoor
