/- gotypeMore Part 5 of 6 of the proof. -/
import Derived.Test.YtnfnbjjnjjdjdaaGreatDoorGotypeMored
namespace Go.Proofs.YtnfnbjjnjjdjdaaGreatDoor
open Go.RowKit Go.Av Go.Ab
set_option linter.unusedSimpArgs false
def dg (s:aH) (v1 v2 v3 v4 v5:V):List V:=[.d (.int .i64 s.kind),.d (.sl (ij s.names)),.d (.int .i64 s.type.kind),.d (.str s.type.name),.d (.sl (s.type.elem.map dR)),v1,v2,v3,v4,v5]
mutual
def iJ (B:List (List V)):aH→Nat→Nat→List V→Prop
 | .mk k ns ty ls es b e cs=>fun lo hi r=>∃ (v1 v2 v3 v4 v5:V) (m1 m2 m3 m4:Nat),r=dg (.mk k ns ty ls es b e cs) v1 v2 v3 v4 v5∧fX B ls lo m1 v1∧fX B es m1 m2 v2∧lg (dL B b) b.length B m2 m3 v3∧lg (dL B e) e.length B m3 m4 v4∧lg (gE B cs) cs.length B m4 hi v5
def dL (B:List (List V)):List aH→Nat→Nat→List V→Prop
 | []=>fun lo hi _=>lo≤hi
 | x :: l=>fun lo hi X=>∃ r X' m,X=r++X'∧r.length=10∧lo≤m∧m≤hi∧iJ B x lo m r∧dL B l m hi X'
def jD (B:List (List V)):cJ→Nat→Nat→List V→Prop
 | .mk i b=>fun lo hi r=>∃ v,r=[.d (.int .u64 i),v]∧lg (dL B b) b.length B lo hi v
def gE (B:List (List V)):List cJ→Nat→Nat→List V→Prop
 | []=>fun lo hi _=>lo≤hi
 | x :: l=>fun lo hi X=>∃ r X' m,X=r++X'∧r.length=2∧lo≤m∧m≤hi∧jD B x lo m r∧gE B l m hi X'
end
theorem jE (B:List (List V)):∀ (l:List aH) (lo hi:Nat) (X:List V),dL B l lo hi X=bV 10 (iJ B) l lo hi X
 | [],_,_,_=>by unfold dL bV;rfl
 | x :: l,lo,hi,X=>by
  unfold dL bV
  simp only [jE B l]
theorem jF (B:List (List V)):∀ (l:List cJ) (lo hi:Nat) (X:List V),gE B l lo hi X=bV 2 (jD B) l lo hi X
 | [],_,_,_=>by unfold gE bV;rfl
 | x :: l,lo,hi,X=>by
  unfold gE bV
  simp only [jF B l]
def fS (B:List (List V)) (l:List aH) (lo hi:Nat) (v:V):Prop:=lg (dL B l) l.length B lo hi v
def l7 (B:List (List V)) (l:List cJ) (lo hi:Nat) (v:V):Prop:=lg (gE B l) l.length B lo hi v
def uI (B:List (List V)) (x:aH) (lo m1 m2 m3 m4 hi:Nat) (v1 v2 v3 v4 v5:V):Prop:=fX B x.aG lo m1 v1∧fX B x.exprs m1 m2 v2∧fS B x.body m2 m3 v3∧fS B x.dh m3 m4 v4∧l7 B x.cases m4 hi v5
theorem lC {B:List (List V)} {x:aH} {lo hi:Nat} {r:List V}:iJ B x lo hi r↔∃ (v1 v2 v3 v4 v5:V) (m1 m2 m3 m4:Nat),r=dg x v1 v2 v3 v4 v5∧uI B x lo m1 m2 m3 m4 hi v1 v2 v3 v4 v5:=by
 cases x
 unfold iJ uI fS l7
 rfl
theorem lD {B:List (List V)} {x:cJ} {lo hi:Nat} {r:List V}:jD B x lo hi r↔∃ v,r=[.d (.int .u64 x.int),v]∧fS B x.body lo hi v:=by
 cases x
 unfold jD fS
 rfl
theorem uI.le {B:List (List V)} {x:aH} {lo m1 m2 m3 m4 hi:Nat} {v1 v2 v3 v4 v5:V} (h:uI B x lo m1 m2 m3 m4 hi v1 v2 v3 v4 v5):lo≤m1∧m1≤m2∧m2≤m3∧m3≤m4∧m4≤hi :=
 ⟨h.1.le,h.2.1.le,h.2.2.1.le,h.2.2.2.1.le,h.2.2.2.2.le⟩
mutual
theorem iJ.frame {B B':List (List V)}:∀ (x:aH) {lo hi:Nat} {r:List V},iJ B x lo hi r→(∀ i,lo≤i→i < hi→B'[i]? = B[i]?)→iJ B' x lo hi r
 | .mk k ns ty ls es b e cs,lo,hi,r,h,hb=>by
  unfold iJ at h ⊢
  obtain ⟨v1,v2,v3,v4,v5,m1,m2,m3,m4,h0,h1,h2,h3,h4,h5⟩:=h
  have l1:=h1.le
  have l2:=h2.le
  have l3:=h3.le
  have l4:=h4.le
  have l5:=h5.le
  exact ⟨v1,v2,v3,v4,v5,m1,m2,m3,m4,h0,h1.frame fun i a b=>hb i a (by omega),h2.frame fun i a b=>hb i (by omega) (by omega),
   h3.frame (fun i a b=>hb i (by omega) (by omega)) fun a Y ha hf=>dL.frame b hf fun i c d=>hb i (by omega) (by omega),
   h4.frame (fun i a b=>hb i (by omega) (by omega)) fun a Y ha hf=>dL.frame e hf fun i c d=>hb i (by omega) (by omega),
   h5.frame (fun i a b=>hb i (by omega) (by omega)) fun a Y ha hf=>gE.frame cs hf fun i c d=>hb i (by omega) (by omega)⟩
theorem dL.frame {B B':List (List V)}:∀ (l:List aH) {lo hi:Nat} {X:List V},dL B l lo hi X→(∀ i,lo≤i→i < hi→B'[i]? = B[i]?)→dL B' l lo hi X
 | [],lo,hi,X,h,hb=>by
  unfold dL at h ⊢
  exact h
 | x :: l,lo,hi,X,h,hb=>by
  unfold dL at h ⊢
  obtain ⟨r,X',m,h1,h2,h3,h4,h5,h6⟩:=h
  exact ⟨r,X',m,h1,h2,h3,h4,iJ.frame x h5 fun i h7 h8=>hb i h7 (by omega),dL.frame l h6 fun i h7 h8=>hb i (by omega) h8⟩
theorem jD.frame {B B':List (List V)}:∀ (x:cJ) {lo hi:Nat} {r:List V},jD B x lo hi r→(∀ i,lo≤i→i < hi→B'[i]? = B[i]?)→jD B' x lo hi r
 | .mk i b,lo,hi,r,h,hb=>by
  unfold jD at h ⊢
  obtain ⟨v,h0,h1⟩:=h
  exact ⟨v,h0,h1.frame hb fun a Y ha hf=>dL.frame b hf fun i c d=>hb i (by omega) (by omega)⟩
theorem gE.frame {B B':List (List V)}:∀ (l:List cJ) {lo hi:Nat} {X:List V},gE B l lo hi X→(∀ i,lo≤i→i < hi→B'[i]? = B[i]?)→gE B' l lo hi X
 | [],lo,hi,X,h,hb=>by
  unfold gE at h ⊢
  exact h
 | x :: l,lo,hi,X,h,hb=>by
  unfold gE at h ⊢
  obtain ⟨r,X',m,h1,h2,h3,h4,h5,h6⟩:=h
  exact ⟨r,X',m,h1,h2,h3,h4,jD.frame x h5 fun i h7 h8=>hb i h7 (by omega),gE.frame l h6 fun i h7 h8=>hb i (by omega) h8⟩
end
theorem fS.frame {B B':List (List V)} {l:List aH} {lo hi:Nat} {v:V} (h:fS B l lo hi v) (hb:∀ i,lo≤i→i < hi→B'[i]? = B[i]?):fS B' l lo hi v :=
 lg.frame h hb fun a Y ha hf=>dL.frame l hf fun i h3 h4=>hb i (by omega) h4
theorem l7.frame {B B':List (List V)} {l:List cJ} {lo hi:Nat} {v:V} (h:l7 B l lo hi v) (hb:∀ i,lo≤i→i < hi→B'[i]? = B[i]?):l7 B' l lo hi v :=
 lg.frame h hb fun a Y ha hf=>gE.frame l hf fun i h3 h4=>hb i (by omega) h4
mutual
def By:aH→aH
 | .mk k ns ty ls es b e cs=>.mk k ns ty (bK ls) (bK es) (gr b) (gr e) (mF cs)
def gr:List aH→List aH
 | []=>[]
 | x :: l=>By x :: gr l
def Vj:cJ→cJ
 | .mk i b=>.mk i (gr b)
def mF:List cJ→List cJ
 | []=>[]
 | x :: l=>Vj x :: mF l
end
theorem fB:∀ l:List aH,(gr l).length=l.length
 | []=>by simp [gr]
 | x :: l=>by simp [gr,fB l]
theorem o9:∀ l:List cJ,(mF l).length=l.length
 | []=>by simp [mF]
 | x :: l=>by simp [mF,o9 l]
theorem GB {E:bP} {x y:aj} {ts:List aA} (h:kj E x=some (y,ts)):fE y=fE x:=by
 unfold kj at h
 obtain ⟨⟨l,ts'⟩,hr,e⟩:=Option.map_eq_some_iff.1 h
 obtain rfl:=(Prod.mk.inj e).1
 unfold xe at hr
 split at hr
 ·obtain ⟨l',hl,e⟩:=Option.map_eq_some_iff.1 hr
  obtain rfl:=(Prod.mk.inj e).1
  cases x
  have:=gD E _ _ _ hl
  simp only [aT,fE]
  rw [show bK l' = bK _ from this]
  rfl
 ·cases hr
theorem nI {E:bP} {l l':List aj} {ts:List aA} (h:cY E l ts=some l'):bK l' = bK l:=by
 unfold cY at h
 split at h
 ·rename_i x
  split at h
  ·split at h
   ·rename_i y rs hc
    split at h
    ·obtain rfl:=Option.some.inj h
     simp only [bK,GB hc]
    ·cases h
   ·cases h
  ·exact gD E _ _ _ h
 ·exact gD E _ _ _ h
mutual
theorem GC (su:List cG) (fu:List cn) (res:List aA):∀ (s:aH) (vs:List bH) (s':aH) (oE:List bH),gh su fu res s vs=some (s',oE)→By s' = By s
 | .mk k ns ty ls es b e cs,vs,s',oE,h=>by
  unfold gh at h
  split at h
  ·split at h
   ·split at h
    ·obtain ⟨rfl,_⟩:=h;rfl
    ·cases h
   ·cases h
  split at h
  ·split at h
   ·obtain ⟨l,hl,e⟩:=Option.map_eq_some_iff.1 h
    obtain rfl:=(Prod.mk.inj e).1
    simp only [By,nI hl]
   ·cases h
  split at h
  ·obtain ⟨l,hl,e⟩:=Option.map_eq_some_iff.1 h
   obtain rfl:=(Prod.mk.inj e).1
   simp only [By,nI hl]
  split at h
  ·rename_i x
   split at h
   ·split at h
    ·rename_i x' t hx
     split at h
     ·split at h
      ·rename_i Sf qw
       obtain ⟨e',he,e⟩:=Option.map_eq_some_iff.1 h
       obtain rfl:=(Prod.mk.inj e).1
       simp only [By,bK,bX _ _ _ _ _ hx,uJ su fu res _ cs vs Sf qw,gF su fu res _ vs e' he]
      ·cases h
     ·cases h
    ·cases h
   ·split at h
    ·rename_i x' hx
     obtain ⟨_,hx⟩:=gj hx
     split at h
     ·rename_i b' hb
      obtain ⟨e',he,e⟩:=Option.map_eq_some_iff.1 h
      obtain rfl:=(Prod.mk.inj e).1
      simp only [By,bK,bX _ _ _ _ _ hx,gF su fu res b vs b' hb,gF su fu res _ vs e' he]
     ·cases h
    ·cases h
  ·cases h
theorem gF (su:List cG) (fu:List cn) (res:List aA):∀ (l:List aH) (vs:List bH) (l':List aH),bU su fu res l vs=some l'→gr l' = gr l
 | [],vs,l',h=>by
  unfold bU at h
  rw [← Option.some.inj h]
 | s :: l,vs,l',h=>by
  unfold bU at h
  split at h
  ·rename_i s' oE hs
   obtain ⟨m,hm,rfl⟩:=Option.map_eq_some_iff.1 h
   simp only [gr,GC su fu res s vs s' oE hs,gF su fu res l oE m hm]
  ·cases h
theorem uJ (su:List cG) (fu:List cn) (res:List aA) (top:Int):∀ (l:List cJ) (vs:List bH) (l':List cJ),fM su fu res top l vs=some l'→mF l' = mF l
 | [],vs,l',h=>by
  unfold fM at h
  rw [← Option.some.inj h]
 | .mk i b :: l,vs,l',h=>by
  unfold fM at h
  split at h
  ·cases h
  split at h
  ·rename_i b' hb
   obtain ⟨m,hm,rfl⟩:=Option.map_eq_some_iff.1 h
   simp only [mF,Vj,gF su fu res b vs b' hb,uJ su fu res top l vs m hm]
  ·cases h
end
theorem zX {f:Nat→Nat→List V→Prop} {g:List (List V)→Nat→Nat→List V→Prop} {n n':Nat} {B:List (List V)} {lo hi:Nat} {v:V} (h:lg f n B lo hi v) (hn:n=n') (ih:∀ a Y,f a hi Y→∃ B1 Y1,yV a hi B B1∧g B1 a hi Y1∧∀ u∈Y1,u∈Y∨fit 0 0 u=true)
 (hg:∀ B1 B2 a Y,g B1 a hi Y→(∀ i,a≤i→i < hi→B2[i]? = B1[i]?)→g B2 a hi Y):∃ B1,yV lo hi B B1∧lg (g B1) n' B1 lo hi v:=by
 subst hn
 rcases h with ⟨g1,g2,g3⟩ | ⟨g1,j1,cap,Y,g2,g3,g4,g5,g6⟩
 ·exact ⟨B,.refl _ _ _,.inl ⟨g1,g2,g3⟩⟩
 ·obtain ⟨B1,Y1,i1,i2,i3⟩:=ih _ _ g6
  have hj:B1[j1]? = some Y:=by rw [i1.2.1 j1 (by omega)];exact g5
  exact ⟨B1.set j1 Y1,(i1.wide (by omega) (Nat.le_refl _)).trans (.put g3 g4 hj i3),.inr ⟨g1,j1,cap,Y1,g2,g3,g4,List.getElem?_set_self (List.getElem?_eq_some_iff.1 hj).1,hg _ _ _ _ i2 fun i h7 h8=>List.getElem?_set_ne (by omega)⟩⟩
theorem Bz {l m:List aj} {B:List (List V)} {lo hi:Nat} {v:V} (h:fX B l lo hi v) (e:bK l=bK m):∃ B1,yV lo hi B B1∧fX B1 m lo hi v :=
 zX (g:=fun B=>jT B m) h (by rw [← iz l,← iz m,e]) (fun a Y hf=>Bq l m B a hi Y e hf) fun B1 B2 a Y h hb=>jT.frame m h hb
theorem Kz {x y:aH} {v1 v2 v3 v4 v5:V}:∀ v∈dg y v1 v2 v3 v4 v5,v∈dg x v1 v2 v3 v4 v5∨fit 0 0 v=true:=by
 intro v hv
 simp only [dg,List.mem_cons,List.not_mem_nil,or_false] at hv
 rcases hv with rfl | rfl | rfl | rfl | rfl | rfl | rfl | rfl | rfl | rfl
 all_goals first
  | exact .inr rfl
  | exact .inl (by simp [dg])
theorem KA {x y:aH} (h:By x=By y):bK x.aG=bK y.aG∧bK x.exprs=bK y.exprs∧gr x.body=gr y.body∧gr x.dh=gr y.dh∧mF x.cases=mF y.cases:=by
 cases x;cases y
 simp only [By,aH.mk.injEq] at h
 exact ⟨h.2.2.2.1,h.2.2.2.2.1,h.2.2.2.2.2.1,h.2.2.2.2.2.2.1,h.2.2.2.2.2.2.2⟩
mutual
theorem sR:∀ (l m:List aH) (B:List (List V)) (lo hi:Nat) (X:List V),gr l=gr m→dL B l lo hi X→∃ B1 X1,yV lo hi B B1∧dL B1 m lo hi X1∧∀ v∈X1,v∈X∨fit 0 0 v=true
 | [],[],B,lo,hi,X,_,h=>⟨B,X,.refl _ _ _,h,fun _ hv=>.inl hv⟩
 | [],_ :: _,_,_,_,_,e,_=>by simp [gr] at e
 | _ :: _,[],_,_,_,_,e,_=>by simp [gr] at e
 | .mk k ns ty ls es b e cs :: l,y :: m,B,lo,hi,X,eq,h=>by
  simp only [gr,List.cons.injEq] at eq
  obtain ⟨e1,e2⟩:=eq
  unfold dL at h
  obtain ⟨r,X',q,rfl,h2,h3,h4,h5,h6⟩:=h
  obtain ⟨v1,v2,v3,v4,v5,m1,m2,m3,m4,rfl,p1,p2,p3,p4,p5⟩:=lC.1 h5
  have l1:=p1.le
  have l2:=p2.le
  have l3:=p3.le
  have l4:=p4.le
  have l5:=p5.le
  obtain ⟨q1,q2,q3,q4,q5⟩:=KA e1
  obtain ⟨B1,i1,o1⟩:=Bz p1 q1
  obtain ⟨B2,i2,o2⟩:=Bz (p2.frame (B':=B1) fun i a _=>i1.2.1 i (by omega)) q2
  have f3:=p3.frame (B':=B2) fun i a _=>by rw [i2.2.1 i (by omega),i1.2.1 i (by omega)]
  obtain ⟨B3,i3,o3⟩:=zX (g:=fun B=>dL B y.body) (n':=y.body.length) f3 (by rw [← fB,← fB y.body,q3]) (fun a Y hf=>sR b y.body B2 a m3 Y q3 hf) fun B1 B2 a Y h hb=>dL.frame _ h hb
  have f4:=p4.frame (B':=B3) fun i a _=>by rw [i3.2.1 i (by omega),i2.2.1 i (by omega),i1.2.1 i (by omega)]
  obtain ⟨B4,i4,o4⟩:=zX (g:=fun B=>dL B y.dh) (n':=y.dh.length) f4 (by rw [← fB,← fB y.dh,q4]) (fun a Y hf=>sR e y.dh B3 a m4 Y q4 hf) fun B1 B2 a Y h hb=>dL.frame _ h hb
  have f5:=p5.frame (B':=B4) fun i a _=>by rw [i4.2.1 i (by omega),i3.2.1 i (by omega),i2.2.1 i (by omega),i1.2.1 i (by omega)]
  obtain ⟨B5,i5,o5⟩:=zX (g:=fun B=>gE B y.cases) (n':=y.cases.length) f5 (by rw [← o9,← o9 y.cases,q5]) (fun a Y hf=>Iv cs y.cases B4 a q Y q5 hf) fun B1 B2 a Y h hb=>gE.frame _ h hb
  have iq:yV lo q B B5:=(i1.wide (Nat.le_refl _) (by omega)).trans ((i2.wide (by omega) (by omega)).trans ((i3.wide (by omega) (by omega)).trans ((i4.wide (by omega) (by omega)).trans (i5.wide (by omega) (Nat.le_refl _)))))
  have oP:uI B5 y lo m1 m2 m3 m4 q v1 v2 v3 v4 v5 :=
   ⟨o1.frame fun i a _=>by rw [i5.2.1 i (by omega),i4.2.1 i (by omega),i3.2.1 i (by omega),i2.2.1 i (by omega)],
    o2.frame fun i a _=>by rw [i5.2.1 i (by omega),i4.2.1 i (by omega),i3.2.1 i (by omega)],
    fS.frame o3 fun i a _=>by rw [i5.2.1 i (by omega),i4.2.1 i (by omega)],
    fS.frame o4 fun i a _=>by rw [i5.2.1 i (by omega)],o5⟩
  obtain ⟨B6,X2,j1,j2,j3⟩:=sR l m B5 q hi X' e2 (dL.frame l h6 fun i h7 h8=>iq.2.1 i (by omega))
  refine ⟨B6,dg y v1 v2 v3 v4 v5++X2,(iq.wide (Nat.le_refl _) h4).trans (j1.wide h3 (Nat.le_refl _)),?_,fun v hv=>?_⟩
  ·unfold dL
   exact ⟨_,X2,q,rfl,rfl,h3,h4,iJ.frame y (lC.2 ⟨v1,v2,v3,v4,v5,m1,m2,m3,m4,rfl,oP⟩) fun i h7 h8=>j1.2.1 i (by omega),j2⟩
  ·rcases List.mem_append.1 hv with hv | hv
   ·exact (Kz v hv).imp (fun h=>List.mem_append_left _ h) id
   ·exact (j3 v hv).imp (fun h=>List.mem_append_right _ h) id
termination_by l=>SizeOf.sizeOf l
theorem Iv:∀ (l m:List cJ) (B:List (List V)) (lo hi:Nat) (X:List V),mF l=mF m→gE B l lo hi X→∃ B1 X1,yV lo hi B B1∧gE B1 m lo hi X1∧∀ v∈X1,v∈X∨fit 0 0 v=true
 | [],[],B,lo,hi,X,_,h=>⟨B,X,.refl _ _ _,h,fun _ hv=>.inl hv⟩
 | [],_ :: _,_,_,_,_,e,_=>by simp [mF] at e
 | _ :: _,[],_,_,_,_,e,_=>by simp [mF] at e
 | .mk n b :: l,.mk n' b' :: m,B,lo,hi,X,eq,h=>by
  simp only [mF,Vj,List.cons.injEq,cJ.mk.injEq] at eq
  obtain ⟨⟨rfl,e1⟩,e2⟩:=eq
  unfold gE at h
  obtain ⟨r,X',q,rfl,h2,h3,h4,h5,h6⟩:=h
  obtain ⟨v,rfl,p1⟩:=lD.1 h5
  obtain ⟨B3,i3,o3⟩:=zX (g:=fun B=>dL B b') (n':=b'.length) p1 (by rw [← fB,← fB b',← e1];rfl) (fun a Y hf=>sR b b' B a q Y e1 hf) fun B1 B2 a Y h hb=>dL.frame _ h hb
  obtain ⟨B6,X2,j1,j2,j3⟩:=Iv l m B3 q hi X' e2 (gE.frame l h6 fun i h7 h8=>i3.2.1 i (by omega))
  refine ⟨B6,[.d (.int .u64 n),v]++X2,(i3.wide (Nat.le_refl _) h4).trans (j1.wide h3 (Nat.le_refl _)),?_,fun u hu=>?_⟩
  ·unfold gE
   exact ⟨_,X2,q,rfl,rfl,h3,h4,jD.frame _ (lD.2 ⟨v,rfl,o3⟩) fun i h7 h8=>j1.2.1 i (by omega),j2⟩
  ·rcases List.mem_append.1 hu with hu | hu
   ·exact .inl (List.mem_append_left _ hu)
   ·exact (j3 u hu).imp (fun h=>List.mem_append_right _ h) id
termination_by l=>SizeOf.sizeOf l
end
theorem QS {l m:List aH} {B:List (List V)} {lo hi:Nat} {v:V} (h:fS B l lo hi v) (e:gr l=gr m):∃ B1,yV lo hi B B1∧fS B1 m lo hi v :=
 zX (g:=fun B=>dL B m) h (by rw [← fB l,← fB m,e]) (fun a Y hf=>sR l m B a hi Y e hf) fun B1 B2 a Y h hb=>dL.frame m h hb
set_option maxRecDepth 100000
set_option linter.defProp false
def pe:=by
 have c:=aM Tryz.f110 (by conv=>lhs;cbv)
 dsimp only [KK,eN,eG,eH,List.map_cons,List.map_nil,List.toList_toArray] at c
 exact c
theorem QT:bI Tryz.prog 110 Tryz.f110 65:=⟨Tryz.func110,by kernel_rfl⟩
structure mZ (B:List (List V)) (n c s f w:Nat) (E:bP) (res:List aA) (lo hi:Nat) (v:V) (l:List aj):Prop where
 k:sD B c s f w E res
 own:fX B l lo hi v
 oc:c < lo∨hi≤c
 os:s < lo∨hi≤s
 of:f < lo∨hi≤f
 ow:w < lo∨hi≤w
 nb:c < n∧s < n∧f < n∧w < n∧hi≤n
 nl:n≤B.length
def NA (lo hi:Nat) (v:V) (B B':List (List V)) (r:Option (List aj)):Prop:=cx B.length lo hi B.length B B'∧B'.length=B.length∧∀ l,r=some l→fX B' l lo hi v
def Xq (r:Option (List aj)) (lo hi:Nat) (v:V) (B:List (List V)) (T:List (Nat × Nat)) (u:V) (S':Mem):Prop :=
 ∃ B',S' = ⟨B',T⟩∧NA lo hi v B B' r∧u = .d (.bool r.isSome)
theorem Eg:∀ a b:List aA,gd qF a b=fK a b
 | [],[]=>by unfold fK;rfl
 | [],_ :: _=>by unfold fK;rfl
 | _ :: _,[]=>by unfold fK;rfl
 | x :: a,y :: b=>by
  unfold fK gd
  dsimp only
  rw [Eg a b]
theorem GD (E:bP):bt E [] []=some []:=by unfold bt;rfl
theorem pg (E:bP) (x:aj) (ts:List aA):cY E [x] ts=if 1 < ts.length∧x.kind=7 then (match kj E x with
 | some (y,rs)=>if fK rs ts=true then some [y] else none
 | none=>none) else bt E [x] ts:=rfl
structure Xr where
 i:Nat
 ys:List aj
 B:List (List V)
section
variable {E:bP} {res:List aA} {n c s f w:Nat} {B:List (List V)} {T:List (Nat × Nat)} {lo hi:Nat} {v:V}
theorem mZ.mem {B':List (List V)} {l:List aj} (h:mZ B n c s f w E res lo hi v l) (hl:B.length≤B'.length) (he:∀ i,i < n→B'[i]? = B[i]?):mZ B' n c s f w E res lo hi v l:=by
 obtain ⟨n1,n2,n3,n4,n5⟩:=h.nb
 exact ⟨h.k.eC (he _ n1) (he _ n2) (he _ n3) (he _ n4),h.own.frame fun i _ hi=>he i (by omega),h.oc,h.os,h.of,h.ow,h.nb,by have:=h.nl;omega⟩
theorem mZ.more {J:List (List V)} {l:List aj} (h:mZ B n c s f w E res lo hi v l):mZ (B++J) n c s f w E res lo hi v l :=
 h.mem (by simp) fun i hi=>ah (Nat.lt_of_lt_of_le hi h.nl)
theorem mZ.OK {B':List (List V)} {J:Nat} {l l':List aj} (h:mZ B n c s f w E res lo hi v l) (hJ:n≤J) (he:cx J lo hi n B B') (ho:fX B' l' lo hi v):mZ B' n c s f w E res lo hi v l':=by
 obtain ⟨n1,n2,n3,n4,n5⟩:=h.nb
 exact ⟨h.k.eC (he.2.1 _ n1 ⟨by omega,h.oc⟩) (he.2.1 _ n2 ⟨by omega,h.os⟩) (he.2.1 _ n3 ⟨by omega,h.of⟩) (he.2.1 _ n4 ⟨by omega,h.ow⟩),ho,h.oc,h.os,h.of,h.ow,h.nb,by have:=h.nl;have:=he.1;omega⟩
theorem mZ.bx {l:List aj} (h:mZ B n c s f w E res lo hi v l) (hn:l ≠ []):∃ j1 m cap,v = .bx j1 m cap∧m=l.length:=by
 rcases h.own with ⟨h0,_⟩ | ⟨_,j1,cap,Y,h1,_⟩
 ·exact absurd (List.length_eq_zero_iff.1 h0) hn
 ·exact ⟨j1,_,cap,h1,rfl⟩
theorem mZ.qI {j1 m cap:Nat} {l:List aj} {y:aj} (h:mZ B n c s f w E res lo hi (.bx j1 m cap) l) {k:Nat} (hk:l[k]? = some y) :
 ∃ (eL dK:Nat) (A1 C1:List V) (mX:V),A1.length=k * 8∧cl B n c s f w E res j1 eL dK A1 C1 mX y ∧
  (∀ J B1 q,cx j1 eL dK q B B1→cx J lo hi q B B1) ∧
  ∀ B1 z,lu j1 eL dK A1 C1 mX B B1 (some z)→mZ B1 n c s f w E res lo hi (.bx j1 m cap) (l.set k z):=by
 have au:=(List.getElem?_eq_some_iff.1 hk).1
 rcases h.own with ⟨h0,_⟩ | ⟨hn,j1',cu,Y,h1,h2,h3,h4,h5⟩
 ·omega
 obtain ⟨rfl,rfl,rfl⟩:=V.bx.inj h1
 rw [jA] at h5
 obtain ⟨A1,r,C1,eL,dK,e1,e2,e3,e4,e5,e6,e7,e8⟩:=h5.at k y hk
 obtain ⟨mX,rfl,hv⟩:=iW.1 e7
 obtain ⟨n1,n2,n3,n4,n6⟩:=h.nb
 have sub:∀ i,(i < lo∨hi≤i)→Out j1 eL dK i:=fun i hi=>⟨by omega,by omega⟩
 have hE:∀ J B1 q,cx j1 eL dK q B B1→cx J lo hi q B B1:=fun J B1 q he=>he.sub h2 h3 (by omega) e6
 refine ⟨eL,dK,A1,C1,mX,e2,⟨h.k,by rw [h4,e1],hv,by omega,sub _ h.oc,sub _ h.os,sub _ h.of,sub _ h.ow,⟨n1,n2,n3,n4,by omega,by omega⟩,h.nl⟩,hE,fun B1 z hd=>?_⟩
 have he:=hd.1.less h.nl
 refine h.OK (Nat.le_refl n) (hE n _ _ he) (.inr ⟨by rw [List.length_set];exact hn,j1,cap,_,by rw [List.length_set],h2,h3,(hd.2.2 z rfl).1,?_⟩)
 rw [jA]
 refine e8 (iV B1) z _ rfl (iW.2 ⟨_,rfl,(hd.2.2 z rfl).2⟩) fun u _ a b q ha hb hc hf=>iV.frame u hf fun i h7 h8=>he.2.1 i (by omega) ⟨by omega,by omega⟩
theorem NA.refl {r:Option (List aj)} (hr:r=none):NA lo hi v B B r:=⟨.refl _ _ _ _ _,rfl,fun z hz=>by rw [hr] at hz;cases hz⟩
theorem Xq.ne {l:List aj} (h:mZ B n c s f w E res lo hi v l) (ts:List aA):∃ u S',Xq (cY E l ts) lo hi v B T u S':=by
 cases hr:cY E l ts with
 | none=>exact ⟨_,_,B,rfl,.refl rfl,rfl⟩
 | some m =>
  obtain ⟨B1,i1,i2⟩:=Bz h.own (nI hr).symm
  exact ⟨_,_,B1,rfl,⟨⟨by rw [i1.1];exact Nat.le_refl _,fun i _ ho=>i1.2.1 i (by have:=ho.2;omega),fun i _=>i1.2.2 i⟩,i1.1,fun l hl=>by rw [← Option.some.inj hl];exact i2⟩,rfl⟩
structure VOk (E:bP) (res:List aA) (n c s f w lo hi:Nat) (v:V) (l:List aj) (ts:List aA) (B:List (List V)) (a:Xr):Prop where
 le:a.i≤l.length
 le':a.i≤ts.length
 len:a.ys.length=a.i
 OK:cx B.length lo hi B.length B a.B
 bl:a.B.length=B.length
 at':mZ a.B n c s f w E res lo hi v (a.ys++l.drop a.i)
 res:l.length=ts.length→(bt E (l.drop a.i) (ts.drop a.i)).map (a.ys++·)=bt E l ts
set_option maxHeartbeats 8000000 in
theorem zY {l:List aj} (hT:og E.su E.fu) (hl:∀ y∈l,dN E res y) (Gy:∀ y∈l,∀ z∈y.kids,dN E res z) (hlen:l.length≤60000) (ts:List aA) (h:mZ B n c s f w E res lo hi v l):aF Tryz.prog av 110 [.ptr c 0,v,.d (.sl (ts.map dR))] ⟨B,T⟩ (Xq (cY E l ts) lo hi v B T):=by
 obtain ⟨N,hn⟩:∃ N,B.length=N:=⟨_,rfl⟩
 have gS:=h.nl
 have yW:=Bt h.own
 rw [fP.eq_1,zT] at yW
 have ir:∀ M:List (List V),M.length=B.length→M.take B.length=M:=fun M hM=>List.take_of_length_le (by omega)
 have main:cY E l ts=bt E l ts→af Tryz.prog av (N,T.length) 110 [.code (.loop (kF Tryz.f110 17)),.inBlock 0,.code (kF Tryz.f110 35)] (aR 65 [(0,.ptr c 0),(1,v),(2,.d (.sl (ts.map dR))),(38,v),(39,.d (.int .i64 (l.length:Int))),(40,.d (.int .i64 0))]) ⟨B,T⟩ (Go.Ab.Left ⟨B,T⟩ (Xq (cY E l ts) lo hi v B T)):=by
  intro hv
  rw [hv]
  refine af.cV (fun a:Xr=>(aR 65 [(0,.ptr c 0),(1,v),(2,.d (.sl (ts.map dR))),(39,.d (.int .i64 (l.length:Int))),(40,.d (.int .i64 (a.i:Int)))],⟨a.B,T⟩)) (VOk E res n c s f w lo hi v l ts B) (fun a=>l.length - a.i) ⟨0,[],B⟩ ⟨Nat.zero_le _,Nat.zero_le _,rfl,.refl _ _ _ _ _,rfl,by simpa using h,fun _=>by simp⟩ ?_ rfl ?_
  ·skip
   refine ay.env _ ?_
   simp only [cD,seval]
  rintro ⟨i,ys,Bi⟩ ⟨h2,SQ,h3,h4,h5,h6,h7⟩ ih
  dsimp only at h2 SQ h3 h4 h5 h6 h7 ih ⊢
  have hbi:Bi.length=N:=h5.trans hn
  by_cases au:i < l.length
  case neg =>
   have e2:decide ((i:Int) < (l.length:Int))=false:=decide_eq_false (by omega)
   obtain rfl:i=l.length:=by omega
   rw [List.drop_eq_nil_of_le (Nat.le_refl _),List.append_nil] at h6
   by_cases nN:l.length=ts.length
   ·have e3:decide ((l.length:Int)=(ts.length:Int))=true:=decide_eq_true (by omega)
    have h7:=h7 nN
    rw [List.drop_eq_nil_of_le (Nat.le_refl _),List.drop_eq_nil_of_le (by omega)] at h7
    rw [GD,Option.map_some,List.append_nil] at h7
    refine af.go 160 ?_
    simp only [W,seval,pe,e2,yW,e3]
    refine af.ret Tryz.func110 rfl (aq h4 ?_)
    rw [ir _ h5,← h7]
    exact ⟨_,rfl,⟨h4,h5,fun m hm=>by rw [← Option.some.inj hm];exact h6.own⟩,rfl⟩
   ·have e3:decide ((l.length:Int)=(ts.length:Int))=false:=decide_eq_false (by omega)
    refine af.go 160 ?_
    simp only [W,seval,pe,e2,yW,e3]
    refine af.ret Tryz.func110 rfl (aq h4 ?_)
    rw [ir _ h5,lA E _ _ nN]
    exact ⟨_,rfl,⟨h4,h5,fun m hm=>by cases hm⟩,rfl⟩
  have e2:decide ((i:Int) < (l.length:Int))=true:=decide_eq_true (by omega)
  have oO:=az ((i:Int)+1) (by omega)
  by_cases NB:i < ts.length
  case neg =>
   have e3:decide ((ts.length:Int)≤(i:Int))=true:=decide_eq_true (by omega)
   refine af.go 160 ?_
   simp only [W,seval,pe,e2]
   refine af.bE 16 [] [] (by kernel_rfl) (by kernel_rfl) (by kernel_rfl) (by kernel_rfl) (by kernel_rfl) (by kernel_rfl) (by kernel_rfl) ?_
   simp (maxSteps:=4000000) only [W,seval,pe,xw,e3,Bool.not_true,Bool.not_false]
   refine af.go 60 ?_
   simp only [W,seval,pe]
   refine af.ret Tryz.func110 rfl (aq h4 ?_)
   rw [ir _ h5,lA E _ _ (by omega)]
   exact ⟨_,rfl,⟨h4,h5,fun m hm=>by cases hm⟩,rfl⟩
  have e3:decide ((ts.length:Int)≤(i:Int))=false:=decide_eq_false (by omega)
  obtain ⟨y,hy⟩:∃ y,l[i]=y:=⟨_,rfl⟩
  obtain ⟨t,ht⟩:∃ t,ts[i]=t:=⟨_,rfl⟩
  have fD:=hl l[i] (List.getElem_mem au)
  have hg:(ts.map dR)[i]? = some (dR ts[i]):=by simp [NB]
  rw [ht,cB] at hg
  rw [hy] at fD
  have mO:(ys++l.drop i)[i]? = some y:=by rw [xy _ _ h3,List.getElem?_eq_getElem au,hy]
  obtain ⟨j1,m,cap,rfl,ni⟩:=h6.bx (by intro h0;rw [h0] at mO;simp at mO)
  have hm:(i:Int) < (m:Int):=by have:=(List.getElem?_eq_some_iff.1 mO).1;omega
  obtain ⟨eL,dK,A1,C1,mX,a1,k1,k2,k3⟩:=h6.qI mO
  have hh:=iY (T:=T) fD t k1
  rw [a1] at hh
  unfold aY at hh
  refine af.go 160 ?_
  simp only [W,seval,pe,e2]
  refine af.bE 16 [] [] (by kernel_rfl) (by kernel_rfl) (by kernel_rfl) (by kernel_rfl) (by kernel_rfl) (by kernel_rfl) (by kernel_rfl) ?_
  simp (maxSteps:=4000000) only [W,seval,pe,xw,iL,e3,Bool.not_true,Bool.not_false,hm,hg,NB]
  refine cM (qt.ne (T:=T) k1 t) hh ?_
  rintro u _ ⟨B2,rfl,eg,rfl⟩
  have e4:cx B.length lo hi B.length B B2:=h4.step (k2 _ _ _ eg.1)
  have ou:B2.length=B.length:=eg.2.1.trans h5
  refine ⟨trivial,?_⟩
  simp (maxSteps:=4000000) only [W,seval,pe,xw,oO]
  cases hw:bf (aE E y t) t with
  | none =>
   refine af.go 60 ?_
   simp only [W,seval,pe,Option.isSome_none,Bool.not_false]
   refine af.ret Tryz.func110 rfl (aq e4 ?_)
   rw [ir _ ou]
   have hr:bt E l ts=none:=by
    by_cases nN:l.length=ts.length
    ·rw [← h7 nN,o7 E _ _ i au NB,ht,hy,hw];rfl
    ·exact lA E _ _ nN
   rw [hr]
   exact ⟨_,rfl,⟨e4,ou,fun m hm=>by cases hm⟩,rfl⟩
  | some z =>
   rw [hw] at eg
   refine af.go 60 ?_
   simp only [W,seval,pe,Option.isSome_some,Bool.not_true,oO]
   have h8:=k3 B2 z eg
   rw [sK _ _ h3 au] at h8
   refine ih ⟨i+1,ys++[z],B2⟩ ⟨au,NB,by simp [h3],e4,ou,h8,fun nN=>?_⟩ (by dsimp only;omega) _ _ ?_ rfl
   ·rw [← h7 nN,o7 E _ _ i au NB,ht,hy,hw]
    dsimp only
    cases bt E (l.drop (i+1)) (ts.drop (i+1))<;>simp
   ·skip
    refine ay.env _ ?_
    simp only [cD,seval]
 by_cases h1:l.length=1
 case neg =>
  have e1:decide ((l.length:Int)=1)=false:=decide_eq_false (by omega)
  refine QT.go 160 rfl fun bk=>?_
  simp only [dP] at bk
  simp only [W,seval,pe,hn,yW,e1]
  refine af.fV ?_ (main ?_)
  ·skip
   refine ay.env _ ?_
   simp only [cD,seval]
  ·match l,h1 with
   | [],_=>rfl
   | [_],h1=>exact absurd rfl h1
   | _ :: _ :: _,_=>rfl
 have e1:decide ((l.length:Int)=1)=true:=decide_eq_true (by omega)
 obtain ⟨x,rfl⟩:=List.length_eq_one_iff.1 h1
 by_cases h2:1 < ts.length
 case neg =>
  have e2:decide ((1:Int) < (ts.length:Int))=false:=decide_eq_false (by omega)
  refine QT.go 160 rfl fun bk=>?_
  simp only [dP] at bk
  simp only [W,seval,pe,hn,yW,e1,e2]
  refine af.fV ?_ (main ?_)
  ·skip
   refine ay.env _ ?_
   simp only [cD,seval]
   all_goals rfl
  ·rw [pg,if_neg fun h=>h2 h.1]
 have e2:decide ((1:Int) < (ts.length:Int))=true:=decide_eq_true (by omega)
 obtain ⟨j1,m,cap,rfl,ni⟩:=h.bx (by simp)
 have hm:(0:Int) < (m:Int):=by rw [ni];simp
 have NC:decide ((m:Int)=1)=true:=by rw [ni];rfl
 obtain ⟨eL,dK,A1,C1,mX,a1,k1,k2,k3⟩:=h.qI (k:=0) (y:=x) rfl
 rw [Nat.zero_mul] at a1
 obtain ⟨Y,hY⟩:∃ Y,A1++aV x mX++C1=Y:=⟨_,rfl⟩
 obtain ⟨y0,y7,y8,y9⟩:=Br hY.symm a1
 have aD:=k1.row
 rw [hY] at aD
 have qR:j1 < N:=by have:=k1.nb;omega
 by_cases h7:x.kind=7
 case neg =>
  have e7:=decide_eq_false h7
  refine QT.go 160 rfl fun bk=>?_
  simp only [dP] at bk
  simp only [W,seval,pe,iL,hn,NC,e2,hm,qR,aD,y0,e7]
  refine af.fV ?_ (main ?_)
  ·skip
   refine ay.env _ ?_
   simp only [cD,seval]
   all_goals (rw [ni])
  ·rw [pg,if_neg fun h=>h7 h.2]
 have e7:=decide_eq_true h7
 have hc:=zU (T:=T) hT (Gy x (by simp)) k1
 rw [a1] at hc
 have hva:cY E [x] ts=match kj E x with
  | some (y,rs)=>if fK rs ts=true then some [y] else none
  | none=>none:=by rw [pg,if_pos ⟨h2,h7⟩]
 rw [hva]
 refine QT.go 160 rfl fun bk=>?_
 simp only [dP] at bk
 simp only [W,seval,pe,iL,hn,NC,e2,hm,qR,aD,y0,e7]
 refine aU hc ?_
 rintro u _ ⟨B1,rfl,hd,hv⟩
 have e3:=k2 B.length _ _ hd.1
 cases hr:kj E x with
 | none =>
  rw [hr] at hv
  obtain rfl:u=_:=hv
  refine af.go 60 ?_
  simp only [W,seval,pe]
  refine af.ret Tryz.func110 rfl (aq e3 ?_)
  rw [ir _ hd.2.1]
  exact ⟨_,rfl,⟨e3,hd.2.1,fun m hm=>by cases hm⟩,rfl⟩
 | some p =>
  obtain ⟨y,rs⟩:=p
  rw [hr] at hv hd
  obtain rfl:u=_:=hv
  dsimp only
  refine af.go 60 ?_
  simp only [W,seval,pe]
  refine ag (lp 37 [] [] qF rs ts B1 T fun x _ y _ J=>DP x y _) ?_
  rintro _ _ ⟨rfl,rfl⟩
  rw [Eg]
  refine af.go 60 ?_
  simp only [W,seval,pe]
  refine af.ret Tryz.func110 rfl (aq e3 ?_)
  rw [ir _ hd.2.1]
  cases fK rs ts with
  | false=>exact ⟨_,rfl,⟨e3,hd.2.1,fun m hm=>by cases hm⟩,rfl⟩
  | true=>exact ⟨_,rfl,⟨e3,hd.2.1,fun m hm=>by rw [← Option.some.inj hm];exact (k3 B1 y hd).own⟩,rfl⟩
end
def BA:=by
 have c:=aM Tryz.f109 (by conv=>lhs;cbv)
 dsimp only [KK,eN,eG,eH,List.map_cons,List.map_nil,List.toList_toArray] at c
 exact c
theorem aa1:bI Tryz.prog 109 Tryz.f109 43:=⟨Tryz.func109,by kernel_rfl⟩
def ja (w p lo hi n m:Nat) (B B':List (List V)):Prop:=B.length≤B'.length∧(∀ i,i < n→i ≠ w→i ≠ p→(i < lo∨hi≤i)→B'[i]? = B[i]?)∧∀ i,i < n→∀ Y,B'[i]? = some Y→∀ v∈Y,(∃ X,B[i]? = some X∧v∈X)∨fit 0 0 v=true∨(i=p∧fit 0 m v=true)
section
variable {w p lo hi n m:Nat} {B B1 B2:List (List V)}
theorem ja.mem (h:ja w p lo hi n m B B1) (hl:B.length≤B2.length) (he:∀ i,i < n→B2[i]? = B1[i]?):ja w p lo hi n m B B2 :=
 ⟨hl,fun i hn h1 h2 h3=>(he i hn).trans (h.2.1 i hn h1 h2 h3),fun i hn Y hY v hv=>h.2.2 i hn Y (by rw [← he i hn];exact hY) v hv⟩
theorem ja.refl (w p lo hi n m:Nat) (B:List (List V)):ja w p lo hi n m B B:=⟨Nat.le_refl _,fun _ _ _ _ _=>rfl,fun _ _ Y hY _ hv=>.inl ⟨Y,hY,hv⟩⟩
theorem ja.trans (h:ja w p lo hi n m B B1) (h1:ja w p lo hi n m B1 B2):ja w p lo hi n m B B2 :=
 ⟨Nat.le_trans h.1 h1.1,fun i hn a b c=>(h1.2.1 i hn a b c).trans (h.2.1 i hn a b c),fun i hn Y hY v hv=>(h1.2.2 i hn Y hY v hv).elim (fun ⟨X,hX,hm⟩=>h.2.2 i hn X hX v hm) .inr⟩
theorem ja.fV {w1 p1 eL dK n1 m1:Nat} (h:ja w1 p1 eL dK n1 m1 B B1) (hn:n≤n1) (hm:(p1=p∧m1≤m)∨n≤p1∨m1=0) (hw:w1=w∨w1=p∨(lo≤w1∧w1 < hi)∨n≤w1) (hp:p1=w∨p1=p∨(lo≤p1∧p1 < hi)∨n≤p1) (Ct:lo≤eL) (RF:dK≤hi):ja w p lo hi n m B B1 :=
 ⟨h.1,fun i a b c d=>h.2.1 i (by omega) (by omega) (by omega) (by omega),fun i a Y hY v hv=>(h.2.2 i (by omega) Y hY v hv).imp id fun h=>h.elim .inl fun ⟨h1,h2⟩=>by
  rcases hm with ⟨e,hm⟩ | hm | hm
  ·exact .inr ⟨h1.trans e,mP (Nat.le_refl _) hm v h2⟩
  ·omega
  ·rw [hm] at h2;exact .inl h2⟩
theorem cx.Y0 {J:Nat} (h:cx J lo hi n B B1) (hJ:n≤J∨J=w∨J=p∨(lo≤J∧J < hi)):ja w p lo hi n m B B1 :=
 ⟨h.1,fun i a b c d=>h.2.1 i a ⟨by omega,d⟩,fun i a Y hY v hv=>(h.2.2 i a Y hY v hv).imp id .inl⟩
theorem ja.step (h0:ja w p lo hi B.length m B B1) (h:ja w p lo hi B1.length m B1 B2):ja w p lo hi B.length m B B2 :=
 h0.trans (h.fV h0.1 (.inl ⟨rfl,Nat.le_refl _⟩) (.inl rfl) (.inr (.inl rfl)) (Nat.le_refl _) (Nat.le_refl _))
theorem ja.app {J:List (List V)} (h0:ja w p lo hi B.length m B B1):ja w p lo hi B.length m B (B1++J):=h0.mem (by have:=h0.1;rw [List.length_append];omega) fun i hi=>ah (Nat.lt_of_lt_of_le hi h0.1)
theorem ja.jB {k:Nat} {x:List V} (h0:ja w p lo hi B.length m B B1) (hk:B.length≤k):ja w p lo hi B.length m B (B1.set k x):=h0.mem (by rw [List.length_set];exact h0.1) fun i hi=>List.getElem?_set_ne (by omega)
theorem ja.cut (h:ja w p lo hi B.length m B B1):ja w p lo hi B.length m B (B1.take B.length):=h.mem (by have:=h.1;rw [List.length_take];omega) fun i hi=>by rw [List.getElem?_take,if_pos hi]
theorem ja.put {k:Nat} {x:List V} (h0:ja w p lo hi n m B B1) (hk:k=w∨k=p∨(lo≤k∧k < hi)) (hx:∀ v∈x,fit 0 0 v=true∨(k=p∧fit 0 m v=true)):ja w p lo hi n m B (B1.set k x):=by
 refine ⟨by rw [List.length_set];exact h0.1,fun i a b c d=>?_,fun i a Y hY v hv=>?_⟩
 ·rw [List.getElem?_set_ne (by omega)];exact h0.2.1 i a b c d
 ·by_cases e:k=i
  ·subst e
   by_cases hl:k < B1.length
   ·rw [List.getElem?_set_self hl] at hY
    obtain rfl:=Option.some.inj hY
    exact .inr (hx v hv)
   ·rw [List.getElem?_eq_none (by rw [List.length_set];omega)] at hY
    cases hY
  ·rw [List.getElem?_set_ne e] at hY
   exact h0.2.2 i a Y hY v hv
end
theorem xD {w p lo hi m:Nat} {B M:List (List V)} {T T' K:List (Nat × Nat)} {R:V→Mem→Prop} {v:V} (he:ja w p lo hi B.length m B M) (hm:m≤T.length) (hT:T'.length=T.length) (h:R (wk B.length T.length v) ⟨M.take B.length,T'⟩):Go.Ab.Left ⟨B,T⟩ R v ⟨M,T'++K⟩:=by
 have hl:(M.take B.length).length=B.length:=by have:=he.1;rw [List.length_take];omega
 have:=Go.Ab.Left.ZC (J:=M.drop B.length) (U:=T') (K:=K) hl hT (fun i vs hi v hv=>?_) h
 ·rwa [List.take_append_drop] at this
 ·have au:i < B.length:=by have:=(List.getElem?_eq_some_iff.1 hi).1;omega
  rw [List.getElem?_take,if_pos au] at hi
  exact (he.2.2 i au vs hi v hv).imp id fun h=>h.elim (fun h=>mP (Nat.zero_le _) (Nat.zero_le _) v h) fun h=>mP (Nat.zero_le _) hm v h.2
theorem dm {w p lo hi m:Nat} {B M:List (List V)} {T T':List (Nat × Nat)} {R:V→Mem→Prop} {v:V} (he:ja w p lo hi B.length m B M) (hm:m≤T.length) (hT:T'.length=T.length) (h:R (wk B.length T.length v) ⟨M.take B.length,T'⟩):Go.Ab.Left ⟨B,T⟩ R v ⟨M,T'⟩:=by
 have:=xD (K:=[]) he hm hT h
 rwa [List.append_nil] at this
structure Lay where
 j:Nat
 lo:Nat
 m1:Nat
 m2:Nat
 m3:Nat
 m4:Nat
 hi:Nat
 A:List V
 C:List V
 v1:V
 v2:V
 v3:V
 v4:V
 v5:V
def Lay.row (L:Lay) (x:aH):List V:=L.A++dg x L.v1 L.v2 L.v3 L.v4 L.v5++L.C
def Lay.parts (L:Lay) (B:List (List V)) (x:aH):Prop:=uI B x L.lo L.m1 L.m2 L.m3 L.m4 L.hi L.v1 L.v2 L.v3 L.v4 L.v5
structure qL (B:List (List V)) (n c s f w:Nat) (E:bP) (res:List aA) (L:Lay) (x:aH):Prop where
 k:sD B c s f w E res
 row:B[L.j]? = some (L.row x)
 own:L.parts B x
 jo:L.j < L.lo∨L.hi≤L.j
 oc:Out L.j L.lo L.hi c
 os:Out L.j L.lo L.hi s
 of:Out L.j L.lo L.hi f
 ow:Out L.j L.lo L.hi w
 wd:c ≠ w∧s ≠ w∧f ≠ w
 nb:c < n∧s < n∧f < n∧w < n∧L.j < n∧L.hi≤n
 nl:n≤B.length
structure mG (B:List (List V)) (n c s f w:Nat) (E:bP) (res:List aA) (lo hi:Nat) (v:V) (l:List aH):Prop where
 k:sD B c s f w E res
 own:fS B l lo hi v
 oc:c < lo∨hi≤c
 os:s < lo∨hi≤s
 of:f < lo∨hi≤f
 ow:w < lo∨hi≤w
 wd:c ≠ w∧s ≠ w∧f ≠ w
 nb:c < n∧s < n∧f < n∧w < n∧hi≤n
 nl:n≤B.length
def Eh (w lo hi:Nat) (v:V) (vs:List bH) (B B':List (List V)) (r:Option (List aH)):Prop:=ja w w lo hi B.length 0 B B'∧B'.length=B.length∧∀ l,r=some l→fS B' l lo hi v∧B'[w]? = some (qH vs)
def Vk (r:Option (List aH)) (w lo hi:Nat) (v:V) (vs:List bH) (B:List (List V)) (T:List (Nat × Nat)) (u:V) (S':Mem):Prop :=
 ∃ B',S' = ⟨B',T⟩∧Eh w lo hi v vs B B' r∧u = .d (.bool r.isSome)
def QU (su:List cG) (fu:List cn) (res:List aA) (l:List aH):Prop:=∀ (vs:List bH) (n c s f w:Nat) (B:List (List V)) (T:List (Nat × Nat)) (lo hi:Nat) (v:V),(∀ p∈vs,TW p.type)→mG B n c s f w ⟨su,fu,vs⟩ res lo hi v l →
 aF Tryz.prog av 27 [.ptr c 0,v] ⟨B,T⟩ (Vk (bU su fu res l vs) w lo hi v vs B T)
def OL (r:Option (aH × List bH)) (L:Lay) (w p M:Nat) (vs:List bH) (nm:List (List UInt8)) (B:List (List V)) (T:List (Nat × Nat)) (u:V) (S':Mem):Prop :=
 ∃ B' T',S' = ⟨B',T'⟩∧B'.length=B.length∧T'.length=T.length∧(∀ q,q ≠ M→T'[q]? = T[q]?)∧ja w p L.lo L.hi B.length T.length B B'∧u = .d (.bool r.isSome) ∧
  ∀ x oE,r=some (x,oE)→L.parts B' x∧B'[L.j]? = some (L.row x)∧∃ ks,oE=vs++ks∧B'[w]? = some (qH oE)∧B'[p]? = some [.sl (ij (nm++ks.map bH.name)) (.own M)]∧T'[M]? = some ((nm++ks.map bH.name).length,1)
def Um (su:List cG) (fu:List cn) (res:List aA) (x:aH):Prop:=∀ (vs:List bH) (n c s f w:Nat) (B:List (List V)) (T:List (Nat × Nat)) (L:Lay) (p M:Nat) (nm:List (List UInt8)),(∀ p∈vs,TW p.type)→qL B n c s f w ⟨su,fu,vs⟩ res L x→n≤p→B[p]? = some [.sl (ij nm) (.own M)]→T[M]? = some (nm.length,1)→nm.length≤60000 →
 aF Tryz.prog av 75 [.ptr c 0,.ptr L.j L.A.length,.ptr p 0] ⟨B,T⟩ (OL (gh su fu res x vs) L w p M vs nm B T)
section
variable {E:bP} {res:List aA} {n c s f w:Nat} {B B':List (List V)} {T:List (Nat × Nat)} {L:Lay} {x:aH} {lo hi:Nat} {v:V} {l:List aH}
theorem qL.mem (h:qL B n c s f w E res L x) (hl:B.length≤B'.length) (he:∀ i,i < n→B'[i]? = B[i]?):qL B' n c s f w E res L x:=by
 obtain ⟨n1,n2,n3,n4,n5,n6⟩:=h.nb
 obtain ⟨l1,l2,l3,l4,l5⟩:=h.own.le
 exact ⟨h.k.eC (he _ n1) (he _ n2) (he _ n3) (he _ n4),by rw [he _ n5];exact h.row,⟨h.own.1.frame fun i _ hi=>he i (by omega),h.own.2.1.frame fun i _ hi=>he i (by omega),h.own.2.2.1.frame fun i _ hi=>he i (by omega),h.own.2.2.2.1.frame fun i _ hi=>he i (by omega),h.own.2.2.2.2.frame fun i _ hi=>he i (by omega)⟩,h.jo,h.oc,h.os,h.of,h.ow,h.wd,h.nb,by have:=h.nl;omega⟩
theorem qL.more {J:List (List V)} (h:qL B n c s f w E res L x):qL (B++J) n c s f w E res L x :=
 h.mem (by simp) fun i hi=>ah (Nat.lt_of_lt_of_le hi h.nl)
theorem qL.aG (h:qL B n c s f w E res L x):mZ B n c s f w E res L.lo L.m1 L.v1 x.aG:=by
 obtain ⟨n1,n2,n3,n4,n5,n6⟩:=h.nb
 obtain ⟨l1,l2,l3,l4,l5⟩:=h.own.le
 exact ⟨h.k,h.own.1,by have:=h.oc.2;omega,by have:=h.os.2;omega,by have:=h.of.2;omega,by have:=h.ow.2;omega,⟨n1,n2,n3,n4,by omega⟩,h.nl⟩
theorem qL.exprs (h:qL B n c s f w E res L x):mZ B n c s f w E res L.m1 L.m2 L.v2 x.exprs:=by
 obtain ⟨n1,n2,n3,n4,n5,n6⟩:=h.nb
 obtain ⟨l1,l2,l3,l4,l5⟩:=h.own.le
 exact ⟨h.k,h.own.2.1,by have:=h.oc.2;omega,by have:=h.os.2;omega,by have:=h.of.2;omega,by have:=h.ow.2;omega,⟨n1,n2,n3,n4,by omega⟩,h.nl⟩
theorem qL.body (h:qL B n c s f w E res L x):mG B n c s f w E res L.m2 L.m3 L.v3 x.body:=by
 obtain ⟨n1,n2,n3,n4,n5,n6⟩:=h.nb
 obtain ⟨l1,l2,l3,l4,l5⟩:=h.own.le
 exact ⟨h.k,h.own.2.2.1,by have:=h.oc.2;omega,by have:=h.os.2;omega,by have:=h.of.2;omega,by have:=h.ow.2;omega,h.wd,⟨n1,n2,n3,n4,by omega⟩,h.nl⟩
theorem qL.dh (h:qL B n c s f w E res L x):mG B n c s f w E res L.m3 L.m4 L.v4 x.dh:=by
 obtain ⟨n1,n2,n3,n4,n5,n6⟩:=h.nb
 obtain ⟨l1,l2,l3,l4,l5⟩:=h.own.le
 exact ⟨h.k,h.own.2.2.2.1,by have:=h.oc.2;omega,by have:=h.os.2;omega,by have:=h.of.2;omega,by have:=h.ow.2;omega,h.wd,⟨n1,n2,n3,n4,by omega⟩,h.nl⟩
theorem gI {X A C:List V} {x:aH} {v1 v2 v3 v4 v5:V} {a:Nat} (hX:X=A++dg x v1 v2 v3 v4 v5++C) (ha:A.length=a) :
 X[a]? = some (.d (.int .i64 x.kind))∧X[a+1]? = some (.d (.sl (ij x.names)))∧X[a+5]? = some v1∧X[a+6]? = some v2∧X[a+7]? = some v3∧X[a+8]? = some v4∧X[a+9]? = some v5∧a+2+3≤X.length∧(X.drop (a+2)).take 3=jK x.type∧a+10≤X.length∧(X.drop a).take 10=dg x v1 v2 v3 v4 v5:=by
 have e:X=A++(dg x v1 v2 v3 v4 v5++C):=by rw [hX,List.append_assoc]
 have g:∀ q,X[a+q]? = (dg x v1 v2 v3 v4 v5++C)[q]?:=fun q=>by rw [e,List.getElem?_append_right (by omega)];congr 1;omega
 have d:∀ q,X.drop (a+q)=(dg x v1 v2 v3 v4 v5++C).drop q:=fun q=>by rw [e,List.drop_append,List.drop_of_length_le (by omega),List.nil_append];congr 1;omega
 have hl:X.length=a+10+C.length:=by rw [e,List.length_append,List.length_append,ha];simp [dg];omega
 refine ⟨g 0,g 1,g 5,g 6,g 7,g 8,g 9,by omega,by rw [d 2];rfl,by omega,?_⟩
 have:=d 0
 rw [Nat.add_zero] at this
 rw [this];rfl
end
theorem cx.wide {J J' lo hi eL dK n:Nat} {B B1:List (List V)} (h:cx J eL dK n B B1) (hJ:n≤J) (h1:lo≤eL) (h2:dK≤hi):cx J' lo hi n B B1 :=
 ⟨h.1,fun i hn ho=>h.2.1 i hn ⟨by omega,by have:=ho.2;omega⟩,h.2.2⟩
def seG (r:Option (List aj)) (L:Lay) (x:aH) (B:List (List V)) (T:List (Nat × Nat)) (u:V) (S':Mem):Prop :=
 ∃ B',S' = ⟨B',T⟩∧B'.length=B.length∧cx B.length L.lo L.m2 B.length B B'∧u = .d (.bool r.isSome)∧∀ es,r=some es→fX B' x.aG L.lo L.m1 L.v1∧fX B' es L.m1 L.m2 L.v2
structure TSt where
 i:Nat
 ts:List aA
 B:List (List V)
structure TOk (E:bP) (res:List aA) (n c s f w:Nat) (L:Lay) (l:List aj) (B:List (List V)) (a:TSt):Prop where
 le:a.i≤l.length
 len:a.ts.length=a.i
 OK:cx B.length L.lo L.m1 B.length B a.B
 at':mZ a.B n c s f w E res L.lo L.m1 L.v1 l
 res:(lf E (l.drop a.i)).map (a.ts++·)=lf E l
theorem GF (E:bP) (l:List aj) (i:Nat) (h:i < l.length):lf E (l.drop i)=match aE E l[i] aQ with
 | some (_,t)=>(lf E (l.drop (i+1))).map fun ts=>t :: ts
 | none=>none:=by
 rw [List.drop_eq_getElem_cons h]
 conv=>lhs;unfold lf
 rfl
theorem pq {α:Type} (l:List α) (i:Nat) (x:α) (h:l[i]? = some x):l.set i x=l:=by
 apply List.ext_getElem?
 intro k
 by_cases e:i=k
 ·subst e
  rw [List.getElem?_set_self (List.getElem?_eq_some_iff.1 h).1,h]
 ·rw [List.getElem?_set_ne e]
section
variable {E:bP} {res:List aA} {n c s f w:Nat} {B:List (List V)} {T:List (Nat × Nat)} {L:Lay}
set_option maxHeartbeats 8000000 in
theorem Un {x:aH} (hT:og E.su E.fu) (U7:∀ y∈x.aG,dN E res y∧∀ w z t,aE E y w=some (z,t)→z=y) (hl:∀ y∈x.exprs,dN E res y) (Gy:∀ y∈x.exprs,∀ z∈y.kids,dN E res z) (hlen:x.exprs.length≤60000) (Sh:x.aG.length≤60000) (h:qL B n c s f w E res L x) :
 aF Tryz.prog av 109 [.ptr c 0,.ptr L.j L.A.length] ⟨B,T⟩ (seG (match lf E x.aG with
  | some ts=>cY E x.exprs ts
  | none=>none) L x B T):=by
 obtain ⟨N,hn⟩:∃ N,B.length=N:=⟨_,rfl⟩
 obtain ⟨M,hM⟩:∃ M,T.length=M:=⟨_,rfl⟩
 obtain ⟨al,dI⟩:∃ a,L.A.length=a:=⟨_,rfl⟩
 obtain ⟨j,uK⟩:∃ j,L.j=j:=⟨_,rfl⟩
 obtain ⟨X,hX⟩:∃ X,L.row x=X:=⟨_,rfl⟩
 obtain ⟨x0,x1,x5,x6,x7,x8,x9,kJ,mC,_⟩:=gI (show X=_ from hX.symm) dI
 have aD:=h.row
 rw [hX,uK] at aD
 have gS:=h.nl
 have hj:j < N:=by have:=h.nb;omega
 have Vd:=h.jo
 have hle:=h.own.le
 have yW:=Bt h.own.1
 rw [fP.eq_1,zT] at yW
 rw [dI,uK]
 refine aa1.go 160 rfl fun bk=>?_
 simp only [dP] at bk
 simp only [W,seval,BA,hn,hj,aD,x5,yW]
 refine af.token 5 [] (by rfl) 3 (by omega) rfl ?_
 simp only [rU,hM]
 refine af.cV (fun a:TSt=>(aR 43 [(0,.ptr c 0),(1,.ptr j al),(5,.sl (a.ts.map dR) (.own M)),(13,.d (.int .i64 (x.aG.length:Int))),(14,.d (.int .i64 (a.i:Int)))],⟨a.B,T++[(a.i,3)]⟩)) (TOk E res n c s f w L x.aG B) (fun a=>x.aG.length - a.i) ⟨0,[],B⟩ ⟨Nat.zero_le _,rfl,.refl _ _ _ _ _,h.aG,by simp⟩ ?_ rfl ?_
 ·skip
  refine ay.env _ ?_
  simp only [cD,seval]
  all_goals rfl
 rintro ⟨i,ts,Bi⟩ ⟨h2,h3,h4,h6,h7⟩ ih
 dsimp only at h2 h3 h4 h6 h7 ih ⊢
 obtain ⟨Ni,nh⟩:∃ Ni,Bi.length=Ni:=⟨_,rfl⟩
 have hNN:N≤Ni:=by have:=h4.1;omega
 have fC:j < Ni:=by omega
 have Si:Out B.length L.lo L.m1 j:=⟨by omega,by omega⟩
 have kn:Bi[j]? = some X:=by rw [h4.2.1 j (by omega) Si];exact aD
 by_cases au:i < x.aG.length
 case neg =>
  have e2:decide ((i:Int) < (x.aG.length:Int))=false:=decide_eq_false (by omega)
  obtain rfl:i=x.aG.length:=by omega
  rw [List.drop_eq_nil_of_le (Nat.le_refl _),lf,Option.map_some,List.append_nil] at h7
  rw [← h7]
  dsimp only
  have hse:qL Bi n c s f w E res L x:=by
   obtain ⟨n1,n2,n3,n4,n5,n6⟩:=h.nb
   have hk:∀ i,i < n→(i < L.lo∨L.m1≤i)→Bi[i]? = B[i]?:=fun i hi ho=>h4.2.1 i (by omega) ⟨by omega,ho⟩
   exact ⟨h.k.eC (hk _ n1 (by have:=h.oc.2;omega)) (hk _ n2 (by have:=h.os.2;omega)) (hk _ n3 (by have:=h.of.2;omega)) (hk _ n4 (by have:=h.ow.2;omega)),by rw [uK,kn,hX],⟨h6.own,h.own.2.1.frame fun i a _=>hk i (by omega) (by omega),h.own.2.2.1.frame fun i a _=>hk i (by omega) (by omega),h.own.2.2.2.1.frame fun i a _=>hk i (by omega) (by omega),h.own.2.2.2.2.frame fun i a _=>hk i (by omega) (by omega)⟩,h.jo,h.oc,h.os,h.of,h.ow,h.wd,h.nb,by omega⟩
  have hv:=zY (T:=T++[(x.aG.length,3)]) hT hl Gy hlen ts hse.exprs
  have hv:=aF.less (lB.same (lB.same (lB.sl (tk:=.own M) .nil))) hv
  refine af.go 160 ?_
  simp only [W,seval,BA,e2,fC,kn,x6]
  refine aU hv ?_
  rintro u _ ⟨B2,rfl,hd,rfl⟩
  have e5:cx B.length L.lo L.m2 B.length B B2:=(h4.wide (Nat.le_refl _) (Nat.le_refl _) hle.2.1).step (hd.1.wide (Nat.le_refl _) hle.1 (Nat.le_refl _))
  refine af.go 60 ?_
  simp only [W,seval,BA]
  refine af.ret Tryz.func109 rfl (xj e5 ?_)
  refine ⟨_,rfl,by have:=e5.1;rw [List.length_take];omega,e5.cut,rfl,fun es FF=>⟨?_,?_⟩⟩
  ·exact h6.own.frame fun i a b=>by rw [fN (by have:=h.nb;omega),hd.1.2.1 i (by have:=h.nb;omega) ⟨by have:=h.nb;omega,by omega⟩]
  ·exact (hd.2.2 es FF).frame fun i a b=>by rw [fN (by have:=h.nb;omega)]
 have e2:decide ((i:Int) < (x.aG.length:Int))=true:=decide_eq_true (by omega)
 have oO:=az ((i:Int)+1) (by omega)
 obtain ⟨y,hy⟩:∃ y,x.aG[i]=y:=⟨_,rfl⟩
 obtain ⟨fD,G7⟩:=U7 x.aG[i] (List.getElem_mem au)
 rw [hy] at fD G7
 have mO:x.aG[i]? = some y:=by rw [List.getElem?_eq_getElem au,hy]
 obtain ⟨j1,m,cap,TT,ni⟩:=h6.bx (by intro h0;rw [h0] at mO;simp at mO)
 rw [TT] at h6 x5
 have hm:(i:Int) < (m:Int):=by omega
 obtain ⟨eL,dK,A1,C1,mX,a1,k1,k2,k3⟩:=h6.qI mO
 refine af.go 160 ?_
 simp only [W,seval,BA,nh,e2]
 refine af.bE 13 [12] [j] (by kernel_rfl) (by kernel_rfl) (by kernel_rfl) (by kernel_rfl) (by kernel_rfl) (by kernel_rfl) (by kernel_rfl) ?_
 simp (maxSteps:=4000000) only [W,seval,BA,xw,iL,nh,fC,kn,x5,hm]
 refine bO (fun Z=>cR _ _) ?_
 simp (maxSteps:=4000000) only [W,seval,BA,xw,nh,aY]
 refine Kr fD k1 aQ a1 ?_
 intro B1 t b0 hd bg me jc
 have g1:B1[j]? = Bi[j]?:=by
  have:=(k2 B.length _ _ hd.1).2.1 j (by omega) Si
  exact this
 have e5:cx B.length L.lo L.m1 B.length B B1:=h4.step ((k2 Bi.length _ _ hd.1).wide (Nat.le_refl _) (Nat.le_refl _) (Nat.le_refl _))
 rw [nh] at bg
 refine ⟨⟨g1,trivial⟩,?_⟩
 rw [GF _ _ _ au,hy] at h7
 unfold aY
 simp (maxSteps:=4000000) only [W,seval,BA,xw,bg]
 refine ⟨g1,?_⟩
 cases b0
 ·have hr:=jc rfl
  rw [hr] at h7
  rw [← h7]
  refine af.go 60 ?_
  simp only [W,seval,BA,Bool.not_false]
  refine af.ret Tryz.func109 rfl (xj e5.app ?_)
  exact ⟨_,rfl,by have:=e5.1;rw [List.length_take,List.length_append];omega,(e5.app.wide (Nat.le_refl _) (Nat.le_refl _) hle.2.1).cut,rfl,fun es FF=>by cases FF⟩
 obtain ⟨z,hr⟩:=me rfl
 rw [hr] at h7 hd
 obtain rfl:=G7 _ _ _ hr
 have jL:=k3 B1 z hd
 rw [pq _ _ _ mO] at jL
 have Xs:ts.map dR++[[.int .i64 t.kind,.str t.name,.sl (t.elem.map dR)]]=(ts++[t]).map dR:=by
  rw [List.map_append,List.map_cons,List.map_nil,cB]
 have hr3:cy 3 [[D.int .i64 t.kind,.str t.name,.sl (t.elem.map dR)]]=true:=rfl
 have fF:(i+1) * 48≤140737488355328:=by omega
 refine af.go 160 ?_
 simp only [W,seval,BA,Bool.not_true,hM,bg,h3,bT,bC,Nat.reduceMul,fF,Xs,hr3,oO]
 refine ih ⟨i+1,ts++[t],B1++[[V.d (.int .i64 t.kind),.d (.str t.name),.d (.sl (t.elem.map dR))]]⟩ ⟨au,by simp [h3],e5.app,?_,?_⟩ (by dsimp only;omega) _ _ ?_ rfl
 ·rw [TT]
  exact jL.more
 ·dsimp only at h7 ⊢
  rw [← h7]
  cases lf E (x.aG.drop (i+1))<;>simp
 ·skip
  refine ay.env _ ?_
  simp only [cD,seval]
end
structure vc (B:List (List V)) (n c s f w:Nat) (E:bP) (res:List aA) (lo hi:Nat) (v:V) (l:List cJ):Prop where
 k:sD B c s f w E res
 own:l7 B l lo hi v
 oc:c < lo∨hi≤c
 os:s < lo∨hi≤s
 of:f < lo∨hi≤f
 ow:w < lo∨hi≤w
 wd:c ≠ w∧s ≠ w∧f ≠ w
 nb:c < n∧s < n∧f < n∧w < n∧hi≤n
 nl:n≤B.length
section
variable {E:bP} {res:List aA} {n c s f w:Nat} {B B':List (List V)} {lo hi:Nat} {v:V}
theorem mG.mem {l:List aH} (h:mG B n c s f w E res lo hi v l) (hl:B.length≤B'.length) (he:∀ i,i < n→B'[i]? = B[i]?):mG B' n c s f w E res lo hi v l:=by
 obtain ⟨n1,n2,n3,n4,n5⟩:=h.nb
 exact ⟨h.k.eC (he _ n1) (he _ n2) (he _ n3) (he _ n4),h.own.frame fun i _ hi=>he i (by omega),h.oc,h.os,h.of,h.ow,h.wd,h.nb,by have:=h.nl;omega⟩
theorem mG.more {J:List (List V)} {l:List aH} (h:mG B n c s f w E res lo hi v l):mG (B++J) n c s f w E res lo hi v l :=
 h.mem (by simp) fun i hi=>ah (Nat.lt_of_lt_of_le hi h.nl)
theorem vc.mem {l:List cJ} (h:vc B n c s f w E res lo hi v l) (hl:B.length≤B'.length) (he:∀ i,i < n→B'[i]? = B[i]?):vc B' n c s f w E res lo hi v l:=by
 obtain ⟨n1,n2,n3,n4,n5⟩:=h.nb
 exact ⟨h.k.eC (he _ n1) (he _ n2) (he _ n3) (he _ n4),h.own.frame fun i _ hi=>he i (by omega),h.oc,h.os,h.of,h.ow,h.wd,h.nb,by have:=h.nl;omega⟩
theorem vc.more {J:List (List V)} {l:List cJ} (h:vc B n c s f w E res lo hi v l):vc (B++J) n c s f w E res lo hi v l :=
 h.mem (by simp) fun i hi=>ah (Nat.lt_of_lt_of_le hi h.nl)
theorem sD.vars {E':bP} (h:sD B c s f w E res) (hc:B'[c]? = B[c]?) (hs:B'[s]? = B[s]?) (hf:B'[f]? = B[f]?) (hw:B'[w]? = some (qH E'.vs)) (h1:E'.su=E.su) (h2:E'.fu=E.fu):sD B' c s f w E' res :=
 ⟨by rw [hc];exact h.c,by rw [hs,h1];exact h.s,by rw [hf,h2];exact h.f,hw⟩
theorem mG.bx {l:List aH} (h:mG B n c s f w E res lo hi v l) (hn:l ≠ []):∃ j1 m cap,v = .bx j1 m cap∧m=l.length:=by
 rcases h.own with ⟨h0,_⟩ | ⟨_,j1,cap,Y,h1,_⟩
 ·exact absurd (List.length_eq_zero_iff.1 h0) hn
 ·exact ⟨j1,_,cap,h1,rfl⟩
theorem vc.bx {l:List cJ} (h:vc B n c s f w E res lo hi v l) (hn:l ≠ []):∃ j1 m cap,v = .bx j1 m cap∧m=l.length:=by
 rcases h.own with ⟨h0,_⟩ | ⟨_,j1,cap,Y,h1,_⟩
 ·exact absurd (List.length_eq_zero_iff.1 h0) hn
 ·exact ⟨j1,_,cap,h1,rfl⟩
theorem fS.len {l:List aH} (h:fS B l lo hi v) (P:Program) {t e:TypeId} {ti:tq} (ht:bD P t=some ti) (hd:ti.d = .slice e):fP P t v=some (.d (.int .i64 (l.length:Int))):=by
 rcases h with ⟨h0,rfl,_⟩ | ⟨_,j,cap,Y,rfl,_⟩
 ·rw [h0,fP.eq_1,ht];simp [mL,hd]
 ·rw [fP.eq_1,ht];simp [mL,tu,hd]
theorem l7.len {l:List cJ} (h:l7 B l lo hi v) (P:Program) {t e:TypeId} {ti:tq} (ht:bD P t=some ti) (hd:ti.d = .slice e):fP P t v=some (.d (.int .i64 (l.length:Int))):=by
 rcases h with ⟨h0,rfl,_⟩ | ⟨_,j,cap,Y,rfl,_⟩
 ·rw [h0,fP.eq_1,ht];simp [mL,hd]
 ·rw [fP.eq_1,ht];simp [mL,tu,hd]
theorem mG.qI {j1 m cap:Nat} {l:List aH} {x:aH} (h:mG B n c s f w E res lo hi (.bx j1 m cap) l) {k:Nat} (hk:l[k]? = some x) :
 ∃ L:Lay,L.j=j1∧L.A.length=k * 10∧lo≤j1∧j1 < hi∧lo≤L.lo∧L.hi≤hi∧qL B n c s f w E res L x ∧
  ∀ (B1:List (List V)) (y:aH) (vs:List bH) (p q:Nat),ja w p L.lo L.hi n q B B1→n≤p→L.parts B1 y→B1[j1]? = some (L.row y)→B1[w]? = some (qH vs)→mG B1 n c s f w ⟨E.su,E.fu,vs⟩ res lo hi (.bx j1 m cap) (l.set k y):=by
 have au:=(List.getElem?_eq_some_iff.1 hk).1
 rcases h.own with ⟨h0,_⟩ | ⟨hn,j1',cu,Y,h1,h2,h3,h4,h5⟩
 ·omega
 obtain ⟨rfl,rfl,rfl⟩:=V.bx.inj h1
 rw [jE] at h5
 obtain ⟨A1,r,C1,eL,dK,e1,e2,e3,e4,e5,e6,e7,e8⟩:=h5.at k x hk
 obtain ⟨v1,v2,v3,v4,v5,m1,m2,m3,m4,rfl,hp⟩:=lC.1 e7
 obtain ⟨n1,n2,n3,n4,n5⟩:=h.nb
 have sub:∀ i,(i < lo∨hi≤i)→Out j1 eL dK i:=fun i hi=>⟨by omega,by omega⟩
 refine ⟨⟨j1,eL,m1,m2,m3,m4,dK,A1,C1,v1,v2,v3,v4,v5⟩,rfl,e2,h2,h3,by dsimp only;omega,e6,⟨h.k,by rw [h4,e1];rfl,hp,by dsimp only;omega,sub _ h.oc,sub _ h.os,sub _ h.of,sub _ h.ow,h.wd,⟨n1,n2,n3,n4,by dsimp only;omega,by dsimp only;omega⟩,h.nl⟩,fun B1 y vs p q he Ym uC hro hw=>?_⟩
 have Y2:=h.oc
 have hos:=h.os
 have hof:=h.of
 obtain ⟨w1,w2,w3⟩:=h.wd
 have hq:∀ i,i < n→i ≠ w→(i < eL∨dK≤i)→B1[i]? = B[i]?:=fun i a b c=>he.2.1 i a b (by omega) c
 refine ⟨h.k.vars (hq _ n1 w1 (by omega)) (hq _ n2 w2 (by omega)) (hq _ n3 w3 (by omega)) hw rfl rfl,.inr ⟨by rw [List.length_set];exact hn,j1,cap,_,by rw [List.length_set],h2,h3,hro,?_⟩,h.oc,h.os,h.of,h.ow,h.wd,h.nb,by have:=h.nl;have:=he.1;omega⟩
 rw [jE]
 have vz:=h.ow
 refine e8 (iJ B1) y _ rfl (lC.2 ⟨v1,v2,v3,v4,v5,m1,m2,m3,m4,rfl,uC⟩) fun u _ a b q ha hb hc hf=>iJ.frame u hf fun i h7 h8=>hq i (by omega) (by omega) (by omega)
theorem vc.qI {j1 m cap:Nat} {l:List cJ} {i:Int} {b:List aH} (h:vc B n c s f w E res lo hi (.bx j1 m cap) l) {k:Nat} (hk:l[k]? = some (.mk i b)) :
 ∃ (eL dK:Nat) (A1 C1:List V) (bv:V),A1.length=k * 2∧B[j1]? = some (A1++[.d (.int .u64 i),bv]++C1)∧lo≤j1∧j1 < hi∧lo≤eL∧dK≤hi∧mG B n c s f w E res eL dK bv b ∧
  ∀ (J B1:List (List V)) (b':List aH),Eh w eL dK bv E.vs (B++J) B1 (some b')→vc B1 n c s f w E res lo hi (.bx j1 m cap) (l.set k (.mk i b')):=by
 have au:=(List.getElem?_eq_some_iff.1 hk).1
 rcases h.own with ⟨h0,_⟩ | ⟨hn,j1',cu,Y,h1,h2,h3,h4,h5⟩
 ·omega
 obtain ⟨rfl,rfl,rfl⟩:=V.bx.inj h1
 rw [jF] at h5
 obtain ⟨A1,r,C1,eL,dK,e1,e2,e3,e4,e5,e6,e7,e8⟩:=h5.at k _ hk
 obtain ⟨bv,rfl,hp⟩:=lD.1 e7
 obtain ⟨n1,n2,n3,n4,n5⟩:=h.nb
 have gS:=h.nl
 have Y2:=h.oc
 have hos:=h.os
 have hof:=h.of
 have vz:=h.ow
 refine ⟨eL,dK,A1,C1,bv,e2,by rw [h4,e1];rfl,h2,h3,by omega,e6,⟨h.k,hp,by omega,by omega,by omega,by omega,h.wd,⟨n1,n2,n3,n4,by omega⟩,h.nl⟩,fun J B1 b' hd=>?_⟩
 obtain ⟨w1,w2,w3⟩:=h.wd
 have hq:∀ i,i < n→i ≠ w→(i < eL∨dK≤i)→B1[i]? = B[i]?:=fun i a b c=>(hd.1.2.1 i (by rw [List.length_append];omega) b b c).trans (ah (by omega))
 obtain ⟨o1,o2⟩:=hd.2.2 b' rfl
 refine ⟨h.k.vars (hq _ n1 w1 (by omega)) (hq _ n2 w2 (by omega)) (hq _ n3 w3 (by omega)) o2 rfl rfl,.inr ⟨by rw [List.length_set];exact hn,j1,cap,_,by rw [List.length_set],h2,h3,(hq j1 (by omega) (by omega) (by omega)).trans (by rw [h4,e1]),?_⟩,h.oc,h.os,h.of,h.ow,h.wd,h.nb,by have:=h.nl;have:=hd.1.1;rw [List.length_append] at this;omega⟩
 rw [jF]
 refine e8 (jD B1) (.mk i b') _ rfl (lD.2 ⟨bv,rfl,o1⟩) fun u _ a b q ha hb hc hf=>jD.frame u hf fun i h7 h8=>hq i (by omega) (by omega) (by omega)
theorem Eh.refl {vs:List bH} {r:Option (List aH)} (hr:r=none):Eh w lo hi v vs B B r:=⟨.refl _ _ _ _ _ _ _,rfl,fun z hz=>by rw [hr] at hz;cases hz⟩
theorem Vk.ne {su:List cG} {fu:List cn} {vs:List bH} {l:List aH} {T:List (Nat × Nat)} (h:mG B n c s f w ⟨su,fu,vs⟩ res lo hi v l):∃ u S',Vk (bU su fu res l vs) w lo hi v vs B T u S':=by
 cases hr:bU su fu res l vs with
 | none=>exact ⟨_,_,B,rfl,.refl rfl,rfl⟩
 | some m =>
  obtain ⟨B1,i1,i2⟩:=QS h.own (gF su fu res _ _ _ hr).symm
  exact ⟨_,_,B1,rfl,⟨⟨by rw [i1.1];exact Nat.le_refl _,fun i _ _ _ ho=>i1.2.1 i (by omega),fun i _ Y hY v hv=>(i1.2.2 i Y hY v hv).imp id .inl⟩,i1.1,fun l hl=>by
   rw [← Option.some.inj hl]
   exact ⟨i2,by rw [i1.2.1 w (by have:=h.ow;omega)];exact h.k.w⟩⟩,rfl⟩
theorem mG.done {su:List cG} {fu:List cn} {vs:List bH} {Nr Ns:Nat} {v2:V} {l m:List aH} {r:Option (List aH)} {B1:List (List V)} (h:mG B n c s f w ⟨su,fu,vs⟩ res Nr Ns v2 l) (hd:Eh w lo hi v vs B B1 r) (hr:r=some m) (hdj:hi≤Nr∨Ns≤lo) (hc:c < lo∨hi≤c) (hs:s < lo∨hi≤s) (hf:f < lo∨hi≤f):mG B1 n c s f w ⟨su,fu,vs⟩ res Nr Ns v2 l:=by
 obtain ⟨n1,n2,n3,n4,n5⟩:=h.nb
 obtain ⟨w1,w2,w3⟩:=h.wd
 have gS:=h.nl
 have vz:=h.ow
 have hq:∀ i,i < n→i ≠ w→(i < lo∨hi≤i)→B1[i]? = B[i]?:=fun i a b c=>hd.1.2.1 i (by omega) b b c
 exact ⟨h.k.vars (hq _ n1 w1 hc) (hq _ n2 w2 hs) (hq _ n3 w3 hf) (hd.2.2 m hr).2 rfl rfl,h.own.frame fun i a b=>hq i (by omega) (by omega) (by omega),h.oc,h.os,h.of,h.ow,h.wd,h.nb,by have:=hd.2.1;omega⟩
end
def m6:=by
 have c:=aM Tryz.f111 (by conv=>lhs;cbv)
 dsimp only [KK,eN,eG,eH,List.map_cons,List.map_nil,List.toList_toArray] at c
 exact c
theorem aa2:bI Tryz.prog 111 Tryz.f111 56:=⟨Tryz.func111,by kernel_rfl⟩
def xE:aH→aj→List cJ→List aH→aH
 | .mk k ns ty ls _ b _ _,y,cs,e=>.mk k ns ty ls [y] b e cs
theorem pE (L:Lay) (x:aH) (y:aj) (cs:List cJ) (e:List aH):L.row (xE x y cs e)=L.row x:=by cases x;rfl
theorem jM (x:aH) (y:aj) (cs:List cJ) (e:List aH):(xE x y cs e).aG=x.aG∧(xE x y cs e).exprs=[y]∧(xE x y cs e).body=x.body∧(xE x y cs e).dh=e∧(xE x y cs e).cases=cs:=by cases x;exact ⟨rfl,rfl,rfl,rfl,rfl⟩
def chG (r:Option (aj × List cJ × List aH)) (L:Lay) (x:aH) (w:Nat) (vs:List bH) (B:List (List V)) (T:List (Nat × Nat)) (u:V) (S':Mem):Prop :=
 ∃ B',S' = ⟨B',T⟩∧B'.length=B.length∧ja w w L.lo L.hi B.length 0 B B'∧u = .d (.bool r.isSome)∧∀ y cs e,r=some (y,cs,e)→L.parts B' (xE x y cs e)∧B'[w]? = some (qH vs)
theorem Ei (su:List cG) (fu:List cn) (res:List aA) (top:Int) (l:List cJ) (vs:List bH) (i:Nat) (h:i < l.length) {ci:Int} {cb:List aH} (hc:l[i] = .mk ci cb):fM su fu res top (l.drop i) vs=if top < ci then none else match bU su fu res cb vs with
 | some b=>(fM su fu res top (l.drop (i+1)) vs).map fun m=>.mk ci b :: m
 | none=>none:=by
 rw [List.drop_eq_getElem_cons h,hc]
 conv=>lhs;unfold fM
 rfl
structure DSt where
 i:Nat
 ys:List cJ
 B:List (List V)
theorem Iw:bD Tryz.prog 39=some ⟨.slice 53,1,24,false,[.sl [] .full]⟩:=by kernel_rfl
theorem Ix:bD Tryz.prog 51=some ⟨.slice 96,1,24,false,[.sl [] .full]⟩:=by kernel_rfl
section
variable {su:List cG} {fu:List cn} {vs:List bH} {res:List aA} {n c s f w:Nat} {B:List (List V)} {T:List (Nat × Nat)} {L:Lay} {x:aH}
theorem qL.cases (h:qL B n c s f w ⟨su,fu,vs⟩ res L x):vc B n c s f w ⟨su,fu,vs⟩ res L.m4 L.hi L.v5 x.cases:=by
 obtain ⟨n1,n2,n3,n4,n5,n6⟩:=h.nb
 obtain ⟨l1,l2,l3,l4,l5⟩:=h.own.le
 exact ⟨h.k,h.own.2.2.2.2,by have:=h.oc.2;omega,by have:=h.os.2;omega,by have:=h.of.2;omega,by have:=h.ow.2;omega,h.wd,⟨n1,n2,n3,n4,n6⟩,h.nl⟩
theorem qL.part {B1:List (List V)} {y:aH} {p q eL dK:Nat} (h:qL B n c s f w ⟨su,fu,vs⟩ res L x) (he:ja w p eL dK n q B B1) (hp:n≤p∨p=w) (Ct:L.lo≤eL) (RF:dK≤L.hi) (hw:B1[w]? = some (qH vs)) (hr:L.row y=L.row x) (uC:L.parts B1 y):qL B1 n c s f w ⟨su,fu,vs⟩ res L y:=by
 obtain ⟨n1,n2,n3,n4,n5,n6⟩:=h.nb
 obtain ⟨w1,w2,w3⟩:=h.wd
 have hq:∀ i,i < n→i ≠ w→(i < L.lo∨L.hi≤i)→B1[i]? = B[i]?:=fun i a b c=>he.2.1 i a b (by omega) (by omega)
 exact ⟨h.k.vars (hq _ n1 w1 h.oc.2) (hq _ n2 w2 h.os.2) (hq _ n3 w3 h.of.2) hw rfl rfl,by rw [hq _ n5 (fun e=>h.ow.1 e.symm) h.jo,hr];exact h.row,uC,h.jo,h.oc,h.os,h.of,h.ow,h.wd,h.nb,by have:=h.nl;have:=he.1;omega⟩
structure DOk (su:List cG) (fu:List cn) (vs:List bH) (res:List aA) (n c s f w:Nat) (L:Lay) (x:aH) (y:aj) (t:aA) (N:Nat) (B:List (List V)) (a:DSt):Prop where
 le:a.i≤x.cases.length
 len:a.ys.length=a.i
 OK:ja w w L.lo L.hi B.length 0 B a.B
 at':qL a.B n c s f w ⟨su,fu,vs⟩ res L (xE x y (a.ys++x.cases.drop a.i) x.dh)
 tb:a.B[N]? = some (jK t)
 res:(fM su fu res (iI t.kind) (x.cases.drop a.i) vs).map (a.ys++·)=fM su fu res (iI t.kind) x.cases vs
set_option maxHeartbeats 16000000 in
theorem KB {a:aj} (hk:x.exprs=[a]) (nr:∀ p∈vs,TW p.type) (ha:dN ⟨su,fu,vs⟩ res a) (qw:∀ q∈x.cases,QU su fu res q.body) (Fg:QU su fu res x.dh) (hlen:x.cases.length≤60000) (h:qL B n c s f w ⟨su,fu,vs⟩ res L x) :
 aF Tryz.prog av 111 [.ptr c 0,.ptr L.j L.A.length] ⟨B,T⟩ (chG (match aE ⟨su,fu,vs⟩ a aQ with
  | some (y,t)=>if kB t.kind=true then (match fM su fu res (iI t.kind) x.cases vs with
   | some cs=>(bU su fu res x.dh vs).map fun e=>(y,cs,e)
   | none=>none) else none
  | none=>none) L x w vs B T):=by
 obtain ⟨N,hn⟩:∃ N,B.length=N:=⟨_,rfl⟩
 obtain ⟨al,dI⟩:∃ a,L.A.length=a:=⟨_,rfl⟩
 obtain ⟨j,uK⟩:∃ j,L.j=j:=⟨_,rfl⟩
 obtain ⟨X,hX⟩:∃ X,L.row x=X:=⟨_,rfl⟩
 obtain ⟨x0,x1,x5,x6,x7,x8,x9,kJ,mC,_⟩:=gI (show X=_ from hX.symm) dI
 have aD:=h.row
 rw [hX,uK] at aD
 have gS:=h.nl
 have hj:j < N:=by have:=h.nb;omega
 have Vd:=h.jo
 have vz:=h.ow
 have hle:=h.own.le
 rw [dI,uK]
 have hex:=h.exprs
 rw [hk] at hex
 obtain ⟨j1,m,cap,Le,ni⟩:=hex.bx (by simp)
 rw [Le] at hex x6
 have hm:(0:Int) < (m:Int):=by rw [ni];simp
 obtain ⟨eL,dK,A1,C1,mX,a1,k1,k2,k3⟩:=hex.qI (k:=0) (y:=a) rfl
 rw [Nat.zero_mul] at a1
 refine aa2.go 160 rfl fun bk=>?_
 simp only [dP] at bk
 simp only [W,seval,m6,hn]
 refine af.bE 12 [11] [j] (by kernel_rfl) (by kernel_rfl) (by kernel_rfl) (by kernel_rfl) (by kernel_rfl) (by kernel_rfl) (by kernel_rfl) ?_
 simp (maxSteps:=4000000) only [W,seval,m6,xw,iL,hn,hj,aD,x6,hm]
 refine bO (fun Z=>cR _ _) ?_
 simp (maxSteps:=4000000) only [W,seval,m6,xw,hn,aY]
 refine Kr ha k1 aQ a1 ?_
 intro B1 t b0 hd bg me jc
 have e1:=k2 B.length _ _ hd.1
 have g1:B1[j]? = B[j]?:=e1.2.1 j (by omega) ⟨by omega,by omega⟩
 have e2:ja w w L.lo L.hi B.length 0 B B1:=ja.fV (e1.Y0 (w:=w) (p:=w) (m:=0) (.inl (Nat.le_refl _))) (Nat.le_refl _) (.inr (.inr rfl)) (.inl rfl) (.inl rfl) hle.1 (by omega)
 rw [hn] at bg
 refine ⟨⟨g1,trivial⟩,?_⟩
 unfold aY
 simp (maxSteps:=4000000) only [W,seval,m6,xw,bg]
 refine ⟨g1,?_⟩
 cases b0
 ·have hr:=jc rfl
  rw [hr]
  refine af.go 60 ?_
  simp only [W,seval,m6,Bool.not_false]
  refine af.ret Tryz.func111 rfl (dm e2.app (Nat.zero_le _) rfl ?_)
  exact ⟨_,rfl,by have:=e2.1;rw [List.length_take,List.length_append];omega,e2.app.cut,rfl,fun y cs e he=>by cases he⟩
 obtain ⟨y,hr⟩:=me rfl
 rw [hr] at hd ⊢
 dsimp only
 cases Nw:kB t.kind
 ·rw [if_neg (by decide)]
  refine af.go 60 ?_
  simp only [W,seval,m6,Bool.not_true,bg]
  refine ag (fA t _ _) ?_
  rintro _ _ ⟨rfl,rfl⟩
  rw [Nw]
  refine af.go 60 ?_
  simp only [W,seval,m6,Bool.not_false]
  refine af.ret Tryz.func111 rfl (dm e2.app (Nat.zero_le _) rfl ?_)
  exact ⟨_,rfl,by have:=e2.1;rw [List.length_take,List.length_append];omega,e2.app.cut,rfl,fun y cs e he=>by cases he⟩
 rw [if_pos rfl]
 have jL:=k3 B1 y hd
 have Dl:=h.own.2.2.2.2.len Tryz.prog Ix rfl
 rw [fP.eq_1,Ix] at Dl
 have lZ:B1[j]? = some X:=g1.trans aD
 refine af.go 60 ?_
 simp only [W,seval,m6,Bool.not_true,bg]
 refine ag (fA t _ _) ?_
 rintro _ _ ⟨rfl,rfl⟩
 rw [Nw]
 refine af.go 60 ?_
 simp only [W,seval,m6,Bool.not_true,bg,hj,lZ,x9,Dl]
 have yF:B1[w]? = some (qH vs):=by rw [e1.2.1 w (by have:=h.nb;omega) ⟨by have:=h.nb;omega,by have:=vz.2;omega⟩];exact h.k.w
 have fr:∀ i,i < n→(i < L.m1∨L.m2≤i)→B1[i]? = B[i]?:=fun i a b=>e1.2.1 i (by omega) ⟨by omega,b⟩
 have Vl:=h.nb
 have O1:qL B1 n c s f w ⟨su,fu,vs⟩ res L (xE x y x.cases x.dh):=by
  obtain ⟨s1,s2,s3,s4,s5⟩:=jM x y x.cases x.dh
  refine h.part (e2.fV (n:=n) (m:=0) gS (.inr (.inr rfl)) (.inl rfl) (.inl rfl) (Nat.le_refl _) (Nat.le_refl _)) (.inr rfl) (Nat.le_refl _) (Nat.le_refl _) yF (pE _ _ _ _ _) ⟨?_,?_,?_,?_,?_⟩
  ·rw [s1];exact h.own.1.frame fun i a b=>fr i (by omega) (by omega)
  ·rw [s2,Le];exact jL.own
  ·rw [s3];exact h.own.2.2.1.frame fun i a b=>fr i (by omega) (by omega)
  ·rw [s4];exact h.own.2.2.2.1.frame fun i a b=>fr i (by omega) (by omega)
  ·rw [s5];exact h.own.2.2.2.2.frame fun i a b=>fr i (by omega) (by omega)
 refine af.cV (fun a:DSt=>(aR 56 [(0,.ptr c 0),(1,.ptr j al),(5,.ptr N 0),(30,L.v5),(31,.d (.int .i64 (x.cases.length:Int))),(32,.d (.int .i64 (a.i:Int)))],⟨a.B,T⟩)) (DOk su fu vs res n c s f w L x y t N B) (fun a=>x.cases.length - a.i) ⟨0,[],B1++[[.d (.int .i64 t.kind),.d (.str t.name),.d (.sl (t.elem.map dR))]]⟩ ⟨Nat.zero_le _,rfl,e2.app,by simpa using O1.more,by rw [cL bg];rfl,by simp⟩ ?_ rfl ?_
 ·skip
  refine ay.env _ ?_
  simp only [cD,seval]
 rintro ⟨i,ys,Bi⟩ ⟨h2,h3,h4,h6,h5,h7⟩ ih
 dsimp only at h2 h3 h4 h6 h5 h7 ih ⊢
 obtain ⟨Ni,nh⟩:∃ Ni,Bi.length=Ni:=⟨_,rfl⟩
 have xA:N < Ni:=by rw [← nh];exact (List.getElem?_eq_some_iff.1 h5).1
 have fC:j < Ni:=by omega
 have kn:=h6.row
 rw [pE,hX,uK] at kn
 unfold jK at h5
 by_cases au:i < x.cases.length
 case neg =>
  have e3:decide ((i:Int) < (x.cases.length:Int))=false:=decide_eq_false (by omega)
  obtain rfl:i=x.cases.length:=by omega
  rw [List.drop_eq_nil_of_le (Nat.le_refl _),fM,Option.map_some,List.append_nil] at h7
  rw [List.drop_eq_nil_of_le (Nat.le_refl _),List.append_nil] at h6
  obtain ⟨s1,s2,s3,s4,s5⟩:=jM x y ys x.dh
  have R6:=h6.dh
  rw [s4] at R6
  have hb:=Fg vs n c s f w Bi T _ _ _ nr R6
  rw [← h7]
  dsimp only
  refine af.go 160 ?_
  simp only [W,seval,m6,e3,fC,kn,x8]
  refine aU hb ?_
  rintro u _ ⟨B2,rfl,eg,rfl⟩
  have e4:ja w w L.lo L.hi B.length 0 B B2:=h4.step (eg.1.fV (Nat.le_refl _) (.inr (.inr rfl)) (.inl rfl) (.inl rfl) (by omega) (by omega))
  refine af.go 60 ?_
  simp only [W,seval,m6]
  refine af.ret Tryz.func111 rfl (dm e4 (Nat.zero_le _) rfl ?_)
  refine ⟨_,rfl,by have:=e4.1;rw [List.length_take];omega,e4.cut,by cases bU su fu res x.dh vs<;>rfl,fun y' cs e he=>?_⟩
  obtain ⟨e',zg,q⟩:=Option.map_eq_some_iff.1 he
  obtain ⟨z0,q⟩:=Prod.mk.inj q
  obtain ⟨z1,z2⟩:=Prod.mk.inj q
  rw [← z0,← z1,← z2]
  obtain ⟨o1,o2⟩:=eg.2.2 e' zg
  have Ca:∀ i,i < n→i ≠ w→(i < L.m3∨L.m4≤i)→(B2.take B.length)[i]? = Bi[i]?:=fun i a b c=>by rw [fN (by omega),eg.1.2.1 i (by omega) b b c]
  have Xt:=vz.2
  obtain ⟨p1,p2,p3,p4,p5⟩:=h6.own
  rw [s1] at p1
  rw [s2] at p2
  rw [s3] at p3
  rw [s5] at p5
  refine ⟨⟨?_,?_,?_,?_,?_⟩,by rw [fN (by omega)];exact o2⟩
  ·rw [(jM x y ys e').1];exact p1.frame fun i a b=>Ca i (by omega) (by omega) (by omega)
  ·rw [(jM x y ys e').2.1];exact p2.frame fun i a b=>Ca i (by omega) (by omega) (by omega)
  ·rw [(jM x y ys e').2.2.1];exact p3.frame fun i a b=>Ca i (by omega) (by omega) (by omega)
  ·rw [(jM x y ys e').2.2.2.1];exact o1.frame fun i a b=>by rw [fN (by omega)]
  ·rw [(jM x y ys e').2.2.2.2];exact p5.frame fun i a b=>Ca i (by omega) (by omega) (by omega)
 have e3:decide ((i:Int) < (x.cases.length:Int))=true:=decide_eq_true (by omega)
 have oO:=az ((i:Int)+1) (by omega)
 obtain ⟨ci,cb,xz⟩:∃ ci cb,x.cases[i] = .mk ci cb:=by
  cases x.cases[i] with
  | mk ci cb=>exact ⟨ci,cb,rfl⟩
 have Th:=qw x.cases[i] (List.getElem_mem au)
 rw [xz] at Th
 rw [Ei _ _ _ _ _ _ _ au xz] at h7
 have OG:=h6.cases
 rw [(jM x y (ys++x.cases.drop i) x.dh).2.2.2.2] at OG
 have mO:(ys++x.cases.drop i)[i]? = some (.mk ci cb):=by rw [xy _ _ h3,List.getElem?_eq_getElem au,xz]
 obtain ⟨j5,m5,Xu,Xv,hm5⟩:=OG.bx (by intro h0;rw [h0] at mO;simp at mO)
 rw [Xv] at OG
 have hmi:(i:Int) < (m5:Int):=by have:=(List.getElem?_eq_some_iff.1 mO).1;omega
 obtain ⟨lo5,hi5,A5,C5,bv,a5,r5,YN,afG,afH,aa4,q1,q2⟩:=OG.qI mO
 have aa5:j5 < Ni:=by omega
 obtain ⟨Y,hY⟩:∃ Y,A5++[.d (.int .u64 ci),bv]++C5=Y:=⟨_,rfl⟩
 rw [hY] at r5
 have y2:i * 2+2≤Y.length:=by rw [← hY];simp;omega
 have y3:(Y.drop (i * 2)).take 2=[.d (.int .u64 ci),bv]:=by
  rw [← hY,← a5,List.append_assoc,List.drop_left];rfl
 have Sj:=Th vs n c s f w (Bi++[[.d (.int .u64 ci),bv]]) T _ _ _ nr q1.more
 rw [Xv] at ih ⊢
 refine af.go 160 ?_
 simp only [W,seval,m6,iL,nh,e3,hmi,aa5,r5,y2,y3]
 by_cases QV:iI t.kind < ci
 ·have et:=decide_eq_true QV
  rw [if_pos QV] at h7
  rw [← h7]
  refine af.bE 13 [] [Ni,N] (by kernel_rfl) (by kernel_rfl) (by kernel_rfl) (by kernel_rfl) (by kernel_rfl) (by kernel_rfl) (by kernel_rfl) ?_
  simp (maxSteps:=4000000) only [W,seval,m6,xw,nh,xA,h5]
  refine bO (fun Z=>sI t.kind _) ?_
  simp (maxSteps:=4000000) only [W,seval,m6,xw,nh,et,Bool.not_true]
  refine af.go 60 ?_
  simp only [W,seval,m6]
  refine af.ret Tryz.func111 rfl (dm h4.app (Nat.zero_le _) rfl ?_)
  exact ⟨_,rfl,by have:=h4.1;rw [List.length_take,List.length_append];omega,h4.app.cut,rfl,fun y cs e he=>by cases he⟩
 have et:=decide_eq_false QV
 rw [if_neg QV] at h7
 refine af.bE 13 [] [Ni,N] (by kernel_rfl) (by kernel_rfl) (by kernel_rfl) (by kernel_rfl) (by kernel_rfl) (by kernel_rfl) (by kernel_rfl) ?_
 simp (maxSteps:=4000000) only [W,seval,m6,xw,nh,xA,h5]
 refine bO (fun Z=>sI t.kind _) ?_
 simp (maxSteps:=4000000) only [W,seval,m6,xw,nh,et,Bool.not_false]
 refine cM (Vk.ne q1.more) Sj ?_
 rintro u _ ⟨B2,rfl,eg,rfl⟩
 have iK:=eg.2.1
 simp only [List.length_append,List.length_cons,List.length_nil,nh,Nat.zero_add] at iK
 have e4:ja w w L.lo L.hi B.length 0 B B2:=h4.app.step (eg.1.fV (Nat.le_refl _) (.inr (.inr rfl)) (.inl rfl) (.inl rfl) (by omega) (by omega))
 have Xt:=vz.2
 have p1:=eg.1.2.1 Ni (by simp;omega) (by omega) (by omega) (by omega)
 have p2:=eg.1.2.1 N (by simp;omega) (by omega) (by omega) (by omega)
 refine ⟨⟨p1,p2,trivial⟩,?_⟩
 simp (maxSteps:=4000000) only [W,seval,m6,xw,nh]
 refine ⟨⟨by rw [p1,cL nh];rfl,p2⟩,?_⟩
 cases hw:bU su fu res cb vs with
 | none =>
  rw [hw] at h7
  rw [← h7]
  refine af.go 60 ?_
  simp only [W,seval,m6,Option.isSome_none,Bool.not_false]
  refine af.ret Tryz.func111 rfl (dm e4 (Nat.zero_le _) rfl ?_)
  exact ⟨_,rfl,by have:=e4.1;rw [List.length_take];omega,e4.cut,rfl,fun y cs e he=>by cases he⟩
 | some b' =>
  rw [hw] at h7 eg
  have f1:B2[N]? = some [V.d (.int .i64 t.kind),.d (.str t.name),.d (.sl (t.elem.map dR))]:=by rw [p2,ah (by omega),h5]
  have Ca:∀ i,i < n→i ≠ w→(i < lo5∨hi5≤i)→B2[i]? = (Bi++[[V.d (.int .u64 ci),bv]])[i]?:=fun i a b c=>eg.1.2.1 i (by simp;omega) b b c
  have hsB:qL B2 n c s f w ⟨su,fu,vs⟩ res L (xE x y (ys++[.mk ci b']++x.cases.drop (i+1)) x.dh):=by
   obtain ⟨s1,s2,s3,s4,s5⟩:=jM x y (ys++x.cases.drop i) x.dh
   obtain ⟨r1,r2,r3,r4,r5⟩:=jM x y (ys++[.mk ci b']++x.cases.drop (i+1)) x.dh
   obtain ⟨w1,w2,w3,w4,w5⟩:=(h6.more (J:=[[V.d (.int .u64 ci),bv]])).own
   rw [s1] at w1
   rw [s2] at w2
   rw [s3] at w3
   rw [s4] at w4
   refine (h6.more (J:=[[V.d (.int .u64 ci),bv]])).part (eg.1.fV (n:=n) (m:=0) (by simp;omega) (.inr (.inr rfl)) (.inl rfl) (.inl rfl) (Nat.le_refl _) (Nat.le_refl _)) (.inr rfl) (by omega) aa4 (eg.2.2 b' rfl).2 (by rw [pE,pE]) ⟨?_,?_,?_,?_,?_⟩
   ·rw [r1];exact w1.frame fun i a b=>Ca i (by omega) (by omega) (by omega)
   ·rw [r2];exact w2.frame fun i a b=>Ca i (by omega) (by omega) (by omega)
   ·rw [r3];exact w3.frame fun i a b=>Ca i (by omega) (by omega) (by omega)
   ·rw [r4];exact w4.frame fun i a b=>Ca i (by omega) (by omega) (by omega)
   ·rw [r5,Xv]
    have:=(q2 _ B2 b' eg).own
    rwa [sK _ _ h3 au] at this
  refine af.go 60 ?_
  simp only [W,seval,m6,Option.isSome_some,Bool.not_true,oO]
  rw [← Xv] at ih
  refine ih ⟨i+1,ys++[.mk ci b'],B2⟩ ⟨au,by simp [h3],e4,hsB,f1,?_⟩ (by dsimp only;omega) _ _ ?_ rfl
  ·dsimp only at h7 ⊢
   rw [← h7]
   cases fM su fu res (iI t.kind) (x.cases.drop (i+1)) vs<;>simp
  ·skip
   refine ay.env _ ?_
   simp only [cD,seval]
   rw [Xv]
end
def tU:=by
 have c:=aM Tryz.f75 (by conv=>lhs;cbv)
 dsimp only [KK,eN,eG,eH,List.map_cons,List.map_nil,List.toList_toArray] at c
 exact c
theorem Vm:bI Tryz.prog 75 Tryz.f75 110:=⟨Tryz.func75,by kernel_rfl⟩
theorem qb {α:Type} (nm:α→List UInt8) (n:List UInt8):∀ l:List α,eW nm l n=none→j4 (l.map nm) n=none
 | [],_=>rfl
 | x :: l,h=>by
  unfold eW at h
  split at h
  ·cases h
  ·rename_i hx
   rw [List.map_cons,j4,if_neg hx,qb nm n l h];rfl
theorem ND {vs:List bH} {n:List UInt8} {ty:aA} (h:eW bH.name vs n=none):AG (vs.map bH.name) (vs.map fun p=>aY p.type) n (aY ty)=qH (vs++[⟨n,ty⟩]):=by
 unfold AG qH
 rw [qb _ _ _ h]
 simp
theorem Iy (vs:List bH) (m:Nat):∀ v∈qH vs,fit 0 m v=true:=by
 intro v hv
 obtain rfl:=List.mem_singleton.1 hv
 show jn 0 m _=true
 rw [dS]
 intro j hj
 simp [aY,fit,jn]
section
variable {su:List cG} {fu:List cn} {vs:List bH} {res:List aA} {n c s f w:Nat} {B:List (List V)} {T:List (Nat × Nat)}
theorem sD.Xw {E:bP} (h:sD B c s f w E res) {uL:List UInt8} (hn:eW bH.name E.vs uL=none) (ty:aA) (J:List (List V)) (T:List (Nat × Nat)):fh Tryz.prog ⟨B++J,T⟩ 62 (.mp w) (.d (.str uL)) (aY ty)=some (.undef,⟨B.set w (qH (E.vs++[⟨uL,ty⟩]))++J,T⟩):=by
 have hw:=(h.more J).w
 unfold fh
 unfold qH at hw
 simp only [Gx,hw]
 rw [ND hn,fI h.lt.2.2.2]
set_option maxHeartbeats 8000000 in
theorem QW {uL:List UInt8} {ty:aA} (fD:TW ty) {x:aH} (hx:x = .mk 1 [uL] ty [] [] [] [] []):Um su fu res x:=by
 intro vs n c s f w B T L p M nm nr h hp GG GH RK
 obtain ⟨N,hn⟩:∃ N,B.length=N:=⟨_,rfl⟩
 obtain ⟨al,dI⟩:∃ a,L.A.length=a:=⟨_,rfl⟩
 obtain ⟨j,uK⟩:∃ j,L.j=j:=⟨_,rfl⟩
 obtain ⟨X,hX⟩:∃ X,L.row x=X:=⟨_,rfl⟩
 obtain ⟨x0,x1,x5,x6,x7,x8,x9,kJ,mC,_⟩:=gI (show X=_ from hX.symm) dI
 have aD:=h.row
 rw [hX,uK] at aD
 have gS:=h.nl
 have hj:j < N:=by have:=h.nb;omega
 have Sk:x.kind=1:=by rw [hx];rfl
 have aa6:x.names=[uL]:=by rw [hx];rfl
 have aa7:x.type=ty:=by rw [hx];rfl
 rw [Sk] at x0
 rw [aa6] at x1
 rw [aa7] at mC
 have xz:c < N:=by rw [← hn];exact h.k.lt.1
 have Jg:w < N:=by rw [← hn];exact h.k.lt.2.2.2
 have Xp:=h.k.w
 have hb:=h.k.c
 unfold yO at hb
 have Ct:=h.k.gy uL true [] T
 rw [List.append_nil] at Ct
 have hr:gh su fu res x vs=if (eW bH.name vs uL).isNone=true∧fq su fu uL=true∧bQ su ty=true then some (x,vs++[⟨uL,ty⟩]) else none:=by
  rw [hx];unfold gh;rw [if_pos rfl]
 rw [dI,uK]
 generalize gh su fu res x vs=r at hr ⊢
 have oV:=fun J=>Qv (T:=T) uL (h.k.more J)
 have jW:=fun J=>zQ (T:=T) fD (h.k.more J)
 dsimp only at oV jW
 have en:∀ J,ja w p L.lo L.hi B.length T.length B (B++J):=fun J=>(ja.refl _ _ _ _ _ _ B).app
 have fail:∀ J,OL none L w p M vs nm B T (.d (.bool false)) ⟨(B++J).take B.length,T⟩:=fun J=>⟨_,T,rfl,by simp,rfl,fun _ _=>rfl,(en J).cut,rfl,fun x vs he=>by cases he⟩
 unfold jK at mC
 unfold aY at jW
 cases h1:eW bH.name vs uL with
 | some q =>
  have Y3:eW bH.name (bP.mk su fu vs).vs uL=some q:=h1
  rw [Y3] at Ct
  simp only [Go.Ab.gy,Option.map_some,if_true,aY] at Ct
  obtain rfl:r=none:=by rw [hr,h1];exact if_neg (fun h=>by cases h.1)
  refine Vm.go 160 rfl fun bk=>?_
  simp only [dP] at bk
  simp only [W,seval,tU,ov,hn,hj,aD,x0,x1,xz,hb,Ct,ij,bC,bT,decide_true]
  refine af.ret Tryz.func75 rfl (dm (en _) (Nat.le_refl _) rfl ?_)
  exact fail _
 | none =>
  have Y3:eW bH.name (bP.mk su fu vs).vs uL=none:=h1
  rw [Y3] at Ct
  simp only [Go.Ab.gy,Option.map_none,if_true,YW] at Ct
  refine Vm.go 160 rfl fun bk=>?_
  simp only [dP] at bk
  simp only [W,seval,tU,ov,hn,hj,aD,x0,x1,xz,hb,Ct,ij,bC,bT,decide_true]
  refine ag (oV _) ?_
  rintro _ _ ⟨rfl,rfl⟩
  cases Y4:fq su fu uL with
  | false =>
   obtain rfl:r=none:=by rw [hr,Y4];exact if_neg (fun h=>by cases h.2.1)
   refine af.go 60 ?_
   simp only [W,seval,tU,Bool.not_false]
   refine af.ret Tryz.func75 rfl (dm (en _) (Nat.le_refl _) rfl ?_)
   exact fail _
  | true =>
   refine af.go 60 ?_
   simp only [W,seval,tU,Bool.not_true,hn,hj,aD,kJ,mC,x9]
   refine ag (jW _) ?_
   rintro _ _ ⟨rfl,rfl⟩
   cases O1:bQ su ty with
   | false =>
    obtain rfl:r=none:=by rw [hr,O1];exact if_neg (fun h=>by cases h.2.2)
    refine af.go 60 ?_
    simp only [W,seval,tU,Bool.not_false]
    refine af.ret Tryz.func75 rfl (dm (en _) (Nat.le_refl _) rfl ?_)
    exact fail _
   | true =>
    obtain rfl:r=some (x,vs++[⟨uL,ty⟩]):=by rw [hr,O1,Y4,h1];exact if_pos ⟨rfl,rfl,rfl⟩
    have hpN:p < N:=by rw [← hn];exact (List.getElem?_eq_some_iff.1 GG).1
    have hwn:w < n:=by have:=h.nb;omega
    have ry:=fun J T=>h.k.Xw Y3 ty J T
    unfold aY at ry
    dsimp only at ry
    have hpw:∀ Z,(B.set w Z)[p]? = some [.sl (ij nm) (.own M)]:=fun Z=>by rw [List.getElem?_set_ne (by omega)];exact GG
    have fF:(nm.length+1) * 16≤140737488355328:=by omega
    have hr1:cy 1 [[D.str uL]]=true:=rfl
    refine af.go 60 ?_
    simp only [W,seval,tU,Bool.not_true,hn]
    refine af.bE 9 [] [c,j] (by kernel_rfl) (by kernel_rfl) (by kernel_rfl) (by kernel_rfl) (by kernel_rfl) (by kernel_rfl) (by kernel_rfl) ?_
    simp (maxSteps:=4000000) only [W,seval,tU,xw,ov,hn,hj,aD,kJ,mC,xz,hb,ry]
    have lZ:ij nm++[[.str uL]]=ij (nm++[uL]):=by simp [ij]
    refine af.go 160 ?_
    simp only [W,seval,tU,hn,hpN,hpw,GH,bT,bC,fL,Nat.reduceMul,fF,hr1,lZ]
    have e1:ja w p L.lo L.hi B.length T.length B ((B.set w (qH (vs++[⟨uL,ty⟩]))).set p [.sl (ij (nm++[uL])) (.own M)]):=((ja.refl _ _ _ _ _ _ B).put (.inl rfl) (fun v hv=>.inl (Iy _ _ v hv))).put (.inr (.inl rfl)) (fun v hv=>.inr ⟨rfl,by
     obtain rfl:=List.mem_singleton.1 hv
     exact decide_eq_true (List.getElem?_eq_some_iff.1 GH).1⟩)
    refine af.ret Tryz.func75 rfl (dm e1.app (Nat.le_refl _) List.length_set ?_)
    have hM:=(List.getElem?_eq_some_iff.1 GH).1
    have Vl:=h.nb
    have vz:=h.ow
    have at1:∀ J i,i < B.length→i ≠ w→i ≠ p→((((B.set w (qH (vs++[⟨uL,ty⟩]))).set p [V.sl (ij (nm++[uL])) (.own M)])++J).take B.length)[i]? = B[i]?:=fun J i a b c=>by
     rw [fN a,ah (by simp;omega),List.getElem?_set_ne (Ne.symm c),List.getElem?_set_ne (Ne.symm b)]
    refine ⟨_,_,rfl,by simp,List.length_set,fun q hq=>List.getElem?_set_ne (Ne.symm hq),e1.app.cut,rfl,fun y oE he=>?_⟩
    obtain ⟨rfl,rfl⟩:=Prod.mk.inj (Option.some.inj he)
    have fr:∀ J i,L.lo≤i→i < L.hi→((((B.set w (qH (vs++[⟨uL,ty⟩]))).set p [V.sl (ij (nm++[uL])) (.own M)])++J).take B.length)[i]? = B[i]?:=fun J i a b=>at1 J i (by omega) (by have:=vz.2;omega) (by omega)
    obtain ⟨l1,l2,l3,l4,l5⟩:=h.own.le
    refine ⟨⟨h.own.1.frame fun i a b=>fr _ i (by omega) (by omega),h.own.2.1.frame fun i a b=>fr _ i (by omega) (by omega),h.own.2.2.1.frame fun i a b=>fr _ i (by omega) (by omega),h.own.2.2.2.1.frame fun i a b=>fr _ i (by omega) (by omega),h.own.2.2.2.2.frame fun i a b=>fr _ i (by omega) (by omega)⟩,?_,[⟨uL,ty⟩],rfl,?_,?_,?_⟩
    ·rw [at1 _ _ (by omega) (fun e=>vz.1 e.symm) (by omega)];exact h.row
    ·rw [fN (by omega),ah (by simp;omega),List.getElem?_set_ne (by omega),List.getElem?_set_self (by omega)]
    ·rw [fN (by omega),ah (by simp;omega),List.getElem?_set_self (by simp;omega)];rfl
    ·rw [List.getElem?_set_self hM];simp
end
def qM:aH→List aj→aH
 | .mk k ns ty ls _ b e cs,es=>.mk k ns ty ls es b e cs
theorem qc (L:Lay) (x:aH) (es:List aj):L.row (qM x es)=L.row x:=by cases x;rfl
theorem sS (x:aH) (es:List aj):(qM x es).aG=x.aG∧(qM x es).exprs=es∧(qM x es).body=x.body∧(qM x es).dh=x.dh∧(qM x es).cases=x.cases:=by cases x;exact ⟨rfl,rfl,rfl,rfl,rfl⟩
section
variable {su:List cG} {fu:List cn} {vs:List bH} {res:List aA} {n c s f w:Nat} {B:List (List V)} {T:List (Nat × Nat)} {L:Lay} {x:aH} {p M:Nat} {nm:List (List UInt8)}
theorem OL.of {B1:List (List V)} {r:Option (aH × List bH)} (h:qL B n c s f w ⟨su,fu,vs⟩ res L x) (hp:n≤p) (GG:B[p]? = some [.sl (ij nm) (.own M)]) (GH:T[M]? = some (nm.length,1)) (hl:B1.length=B.length) (he:ja w w L.lo L.hi B.length 0 B B1) {u:V} (hu:u = .d (.bool r.isSome)) (hr:∀ y oE,r=some (y,oE)→oE=vs∧L.row y=L.row x∧L.parts B1 y∧B1[w]? = some (qH vs)):OL r L w p M vs nm B T u ⟨B1,T⟩:=by
 have Vl:=h.nb
 have gS:=h.nl
 have G7:=(List.getElem?_eq_some_iff.1 GG).1
 refine ⟨B1,T,rfl,hl,rfl,fun _ _=>rfl,he.fV (Nat.le_refl _) (.inr (.inr rfl)) (.inl rfl) (.inl rfl) (Nat.le_refl _) (Nat.le_refl _),hu,fun y oE hy=>?_⟩
 obtain ⟨rfl,h2,h3,h4⟩:=hr y oE hy
 have vz:=h.ow
 refine ⟨h3,?_,[],by simp,h4,?_,by simpa using GH⟩
 ·rw [he.2.1 L.j (by omega) (fun e=>vz.1 e.symm) (fun e=>vz.1 e.symm) h.jo,h2];exact h.row
 ·rw [he.2.1 p G7 (by omega) (by omega) (by omega)];simpa using GG
theorem Uo (su:List cG) (fu:List cn) (res:List aA) (vs:List bH) (x:aH) (a:aj) (h5:x.kind=5) (hk:x.exprs=[a]):gh su fu res x vs=(match aE ⟨su,fu,vs⟩ a aQ with
 | some (y,t)=>if kB t.kind=true then (match fM su fu res (iI t.kind) x.cases vs with
  | some cs=>(bU su fu res x.dh vs).map fun e=>(y,cs,e)
  | none=>none) else none
 | none=>none).map fun r:aj × List cJ × List aH=>(xE x r.1 r.2.1 r.2.2,vs):=by
 obtain ⟨k,ns,ty,ls,es,b,e,cs⟩:=x
 obtain rfl:k=5:=h5
 obtain rfl:es=[a]:=hk
 unfold gh
 rw [if_neg (by decide),if_neg (by decide),if_neg (by decide)]
 dsimp only
 rw [if_pos rfl]
 cases aE ⟨su,fu,vs⟩ a aQ with
 | none=>rfl
 | some q =>
  obtain ⟨y,t⟩:=q
  dsimp only [aH.cases,aH.dh]
  cases kB t.kind
  ·rfl
  ·rw [if_pos rfl,if_pos rfl]
   cases fM su fu res (iI t.kind) cs vs with
   | none=>rfl
   | some m =>
    dsimp only
    cases bU su fu res e vs<;>rfl
set_option maxHeartbeats 8000000 in
theorem Up {a:aj} (h5:x.kind=5) (hk:x.exprs=[a]) (ha:∀ vs,(∀ p∈vs,TW p.type)→dN ⟨su,fu,vs⟩ res a) (qw:∀ q∈x.cases,QU su fu res q.body) (Fg:QU su fu res x.dh) (hlen:x.cases.length≤60000):Um su fu res x:=by
 intro vs n c s f w B T L p M nm nr h hp GG GH RK
 obtain ⟨N,hn⟩:∃ N,B.length=N:=⟨_,rfl⟩
 obtain ⟨al,dI⟩:∃ a,L.A.length=a:=⟨_,rfl⟩
 obtain ⟨j,uK⟩:∃ j,L.j=j:=⟨_,rfl⟩
 obtain ⟨X,hX⟩:∃ X,L.row x=X:=⟨_,rfl⟩
 obtain ⟨x0,x1,x5,x6,x7,x8,x9,kJ,mC,_⟩:=gI (show X=_ from hX.symm) dI
 have aD:=h.row
 rw [hX,uK] at aD
 rw [h5] at x0
 have hj:j < N:=by have:=h.nb;have:=h.nl;omega
 have hc:=KB (T:=T) hk nr (ha vs nr) qw Fg hlen h
 rw [Uo su fu res vs x a h5 hk]
 rw [dI,uK] at hc ⊢
 refine Vm.go 160 rfl fun bk=>?_
 simp only [dP] at bk
 simp only [W,seval,tU,hn,hj,aD,x0,Int.reduceEq,decide_true,decide_false]
 refine aU hc ?_
 rintro u _ ⟨B1,rfl,hl,he,rfl,hr⟩
 refine af.go 60 ?_
 simp only [W,seval,tU]
 refine af.ret Tryz.func75 rfl (dm he (Nat.zero_le _) rfl ?_)
 rw [List.take_of_length_le (by omega)]
 refine OL.of h hp GG GH hl he (by rw [Option.isSome_map];rfl) fun y oE hy=>?_
 obtain ⟨⟨y',cs,e⟩,hq,e2⟩:=Option.map_eq_some_iff.1 hy
 obtain ⟨rfl,rfl⟩:=Prod.mk.inj e2
 exact ⟨rfl,pE _ _ _ _ _,hr y' cs e hq⟩
theorem QX (su:List cG) (fu:List cn) (res:List aA) (vs:List bH) (x:aH) (h2:x.kind=2):gh su fu res x vs=(match lf ⟨su,fu,vs⟩ x.aG with
 | some ts=>cY ⟨su,fu,vs⟩ x.exprs ts
 | none=>none).map fun es=>(qM x es,vs):=by
 obtain ⟨k,ns,ty,ls,es,b,e,cs⟩:=x
 obtain rfl:k=2:=h2
 unfold gh
 rw [if_neg (by decide),if_pos rfl]
 dsimp only [aH.aG,aH.exprs]
 cases lf ⟨su,fu,vs⟩ ls with
 | none=>rfl
 | some ts=>rfl
theorem QY (su:List cG) (fu:List cn) (res:List aA) (vs:List bH) (x:aH) (h6:x.kind=6):gh su fu res x vs=(cY ⟨su,fu,vs⟩ x.exprs res).map fun es=>(qM x es,vs):=by
 obtain ⟨k,ns,ty,ls,es,b,e,cs⟩:=x
 obtain rfl:k=6:=h6
 unfold gh
 rw [if_neg (by decide),if_neg (by decide),if_pos rfl]
 rfl
theorem qL.U5 {B1:List (List V)} {es:List aj} (h:qL B n c s f w ⟨su,fu,vs⟩ res L x) (he:∀ i,i < n→(i < L.m1∨L.m2≤i)→B1[i]? = B[i]?) (ho:fX B1 es L.m1 L.m2 L.v2):L.parts B1 (qM x es)∧B1[w]? = some (qH vs):=by
 obtain ⟨s1,s2,s3,s4,s5⟩:=sS x es
 have hle:=h.own.le
 have Vl:=h.nb
 have vz:=h.ow
 refine ⟨⟨?_,?_,?_,?_,?_⟩,?_⟩
 ·rw [s1];exact h.own.1.frame fun i a b=>he i (by omega) (by omega)
 ·rw [s2];exact ho
 ·rw [s3];exact h.own.2.2.1.frame fun i a b=>he i (by omega) (by omega)
 ·rw [s4];exact h.own.2.2.2.1.frame fun i a b=>he i (by omega) (by omega)
 ·rw [s5];exact h.own.2.2.2.2.frame fun i a b=>he i (by omega) (by omega)
 ·rw [he w (by omega) (by have:=vz.2;omega)];exact h.k.w
set_option maxHeartbeats 8000000 in
theorem QZ (hT:og su fu) (h2:x.kind=2) (U7:∀ vs,(∀ p∈vs,TW p.type)→∀ y∈x.aG,dN ⟨su,fu,vs⟩ res y∧∀ w z t,aE ⟨su,fu,vs⟩ y w=some (z,t)→z=y) (hl:∀ vs,(∀ p∈vs,TW p.type)→∀ y∈x.exprs,dN ⟨su,fu,vs⟩ res y∧∀ z∈y.kids,dN ⟨su,fu,vs⟩ res z) (hlen:x.exprs.length≤60000) (Sh:x.aG.length≤60000):Um su fu res x:=by
 intro vs n c s f w B T L p M nm nr h hp GG GH RK
 obtain ⟨N,hn⟩:∃ N,B.length=N:=⟨_,rfl⟩
 obtain ⟨al,dI⟩:∃ a,L.A.length=a:=⟨_,rfl⟩
 obtain ⟨j,uK⟩:∃ j,L.j=j:=⟨_,rfl⟩
 obtain ⟨X,hX⟩:∃ X,L.row x=X:=⟨_,rfl⟩
 obtain ⟨x0,x1,x5,x6,x7,x8,x9,kJ,mC,_⟩:=gI (show X=_ from hX.symm) dI
 have aD:=h.row
 rw [hX,uK] at aD
 rw [h2] at x0
 have gS:=h.nl
 have hle:=h.own.le
 have hj:j < N:=by have:=h.nb;omega
 have hc:=Un (T:=T) hT (U7 vs nr) (fun y hy=>(hl vs nr y hy).1) (fun y hy=>(hl vs nr y hy).2) hlen Sh h
 rw [QX su fu res vs x h2]
 rw [dI,uK] at hc ⊢
 refine Vm.go 160 rfl fun bk=>?_
 simp only [dP] at bk
 simp only [W,seval,tU,hn,hj,aD,x0,Int.reduceEq,decide_true,decide_false]
 refine aU hc ?_
 rintro u _ ⟨B1,rfl,hlB,he,rfl,hr⟩
 refine af.go 60 ?_
 simp only [W,seval,tU]
 have e1:ja w w L.lo L.hi B.length 0 B B1:=ja.fV (he.Y0 (w:=w) (p:=w) (m:=0) (.inl (Nat.le_refl _))) (Nat.le_refl _) (.inr (.inr rfl)) (.inl rfl) (.inl rfl) (Nat.le_refl _) (by omega)
 refine af.ret Tryz.func75 rfl (dm e1 (Nat.zero_le _) rfl ?_)
 rw [List.take_of_length_le (by omega)]
 refine OL.of h hp GG GH hlB e1 (by rw [Option.isSome_map];rfl) fun y oE hy=>?_
 obtain ⟨es,hq,e2⟩:=Option.map_eq_some_iff.1 hy
 obtain ⟨rfl,rfl⟩:=Prod.mk.inj e2
 obtain ⟨o1,o2⟩:=hr es hq
 obtain ⟨s1,s2,s3,s4,s5⟩:=sS x es
 have Vl:=h.nb
 have vz:=h.ow
 have fr:∀ i,i < n→(i < L.lo∨L.m2≤i)→B1[i]? = B[i]?:=fun i a b=>he.2.1 i (by omega) ⟨by omega,b⟩
 refine ⟨rfl,qc _ _ _,⟨?_,?_,?_,?_,?_⟩,?_⟩
 ·rw [s1];exact o1
 ·rw [s2];exact o2
 ·rw [s3];exact h.own.2.2.1.frame fun i a b=>fr i (by omega) (by omega)
 ·rw [s4];exact h.own.2.2.2.1.frame fun i a b=>fr i (by omega) (by omega)
 ·rw [s5];exact h.own.2.2.2.2.frame fun i a b=>fr i (by omega) (by omega)
 ·rw [fr w (by omega) (by have:=vz.2;omega)];exact h.k.w
set_option maxHeartbeats 8000000 in
theorem Q0 (hT:og su fu) (h6:x.kind=6) (hl:∀ vs,(∀ p∈vs,TW p.type)→∀ y∈x.exprs,dN ⟨su,fu,vs⟩ res y∧∀ z∈y.kids,dN ⟨su,fu,vs⟩ res z) (hlen:x.exprs.length≤60000):Um su fu res x:=by
 intro vs n c s f w B T L p M nm nr h hp GG GH RK
 obtain ⟨N,hn⟩:∃ N,B.length=N:=⟨_,rfl⟩
 obtain ⟨al,dI⟩:∃ a,L.A.length=a:=⟨_,rfl⟩
 obtain ⟨j,uK⟩:∃ j,L.j=j:=⟨_,rfl⟩
 obtain ⟨X,hX⟩:∃ X,L.row x=X:=⟨_,rfl⟩
 obtain ⟨x0,x1,x5,x6,x7,x8,x9,kJ,mC,_⟩:=gI (show X=_ from hX.symm) dI
 have aD:=h.row
 rw [hX,uK] at aD
 rw [h6] at x0
 have gS:=h.nl
 have hle:=h.own.le
 have Vd:=h.jo
 have hj:j < N:=by have:=h.nb;omega
 have xz:c < N:=by rw [← hn];exact h.k.lt.1
 have hb:=h.k.c
 have Y2:=h.oc
 unfold yO at hb
 have hc:=zY (T:=T) hT (fun y hy=>(hl vs nr y hy).1) (fun y hy=>(hl vs nr y hy).2) hlen res h.exprs
 rw [QY su fu res vs x h6]
 rw [dI,uK]
 refine Vm.go 160 rfl fun bk=>?_
 simp only [dP] at bk
 simp only [W,seval,tU,hn,hj,aD,x0,Int.reduceEq,decide_true,decide_false]
 refine af.bE 10 [] [j,c] (by kernel_rfl) (by kernel_rfl) (by kernel_rfl) (by kernel_rfl) (by kernel_rfl) (by kernel_rfl) (by kernel_rfl) ?_
 simp (maxSteps:=4000000) only [W,seval,tU,xw,hn,hj,aD,x6,xz,hb]
 refine cM (Xq.ne h.exprs res) hc ?_
 rintro u _ ⟨B1,rfl,⟨he,hlB,hr⟩,rfl⟩
 have k1:B1[j]? = B[j]?:=he.2.1 j (by omega) ⟨by omega,by omega⟩
 have k2:B1[c]? = B[c]?:=he.2.1 c (by omega) ⟨by omega,by have:=Y2.2;omega⟩
 refine ⟨⟨k1,k2,trivial⟩,?_⟩
 simp (maxSteps:=4000000) only [W,seval,tU,xw,hn]
 refine ⟨⟨k1,k2⟩,?_⟩
 refine af.go 60 ?_
 simp only [W,seval,tU]
 have e1:ja w w L.lo L.hi B.length 0 B B1:=ja.fV (he.Y0 (w:=w) (p:=w) (m:=0) (.inl (Nat.le_refl _))) (Nat.le_refl _) (.inr (.inr rfl)) (.inl rfl) (.inl rfl) (by omega) (by omega)
 refine af.ret Tryz.func75 rfl (dm e1 (Nat.zero_le _) rfl ?_)
 rw [List.take_of_length_le (by omega)]
 refine OL.of h hp GG GH hlB e1 (by rw [Option.isSome_map];rfl) fun y oE hy=>?_
 obtain ⟨es,hq,e2⟩:=Option.map_eq_some_iff.1 hy
 obtain ⟨rfl,rfl⟩:=Prod.mk.inj e2
 have:=h.U5 (fun i a b=>he.2.1 i (by omega) ⟨by omega,b⟩) (hr es hq)
 exact ⟨rfl,qc _ _ _,this⟩
def Ej:aH→aj→List aH→List aH→aH
 | .mk k ns ty ls _ _ _ cs,y,b,e=>.mk k ns ty ls [y] b e cs
theorem Ek (L:Lay) (x:aH) (y:aj) (b e:List aH):L.row (Ej x y b e)=L.row x:=by cases x;rfl
theorem vA (x:aH) (y:aj) (b e:List aH):(Ej x y b e).aG=x.aG∧(Ej x y b e).exprs=[y]∧(Ej x y b e).body=b∧(Ej x y b e).dh=e∧(Ej x y b e).cases=x.cases:=by cases x;exact ⟨rfl,rfl,rfl,rfl,rfl⟩
theorem Uq (su:List cG) (fu:List cn) (res:List aA) (vs:List bH) (x:aH) (a:aj) (hx:x.kind=3∨x.kind=4) (hk:x.exprs=[a]):gh su fu res x vs=(match bf (aE ⟨su,fu,vs⟩ a bz) bz with
 | some y=>(match bU su fu res x.body vs with
  | some b=>(bU su fu res x.dh vs).map fun e=>(Ej x y b e,vs)
  | none=>none)
 | none=>none):=by
 obtain ⟨k,ns,ty,ls,es,b,e,cs⟩:=x
 obtain rfl:es=[a]:=hk
 have h1:k=3∨k=4:=hx
 unfold gh
 rw [if_neg (by omega),if_neg (by omega),if_neg (by omega)]
 dsimp only
 rw [if_neg (by omega)]
 rfl
set_option maxHeartbeats 16000000 in
theorem NF {a:aj} (hx:x.kind=3∨x.kind=4) (hk:x.exprs=[a]) (ha:∀ vs,(∀ p∈vs,TW p.type)→dN ⟨su,fu,vs⟩ res a) (Bl:QU su fu res x.body) (Fg:QU su fu res x.dh):Um su fu res x:=by
 intro vs n c s f w B T L p M nm nr h hp GG GH RK
 obtain ⟨N,hn⟩:∃ N,B.length=N:=⟨_,rfl⟩
 obtain ⟨al,dI⟩:∃ a,L.A.length=a:=⟨_,rfl⟩
 obtain ⟨j,uK⟩:∃ j,L.j=j:=⟨_,rfl⟩
 obtain ⟨X,hX⟩:∃ X,L.row x=X:=⟨_,rfl⟩
 obtain ⟨x0,x1,x5,x6,x7,x8,x9,kJ,mC,_⟩:=gI (show X=_ from hX.symm) dI
 have aD:=h.row
 rw [hX,uK] at aD
 have gS:=h.nl
 have hle:=h.own.le
 have Vd:=h.jo
 have vz:=h.ow
 have Y2:=h.oc
 have hos:=h.os
 have hof:=h.of
 have hj:j < N:=by have:=h.nb;omega
 have hex:=h.exprs
 rw [hk] at hex
 obtain ⟨j1,m,cap,Le,ni⟩:=hex.bx (by simp)
 rw [Le] at hex x6
 have hm:(0:Int) < (m:Int):=by rw [ni];simp
 obtain ⟨eL,dK,A1,C1,mX,a1,k1,k2,k3⟩:=hex.qI (k:=0) (y:=a) rfl
 rw [Nat.zero_mul] at a1
 have hh:=iY (T:=T) (ha vs nr) bz k1
 rw [a1] at hh
 unfold aY at hh
 rw [Uq su fu res vs x a hx hk]
 rw [dI,uK]
 have e3:∀ k:Int,k=3∨k=4→decide (k=1)=false∧decide (k=2)=false∧decide (k=6)=false∧decide (k=5)=false:=fun k h=>⟨decide_eq_false (by omega),decide_eq_false (by omega),decide_eq_false (by omega),decide_eq_false (by omega)⟩
 obtain ⟨q1,q2,q3,q4⟩:=e3 _ hx
 refine Vm.go 160 rfl fun bk=>?_
 simp only [dP] at bk
 simp only [W,seval,tU,hn,hj,aD,x0,q1,q2,q3,q4]
 refine af.bE 24 [] [j] (by kernel_rfl) (by kernel_rfl) (by kernel_rfl) (by kernel_rfl) (by kernel_rfl) (by kernel_rfl) (by kernel_rfl) ?_
 simp (maxSteps:=4000000) only [W,seval,tU,xw,iL,hn,hj,aD,x6,hm]
 refine bO (fun Z=>fy _ _) ?_
 simp (maxSteps:=4000000) only [W,seval,tU,xw,aY]
 refine cM (qt.ne k1 bz) hh ?_
 rintro u _ ⟨B1,rfl,hd,rfl⟩
 have ee:=k2 B.length _ _ hd.1
 have bg:=hd.2.1
 have g1:B1[j]? = B[j]?:=ee.2.1 j (by omega) ⟨by omega,by omega⟩
 have e1:ja w w L.lo L.hi B.length 0 B B1:=ja.fV (ee.Y0 (w:=w) (p:=w) (m:=0) (.inl (Nat.le_refl _))) (Nat.le_refl _) (.inr (.inr rfl)) (.inl rfl) (.inl rfl) (by omega) (by omega)
 refine ⟨⟨g1,trivial⟩,?_⟩
 cases hw:bf (aE ⟨su,fu,vs⟩ a bz) bz with
 | none =>
  simp (maxSteps:=4000000) only [W,seval,tU,xw,Option.isSome_none,hn]
  refine ⟨g1,?_⟩
  refine af.go 60 ?_
  simp only [W,seval,tU]
  refine af.ret Tryz.func75 rfl (dm e1 (Nat.zero_le _) rfl ?_)
  rw [List.take_of_length_le (by omega)]
  exact OL.of h hp GG GH bg e1 rfl fun y oE hy=>by cases hy
 | some z =>
  rw [hw] at hd
  have hz:=(k3 B1 z hd).own
  obtain ⟨pz,wz⟩:=h.U5 (es:=[z]) (fun i a b=>ee.2.1 i (by omega) ⟨by omega,b⟩) (by rw [Le];exact hz)
  have O1:qL B1 n c s f w ⟨su,fu,vs⟩ res L (qM x [z]):=h.part (e1.fV (n:=n) (m:=0) gS (.inr (.inr rfl)) (.inl rfl) (.inl rfl) (Nat.le_refl _) (Nat.le_refl _)) (.inr rfl) (Nat.le_refl _) (Nat.le_refl _) wz (qc _ _ _) pz
  have Sj:=O1.body
  rw [(sS x [z]).2.2.1] at Sj
  have me:=Bl vs n c s f w B1 T _ _ _ nr Sj
  have qR:j < B1.length:=by omega
  have DU:B1[j]? = some X:=g1.trans aD
  simp (maxSteps:=4000000) only [W,seval,tU,xw,Option.isSome_some,hn,DU,x7]
  refine cM (Vk.ne Sj) me ?_
  rintro u _ ⟨B2,rfl,eg,rfl⟩
  have iK:=eg.2.1
  have g2:B2[j]? = B1[j]?:=eg.1.2.1 j qR (fun e=>vz.1 (e.symm.trans uK.symm)) (fun e=>vz.1 (e.symm.trans uK.symm)) (by omega)
  have e2:ja w w L.lo L.hi B.length 0 B B2:=e1.step (eg.1.fV (Nat.le_refl _) (.inr (.inr rfl)) (.inl rfl) (.inl rfl) (by omega) (by omega))
  refine ⟨⟨g2.trans g1,trivial⟩,?_⟩
  cases Xp:bU su fu res x.body vs with
  | none =>
   simp (maxSteps:=4000000) only [W,seval,tU,xw,Option.isSome_none,hn]
   refine ⟨g2.trans g1,?_⟩
   refine af.go 60 ?_
   simp only [W,seval,tU]
   refine af.ret Tryz.func75 rfl (dm e2 (Nat.zero_le _) rfl ?_)
   rw [List.take_of_length_le (by omega)]
   exact OL.of h hp GG GH (iK.trans bg) e2 rfl fun y oE hy=>by cases hy
  | some b =>
   rw [Xp] at eg
   obtain ⟨ob,ow2⟩:=eg.2.2 b rfl
   have Vl:=h.nb
   have Ca:∀ i,i < n→i ≠ w→(i < L.m2∨L.m3≤i)→B2[i]? = B1[i]?:=fun i a b c=>eg.1.2.1 i (by omega) b b c
   have Xt:=vz.2
   have hs2:qL B2 n c s f w ⟨su,fu,vs⟩ res L (Ej x z b x.dh):=by
    obtain ⟨p1,p2,p3,p4,p5⟩:=O1.own
    obtain ⟨s1,s2,s3,s4,s5⟩:=sS x [z]
    obtain ⟨r1,r2,r3,r4,r5⟩:=vA x z b x.dh
    rw [s1] at p1
    rw [s2] at p2
    rw [s4] at p4
    rw [s5] at p5
    refine O1.part (eg.1.fV (n:=n) (m:=0) (by omega) (.inr (.inr rfl)) (.inl rfl) (.inl rfl) (Nat.le_refl _) (Nat.le_refl _)) (.inr rfl) (by omega) (by omega) ow2 (by rw [Ek,qc]) ⟨?_,?_,?_,?_,?_⟩
    ·rw [r1];exact p1.frame fun i a b=>Ca i (by omega) (by omega) (by omega)
    ·rw [r2];exact p2.frame fun i a b=>Ca i (by omega) (by omega) (by omega)
    ·rw [r3];exact ob
    ·rw [r4];exact p4.frame fun i a b=>Ca i (by omega) (by omega) (by omega)
    ·rw [r5];exact p5.frame fun i a b=>Ca i (by omega) (by omega) (by omega)
   have Ur:=hs2.dh
   rw [(vA x z b x.dh).2.2.2.1] at Ur
   have ou:=Fg vs n c s f w B2 T _ _ _ nr Ur
   have Ko:B2[j]? = some X:=g2.trans DU
   simp (maxSteps:=4000000) only [W,seval,tU,xw,Option.isSome_some,hn,Ko,x8]
   refine cM (Vk.ne Ur) ou ?_
   rintro u _ ⟨B3,rfl,zV,rfl⟩
   have Ks:=zV.2.1
   have g3:B3[j]? = B2[j]?:=zV.1.2.1 j (by omega) (fun e=>vz.1 (e.symm.trans uK.symm)) (fun e=>vz.1 (e.symm.trans uK.symm)) (by omega)
   have e4:ja w w L.lo L.hi B.length 0 B B3:=e2.step (zV.1.fV (Nat.le_refl _) (.inr (.inr rfl)) (.inl rfl) (.inl rfl) (by omega) (by omega))
   have g4:=g3.trans (g2.trans g1)
   refine ⟨⟨g4,trivial⟩,?_⟩
   simp (maxSteps:=4000000) only [W,seval,tU,xw,hn]
   refine ⟨g4,?_⟩
   refine af.go 60 ?_
   simp only [W,seval,tU]
   refine af.ret Tryz.func75 rfl (dm e4 (Nat.zero_le _) rfl ?_)
   rw [List.take_of_length_le (by omega)]
   refine OL.of h hp GG GH (Ks.trans (iK.trans bg)) e4 (by rw [Option.isSome_map];rfl) fun y oE hy=>?_
   obtain ⟨e',hq,e5⟩:=Option.map_eq_some_iff.1 hy
   obtain ⟨rfl,rfl⟩:=Prod.mk.inj e5
   obtain ⟨oe,ow3⟩:=zV.2.2 e' hq
   have Y5:∀ i,i < n→i ≠ w→(i < L.m3∨L.m4≤i)→B3[i]? = B2[i]?:=fun i a b c=>zV.1.2.1 i (by omega) b b c
   obtain ⟨p1,p2,p3,p4,p5⟩:=hs2.own
   obtain ⟨s1,s2,s3,s4,s5⟩:=vA x z b x.dh
   obtain ⟨r1,r2,r3,r4,r5⟩:=vA x z b e'
   rw [s1] at p1
   rw [s2] at p2
   rw [s3] at p3
   rw [s5] at p5
   refine ⟨rfl,Ek _ _ _ _ _,⟨?_,?_,?_,?_,?_⟩,ow3⟩
   ·rw [r1];exact p1.frame fun i a b=>Y5 i (by omega) (by omega) (by omega)
   ·rw [r2];exact p2.frame fun i a b=>Y5 i (by omega) (by omega) (by omega)
   ·rw [r3];exact p3.frame fun i a b=>Y5 i (by omega) (by omega) (by omega)
   ·rw [r4];exact oe
   ·rw [r5];exact p5.frame fun i a b=>Y5 i (by omega) (by omega) (by omega)
end
def Us:=by
 have c:=aM Tryz.f27 (by conv=>lhs;cbv)
 dsimp only [KK,eN,eG,eH,List.map_cons,List.map_nil,List.toList_toArray] at c
 exact c
theorem b27:bI Tryz.prog 27 Tryz.f27 33:=⟨Tryz.func27,by kernel_rfl⟩
theorem KC {su:List cG} {fu:List cn} {res:List aA} {s:aH} {vs:List bH} {s':aH} {oE:List bH} (h:gh su fu res s vs=some (s',oE)):oE=vs∨∃ n,oE=vs++[⟨n,s.type⟩]∧eW bH.name vs n=none:=by
 obtain ⟨k,ns,ty,ls,es,b,e,cs⟩:=s
 have one:∀ {α:Type} {o:Option α} {g:α→aH × List bH},(∀ a,(g a).2=vs)→o.map g=some (s',oE)→oE=vs:=by
  intro α o g hg h
  obtain ⟨x,_,e⟩:=Option.map_eq_some_iff.1 h
  rw [← hg x,e]
 unfold gh at h
 split at h
 ·split at h
  ·split at h
   ·rename_i n _ hc
    have:=(Prod.mk.inj (Option.some.inj h)).2
    exact .inr ⟨n,this.symm,by simpa using hc.1⟩
   ·cases h
  ·cases h
 split at h
 ·split at h
  ·exact .inl (one (fun _=>rfl) h)
  ·cases h
 split at h
 ·exact .inl (one (fun _=>rfl) h)
 split at h
 ·split at h
  ·split at h
   ·split at h
    ·split at h
     ·exact .inl (one (fun _=>rfl) h)
     ·cases h
    ·cases h
   ·cases h
  ·split at h
   ·split at h
    ·exact .inl (one (fun _=>rfl) h)
    ·cases h
   ·cases h
 ·cases h
theorem Iz {α:Type} (nm:α→List UInt8):∀ {l m:List α} {n:List UInt8},eW nm (l++m) n=none→eW nm l n=none
 | [],_,_,_=>rfl
 | x :: l,m,n,h=>by
  rw [List.cons_append] at h
  unfold eW at h ⊢
  split at h
  ·cases h
  ·rename_i hx
   rw [if_neg hx]
   exact Iz nm h
theorem El {α:Type} (nm:α→List UInt8) (k:α) (r:List α):∀ l:List α,eW nm l (nm k)=none→j4 ((l++k :: r).map nm) (nm k)=some l.length
 | [],_=>by simp [j4]
 | x :: l,h=>by
  unfold eW at h
  split at h
  ·cases h
  ·rename_i hx
   rw [List.cons_append,List.map_cons,j4,if_neg hx,El nm k r l h];rfl
theorem Q1 {vs r:List bH} {k:bH} (h:eW bH.name vs k.name=none):O7 ((vs++k :: r).map bH.name) ((vs++k :: r).map fun p=>aY p.type) k.name=qH (vs++r):=by
 unfold O7 qH
 rw [El _ _ _ _ h]
 dsimp only
 simp only [List.map_append,List.map_cons]
 rw [List.eraseIdx_append_of_length_le (by simp),List.eraseIdx_append_of_length_le (by simp)]
 simp
theorem Em {T T':List (Nat × Nat)} {b:Nat × Nat} (hq:∀ q,q ≠ T.length→T'[q]? = (T++[b])[q]?):T' = T++T'.drop T.length:=by
 conv=>lhs;rw [← List.take_append_drop T.length T']
 congr 1
 apply List.ext_getElem?
 intro q
 rw [List.getElem?_take]
 by_cases h:q < T.length
 ·rw [if_pos h,hq q (by omega),List.getElem?_append_left h]
 ·rw [if_neg h,List.getElem?_eq_none (by omega)]
theorem Q2 {T T':List (Nat × Nat)} {b d:Nat × Nat} (hl:T'.length=(T++[b]).length) (hq:∀ q,q ≠ T.length→T'[q]? = (T++[b])[q]?) (hd:T'[T.length]? = some d):T' = T++[d]:=by
 rw [Em hq] at hd ⊢
 rw [List.getElem?_append_right (Nat.le_refl _),Nat.sub_self] at hd
 congr 1
 have:(T'.drop T.length).length=1:=by simp at hl;simp;omega
 obtain ⟨x,hx⟩:=List.length_eq_one_iff.1 this
 rw [hx] at hd ⊢
 rw [← Option.some.inj hd]
structure Xx where
 i:Nat
 ys:List aH
 ks:List bH
 B:List (List V)
structure POk (su:List cG) (fu:List cn) (vs:List bH) (res:List aA) (n c s f w lo hi:Nat) (v:V) (l:List aH) (M:Nat) (B:List (List V)) (a:Xx):Prop where
 le:a.i≤l.length
 len:a.ys.length=a.i
 OK:ja w w lo hi B.length 0 B a.B
 bl:a.B.length=B.length+1
 at':mG a.B n c s f w ⟨su,fu,vs++a.ks⟩ res lo hi v (a.ys++l.drop a.i)
 nb:a.B[B.length]? = some [.sl (ij (a.ks.map bH.name)) (.own M)]
 new:∀ k∈a.ks,eW bH.name vs k.name=none
 tw:∀ k∈a.ks,TW k.type
 kl:a.ks.length≤a.i
 res:(bU su fu res (l.drop a.i) (vs++a.ks)).map (a.ys++·)=bU su fu res l vs
theorem BC (su:List cG) (fu:List cn) (res:List aA) (l:List aH) (vs:List bH) (i:Nat) (h:i < l.length):bU su fu res (l.drop i) vs=match gh su fu res l[i] vs with
 | some (s,vs)=>(bU su fu res (l.drop (i+1)) vs).map fun l=>s :: l
 | none=>none:=by
 rw [List.drop_eq_getElem_cons h]
 conv=>lhs;unfold bU
 rfl
set_option maxHeartbeats 16000000 in
theorem lE {su:List cG} {fu:List cn} {res:List aA} {l:List aH} (hl:∀ x∈l,Um su fu res x) (fD:∀ x∈l,TW x.type) (hlen:l.length≤60000):QU su fu res l:=by
 intro vs n c s f w B T lo hi v nr h
 obtain ⟨N,hn⟩:∃ N,B.length=N:=⟨_,rfl⟩
 obtain ⟨M,hM⟩:∃ M,T.length=M:=⟨_,rfl⟩
 have gS:=h.nl
 have Vl:=h.nb
 have vz:=h.ow
 have yW:=h.own.len Tryz.prog Iw rfl
 rw [fP.eq_1,Iw] at yW
 refine b27.go 160 rfl fun bk=>?_
 simp only [dP] at bk
 simp only [W,seval,Us,hn,yW]
 refine af.T7 N 0 _ [] (by rw [cL hn];rfl) (by rfl) 1 (by omega) rfl ?_
 rw [uo hn]
 simp only [List.set_cons_zero,hM,List.length_nil]
 refine af.cV (fun a:Xx=>(aR 33 [(0,.ptr c 0),(1,v),(5,.ptr N 0),(10,.d (.int .i64 (l.length:Int))),(11,.d (.int .i64 (a.i:Int)))],⟨a.B,T++[(a.ks.length,1)]⟩)) (POk su fu vs res n c s f w lo hi v l M B) (fun a=>l.length - a.i) ⟨0,[],[],B++[[.sl [] (.own M)]]⟩ ⟨Nat.zero_le _,rfl,(ja.refl _ _ _ _ _ _ B).app,by simp,by simpa using h.more,by rw [cL rfl];rfl,by simp,by simp,Nat.zero_le _,by simp⟩ ?_ rfl ?_
 ·skip
  refine ay.env _ ?_
  simp only [cD,seval]
 rintro ⟨i,ys,ks,Bi⟩ ⟨h2,h3,h4,h5,h6,h7,h8,h9,B8,B9⟩ ih
 dsimp only at h2 h3 h4 h5 h6 h7 h8 h9 B8 B9 ih ⊢
 rw [hn] at h5 h7
 have hNN:N < N+1:=by omega
 by_cases au:i < l.length
 case neg =>
  have e3:decide ((i:Int) < (l.length:Int))=false:=decide_eq_false (by omega)
  obtain rfl:i=l.length:=by omega
  rw [List.drop_eq_nil_of_le (Nat.le_refl _),bU,Option.map_some,List.append_nil] at B9
  rw [List.drop_eq_nil_of_le (Nat.le_refl _),List.append_nil] at h6
  rw [← B9]
  have hwB:=h6.k.w
  refine af.go 160 ?_
  simp only [W,seval,Us,e3,h5,hNN,h7,fL,List.length_map]
  have hcB:=h6.k.c
  unfold yO at hcB
  obtain ⟨w1,_,_⟩:=h.wd
  have hcn:c < N+1:=by omega
  have kS:Bi.set w (qH (vs++ks))=Bi:=pq _ _ _ hwB
  have Jg:w < Bi.length:=by omega
  have Xy:∀ Z,(Bi.set w Z)[c]? = some [V.mp s,.mp f,.mp w,.d (.sl (res.map dR))]:=fun Z=>by rw [List.getElem?_set_ne (Ne.symm w1)];exact hcB
  have hef:∀ q,ja w w lo hi B.length 0 B (Bi.set w (qH q)):=fun q=>h4.put (.inl rfl) fun v hv=>.inl (Iy q 0 v hv)
  refine af.cV (fun k:Nat=>(aR 33 [(0,.ptr c 0),(21,.sl (ij (ks.map bH.name)) (.own M)),(22,.d (.int .i64 (ks.length:Int))),(23,.d (.int .i64 (k:Int)))],⟨Bi.set w (qH (vs++ks.drop k)),T++[(ks.length,1)]⟩)) (fun k=>k≤ks.length) (fun k=>ks.length - k) 0 (Nat.zero_le _) ?_ (by rw [List.drop_zero,kS]) ?_
  ·skip
   refine ay.env _ ?_
   simp only [cD,seval]
  intro k hk lM
  dsimp only at lM ⊢
  by_cases Gy:k < ks.length
  case neg =>
   have e4:decide ((k:Int) < (ks.length:Int))=false:=decide_eq_false (by omega)
   rw [List.drop_eq_nil_of_le (by omega),List.append_nil]
   refine af.go 60 ?_
   simp only [W,seval,Us,e4]
   refine af.ret Tryz.func27 rfl (xD (hef vs) (Nat.zero_le _) rfl ?_)
   have A9:w < lo∨hi≤w:=vz
   refine ⟨_,rfl,⟨(hef vs).cut,by simp;omega,fun l' lO=>?_⟩,rfl⟩
   obtain rfl:=Option.some.inj lO
   exact ⟨h6.own.frame fun i a b=>by rw [fN (by omega),List.getElem?_set_ne (by omega)],by rw [fN (by omega),List.getElem?_set_self Jg]⟩
  have e4:decide ((k:Int) < (ks.length:Int))=true:=decide_eq_true (by omega)
  have E1:=az ((k:Int)+1) (by omega)
  have Ut:(ks.map bH.name)[k]? = some ks[k].name:=by simp [Gy]
  have hkI:(k:Int) < ((ks.map bH.name).length:Int):=by rw [List.length_map];omega
  have aa9:oF Tryz.prog ⟨Bi.set w (qH (vs++ks.drop k)),T++[(ks.length,1)]⟩ 62 (.mp w) (.d (.str ks[k].name))=some (.bY [],⟨Bi.set w (qH (vs++ks.drop (k+1))),T++[(ks.length,1)]⟩):=by
   unfold oF
   have hg:(Bi.set w (qH (vs++ks.drop k)))[w]? = some (qH (vs++ks.drop k)):=List.getElem?_set_self Jg
   unfold qH at hg
   simp only [Gx]
   show (match (Bi.set w (qH (vs++ks.drop k)))[w]? with | some [.oy YS oE]=>_ | _=>none)=_
   unfold qH
   rw [hg]
   dsimp only
   rw [List.set_set,List.drop_eq_getElem_cons Gy,Q1 (h8 ks[k] (List.getElem_mem Gy))]
   rfl
  refine af.go 60 ?_
  simp only [W,seval,Us,e4,Ut,hkI,Gy,List.length_map,h5,hcn,Xy,aa9,E1]
  refine lM (k+1) (by omega) (by omega) _ _ ?_ rfl
  refine ay.env _ ?_
  simp only [cD,seval]
 have e3:decide ((i:Int) < (l.length:Int))=true:=decide_eq_true (by omega)
 have oO:=az ((i:Int)+1) (by omega)
 obtain ⟨x,hx⟩:∃ x,l[i]=x:=⟨_,rfl⟩
 have jW:=hl l[i] (List.getElem_mem au)
 have htw:=fD l[i] (List.getElem_mem au)
 rw [hx] at jW htw
 rw [BC _ _ _ _ _ _ au,hx] at B9
 have mO:(ys++l.drop i)[i]? = some x:=by rw [xy _ _ h3,List.getElem?_eq_getElem au,hx]
 obtain ⟨j1,m,cap,rfl,ni⟩:=h6.bx (by intro h0;rw [h0] at mO;simp at mO)
 have hmi:(i:Int) < (m:Int):=by have:=(List.getElem?_eq_some_iff.1 mO).1;omega
 obtain ⟨L,q1,q2,q3,q4,q5,q6,q7,q8⟩:=h6.qI mO
 have hc:=jW (vs++ks) n c s f w Bi (T++[(ks.length,1)]) L N M (ks.map bH.name) (fun p hp=>(List.mem_append.1 hp).elim (nr p) (h9 p)) q7 (by omega) h7 (by rw [List.getElem?_append_right (by omega),hM,Nat.sub_self];simp) (by rw [List.length_map];omega)
 rw [q1,q2] at hc
 refine af.go 160 ?_
 simp only [W,seval,Us,iL,e3,hmi]
 refine aU hc ?_
 rintro u _ ⟨B1,T1,rfl,bg,yC,uV,he,rfl,hr⟩
 have hcut:=Em (b:=(ks.length,1)) (by rw [hM];exact uV)
 have e4:ja w w lo hi B.length 0 B B1:=h4.trans (he.fV (by omega) (.inr (.inl (by omega))) (.inl rfl) (.inr (.inr (.inr (by omega)))) q5 q6)
 cases hs:gh su fu res x (vs++ks) with
 | none =>
  rw [hs] at B9
  rw [← B9]
  refine af.go 60 ?_
  simp only [W,seval,Us,Option.isSome_none,Bool.not_false]
  rw [hcut]
  refine af.ret Tryz.func27 rfl (xD e4 (Nat.zero_le _) rfl ?_)
  exact ⟨_,rfl,⟨e4.cut,by have:=e4.1;rw [List.length_take];omega,fun l hl=>by cases hl⟩,rfl⟩
 | some p =>
  obtain ⟨x',oE⟩:=p
  rw [hs] at B9 hr
  obtain ⟨o1,o2,k1,rfl,o3,o4,o5⟩:=hr x' oE rfl
  have hT1:T1=T++[((ks.map bH.name++k1.map bH.name).length,1)]:=Q2 (b:=(ks.length,1)) yC (by rw [hM];exact uV) (by rw [hM];exact o5)
  have Sk:(∀ k∈k1,eW bH.name (vs++ks) k.name=none∧TW k.type)∧k1.length≤1:=by
   rcases KC hs with e | ⟨nn,e,hn'⟩
   ·have:k1=[]:=by simpa using e
    rw [this];exact ⟨fun k hk=>absurd hk List.not_mem_nil,Nat.zero_le _⟩
   ·have:k1=[⟨nn,x.type⟩]:=List.append_cancel_left e
    rw [this]
    exact ⟨fun k hk=>by obtain rfl:=List.mem_singleton.1 hk;exact ⟨hn',htw⟩,Nat.le_refl _⟩
  have hb9:=q8 B1 x' (vs++ks++k1) N (T++[(ks.length,1)]).length (he.fV (n:=n) (m:=(T++[(ks.length,1)]).length) (by omega) (.inl ⟨rfl,Nat.le_refl _⟩) (.inl rfl) (.inr (.inl rfl)) (Nat.le_refl _) (Nat.le_refl _)) (by omega) o1 (by rw [← q1];exact o2) o3
  rw [sK _ _ h3 au] at hb9
  refine af.go 60 ?_
  simp only [W,seval,Us,Option.isSome_some,Bool.not_true,oO]
  refine ih ⟨i+1,ys++[x'],ks++k1,B1⟩ ⟨au,by simp [h3],e4,by rw [hn,← h5];exact bg,by rw [← List.append_assoc];exact hb9,by rw [hn,List.map_append];exact o4,fun k hk=>(List.mem_append.1 hk).elim (h8 k) fun hk=>Iz _ (Sk.1 k hk).1,fun k hk=>(List.mem_append.1 hk).elim (h9 k) fun hk=>(Sk.1 k hk).2,by have:=Sk.2;rw [List.length_append];dsimp only;omega,?_⟩ (by dsimp only;omega) _ _ ?_ (by dsimp only;rw [hT1];simp)
  ·dsimp only at B9 ⊢
   rw [← B9,← List.append_assoc]
   cases bU su fu res (l.drop (i+1)) (vs++ks++k1)<;>simp
  ·skip
   refine ay.env _ ?_
   simp only [cD,seval]
def Y6 (r:Option (List aj)) (v:V):Prop :=
 match r with
 | some l=>v = .bY [.d (.sl (l.map fO)),.d (.bool true)]
 | none=>∃ l:List aj,v = .bY [.d (.sl (l.map fO)),.d (.bool false)]
theorem Y6.ne (r:Option (List aj)):∃ v,Y6 r v:=by
 cases r
 ·exact ⟨_,[],rfl⟩
 ·exact ⟨_,rfl⟩
theorem Y6.of {r:Option (List aj)} {v:V} (l:List aj) (b:Bool) (hv:v = .bY [.d (.sl (l.map fO)),.d (.bool b)]) (h:r=if b=true then some l else none):Y6 r v:=by
 subst h hv
 cases b
 ·exact ⟨l,rfl⟩
 ·rfl
section
variable {E:bP} {res:List aA} {c:Nat} {B:List (List V)} {T:List (Nat × Nat)}
end
end Go.Proofs.YtnfnbjjnjjdjdaaGreatDoor
namespace Go.Proofs.YtnfnbjjnjjdjdaaGreatDoor
open Go.RowKit Go.Av
def Xz {α:Type} (a b:α × Ps):Prop:=a.2=b.2∧(a.2.e=0→a.1=b.1)
theorem Xz.refl {α:Type} (a:α × Ps):Xz a a:=⟨rfl,fun _=>rfl⟩
def EqE {α:Type} (n:Nat) (E E':Ps→α × Ps):Prop:=∀ s,mu s < n→Xz (E s) (E' s)
theorem EqE.at {α:Type} {n:Nat} {E E':Ps→α × Ps} (h:EqE n E E') (s:Ps) (hn:mu s < n):∃ x x' s1,E s=(x,s1)∧E' s=(x',s1)∧(s1.e=0→x=x'):=by
 obtain ⟨h1,h2⟩:=h s hn
 exact ⟨(E s).1,(E' s).1,(E s).2,rfl,by rw [h1],h2⟩
theorem Xz.open {α:Type} {a b:α × Ps} (h:Xz a b):∃ x x' s1,a=(x,s1)∧b=(x',s1)∧(s1.e=0→x=x'):=⟨a.1,b.1,a.2,rfl,by rw [h.1],h.2⟩
end Go.Proofs.YtnfnbjjnjjdjdaaGreatDoor
namespace Go.Proofs.YtnfnbjjnjjdjdaaGreatDoor
open Go.RowKit Go.Av Go.Ab
set_option linter.unusedSimpArgs false
set_option maxRecDepth 100000
set_option linter.defProp false
theorem VP (i:Int) (b:List aH):[D.int .u64 i,.sl (b.map dZ)]=lK (.mk i b):=(iS (.mk i b)).symm
inductive En:aH→Prop
 | mk (s:aH):s.aG.length≤60000→s.exprs.length≤60000→s.cases.length≤60000→s.body.length≤60000→s.dh.length≤60000→(∀ x∈s.aG,Ch x)→(∀ x∈s.exprs,Ch x)→(∀ y∈s.body,En y)→(∀ y∈s.dh,En y)→(∀ c∈s.cases,c.body.length≤60000)→(∀ c∈s.cases,∀ y∈c.body,En y)→En s
theorem En.cases {s:aH} (h:En s):s.cases.length≤60000:=by cases h;assumption
theorem xF:∀ (l:List aH) (h:0 < l.length),dV l=xg (l[l.length - 1])
 | [],h=>absurd h (Nat.not_lt_zero 0)
 | [s],_=>by unfold dV;rfl
 | a :: b :: l,_=>by
  unfold dV
  dsimp only
  rw [xF (b :: l) (by simp)]
  congr 1
theorem kA.qI {d:Int} {x:aj} (h:kA d x):∀ y∈x.kids,kA (d+1) y:=by
 cases h with
 | Nb _ t h1 h2=>exact fun y hy=>absurd hy List.not_mem_nil
 | num _ i h1 h2 h3=>exact fun y hy=>absurd hy List.not_mem_nil
 | YP _ i h1 h2 h3=>exact fun y hy=>absurd hy List.not_mem_nil
 | Vc _ k y h1 h2 h3=>exact fun z hz=>by obtain rfl:=List.mem_singleton.1 hz;exact h3
 | bin _ t y z h1 h2 h3 h4 =>
  intro u hu
  rcases List.mem_cons.1 hu with rfl | hu
  ·exact h3
  ·obtain rfl:=List.mem_singleton.1 hu;exact h4
 | W1 _ t ks h1 h2 h3=>exact h3
 | W2 _ k y h1 h2 h3 h4=>exact fun z hz=>by obtain rfl:=List.mem_singleton.1 hz;exact h4
 | W3 _ t y h1 h2 h3=>exact fun z hz=>by obtain rfl:=List.mem_singleton.1 hz;exact h3
 | idx _ y z h1 h2 h3 =>
  intro u hu
  rcases List.mem_cons.1 hu with rfl | hu
  ·exact h2
  ·obtain rfl:=List.mem_singleton.1 hu;exact h3
 | cut _ y z v h1 h2 h3 h4 =>
  intro u hu
  rcases List.mem_cons.1 hu with rfl | hu
  ·exact h2
  rcases List.mem_cons.1 hu with rfl | hu
  ·exact h3
  ·obtain rfl:=List.mem_singleton.1 hu;exact h4
 | len _ y h1 h2=>exact fun z hz=>by obtain rfl:=List.mem_singleton.1 hz;exact h2
 | app _ y z h1 h2 h3 =>
  intro u hu
  rcases List.mem_cons.1 hu with rfl | hu
  ·exact h2
  ·obtain rfl:=List.mem_singleton.1 hu;exact h3
 | str _ n ns ks h1 h2 h3 h4 h5=>exact h5
 | W4 _ t ks h1 h2 h3=>exact h3
theorem GI {E:bP} {d:Int} {x:aj} (h:kA d x):dU x=true→∀ w z t,aE E x w=some (z,t)→z=x:=by
 induction h with
 | Nb d t h1 h2 =>
  intro _ w z u hz
  rw [xB] at hz
  obtain ⟨p,_,e⟩:=Option.map_eq_some_iff.1 hz
  exact (Prod.mk.inj e).1.symm
 | W3 d t y h1 h2 h3 ih =>
  intro hp w z u hz
  rw [xC] at hz
  have hp:dU y=true:=by unfold dU at hp;simpa using hp
  split at hz
  ·rename_i a v ha
   obtain ⟨p,_,e⟩:=Option.map_eq_some_iff.1 hz
   rw [← (Prod.mk.inj e).1,ih hp _ _ _ ha]
  ·cases hz
 | Vc d k y h1 h2 h3 ih=>exact fun hp=>by rw [kI] at hp;rcases h2 with rfl | rfl<;>simp at hp
 | W1 d t ks h1 h2 h3 ih=>exact fun hp=>by rw [kI] at hp;split at hp<;>simp at hp
 | str d n ns ks h1 h2 h3 h4 h5 ih=>exact fun hp=>by rw [kI] at hp;split at hp<;>simp at hp
 | W4 d t ks h1 h2 h3 ih=>exact fun hp=>by rw [kI] at hp;split at hp<;>simp at hp
 | W2 d k y h1 h2 h3 h4 ih=>exact fun hp=>by rw [kI] at hp;simp at hp
 | _=>exact fun hp=>by unfold dU at hp;simp at hp
section
variable {su:List cG} {fu:List cn} {res:List aA}
theorem tV (hT:og su fu) {d:Int} {x:aj} (h:kA d x) (hs:Ch x):∀ vs:List bH,(∀ p∈vs,TW p.type)→dN ⟨su,fu,vs⟩ res x∧∀ z∈x.kids,dN ⟨su,fu,vs⟩ res z :=
 fun _ hv=>⟨Ef ⟨hT,hv⟩ h hs,fun z hz=>Ef ⟨hT,hv⟩ (h.qI z hz) (hs.qI z hz)⟩
theorem tW {d:Int} {s:aH} (h:ym d s):TW s.type:=by
 cases h with
 | var _ n t h1 h2 h3=>exact TW.zN h3
 | _=>exact .leaf 0 _ _ (by decide)
theorem NG (hT:og su fu) {d:Int} {s:aH} (h:ym d s):En s→Um su fu res s:=by
 induction h with
 | var d n t h1 h2 h3=>exact fun _=>QW (TW.zN h3) rfl
 | set d ls es h1 h2 h3 h4 h5 h6 =>
  intro hs
  cases hs with
  | mk _ a1 a2 a3 a4 a5 a6 a7 a8 a9 Lp Lq =>
   exact QZ hT rfl (fun vs hv y hy=>⟨(tV hT (h5 y hy) (a6 y hy) vs hv).1,GI (h5 y hy) (h4 y hy)⟩) (fun vs hv y hy=>tV hT (h6 y hy) (a7 y hy) vs hv) (by omega) (by omega)
 | iff d x b e h1 h2 h3 h4 h5 NH ih5 =>
  intro hs
  cases hs with
  | mk _ a1 a2 a3 a4 a5 a6 a7 a8 a9 Lp Lq =>
   exact NF (.inl rfl) rfl (fun vs hv=>(tV hT h2 (a7 x List.mem_cons_self) vs hv).1) (lE (fun y hy=>NH y hy (a8 y hy)) (fun y hy=>tW (h4 y hy)) (by omega)) (lE (fun y hy=>ih5 y hy (a9 y hy)) (fun y hy=>tW (h5 y hy)) (by omega))
 | fro d x b h1 h2 h3 h4 NH =>
  intro hs
  cases hs with
  | mk _ a1 a2 a3 a4 a5 a6 a7 a8 a9 Lp Lq =>
   exact NF (.inr rfl) rfl (fun vs hv=>(tV hT h2 (a7 x List.mem_cons_self) vs hv).1) (lE (fun y hy=>NH y hy (a8 y hy)) (fun y hy=>tW (h4 y hy)) (by omega)) (lE (fun y hy=>absurd hy List.not_mem_nil) (fun y hy=>absurd hy List.not_mem_nil) (by omega))
 | swi d x e cs h1 h2 h3 h4 h5 h6 NH ih6 =>
  intro hs
  cases hs with
  | mk _ a1 a2 a3 a4 a5 a6 a7 a8 a9 Lp Lq =>
   exact Up rfl rfl (fun vs hv=>(tV hT h2 (a7 x List.mem_cons_self) vs hv).1) (fun c hc=>lE (fun y hy=>ih6 c hc y hy (Lq c hc y hy)) (fun y hy=>tW (h6 c hc y hy)) (by have:=Lp c hc;omega)) (lE (fun y hy=>NH y hy (a9 y hy)) (fun y hy=>tW (h4 y hy)) (by omega)) (by omega)
 | ret d es h1 h2 h3 =>
  intro hs
  cases hs with
  | mk _ a1 a2 a3 a4 a5 a6 a7 a8 a9 Lp Lq =>
   exact Q0 hT rfl (fun vs hv y hy=>tV hT (h3 y hy) (a7 y hy) vs hv) (by omega)
theorem KD (hT:og su fu) {d:Int} {l:List aH} (h:∀ s∈l,ym d s) (hs:∀ s∈l,En s) (hl:l.length≤60000):QU su fu res l :=
 lE (fun s hm=>NG hT (h s hm) (hs s hm)) (fun s hm=>tW (h s hm)) hl
end
def NI:=by
 have c:=aM Tryz.f28 (by conv=>lhs;cbv)
 dsimp only [KK,eN,eG,eH,List.map_cons,List.map_nil,List.toList_toArray] at c
 exact c
theorem XA:bI Tryz.prog 28 Tryz.f28 38:=⟨Tryz.func28,by kernel_rfl⟩
def c77:=by
 have c:=aM Tryz.f77 (by conv=>lhs;cbv)
 dsimp only [KK,eN,eG,eH,List.map_cons,List.map_nil,List.toList_toArray] at c
 exact c
theorem b77:bI Tryz.prog 77 Tryz.f77 7:=⟨Tryz.func77,by kernel_rfl⟩
def KE:=by
 have c:=aM Tryz.f114 (by conv=>lhs;cbv)
 dsimp only [KK,eN,eG,eH,List.map_cons,List.map_nil,List.toList_toArray] at c
 exact c
theorem abd:bI Tryz.prog 114 Tryz.f114 19:=⟨Tryz.func114,by kernel_rfl⟩
theorem Eo {Y A r C:List V} {k m:Nat} (hY:Y=A++r++C) (hA:A.length=k) (hr:r.length=m):(Y.drop k).take m=r∧k+m≤Y.length:=by
 subst hY hA hr
 refine ⟨?_,by simp⟩
 rw [List.append_assoc,List.drop_append,List.drop_eq_nil_of_le (Nat.le_refl _),List.nil_append,Nat.sub_self,List.drop_zero,List.take_append_of_le_length (Nat.le_refl _),List.take_of_length_le (Nat.le_refl _)]
theorem fS.one {B:List (List V)} {l:List aH} {lo hi:Nat} {v:V} (h:fS B l lo hi v) {k:Nat} {x:aH} (hk:l[k]? = some x) :
 ∃ (j cap eL m1 m2 m3 m4 dK:Nat) (Y:List V) (v1 v2 v3 v4 v5:V),v = .bx j l.length cap∧B[j]? = some Y∧(Y.drop (k * 10)).take 10=dg x v1 v2 v3 v4 v5∧k * 10+10≤Y.length∧dK≤hi∧uI B x eL m1 m2 m3 m4 dK v1 v2 v3 v4 v5:=by
 have au:=(List.getElem?_eq_some_iff.1 hk).1
 rcases h with ⟨h0,_⟩ | ⟨hn,j1,cap,Y,h1,h2,h3,h4,h5⟩
 ·omega
 rw [jE] at h5
 obtain ⟨A1,r,C1,eL,dK,e1,e2,e3,e4,e5,e6,e7,e8⟩:=h5.at k x hk
 obtain ⟨v1,v2,v3,v4,v5,m1,m2,m3,m4,rfl,hp⟩:=lC.1 e7
 obtain ⟨f1,f2⟩:=Eo (m:=10) e1 e2 rfl
 exact ⟨j1,cap,eL,m1,m2,m3,m4,dK,Y,v1,v2,v3,v4,v5,h1,h4,f1,f2,e6,hp⟩
theorem l7.one {B:List (List V)} {l:List cJ} {lo hi:Nat} {v:V} (h:l7 B l lo hi v) {k:Nat} {x:cJ} (hk:l[k]? = some x) :
 ∃ (j cap eL dK:Nat) (Y:List V) (bv:V),v = .bx j l.length cap∧B[j]? = some Y∧(Y.drop (k * 2)).take 2=[.d (.int .u64 x.int),bv]∧k * 2+2≤Y.length∧dK≤hi∧fS B x.body eL dK bv:=by
 have au:=(List.getElem?_eq_some_iff.1 hk).1
 rcases h with ⟨h0,_⟩ | ⟨hn,j1,cap,Y,h1,h2,h3,h4,h5⟩
 ·omega
 rw [jF] at h5
 obtain ⟨A1,r,C1,eL,dK,e1,e2,e3,e4,e5,e6,e7,e8⟩:=h5.at k x hk
 obtain ⟨bv,rfl,hp⟩:=lD.1 e7
 obtain ⟨f1,f2⟩:=Eo (m:=2) e1 e2 rfl
 exact ⟨j1,cap,eL,dK,Y,bv,h1,h4,f1,f2,e6,hp⟩
def Ep (i:Int) (bv:V):V:=.agg [.d (.int .u64 i),bv]
set_option maxHeartbeats 2000000 in
theorem ve (g:FuncId) (f:cJ→Bool) (l:List cJ) (hl:l.length≤60000) {B:List (List V)} (T:List (Nat × Nat)) {lo hi:Nat} {v:V} (h:l7 B l lo hi v) (hh:hi≤B.length) (hg:∀ x∈l,∀ eL dK bv,dK≤B.length→fS B x.body eL dK bv→aF Tryz.prog av g [Ep x.int bv] ⟨B,T⟩ (aB (.d (.bool (f x))) ⟨B,T⟩)) :
 aF Tryz.prog av 114 [v,.func g [] []] ⟨B,T⟩ (aB (.d (.int .i64 (bB (fun x (s:Unit)=>(f x,s)) l 0 ()).1)) ⟨B,T⟩):=by
 have yW:=h.len Tryz.prog Ix rfl
 rw [fP.eq_1,Ix] at yW
 refine abd.go 100 rfl fun bk=>?_
 simp only [dP] at bk
 simp only [W,seval,KE,yW]
 refine af.cV (fun p:Nat=>(aR 19 [(0,v),(1,.func g [] []),(6,v),(7,.d (.int .i64 l.length)),(8,.d (.int .i64 p))],⟨B,T⟩)) (fun p=>p≤l.length∧bB (fun x (s:Unit)=>(f x,s)) l 0 ()=bB (fun x (s:Unit)=>(f x,s)) (l.drop p) p ()) (fun p=>l.length - p) 0 ⟨by omega,rfl⟩ ?_ rfl ?_
 ·skip
  refine ay.env _ ?_
  simp only [cD,seval]
 rintro i ⟨h1,h2⟩ ih
 dsimp only at h1 h2 ih ⊢
 by_cases au:i < l.length
 ·have hw:=az ((i:Int)+1) (by omega)
  have mc:=List.getElem?_eq_getElem au
  rw [aX au] at h2
  obtain ⟨j,cap,eL,dK,Y,bv,rfl,k2,k3,k4,k5,k6⟩:=h.one mc
  have aC:decide ((i:Int) < (l.length:Int))=true:=decide_eq_true (by omega)
  have mE:(i:Int) < (l.length:Int):=by omega
  have rE:=hg l[i] (List.getElem_mem au) eL dK bv (by omega) k6
  unfold Ep at rE
  refine af.go 100 ?_
  simp only [W,seval,KE,iL,mc,aC,hw,mE,k2,k3,k4]
  refine aU (first:=[]) (args:=[_]) (caps:=[]) rE ?_
  rintro _ _ ⟨rfl,rfl⟩
  refine af.go 100 ?_
  simp only [W,seval,KE,hw]
  refine aW (fun h=>?_) (fun h=>?_)
  ·simp only [W,seval,KE,h]
   refine af.ret Tryz.func114 rfl (Left.none ?_)
   have e:bB (fun x (s:Unit)=>(f x,s)) (l[i] :: l.drop (i+1)) (i:Int) ()=((i:Int),()):=by simp [bB,h]
   rw [h2,e]
   exact ⟨rfl,rfl⟩
  ·simp only [W,seval,KE,h,hw]
   have e:bB (fun x (s:Unit)=>(f x,s)) (l[i] :: l.drop (i+1)) (i:Int) ()=bB (fun x (s:Unit)=>(f x,s)) (l.drop (i+1)) ((i+1:Nat):Int) ():=by simp [bB,h]
   refine ih (i+1) ⟨au,h2.trans e⟩ (by omega) _ _ ?_ rfl
   refine ay.env _ ?_
   simp only [cD,seval]
 ·have aC:decide ((i:Int) < (l.length:Int))=false:=decide_eq_false (by omega)
  refine af.go 100 ?_
  simp only [W,seval,KE,aC]
  refine af.ret Tryz.func114 rfl (Left.none ?_)
  rw [h2,List.drop_eq_nil_of_le (by omega)]
  exact ⟨rfl,rfl⟩
theorem rz (g:FuncId) (f:cJ→Bool) (l:List cJ) (hl:l.length≤60000) {B:List (List V)} (T:List (Nat × Nat)) {lo hi:Nat} {v:V} (h:l7 B l lo hi v) (hh:hi≤B.length) (hg:∀ x∈l,∀ eL dK bv,dK≤B.length→fS B x.body eL dK bv→aF Tryz.prog av g [Ep x.int bv] ⟨B,T⟩ (aB (.d (.bool (f x))) ⟨B,T⟩)) :
 aF Tryz.prog av 76 [v,.func g [] []] ⟨B,T⟩ (aB (.d (.bool (l.any f))) ⟨B,T⟩):=by
 obtain ⟨e1,e2⟩:=jx (fun x (s:Unit)=>(f x,s)) l 0 () (Int.le_refl 0)
 refine aF.body Tryz.func76 rfl (by kernel_rfl) ?_
 refine af.go 100 ?_
 simp only [Tryz.f76,WO,seval]
 refine ag (ve g f l hl T h hh hg) ?_
 rintro _ _ ⟨rfl,rfl⟩
 refine af.go 100 ?_
 simp only [WO,seval,e1]
 refine af.fits fun hf=>?_
 refine af.ret Tryz.func76 rfl (Left.fits hf rfl rfl ?_)
 have e3:∀ l:List cJ,(mz (fun x (s:Unit)=>(f x,s)) l ()).1=l.any f:=by
  intro l
  induction l with
  | nil=>rfl
  | cons x l ih=>simp only [mz,List.any_cons];cases f x<;>simp [ih]
 rw [e3]
 exact ⟨rfl,rfl⟩
def GJ (l:List aH):Prop:=∀ (B:List (List V)) (T:List (Nat × Nat)) (lo hi:Nat) (v:V),fS B l lo hi v→hi≤B.length→aF Tryz.prog av 28 [v] ⟨B,T⟩ (aB (.d (.bool (dV l))) ⟨B,T⟩)
theorem NJ (l:List cJ):(!(l.any fun c=>!(dV c.body)))=nV l:=by
 induction l with
 | nil=>unfold nV;rfl
 | cons c l ih =>
  cases c
  conv=>rhs;unfold nV
  rw [← ih,List.any_cons]
  show (!(!dV _ || _))=_
  rw [Bool.not_or,Bool.not_not]
  rfl
theorem NK {b:List aH} (h:GJ b) (i:Int) {B:List (List V)} (T:List (Nat × Nat)) {lo hi:Nat} {v:V} (ho:fS B b lo hi v) (hh:hi≤B.length):aF Tryz.prog av 77 [Ep i v] ⟨B,T⟩ (aB (.d (.bool (!dV b))) ⟨B,T⟩):=by
 obtain ⟨N,hn⟩:∃ N,B.length=N:=⟨_,rfl⟩
 unfold Ep
 refine b77.go 60 rfl fun bk=>?_
 simp only [dP] at bk
 simp only [W,seval,c77,hn]
 refine ag (h _ _ lo hi v (ho.frame fun i _ hi=>ah (by omega)) (by simp;omega)) ?_
 rintro _ _ ⟨rfl,rfl⟩
 refine af.go 60 ?_
 simp only [W,seval,c77]
 refine af.ret Tryz.func77 rfl (Left.box ?_)
 exact ⟨rfl,rfl⟩
set_option maxHeartbeats 4000000 in
theorem IA (l:List aH) (h:∀ s∈l,(GJ s.body∧GJ s.dh∧∀ c∈s.cases,GJ c.body)∧s.cases.length≤60000∧(s.kind=3→s.cases=[])) (hlen:l.length≤60000):GJ l:=by
 intro B T lo hi v ho RF
 obtain ⟨N,hn⟩:∃ N,B.length=N:=⟨_,rfl⟩
 have yW:=ho.len Tryz.prog Iw rfl
 rw [fP.eq_1,Iw] at yW
 by_cases hl:l.length=0
 ·obtain rfl:=List.eq_nil_of_length_eq_zero hl
  have hE:dV []=false:=by unfold dV;rfl
  rw [hE]
  refine XA.go 60 rfl fun bk=>?_
  simp only [dP] at bk
  simp only [W,seval,NI,hn,yW]
  refine af.ret Tryz.func28 rfl (Left.none ?_)
  exact ⟨rfl,rfl⟩
 have e0:decide ((l.length:Int)=0)=false:=decide_eq_false (by omega)
 have au:l.length - 1 < l.length:=by omega
 obtain ⟨⟨hb,he,hc⟩,jY,h3c⟩:=h _ (List.getElem_mem au)
 rw [xF l (by omega)]
 obtain ⟨j,cap,eL,m1,m2,m3,m4,dK,Y,v1,v2,v3,v4,v5,rfl,k2,k3,k4,k5,k6⟩:=ho.one (List.getElem?_eq_getElem au)
 obtain ⟨s,hs⟩:∃ s,l[l.length - 1]=s:=⟨_,rfl⟩
 rw [hs] at hb he hc jY h3c k3 k6 ⊢
 have hS:xg s=(decide (s.kind=6) || (dV s.dh && (decide (s.kind=5) || decide (s.kind=3) && dV s.body) && nV s.cases)):=by
  cases s
  conv=>lhs;unfold xg
  rfl
 obtain ⟨m,hm⟩:∃ m:Nat,l.length=m+1:=⟨l.length - 1,by omega⟩
 have NC:l.length - 1=m:=by omega
 have Y7:(m:Int) < (l.length:Int):=by omega
 have Y8:m < l.length:=by omega
 rw [NC] at k3 k4
 have Y9:IntKind.i64.wrap ((l.length:Int) - 1)=(m:Int):=by
  rw [az _ (by omega)]
  omega
 clear NC hs
 unfold dg at k3
 obtain ⟨p1,p2,p3,p4,p5⟩:=k6
 have hle:=(show uI B s eL m1 m2 m3 m4 dK v1 v2 v3 v4 v5 from ⟨p1,p2,p3,p4,p5⟩).le
 obtain ⟨X,hX⟩:∃ X:List (List V),X=[[.d (.int .i64 s.kind),.d (.sl (ij s.names)),.d (.int .i64 s.type.kind),.d (.str s.type.name),.d (.sl (s.type.elem.map dR)),v1,v2,v3,v4,v5]]:=⟨_,rfl⟩
 have hex:∀ (b:List aH) (a z:Nat) (u:V),GJ b→fS B b a z u→z≤dK→aF Tryz.prog av 28 [u] ⟨B++X,T⟩ (aB (.d (.bool (dV b))) ⟨B++X,T⟩):=fun b a z u hb ho hz=>hb _ _ a z u (ho.frame fun i _ hi=>ah (by omega)) (by rw [List.length_append];omega)
 have abe:=hex _ _ _ _ hb p3 (by omega)
 have XB:=hex _ _ _ _ he p4 (by omega)
 have abf:=rz 77 (fun c=>!dV c.body) s.cases jY (B:=B++X) T (p5.frame fun i _ hi=>ah (by omega)) (by rw [List.length_append];omega) fun c hm a z u hz ho=>NK (hc c hm) c.int T ho hz
 clear hex hb he hc
 subst hX
 cases h6:decide (s.kind=6)
 case true =>
  rw [h6,Bool.true_or] at hS
  refine XA.go 60 rfl fun bk=>?_
  simp only [dP] at bk
  simp only [W,seval,NI,iL,hn,e0,yW,Y9,Y7,Y8,k2,k3,k4,h6]
  refine af.ret Tryz.func28 rfl (Left.box ?_)
  rw [hS]
  exact ⟨rfl,rfl⟩
 rw [h6,Bool.false_or] at hS
 by_cases q3:s.kind=3
 ·have h3:decide (s.kind=3)=true:=decide_eq_true q3
  have qw:nV s.cases=true:=by rw [h3c q3];unfold nV;rfl
  have h5:decide (s.kind=5)=false:=decide_eq_false (by omega)
  rw [h3,h5,qw,Bool.false_or,Bool.true_and,Bool.and_true] at hS
  rw [hS]
  refine XA.go 60 rfl fun bk=>?_
  simp only [dP] at bk
  simp only [W,seval,NI,iL,hn,e0,yW,Y9,Y7,Y8,k2,k3,k4,h6,h3]
  refine ag abe ?_
  rintro _ _ ⟨rfl,rfl⟩
  cases hB:dV s.body
  ·refine af.go 60 ?_
   simp only [W,seval,NI,hn]
   refine af.ret Tryz.func28 rfl (Left.box ?_)
   rw [Bool.and_false]
   exact ⟨rfl,rfl⟩
  ·refine af.go 60 ?_
   simp only [W,seval,NI,iL,hn]
   refine ag XB ?_
   rintro _ _ ⟨rfl,rfl⟩
   refine af.go 60 ?_
   simp only [W,seval,NI,hn]
   refine af.ret Tryz.func28 rfl (Left.box ?_)
   exact ⟨rfl,rfl⟩
 have h3:decide (s.kind=3)=false:=decide_eq_false q3
 rw [h3,Bool.false_and,Bool.or_false] at hS
 cases h5:decide (s.kind=5)
 ·rw [h5,Bool.and_false,Bool.false_and] at hS
  rw [hS]
  refine XA.go 60 rfl fun bk=>?_
  simp only [dP] at bk
  simp only [W,seval,NI,iL,hn,e0,yW,Y9,Y7,Y8,k2,k3,k4,h6,h3,h5]
  refine af.ret Tryz.func28 rfl (Left.box ?_)
  exact ⟨rfl,rfl⟩
 rw [h5,Bool.and_true,← NJ] at hS
 rw [hS]
 refine XA.go 60 rfl fun bk=>?_
 simp only [dP] at bk
 simp only [W,seval,NI,iL,hn,e0,yW,Y9,Y7,Y8,k2,k3,k4,h6,h3,h5]
 refine ag XB ?_
 rintro _ _ ⟨rfl,rfl⟩
 cases hB:dV s.dh
 ·refine af.go 60 ?_
  simp only [W,seval,NI,hn]
  refine af.ret Tryz.func28 rfl (Left.box ?_)
  rw [Bool.false_and]
  exact ⟨rfl,rfl⟩
 ·refine af.go 60 ?_
  simp only [W,seval,NI,iL,hn]
  refine ag abf ?_
  rintro _ _ ⟨rfl,rfl⟩
  refine af.go 60 ?_
  simp only [W,seval,NI,hn]
  refine af.ret Tryz.func28 rfl (Left.box ?_)
  exact ⟨rfl,rfl⟩
inductive GK:aH→Prop
 | mk (s:aH):(s.kind=3→s.cases=[])→s.cases.length≤60000→s.body.length≤60000→s.dh.length≤60000→(∀ c∈s.cases,c.body.length≤60000)→(∀ y∈s.body,GK y)→(∀ y∈s.dh,GK y)→(∀ c∈s.cases,∀ y∈c.body,GK y)→GK s
theorem NL {s:aH} (h:GK s):GJ s.body∧GJ s.dh∧∀ c∈s.cases,GJ c.body:=by
 induction h with
 | mk s h1 h2 h3 h4 h5 h6 h7 h8 i6 i7 i8 =>
  have key:∀ l:List aH,(∀ y∈l,GK y)→(∀ y∈l,GJ y.body∧GJ y.dh∧∀ c∈y.cases,GJ c.body)→l.length≤60000→GJ l:=fun l a b c =>
   IA l (fun y hy=>⟨b y hy,by cases a y hy;assumption,by cases a y hy;assumption⟩) c
  exact ⟨key _ h6 i6 h3,key _ h7 i7 h4,fun c hc=>key _ (h8 c hc) (i8 c hc) (h5 c hc)⟩
theorem NM (l:List aH) (h:∀ y∈l,GK y) (hl:l.length≤60000):GJ l :=
 IA l (fun y hy=>⟨NL (h y hy),by cases h y hy;assumption,by cases h y hy;assumption⟩) hl
theorem ie:∀ l:List aH,gr l=l.map By
 | []=>by unfold gr;rfl
 | x :: l=>by unfold gr;rw [ie l];rfl
theorem xG:∀ l:List cJ,mF l=l.map Vj
 | []=>by unfold mF;rfl
 | x :: l=>by unfold mF;rw [xG l];rfl
theorem sU {α β:Type} {f:α→β} {l m:List α} (h:l.map f=m.map f) {x:α} (hx:x∈l):∃ y∈m,f y=f x:=by
 have:f x∈m.map f:=by rw [← h];exact List.mem_map_of_mem hx
 obtain ⟨y,hy,e⟩:=List.mem_map.1 this
 exact ⟨y,hy,e⟩
theorem GK.same {s:aH} (h:GK s):∀ s',By s' = By s→GK s':=by
 induction h with
 | mk s h1 h2 h3 h4 h5 h6 h7 h8 i6 i7 i8 =>
  rintro ⟨k',YR,YQ,ls',W7,b',e',Sf⟩ he
  obtain ⟨k,ns,ty,ls,es,b,e,cs⟩:=s
  unfold By at he
  obtain ⟨rfl,_,_,_,_,eb,ee,ec⟩:=aH.mk.inj he
  have lb:=congrArg List.length eb
  have le:=congrArg List.length ee
  have lc:=congrArg List.length ec
  rw [fB,fB] at lb le
  rw [o9,o9] at lc
  rw [ie,ie] at eb ee
  rw [xG,xG] at ec
  dsimp only [aH.body,aH.dh,aH.cases,aH.kind] at *
  have sub:∀ c'∈Sf,∃ c∈cs,gr c'.body=gr c.body:=fun c' hc=>by
   obtain ⟨c,h1,h2⟩:=sU ec hc
   refine ⟨c,h1,?_⟩
   cases c;cases c'
   unfold Vj at h2
   exact (cJ.mk.inj h2).2.symm
  refine .mk _ (fun hk=>?_) (by dsimp only [aH.cases];omega) (by dsimp only [aH.body];omega) (by dsimp only [aH.dh];omega) (fun c' hc=>?_) (fun y hy=>?_) (fun y hy=>?_) fun c' hc y hy=>?_
  ·have:=h1 hk;subst this;exact List.eq_nil_of_length_eq_zero (show Sf.length=0 from lc)
  ·obtain ⟨c,h1,h2⟩:=sub c' hc
   have:=congrArg List.length h2
   rw [fB,fB] at this
   rw [this]
   exact h5 c h1
  ·obtain ⟨x,hx,e⟩:=sU eb hy
   exact i6 x hx y e.symm
  ·obtain ⟨x,hx,e⟩:=sU ee hy
   exact i7 x hx y e.symm
  ·obtain ⟨c,h1,h2⟩:=sub c' hc
   rw [ie,ie] at h2
   obtain ⟨x,hx,e⟩:=sU h2 hy
   exact i8 c h1 x hx y e.symm
theorem GK.all {l l':List aH} (h:∀ y∈l,GK y) (he:gr l' = gr l):∀ y∈l',GK y:=fun y hy=>by
 rw [ie,ie] at he
 obtain ⟨x,hx,e⟩:=sU he hy
 exact (h x hx).same y e.symm
theorem ym.shb {d:Int} {s:aH} (h:ym d s):En s→GK s:=by
 induction h with
 | var d n t h1 h2 h3 =>
  intro _
  exact .mk _ (fun _=>rfl) (Nat.zero_le _) (Nat.zero_le _) (Nat.zero_le _) (by simp [aH.cases]) (by simp [aH.body]) (by simp [aH.dh]) (by simp [aH.cases])
 | set d ls es h1 h2 h3 h4 h5 h6 =>
  intro _
  exact .mk _ (fun _=>rfl) (Nat.zero_le _) (Nat.zero_le _) (Nat.zero_le _) (by simp [aH.cases]) (by simp [aH.body]) (by simp [aH.dh]) (by simp [aH.cases])
 | iff d x b e h1 h2 h3 h4 h5 NH ih5 =>
  intro hs
  cases hs with
  | mk _ a1 a2 a3 a4 a5 a6 a7 a8 a9 Lp Lq =>
   exact .mk _ (fun _=>rfl) (Nat.zero_le _) (by omega) (by omega) (by simp [aH.cases]) (fun y hy=>NH y hy (a8 y hy)) (fun y hy=>ih5 y hy (a9 y hy)) (by simp [aH.cases])
 | fro d x b h1 h2 h3 h4 NH =>
  intro hs
  cases hs with
  | mk _ a1 a2 a3 a4 a5 a6 a7 a8 a9 Lp Lq =>
   exact .mk _ (fun _=>rfl) (Nat.zero_le _) (by omega) (Nat.zero_le _) (by simp [aH.cases]) (fun y hy=>NH y hy (a8 y hy)) (by simp [aH.dh]) (by simp [aH.cases])
 | swi d x e cs h1 h2 h3 h4 h5 h6 NH ih6 =>
  intro hs
  cases hs with
  | mk _ a1 a2 a3 a4 a5 a6 a7 a8 a9 Lp Lq =>
   exact .mk _ (fun h=>absurd (show (5:Int)=3 from h) (by decide)) (by omega) (Nat.zero_le _) (by omega) (fun c hc=>by have:=Lp c hc;omega) (by simp [aH.body]) (fun y hy=>NH y hy (a9 y hy)) (fun c hc y hy=>ih6 c hc y hy (Lq c hc y hy))
 | ret d es h1 h2 h3 =>
  intro _
  exact .mk _ (fun _=>rfl) (Nat.zero_le _) (Nat.zero_le _) (Nat.zero_le _) (by simp [aH.cases]) (by simp [aH.body]) (by simp [aH.dh]) (by simp [aH.cases])
def Er (vv:V) (k:Nat):Prop:=∃ n cap,vv = .bx k n cap
def Es (c:Nat) (vv:V) (n:Nat) (B B':List (List V)):Prop :=
 B.length≤B'.length∧∀ k,k < B.length→k ≠ c→B'[k]? = B[k]?∨(Er vv k∧∃ X Y,B[k]? = some X∧B'[k]? = some Y∧Y.length=X.length∧Y.take (n * 4)=X.take (n * 4))
theorem Es.refl (c:Nat) (vv:V) (n:Nat) (B:List (List V)):Es c vv n B B:=⟨Nat.le_refl _,fun _ _ _=>.inl rfl⟩
theorem Es.more (c:Nat) (vv:V) (n:Nat) (B J:List (List V)):Es c vv n B (B++J):=⟨by simp,fun k hk _=>.inl (ah hk)⟩
theorem Es.same {c:Nat} {vv:V} {n:Nat} {B B':List (List V)} (h:Es c vv n B B') {k:Nat} (hk:k < B.length) (hc:k ≠ c) (hv:¬ Er vv k):B'[k]? = B[k]?:=by
 rcases h.2 k hk hc with e | ⟨e,_⟩
 ·exact e
 ·exact absurd e hv
theorem Es.trans {c:Nat} {vv vv1:V} {n n1:Nat} {B B1 B2:List (List V)} (h:Es c vv n B B1) (h1:Es c vv1 n1 B1 B2) (hn:n≤n1) (hv:∀ k,k < B.length→Er vv1 k→Er vv k):Es c vv n B B2:=by
 refine ⟨Nat.le_trans h.1 h1.1,fun k hk hc=>?_⟩
 have Sk:k < B1.length:=Nat.lt_of_lt_of_le hk h.1
 rcases h1.2 k Sk hc with e1 | ⟨v1,X1,Y1,g1,g2,g3,g4⟩
 ·rcases h.2 k hk hc with e | ⟨v,X,Y,f1,f2,f3,f4⟩
  ·exact .inl (e1.trans e)
  ·exact .inr ⟨v,X,Y,f1,by rw [e1];exact f2,f3,f4⟩
 ·have hvk:=hv k hk v1
  have hle:n * 4≤n1 * 4:=Nat.mul_le_mul_right 4 hn
  have g5:Y1.take (n * 4)=X1.take (n * 4):=by
   have:=congrArg (List.take (n * 4)) g4
   rwa [List.take_take,List.take_take,Nat.min_eq_left hle] at this
  rcases h.2 k hk hc with e | ⟨v,X,Y,f1,f2,f3,f4⟩
  ·exact .inr ⟨hvk,X1,Y1,by rw [← e];exact g1,g2,g3,g5⟩
  ·rw [f2] at g1
   obtain rfl:=Option.some.inj g1
   exact .inr ⟨hvk,X,Y1,f1,g2,g3.trans f3,g5.trans f4⟩
theorem Es.less {c:Nat} {vv:V} {n:Nat} {B J B':List (List V)} (h:Es c vv n (B++J) B'):Es c vv n B B' :=
 (Es.more c vv n B J).trans h (Nat.le_refl _) fun _ _ h=>h
theorem iU.eC {c:Nat} {vv:V} {vs:List bH} {B B':List (List V)} (h:iU B c vv vs) (hg:Es c vv vs.length B B'):iU B' c vv vs:=by
 rcases h with h | ⟨i,cap,J,rfl,h2,h3,h4,h5,h6⟩
 ·exact .inl h
 ·have au:=(List.getElem?_eq_some_iff.1 h3).1
  have vo:=rj vs
  rcases hg.2 i au h2 with e | ⟨_,X,Y,f1,f2,f3,f4⟩
  ·exact .inr ⟨i,cap,J,rfl,h2,by rw [e];exact h3,h4,h5,h6⟩
  ·rw [h3] at f1
   obtain rfl:=Option.some.inj f1
   refine .inr ⟨i,cap,Y.drop (vs.length * 4),rfl,h2,?_,?_,h5,h6⟩
   ·have Vn:((vs.map gf).flatten.map V.d).length=vs.length * 4:=by rw [List.length_map,vo]
    generalize (vs.map gf).flatten.map V.d=G at f3 f4 Vn
    have e:(G++J).take (vs.length * 4)=G:=by rw [List.take_append_of_le_length (by omega),List.take_of_length_le (by omega)]
    rw [e] at f4
    rw [f2]
    conv=>lhs;rw [← List.take_append_drop (vs.length * 4) Y,f4]
   ·have hl:((vs.map gf).flatten.map V.d++J).length=vs.length * 4+J.length:=by rw [List.length_append,List.length_map,vo]
    rw [List.length_drop,f3,hl,h4];omega
theorem iU.lt {c:Nat} {vv:V} {vs:List bH} {B:List (List V)} (h:iU B c vv vs) {k:Nat} (hk:Er vv k):k < B.length∧k ≠ c:=by
 obtain ⟨n,cap,rfl⟩:=hk
 rcases h with ⟨_,h⟩ | ⟨i,cu,J,e,h2,h3,_⟩
 ·cases h
 ·obtain ⟨rfl,_,_⟩:=V.bx.inj e
  exact ⟨(List.getElem?_eq_some_iff.1 h3).1,h2⟩
structure KF (B:List (List V)) (c:Nat) (su:List cG) (fu:List cn) (vv:V) (res:List aA) (vs:List bH) (m:Nat):Prop where
 lt:c < B.length
 bx:B[c]? = some (TZ su fu vv res)
 var:iU B c vv vs
 few:vs.length+m≤100000000
 tw:∀ p∈vs,TW p.type
theorem KF.at {B:List (List V)} {c:Nat} {su:List cG} {fu:List cn} {vv:V} {res:List aA} {vs:List bH} {m:Nat} (h:KF B c su fu vv res vs m):YV B c ⟨su,fu,vs⟩ res:=⟨h.lt,vv,h.bx,h.var⟩
theorem KF.more {B J:List (List V)} {c:Nat} {su:List cG} {fu:List cn} {vv:V} {res:List aA} {vs:List bH} {m:Nat} (h:KF B c su fu vv res vs m):KF (B++J) c su fu vv res vs m:=⟨by rw [List.length_append];exact Nat.lt_of_lt_of_le h.lt (Nat.le_add_right _ _),by rw [ah h.lt];exact h.bx,h.var.more,h.few,h.tw⟩
theorem aF.uM {P:Program} {I:Inv} {fn:FuncId} {f:Func} {body:Code} {args:List V} {S:Mem} {R:V→Mem→Prop} (n:Nat) (hf:P.funcs[fn]? = some f) (hb:f.body=some body) (oJ:(f.name == "runtime.NumGoroutine")=false) (hn:f.ntmps=n) (hl:args.length≤n)
 (h:af P I (S.boxes.length,S.aL.length) fn [.code body] (aR n (gz 0 args)) S R):aF P I fn args S R :=
 aF.enter hf hb oJ (by rw [hn,zj n args hl];exact h)
theorem iU.can {B:List (List V)} {c:Nat} {vv:V} {vs:List bH} (h:iU B c vv vs) (hn:vs.length≤1000000000):Ti 4 B vv:=by
 rcases h with ⟨rfl,rfl⟩ | ⟨i,cap,J,rfl,h2,h3,h4,h5,h6⟩
 ·trivial
 ·refine ⟨_,h3,?_,hn⟩
  rw [List.length_append,List.length_map,rj,h4,← Nat.add_mul]
  congr 1
  omega
theorem Et (vs:List bH) (p:bH):((vs++[p]).map gf).flatten.map V.d=(vs.map gf).flatten.map V.d++(gf p).map V.d:=by simp
theorem Pq.vars {B:List (List V)} {T:List (Nat × Nat)} {c:Nat} {vv v:V} {vs:List bH} {p:bH} {S':Mem} (h:iU B c vv vs) (hc:c < B.length) (hn:vs.length≤1000000000) (hA:Pq 4 B T vv (gf p) v S') :
 ∃ BB,S' = ⟨BB,T⟩∧Es c vv vs.length B BB∧BB[c]? = B[c]?∧iU BB c v (vs++[p])∧(∀ k,k < B.length→Er v k→Er vv k)∧fG v=some [v]:=by
 have Qc:(gf p).length=4:=rfl
 have vo:=rj vs
 rcases h with ⟨rfl,rfl⟩ | ⟨i,cap,J,rfl,h2,h3,h4,h5,h6⟩
 ·obtain ⟨cu,k1,k2,rfl,rfl⟩:=hA
  refine ⟨_,rfl,.more _ _ _ _ _,ah hc,.inr ⟨B.length,cu,List.replicate ((cu - 1) * 4) .undef,rfl,by omega,?_,by simp,by simpa using k1,by simp⟩,?_,rfl⟩
  ·rw [List.getElem?_append_right (Nat.le_refl _),Nat.sub_self]
   simp
  ·rintro k hk ⟨n,cap,e⟩
   obtain ⟨e,_,_⟩:=V.bx.inj e
   omega
 ·obtain ⟨X,hX,hA⟩:=hA
  rw [h3] at hX
  obtain rfl:=Option.some.inj hX
  have au:=(List.getElem?_eq_some_iff.1 h3).1
  have Vn:((vs.map gf).flatten.map V.d).length=vs.length * 4:=by rw [List.length_map,vo]
  have hsn:=Et vs p
  generalize hG:(vs.map gf).flatten.map V.d=G at h3 Vn hsn hA
  have Vo:(G++J).take (vs.length * 4)=G:=by rw [List.take_append_of_le_length (by omega),List.take_of_length_le (by omega)]
  have I0:(G++J).drop (vs.length * 4+4)=J.drop 4:=by
   rw [List.drop_append,List.drop_of_length_le (by omega),List.nil_append]
   congr 1
   omega
  rw [Vo] at hA
  rcases hA with ⟨oA,rfl,rfl⟩ | ⟨cu,k1,k2,rfl,rfl⟩
  ·rw [I0]
   have hJ4:4≤J.length:=by rw [h4];omega
   refine ⟨_,rfl,⟨by simp,fun k hk hkc=>?_⟩,by rw [List.getElem?_set_ne h2],.inr ⟨i,cap,J.drop 4,by rw [List.length_append];rfl,h2,?_,?_,by rw [List.length_append];exact oA,by rw [List.length_append,List.length_singleton];omega⟩,?_,rfl⟩
   ·by_cases e:k=i
    ·subst e
     refine .inr ⟨⟨_,_,rfl⟩,_,_,h3,List.getElem?_set_self hk,?_,?_⟩
     ·simp only [List.length_append,List.length_map,Qc,List.length_drop];omega
     ·rw [Vo,List.append_assoc,List.take_append_of_le_length (by omega),List.take_of_length_le (by omega)]
    ·exact .inl (List.getElem?_set_ne fun h=>e h.symm)
   ·rw [List.getElem?_set_self au,hsn]
   ·rw [List.length_drop,h4,List.length_append,List.length_singleton]
    omega
   ·rintro k hk ⟨n,AR,e⟩
    obtain ⟨rfl,_,_⟩:=V.bx.inj e
    exact ⟨_,_,rfl⟩
  ·refine ⟨_,rfl,.more _ _ _ _ _,ah hc,.inr ⟨B.length,cu,List.replicate ((cu - (vs.length+1)) * 4) .undef,by rw [List.length_append];rfl,by omega,?_,?_,by rw [List.length_append];exact k1,by rw [List.length_append,List.length_singleton];omega⟩,?_,rfl⟩
   ·rw [List.getElem?_append_right (Nat.le_refl _),Nat.sub_self,hsn]
    rfl
   ·rw [List.length_replicate,List.length_append,List.length_singleton]
   ·rintro k hk ⟨n,AR,e⟩
    obtain ⟨e,_,_⟩:=V.bx.inj e
    omega
theorem KF.eC {B B':List (List V)} {c:Nat} {su:List cG} {fu:List cn} {vv:V} {res:List aA} {vs:List bH} {m:Nat} (h:KF B c su fu vv res vs m) (hg:Es c vv vs.length B B') (hb:B'[c]? = some (TZ su fu vv res)):KF B' c su fu vv res vs m :=
 ⟨Nat.lt_of_lt_of_le h.lt hg.1,hb,h.var.eC hg,h.few,h.tw⟩
theorem KF.less {B:List (List V)} {c:Nat} {su:List cG} {fu:List cn} {vv:V} {res:List aA} {vs:List bH} {m m':Nat} (h:KF B c su fu vv res vs m) (hm:m'≤m):KF B c su fu vv res vs m':=⟨h.lt,h.bx,h.var,by have:=h.few;omega,h.tw⟩
theorem KF.nb {B:List (List V)} {c:Nat} {su:List cG} {fu:List cn} {vv:V} {res:List aA} {vs:List bH} {m:Nat} (h:KF B c su fu vv res vs m) {k:Nat} (hk:B.length≤k):¬ Er vv k:=fun e=>by have:=(h.var.lt e).1;omega
section
variable {su:List cG} {fu:List cn} {res:List aA}
end
def Eu (su:List cG) (m:List UInt8):List bH:=match eW cG.name su m with
 | some s=>s.fields
 | none=>[]
section
variable {c:Nat} {B:List (List V)} {T:List (Nat × Nat)} {su:List cG} {fu:List cn} {vv:V} {res:List aA}
end
def gN:List (List UInt8)→List (List UInt8)→Bool
 | _,[]=>true
 | b,x :: l=>!b.contains x && !(x == [95]) && gN (b++[x]) l
theorem zZ (b:List (List UInt8)):gN b []=true:=rfl
theorem jG (b:List (List UInt8)) (x:List UInt8) (l:List (List UInt8)):gN b (x :: l)=(!b.contains x && !(x == [95]) && gN (b++[x]) l):=rfl
def lF (su:List cG) (fu:List cn) (f:cn):Bool:=f.params.all (fun p=>bQ su p.type && fq su fu p.name) && f.results.all (bQ su)
section
variable {c:Nat} {B:List (List V)} {T:List (Nat × Nat)} {su:List cG} {fu:List cn} {vv:V} {res:List aA}
end
end Go.Proofs.YtnfnbjjnjjdjdaaGreatDoor
namespace Go.Ab
open Go.RowKit Go.Av
set_option linter.unusedSimpArgs false
theorem qA.NN {P:Program} {I:Inv} {env:List V} {o:Oper} {S:Mem} {so xo:Operand} {ts us e:TypeId} {ti te ui:tq} {x:V} (ho:o.op = .call ⟨.builtin .append,#[so,xo],#[ts,us]⟩)
 (jZ:bD P ts=some ti) (he:ti.d = .slice e) (nN:bD P e=some te) (LQ:bD P us=some ui) (Lf:∃ k,ui.d = .slice k) (FF:ai I env so = .sl [] .full) (hex:ai I env xo=x) (hd:mL x=some (.sl [])) :
 qA P I o env S fun v S'=>v = .sl [] .full∧S' = S:=by
 intro c w ev h1 h2 h3
 have lP:∀ y,y=so∨y=xo→y∈o.op.operands:=by
  intro y hy
  rw [ho]
  simp only [Op.operands,Call.operands]
  rcases hy with rfl | rfl<;>simp
 have hA:=h3 so (lP so (.inl rfl))
 have hX:=h3 xo (lP xo (.inr rfl))
 rw [FF] at hA
 rw [hex] at hX
 obtain ⟨fi,d,z,a1,a2,a3,a4,a5,a6,_⟩:=aI jZ
 obtain ⟨gi,d2,z2,g1,g2,g3,g4,g5,g6,g7,g8,g9,US⟩:=aI nN
 obtain ⟨Yk,d3,z3,u1,u2,u3,u4,u5,u6,_⟩:=aI LQ
 rw [he] at a6
 obtain rfl:=bW a6
 obtain ⟨ke,V2⟩:=Lf
 rw [V2] at u6
 obtain rfl:=bW u6
 have Ty:yw P ts e te.size te.bytes:=⟨a2,gi,z2,g1,g3,g4,g5,g8⟩
 have hD:=fU hX hd
 have m8:∃ a n cap,ev xo = .slice a n cap:=by
  generalize ev xo=X at hD
  cases hD;exact ⟨_,_,_,rfl⟩
 obtain ⟨a,n,cap,XC⟩:=m8
 rw [XC] at hD
 obtain ⟨hn,_,_,F,hF,_⟩:=hD.flat te.size (by simp)
 have hn:n=0:=hn
 subst hn
 have gu:=fun W hW=>kD (P:=P) (sz:=te.size) (cap:=cap) (a:=a) (rows:=[]) (n:=0) rfl hF W hW
 generalize V6:ev so=A at hA
 have hA':=hA
 cases hA with
 | full _ a' I0 ha =>
  have bp:=rK (P:=P) (w:=w) (ty:=o.type) Ty ⟨_,u2,by simp⟩ a' 0 0 (Nat.le_refl _) (.slice a 0 cap) (fun W=>by simp [Builtin.lenOf]) (fun W hW=>by simpa using gu W hW)
  refine ⟨.slice a' 0 0,w,c,.sl [] .full,S,?_,⟨rfl,rfl⟩,h1,.refl _ _,hA'⟩
  simp only [List.length_nil] at V6
  simp [execOp,ho,resolve,invoke,builtin,V6,XC,bp]
end Go.Ab
namespace Go.Ab
open Go.RowKit Go.Av
set_option linter.unusedSimpArgs false
theorem vf {P:Program} {w:World} (d:Nat) (t e:TypeId) (h:P.underlying t=some (.slice e)) (a:Option Addr) (n cap:Nat):(Op.equalIn (d+1) t (.slice a n cap) (.slice none 0 0)).run P w = .ok a.isNone w:=by
 cases a<;>simp [Op.equalIn,run_underlying h]
theorem af.Ev {P:Program} {I:Inv} {ops:Array Oper} {z:Nat × Nat} {fn:FuncId} {k:List Item} {R:V→Mem→Prop} {i:Nat} {rest:List Nat} {o:Oper} {env:List V} {S:Mem} {so:Operand} {t e rt:TypeId} {ti:tq} {x:V} {rows:List (List D)} {sz:Nat} (yE:ops[i]? = some o) (hw:ek env ops o) (ho:o.op = .binOp .eql t so (.const (.slice none 0 0)) rt)
 (jZ:bD P t=some ti) (he:ti.d = .slice e) (hex:ai I env so=x) (hd:mL x=some (.sl rows)) (hr:∀ r∈rows,r.length=sz)
 (hk:∀ b,(rows ≠ []→b=false)→af P I z fn (.inRegion ops rest :: k) (aO env o.dst (.d (.bool b))) S R):af P I z fn (.inRegion ops (i :: rest) :: k) env S R:=by
 intro b a c w c0 w0 h1 h2 h3 h4 h5 h6 hI
 have hX:=cw.eval h5 h4 so
 rw [hI.1,hex] at hX
 obtain ⟨fi,d,zz,a1,a2,a3,a4,a5,a6,_⟩:=aI jZ
 rw [he] at a6
 obtain rfl:=bW a6
 have hD:=fU hX hd
 have m8:∃ a' n cap,a.eval so = .slice a' n cap:=by
  generalize a.eval so=X at hD
  cases hD;exact ⟨_,_,_,rfl⟩
 obtain ⟨a',n,cap,XC⟩:=m8
 rw [XC] at hD
 obtain ⟨hn,_,_,F,hF,_⟩:=hD.flat sz hr
 have bp:(execOp a.eval o).run P w = .ok (.value (.bool a'.isNone)) w:=by
  rw [execOp,ho]
  show (do let r ← (do eqGuard .eql t so (.const (.slice none 0 0)) (a.eval so) (a.eval (.const (.slice none 0 0)));binOp .eql t (a.eval so) (a.eval (.const (.slice none 0 0))));pure (Next.value r):Sem Next).run P w=_
  have hc:a.eval (.const (.slice none 0 0)) = .slice none 0 0:=rfl
  rw [XC,hc]
  have hg:(eqGuard .eql t so (.const (.slice none 0 0)) (.slice a' n cap) (.slice none 0 0)).run P w = .ok () w:=rfl
  have hq:(Op.equal t (.slice a' n cap) (.slice none 0 0)).run P w = .ok a'.isNone w:=vf 9999 t e a2 a' n cap
  have hb:(binOp .eql t (.slice a' n cap) (.slice none 0 0))=(do pure (.bool (← Op.equal t (.slice a' n cap) (.slice none 0 0)))):=rfl
  simp only [Sem.run_bind,hg,hb,hq,Result.andThen_ok,Sem.run_pure]
 have EZ:=hk a'.isNone fun cm=>by
  obtain ⟨_,g,off,rfl,_⟩:=hF cm
  rfl
 have hg:=fun cs=>stepG_op (P:=P) (b:=b) (k:=k) (cs:=cs) (w:=w) (rest:=rest) yE (rP h4 hw)
 have hs:∀ cs,Go.step P (lone (b.at a (.inRegion ops (i :: rest) :: k)) cs w) = .next (lone (b.at (a.put o.dst (.bool a'.isNone)) (.inRegion ops rest :: k)) cs w):=by
  intro cs
  refine step_lone_go ?_
  have ir:(b.at a (.inRegion ops (i :: rest) :: k)).finish (.bool a'.isNone)=b.at (a.put o.dst (.bool a'.isNone)) (.inRegion ops rest :: k):=by rw [Frame.finish_at,yE];rfl
  rw [hg cs,← ir]
  simp [stepG.apply,bp]
 refine yB.step hs (EZ b (a.put o.dst (.bool a'.isNone)) c w c0 w0 h1 h2 ?_ ?_ h5 h6 hI)
 ·cases o.dst<;>simpa [Act.put] using h3
 ·exact h4.put o.dst (.d _ _ (.bool _))
def IB:V→V
 | .sl rows .full=>.d (.sl rows)
 | v=>v
theorem aF.flat {P:Program} {I:Inv} {f:FuncId} {args:List V} {S:Mem} {R:V→Mem→Prop} (h:aF P I f args S fun v S'=>R (IB v) S'):aF P I f args S R:=by
 refine ⟨h.1,fun c w xs h1 h2 h3 hI cs=>?_⟩
 obtain ⟨e,w',fr,⟨v,x,S',c',a1,a2,a3,a4,a5⟩,h⟩:=h.2 c w xs h1 h2 h3 hI cs
 refine ⟨e,w',fr,⟨IB v,x,S',c',a1,a2,a3,a4,?_⟩,h⟩
 unfold IB
 split
 ·exact .d _ _ (fU a5 rfl)
 ·exact a5
theorem L9.flat {sz:Nat} {B:List (List V)} {T:List (Nat × Nat)} {rows:List (List D)} {v:V} {S':Mem} (h:L9 sz B T rows v S'):L9 sz B T rows (IB v) S':=by
 obtain ⟨cap,h1,h2,rfl,h3⟩:=h
 exact ⟨cap,h1,h2,rfl,h3⟩
end Go.Ab
namespace Go.Proofs.YtnfnbjjnjjdjdaaGreatDoor
open Go.RowKit Go.Av Go.Ab
set_option linter.unusedSimpArgs false
set_option maxRecDepth 100000
set_option linter.defProp false
def NO:=by
 have c:=aM Tryz.f108 (by conv=>lhs;cbv)
 dsimp only [KK,eN,eG,eH,List.map_cons,List.map_nil,List.toList_toArray] at c
 exact c
def XD:=by
 have c:=aM Tryz.f72 (by conv=>lhs;cbv)
 dsimp only [KK,eN,eG,eH,List.map_cons,List.map_nil,List.toList_toArray] at c
 exact c
def XE:=by
 have c:=aM Tryz.f74 (by conv=>lhs;cbv)
 dsimp only [KK,eN,eG,eH,List.map_cons,List.map_nil,List.toList_toArray] at c
 exact c
def XF:=by
 have c:=aM Tryz.f24 (by conv=>lhs;cbv)
 dsimp only [KK,eN,eG,eH,List.map_cons,List.map_nil,List.toList_toArray] at c
 exact c
def XG:=by
 have c:=aM Tryz.f25 (by conv=>lhs;cbv)
 dsimp only [KK,eN,eG,eH,List.map_cons,List.map_nil,List.toList_toArray] at c
 exact c
theorem NP {P:Program} {e:TypeId} {n:Nat} (h:(match bD P e with
 | some te=>Nat.beq te.size n && Nat.ble te.bytes 100000
 | none=>false)=true):∃ te,bD P e=some te∧te.size=n∧te.bytes≤100000:=by
 split at h
 ·rename_i te ht
  obtain ⟨h1,h2⟩:=Bool.and_eq_true_iff.1 h
  exact ⟨te,ht,Nat.eq_of_beq_eq_true h1,Nat.le_of_ble_eq_true h2⟩
 ·cases h
def jH (sz:Nat) (rows:List (List D)) (B:List (List V)) (T:List (Nat × Nat)) (v:V) (S':Mem):Prop :=
 (rows=[]∧v = .d (.sl [])∧S' = ⟨B,T⟩)∨(rows ≠ []∧L9 sz B T rows v S')
theorem GL (rows:List (List D)) (hr:∀ r∈rows,r.length=8) (hl:rows.length≤1000000000) (B:List (List V)) (T:List (Nat × Nat)):aF Tryz.prog av 108 [.d (.sl rows)] ⟨B,T⟩ (jH 8 rows B T):=by
 obtain ⟨te,t1,t2,t3⟩:=NP (P:=Tryz.prog) (e:=50) (n:=8) (by kernel_rfl)
 have hs:bD Tryz.prog 48=some ⟨.slice 50,1,24,false,[.sl [] .full]⟩:=by kernel_rfl
 refine aF.flat (aF.uM (body:=(kF Tryz.f108 0)) 8 Tryz.func108 (by kernel_rfl) (by kernel_rfl) (by kernel_rfl) (Nat.le_of_ble_eq_true rfl) ?_)
 refine af.go 8 ?_
 simp only [W,seval,NO]
 refine af.Ev (ops:=opsOf (kF Tryz.f108 4)) (i:=1) (o:=bh (opsOf (kF Tryz.f108 4)) 1) (by kernel_rfl) (.inl (by kernel_rfl)) (so:=.tmp 3) (rt:=48) (by kernel_rfl) hs rfl (by rfl) rfl hr ?_
 intro b hb
 have Q3:(bh (opsOf (kF Tryz.f108 4)) 1).dst=some 4:=by kernel_rfl
 rw [Q3]
 cases b
 case true =>
  have cm:rows=[]:=by
   rcases rows with _ | ⟨r,l⟩
   ·rfl
   ·exact absurd (hb (by simp)) (by simp)
  refine af.go 30 ?_
  simp only [W,seval,NO]
  refine af.ret Tryz.func108 rfl (.inl ⟨cm,rfl,rfl⟩)
 clear hb
 refine af.go 7 ?_
 simp only [W,seval,NO]
 have IC:(bh (opsOf (kF Tryz.f108 11)) 2).dst=some 7:=by kernel_rfl
 by_cases cm:rows=[]
 ·subst cm
  refine qA.step (ops:=opsOf (kF Tryz.f108 11)) (i:=2) (o:=bh (opsOf (kF Tryz.f108 11)) 2) (by kernel_rfl) (.inl (by kernel_rfl)) (qA.NN (so:=.tmp 5) (xo:=.tmp 6) (by kernel_rfl) hs rfl t1 hs ⟨_,rfl⟩ (by rfl) (by rfl) rfl) ?_
  rintro _ _ ⟨rfl,rfl⟩
  rw [IC]
  refine af.go 20 ?_
  simp only [W,seval,NO]
  refine af.ret Tryz.func108 rfl (.inl ⟨rfl,rfl,rfl⟩)
 refine qA.step (ops:=opsOf (kF Tryz.f108 11)) (i:=2) (o:=bh (opsOf (kF Tryz.f108 11)) 2) (by kernel_rfl) (.inl (by kernel_rfl)) (qA.Ma (so:=.tmp 5) (xo:=.tmp 6) (by kernel_rfl) hs rfl t1 hs ⟨_,rfl⟩ (by rw [t2];decide) (by rfl) (by rfl) cm rfl (by rw [t2];exact hr) t3 hl) ?_
 intro v S' hv
 rw [t2] at hv
 rw [IC]
 refine af.go 20 ?_
 simp only [W,seval,NO]
 refine af.ret Tryz.func108 rfl (.inr ⟨cm,hv.flat⟩)
theorem GM (rows:List (List D)) (hr:∀ r∈rows,r.length=10) (hl:rows.length≤1000000000) (B:List (List V)) (T:List (Nat × Nat)):aF Tryz.prog av 72 [.d (.sl rows)] ⟨B,T⟩ (jH 10 rows B T):=by
 obtain ⟨te,t1,t2,t3⟩:=NP (P:=Tryz.prog) (e:=53) (n:=10) (by kernel_rfl)
 have hs:bD Tryz.prog 39=some ⟨.slice 53,1,24,false,[.sl [] .full]⟩:=by kernel_rfl
 refine aF.flat (aF.uM (body:=(kF Tryz.f72 0)) 8 Tryz.func72 (by kernel_rfl) (by kernel_rfl) (by kernel_rfl) (Nat.le_of_ble_eq_true rfl) ?_)
 refine af.go 8 ?_
 simp only [W,seval,XD]
 refine af.Ev (ops:=opsOf (kF Tryz.f72 4)) (i:=1) (o:=bh (opsOf (kF Tryz.f72 4)) 1) (by kernel_rfl) (.inl (by kernel_rfl)) (so:=.tmp 3) (rt:=39) (by kernel_rfl) hs rfl (by rfl) rfl hr ?_
 intro b hb
 have Q3:(bh (opsOf (kF Tryz.f72 4)) 1).dst=some 4:=by kernel_rfl
 rw [Q3]
 cases b
 case true =>
  have cm:rows=[]:=by
   rcases rows with _ | ⟨r,l⟩
   ·rfl
   ·exact absurd (hb (by simp)) (by simp)
  refine af.go 30 ?_
  simp only [W,seval,XD]
  refine af.ret Tryz.func72 rfl (.inl ⟨cm,rfl,rfl⟩)
 clear hb
 refine af.go 7 ?_
 simp only [W,seval,XD]
 have IC:(bh (opsOf (kF Tryz.f72 11)) 2).dst=some 7:=by kernel_rfl
 by_cases cm:rows=[]
 ·subst cm
  refine qA.step (ops:=opsOf (kF Tryz.f72 11)) (i:=2) (o:=bh (opsOf (kF Tryz.f72 11)) 2) (by kernel_rfl) (.inl (by kernel_rfl)) (qA.NN (so:=.tmp 5) (xo:=.tmp 6) (by kernel_rfl) hs rfl t1 hs ⟨_,rfl⟩ (by rfl) (by rfl) rfl) ?_
  rintro _ _ ⟨rfl,rfl⟩
  rw [IC]
  refine af.go 20 ?_
  simp only [W,seval,XD]
  refine af.ret Tryz.func72 rfl (.inl ⟨rfl,rfl,rfl⟩)
 refine qA.step (ops:=opsOf (kF Tryz.f72 11)) (i:=2) (o:=bh (opsOf (kF Tryz.f72 11)) 2) (by kernel_rfl) (.inl (by kernel_rfl)) (qA.Ma (so:=.tmp 5) (xo:=.tmp 6) (by kernel_rfl) hs rfl t1 hs ⟨_,rfl⟩ (by rw [t2];decide) (by rfl) (by rfl) cm rfl (by rw [t2];exact hr) t3 hl) ?_
 intro v S' hv
 rw [t2] at hv
 rw [IC]
 refine af.go 20 ?_
 simp only [W,seval,XD]
 refine af.ret Tryz.func72 rfl (.inr ⟨cm,hv.flat⟩)
theorem GN (rows:List (List D)) (hr:∀ r∈rows,r.length=2) (hl:rows.length≤1000000000) (B:List (List V)) (T:List (Nat × Nat)):aF Tryz.prog av 74 [.d (.sl rows)] ⟨B,T⟩ (jH 2 rows B T):=by
 obtain ⟨te,t1,t2,t3⟩:=NP (P:=Tryz.prog) (e:=96) (n:=2) (by kernel_rfl)
 have hs:bD Tryz.prog 51=some ⟨.slice 96,1,24,false,[.sl [] .full]⟩:=by kernel_rfl
 refine aF.flat (aF.uM (body:=(kF Tryz.f74 0)) 8 Tryz.func74 (by kernel_rfl) (by kernel_rfl) (by kernel_rfl) (Nat.le_of_ble_eq_true rfl) ?_)
 refine af.go 8 ?_
 simp only [W,seval,XE]
 refine af.Ev (ops:=opsOf (kF Tryz.f74 4)) (i:=1) (o:=bh (opsOf (kF Tryz.f74 4)) 1) (by kernel_rfl) (.inl (by kernel_rfl)) (so:=.tmp 3) (rt:=51) (by kernel_rfl) hs rfl (by rfl) rfl hr ?_
 intro b hb
 have Q3:(bh (opsOf (kF Tryz.f74 4)) 1).dst=some 4:=by kernel_rfl
 rw [Q3]
 cases b
 case true =>
  have cm:rows=[]:=by
   rcases rows with _ | ⟨r,l⟩
   ·rfl
   ·exact absurd (hb (by simp)) (by simp)
  refine af.go 30 ?_
  simp only [W,seval,XE]
  refine af.ret Tryz.func74 rfl (.inl ⟨cm,rfl,rfl⟩)
 clear hb
 refine af.go 7 ?_
 simp only [W,seval,XE]
 have IC:(bh (opsOf (kF Tryz.f74 11)) 2).dst=some 7:=by kernel_rfl
 by_cases cm:rows=[]
 ·subst cm
  refine qA.step (ops:=opsOf (kF Tryz.f74 11)) (i:=2) (o:=bh (opsOf (kF Tryz.f74 11)) 2) (by kernel_rfl) (.inl (by kernel_rfl)) (qA.NN (so:=.tmp 5) (xo:=.tmp 6) (by kernel_rfl) hs rfl t1 hs ⟨_,rfl⟩ (by rfl) (by rfl) rfl) ?_
  rintro _ _ ⟨rfl,rfl⟩
  rw [IC]
  refine af.go 20 ?_
  simp only [W,seval,XE]
  refine af.ret Tryz.func74 rfl (.inl ⟨rfl,rfl,rfl⟩)
 refine qA.step (ops:=opsOf (kF Tryz.f74 11)) (i:=2) (o:=bh (opsOf (kF Tryz.f74 11)) 2) (by kernel_rfl) (.inl (by kernel_rfl)) (qA.Ma (so:=.tmp 5) (xo:=.tmp 6) (by kernel_rfl) hs rfl t1 hs ⟨_,rfl⟩ (by rw [t2];decide) (by rfl) (by rfl) cm rfl (by rw [t2];exact hr) t3 hl) ?_
 intro v S' hv
 rw [t2] at hv
 rw [IC]
 refine af.go 20 ?_
 simp only [W,seval,XE]
 refine af.ret Tryz.func74 rfl (.inr ⟨cm,hv.flat⟩)
theorem BD (rows:List (List D)) (hr:∀ r∈rows,r.length=2) (hl:rows.length≤1000000000) (B:List (List V)) (T:List (Nat × Nat)):aF Tryz.prog av 24 [.d (.sl rows)] ⟨B,T⟩ (jH 2 rows B T):=by
 obtain ⟨te,t1,t2,t3⟩:=NP (P:=Tryz.prog) (e:=67) (n:=2) (by kernel_rfl)
 have hs:bD Tryz.prog 22=some ⟨.slice 67,1,24,false,[.sl [] .full]⟩:=by kernel_rfl
 refine aF.flat (aF.uM (body:=(kF Tryz.f24 0)) 8 Tryz.func24 (by kernel_rfl) (by kernel_rfl) (by kernel_rfl) (Nat.le_of_ble_eq_true rfl) ?_)
 refine af.go 8 ?_
 simp only [W,seval,XF]
 refine af.Ev (ops:=opsOf (kF Tryz.f24 4)) (i:=1) (o:=bh (opsOf (kF Tryz.f24 4)) 1) (by kernel_rfl) (.inl (by kernel_rfl)) (so:=.tmp 3) (rt:=22) (by kernel_rfl) hs rfl (by rfl) rfl hr ?_
 intro b hb
 have Q3:(bh (opsOf (kF Tryz.f24 4)) 1).dst=some 4:=by kernel_rfl
 rw [Q3]
 cases b
 case true =>
  have cm:rows=[]:=by
   rcases rows with _ | ⟨r,l⟩
   ·rfl
   ·exact absurd (hb (by simp)) (by simp)
  refine af.go 30 ?_
  simp only [W,seval,XF]
  refine af.ret Tryz.func24 rfl (.inl ⟨cm,rfl,rfl⟩)
 clear hb
 refine af.go 7 ?_
 simp only [W,seval,XF]
 have IC:(bh (opsOf (kF Tryz.f24 11)) 2).dst=some 7:=by kernel_rfl
 by_cases cm:rows=[]
 ·subst cm
  refine qA.step (ops:=opsOf (kF Tryz.f24 11)) (i:=2) (o:=bh (opsOf (kF Tryz.f24 11)) 2) (by kernel_rfl) (.inl (by kernel_rfl)) (qA.NN (so:=.tmp 5) (xo:=.tmp 6) (by kernel_rfl) hs rfl t1 hs ⟨_,rfl⟩ (by rfl) (by rfl) rfl) ?_
  rintro _ _ ⟨rfl,rfl⟩
  rw [IC]
  refine af.go 20 ?_
  simp only [W,seval,XF]
  refine af.ret Tryz.func24 rfl (.inl ⟨rfl,rfl,rfl⟩)
 refine qA.step (ops:=opsOf (kF Tryz.f24 11)) (i:=2) (o:=bh (opsOf (kF Tryz.f24 11)) 2) (by kernel_rfl) (.inl (by kernel_rfl)) (qA.Ma (so:=.tmp 5) (xo:=.tmp 6) (by kernel_rfl) hs rfl t1 hs ⟨_,rfl⟩ (by rw [t2];decide) (by rfl) (by rfl) cm rfl (by rw [t2];exact hr) t3 hl) ?_
 intro v S' hv
 rw [t2] at hv
 rw [IC]
 refine af.go 20 ?_
 simp only [W,seval,XF]
 refine af.ret Tryz.func24 rfl (.inr ⟨cm,hv.flat⟩)
theorem GO (rows:List (List D)) (hr:∀ r∈rows,r.length=4) (hl:rows.length≤1000000000) (B:List (List V)) (T:List (Nat × Nat)):aF Tryz.prog av 25 [.d (.sl rows)] ⟨B,T⟩ (jH 4 rows B T):=by
 obtain ⟨te,t1,t2,t3⟩:=NP (P:=Tryz.prog) (e:=41) (n:=4) (by kernel_rfl)
 have hs:bD Tryz.prog 23=some ⟨.slice 41,1,24,false,[.sl [] .full]⟩:=by kernel_rfl
 refine aF.flat (aF.uM (body:=(kF Tryz.f25 0)) 8 Tryz.func25 (by kernel_rfl) (by kernel_rfl) (by kernel_rfl) (Nat.le_of_ble_eq_true rfl) ?_)
 refine af.go 8 ?_
 simp only [W,seval,XG]
 refine af.Ev (ops:=opsOf (kF Tryz.f25 4)) (i:=1) (o:=bh (opsOf (kF Tryz.f25 4)) 1) (by kernel_rfl) (.inl (by kernel_rfl)) (so:=.tmp 3) (rt:=23) (by kernel_rfl) hs rfl (by rfl) rfl hr ?_
 intro b hb
 have Q3:(bh (opsOf (kF Tryz.f25 4)) 1).dst=some 4:=by kernel_rfl
 rw [Q3]
 cases b
 case true =>
  have cm:rows=[]:=by
   rcases rows with _ | ⟨r,l⟩
   ·rfl
   ·exact absurd (hb (by simp)) (by simp)
  refine af.go 30 ?_
  simp only [W,seval,XG]
  refine af.ret Tryz.func25 rfl (.inl ⟨cm,rfl,rfl⟩)
 clear hb
 refine af.go 7 ?_
 simp only [W,seval,XG]
 have IC:(bh (opsOf (kF Tryz.f25 11)) 2).dst=some 7:=by kernel_rfl
 by_cases cm:rows=[]
 ·subst cm
  refine qA.step (ops:=opsOf (kF Tryz.f25 11)) (i:=2) (o:=bh (opsOf (kF Tryz.f25 11)) 2) (by kernel_rfl) (.inl (by kernel_rfl)) (qA.NN (so:=.tmp 5) (xo:=.tmp 6) (by kernel_rfl) hs rfl t1 hs ⟨_,rfl⟩ (by rfl) (by rfl) rfl) ?_
  rintro _ _ ⟨rfl,rfl⟩
  rw [IC]
  refine af.go 20 ?_
  simp only [W,seval,XG]
  refine af.ret Tryz.func25 rfl (.inl ⟨rfl,rfl,rfl⟩)
 refine qA.step (ops:=opsOf (kF Tryz.f25 11)) (i:=2) (o:=bh (opsOf (kF Tryz.f25 11)) 2) (by kernel_rfl) (.inl (by kernel_rfl)) (qA.Ma (so:=.tmp 5) (xo:=.tmp 6) (by kernel_rfl) hs rfl t1 hs ⟨_,rfl⟩ (by rw [t2];decide) (by rfl) (by rfl) cm rfl (by rw [t2];exact hr) t3 hl) ?_
 intro v S' hv
 rw [t2] at hv
 rw [IC]
 refine af.go 20 ?_
 simp only [W,seval,XG]
 refine af.ret Tryz.func25 rfl (.inr ⟨cm,hv.flat⟩)
end Go.Proofs.YtnfnbjjnjjdjdaaGreatDoor
namespace Go.Proofs.YtnfnbjjnjjdjdaaGreatDoor
open Go.RowKit Go.Av Go.Ab
set_option linter.unusedSimpArgs false
set_option maxRecDepth 100000
set_option linter.defProp false
def Uu:=by
 have c:=aM Tryz.f73 (by conv=>lhs;cbv)
 dsimp only [KK,eN,eG,eH,List.map_cons,List.map_nil,List.toList_toArray] at c
 exact c
theorem bV.tail {α:Type} {sz:Nat} {f:α→Nat→Nat→List V→Prop} (C:List V):∀ {l:List α} {lo hi:Nat} {X:List V},bV sz f l lo hi X→bV sz f l lo hi (X++C)
 | [],_,_,_,h=>h
 | x :: l,lo,hi,X,⟨r,X',m,h1,h2,h3,h4,h5,h6⟩=>⟨r,X'++C,m,by rw [h1,List.append_assoc],h2,h3,h4,h5,h6.tail C⟩
theorem bV.snoc {α:Type} {sz:Nat} {f:α→Nat→Nat→List V→Prop} {x:α} {r:List V} {m hi:Nat} (hr:r.length=sz) (hm:m≤hi) (hf:∀ a,a≤m→f x a hi r):∀ {l:List α} {lo:Nat} {X:List V},bV sz f l lo m X→X.length=l.length * sz→bV sz f (l++[x]) lo hi (X++r)
 | [],lo,X,h,hX=>by
  obtain rfl:X=[]:=List.eq_nil_of_length_eq_zero (by simpa using hX)
  have h:lo≤m:=h
  exact ⟨r,[],hi,by simp,hr,by omega,Nat.le_refl _,hf _ h,Nat.le_refl _⟩
 | y :: l,lo,X,⟨r0,X',m0,h1,h2,h3,h4,h5,h6⟩,hX=>⟨r0,X'++r,m0,by rw [h1,List.append_assoc],h2,h3,by omega,h5,bV.snoc hr hm hf h6 (by rw [h1,List.length_append,List.length_cons,Nat.add_mul] at hX;omega)⟩
theorem lg.low {f:Nat→Nat→List V→Prop} {n:Nat} {B:List (List V)} {lo OJ hi:Nat} {v:V} (h:lg f n B lo hi v) (hl:OJ≤lo):lg f n B OJ hi v:=by
 rcases h with ⟨h1,h2,h3⟩ | ⟨hn,j,cap,Y,h0,h1,h2,h3,h4⟩
 ·exact .inl ⟨h1,h2,by omega⟩
 ·exact .inr ⟨hn,j,cap,Y,h0,by omega,h2,h3,h4⟩
theorem lg.cells {f:Nat→Nat→List V→Prop} {n:Nat} {B:List (List V)} {lo hi:Nat} {v:V} (h:lg f n B lo hi v):fG v=some [v]:=by
 rcases h with ⟨_,rfl,_⟩ | ⟨_,j,cap,Y,rfl,_⟩<;>rfl
theorem Uv {X A C:List V} {x:aj} {kv v:V} {a:Nat} (hX:X=A++aV x kv++C) (ha:A.length=a):X.take (a+7)++(v :: X.drop (a+7+1))=A++aV x v++C:=by
 have e:X=A++(aV x kv++C):=by rw [hX,List.append_assoc]
 rw [e,List.take_append,List.drop_append,List.drop_of_length_le (by omega),List.take_of_length_le (by omega),List.nil_append,List.append_assoc,List.append_assoc]
 rw [show a+7 - A.length=7 by omega,show a+7+1 - A.length=8 by omega]
 rfl
theorem Q4 (x:aj):(fO x).map V.d=aV x (.d (.sl (x.kids.map fO))):=by rw [cQ];rfl
def NQ (own:List (List V)→Nat→Nat→V→Prop) (B:List (List V)) (T:List (Nat × Nat)) (v:V) (S':Mem):Prop:=∃ J,S' = ⟨B++J,T⟩∧own (B++J) B.length (B++J).length v
def Vp (l:List aj):Prop:=∀ (B:List (List V)) (T:List (Nat × Nat)),aF Tryz.prog av 73 [.d (.sl (l.map fO))] ⟨B,T⟩ (NQ (fun B lo hi v=>fX B l lo hi v) B T)
structure KG where
 i:Nat
 Y:List V
 B:List (List V)
structure abi (l:List aj) (B:List (List V)) (qu:List V) (a:KG):Prop where
 le:a.i≤l.length
 yl:a.Y.length=a.i * 8
 bl:B.length < a.B.length
 old:∀ k,k < B.length→a.B[k]? = B[k]?
 row:a.B[B.length]? = some (a.Y++(((l.drop a.i).map fO).flatten.map V.d++qu))
 own:bV 8 (iV a.B) (l.take a.i) (B.length+1) a.B.length a.Y
set_option maxHeartbeats 2000000 in
theorem Ew (l:List aj) (hl:∀ x∈l,Vp x.kids) (hlen:l.length≤60000):Vp l:=by
 intro B T
 obtain ⟨N,hn⟩:∃ N,B.length=N:=⟨_,rfl⟩
 have jY:=GL (l.map fO) (by intro r hr;obtain ⟨x,_,rfl⟩:=List.mem_map.1 hr;rw [cQ];rfl) (by rw [List.length_map];omega) B T
 refine aF.flat (aF.uM (body:=(kF Tryz.f73 0)) 23 Tryz.func73 (by kernel_rfl) (by kernel_rfl) (by kernel_rfl) (Nat.le_of_ble_eq_true rfl) ?_)
 refine af.go 160 ?_
 simp only [W,seval,Uu]
 refine ag jY ?_
 rintro v S' (⟨h0,rfl,rfl⟩ | ⟨cm,cap,h1,h2,rfl,rfl⟩)
 ·obtain rfl:l=[]:=by simpa using h0
  refine af.go 160 ?_
  simp only [W,seval,Uu]
  refine af.cV (fun _:Unit=>(aR 23 [(8,.d (.int .i64 0)),(7,.d (.int .i64 0)),(0,.d (.sl []))],⟨B,T⟩)) (fun _=>True) (fun _=>0) () trivial ?_ rfl ?_
  ·skip
   refine ay.env _ ?_
   simp only [cD,seval]
  intro _ _ _
  refine af.go 60 ?_
  simp only [W,seval,Uu,decide_eq_false (show ¬ ((0:Int) < 0) by decide)]
  refine af.ret Tryz.func73 rfl ?_
  exact ⟨[],by rw [List.append_nil],.inl ⟨rfl,rfl,by simp⟩⟩
 obtain ⟨qu,hJ⟩:∃ J,J=List.replicate ((cap - (l.map fO).length) * 8) V.undef:=⟨_,rfl⟩
 rw [← hJ]
 rw [List.length_map] at h1 ⊢
 clear hJ jY
 have OI:l ≠ []:=by rintro rfl;exact cm rfl
 refine af.go 160 ?_
 simp only [W,seval,Uu,iL]
 refine af.cV (fun a:KG=>(aR 23 [(8,.d (.int .i64 (a.i:Int))),(7,.d (.int .i64 (l.length:Int))),(0,.bx B.length l.length cap)],⟨a.B,T⟩)) (abi l B qu) (fun a=>l.length - a.i) ⟨0,[],B++[(l.map fO).flatten.map V.d++qu]⟩ ⟨Nat.zero_le _,rfl,by simp,fun k hk=>ah hk,by rw [cL rfl];rfl,by simp [bV]⟩ ?_ rfl ?_
 ·skip
  refine ay.env _ ?_
  simp only [cD,seval]
 rintro ⟨i,Y,Bi⟩ ⟨h3,h4,h5,h6,h7,h8⟩ ih
 dsimp only at h3 h4 h5 h6 h7 h8 ih ⊢
 by_cases au:i < l.length
 case neg =>
  have e2:decide ((i:Int) < (l.length:Int))=false:=decide_eq_false (by omega)
  obtain rfl:i=l.length:=by omega
  refine af.go 60 ?_
  simp only [W,seval,Uu,e2]
  refine af.ret Tryz.func73 rfl ?_
  rw [List.take_length] at h8
  have hB:Bi=B++Bi.drop B.length:=by
   conv=>lhs;rw [← List.take_append_drop B.length Bi]
   congr 1
   refine List.ext_getElem? fun k=>?_
   rw [List.getElem?_take]
   split
   ·rename_i hk;exact h6 k hk
   ·rename_i hk;rw [List.getElem?_eq_none (by omega)]
  refine ⟨Bi.drop B.length,by rw [← hB],.inr ⟨fun e=>OI (List.eq_nil_of_length_eq_zero e),B.length,cap,_,rfl,Nat.le_refl _,by rw [← hB];exact h5,by rw [← hB];exact h7,?_⟩⟩
  rw [← hB,jA]
  exact h8.tail _
 have e2:decide ((i:Int) < (l.length:Int))=true:=decide_eq_true (by omega)
 have oO:=az ((i:Int)+1) (by omega)
 have mE:(i:Int) < (l.length:Int):=by omega
 obtain ⟨x,hx⟩:∃ x,l[i]=x:=⟨_,rfl⟩
 have Pp:=hl l[i] (List.getElem_mem au) Bi T
 rw [hx] at Pp
 rw [List.drop_eq_getElem_cons au,hx,List.map_cons,List.flatten_cons,List.map_append,Q4,List.append_assoc,← List.append_assoc] at h7
 obtain ⟨C,hC⟩:∃ C,C=((l.drop (i+1)).map fO).flatten.map V.d++qu:=⟨_,rfl⟩
 rw [← hC] at h7
 obtain ⟨Z,hZ⟩:∃ Z,Z=Y++aV x (.d (.sl (x.kids.map fO)))++C:=⟨_,rfl⟩
 rw [← hZ] at h7
 obtain ⟨x0,x1,x2,x3,x7,x8,x9,_⟩:=cS hZ h4
 refine af.go 160 ?_
 simp only [W,seval,Uu,iL,e2,mE,h7,x7,x8]
 refine ag Pp ?_
 rintro v _ ⟨J,rfl,hv⟩
 have Lc:fG v=some [v]:=lg.cells hv
 have h7':(Bi++J)[B.length]? = some Z:=by rw [ah h5];exact h7
 refine af.go 60 ?_
 simp only [W,seval,Uu,iL,mE,h7',Lc,x8,oO]
 rw [Uv hZ h4]
 have hB3:∀ k,k < Bi.length→k ≠ B.length→((Bi++J).set B.length (Y++aV x v++C))[k]? = Bi[k]?:=fun k hk hq=>by rw [List.getElem?_set_ne (Ne.symm hq),ah hk]
 refine ih ⟨i+1,Y++aV x v,(Bi++J).set B.length (Y++aV x v++C)⟩ ⟨au,?_,?_,?_,?_,?_⟩ (by dsimp only;omega) _ _ ?_ rfl
 ·show (Y++aV x v).length=(i+1) * 8
  rw [List.length_append,h4]
  show i * 8+8=_
  omega
 ·show B.length < ((Bi++J).set B.length _).length
  rw [List.length_set,List.length_append]
  omega
 ·exact fun k hk=>(hB3 k (by omega) (by omega)).trans (h6 k hk)
 ·show ((Bi++J).set B.length _)[B.length]? = _
  rw [List.getElem?_set_self (by rw [List.length_append];omega),← hC]
 ·show bV 8 (iV ((Bi++J).set B.length _)) (l.take (i+1)) (B.length+1) ((Bi++J).set B.length _).length (Y++aV x v)
  rw [List.take_succ_eq_append_getElem au,hx,List.length_set]
  refine bV.snoc (sz:=8) (m:=Bi.length) (hi:=(Bi++J).length) (f:=iV ((Bi++J).set B.length (Y++aV x v++C))) rfl (by rw [List.length_append];omega) (fun a ha=>?_) (h8.congr fun y _ a b r ha hb hf=>iV.frame y hf fun k h1 h2=>hB3 k (by omega) (by omega)) (by rw [h4,List.length_take,Nat.min_eq_left h3])
  refine iW.2 ⟨v,rfl,lg.low ?_ ha⟩
  exact hv.frame fun k h1 h2=>List.getElem?_set_ne (by omega)
 ·skip
  refine ay.env _ ?_
  simp only [cD,seval]
theorem GP {x:aj} (h:Ch x):Vp x.kids:=by
 induction h with
 | mk x h1 h2 ih=>exact Ew _ ih (by omega)
theorem z4 {l:List aj} (h:∀ x∈l,Ch x) (hl:l.length≤60000):Vp l:=Ew l (fun x hx=>GP (h x hx)) hl
def z5:=by
 have c:=aM Tryz.f26 (by conv=>lhs;cbv)
 dsimp only [KK,eN,eG,eH,List.map_cons,List.map_nil,List.toList_toArray] at c
 exact c
def E5 (own:List (List V)→Nat→Nat→V→Prop):Prop:=∀ B:List (List V),∃ J v,own (B++J) B.length (B++J).length v
theorem E5.new {own:List (List V)→Nat→Nat→V→Prop} (h:E5 own) (B:List (List V)) (T:List (Nat × Nat)):∃ v S',NQ own B T v S':=by
 obtain ⟨J,v,h⟩:=h B
 exact ⟨v,_,J,rfl,h⟩
theorem NQ.split {own:List (List V)→Nat→Nat→V→Prop} {B:List (List V)} {T:List (Nat × Nat)} {v:V} {S':Mem} (h:NQ own B T v S'):∃ M,S' = ⟨M,T⟩∧B.length≤M.length∧(∀ k,k < B.length→M[k]? = B[k]?)∧own M B.length M.length v:=by
 obtain ⟨J,rfl,h⟩:=h
 exact ⟨B++J,rfl,by simp,fun k hk=>ah hk,h⟩
theorem jH.ne (sz:Nat) (rows:List (List D)) (B:List (List V)) (T:List (Nat × Nat)) (hl:rows.length≤9223372036854775807):∃ v S',jH sz rows B T v S':=by
 by_cases h:rows=[]
 ·exact ⟨_,_,.inl ⟨h,rfl,rfl⟩⟩
 ·exact ⟨_,_,.inr ⟨h,rows.length,Nat.le_refl _,hl,rfl,rfl⟩⟩
theorem jH.split {sz:Nat} {rows:List (List D)} {B:List (List V)} {T:List (Nat × Nat)} {v:V} {S':Mem} (h:jH sz rows B T v S'):∃ M,S' = ⟨M,T⟩∧B.length≤M.length∧(∀ k,k < B.length→M[k]? = B[k]?)∧fG v=some [v]∧((rows=[]∧v = .d (.sl [])∧M=B)∨(rows ≠ []∧∃ cap J,v = .bx B.length rows.length cap∧M=B++[rows.flatten.map .d++J])):=by
 rcases h with ⟨h0,rfl,rfl⟩ | ⟨h0,cap,h1,h2,rfl,rfl⟩
 ·exact ⟨_,rfl,Nat.le_refl _,fun _ _=>rfl,rfl,.inl ⟨h0,rfl,rfl⟩⟩
 ·exact ⟨_,rfl,by simp,fun k hk=>ah hk,rfl,.inr ⟨h0,cap,_,rfl,rfl⟩⟩
theorem pF {X A C:List V} {x:aH} {v1 v2 v3 v4 v5:V} {a:Nat} (hX:X=A++dg x v1 v2 v3 v4 v5++C) (ha:A.length=a) (u:V) :
 X.take (a+5)++u :: X.drop (a+5+1)=A++dg x u v2 v3 v4 v5++C∧X.take (a+6)++u :: X.drop (a+6+1)=A++dg x v1 u v3 v4 v5++C∧X.take (a+7)++u :: X.drop (a+7+1)=A++dg x v1 v2 u v4 v5++C ∧
  X.take (a+8)++u :: X.drop (a+8+1)=A++dg x v1 v2 v3 u v5++C∧X.take (a+9)++u :: X.drop (a+9+1)=A++dg x v1 v2 v3 v4 u++C:=by
 have e:X=A++(dg x v1 v2 v3 v4 v5++C):=by rw [hX,List.append_assoc]
 have t:∀ q,X.take (a+q)=A++(dg x v1 v2 v3 v4 v5++C).take q:=fun q=>by rw [e,List.take_append,List.take_of_length_le (by omega)];congr 2;omega
 have d:∀ q,X.drop (a+q)=(dg x v1 v2 v3 v4 v5++C).drop q:=fun q=>by rw [e,List.drop_append,List.drop_of_length_le (by omega),List.nil_append];congr 1;omega
 refine ⟨?_,?_,?_,?_,?_⟩<;>rw [t,Nat.add_assoc,d,List.append_assoc,List.append_assoc]<;>rfl
theorem Q5 {X A C:List V} {i:Int} {v:V} {a:Nat} (hX:X=A++[.d (.int .u64 i),v]++C) (ha:A.length=a):X[a+1]? = some v∧a+2≤X.length∧∀ u,X.take (a+1)++u :: X.drop (a+1+1)=A++[.d (.int .u64 i),u]++C:=by
 have e:X=A++([.d (.int .u64 i),v]++C):=by rw [hX,List.append_assoc]
 refine ⟨?_,?_,fun u=>?_⟩
 ·rw [e,List.getElem?_append_right (by omega),show a+1 - A.length=1 by omega];rfl
 ·rw [e];simp;omega
 ·rw [e,List.take_append,List.take_of_length_le (by omega),List.drop_append,List.drop_of_length_le (by omega),List.nil_append,show a+1 - A.length=1 by omega,show a+1+1 - A.length=2 by omega,List.append_assoc,List.append_assoc];rfl
theorem z6 {α:Type} {sz:Nat} {f:List (List V)→α→Nat→Nat→List V→Prop} (fr:∀ x B B' lo hi r,f B x lo hi r→(∀ i,lo≤i→i < hi→B'[i]? = B[i]?)→f B' x lo hi r) :
 ∀ (l:List α),(∀ x∈l,∀ B:List (List V),∃ J r,r.length=sz∧f (B++J) x B.length (B++J).length r)→∀ B:List (List V),∃ J X,bV sz (f (B++J)) l B.length (B++J).length X
 | [],_,B=>⟨[],[],by simp [bV]⟩
 | x :: l,h,B=>by
  obtain ⟨J1,r,h1,h2⟩:=h x List.mem_cons_self B
  obtain ⟨J2,X,h3⟩:=z6 fr l (fun y hy=>h y (List.mem_cons_of_mem _ hy)) (B++J1)
  rw [List.append_assoc] at h3
  exact ⟨J1++J2,r++X,r,X,(B++J1).length,rfl,h1,by simp,by simp,fr _ _ _ _ _ _ h2 fun i _ hi=>by rw [← List.append_assoc];exact ah hi,h3⟩
theorem rA {α:Type} {sz:Nat} {f:List (List V)→α→Nat→Nat→List V→Prop} (fr:∀ x B B' lo hi r,f B x lo hi r→(∀ i,lo≤i→i < hi→B'[i]? = B[i]?)→f B' x lo hi r)
 (l:List α) (h:∀ x∈l,∀ B:List (List V),∃ J r,r.length=sz∧f (B++J) x B.length (B++J).length r):E5 fun B lo hi v=>lg (bV sz (f B) l) l.length B lo hi v:=by
 intro B
 by_cases hl:l.length=0
 ·exact ⟨[],.d (.sl []),.inl ⟨hl,rfl,by simp⟩⟩
 obtain ⟨J,X,hX⟩:=z6 fr l h (B++[[]])
 have e:∀ k,B.length+1≤k→(B++X :: J)[k]? = (B++[[]]++J)[k]?:=fun k hk=>by
  rw [List.getElem?_append_right (by omega),List.append_assoc,List.getElem?_append_right (by omega)]
  obtain ⟨q,hq⟩:∃ q,k - B.length=q+1:=⟨k - B.length - 1,by omega⟩
  rw [hq]
  rfl
 refine ⟨X :: J,.bx B.length l.length l.length,.inr ⟨hl,_,_,X,rfl,Nat.le_refl _,by simp,by rw [List.getElem?_append_right (Nat.le_refl _),Nat.sub_self];rfl,?_⟩⟩
 have e2:(B++X :: J).length=(B++[[]]++J).length:=by simp
 rw [e2,show B.length+1=(B++[([]:List V)]).length by simp]
 exact hX.congr fun x _ a b r ha _ hf=>fr _ _ _ _ _ _ hf fun i hi _=>e i (by simp at ha;omega)
theorem BE (B:List (List V)) (l:List aj):jT B l=bV 8 (iV B) l:=funext fun a=>funext fun b=>funext fun X=>jA B l a b X
theorem sV (B:List (List V)) (l:List aH):dL B l=bV 10 (iJ B) l:=funext fun a=>funext fun b=>funext fun X=>jE B l a b X
theorem Ex (B:List (List V)) (l:List cJ):gE B l=bV 2 (jD B) l:=funext fun a=>funext fun b=>funext fun X=>jF B l a b X
theorem mkV {l:List aj} (h:∀ x∈l,E5 fun B lo hi v=>fX B x.kids lo hi v):E5 fun B lo hi v=>fX B l lo hi v:=by
 have:=rA (sz:=8) (f:=iV) (fun x B B' lo hi r hf he=>iV.frame x hf he) l fun y hy B=>by
  obtain ⟨J,v,hv⟩:=h y hy B
  exact ⟨J,aV y v,rfl,iW.2 ⟨v,rfl,hv⟩⟩
 intro B
 obtain ⟨J,v,hv⟩:=this B
 refine ⟨J,v,?_⟩
 show lg (jT (B++J) l) l.length (B++J) B.length (B++J).length v
 rw [BE]
 exact hv
theorem mkE {x:aj} (h:Ch x):E5 fun B lo hi v=>fX B x.kids lo hi v:=by
 induction h with
 | mk x h1 h2 ih=>exact mkV ih
theorem XH {l:List aj} (h:∀ x∈l,Ch x):E5 fun B lo hi v=>fX B l lo hi v:=mkV fun x hx=>mkE (h x hx)
def MkS (s:aH):Prop:=(E5 fun B lo hi v=>fX B s.aG lo hi v)∧(E5 fun B lo hi v=>fX B s.exprs lo hi v)∧(E5 fun B lo hi v=>fS B s.body lo hi v)∧(E5 fun B lo hi v=>fS B s.dh lo hi v)∧∀ c∈s.cases,E5 fun B lo hi v=>fS B c.body lo hi v
theorem abk {l:List cJ} (h:∀ c∈l,E5 fun B lo hi v=>fS B c.body lo hi v):E5 fun B lo hi v=>l7 B l lo hi v:=by
 have:=rA (sz:=2) (f:=jD) (fun x B B' lo hi r hf he=>jD.frame x hf he) l fun y hy B=>by
  obtain ⟨J,v,hv⟩:=h y hy B
  exact ⟨J,_,rfl,lD.2 ⟨v,rfl,hv⟩⟩
 intro B
 obtain ⟨J,v,hv⟩:=this B
 refine ⟨J,v,?_⟩
 show lg (gE (B++J) l) l.length (B++J) B.length (B++J).length v
 rw [Ex]
 exact hv
theorem Q6 {l:List aH} (h:∀ s∈l,MkS s):E5 fun B lo hi v=>fS B l lo hi v:=by
 have:=rA (sz:=10) (f:=iJ) (fun x B B' lo hi r hf he=>iJ.frame x hf he) l fun s hs B=>by
  obtain ⟨h1,h2,h3,h4,h5⟩:=h s hs
  obtain ⟨J1,v1,e1⟩:=h1 B
  obtain ⟨J2,v2,e2⟩:=h2 (B++J1)
  obtain ⟨J3,v3,e3⟩:=h3 (B++J1++J2)
  obtain ⟨J4,v4,e4⟩:=h4 (B++J1++J2++J3)
  obtain ⟨J5,v5,e5⟩:=abk h5 (B++J1++J2++J3++J4)
  refine ⟨J1++J2++J3++J4++J5,dg s v1 v2 v3 v4 v5,rfl,lC.2 ⟨v1,v2,v3,v4,v5,_,_,_,_,rfl,e1.frame fun i _ hi=>?_,e2.frame fun i _ hi=>?_,e3.frame fun i _ hi=>?_,e4.frame fun i _ hi=>?_,?_⟩⟩
  ·simp only [← List.append_assoc]
   rw [ah (by simp at hi ⊢;omega),ah (by simp at hi ⊢;omega),ah (by simp at hi ⊢;omega),ah hi]
  ·simp only [← List.append_assoc]
   rw [ah (by simp at hi ⊢;omega),ah (by simp at hi ⊢;omega),ah hi]
  ·simp only [← List.append_assoc]
   rw [ah (by simp at hi ⊢;omega),ah hi]
  ·simp only [← List.append_assoc]
   rw [ah hi]
  ·simpa only [← List.append_assoc] using e5
 intro B
 obtain ⟨J,v,hv⟩:=this B
 refine ⟨J,v,?_⟩
 show lg (dL (B++J) l) l.length (B++J) B.length (B++J).length v
 rw [sV]
 exact hv
theorem mkS {s:aH} (h:En s):MkS s:=by
 induction h with
 | mk s a1 a2 a3 a4 a5 a6 a7 a8 a9 Lp Lq i8 i9 i11=>exact ⟨XH a6,XH a7,Q6 i8,Q6 i9,fun c hc=>Q6 (i11 c hc)⟩
theorem Q7 (s:aH):(dZ s).map V.d=dg s (.d (.sl (s.aG.map fO))) (.d (.sl (s.exprs.map fO))) (.d (.sl (s.body.map dZ))) (.d (.sl (s.dh.map dZ))) (.d (.sl (s.cases.map lK))):=by rw [cX];rfl
theorem Q8 (c:cJ):(lK c).map V.d=[.d (.int .u64 c.int),.d (.sl (c.body.map dZ))]:=by rw [iS];rfl
def KH (l:List aH):Prop:=∀ (B:List (List V)) (T:List (Nat × Nat)),aF Tryz.prog av 26 [.d (.sl (l.map dZ))] ⟨B,T⟩ (NQ (fun B lo hi v=>fS B l lo hi v) B T)
structure XI (l:List aH) (B:List (List V)) (qu:List V) (a:KG):Prop where
 le:a.i≤l.length
 yl:a.Y.length=a.i * 10
 bl:B.length < a.B.length
 old:∀ k,k < B.length→a.B[k]? = B[k]?
 row:a.B[B.length]? = some (a.Y++(((l.drop a.i).map dZ).flatten.map V.d++qu))
 own:bV 10 (iJ a.B) (l.take a.i) (B.length+1) a.B.length a.Y
structure abm (l:List cJ) (M:List (List V)) (qu:List V) (a:KG):Prop where
 le:a.i≤l.length
 yl:a.Y.length=a.i * 2
 bl:M.length < a.B.length
 old:∀ k,k < M.length→a.B[k]? = M[k]?
 row:a.B[M.length]? = some (a.Y++(((l.drop a.i).map lK).flatten.map V.d++qu))
 own:bV 2 (jD a.B) (l.take a.i) (M.length+1) a.B.length a.Y
theorem ID {B Bi:List (List V)} (h6:∀ k,k < B.length→Bi[k]? = B[k]?):Bi=B++Bi.drop B.length:=by
 conv=>lhs;rw [← List.take_append_drop B.length Bi]
 congr 1
 refine List.ext_getElem? fun k=>?_
 rw [List.getElem?_take]
 split
 ·rename_i hk;exact h6 k hk
 ·rename_i hk;rw [List.getElem?_eq_none (by omega)]
set_option maxHeartbeats 4000000 in
theorem Ey (l:List aH) (hl:∀ s∈l,MkS s∧Vp s.aG∧Vp s.exprs∧KH s.body∧KH s.dh∧(∀ c∈s.cases,KH c.body)∧s.cases.length≤60000) (hlen:l.length≤60000):KH l:=by
 intro B T
 have jY:=GM (l.map dZ) (by intro r hr;obtain ⟨x,_,rfl⟩:=List.mem_map.1 hr;rw [cX];rfl) (by rw [List.length_map];omega) B T
 refine aF.flat (aF.uM (body:=(kF Tryz.f26 0)) 83 Tryz.func26 (by kernel_rfl) (by kernel_rfl) (by kernel_rfl) (Nat.le_of_ble_eq_true rfl) ?_)
 refine af.go 160 ?_
 simp only [W,seval,z5]
 refine ag jY ?_
 rintro v S' (⟨h0,rfl,rfl⟩ | ⟨cm,cap,h1,h2,rfl,rfl⟩)
 ·obtain rfl:l=[]:=by simpa using h0
  refine af.go 160 ?_
  simp only [W,seval,z5]
  refine af.cV (fun _:Unit=>(aR 83 [(10,.d (.int .i64 0)),(9,.d (.int .i64 0)),(0,.d (.sl []))],⟨B,T⟩)) (fun _=>True) (fun _=>0) () trivial ?_ rfl ?_
  ·skip
   refine ay.env _ ?_
   simp only [cD,seval]
  intro _ _ _
  refine af.go 60 ?_
  simp only [W,seval,z5,decide_eq_false (show ¬ ((0:Int) < 0) by decide)]
  refine af.ret Tryz.func26 rfl ?_
  exact ⟨[],by rw [List.append_nil],.inl ⟨rfl,rfl,by simp⟩⟩
 obtain ⟨qu,hJ⟩:∃ J,J=List.replicate ((cap - (l.map dZ).length) * 10) V.undef:=⟨_,rfl⟩
 rw [← hJ]
 rw [List.length_map] at h1 ⊢
 clear hJ jY
 have OI:l ≠ []:=by rintro rfl;exact cm rfl
 refine af.go 160 ?_
 simp only [W,seval,z5,iL]
 refine af.cV (fun a:KG=>(aR 83 [(10,.d (.int .i64 (a.i:Int))),(9,.d (.int .i64 (l.length:Int))),(0,.bx B.length l.length cap)],⟨a.B,T⟩)) (XI l B qu) (fun a=>l.length - a.i) ⟨0,[],B++[(l.map dZ).flatten.map V.d++qu]⟩ ⟨Nat.zero_le _,rfl,by simp,fun k hk=>ah hk,by rw [cL rfl];rfl,by simp [bV]⟩ ?_ rfl ?_
 ·skip
  refine ay.env _ ?_
  simp only [cD,seval]
 rintro ⟨i,Y,Bi⟩ ⟨h3,h4,h5,h6,h7,h8⟩ ih
 dsimp only at h3 h4 h5 h6 h7 h8 ih ⊢
 by_cases au:i < l.length
 case neg =>
  have e2:decide ((i:Int) < (l.length:Int))=false:=decide_eq_false (by omega)
  obtain rfl:i=l.length:=by omega
  refine af.go 60 ?_
  simp only [W,seval,z5,e2]
  refine af.ret Tryz.func26 rfl ?_
  rw [List.take_length] at h8
  have hB:=ID h6
  refine ⟨Bi.drop B.length,by rw [← hB],.inr ⟨fun e=>OI (List.eq_nil_of_length_eq_zero e),B.length,cap,_,rfl,Nat.le_refl _,by rw [← hB];exact h5,by rw [← hB];exact h7,?_⟩⟩
  rw [← hB,jE]
  exact h8.tail _
 have e2:decide ((i:Int) < (l.length:Int))=true:=decide_eq_true (by omega)
 have oO:=az ((i:Int)+1) (by omega)
 have mE:(i:Int) < (l.length:Int):=by omega
 obtain ⟨s,hs⟩:∃ s,l[i]=s:=⟨_,rfl⟩
 obtain ⟨⟨m1,m2,m3,m4,m5⟩,q1,q2,q3,q4,q5,q6⟩:=hl l[i] (List.getElem_mem au)
 rw [hs] at m1 m2 m3 m4 m5 q1 q2 q3 q4 q5 q6
 rw [List.drop_eq_getElem_cons au,hs,List.map_cons,List.flatten_cons,List.map_append,Q7,List.append_assoc,← List.append_assoc] at h7
 obtain ⟨C,hC⟩:∃ C,C=((l.drop (i+1)).map dZ).flatten.map V.d++qu:=⟨_,rfl⟩
 rw [← hC] at h7
 obtain ⟨Z,hZ⟩:∃ Z,Z=Y++dg s (.d (.sl (s.aG.map fO))) (.d (.sl (s.exprs.map fO))) (.d (.sl (s.body.map dZ))) (.d (.sl (s.dh.map dZ))) (.d (.sl (s.cases.map lK)))++C:=⟨_,rfl⟩
 rw [← hZ] at h7
 obtain ⟨_,_,x5,x6,x7,x8,x9,_,_,kJ,_⟩:=gI hZ h4
 refine af.go 160 ?_
 simp only [W,seval,z5,iL,e2,mE]
 refine af.bE 30 [] [B.length] (by kernel_rfl) (by kernel_rfl) (by kernel_rfl) (by kernel_rfl) (by kernel_rfl) (by kernel_rfl) (by kernel_rfl) ?_
 simp (maxSteps:=4000000) only [W,seval,z5,xw,iL,h7,x5,x6,x7,x8,x9,kJ]
 have Ld:=fun M=>GN (s.cases.map lK) (by intro r hr;obtain ⟨x,_,rfl⟩:=List.mem_map.1 hr;rw [iS];rfl) (by rw [List.length_map];omega) M T
 refine cM (m1.new Bi T) (q1 Bi T) ?_
 intro v1 S1 n1
 obtain ⟨M1,rfl,l1,p1,o1⟩:=n1.split
 have b1:B.length < M1.length:=by omega
 have r1:M1[B.length]? = some Z:=(p1 _ h5).trans h7
 refine ⟨⟨r1.trans h7.symm,trivial⟩,?_⟩
 simp (maxSteps:=4000000) only [W,seval,z5,xw,iL,r1,x5,x6,x7,x8,x9,kJ]
 refine cM (m2.new M1 T) (q2 M1 T) ?_
 intro v2 S2 n2
 obtain ⟨M2,rfl,l2,p2,o2⟩:=n2.split
 have b2:B.length < M2.length:=by omega
 have r2:M2[B.length]? = some Z:=(p2 _ b1).trans r1
 refine ⟨⟨r2.trans h7.symm,trivial⟩,?_⟩
 simp (maxSteps:=4000000) only [W,seval,z5,xw,iL,r2,x5,x6,x7,x8,x9,kJ]
 refine cM (m3.new M2 T) (q3 M2 T) ?_
 intro v3 S3 n3
 obtain ⟨M3,rfl,l3,p3,o3⟩:=n3.split
 have b3:B.length < M3.length:=by omega
 have r3:M3[B.length]? = some Z:=(p3 _ b2).trans r2
 refine ⟨⟨r3.trans h7.symm,trivial⟩,?_⟩
 simp (maxSteps:=4000000) only [W,seval,z5,xw,iL,r3,x5,x6,x7,x8,x9,kJ]
 refine cM (m4.new M3 T) (q4 M3 T) ?_
 intro v4 S4 n4
 obtain ⟨M4,rfl,l4,p4,o4⟩:=n4.split
 have b4:B.length < M4.length:=by omega
 have r4:M4[B.length]? = some Z:=(p4 _ b3).trans r3
 refine ⟨⟨r4.trans h7.symm,trivial⟩,?_⟩
 simp (maxSteps:=4000000) only [W,seval,z5,xw,iL,r4,x5,x6,x7,x8,x9,kJ]
 refine cM (jH.ne _ _ _ _ (by rw [List.length_map];omega)) (Ld M4) ?_
 intro v5 S5 n5
 obtain ⟨M5,rfl,l5,p5,c5,d5⟩:=n5.split
 have b5:B.length < M5.length:=by omega
 have r5:M5[B.length]? = some Z:=(p5 _ b4).trans r4
 refine ⟨⟨r5.trans h7.symm,trivial⟩,?_⟩
 obtain ⟨Z1,Sl⟩:∃ X,X=Y++dg s v1 (.d (.sl (s.exprs.map fO))) (.d (.sl (s.body.map dZ))) (.d (.sl (s.dh.map dZ))) (.d (.sl (s.cases.map lK)))++C:=⟨_,rfl⟩
 obtain ⟨Z2,Za⟩:∃ X,X=Y++dg s v1 v2 (.d (.sl (s.body.map dZ))) (.d (.sl (s.dh.map dZ))) (.d (.sl (s.cases.map lK)))++C:=⟨_,rfl⟩
 obtain ⟨Z3,Zb⟩:∃ X,X=Y++dg s v1 v2 v3 (.d (.sl (s.dh.map dZ))) (.d (.sl (s.cases.map lK)))++C:=⟨_,rfl⟩
 obtain ⟨Z4,Zd⟩:∃ X,X=Y++dg s v1 v2 v3 v4 (.d (.sl (s.cases.map lK)))++C:=⟨_,rfl⟩
 obtain ⟨Z5,Ze⟩:∃ X,X=Y++dg s v1 v2 v3 v4 v5++C:=⟨_,rfl⟩
 have e1:=(pF hZ h4 v1).1.trans Sl.symm
 have e2:=(pF Sl h4 v2).2.1.trans Za.symm
 have e3:=(pF Za h4 v3).2.2.1.trans Zb.symm
 have e4:=(pF Zb h4 v4).2.2.2.1.trans Zd.symm
 have e5:=(pF Zd h4 v5).2.2.2.2.trans Ze.symm
 have y6:i * 10+6≤Z.length:=by omega
 have y7:i * 10+7≤Z1.length:=by have:=(gI Sl h4).2.2.2.2.2.2.2.2.2.1;omega
 have y8:i * 10+8≤Z2.length:=by have:=(gI Za h4).2.2.2.2.2.2.2.2.2.1;omega
 have y9:i * 10+9≤Z3.length:=by have:=(gI Zb h4).2.2.2.2.2.2.2.2.2.1;omega
 have Ve:i * 10+10≤Z4.length:=by have:=(gI Zd h4).2.2.2.2.2.2.2.2.2.1;omega
 have cv1:=lg.cells o1
 have cv2:=lg.cells o2
 have cv3:=lg.cells o3
 have cv4:=lg.cells o4
 have s1:∀ X,(M5.set B.length X)[B.length]? = some X:=fun X=>List.getElem?_set_self b5
 simp (maxSteps:=4000000) only [W,seval,z5,xw,iL,r5,h7,cv1,cv2,cv3,cv4,c5,e1,e2,e3,e4,e5,y6,y7,y8,y9,Ve,s1]
 clear e1 e2 e3 e4 e5 y6 y7 y8 y9 Ve Sl Za Zb Zd Z1 Z2 Z3 Z4 cv1 cv2 cv3 cv4 c5 x5 x6 x7 x8 x9 kJ Ld r5 r4 r3 r2 r1
 have z9:Z5[i * 10+9]? = some v5:=(gI Ze h4).2.2.2.2.2.2.1
 have sub:∀ k,k < M4.length→k ≠ B.length→(M4.set B.length Z5)[k]? = M4[k]?:=fun k _ hk=>List.getElem?_set_ne (Ne.symm hk)
 have fin:∀ B':List (List V),M4.length≤B'.length→(∀ k,k < M4.length→B'[k]? = (M4.set B.length Z5)[k]?)→l7 B' s.cases M4.length B'.length v5→XI l B qu ⟨i+1,Y++dg s v1 v2 v3 v4 v5,B'⟩:=by
  intro B' f1 f2 f3
  have hq:∀ k,k < M4.length→k ≠ B.length→B'[k]? = M4[k]?:=fun k a b=>(f2 k a).trans (sub k a b)
  refine ⟨au,?_,?_,?_,?_,?_⟩
  ·show (Y++dg s v1 v2 v3 v4 v5).length=(i+1) * 10
   rw [List.length_append,h4]
   show i * 10+10=_
   omega
  ·show B.length < B'.length
   omega
  ·intro k hk
   show B'[k]? = B[k]?
   rw [hq k (by omega) (by omega),p4 k (by omega),p3 k (by omega),p2 k (by omega),p1 k (by omega),h6 k hk]
  ·show B'[B.length]? = _
   rw [f2 _ b4,List.getElem?_set_self b4,Ze,List.append_assoc,← hC]
   simp only [List.append_assoc]
  ·show bV 10 (iJ B') (l.take (i+1)) (B.length+1) B'.length (Y++dg s v1 v2 v3 v4 v5)
   rw [List.take_succ_eq_append_getElem au,hs]
   refine bV.snoc (sz:=10) (m:=Bi.length) (f:=iJ B') rfl (by omega) (fun a ha=>?_) (h8.congr fun y _ a b r ha hb hf=>iJ.frame y hf fun k h1 h2=>by rw [hq k (by omega) (by omega),p4 k (by omega),p3 k (by omega),p2 k (by omega),p1 k (by omega)]) (by rw [h4,List.length_take,Nat.min_eq_left h3])
   refine lC.2 ⟨v1,v2,v3,v4,v5,_,_,_,_,rfl,lg.low (o1.frame fun k h1 h2=>?_) ha,o2.frame fun k h1 h2=>?_,o3.frame fun k h1 h2=>?_,o4.frame fun k h1 h2=>?_,f3⟩
   ·rw [hq k (by omega) (by omega),p4 k (by omega),p3 k (by omega),p2 k (by omega)]
   ·rw [hq k (by omega) (by omega),p4 k (by omega),p3 k (by omega)]
   ·rw [hq k (by omega) (by omega),p4 k (by omega)]
   ·rw [hq k (by omega) (by omega)]
 rcases d5 with ⟨h50,rfl,rfl⟩ | ⟨h50,Xu,J5,rfl,rfl⟩
 ·have qw:s.cases=[]:=by simpa using h50
  refine af.go 160 ?_
  simp only [W,seval,z5,iL,s1,z9]
  refine af.cV (fun _:Unit=>(aR 83 [(61,.d (.int .i64 0)),(60,.d (.int .i64 0)),(10,.d (.int .i64 (i:Int))),(9,.d (.int .i64 (l.length:Int))),(0,.bx B.length l.length cap)],⟨M5.set B.length Z5,T⟩)) (fun _=>True) (fun _=>0) () trivial ?_ rfl ?_
  ·skip
   refine ay.env _ ?_
   simp only [cD,seval]
  intro _ _ _
  refine af.go 60 ?_
  simp only [W,seval,z5,decide_eq_false (show ¬ ((0:Int) < 0) by decide),oO]
  refine ih _ (fin _ (by rw [List.length_set];exact Nat.le_refl _) (fun _ _=>rfl) (.inl ⟨by rw [qw];rfl,rfl,by rw [List.length_set];exact Nat.le_refl _⟩)) (by dsimp only;omega) _ _ ?_ rfl
  ·skip
   refine ay.env _ ?_
   simp only [cD,seval]
 have qw:s.cases ≠ []:=fun e=>h50 (by rw [e];rfl)
 rw [List.length_map] at fin z9 Ze ⊢
 have hm:(M4++[((s.cases.map lK).flatten.map V.d)++J5]).set B.length Z5=M4.set B.length Z5++[((s.cases.map lK).flatten.map V.d)++J5]:=List.set_append_left _ _ b4
 have z1:=s1 Z5
 clear s1
 rw [hm] at z1 ⊢
 clear hm
 obtain ⟨M,hM⟩:∃ M,M=M4.set B.length Z5:=⟨_,rfl⟩
 have hML:M.length=M4.length:=by rw [hM,List.length_set]
 rw [← hM] at fin z1 ⊢
 rw [← hML] at fin z9 ⊢
 have bM:B.length < M.length:=by omega
 have zM:M[B.length]? = some Z5:=by rw [ah bM] at z1;exact z1
 clear sub o1 o2 o3 o4 p1 p2 p3 p4 p5 h8 hM
 refine af.go 160 ?_
 simp only [W,seval,z5,iL,z1,z9]
 refine af.cV (fun a:KG=>(aR 83 [(61,.d (.int .i64 (a.i:Int))),(60,.d (.int .i64 (s.cases.length:Int))),(4,.ptr B.length (i * 10)),(10,.d (.int .i64 (i:Int))),(9,.d (.int .i64 (l.length:Int))),(0,.bx B.length l.length cap)],⟨a.B,T⟩)) (abm s.cases M J5) (fun a=>s.cases.length - a.i) ⟨0,[],M++[(s.cases.map lK).flatten.map V.d++J5]⟩ ⟨Nat.zero_le _,rfl,by simp,fun k hk=>ah hk,by rw [cL rfl];rfl,by simp [bV]⟩ ?_ rfl ?_
 ·skip
  refine ay.env _ ?_
  simp only [cD,seval]
 rintro ⟨j,Yc,Bj⟩ ⟨g3,g4,g5,g6,g7,g8⟩ lM
 dsimp only at g3 g4 g5 g6 g7 g8 lM ⊢
 by_cases l8:j < s.cases.length
 case neg =>
  have e3:decide ((j:Int) < (s.cases.length:Int))=false:=decide_eq_false (by omega)
  obtain rfl:j=s.cases.length:=by omega
  refine af.go 60 ?_
  simp only [W,seval,z5,e3,oO]
  rw [List.take_length] at g8
  refine ih _ (fin Bj (by omega) (fun k hk=>g6 k hk) (.inr ⟨fun e=>qw (List.eq_nil_of_length_eq_zero e),M.length,Xu,_,rfl,Nat.le_refl _,g5,g7,?_⟩)) (by dsimp only;omega) _ _ ?_ rfl
  ·rw [jF]
   exact g8.tail _
  ·skip
   refine ay.env _ ?_
   simp only [cD,seval]
 have e3:decide ((j:Int) < (s.cases.length:Int))=true:=decide_eq_true (by omega)
 have m9:=az ((j:Int)+1) (by omega)
 have XJ:(j:Int) < (s.cases.length:Int):=by omega
 obtain ⟨c,hc⟩:∃ c,s.cases[j]=c:=⟨_,rfl⟩
 have yx:c∈s.cases:=hc ▸ List.getElem_mem l8
 rw [List.drop_eq_getElem_cons l8,hc,List.map_cons,List.flatten_cons,List.map_append,Q8,List.append_assoc,← List.append_assoc] at g7
 obtain ⟨C2,Vq⟩:∃ C,C=((s.cases.drop (j+1)).map lK).flatten.map V.d++J5:=⟨_,rfl⟩
 rw [← Vq] at g7
 obtain ⟨Zc,hZc⟩:∃ Z,Z=Yc++[.d (.int .u64 c.int),.d (.sl (c.body.map dZ))]++C2:=⟨_,rfl⟩
 rw [← hZc] at g7
 obtain ⟨w1,w2,w3⟩:=Q5 hZc g4
 have gB:Bj[B.length]? = some Z5:=(g6 _ bM).trans zM
 refine af.go 160 ?_
 simp only [W,seval,z5,iL,e3,XJ]
 refine af.bE 14 [] [B.length,M.length] (by kernel_rfl) (by kernel_rfl) (by kernel_rfl) (by kernel_rfl) (by kernel_rfl) (by kernel_rfl) (by kernel_rfl) ?_
 simp (maxSteps:=4000000) only [W,seval,z5,xw,iL,gB,z9,g7,w1,w2,XJ]
 refine cM ((m5 c yx).new Bj T) (q5 c yx Bj T) ?_
 intro v6 S6 n6
 obtain ⟨M6,rfl,l6,p6,o6⟩:=n6.split
 have k1:M6[B.length]? = some Z5:=(p6 _ (by omega)).trans gB
 have k2:M6[M.length]? = some Zc:=(p6 _ g5).trans g7
 refine ⟨⟨k1.trans gB.symm,k2.trans g7.symm,trivial⟩,?_⟩
 have cv6:=lg.cells o6
 simp (maxSteps:=4000000) only [W,seval,z5,xw,iL,k1,k2,z9,w1,w2,w3,XJ,cv6,m9]
 refine ⟨⟨gB.symm,g7.symm⟩,?_⟩
 refine af.go 60 ?_
 simp only [W,seval,z5,m9]
 obtain ⟨Q,hQ⟩:∃ Q,Q=Yc++V.d (.int .u64 c.int) :: v6 :: C2:=⟨_,rfl⟩
 rw [← hQ]
 have hlM:M.length < M6.length:=by omega
 have Q9:∀ k,k < Bj.length→k ≠ M.length→(M6.set M.length Q)[k]? = Bj[k]?:=fun k a b=>by rw [List.getElem?_set_ne (Ne.symm b),p6 k a]
 refine lM ⟨j+1,Yc++[.d (.int .u64 c.int),v6],M6.set M.length Q⟩ ⟨l8,?_,?_,?_,?_,?_⟩ (by dsimp only;omega) _ _ ?_ rfl
 ·show (Yc++[V.d (.int .u64 c.int),v6]).length=(j+1) * 2
  rw [List.length_append,g4]
  show j * 2+2=_
  omega
 ·show M.length < (M6.set M.length Q).length
  rw [List.length_set]
  exact hlM
 ·exact fun k hk=>(Q9 k (by omega) (by omega)).trans (g6 k hk)
 ·show (M6.set M.length Q)[M.length]? = _
  rw [List.getElem?_set_self hlM,hQ,← Vq,List.append_assoc]
  rfl
 ·show bV 2 (jD (M6.set M.length Q)) (s.cases.take (j+1)) (M.length+1) (M6.set M.length Q).length (Yc++[V.d (.int .u64 c.int),v6])
  rw [List.take_succ_eq_append_getElem l8,hc,List.length_set]
  refine bV.snoc (sz:=2) (m:=Bj.length) (f:=jD (M6.set M.length Q)) rfl (by omega) (fun a ha=>?_) (g8.congr fun y _ a b r ha hb hf=>jD.frame y hf fun k h1 h2=>Q9 k (by omega) (by omega)) (by rw [g4,List.length_take,Nat.min_eq_left g3])
  refine lD.2 ⟨v6,rfl,lg.low (o6.frame fun k h1 h2=>?_) ha⟩
  exact List.getElem?_set_ne (by omega)
 ·skip
  refine ay.env _ ?_
  simp only [cD,seval]
theorem GQ {s:aH} (h:En s):KH s.body∧KH s.dh∧∀ c∈s.cases,KH c.body:=by
 induction h with
 | mk s a1 a2 a3 a4 a5 a6 a7 a8 a9 Lp Lq i8 i9 i11 =>
  have key:∀ l:List aH,(∀ y∈l,En y)→(∀ y∈l,KH y.body∧KH y.dh∧∀ c∈y.cases,KH c.body)→l.length≤60000→KH l:=fun l a b c =>
   Ey l (fun y hy=>by
    obtain ⟨k1,k2,k3⟩:=b y hy
    refine ⟨mkS (a y hy),?_,?_,k1,k2,k3,by have:=(a y hy).cases;omega⟩<;>(cases a y hy with | mk _ e1 e2 e3 e4 e5 e6 e7 e8 e9 Ue Xm=>exact z4 (by assumption) (by omega))) c
  exact ⟨key _ a8 i8 (by omega),key _ a9 i9 (by omega),fun c hc=>key _ (Lq c hc) (i11 c hc) (by have:=Lp c hc;omega)⟩
theorem KI {l:List aH} (h:∀ s∈l,En s) (hl:l.length≤60000):KH l :=
 Ey l (fun y hy=>by
  obtain ⟨k1,k2,k3⟩:=GQ (h y hy)
  refine ⟨mkS (h y hy),?_,?_,k1,k2,k3,by have:=(h y hy).cases;omega⟩<;>(cases h y hy with | mk _ e1 e2 e3 e4 e5 e6 e7 e8 e9 Ue Xm=>exact z4 (by assumption) (by omega))) hl
structure yX (B:List (List V)) (c s f:Nat) (xx yy:V) (E:bP):Prop where
 c:B[c]? = some [.mp s,.mp f,xx,yy]
 s:B[s]? = some (oh E.su)
 f:B[f]? = some (om E.fu)
section
variable {E:bP} {c s f:Nat} {xx yy:V} {B B':List (List V)} {T:List (Nat × Nat)}
theorem yX.lt (h:yX B c s f xx yy E):c < B.length∧s < B.length∧f < B.length :=
 ⟨(List.getElem?_eq_some_iff.1 h.c).1,(List.getElem?_eq_some_iff.1 h.s).1,(List.getElem?_eq_some_iff.1 h.f).1⟩
theorem yX.eC (h:yX B c s f xx yy E) (hc:B'[c]? = B[c]?) (hs:B'[s]? = B[s]?) (hf:B'[f]? = B[f]?):yX B' c s f xx yy E :=
 ⟨by rw [hc];exact h.c,by rw [hs];exact h.s,by rw [hf];exact h.f⟩
theorem yX.more (h:yX B c s f xx yy E) (J:List (List V)):yX (B++J) c s f xx yy E :=
 h.eC (ah h.lt.1) (ah h.lt.2.1) (ah h.lt.2.2)
theorem yX.xp (h:yX B c s f xx yy E) (n:List UInt8) (ok:Bool) (J:List (List V)) (T:List (Nat × Nat)):cZ Tryz.prog ⟨B++J,T⟩ 60 (.mp s) (.d (.str n)) ok=some (gy Qu ((eW cG.name E.su n).map yL) ok):=sJ Np (h.more J).s n ok
theorem yX.Iq (h:yX B c s f xx yy E) (n:List UInt8) (ok:Bool) (J:List (List V)) (T:List (Nat × Nat)):cZ Tryz.prog ⟨B++J,T⟩ 61 (.mp f) (.d (.str n)) ok=some (gy Vg ((eW cn.name E.fu n).map yM) ok):=sJ Nq (h.more J).f n ok
set_option maxHeartbeats 4000000 in
theorem BF (n:List UInt8) (h:yX B c s f xx yy E):aF Tryz.prog av 64 [.ptr c 0,.d (.str n)] ⟨B,T⟩ (aB (.d (.bool (fq E.su E.fu n))) ⟨B,T⟩):=by
 obtain ⟨N,hn⟩:∃ N,B.length=N:=⟨_,rfl⟩
 have hi:c < N:=by rw [← hn];exact h.lt.1
 have hb:=h.c
 have hs:=h.xp n true [] T
 rw [List.append_nil] at hs
 have hf:=h.Iq n true
 have oV:fq E.su E.fu n=((eW cG.name E.su n).isNone && (eW cn.name E.fu n).isNone && !(decide (n=[95]))):=by
  unfold fq
  congr 2
  rw [Bool.eq_iff_iff];simp
 rw [oV]
 cases h1:eW cG.name E.su n<;>cases h2:eW cn.name E.fu n<;>rw [h1] at hs<;>rw [h2] at hf<;>simp only [Go.Ab.gy,Option.map_some,Option.map_none,if_true,Qu,Vg,yL,yM] at hs hf
 all_goals
  refine b64.go 160 rfl fun _=>?_
  simp only [W,seval,c64,ov,hn,hi,hb,hs,hf,Bool.not_true,Bool.not_false,Bool.true_eq_false,Bool.false_eq_true]
  refine af.ret Tryz.func64 rfl (Left.box ?_)
  exact ⟨rfl,rfl⟩
set_option maxHeartbeats 4000000 in
theorem tX {t:aA} (ht:TW t) (h:yX B c s f xx yy E):aF Tryz.prog av 68 [.ptr c 0,aY t] ⟨B,T⟩ (aB (.d (.bool (bQ E.su t))) ⟨B,T⟩):=by
 obtain ⟨N,hn⟩:∃ N,B.length=N:=⟨_,rfl⟩
 have hi:c < N:=by rw [← hn];exact h.lt.1
 have m8:s < N:=by rw [← hn];exact h.lt.2.1
 have Ie:=h.s
 have hb:=h.c
 unfold aY
 refine b68.go 160 rfl fun bk=>?_
 simp only [dP] at bk
 simp only [W,seval,Lm,hn]
 refine af.cV (fun a:aA=>(aR 30 [(0,.ptr c 0),(3,.ptr N 0)],⟨B++[jK a],T⟩)) (fun a=>TW a∧bQ E.su a=bQ E.su t) (fun a=>SizeOf.sizeOf a) t ⟨ht,rfl⟩ ?_ rfl ?_
 ·skip
  refine ay.env _ ?_
  simp only [cD,seval]
 rintro a ⟨ha,h2⟩ ih
 cases ha with
 | sl n u hu =>
  rw [zO] at h2
  refine af.go 160 ?_
  simp only [W,seval,Lm,hn,jK,aA.kind,aA.name,aA.elem,decide_true,bC,bT,cB]
  refine ih u ⟨hu,h2⟩ (by simp;omega) _ _ ?_ rfl
  refine ay.env _ ?_
  simp only [cD,seval]
 | leaf k n es hk =>
  have e8:=decide_eq_false hk
  rw [uF _ _ _ _ hk] at h2
  rw [← h2]
  have hs:=h.xp n true
  clear ih h2
  cases h1:eW cG.name E.su n<;>rw [h1] at hs<;>simp only [Go.Ab.gy,Option.map_some,Option.map_none,if_true,Qu,yL] at hs
  all_goals
   refine af.go 160 ?_
   simp only [W,seval,Lm,hn,jK,aA.kind,aA.name,aA.elem,e8]
   refine af.bE 11 [] [c,s,N] (by kernel_rfl) (by kernel_rfl) (by kernel_rfl) (by kernel_rfl) (by kernel_rfl) (by kernel_rfl) (by kernel_rfl) ?_
   simp (maxSteps:=4000000) only [W,seval,Lm,xw,ov,hn,hi,hb,hs,m8,Ie]
   by_cases h7:k=7
   ·have e7:=decide_eq_true h7
    refine af.go 160 ?_
    simp only [W,seval,Lm,ov,hn,e7,Bool.not_true]
    refine af.ret Tryz.func68 rfl (Left.box ?_)
    simp only [h7]
    exact ⟨rfl,rfl⟩
   ·have e7:=decide_eq_false h7
    refine af.go 160 ?_
    simp only [W,seval,Lm,ov,hn,e7,Bool.not_false]
    refine af.ret Tryz.func68 rfl (Left.box ?_)
    try rw [show decide (k ≠ 7)=true from decide_eq_true h7]
    exact ⟨rfl,rfl⟩
end
def Sm:=by
 have c:=aM Tryz.f65 (by conv=>lhs;cbv)
 dsimp only [KK,eN,eG,eH,List.map_cons,List.map_nil,List.toList_toArray] at c
 exact c
theorem b65:bI Tryz.prog 65 Tryz.f65 43:=⟨Tryz.func65,by kernel_rfl⟩
theorem Sn:AI Tryz.prog 67 1=some (37,1):=by kernel_rfl
def Ez (met:List (List UInt8)):List V:=[.oy met (met.map fun _=>.d (.bool true))]
theorem XK:qy Tryz.prog 120=some (.d (.bool false)):=by kernel_rfl
theorem xH (n:List UInt8):∀ l:List (List UInt8),(match j4 l n with
 | some j=>l.contains n=true∧j < l.length
 | none=>l.contains n=false)
 | []=>rfl
 | x :: l=>by
  have ih:=xH n l
  rw [j4]
  by_cases h:x=n
  ·rw [if_pos h]
   exact ⟨by simp [h],by simp⟩
  ·rw [if_neg h]
   have hc:(x :: l).contains n=l.contains n:=by simp [Ne.symm h]
   cases hk:j4 l n with
   | none=>rw [hk] at ih;exact hc.trans ih
   | some j=>rw [hk] at ih;exact ⟨hc.trans ih.1,by have:=ih.2;simp;omega⟩
theorem So {met:List (List UInt8)} {B:List (List V)} {T:List (Nat × Nat)} {i:Nat} (hb:B[i]? = some (Ez met)) (n:List UInt8):cZ Tryz.prog ⟨B,T⟩ 120 (.mp i) (.d (.str n)) false=some (.d (.bool (met.contains n))):=by
 have:=xH n met
 unfold cZ
 unfold Ez at hb
 simp only [XK,hb,Cu]
 cases hk:j4 met n with
 | none=>rw [hk] at this;rw [this];rfl
 | some j =>
  rw [hk] at this
  rw [this.1]
  have:(met.map fun _=>V.d (.bool true))[j]? = some (.d (.bool true)):=by rw [List.getElem?_map,List.getElem?_eq_getElem this.2];rfl
  dsimp only
  rw [this]
  rfl
theorem abo {met:List (List UInt8)} {B:List (List V)} {T:List (Nat × Nat)} {i:Nat} (hb:B[i]? = some (Ez met)) {n:List UInt8} (hn:met.contains n=false):fh Tryz.prog ⟨B,T⟩ 120 (.mp i) (.d (.str n)) (.d (.bool true))=some (.undef,⟨B.set i (Ez (met++[n])),T⟩):=by
 have:=xH n met
 unfold fh
 unfold Ez at hb
 simp only [XK,hb,AG]
 cases hk:j4 met n with
 | some j=>rw [hk] at this;rw [this.1] at hn;cases hn
 | none =>
  unfold Ez
  simp
def yY (f:List (List UInt8)→List UInt8→List (List UInt8)) (met:List (List UInt8)) (p:bH):List (List UInt8):=if decide (p.type.kind=7) && !met.contains p.type.name then f (met++[p.type.name]) p.type.name else met
def ot (su:List cG):Nat→List (List UInt8)→List UInt8→List (List UInt8)
 | 0,met,_=>met
 | k+1,met,n=>(Eu su n).foldl (yY (ot su k)) met
def sW (su:List cG):List (List UInt8):=su.flatMap fun s=>s.fields.map fun p=>p.type.name
def uN (su:List cG) (met:List (List UInt8)):Nat:=(sW su).countP fun x=>!met.contains x
theorem Ra {su:List cG} {met:List (List UInt8)} {n:List UInt8} (hn:n∈sW su) (hm:met.contains n=false):uN su (met++[n]) < uN su met:=by
 unfold uN
 generalize sW su=l at hn
 induction l with
 | nil=>cases hn
 | cons x l ih =>
  have hle:∀ l:List (List UInt8),l.countP (fun x=>!(met++[n]).contains x)≤l.countP fun x=>!met.contains x:=fun l=>List.countP_mono_left fun y _ hy=>by simp at hy ⊢;exact hy.1
  rw [List.countP_cons,List.countP_cons]
  by_cases hx:x=n
  ·subst hx
   have:=hle l
   rw [hm]
   simp at this ⊢
   omega
  ·have:=ih (by simpa [Ne.symm hx] using hn)
   have e:(met++[n]).contains x=met.contains x:=by simp [hx]
   rw [e]
   omega
theorem NR {su:List cG} {n:List UInt8} {p:bH} (h:p∈Eu su n):p.type.name∈sW su:=by
 unfold Eu at h
 split at h
 ·rename_i s hs
  have:s∈su:=by
   clear h
   induction su with
   | nil=>cases hs
   | cons x l ih =>
    rw [eW] at hs
    split at hs
    ·obtain rfl:=Option.some.inj hs;exact List.mem_cons_self
    ·exact List.mem_cons_of_mem _ (ih hs)
  exact List.mem_flatMap.2 ⟨s,this,List.mem_map.2 ⟨p,h,rfl⟩⟩
 ·cases h
theorem z7 (su:List cG):∀ (k:Nat) (met:List (List UInt8)) (n:List UInt8),∃ J,ot su k met n=met++J
 | 0,met,_=>⟨[],by simp [ot]⟩
 | k+1,met,n=>by
  rw [ot]
  generalize Eu su n=l
  induction l generalizing met with
  | nil=>exact ⟨[],by simp⟩
  | cons p l ih =>
   rw [List.foldl_cons]
   obtain ⟨J,hJ⟩:=ih (yY (ot su k) met p)
   rw [hJ]
   unfold yY
   split
   ·obtain ⟨J2,h2⟩:=z7 su k (met++[p.type.name]) p.type.name
    rw [h2]
    exact ⟨[p.type.name]++J2++J,by simp⟩
   ·exact ⟨J,rfl⟩
theorem NS (su:List cG) (met J:List (List UInt8)):uN su (met++J)≤uN su met:=List.countP_mono_left fun y _ hy=>by simp at hy ⊢;exact hy.1
structure abp where
 i:Nat
 met:List (List UInt8)
 J:List (List V)
theorem Rb (met:List (List UInt8)) (n m:Nat):(Ez met).all (fit n m)=true:=by
 unfold Ez
 simp only [List.all_cons,List.all_nil,Bool.and_true]
 show jn n m _=true
 rw [dS]
 intro j hj
 simp [fit]
section
variable {E:bP} {c s f:Nat} {xx yy:V}
set_option maxHeartbeats 4000000 in
theorem GR (hT:og E.su E.fu):∀ (k:Nat) (met:List (List UInt8)) (n:List UInt8) (B:List (List V)) (T:List (Nat × Nat)) (m:Nat),uN E.su met≤k→yX B c s f xx yy E→B[m]? = some (Ez met)→c ≠ m∧s ≠ m∧f ≠ m →
 aF Tryz.prog av 65 [.ptr c 0,.d (.str n),.mp m] ⟨B,T⟩ fun _ S'=>S' = ⟨B.set m (Ez (ot E.su (k+1) met n)),T⟩:=by
 intro k
 induction k using Nat.strongRecOn with
 | _ k ihk =>
 intro met n B T m ni hK hm cm
 obtain ⟨N,hn⟩:∃ N,B.length=N:=⟨_,rfl⟩
 have hi:c < N:=by rw [← hn];exact hK.lt.1
 have hml:m < N:=by rw [← hn];exact (List.getElem?_eq_some_iff.1 hm).1
 have hb:=hK.c
 have hs:=hK.xp n false [] T
 rw [List.append_nil] at hs
 have kS:B.set m (Ez met)=B:=pq _ _ _ hm
 generalize ir:ot E.su (k+1) met n=fin
 rw [ot] at ir
 cases h1:eW cG.name E.su n with
 | none =>
  rw [h1] at hs
  simp only [Go.Ab.gy,Option.map_none,Qu,Bool.false_eq_true,if_false] at hs
  have hf:Eu E.su n=[]:=by unfold Eu;rw [h1]
  rw [hf] at ir
  have ir:met=fin:=ir
  refine b65.go 160 rfl fun bk=>?_
  simp only [dP] at bk
  simp only [W,seval,Sm,ov,hn,hi,hb,hs,oH,Sn]
  refine af.cV (fun _:Unit=>(aR 43 [(16,.d (.int .i64 0)),(15,.d (.int .i64 0))],⟨B,T⟩)) (fun _=>True) (fun _=>0) () trivial ?_ rfl ?_
  ·skip
   refine ay.env _ ?_
   simp only [cD,seval]
  intro _ _ _
  refine af.go 60 ?_
  simp only [W,seval,Sm,decide_eq_false (show ¬ ((0:Int) < 0) by decide)]
  refine af.fin Tryz.func65 rfl (Left.none ?_)
  rw [← ir,kS]
 | some st =>
  rw [h1] at hs
  simp only [Go.Ab.gy,Option.map_some,yL,Bool.false_eq_true,if_false] at hs
  have hf:Eu E.su n=st.fields:=by unfold Eu;rw [h1]
  have BG:∀ p∈st.fields,p.type.name∈sW E.su:=fun p hp=>NR (n:=n) (by rw [hf];exact hp)
  have hlen:st.fields.length≤60000:=(hT.fl st (qa _ h1)).1
  rw [hf] at ir
  refine b65.go 160 rfl fun bk=>?_
  simp only [dP] at bk
  simp only [W,seval,Sm,ov,hn,hi,hb,hs,oH,Sn]
  refine af.cV (fun a:abp=>(aR 43 [(0,.ptr c 0),(2,.mp m),(14,.d (.sl (st.fields.map gf))),(15,.d (.int .i64 (st.fields.length:Int))),(16,.d (.int .i64 (a.i:Int)))],⟨B.set m (Ez a.met)++a.J,T⟩)) (fun a=>a.i≤st.fields.length∧(st.fields.drop a.i).foldl (yY (ot E.su k)) a.met=fin∧uN E.su a.met≤k) (fun a=>st.fields.length - a.i) ⟨0,met,[]⟩ ⟨Nat.zero_le _,ir,ni⟩ ?_ (by rw [List.append_nil,kS]) ?_
  ·skip
   refine ay.env _ ?_
   simp only [cD,seval]
  rintro ⟨i,mt,J⟩ ⟨h2,h3,h4⟩ ih
  dsimp only at h2 h3 h4 ih ⊢
  by_cases au:i < st.fields.length
  case neg =>
   have e2:decide ((i:Int) < (st.fields.length:Int))=false:=decide_eq_false (by omega)
   rw [List.drop_eq_nil_of_le (by omega)] at h3
   have h3:mt=fin:=h3
   refine af.go 60 ?_
   simp only [W,seval,Sm,e2]
   refine af.fin Tryz.func65 rfl (Left.set (Rb _ _ _) ?_)
   rw [h3]
  have e2:decide ((i:Int) < (st.fields.length:Int))=true:=decide_eq_true (by omega)
  have oO:=az ((i:Int)+1) (by omega)
  have mE:(i:Int) < (st.fields.length:Int):=by omega
  obtain ⟨p,hp⟩:∃ p,st.fields[i]=p:=⟨_,rfl⟩
  have hg:(st.fields.map gf)[i]? = some (gf p):=by rw [List.getElem?_map,List.getElem?_eq_getElem au,hp];rfl
  rw [mq] at hg
  rw [List.drop_eq_getElem_cons au,hp,List.foldl_cons] at h3
  obtain ⟨BJ,qd⟩:∃ BJ,BJ=B.set m (Ez mt)++J:=⟨_,rfl⟩
  obtain ⟨L,hL⟩:∃ L,BJ.length=L:=⟨_,rfl⟩
  rw [← qd]
  have hmB:BJ[m]? = some (Ez mt):=by rw [qd,List.getElem?_append_left (by rw [List.length_set];omega),List.getElem?_set_self (by omega)]
  have hmL:m < L:=by rw [← hL];exact (List.getElem?_eq_some_iff.1 hmB).1
  obtain ⟨row,aD⟩:∃ row,row=[V.d (.str p.name),.d (.int .i64 p.type.kind),.d (.str p.type.name),.d (.sl (p.type.elem.map dR))]:=⟨_,rfl⟩
  cases h7:decide (p.type.kind=7)
  case false =>
   have hF:yY (ot E.su k) mt p=mt:=by unfold yY;rw [h7,Bool.false_and];rfl
   rw [hF] at h3
   refine af.go 160 ?_
   simp only [W,seval,Sm,ov,e2,hg,mE,au,hL,h7,oO]
   refine ih ⟨i+1,mt,J++[row]⟩ ⟨au,h3,h4⟩ (by dsimp only;omega) _ _ ?_ (by rw [qd,List.append_assoc,← aD])
   refine ay.env _ ?_
   simp only [cD,seval]
  have Rc:∀ (J2:List (List V)),cZ Tryz.prog ⟨BJ++J2,T⟩ 120 (.mp m) (.d (.str p.type.name)) false=some (.d (.bool (mt.contains p.type.name))):=fun J2=>So (by rw [ah (by omega)];exact hmB) _
  cases hc:mt.contains p.type.name
  case true =>
   have hF:yY (ot E.su k) mt p=mt:=by unfold yY;rw [hc];simp
   rw [hF] at h3
   rw [hc] at Rc
   refine af.go 160 ?_
   simp only [W,seval,Sm,ov,e2,hg,mE,au,hL,h7,oO,Rc]
   refine ih ⟨i+1,mt,J++[row]⟩ ⟨au,h3,h4⟩ (by dsimp only;omega) _ _ ?_ (by rw [qd,List.append_assoc,← aD])
   refine ay.env _ ?_
   simp only [cD,seval]
  have hpm:=BG p (hp ▸ List.getElem_mem au)
  have hms:=Ra hpm hc
  have hF:yY (ot E.su k) mt p=ot E.su k (mt++[p.type.name]) p.type.name:=by unfold yY;rw [hc,h7];rfl
  rw [hF] at h3
  rw [hc] at Rc
  have jW:∀ (X:List V) (J2:List (List V)),(BJ++J2).set m X=B.set m X++(J++J2):=fun X J2=>by
   rw [qd,List.append_assoc,List.set_append_left _ _ (by rw [List.length_set];omega),List.set_set]
  obtain ⟨BM,Vr⟩:∃ BM,BM=B.set m (Ez (mt++[p.type.name]))++J:=⟨_,rfl⟩
  have hBL:BM.length=L:=by rw [Vr,← hL,qd];simp
  have hpt:∀ (J2:List (List V)),fh Tryz.prog ⟨BJ++J2,T⟩ 120 (.mp m) (.d (.str p.type.name)) (.d (.bool true))=some (.undef,⟨BM++J2,T⟩):=fun J2=>by
   rw [abo (by rw [ah (by omega)];exact hmB) hc,jW,Vr,List.append_assoc]
  obtain ⟨k',rfl⟩:∃ k',k=k' + 1:=⟨k - 1,by omega⟩
  have hold:∀ q,q ≠ m→q < N→(BM++[row])[q]? = B[q]?:=fun q h1 h2=>by
   have:=hK.lt
   rw [ah (by rw [Vr,List.length_append,List.length_set];omega),Vr,List.getElem?_append_left (by rw [List.length_set];omega),List.getElem?_set_ne (Ne.symm h1)]
  have af3:=hK.lt
  obtain ⟨d1,d2,d3⟩:=cm
  have qE:=ihk k' (by omega) (mt++[p.type.name]) p.type.name (BM++[row]) T m (by omega) (hK.eC (hold _ d1 (by omega)) (hold _ d2 (by omega)) (hold _ d3 (by omega))) (by
   rw [ah (by omega),Vr,List.getElem?_append_left (by rw [List.length_set];omega),List.getElem?_set_self (by omega)]) ⟨d1,d2,d3⟩
  have NT:uN E.su (ot E.su (k' + 1) (mt++[p.type.name]) p.type.name)≤k' + 1:=by
   obtain ⟨J2,e⟩:=z7 E.su (k' + 1) (mt++[p.type.name]) p.type.name
   rw [e]
   have:=NS E.su (mt++[p.type.name]) J2
   omega
  rw [aD] at qE
  refine af.go 160 ?_
  simp only [W,seval,Sm,ov,e2,hg,mE,au,hL,hBL,h7,Rc,hpt]
  refine ag qE ?_
  rintro v _ rfl
  refine af.go 60 ?_
  simp only [W,seval,Sm,oO]
  refine ih ⟨i+1,ot E.su (k' + 1) (mt++[p.type.name]) p.type.name,J++[row]⟩ ⟨au,h3,NT⟩ (by dsimp only;omega) _ _ ?_ ?_
  ·skip
   refine ay.env _ ?_
   simp only [cD,seval]
  ·rw [← aD,Vr,List.append_assoc,List.set_append_left _ _ (by rw [List.length_set];omega),List.set_set]
end
def vg:=by
 have c:=aM Tryz.f23 (by conv=>lhs;cbv)
 dsimp only [KK,eN,eG,eH,List.map_cons,List.map_nil,List.toList_toArray] at c
 exact c
theorem b23:bI Tryz.prog 23 Tryz.f23 96:=⟨Tryz.func23,by kernel_rfl⟩
def c67:=by
 have c:=aM Tryz.f67 (by conv=>lhs;cbv)
 dsimp only [KK,eN,eG,eH,List.map_cons,List.map_nil,List.toList_toArray] at c
 exact c
theorem b67:bI Tryz.prog 67 Tryz.f67 9:=⟨Tryz.func67,by kernel_rfl⟩
def Zf:=by
 have c:=aM Tryz.f69 (by conv=>lhs;cbv)
 dsimp only [KK,eN,eG,eH,List.map_cons,List.map_nil,List.toList_toArray] at c
 exact c
theorem b69:bI Tryz.prog 69 Tryz.f69 16:=⟨Tryz.func69,by kernel_rfl⟩
def c71:=by
 have c:=aM Tryz.f71 (by conv=>lhs;cbv)
 dsimp only [KK,eN,eG,eH,List.map_cons,List.map_nil,List.toList_toArray] at c
 exact c
theorem b71:bI Tryz.prog 71 Tryz.f71 8:=⟨Tryz.func71,by kernel_rfl⟩
section
variable {E:bP} {c s f:Nat} {xx yy:V} {B:List (List V)} {T:List (Nat × Nat)}
theorem KJ (h:yX B c s f xx yy E) {N:Nat} (hN:B[N]? = some [.ptr c 0]) {p:bH} (hp:TW p.type):aF Tryz.prog av 67 [Cd p,.ptr N 0] ⟨B,T⟩ (aB (.d (.bool (!bQ E.su p.type))) ⟨B,T⟩):=by
 obtain ⟨L,hn⟩:∃ L,B.length=L:=⟨_,rfl⟩
 have OM:N < L:=by rw [← hn];exact (List.getElem?_eq_some_iff.1 hN).1
 have jW:=fun J=>tX (T:=T) hp (h.more J)
 unfold aY at jW
 unfold Cd
 refine b67.go 60 rfl fun _=>?_
 simp only [W,seval,c67,hn,hN,OM]
 refine ag (jW _) ?_
 rintro _ _ ⟨rfl,rfl⟩
 refine af.go 60 ?_
 simp only [W,seval,c67]
 refine af.ret Tryz.func67 rfl (Left.box ?_)
 exact ⟨rfl,rfl⟩
theorem KL (h:yX B c s f xx yy E) {N:Nat} (hN:B[N]? = some [.ptr c 0]) {t:aA} (hp:TW t):aF Tryz.prog av 71 [aY t,.ptr N 0] ⟨B,T⟩ (aB (.d (.bool (!bQ E.su t))) ⟨B,T⟩):=by
 obtain ⟨L,hn⟩:∃ L,B.length=L:=⟨_,rfl⟩
 have OM:N < L:=by rw [← hn];exact (List.getElem?_eq_some_iff.1 hN).1
 have jW:=fun J=>tX (T:=T) hp (h.more J)
 unfold aY at jW ⊢
 refine b71.go 60 rfl fun _=>?_
 simp only [W,seval,c71,hn,hN,OM]
 refine ag (jW _) ?_
 rintro _ _ ⟨rfl,rfl⟩
 refine af.go 60 ?_
 simp only [W,seval,c71]
 refine af.ret Tryz.func71 rfl (Left.box ?_)
 exact ⟨rfl,rfl⟩
theorem KM (h:yX B c s f xx yy E) {N:Nat} (hN:B[N]? = some [.ptr c 0]) {p:bH} (hp:TW p.type):aF Tryz.prog av 69 [Cd p,.ptr N 0] ⟨B,T⟩ (aB (.d (.bool (!(bQ E.su p.type && fq E.su E.fu p.name)))) ⟨B,T⟩):=by
 obtain ⟨L,hn⟩:∃ L,B.length=L:=⟨_,rfl⟩
 have OM:N < L:=by rw [← hn];exact (List.getElem?_eq_some_iff.1 hN).1
 have jW:=fun J=>tX (T:=T) hp (h.more J)
 have oV:=fun J=>BF (T:=T) p.name (h.more J)
 unfold aY at jW
 unfold Cd
 refine b69.go 60 rfl fun _=>?_
 simp only [W,seval,Zf,hn,hN,OM]
 refine ag (jW _) ?_
 rintro _ _ ⟨rfl,rfl⟩
 cases hs:bQ E.su p.type
 ·refine af.go 60 ?_
  simp only [W,seval,Zf,hn,hN,OM,Bool.not_false]
  refine af.ret Tryz.func69 rfl (Left.box ?_)
  exact ⟨rfl,rfl⟩
 ·refine af.go 60 ?_
  simp only [W,seval,Zf,hn,hN,OM,Bool.not_true]
  refine ag (oV _) ?_
  rintro _ _ ⟨rfl,rfl⟩
  refine af.go 60 ?_
  simp only [W,seval,Zf]
  refine af.ret Tryz.func69 rfl (Left.box ?_)
  exact ⟨rfl,rfl⟩
theorem NU {l:List cG} {x:cG} (h:eW cG.name l x.name=none):AG (l.map cG.name) (l.map yL) x.name (yL x)=oh (l++[x]):=by
 unfold AG oh
 rw [qb _ _ _ h]
 simp
theorem NV {l:List cn} {x:cn} (h:eW cn.name l x.name=none):AG (l.map cn.name) (l.map yM) x.name (yM x)=om (l++[x]):=by
 unfold AG om
 rw [qb _ _ _ h]
 simp
theorem BH {α:Type} (nm:α→List UInt8) (n:List UInt8):∀ l:List α,(eW nm l n).isNone = !(l.map nm).contains n
 | []=>rfl
 | x :: l=>by
  rw [eW]
  by_cases h:nm x=n
  ·rw [if_pos h];simp [h]
  ·rw [if_neg h,BH nm n l]
   simp [Ne.symm h]
theorem z8 (su:List cG) (fu:List cn) (n:List UInt8):fq su fu n=(!(su.map cG.name++fu.map cn.name).contains n && !(n == [95])):=by
 unfold fq
 rw [BH,BH]
 congr 1
 simp
def lpN (su:List cG) (n:List UInt8):Bool:=(ot su ((sW su).length+1) [] n).contains n
def Aa (su:List cG) (s:cG):Bool:=!lpN su s.name && s.fields.all fun p=>bQ su p.type
def lG (su:List cG) (fu:List cn):Bool:=gN [] (su.map cG.name++fu.map cn.name) && (su.all (Aa su) && fu.all (lF su fu))
structure Rd where
 i:Nat
 J:List (List V)
def heG (r:Bool) (su:List cG) (fu:List cn) (s f:Nat) (B:List (List V)) (T:List (Nat × Nat)) (v:V) (S':Mem):Prop :=
 v = .d (.bool r)∧∃ BI BK,S' = ⟨(B.set s (oh BI)).set f (om BK),T⟩∧(r=true→BI=su∧BK=fu)
theorem Re (l:List cG) (n m:Nat):(oh l).all (fit n m)=true:=by
 unfold oh
 simp only [List.all_cons,List.all_nil,Bool.and_true]
 show jn n m _=true
 rw [dS]
 intro j hj
 simp [yL,fit,jn]
theorem Rf (l:List cn) (n m:Nat):(om l).all (fit n m)=true:=by
 unfold om
 simp only [List.all_cons,List.all_nil,Bool.and_true]
 show jn n m _=true
 rw [dS]
 intro j hj
 simp [yM,fit,jn]
theorem Ac:∀ (a b l:List (List UInt8)),gN b (a++l)=(gN b a && gN (b++a) l)
 | [],b,l=>by simp [gN]
 | x :: a,b,l=>by
  rw [List.cons_append,jG,jG,Ac a (b++[x]) l,List.append_assoc]
  simp [Bool.and_assoc]
set_option maxHeartbeats 8000000 in
theorem NW {su:List cG} {fu:List cn} (hT:og su fu) (h:yX B c s f xx yy ⟨[],[],[]⟩) (cm:c ≠ s∧c ≠ f∧s ≠ f):aF Tryz.prog av 23 [.ptr c 0,ju ⟨su,fu⟩] ⟨B,T⟩ (heG (lG su fu) su fu s f B T):=by
 obtain ⟨N,hn⟩:∃ N,B.length=N:=⟨_,rfl⟩
 obtain ⟨n1,n2,n3⟩:=h.lt
 obtain ⟨d1,d2,d4⟩:=cm
 have m8:=hT.su
 have vo:=hT.fu
 unfold ju
 generalize bR:lG su fu=r
 unfold lG at bR
 have xI:∀ (J:List (List V)) (v:V) (BI:List cG) (BK:List cn),wk B.length T.length v=v→v = .d (.bool r)→(r=true→BI=su∧BK=fu)→Go.Ab.Left ⟨B,T⟩ (heG r su fu s f B T) v ⟨(B.set s (oh BI)).set f (om BK)++J,T⟩:=fun J v BI BK hw hv hr=>by
  have:=Left.of (B:=B) (J:=J) (T:=T) (K:=[]) (L:=(B.set s (oh BI)).set f (om BK)) (R:=heG r su fu s f B T) (v:=v) (by simp) rfl (((qU.refl _ _ _).set s (Re _ _ _)).set f (Rf _ _ _)) (by rw [hw];exact ⟨hv,BI,BK,rfl,hr⟩)
  rwa [List.append_nil] at this
 have SE:(B.set s (oh [])).set f (om [])=B:=by
  rw [pq _ _ _ h.s,pq _ _ _ h.f]
 have hK:∀ (BI:List cG) (BK:List cn) (J:List (List V)),yX ((B.set s (oh BI)).set f (om BK)++J) c s f xx yy ⟨BI,BK,[]⟩:=fun BI BK J=>by
  refine yX.more ⟨?_,?_,?_⟩ J
  ·rw [List.getElem?_set_ne (Ne.symm d2),List.getElem?_set_ne (Ne.symm d1)];exact h.c
  ·rw [List.getElem?_set_ne (Ne.symm d4),List.getElem?_set_self n2]
  ·rw [List.getElem?_set_self (by rw [List.length_set];exact n3)]
 refine b23.go 160 rfl fun bk=>?_
 simp only [dP] at bk
 simp only [W,seval,vg,hn]
 obtain ⟨jU,IE⟩:∃ jU,jU=[V.d (.sl (su.map ef)),V.d (.sl (fu.map cT))]:=⟨_,rfl⟩
 obtain ⟨dn,hdn⟩:∃ dn,gN [] (su.map cG.name++fu.map cn.name)=dn:=⟨_,rfl⟩
 rw [hdn] at bR
 have BG:∀ (BI:List cG) (BK:List cn) (J:List (List V)),((B.set s (oh BI)).set f (om BK)++([.ptr c 0] :: jU :: J))[N]? = some [.ptr c 0]∧((B.set s (oh BI)).set f (om BK)++([.ptr c 0] :: jU :: J))[N+1]? = some jU:=fun BI BK J=>by
  constructor
  ·rw [List.getElem?_append_right (by simp;omega)];simp [hn]
  ·rw [List.getElem?_append_right (by simp;omega)];simp [hn]
 refine af.cV (fun a:Rd=>(aR 96 [(17,.d (.int .i64 (a.i:Int))),(16,.d (.int .i64 (su.length:Int))),(15,.d (.sl (su.map ef))),(3,.ptr (N+1) 0),(2,.ptr N 0)],⟨(B.set s (oh (su.take a.i))).set f (om [])++([.ptr c 0] :: jU :: a.J),T⟩)) (fun a=>a.i≤su.length∧gN ((su.take a.i).map cG.name) ((su.drop a.i).map cG.name++fu.map cn.name)=dn) (fun a=>su.length - a.i) ⟨0,[]⟩ ⟨Nat.zero_le _,hdn⟩ ?_ (by rw [IE];simp only [List.take_zero,SE]) ?_
 ·skip
  refine ay.env _ ?_
  simp only [cD,seval]
 rintro ⟨i,J⟩ ⟨h2,h3⟩ ih
 dsimp only at h2 h3 ih ⊢
 by_cases au:i < su.length
 case pos =>
  have e2:decide ((i:Int) < (su.length:Int))=true:=decide_eq_true (by omega)
  have oO:=az ((i:Int)+1) (by omega)
  have mE:(i:Int) < (su.length:Int):=by omega
  obtain ⟨x,hx⟩:∃ x,su[i]=x:=⟨_,rfl⟩
  have hg:(su.map ef)[i]? = some [.str x.name,.sl (x.fields.map gf)]:=by rw [List.getElem?_map,List.getElem?_eq_getElem au,hx];rfl
  obtain ⟨row,aD⟩:∃ row,row=[V.d (.str x.name),V.d (.sl (x.fields.map gf))]:=⟨_,rfl⟩
  obtain ⟨h4,h5⟩:=BG (su.take i) [] J
  have hk:=hK (su.take i) [] ([.ptr c 0] :: jU :: J)
  have ry:∀ y,(((B.set s (oh (su.take i))).set f (om [])++([.ptr c 0] :: jU :: J))++[row]).set s (oh y)=(B.set s (oh y)).set f (om [])++([.ptr c 0] :: jU :: (J++[row])):=fun y=>by
   rw [List.append_assoc,List.set_append_left _ _ (by simp;omega),List.set_comm _ _ (Ne.symm d4),List.set_set]
   rfl
  obtain ⟨BJ,qd⟩:∃ BJ,BJ=(B.set s (oh (su.take i))).set f (om [])++([.ptr c 0] :: jU :: J):=⟨_,rfl⟩
  rw [← qd] at h4 h5 hk ry ⊢
  obtain ⟨L,hL⟩:∃ L,BJ.length=L:=⟨_,rfl⟩
  have Rg:N < L:=by rw [← hL];exact (List.getElem?_eq_some_iff.1 h4).1
  have oV:=BF (T:=T) x.name (hk.more [row])
  rw [List.drop_eq_getElem_cons au,hx,List.map_cons,List.cons_append,jG] at h3
  have UO:=z8 (su.take i) [] x.name
  rw [List.map_nil,List.append_nil] at UO
  rw [← UO] at h3
  dsimp only at oV
  rw [aD] at oV
  refine af.go 160 ?_
  simp only [W,seval,vg,e2,hg,mE,au,hL,h4,Rg]
  refine ag oV ?_
  rintro _ _ ⟨rfl,rfl⟩
  cases NX:fq (su.take i) [] x.name
  ·rw [NX,Bool.false_and] at h3
   rw [← h3,Bool.false_and] at bR
   subst bR
   refine af.go 60 ?_
   simp only [W,seval,vg]
   rw [qd,List.append_assoc]
   refine af.ret Tryz.func23 rfl (xI _ _ _ _ rfl rfl (fun h=>by cases h))
  ·rw [NX,Bool.true_and] at h3
   have XL:eW cG.name (su.take i) x.name=none:=by
    unfold fq at NX
    simp only [Bool.and_eq_true] at NX
    simpa using NX.1.1
   have Xy:=hk.c
   have hcL:c < L:=by rw [← hL];exact hk.lt.1
   have Ie:=(hk.more [row]).s
   have kS:fh Tryz.prog ⟨BJ++[row],T⟩ 60 (.mp s) (.d (.str x.name)) (.agg [V.d (.str x.name),V.d (.sl (x.fields.map gf))])=some (.undef,⟨(B.set s (oh (su.take (i+1)))).set f (om [])++([.ptr c 0] :: jU :: (J++[row])),T⟩):=by
    unfold fh
    unfold oh at Ie
    simp only [Np,Ie]
    rw [List.take_succ_eq_append_getElem au,hx,← ry,← NU (l:=su.take i) (x:=x) XL]
    rfl
   rw [aD] at kS
   refine af.go 60 ?_
   simp only [W,seval,vg]
   refine af.bE 7 [] [N,c,L] (by kernel_rfl) (by kernel_rfl) (by kernel_rfl) (by kernel_rfl) (by kernel_rfl) (by kernel_rfl) (by kernel_rfl) ?_
   simp (maxSteps:=4000000) only [W,seval,vg,xw,ov,hL,h4,Rg,Xy,hcL,kS]
   refine af.go 60 ?_
   simp only [W,seval,vg,oO]
   refine ih ⟨i+1,J++[row]⟩ ⟨au,?_⟩ (by dsimp only;omega) _ _ ?_ (by rw [aD])
   ·show gN ((su.take (i+1)).map cG.name) ((su.drop (i+1)).map cG.name++fu.map cn.name)=dn
    rw [List.take_succ_eq_append_getElem au,hx,List.map_append]
    exact h3
   ·skip
    refine ay.env _ ?_
    simp only [cD,seval]
 have e2:decide ((i:Int) < (su.length:Int))=false:=decide_eq_false (by omega)
 obtain rfl:i=su.length:=by omega
 rw [List.take_length,List.drop_eq_nil_of_le (Nat.le_refl _),List.map_nil,List.nil_append] at h3
 rw [List.take_length]
 clear ih h2
 obtain ⟨h4,h5⟩:=BG su [] J
 obtain ⟨BJ,qd⟩:∃ BJ,BJ=(B.set s (oh su)).set f (om [])++([.ptr c 0] :: jU :: J):=⟨_,rfl⟩
 rw [← qd] at h4 h5 ⊢
 rw [IE] at h5
 refine af.go 160 ?_
 simp only [W,seval,vg,e2,h5]
 clear h4 h5
 refine af.cV (fun a:Rd=>(aR 96 [(37,.d (.int .i64 (a.i:Int))),(36,.d (.int .i64 (fu.length:Int))),(35,.d (.sl (fu.map cT))),(3,.ptr (N+1) 0),(2,.ptr N 0)],⟨(B.set s (oh su)).set f (om (fu.take a.i))++([.ptr c 0] :: jU :: a.J),T⟩)) (fun a=>a.i≤fu.length∧gN (su.map cG.name++(fu.take a.i).map cn.name) ((fu.drop a.i).map cn.name)=dn) (fun a=>fu.length - a.i) ⟨0,J⟩ ⟨Nat.zero_le _,by simpa using h3⟩ ?_ (by rw [qd];simp only [List.take_zero]) ?_
 ·skip
  refine ay.env _ ?_
  simp only [cD,seval]
 clear h3 qd BJ J
 rintro ⟨i,J⟩ ⟨h2,h3⟩ ih
 dsimp only at h2 h3 ih ⊢
 by_cases au:i < fu.length
 case pos =>
  have e2:decide ((i:Int) < (fu.length:Int))=true:=decide_eq_true (by omega)
  have oO:=az ((i:Int)+1) (by omega)
  have mE:(i:Int) < (fu.length:Int):=by omega
  obtain ⟨x,hx⟩:∃ x,fu[i]=x:=⟨_,rfl⟩
  have hg:(fu.map cT)[i]? = some [.str x.name,.sl (x.params.map gf),.sl (x.results.map dR),.sl (x.body.map dZ)]:=by rw [List.getElem?_map,List.getElem?_eq_getElem au,hx];rfl
  obtain ⟨row,aD⟩:∃ row,row=[V.d (.str x.name),V.d (.sl (x.params.map gf)),V.d (.sl (x.results.map dR)),V.d (.sl (x.body.map dZ))]:=⟨_,rfl⟩
  obtain ⟨h4,h5⟩:=BG su (fu.take i) J
  have hk:=hK su (fu.take i) ([.ptr c 0] :: jU :: J)
  have ry:∀ y,(((B.set s (oh su)).set f (om (fu.take i))++([.ptr c 0] :: jU :: J))++[row]).set f (om y)=(B.set s (oh su)).set f (om y)++([.ptr c 0] :: jU :: (J++[row])):=fun y=>by
   rw [List.append_assoc,List.set_append_left _ _ (by simp;omega),List.set_set]
   rfl
  obtain ⟨BJ,qd⟩:∃ BJ,BJ=(B.set s (oh su)).set f (om (fu.take i))++([.ptr c 0] :: jU :: J):=⟨_,rfl⟩
  rw [← qd] at h4 h5 hk ry ⊢
  obtain ⟨L,hL⟩:∃ L,BJ.length=L:=⟨_,rfl⟩
  have Rg:N < L:=by rw [← hL];exact (List.getElem?_eq_some_iff.1 h4).1
  have oV:=BF (T:=T) x.name (hk.more [row])
  rw [List.drop_eq_getElem_cons au,hx,List.map_cons,jG] at h3
  have UO:=z8 su (fu.take i) x.name
  rw [← UO] at h3
  dsimp only at oV
  rw [aD] at oV
  refine af.go 160 ?_
  simp only [W,seval,vg,e2,hg,mE,au,hL,h4,Rg]
  refine ag oV ?_
  rintro _ _ ⟨rfl,rfl⟩
  cases NX:fq su (fu.take i) x.name
  ·rw [NX,Bool.false_and] at h3
   rw [← h3,Bool.false_and] at bR
   subst bR
   refine af.go 60 ?_
   simp only [W,seval,vg]
   rw [qd,List.append_assoc]
   refine af.ret Tryz.func23 rfl (xI _ _ _ _ rfl rfl (fun h=>by cases h))
  ·rw [NX,Bool.true_and] at h3
   have XL:eW cn.name (fu.take i) x.name=none:=by
    unfold fq at NX
    simp only [Bool.and_eq_true] at NX
    simpa using NX.1.2
   have Xy:=hk.c
   have hcL:c < L:=by rw [← hL];exact hk.lt.1
   have Ie:=(hk.more [row]).f
   have kS:fh Tryz.prog ⟨BJ++[row],T⟩ 61 (.mp f) (.d (.str x.name)) (.agg row)=some (.undef,⟨(B.set s (oh su)).set f (om (fu.take (i+1)))++([.ptr c 0] :: jU :: (J++[row])),T⟩):=by
    unfold fh
    unfold om at Ie
    simp only [Nq,Ie]
    rw [List.take_succ_eq_append_getElem au,hx,← ry,← NV (l:=fu.take i) (x:=x) XL,aD]
    rfl
   rw [aD] at kS
   refine af.go 60 ?_
   simp only [W,seval,vg]
   refine af.bE 7 [] [N,c,L] (by kernel_rfl) (by kernel_rfl) (by kernel_rfl) (by kernel_rfl) (by kernel_rfl) (by kernel_rfl) (by kernel_rfl) ?_
   simp (maxSteps:=4000000) only [W,seval,vg,xw,ov,hL,h4,Rg,Xy,hcL,kS]
   refine af.go 60 ?_
   simp only [W,seval,vg,oO]
   refine ih ⟨i+1,J++[row]⟩ ⟨au,?_⟩ (by dsimp only;omega) _ _ ?_ (by rw [aD])
   ·show gN (su.map cG.name++(fu.take (i+1)).map cn.name) ((fu.drop (i+1)).map cn.name)=dn
    rw [List.take_succ_eq_append_getElem au,hx,List.map_append,← List.append_assoc]
    exact h3
   ·skip
    refine ay.env _ ?_
    simp only [cD,seval]
 have e2:decide ((i:Int) < (fu.length:Int))=false:=decide_eq_false (by omega)
 obtain rfl:i=fu.length:=by omega
 rw [List.drop_eq_nil_of_le (Nat.le_refl _),List.map_nil,zZ] at h3
 rw [List.take_length]
 clear ih h2
 rw [← h3,Bool.true_and] at bR
 clear h3 hdn dn
 obtain ⟨h4,h5⟩:=BG su fu J
 obtain ⟨BJ,qd⟩:∃ BJ,BJ=(B.set s (oh su)).set f (om fu)++([.ptr c 0] :: jU :: J):=⟨_,rfl⟩
 rw [← qd] at h4 h5 ⊢
 rw [IE] at h5
 refine af.go 160 ?_
 simp only [W,seval,vg,e2,h5]
 clear h4 h5
 refine af.cV (fun a:Rd=>(aR 96 [(57,.d (.int .i64 (a.i:Int))),(56,.d (.int .i64 (su.length:Int))),(55,.d (.sl (su.map ef))),(3,.ptr (N+1) 0),(2,.ptr N 0)],⟨(B.set s (oh su)).set f (om fu)++([.ptr c 0] :: jU :: a.J),T⟩)) (fun a=>a.i≤su.length∧((su.drop a.i).all (Aa su) && fu.all (lF su fu))=r) (fun a=>su.length - a.i) ⟨0,J⟩ ⟨Nat.zero_le _,by simpa using bR⟩ ?_ (by rw [qd]) ?_
 ·skip
  refine ay.env _ ?_
  simp only [cD,seval]
 clear qd BJ J bR e2
 rintro ⟨i,J⟩ ⟨h2,h3⟩ ih
 dsimp only at h2 h3 ih ⊢
 by_cases au:i < su.length
 case pos =>
  have e2:decide ((i:Int) < (su.length:Int))=true:=decide_eq_true (by omega)
  have oO:=az ((i:Int)+1) (by omega)
  have mE:(i:Int) < (su.length:Int):=by omega
  obtain ⟨x,hx⟩:∃ x,su[i]=x:=⟨_,rfl⟩
  obtain ⟨XM,XN⟩:=hT.fl su[i] (List.getElem_mem au)
  rw [hx] at XM XN
  have hg:(su.map ef)[i]? = some [.str x.name,.sl (x.fields.map gf)]:=by rw [List.getElem?_map,List.getElem?_eq_getElem au,hx];rfl
  obtain ⟨row,aD⟩:∃ row,row=[V.d (.str x.name),V.d (.sl (x.fields.map gf))]:=⟨_,rfl⟩
  obtain ⟨h4,h5⟩:=BG su fu J
  have hk:=hK su fu ([.ptr c 0] :: jU :: J)
  obtain ⟨BJ,qd⟩:∃ BJ,BJ=(B.set s (oh su)).set f (om fu)++([.ptr c 0] :: jU :: J):=⟨_,rfl⟩
  rw [← qd] at h4 h5 hk ⊢
  obtain ⟨L,hL⟩:∃ L,BJ.length=L:=⟨_,rfl⟩
  have Rg:N < L:=by rw [← hL];exact (List.getElem?_eq_some_iff.1 h4).1
  rw [List.drop_eq_getElem_cons au,hx,List.all_cons] at h3
  have af8:=hk.lt
  have qE:=GR (c:=c) (s:=s) (f:=f) (xx:=xx) (yy:=yy) (E:=⟨su,fu,[]⟩) hT (sW su).length [] x.name (BJ++[row,[.oy [] []]]) T (L+1) List.countP_le_length (hk.more _) (by rw [List.getElem?_append_right (by omega),hL];simp [Ez]) ⟨by omega,by omega,by omega⟩
  obtain ⟨M',hM'⟩:∃ M',M' = Ez (ot su ((sW su).length+1) [] x.name):=⟨_,rfl⟩
  dsimp only at qE
  rw [← hM',List.set_append_right _ _ (by omega),show L+1 - BJ.length=1 by omega,List.set_cons_succ,List.set_cons_zero] at qE
  have Rc:cZ Tryz.prog ⟨BJ++[row,M'],T⟩ 120 (.mp (L+1)) (.d (.str x.name)) false=some (.d (.bool (lpN su x.name))):=by
   rw [So (met:=ot su ((sW su).length+1) [] x.name) (by rw [List.getElem?_append_right (by omega),show L+1 - BJ.length=1 by omega,hM'];rfl)]
   rfl
  rw [aD] at qE
  refine af.go 160 ?_
  simp only [W,seval,vg,ov,e2,hg,mE,au,hL,h4,Rg]
  refine ag qE ?_
  rintro v _ rfl
  cases Qc:lpN su x.name
  case true =>
   have hh:Aa su x=false:=by unfold Aa;rw [Qc];rfl
   rw [hh,Bool.false_and,Bool.false_and] at h3
   subst h3
   rw [Qc,aD] at Rc
   refine af.go 160 ?_
   simp only [W,seval,vg,ov,hL,Rc]
   rw [qd,List.append_assoc]
   refine af.ret Tryz.func23 rfl (xI _ _ _ _ rfl rfl (fun h=>by cases h))
  rw [Qc,aD] at Rc
  have Ce:=lz 67 [] [.ptr N 0] (fun _:Unit=>⟨BJ++[row,M'],T⟩) (fun p s=>(!bQ su p.type,s)) (fun _ _=>⟨rfl,rfl⟩) x.fields (by omega) () (lX x.fields fun p hp=>KJ (E:=⟨su,fu,[]⟩) (hk.more [row,M']) (by rw [ah (by omega)];exact h4) (XN p hp))
  rw [jy,aD] at Ce
  have hh:Aa su x = !(x.fields.any fun p=>!bQ su p.type):=by
   unfold Aa
   rw [Qc,List.not_any_eq_all_not]
   simp
  rw [hh] at h3
  refine af.go 160 ?_
  simp only [W,seval,vg,ov,hL,Rc]
  refine ag Ce ?_
  rintro _ _ ⟨rfl,rfl⟩
  cases rS:x.fields.any fun p=>!bQ su p.type
  case true =>
   rw [rS,Bool.not_true,Bool.false_and,Bool.false_and] at h3
   subst h3
   refine af.go 160 ?_
   simp only [W,seval,vg]
   rw [qd,List.append_assoc]
   refine af.ret Tryz.func23 rfl (xI _ _ _ _ rfl rfl (fun h=>by cases h))
  rw [rS,Bool.not_false,Bool.true_and] at h3
  refine af.go 160 ?_
  simp only [W,seval,vg,oO]
  refine ih ⟨i+1,J++[row,M']⟩ ⟨au,h3⟩ (by dsimp only;omega) _ _ ?_ (by rw [qd,aD];simp only [List.append_assoc,List.cons_append])
  refine ay.env _ ?_
  simp only [cD,seval]
 have e2:decide ((i:Int) < (su.length:Int))=false:=decide_eq_false (by omega)
 obtain rfl:i=su.length:=by omega
 rw [List.drop_eq_nil_of_le (Nat.le_refl _),List.all_nil,Bool.true_and] at h3
 clear ih h2
 obtain ⟨h4,h5⟩:=BG su fu J
 obtain ⟨BJ,qd⟩:∃ BJ,BJ=(B.set s (oh su)).set f (om fu)++([.ptr c 0] :: jU :: J):=⟨_,rfl⟩
 rw [← qd] at h4 h5 ⊢
 rw [IE] at h5
 refine af.go 160 ?_
 simp only [W,seval,vg,e2,h5]
 clear h4 h5
 refine af.cV (fun a:Rd=>(aR 96 [(81,.d (.int .i64 (a.i:Int))),(80,.d (.int .i64 (fu.length:Int))),(79,.d (.sl (fu.map cT))),(3,.ptr (N+1) 0),(2,.ptr N 0)],⟨(B.set s (oh su)).set f (om fu)++([.ptr c 0] :: jU :: a.J),T⟩)) (fun a=>a.i≤fu.length∧(fu.drop a.i).all (lF su fu)=r) (fun a=>fu.length - a.i) ⟨0,J⟩ ⟨Nat.zero_le _,by simpa using h3⟩ ?_ (by rw [qd]) ?_
 ·skip
  refine ay.env _ ?_
  simp only [cD,seval]
 clear qd BJ J h3 e2
 rintro ⟨i,J⟩ ⟨h2,h3⟩ ih
 dsimp only at h2 h3 ih ⊢
 by_cases au:i < fu.length
 case neg =>
  have e2:decide ((i:Int) < (fu.length:Int))=false:=decide_eq_false (by omega)
  obtain rfl:i=fu.length:=by omega
  rw [List.drop_eq_nil_of_le (Nat.le_refl _),List.all_nil] at h3
  subst h3
  refine af.go 160 ?_
  simp only [W,seval,vg,e2]
  refine af.ret Tryz.func23 rfl (xI _ _ _ _ rfl rfl (fun _=>⟨rfl,rfl⟩))
 have e2:decide ((i:Int) < (fu.length:Int))=true:=decide_eq_true (by omega)
 have oO:=az ((i:Int)+1) (by omega)
 have mE:(i:Int) < (fu.length:Int):=by omega
 obtain ⟨x,hx⟩:∃ x,fu[i]=x:=⟨_,rfl⟩
 obtain ⟨XM,hxr,XN,hxu⟩:=hT.pa fu[i] (List.getElem_mem au)
 rw [hx] at XM hxr XN hxu
 have hg:(fu.map cT)[i]? = some [.str x.name,.sl (x.params.map gf),.sl (x.results.map dR),.sl (x.body.map dZ)]:=by rw [List.getElem?_map,List.getElem?_eq_getElem au,hx];rfl
 obtain ⟨row,aD⟩:∃ row,row=[V.d (.str x.name),V.d (.sl (x.params.map gf)),V.d (.sl (x.results.map dR)),V.d (.sl (x.body.map dZ))]:=⟨_,rfl⟩
 obtain ⟨h4,h5⟩:=BG su fu J
 have hk:=hK su fu ([.ptr c 0] :: jU :: J)
 obtain ⟨BJ,qd⟩:∃ BJ,BJ=(B.set s (oh su)).set f (om fu)++([.ptr c 0] :: jU :: J):=⟨_,rfl⟩
 rw [← qd] at h4 h5 hk ⊢
 obtain ⟨L,hL⟩:∃ L,BJ.length=L:=⟨_,rfl⟩
 have Rg:N < L:=by rw [← hL];exact (List.getElem?_eq_some_iff.1 h4).1
 rw [List.drop_eq_getElem_cons au,hx,List.all_cons] at h3
 have Ce:=lz 69 [] [.ptr N 0] (fun _:Unit=>⟨BJ++[row],T⟩) (fun p s=>(!(bQ su p.type && fq su fu p.name),s)) (fun _ _=>⟨rfl,rfl⟩) x.params (by omega) () (lX x.params fun p hp=>KM (E:=⟨su,fu,[]⟩) (hk.more [row]) (by rw [ah (by omega)];exact h4) (XN p hp))
 have XO:=lW 71 [] [.ptr N 0] (fun _:Unit=>⟨BJ++[row],T⟩) (fun t s=>(!bQ su t,s)) (fun _ _=>⟨rfl,rfl⟩) x.results (by omega) () (lX x.results fun t ht=>KL (E:=⟨su,fu,[]⟩) (hk.more [row]) (by rw [ah (by omega)];exact h4) (hxu t ht))
 rw [jy,aD] at Ce XO
 have hh:lF su fu x=(!(x.params.any fun p=>!(bQ su p.type && fq su fu p.name)) && !(x.results.any fun t=>!bQ su t)):=by
  unfold lF
  rw [List.not_any_eq_all_not,List.not_any_eq_all_not]
  simp
 rw [hh] at h3
 refine af.go 160 ?_
 simp only [W,seval,vg,e2,hg,mE,au,hL,h4,Rg]
 refine ag Ce ?_
 rintro _ _ ⟨rfl,rfl⟩
 cases rS:x.params.any fun p=>!(bQ su p.type && fq su fu p.name)
 case true =>
  rw [rS,Bool.not_true,Bool.false_and,Bool.false_and] at h3
  subst h3
  refine af.go 160 ?_
  simp only [W,seval,vg,hL]
  rw [qd,List.append_assoc]
  refine af.ret Tryz.func23 rfl (xI _ _ _ _ rfl rfl (fun h=>by cases h))
 rw [rS,Bool.not_false,Bool.true_and] at h3
 refine af.go 160 ?_
 simp only [W,seval,vg,hL]
 refine ag XO ?_
 rintro _ _ ⟨rfl,rfl⟩
 cases Sp:x.results.any fun t=>!bQ su t
 case true =>
  rw [Sp,Bool.not_true,Bool.false_and] at h3
  subst h3
  refine af.go 160 ?_
  simp only [W,seval,vg,hL]
  rw [qd,List.append_assoc]
  refine af.ret Tryz.func23 rfl (xI _ _ _ _ rfl rfl (fun h=>by cases h))
 rw [Sp,Bool.not_false,Bool.true_and] at h3
 refine af.go 160 ?_
 simp only [W,seval,vg,hL,oO]
 refine ih ⟨i+1,J++[row]⟩ ⟨au,h3⟩ (by dsimp only;omega) _ _ ?_ (by rw [qd,aD];simp only [List.append_assoc,List.cons_append])
 refine ay.env _ ?_
 simp only [cD,seval]
end
end Go.Proofs.YtnfnbjjnjjdjdaaGreatDoor
namespace Go.Ab
open Go.RowKit Go.Av
set_option linter.unusedSimpArgs false
inductive Deep (n:Nat) (B:List (List V)):V→D→Prop
 | d (x:D):Deep n B (.d x) x
 | full (rows:List (List D)):Deep n B (.sl rows .full) (.sl rows)
 | bx (j cap sz:Nat) (Y:List V) (rows:List (List D)):n≤j→B[j]? = some Y→OQ Y→0 < sz→(∀ r∈rows,r.length=sz)→rows.length * sz≤Y.length →
  (∀ i (h:i < rows.length) q (_:q < (rows[i]).length) v,Y[i * sz+q]? = some v→Deep n B v (rows[i])[q])→Deep n B (.bx j rows.length cap) (.sl rows)
theorem dz.notM {c:Cx} {w:World} {S:Mem} (h5:dz c w S) {n m j b0:Nat} (hj:n≤j) (jc:c.ρ[j]? = some b0):∀ q,¬ (c.cut n m).M b0 q:=by
 rintro q ((hm | hm) | ⟨t,i,off,ht,ha,e1,e2⟩)
 ·have e1:=(c.hX _ _ hm).2
  obtain ⟨e3,_⟩:=h5.box _ _ jc
  omega
 ·obtain ⟨k,hk⟩:=jj.1 hm
  have EZ:(c.ρ.take n)[k]? = some b0:=hk
  rw [List.getElem?_take] at EZ
  split at EZ
  case isFalse=>cases EZ
  have:=h5.inj _ _ _ EZ jc
  omega
 ·have gR:(c.τ.take m)[t]? = some i:=ht
  rw [List.getElem?_take] at gR
  split at gR
  case isFalse=>cases gR
  obtain ⟨a1,a2,a3,a4,a5⟩:=h5.tok t i gR
  have au:i.n < i.cap:=by
   rcases Nat.lt_or_ge i.n i.cap with h' | h'
   ·exact h'
   ·have:=Nat.mul_le_mul_right i.sz h'
    omega
  exact (a5 au b0 off ha).2.1 (jj.2 ⟨_,jc⟩)
theorem Deep.dr {c:Cx} {w:World} {S:Mem} (h5:dz c w S) {n m:Nat} {v:V} {x:D} (h:Deep n S.boxes v x):∀ {y:Value},VR c w v y→DR (c.cut n m).M w x y:=by
 induction h with
 | d x =>
  intro y hv
  cases hv with
  | d _ _ h=>exact h.cut _ _
 | full rows=>exact fun hv=>(fU hv rfl).cut _ _
 | bx j cap sz Y rows hj hB AM h0 hr hl hd ih =>
  intro y hv
  cases hv with
  | bx _ _ _ b0 jc hn hm hT =>
   obtain ⟨cs,Ty,hh,dJ,qw⟩:=h5.rL jc (h5.Aw jc hB AM) hB
   have UR:=h5.notM (m:=m) hj jc
   have pos:∀ i (h:i < rows.length) q (hq:q < (rows[i]).length),i * sz+q < Y.length:=fun i h q hq=>by
    have e:=hr _ (List.getElem_mem h)
    have:=Nat.mul_le_mul_right sz (show i+1≤rows.length by omega)
    rw [Nat.add_mul] at this
    omega
   refine .sl rows sz _ cap (fun i q=>cs.getD (i * sz+q) undef) h0 hr hn hm (fun _=>⟨b0,0,rfl,fun i hi q hq=>⟨UR _,?_⟩⟩) (fun i hi q hq=>?_)
   ·rw [Nat.zero_add]
    exact (qw _ (pos i hi q hq)).1
   ·exact ih i hi q hq _ (List.getElem?_eq_getElem (pos i hi q hq)) (qw _ (pos i hi q hq)).2.1
theorem aF.XP {P:Program} {I:Inv} {f:FuncId} {args:List V} {S:Mem} {R:V→Mem→Prop}
 (h:aF P I f args S fun v S'=>∃ L J T K v1 v2 d1 d2 y,S' = ⟨L++J,T++K⟩∧L.length=S.boxes.length∧T.length=S.aL.length∧AL S.boxes.length S.aL.length S.boxes L∧v = .bY [.agg [v1,v2],.d y]∧Deep S.boxes.length (L++J) v1 d1∧Deep S.boxes.length (L++J) v2 d2∧R (.bY [.agg [.d d1,.d d2],.d y]) ⟨L,T⟩):aF P I f args S R:=by
 refine ⟨h.1,fun c w xs h1 h2 h3 hI cs=>?_⟩
 obtain ⟨e,w',fr,⟨v,x,S',c',a1,⟨L,J,T,K,v1,v2,d1,d2,y,rfl,b2,b3,b4,rfl,g1,g2,b5⟩,a3,a4,a5⟩,h⟩:=h.2 c w xs h1 h2 h3 hI cs
 obtain ⟨r1,r2,r3⟩:=forget h3 a4 a3 a5 b2 b3 b4
 refine ⟨e,w',fr,⟨_,x,_,_,a1,b5,r1,r2,?_⟩,h⟩
 cases a5 with
 | bY vs cs q1 q2 =>
  refine .bY _ cs q1 fun j hj=>?_
  have hq:=q2 j hj
  match j,hj with
  | 0,hj =>
   have hq:VR c' w' (.agg [v1,v2]) (cs.getD 0 undef):=hq
   show VR _ _ (.agg [.d d1,.d d2]) (cs.getD 0 undef)
   generalize cs.getD 0 undef=X at hq
   cases hq with
   | agg vs cs p1 p2 p3 =>
    refine .agg _ cs p1 (fun j hj=>?_) p3
    match j,hj with
    | 0,hj=>exact .d _ _ (g1.dr a3 (p2 0 hj))
    | 1,hj=>exact .d _ _ (g2.dr a3 (p2 1 hj))
  | 1,hj =>
   have hq:VR c' w' (.d y) (cs.getD 1 undef):=hq
   show VR _ _ (.d y) (cs.getD 1 undef)
   exact (hq.cut _ _)
end Go.Ab
namespace Go.Proofs.YtnfnbjjnjjdjdaaGreatDoor
open Go.RowKit Go.Av Go.Ab
set_option linter.unusedSimpArgs false
theorem lg.deep {α:Type} {sz n lo hi:Nat} {f:α→Nat→Nat→List V→Prop} {g:α→List D} {l:List α} {B:List (List V)} {v:V} (dJ:2≤sz) (h:lg (bV sz f l) l.length B lo hi v) (hn:n≤lo) (hg:∀ x∈l,(g x).length=sz)
 (hf:∀ x∈l,∀ a b r,n≤a→f x a b r→∀ q (hq:q < (g x).length) u,r[q]? = some u→Deep n B u (g x)[q]):Deep n B v (.sl (l.map g)):=by
 rcases h with ⟨h0,rfl,_⟩ | ⟨h0,j,cap,Y,rfl,h1,h2,h3,h4⟩
 ·obtain rfl:=List.eq_nil_of_length_eq_zero h0
  exact .d _
 have hl:=h4.len
 have:=Deep.bx (n:=n) (B:=B) j cap sz Y (l.map g) (by omega) h3 (fun ks us he=>by
  rw [he] at hl
  have:=Nat.mul_le_mul_right sz (show 1≤l.length by omega)
  simp at hl
  omega) (by omega) (fun r hr=>by obtain ⟨x,hx,rfl⟩:=List.mem_map.1 hr;exact hg x hx) (by rw [List.length_map];exact hl) (fun i hi q hq u hu=>?_)
 ·rwa [List.length_map] at this
 rw [List.length_map] at hi
 obtain ⟨A,r,C,eL,dK,e1,e2,e3,e4,e5,e6,e7,_⟩:=h4.at i l[i] (List.getElem?_eq_getElem hi)
 have Ar:q < (g l[i]).length:=by simpa using hq
 have hqs:q < sz:=by rw [hg _ (List.getElem_mem hi)] at Ar;exact Ar
 have hr:r[q]? = some u:=by
  rw [e1,List.append_assoc,List.getElem?_append_right (by omega),e2,Nat.add_sub_cancel_left,List.getElem?_append_left (by omega)] at hu
  exact hu
 have:=hf l[i] (List.getElem_mem hi) eL dK r (by omega) e7 q Ar u hr
 simpa using this
mutual
theorem iV.deep {n:Nat} {B:List (List V)}:∀ (x:aj) {lo hi:Nat} {r:List V},n≤lo→iV B x lo hi r→∀ q (hq:q < (fO x).length) u,r[q]? = some u→Deep n B u (fO x)[q]
 | .mk k t i ty ns ks,lo,hi,r,hn,h=>by
  unfold iV at h
  obtain ⟨kv,rfl,hk⟩:=h
  rw [BE] at hk
  have hd:Deep n B kv (.sl (ks.map fO)):=lg.deep (g:=fO) (by omega) hk hn (fun x _=>by rw [cQ];rfl) fun x hx a b r ha hf=>iV.nZ ks x hx ha hf
  rw [cQ]
  intro q hq u hu
  have hq8:q < 8:=hq
  rcases q with _ | _ | _ | _ | _ | _ | _ | _ | q
  all_goals first
   | omega
   | (simp only [aV,List.getElem?_cons_zero,List.getElem?_cons_succ,Option.some.injEq] at hu
      subst hu
      first
       | exact .d _
       | exact hd)
theorem iV.nZ {n:Nat} {B:List (List V)}:∀ (l:List aj) (x:aj),x∈l→∀ {lo hi:Nat} {r:List V},n≤lo→iV B x lo hi r→∀ q (hq:q < (fO x).length) u,r[q]? = some u→Deep n B u (fO x)[q]
 | y :: l,x,hx,lo,hi,r,hn,h=>by
  rcases List.mem_cons.1 hx with e | hx
  ·rw [e] at h ⊢
   exact iV.deep y hn h
  ·exact iV.nZ l x hx hn h
end
theorem fX.deep {n lo hi:Nat} {B:List (List V)} {l:List aj} {v:V} (h:fX B l lo hi v) (hn:n≤lo):Deep n B v (.sl (l.map fO)):=by
 unfold fX at h
 rw [BE] at h
 exact lg.deep (g:=fO) (by omega) h hn (fun x _=>by rw [cQ];rfl) fun x hx a b r ha hf=>iV.nZ l x hx ha hf
mutual
theorem iJ.deep {n:Nat} {B:List (List V)}:∀ (x:aH) {lo hi:Nat} {r:List V},n≤lo→iJ B x lo hi r→∀ q (hq:q < (dZ x).length) u,r[q]? = some u→Deep n B u (dZ x)[q]
 | .mk k ns ty ls es b e cs,lo,hi,r,hn,h=>by
  unfold iJ at h
  obtain ⟨v1,v2,v3,v4,v5,m1,m2,m3,m4,rfl,o1,o2,o3,o4,o5⟩:=h
  have l1:=o1.le
  have l2:=o2.le
  have l3:=o3.le
  have l4:=o4.le
  rw [sV] at o3 o4
  rw [Ex] at o5
  have h1:=o1.deep hn
  have h2:=o2.deep (n:=n) (by omega)
  have h3:Deep n B v3 (.sl (b.map dZ)):=lg.deep (g:=dZ) (by omega) o3 (by omega) (fun x _=>by rw [cX];rfl) fun x hx a z r ha hf=>iJ.nZ b x hx ha hf
  have h4:Deep n B v4 (.sl (e.map dZ)):=lg.deep (g:=dZ) (by omega) o4 (by omega) (fun x _=>by rw [cX];rfl) fun x hx a z r ha hf=>iJ.nZ e x hx ha hf
  have h5:Deep n B v5 (.sl (cs.map lK)):=lg.deep (g:=lK) (by omega) o5 (by omega) (fun x _=>by rw [iS];rfl) fun x hx a z r ha hf=>jD.nZ cs x hx ha hf
  rw [cX]
  intro q hq u hu
  have hq8:q < 10:=hq
  rcases q with _ | _ | _ | _ | _ | _ | _ | _ | _ | _ | q
  all_goals first
   | omega
   | (simp only [dg,List.getElem?_cons_zero,List.getElem?_cons_succ,Option.some.injEq] at hu
      subst hu
      first
       | exact .d _
       | exact h1
       | exact h2
       | exact h3
       | exact h4
       | exact h5)
theorem iJ.nZ {n:Nat} {B:List (List V)}:∀ (l:List aH) (x:aH),x∈l→∀ {lo hi:Nat} {r:List V},n≤lo→iJ B x lo hi r→∀ q (hq:q < (dZ x).length) u,r[q]? = some u→Deep n B u (dZ x)[q]
 | y :: l,x,hx,lo,hi,r,hn,h=>by
  rcases List.mem_cons.1 hx with e | hx
  ·rw [e] at h ⊢
   exact iJ.deep y hn h
  ·exact iJ.nZ l x hx hn h
theorem jD.deep {n:Nat} {B:List (List V)}:∀ (x:cJ) {lo hi:Nat} {r:List V},n≤lo→jD B x lo hi r→∀ q (hq:q < (lK x).length) u,r[q]? = some u→Deep n B u (lK x)[q]
 | .mk i b,lo,hi,r,hn,h=>by
  unfold jD at h
  obtain ⟨v,rfl,hv⟩:=h
  rw [sV] at hv
  have h3:Deep n B v (.sl (b.map dZ)):=lg.deep (g:=dZ) (by omega) hv (by omega) (fun x _=>by rw [cX];rfl) fun x hx a z r ha hf=>iJ.nZ b x hx ha hf
  rw [iS]
  intro q hq u hu
  have hq8:q < 2:=hq
  rcases q with _ | _ | q
  all_goals first
   | omega
   | (simp only [List.getElem?_cons_zero,List.getElem?_cons_succ,Option.some.injEq] at hu
      subst hu
      first
       | exact .d _
       | exact h3)
theorem jD.nZ {n:Nat} {B:List (List V)}:∀ (l:List cJ) (x:cJ),x∈l→∀ {lo hi:Nat} {r:List V},n≤lo→jD B x lo hi r→∀ q (hq:q < (lK x).length) u,r[q]? = some u→Deep n B u (lK x)[q]
 | y :: l,x,hx,lo,hi,r,hn,h=>by
  rcases List.mem_cons.1 hx with e | hx
  ·rw [e] at h ⊢
   exact jD.deep y hn h
  ·exact jD.nZ l x hx hn h
end
theorem fS.deep {n lo hi:Nat} {B:List (List V)} {l:List aH} {v:V} (h:fS B l lo hi v) (hn:n≤lo):Deep n B v (.sl (l.map dZ)):=by
 unfold fS at h
 rw [sV] at h
 exact lg.deep (g:=dZ) (by omega) h hn (fun x _=>by rw [cX];rfl) fun x hx a b r ha hf=>iJ.nZ l x hx ha hf
end Go.Proofs.YtnfnbjjnjjdjdaaGreatDoor
namespace Go.Ab
open Go.RowKit Go.Av
set_option linter.unusedSimpArgs false
theorem af.Sq {P:Program} {I:Inv} {ops:Array Oper} {z:Nat × Nat} {fn:FuncId} {k:List Item} {R:V→Mem→Prop} {id:Nat} {env:List V} {S:Mem} (W:List Nat) (MM:Mem→Prop) (hm:P.follows .mixedOrders=true) (h:j7 P I ops W MM (fun env S=>af P I z fn k env S R) ops.size (Array.replicate ops.size false) env S):af P I z fn (.code (.region id ops true) :: k) env S R:=by
 intro b a c w c0 w0 h1 h2 h3 h4 h5 h6 hI cs
 have hd:Below w.heap.size w { w with drawn:=w.drawn+1 }:=⟨rfl,rfl,rfl,Nat.le_refl _,fun _ _=>rfl⟩
 obtain ⟨r1,r2⟩:=h5.under hd
 have bp:=rX (fn:=fn) (k:=k) (R:=R) ops.size (w.tape w.drawn (.order b.fn id)) _ _ _ h
 obtain ⟨e,w',fr,g1,g2,g3⟩:=bp b a c _ c0 w0 h1 h2 h3 (h4.ext r2) r1 (h6.trans r2) ⟨r2.I.trans hI.1,hI.2⟩ cs
 refine ⟨e,w',fr,g1,.of_steps (.one ?_) g2,g3⟩
 have:=step_region_draw (P:=P) (b:=b) (a:=a) (k:=k) (cs:=cs) (w:=w) (ops:=ops) (id:=id)
 rw [this]
 simp only [Region.schedule,hm,Bool.true_or,if_true,Region.linearise]
theorem aF.XQ {P:Program} {I:Inv} {f:FuncId} {args:List V} {S:Mem} {R:V→Mem→Prop}
 (h:aF P I f args S fun v S'=>∃ L J T K d,S' = ⟨L++J,T++K⟩∧L.length=S.boxes.length∧T.length=S.aL.length∧AL S.boxes.length S.aL.length S.boxes L∧Deep S.boxes.length (L++J) v d∧R (.d d) ⟨L,T⟩):aF P I f args S R:=by
 refine ⟨h.1,fun c w xs h1 h2 h3 hI cs=>?_⟩
 obtain ⟨e,w',fr,⟨v,x,S',c',a1,⟨L,J,T,K,d,rfl,b2,b3,b4,g1,b5⟩,a3,a4,a5⟩,h⟩:=h.2 c w xs h1 h2 h3 hI cs
 obtain ⟨r1,r2,r3⟩:=forget h3 a4 a3 a5 b2 b3 b4
 exact ⟨e,w',fr,⟨_,x,_,_,a1,b5,r1,r2,.d _ _ (g1.dr a3 a5)⟩,h⟩
end Go.Ab
namespace Go.Proofs.YtnfnbjjnjjdjdaaGreatDoor
open Go.RowKit Go.Av Go.Ab
theorem uO {su:List cG} (hl:su.length≤60000) (B:List (List V)) (T:List (Nat × Nat)):aF Tryz.prog av 24 [.d (.sl (su.map ef))] ⟨B,T⟩ (aB (.d (.sl (su.map ef))) ⟨B,T⟩):=by
 have hr:∀ r∈su.map ef,r.length=2:=by intro r hr;obtain ⟨x,_,rfl⟩:=List.mem_map.1 hr;rfl
 refine aF.XQ ((BD (su.map ef) hr (by rw [List.length_map];omega) B T).mono fun v S' h=>?_)
 rcases h with ⟨h0,rfl,rfl⟩ | ⟨h0,cap,h1,h2,rfl,rfl⟩
 ·exact ⟨B,[],T,[],_,by rw [List.append_nil,List.append_nil],rfl,rfl,(qU.refl _ _ _).cells,.d _,by rw [h0];exact ⟨rfl,rfl⟩⟩
 ·have vo:=mQ hr
  obtain ⟨X,hX⟩:∃ X,X=List.replicate ((cap - (su.map ef).length) * 2) V.undef:=⟨_,rfl⟩
  rw [← hX]
  have hle:(su.map ef).length * 2≤((su.map ef).flatten.map V.d++X).length:=by rw [List.length_append,vo];omega
  refine ⟨B,[(su.map ef).flatten.map V.d++X],T,[],_,by rw [List.append_nil],rfl,rfl,(qU.refl _ _ _).cells,.bx B.length cap 2 _ _ (Nat.le_refl _) (cL rfl) (fun ks us he=>?_) (by decide) hr hle (fun i hi q hq v hv=>?_),rfl,rfl⟩
  ·rw [he] at hle
   have:1≤(su.map ef).length:=Nat.one_le_iff_ne_zero.2 fun e=>h0 (List.eq_nil_of_length_eq_zero e)
   simp only [List.length_cons,List.length_nil] at hle
   omega
  ·have hg:=rY hr i q _ _ (List.getElem?_eq_getElem hi) (List.getElem?_eq_getElem hq)
   have au:=(List.getElem?_eq_some_iff.1 hg).1
   rw [List.getElem?_append_left (by rw [List.length_map];exact au),List.getElem?_map,hg] at hv
   obtain rfl:=Option.some.inj hv
   exact .d _
end Go.Proofs.YtnfnbjjnjjdjdaaGreatDoor
namespace Go.Proofs.YtnfnbjjnjjdjdaaGreatDoor
open Go.RowKit Go.Av Go.Ab
set_option linter.unusedSimpArgs false
mutual
theorem GS:∀ s:aH,xg (By s)=xg s
 | .mk k ns ty ls es b e cs=>by
  have h1:=jI b
  have h2:=jI e
  have h3:=xJ cs
  unfold By xg
  rw [h1,h2,h3]
theorem jI:∀ l:List aH,dV (gr l)=dV l
 | []=>by unfold gr dV;rfl
 | [x]=>by
  have h:=GS x
  unfold gr gr dV
  exact h
 | x :: y :: l=>by
  have h:=jI (y :: l)
  rw [ie] at h ⊢
  show dV (By x :: (By y :: l.map By))=_
  unfold dV
  dsimp only
  exact h
theorem xJ:∀ l:List cJ,nV (mF l)=nV l
 | []=>by unfold mF nV;rfl
 | .mk i b :: l=>by
  have h1:=jI b
  have h2:=xJ l
  unfold mF Vj nV
  rw [h1,h2]
end
theorem KN {l m:List aH} (h:gr l=gr m):dV l=dV m:=by rw [← jI l,h,jI m]
end Go.Proofs.YtnfnbjjnjjdjdaaGreatDoor
