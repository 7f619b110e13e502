/- gotypeMore Part 4 of 6 of the proof. -/
import Derived.Test.YtnfnbjjnjjdjdaaGreatDoorGotypeMorec
namespace Go.Proofs.YtnfnbjjnjjdjdaaGreatDoor
open Go.RowKit Go.Av Go.Ab
set_option linter.unusedSimpArgs false
def lg (f:Nat→Nat→List V→Prop) (n:Nat) (B:List (List V)) (lo hi:Nat) (v:V):Prop :=
 (n=0∧v = .d (.sl [])∧lo≤hi)∨(n ≠ 0∧∃ j cap Y,v = .bx j n cap∧lo≤j∧j < hi∧B[j]? = some Y∧f (j+1) hi Y)
theorem lg.le {f:Nat→Nat→List V→Prop} {n:Nat} {B:List (List V)} {lo hi:Nat} {v:V} (h:lg f n B lo hi v):lo≤hi:=by
 rcases h with ⟨_,_,h⟩ | ⟨_,j,cap,Y,_,h1,h2,_⟩<;>omega
theorem lg.frame {f g:Nat→Nat→List V→Prop} {n:Nat} {B B':List (List V)} {lo hi:Nat} {v:V} (h:lg f n B lo hi v) (hb:∀ i,lo≤i→i < hi→B'[i]? = B[i]?) (hf:∀ a Y,lo≤a→f a hi Y→g a hi Y):lg g n B' lo hi v:=by
 rcases h with h | ⟨hn,j,cap,Y,rfl,h1,h2,h3,h4⟩
 ·exact .inl h
 ·exact .inr ⟨hn,j,cap,Y,rfl,h1,h2,by rw [hb j h1 h2];exact h3,hf _ _ (by omega) h4⟩
def bV {α:Type} (sz:Nat) (f:α→Nat→Nat→List V→Prop):List α→Nat→Nat→List V→Prop
 | [],lo,hi,_=>lo≤hi
 | x :: l,lo,hi,X=>∃ r X' m,X=r++X'∧r.length=sz∧lo≤m∧m≤hi∧f x lo m r∧bV sz f l m hi X'
theorem bV.le {α:Type} {sz:Nat} {f:α→Nat→Nat→List V→Prop}:∀ {l:List α} {lo hi:Nat} {X:List V},bV sz f l lo hi X→lo≤hi
 | [],_,_,_,h=>h
 | x :: l,lo,hi,X,⟨r,X',m,_,_,h1,h2,_⟩=>by omega
theorem bV.congr {α:Type} {sz:Nat} {f g:α→Nat→Nat→List V→Prop}:∀ {l:List α} {lo hi:Nat} {X:List V},bV sz f l lo hi X→(∀ x∈l,∀ a b r,lo≤a→b≤hi→f x a b r→g x a b r)→bV sz g l lo hi X
 | [],_,_,_,h,_=>h
 | x :: l,lo,hi,X,⟨r,X',m,h1,h2,h3,h4,h5,h6⟩,hg=>⟨r,X',m,h1,h2,h3,h4,hg x (by simp) _ _ _ (Nat.le_refl _) h4 h5,h6.congr fun y hy a b r' ha hb hf=>hg y (by simp [hy]) a b r' (by omega) hb hf⟩
theorem bV.at {α:Type} {sz:Nat} {f:α→Nat→Nat→List V→Prop}:∀ {l:List α} {lo hi:Nat} {X:List V},bV sz f l lo hi X→∀ (k:Nat) (x:α),l[k]? = some x →
 ∃ A r C OJ jX,X=A++r++C∧A.length=k * sz∧r.length=sz∧lo≤OJ∧OJ≤jX∧jX≤hi∧f x OJ jX r ∧
  ∀ (g:α→Nat→Nat→List V→Prop) (y:α) (r':List V),r'.length=sz→g y OJ jX r'→(∀ z∈l,∀ a b q,lo≤a→b≤hi→(b≤OJ∨jX≤a)→f z a b q→g z a b q)→bV sz g (l.set k y) lo hi (A++r'++C)
 | [],_,_,_,_,k,x,hk=>by simp at hk
 | z :: l,lo,hi,X,⟨r,X',m,h1,h2,h3,h4,h5,h6⟩,0,x,hk=>by
  obtain rfl:z=x:=by simpa using hk
  refine ⟨[],r,X',lo,m,by simpa using h1,by simp,h2,Nat.le_refl _,h3,h4,h5,fun g y r' hr hy hg=>⟨r',X',m,by simp,hr,h3,h4,hy,h6.congr fun u hu a b q ha hb hf=>hg u (by simp [hu]) a b q (by omega) hb (.inr ha) hf⟩⟩
 | z :: l,lo,hi,X,⟨r,X',m,h1,h2,h3,h4,h5,h6⟩,k+1,x,hk=>by
  obtain ⟨A,q,C,OJ,jX,e1,e2,e3,e4,e5,e6,e7,e8⟩:=bV.at h6 k x (by simpa using hk)
  refine ⟨r++A,q,C,OJ,jX,by rw [h1,e1];simp,by rw [List.length_append,h2,e2,Nat.add_mul];omega,e3,by omega,e5,e6,e7,fun g y r' hr hy hg=>?_⟩
  refine ⟨r,A++r'++C,m,by simp,h2,h3,h4,hg z (by simp) _ _ _ (Nat.le_refl _) h4 (.inl e4) h5,e8 g y r' hr hy fun u hu a b p ha hb hc hf=>hg u (by simp [hu]) a b p (by omega) hb hc hf⟩
theorem bV.len {α:Type} {sz:Nat} {f:α→Nat→Nat→List V→Prop}:∀ {l:List α} {lo hi:Nat} {X:List V},bV sz f l lo hi X→l.length * sz≤X.length
 | [],_,_,_,_=>by simp
 | x :: l,lo,hi,X,⟨r,X',m,h1,h2,h3,h4,h5,h6⟩=>by
  have:=bV.len h6
  rw [h1,List.length_append,List.length_cons,Nat.add_mul];omega
def aV (x:aj) (kv:V):List V:=[.d (.int .i64 x.kind),.d (.str x.text),.d (.int .u64 x.int),.d (.int .i64 x.type.kind),.d (.str x.type.name),.d (.sl (x.type.elem.map dR)),.d (.sl (ij x.names)),kv]
theorem tS {A C:List V} {x y:aj} {kv:V}:∀ v∈A++aV y kv++C,v∈A++aV x kv++C∨fit 0 0 v=true:=by
 intro v hv
 simp only [List.mem_append,aV,List.mem_cons,List.not_mem_nil,or_false] at hv ⊢
 rcases hv with (hv | hv) | hv
 ·exact .inl (.inl (.inl hv))
 ·rcases hv with rfl | rfl | rfl | rfl | rfl | rfl | rfl | rfl
  all_goals first
   | exact .inr rfl
   | exact .inl (.inl (.inr (by simp)))
 ·exact .inl (.inr hv)
mutual
def iV (B:List (List V)):aj→Nat→Nat→List V→Prop
 | .mk k t i ty ns ks=>fun lo hi r=>∃ kv,r=aV (.mk k t i ty ns ks) kv∧lg (jT B ks) ks.length B lo hi kv
def jT (B:List (List V)):List aj→Nat→Nat→List V→Prop
 | []=>fun lo hi _=>lo≤hi
 | x :: l=>fun lo hi X=>∃ r X' m,X=r++X'∧r.length=8∧lo≤m∧m≤hi∧iV B x lo m r∧jT B l m hi X'
end
theorem jA (B:List (List V)):∀ (l:List aj) (lo hi:Nat) (X:List V),jT B l lo hi X=bV 8 (iV B) l lo hi X
 | [],_,_,_=>by unfold jT bV;rfl
 | x :: l,lo,hi,X=>by
  unfold jT bV
  simp only [jA B l]
def fX (B:List (List V)) (l:List aj) (lo hi:Nat) (v:V):Prop:=lg (jT B l) l.length B lo hi v
theorem iW {B:List (List V)} {x:aj} {lo hi:Nat} {r:List V}:iV B x lo hi r↔∃ kv,r=aV x kv∧fX B x.kids lo hi kv:=by
 cases x
 unfold iV fX
 rfl
mutual
theorem iV.frame {B B':List (List V)}:∀ (x:aj) {lo hi:Nat} {r:List V},iV B x lo hi r→(∀ i,lo≤i→i < hi→B'[i]? = B[i]?)→iV B' x lo hi r
 | .mk k t i ty ns ks,lo,hi,r,h,hb=>by
  unfold iV at h ⊢
  obtain ⟨kv,h1,h2⟩:=h
  exact ⟨kv,h1,h2.frame hb fun a Y ha hf=>jT.frame ks hf fun i h3 h4=>hb i (by omega) h4⟩
theorem jT.frame {B B':List (List V)}:∀ (l:List aj) {lo hi:Nat} {X:List V},jT B l lo hi X→(∀ i,lo≤i→i < hi→B'[i]? = B[i]?)→jT B' l lo hi X
 | [],lo,hi,X,h,hb=>by
  unfold jT at h ⊢
  exact h
 | x :: l,lo,hi,X,h,hb=>by
  unfold jT at h ⊢
  obtain ⟨r,X',m,h1,h2,h3,h4,h5,h6⟩:=h
  exact ⟨r,X',m,h1,h2,h3,h4,iV.frame x h5 fun i h7 h8=>hb i h7 (by omega),jT.frame l h6 fun i h7 h8=>hb i (by omega) h8⟩
end
theorem fX.frame {B B':List (List V)} {l:List aj} {lo hi:Nat} {v:V} (h:fX B l lo hi v) (hb:∀ i,lo≤i→i < hi→B'[i]? = B[i]?):fX B' l lo hi v :=
 lg.frame h hb fun a Y ha hf=>jT.frame l hf fun i h3 h4=>hb i (by omega) h4
def Out (j lo hi i:Nat):Prop:=i ≠ j∧(i < lo∨hi≤i)
def cx (j lo hi n:Nat) (B B':List (List V)):Prop:=B.length≤B'.length∧(∀ i,i < n→Out j lo hi i→B'[i]? = B[i]?)∧∀ i,i < n→∀ Y,B'[i]? = some Y→∀ v∈Y,(∃ X,B[i]? = some X∧v∈X)∨fit 0 0 v=true
theorem cx.mem {j lo hi n:Nat} {B B1 B2:List (List V)} (h:cx j lo hi n B B1) (hl:B.length≤B2.length) (he:∀ i,i < n→B2[i]? = B1[i]?):cx j lo hi n B B2 :=
 ⟨hl,fun i hn ho=>(he i hn).trans (h.2.1 i hn ho),fun i hn Y hY v hv=>h.2.2 i hn Y (by rw [← he i hn];exact hY) v hv⟩
theorem cx.refl (j lo hi n:Nat) (B:List (List V)):cx j lo hi n B B:=⟨Nat.le_refl _,fun _ _ _=>rfl,fun _ _ Y hY _ hv=>.inl ⟨Y,hY,hv⟩⟩
theorem cx.trans {j lo hi n:Nat} {B B1 B2:List (List V)} (h:cx j lo hi n B B1) (h1:cx j lo hi n B1 B2):cx j lo hi n B B2 :=
 ⟨Nat.le_trans h.1 h1.1,fun i hn hi=>(h1.2.1 i hn hi).trans (h.2.1 i hn hi),fun i hn Y hY v hv=>(h1.2.2 i hn Y hY v hv).elim (fun ⟨X,hX,hm⟩=>h.2.2 i hn X hX v hm) .inr⟩
theorem cx.less {j lo hi n m:Nat} {B B1:List (List V)} (h:cx j lo hi n B B1) (hm:m≤n):cx j lo hi m B B1:=⟨h.1,fun i hi=>h.2.1 i (by omega),fun i hi=>h.2.2 i (by omega)⟩
theorem cx.sub {j lo hi n j1 eL dK:Nat} {B B1:List (List V)} (h:cx j1 eL dK n B B1) (h1:lo≤j1) (h2:j1 < hi) (h3:lo≤eL) (h4:dK≤hi):cx j lo hi n B B1 :=
 ⟨h.1,fun i hn ho=>h.2.1 i hn ⟨by have:=ho.2;omega,by have:=ho.2;omega⟩,h.2.2⟩
theorem cx.step {j lo hi:Nat} {B M B1:List (List V)} (h0:cx j lo hi B.length B M) (h:cx j lo hi M.length M B1):cx j lo hi B.length B B1:=h0.trans (h.less h0.1)
theorem cx.app {j lo hi:Nat} {B M J:List (List V)} (h0:cx j lo hi B.length B M):cx j lo hi B.length B (M++J):=h0.mem (by have:=h0.1;rw [List.length_append];omega) fun i hi=>ah (Nat.lt_of_lt_of_le hi h0.1)
theorem cx.jB {j lo hi:Nat} {B M:List (List V)} {k:Nat} {x:List V} (h0:cx j lo hi B.length B M) (hk:B.length≤k):cx j lo hi B.length B (M.set k x):=h0.mem (by rw [List.length_set];exact h0.1) fun i hi=>List.getElem?_set_ne (by omega)
theorem cx.new {j lo hi:Nat} {B J:List (List V)}:cx j lo hi B.length B (B++J):=(cx.refl _ _ _ _ B).app
theorem cx.cut {j lo hi:Nat} {B M:List (List V)} (h:cx j lo hi B.length B M):cx j lo hi B.length B (M.take B.length):=h.mem (by have:=h.1;rw [List.length_take];omega) fun i hi=>by rw [List.getElem?_take,if_pos hi]
theorem xj {j lo hi:Nat} {B M:List (List V)} {T K:List (Nat × Nat)} {R:V→Mem→Prop} {v:V} (he:cx j lo hi B.length B M) (h:R (wk B.length T.length v) ⟨M.take B.length,T⟩):Go.Ab.Left ⟨B,T⟩ R v ⟨M,T++K⟩:=by
 have hl:(M.take B.length).length=B.length:=by have:=he.1;rw [List.length_take];omega
 have:=Go.Ab.Left.ZC (J:=M.drop B.length) (U:=T) (K:=K) hl rfl (fun i vs hi v hv=>?_) h
 ·rwa [List.take_append_drop] at this
 ·have au:i < B.length:=by have:=(List.getElem?_eq_some_iff.1 hi).1;omega
  rw [List.getElem?_take,if_pos au] at hi
  exact (he.2.2 i au vs hi v hv).imp id fun h=>mP (Nat.zero_le _) (Nat.zero_le _) v h
theorem aq {j lo hi:Nat} {B M:List (List V)} {T:List (Nat × Nat)} {R:V→Mem→Prop} {v:V} (he:cx j lo hi B.length B M) (h:R (wk B.length T.length v) ⟨M.take B.length,T⟩):Go.Ab.Left ⟨B,T⟩ R v ⟨M,T⟩:=by
 have:=xj (K:=[]) he h
 rwa [List.append_nil] at this
def yO (s f w:Nat) (res:List aA):List V:=[.mp s,.mp f,.mp w,.d (.sl (res.map dR))]
def oh (l:List cG):List V:=[.oy (l.map cG.name) (l.map yL)]
def om (l:List cn):List V:=[.oy (l.map cn.name) (l.map yM)]
def qH (l:List bH):List V:=[.oy (l.map bH.name) (l.map fun p=>aY p.type)]
structure sD (B:List (List V)) (c s f w:Nat) (E:bP) (res:List aA):Prop where
 c:B[c]? = some (yO s f w res)
 s:B[s]? = some (oh E.su)
 f:B[f]? = some (om E.fu)
 w:B[w]? = some (qH E.vs)
theorem sD.eC {B B':List (List V)} {c s f w:Nat} {E:bP} {res:List aA} (h:sD B c s f w E res) (hc:B'[c]? = B[c]?) (hs:B'[s]? = B[s]?) (hf:B'[f]? = B[f]?) (hw:B'[w]? = B[w]?):sD B' c s f w E res :=
 ⟨by rw [hc];exact h.c,by rw [hs];exact h.s,by rw [hf];exact h.f,by rw [hw];exact h.w⟩
structure cl (B:List (List V)) (n c s f w:Nat) (E:bP) (res:List aA) (j lo hi:Nat) (A C:List V) (kv:V) (x:aj):Prop where
 k:sD B c s f w E res
 row:B[j]? = some (A++aV x kv++C)
 own:fX B x.kids lo hi kv
 jo:j < lo∨hi≤j
 oc:Out j lo hi c
 os:Out j lo hi s
 of:Out j lo hi f
 ow:Out j lo hi w
 nb:c < n∧s < n∧f < n∧w < n∧j < n∧hi≤n
 nl:n≤B.length
theorem cl.mem {B B':List (List V)} {n c s f w:Nat} {E:bP} {res:List aA} {j lo hi:Nat} {A C:List V} {kv:V} {x:aj} (h:cl B n c s f w E res j lo hi A C kv x) (hl:B.length≤B'.length) (he:∀ i,i < n→B'[i]? = B[i]?):cl B' n c s f w E res j lo hi A C kv x:=by
 obtain ⟨n1,n2,n3,n4,n5,n6⟩:=h.nb
 exact ⟨h.k.eC (he _ n1) (he _ n2) (he _ n3) (he _ n4),by rw [he _ n5];exact h.row,h.own.frame fun i _ hi=>he i (by omega),h.jo,h.oc,h.os,h.of,h.ow,h.nb,by have:=h.nl;omega⟩
theorem cl.more {B J:List (List V)} {n c s f w:Nat} {E:bP} {res:List aA} {j lo hi:Nat} {A C:List V} {kv:V} {x:aj} (h:cl B n c s f w E res j lo hi A C kv x):cl (B++J) n c s f w E res j lo hi A C kv x :=
 h.mem (by simp) fun i hi=>ah (Nat.lt_of_lt_of_le hi h.nl)
theorem cl.OK {B B':List (List V)} {n c s f w:Nat} {E:bP} {res:List aA} {j lo hi:Nat} {A C:List V} {kv:V} {x y:aj} (h:cl B n c s f w E res j lo hi A C kv x) (he:cx j lo hi n B B') (hr:B'[j]? = some (A++aV y kv++C)) (ho:fX B' y.kids lo hi kv):cl B' n c s f w E res j lo hi A C kv y:=by
 obtain ⟨n1,n2,n3,n4,n5,n6⟩:=h.nb
 exact ⟨h.k.eC (he.2.1 _ n1 h.oc) (he.2.1 _ n2 h.os) (he.2.1 _ n3 h.of) (he.2.1 _ n4 h.ow),hr,ho,h.jo,h.oc,h.os,h.of,h.ow,h.nb,by have:=h.nl;have:=he.1;omega⟩
theorem aS (x:aj) (l:List aj):(aT x l).kids=l:=by cases x;rfl
theorem jC (x:aj) (l:List aj) (kv:V):aV (aT x l) kv=aV x kv:=by cases x;rfl
theorem cl.qI {B:List (List V)} {n c s f w:Nat} {E:bP} {res:List aA} {j lo hi:Nat} {A C:List V} {kv:V} {x:aj} (h:cl B n c s f w E res j lo hi A C kv x) {k:Nat} {y:aj} (hk:x.kids[k]? = some y) :
 ∃ (j1 cap eL dK:Nat) (A1 C1:List V) (mX:V),kv = .bx j1 x.kids.length cap∧A1.length=k * 8∧(j1 < n∧Out j1 eL dK j)∧cl B n c s f w E res j1 eL dK A1 C1 mX y ∧
  (∀ B1 m,cx j1 eL dK m B B1→cx j lo hi m B B1) ∧
  ∀ B1 z,cx j1 eL dK n B B1→B1[j1]? = some (A1++aV z mX++C1)→fX B1 z.kids eL dK mX→cl B1 n c s f w E res j lo hi A C kv (aT x (x.kids.set k z)):=by
 have au:=(List.getElem?_eq_some_iff.1 hk).1
 rcases h.own with ⟨h0,_⟩ | ⟨hn,j1,cap,Y,h1,h2,h3,h4,h5⟩
 ·omega
 rw [jA] at h5
 obtain ⟨A1,r,C1,eL,dK,e1,e2,e3,e4,e5,e6,e7,e8⟩:=h5.at k y hk
 obtain ⟨mX,rfl,hv⟩:=iW.1 e7
 obtain ⟨n1,n2,n3,n4,n5,n6⟩:=h.nb
 have sub:∀ i,Out j lo hi i→Out j1 eL dK i:=fun i hi=>⟨by have:=hi.2;omega,by have:=hi.2;omega⟩
 have hE:∀ B1 m,cx j1 eL dK m B B1→cx j lo hi m B B1:=fun B1 m he=>he.sub h2 h3 (by omega) e6
 have Vd:=h.jo
 have uG:Out j1 eL dK j:=⟨by omega,by omega⟩
 refine ⟨j1,cap,eL,dK,A1,C1,mX,h1,e2,⟨by omega,uG⟩,⟨h.k,by rw [h4,e1],hv,by omega,sub _ h.oc,sub _ h.os,sub _ h.of,sub _ h.ow,⟨n1,n2,n3,n4,by omega,by omega⟩,h.nl⟩,hE,fun B1 z he hr ho=>?_⟩
 refine h.OK (hE _ _ he) ?_ ?_
 ·rw [jC,he.2.1 j n5 uG];exact h.row
 ·rw [aS]
  refine .inr ⟨by rw [List.length_set];exact hn,j1,cap,_,by rw [List.length_set];exact h1,h2,h3,hr,?_⟩
  rw [jA]
  refine e8 (iV B1) z _ rfl (iW.2 ⟨_,rfl,ho⟩) fun u _ a b q ha hb hc hf=>iV.frame u hf fun i h7 h8=>he.2.1 i (by omega) ⟨by omega,by omega⟩
set_option maxRecDepth 100000
set_option linter.defProp false
def R8:=by
 have c:=aM Tryz.f41 (by conv=>lhs;cbv)
 dsimp only [KK,eN,eG,eH,List.map_cons,List.map_nil,List.toList_toArray] at c
 exact c
theorem b41:bI Tryz.prog 41 Tryz.f41 32:=⟨Tryz.func41,by kernel_rfl⟩
set_option maxHeartbeats 1000000 in
theorem lp (g:FuncId) (first caps:List V) (e:aA→aA→Bool) (a b:List aA) (B:List (List V)) (T:List (Nat × Nat)) (hg:∀ x∈a,∀ y∈b,∀ J,aF Tryz.prog av g (first++[aY x,aY y]++caps) ⟨B++J,T⟩ (aB (.d (.bool (e x y))) ⟨B++J,T⟩)) :
 aF Tryz.prog av 41 [.d (.sl (a.map dR)),.d (.sl (b.map dR)),.func g first caps] ⟨B,T⟩ (aB (.d (.bool (gd e a b))) ⟨B,T⟩):=by
 obtain ⟨N,hn⟩:∃ N,B.length=N:=⟨_,rfl⟩
 refine b41.go 8 rfl fun bk=>?_
 simp only [dP] at bk
 simp only [W,seval,R8,hn]
 refine af.FD fun yg=>?_
 have mY:=yg 2
 simp only [gV,kr,nu,Nat.reduceBEq,Nat.reduceAdd,Nat.reduceSub,cond_true,cond_false,hn] at mY
 clear yg
 by_cases hl:a.length=b.length
 case neg =>
  have lO:decide ((a.length:Int)=(b.length:Int))=false:=decide_eq_false (by omega)
  refine af.go 200 ?_
  simp only [W,seval,R8,lO,hn]
  refine af.ret Tryz.func41 rfl (Left.none ?_)
  rw [lR e a b hl]
  exact ⟨rfl,rfl⟩
 have lO:decide ((a.length:Int)=(b.length:Int))=true:=decide_eq_true (by omega)
 refine af.go 30 ?_
 simp only [W,seval,R8,lO,hn]
 refine af.fits fun hf=>?_
 refine af.dc (fun i:Nat=>(aR 32 [(1,.d (.sl (b.map dR))),(2,.func g first caps),(15,.d (.sl (a.map dR))),(16,.d (.int .i64 a.length)),(17,.d (.int .i64 i))],⟨B,T⟩)) (fun i=>i≤a.length∧gd e a b=gd e (a.drop i) (b.drop i)) (fun i=>a.length - i) 0 ⟨by omega,rfl⟩ ?_ rfl ?_
 ·skip
  refine ay.env _ ?_
  simp only [cD,seval,hn]
 rintro i ⟨h1,h2⟩ ih
 dsimp only at h1 h2 ih ⊢
 by_cases au:i < a.length
 ·have hw:=az ((i:Int)+1) (by omega)
  have iy:i < b.length:=by omega
  have yo:=List.getElem?_eq_getElem au
  have yp:=List.getElem?_eq_getElem iy
  have aC:decide ((i:Int) < (a.length:Int))=true:=decide_eq_true (by omega)
  rw [kR e a b i au iy] at h2
  have rE:=hg a[i] (List.getElem_mem au) b[i] (List.getElem_mem iy)
  obtain ⟨x,hx⟩:∃ x,a[i]=x:=⟨_,rfl⟩
  obtain ⟨y,hy⟩:∃ y,b[i]=y:=⟨_,rfl⟩
  rw [hx] at yo h2 rE
  rw [hy] at yp h2 rE
  refine af.go 200 ?_
  simp only [W,seval,R8,hn,List.getElem?_map,yo,yp,aC,cB]
  refine aU (rE _) ?_
  rintro _ _ ⟨rfl,rfl⟩
  refine af.go 200 ?_
  simp only [W,seval,R8,hn]
  cases he:e x y
  ·simp only [W,seval,R8,hn,he]
   refine af.ret Tryz.func41 rfl (Left.box ?_)
   rw [h2,he]
   exact ⟨rfl,rfl⟩
  ·simp only [W,seval,R8,hn,he,hw]
   rw [he,Bool.true_and] at h2
   refine ih (i+1) ⟨au,h2⟩ (by omega) _ _ _ _ rfl ⟨by omega,Nat.le_refl _⟩ hf ?_
   refine bw.env _ ?_
   simp only [nU,seval,hn]
   exact mY
 ·have aC:decide ((i:Int) < (a.length:Int))=false:=decide_eq_false (by omega)
  refine af.go 200 ?_
  simp only [W,seval,R8,hn,aC]
  refine af.ret Tryz.func41 rfl (Left.none ?_)
  rw [h2,nx e a b i (by omega) (by omega)]
  exact ⟨rfl,rfl⟩
def R9:=by
 have c:=aM Tryz.f87 (by conv=>lhs;cbv)
 dsimp only [KK,eN,eG,eH,List.map_cons,List.map_nil,List.toList_toArray] at c
 exact c
theorem b87:bI Tryz.prog 87 Tryz.f87 32:=⟨Tryz.func87,by kernel_rfl⟩
set_option maxHeartbeats 1000000 in
theorem lq (g:FuncId) (first caps:List V) (e:aj→aj→Bool) (a b:List aj) (B:List (List V)) (T:List (Nat × Nat)) (hg:∀ x∈a,∀ y∈b,∀ J,aF Tryz.prog av g (first++[sn x,sn y]++caps) ⟨B++J,T⟩ (aB (.d (.bool (e x y))) ⟨B++J,T⟩)) :
 aF Tryz.prog av 87 [.d (.sl (a.map fO)),.d (.sl (b.map fO)),.func g first caps] ⟨B,T⟩ (aB (.d (.bool (gd e a b))) ⟨B,T⟩):=by
 obtain ⟨N,hn⟩:∃ N,B.length=N:=⟨_,rfl⟩
 refine b87.go 8 rfl fun bk=>?_
 simp only [dP] at bk
 simp only [W,seval,R9,hn]
 refine af.FD fun yg=>?_
 have mY:=yg 2
 simp only [gV,kr,nu,Nat.reduceBEq,Nat.reduceAdd,Nat.reduceSub,cond_true,cond_false,hn] at mY
 clear yg
 by_cases hl:a.length=b.length
 case neg =>
  have lO:decide ((a.length:Int)=(b.length:Int))=false:=decide_eq_false (by omega)
  refine af.go 200 ?_
  simp only [W,seval,R9,lO,hn]
  refine af.ret Tryz.func87 rfl (Left.none ?_)
  rw [lR e a b hl]
  exact ⟨rfl,rfl⟩
 have lO:decide ((a.length:Int)=(b.length:Int))=true:=decide_eq_true (by omega)
 refine af.go 30 ?_
 simp only [W,seval,R9,lO,hn]
 refine af.fits fun hf=>?_
 refine af.dc (fun i:Nat=>(aR 32 [(1,.d (.sl (b.map fO))),(2,.func g first caps),(15,.d (.sl (a.map fO))),(16,.d (.int .i64 a.length)),(17,.d (.int .i64 i))],⟨B,T⟩)) (fun i=>i≤a.length∧gd e a b=gd e (a.drop i) (b.drop i)) (fun i=>a.length - i) 0 ⟨by omega,rfl⟩ ?_ rfl ?_
 ·skip
  refine ay.env _ ?_
  simp only [cD,seval,hn]
 rintro i ⟨h1,h2⟩ ih
 dsimp only at h1 h2 ih ⊢
 by_cases au:i < a.length
 ·have hw:=az ((i:Int)+1) (by omega)
  have iy:i < b.length:=by omega
  have yo:=List.getElem?_eq_getElem au
  have yp:=List.getElem?_eq_getElem iy
  have aC:decide ((i:Int) < (a.length:Int))=true:=decide_eq_true (by omega)
  rw [kR e a b i au iy] at h2
  have rE:=hg a[i] (List.getElem_mem au) b[i] (List.getElem_mem iy)
  obtain ⟨x,hx⟩:∃ x,a[i]=x:=⟨_,rfl⟩
  obtain ⟨y,hy⟩:∃ y,b[i]=y:=⟨_,rfl⟩
  rw [hx] at yo h2 rE
  rw [hy] at yp h2 rE
  refine af.go 200 ?_
  simp only [W,seval,R9,hn,List.getElem?_map,yo,yp,aC,cQ]
  refine aU (rE _) ?_
  rintro _ _ ⟨rfl,rfl⟩
  refine af.go 200 ?_
  simp only [W,seval,R9,hn]
  cases he:e x y
  ·simp only [W,seval,R9,hn,he]
   refine af.ret Tryz.func87 rfl (Left.box ?_)
   rw [h2,he]
   exact ⟨rfl,rfl⟩
  ·simp only [W,seval,R9,hn,he,hw]
   rw [he,Bool.true_and] at h2
   refine ih (i+1) ⟨au,h2⟩ (by omega) _ _ _ _ rfl ⟨by omega,Nat.le_refl _⟩ hf ?_
   refine bw.env _ ?_
   simp only [nU,seval,hn]
   exact mY
 ·have aC:decide ((i:Int) < (a.length:Int))=false:=decide_eq_false (by omega)
  refine af.go 200 ?_
  simp only [W,seval,R9,hn,aC]
  refine af.ret Tryz.func87 rfl (Left.none ?_)
  rw [h2,nx e a b i (by omega) (by omega)]
  exact ⟨rfl,rfl⟩
def Sa:=by
 have c:=aM Tryz.f42 (by conv=>lhs;cbv)
 dsimp only [KK,eN,eG,eH,List.map_cons,List.map_nil,List.toList_toArray] at c
 exact c
theorem b42:bI Tryz.prog 42 Tryz.f42 32:=⟨Tryz.func42,by kernel_rfl⟩
set_option maxHeartbeats 1000000 in
theorem iX (g:FuncId) (first caps:List V) (e:aH→aH→Bool) (a b:List aH) (B:List (List V)) (T:List (Nat × Nat)) (hg:∀ x∈a,∀ y∈b,∀ J,aF Tryz.prog av g (first++[Bd x,Bd y]++caps) ⟨B++J,T⟩ (aB (.d (.bool (e x y))) ⟨B++J,T⟩)) :
 aF Tryz.prog av 42 [.d (.sl (a.map dZ)),.d (.sl (b.map dZ)),.func g first caps] ⟨B,T⟩ (aB (.d (.bool (gd e a b))) ⟨B,T⟩):=by
 obtain ⟨N,hn⟩:∃ N,B.length=N:=⟨_,rfl⟩
 refine b42.go 8 rfl fun bk=>?_
 simp only [dP] at bk
 simp only [W,seval,Sa,hn]
 refine af.FD fun yg=>?_
 have mY:=yg 2
 simp only [gV,kr,nu,Nat.reduceBEq,Nat.reduceAdd,Nat.reduceSub,cond_true,cond_false,hn] at mY
 clear yg
 by_cases hl:a.length=b.length
 case neg =>
  have lO:decide ((a.length:Int)=(b.length:Int))=false:=decide_eq_false (by omega)
  refine af.go 200 ?_
  simp only [W,seval,Sa,lO,hn]
  refine af.ret Tryz.func42 rfl (Left.none ?_)
  rw [lR e a b hl]
  exact ⟨rfl,rfl⟩
 have lO:decide ((a.length:Int)=(b.length:Int))=true:=decide_eq_true (by omega)
 refine af.go 30 ?_
 simp only [W,seval,Sa,lO,hn]
 refine af.fits fun hf=>?_
 refine af.dc (fun i:Nat=>(aR 32 [(1,.d (.sl (b.map dZ))),(2,.func g first caps),(15,.d (.sl (a.map dZ))),(16,.d (.int .i64 a.length)),(17,.d (.int .i64 i))],⟨B,T⟩)) (fun i=>i≤a.length∧gd e a b=gd e (a.drop i) (b.drop i)) (fun i=>a.length - i) 0 ⟨by omega,rfl⟩ ?_ rfl ?_
 ·skip
  refine ay.env _ ?_
  simp only [cD,seval,hn]
 rintro i ⟨h1,h2⟩ ih
 dsimp only at h1 h2 ih ⊢
 by_cases au:i < a.length
 ·have hw:=az ((i:Int)+1) (by omega)
  have iy:i < b.length:=by omega
  have yo:=List.getElem?_eq_getElem au
  have yp:=List.getElem?_eq_getElem iy
  have aC:decide ((i:Int) < (a.length:Int))=true:=decide_eq_true (by omega)
  rw [kR e a b i au iy] at h2
  have rE:=hg a[i] (List.getElem_mem au) b[i] (List.getElem_mem iy)
  obtain ⟨x,hx⟩:∃ x,a[i]=x:=⟨_,rfl⟩
  obtain ⟨y,hy⟩:∃ y,b[i]=y:=⟨_,rfl⟩
  rw [hx] at yo h2 rE
  rw [hy] at yp h2 rE
  refine af.go 200 ?_
  simp only [W,seval,Sa,hn,List.getElem?_map,yo,yp,aC,cX]
  refine aU (rE _) ?_
  rintro _ _ ⟨rfl,rfl⟩
  refine af.go 200 ?_
  simp only [W,seval,Sa,hn]
  cases he:e x y
  ·simp only [W,seval,Sa,hn,he]
   refine af.ret Tryz.func42 rfl (Left.box ?_)
   rw [h2,he]
   exact ⟨rfl,rfl⟩
  ·simp only [W,seval,Sa,hn,he,hw]
   rw [he,Bool.true_and] at h2
   refine ih (i+1) ⟨au,h2⟩ (by omega) _ _ _ _ rfl ⟨by omega,Nat.le_refl _⟩ hf ?_
   refine bw.env _ ?_
   simp only [nU,seval,hn]
   exact mY
 ·have aC:decide ((i:Int) < (a.length:Int))=false:=decide_eq_false (by omega)
  refine af.go 200 ?_
  simp only [W,seval,Sa,hn,aC]
  refine af.ret Tryz.func42 rfl (Left.none ?_)
  rw [h2,nx e a b i (by omega) (by omega)]
  exact ⟨rfl,rfl⟩
def Sb:=by
 have c:=aM Tryz.f89 (by conv=>lhs;cbv)
 dsimp only [KK,eN,eG,eH,List.map_cons,List.map_nil,List.toList_toArray] at c
 exact c
theorem b89:bI Tryz.prog 89 Tryz.f89 32:=⟨Tryz.func89,by kernel_rfl⟩
set_option maxHeartbeats 1000000 in
theorem xk (g:FuncId) (first caps:List V) (e:cJ→cJ→Bool) (a b:List cJ) (B:List (List V)) (T:List (Nat × Nat)) (hg:∀ x∈a,∀ y∈b,∀ J,aF Tryz.prog av g (first++[H7 x,H7 y]++caps) ⟨B++J,T⟩ (aB (.d (.bool (e x y))) ⟨B++J,T⟩)) :
 aF Tryz.prog av 89 [.d (.sl (a.map lK)),.d (.sl (b.map lK)),.func g first caps] ⟨B,T⟩ (aB (.d (.bool (gd e a b))) ⟨B,T⟩):=by
 obtain ⟨N,hn⟩:∃ N,B.length=N:=⟨_,rfl⟩
 refine b89.go 8 rfl fun bk=>?_
 simp only [dP] at bk
 simp only [W,seval,Sb,hn]
 refine af.FD fun yg=>?_
 have mY:=yg 2
 simp only [gV,kr,nu,Nat.reduceBEq,Nat.reduceAdd,Nat.reduceSub,cond_true,cond_false,hn] at mY
 clear yg
 by_cases hl:a.length=b.length
 case neg =>
  have lO:decide ((a.length:Int)=(b.length:Int))=false:=decide_eq_false (by omega)
  refine af.go 200 ?_
  simp only [W,seval,Sb,lO,hn]
  refine af.ret Tryz.func89 rfl (Left.none ?_)
  rw [lR e a b hl]
  exact ⟨rfl,rfl⟩
 have lO:decide ((a.length:Int)=(b.length:Int))=true:=decide_eq_true (by omega)
 refine af.go 30 ?_
 simp only [W,seval,Sb,lO,hn]
 refine af.fits fun hf=>?_
 refine af.dc (fun i:Nat=>(aR 32 [(1,.d (.sl (b.map lK))),(2,.func g first caps),(15,.d (.sl (a.map lK))),(16,.d (.int .i64 a.length)),(17,.d (.int .i64 i))],⟨B,T⟩)) (fun i=>i≤a.length∧gd e a b=gd e (a.drop i) (b.drop i)) (fun i=>a.length - i) 0 ⟨by omega,rfl⟩ ?_ rfl ?_
 ·skip
  refine ay.env _ ?_
  simp only [cD,seval,hn]
 rintro i ⟨h1,h2⟩ ih
 dsimp only at h1 h2 ih ⊢
 by_cases au:i < a.length
 ·have hw:=az ((i:Int)+1) (by omega)
  have iy:i < b.length:=by omega
  have yo:=List.getElem?_eq_getElem au
  have yp:=List.getElem?_eq_getElem iy
  have aC:decide ((i:Int) < (a.length:Int))=true:=decide_eq_true (by omega)
  rw [kR e a b i au iy] at h2
  have rE:=hg a[i] (List.getElem_mem au) b[i] (List.getElem_mem iy)
  obtain ⟨x,hx⟩:∃ x,a[i]=x:=⟨_,rfl⟩
  obtain ⟨y,hy⟩:∃ y,b[i]=y:=⟨_,rfl⟩
  rw [hx] at yo h2 rE
  rw [hy] at yp h2 rE
  refine af.go 200 ?_
  simp only [W,seval,Sb,hn,List.getElem?_map,yo,yp,aC,iS]
  refine aU (rE _) ?_
  rintro _ _ ⟨rfl,rfl⟩
  refine af.go 200 ?_
  simp only [W,seval,Sb,hn]
  cases he:e x y
  ·simp only [W,seval,Sb,hn,he]
   refine af.ret Tryz.func89 rfl (Left.box ?_)
   rw [h2,he]
   exact ⟨rfl,rfl⟩
  ·simp only [W,seval,Sb,hn,he,hw]
   rw [he,Bool.true_and] at h2
   refine ih (i+1) ⟨au,h2⟩ (by omega) _ _ _ _ rfl ⟨by omega,Nat.le_refl _⟩ hf ?_
   refine bw.env _ ?_
   simp only [nU,seval,hn]
   exact mY
 ·have aC:decide ((i:Int) < (a.length:Int))=false:=decide_eq_false (by omega)
  refine af.go 200 ?_
  simp only [W,seval,Sb,hn,aC]
  refine af.ret Tryz.func89 rfl (Left.none ?_)
  rw [h2,nx e a b i (by omega) (by omega)]
  exact ⟨rfl,rfl⟩
def Sc:=by
 have c:=aM Tryz.f39 (by conv=>lhs;cbv)
 dsimp only [KK,eN,eG,eH,List.map_cons,List.map_nil,List.toList_toArray] at c
 exact c
theorem b39:bI Tryz.prog 39 Tryz.f39 32:=⟨Tryz.func39,by kernel_rfl⟩
set_option maxHeartbeats 1000000 in
theorem nW (g:FuncId) (first caps:List V) (e:bH→bH→Bool) (a b:List bH) (B:List (List V)) (T:List (Nat × Nat)) (hg:∀ x∈a,∀ y∈b,∀ J,aF Tryz.prog av g (first++[Cd x,Cd y]++caps) ⟨B++J,T⟩ (aB (.d (.bool (e x y))) ⟨B++J,T⟩)) :
 aF Tryz.prog av 39 [.d (.sl (a.map gf)),.d (.sl (b.map gf)),.func g first caps] ⟨B,T⟩ (aB (.d (.bool (gd e a b))) ⟨B,T⟩):=by
 obtain ⟨N,hn⟩:∃ N,B.length=N:=⟨_,rfl⟩
 refine b39.go 8 rfl fun bk=>?_
 simp only [dP] at bk
 simp only [W,seval,Sc,hn]
 refine af.FD fun yg=>?_
 have mY:=yg 2
 simp only [gV,kr,nu,Nat.reduceBEq,Nat.reduceAdd,Nat.reduceSub,cond_true,cond_false,hn] at mY
 clear yg
 by_cases hl:a.length=b.length
 case neg =>
  have lO:decide ((a.length:Int)=(b.length:Int))=false:=decide_eq_false (by omega)
  refine af.go 200 ?_
  simp only [W,seval,Sc,lO,hn]
  refine af.ret Tryz.func39 rfl (Left.none ?_)
  rw [lR e a b hl]
  exact ⟨rfl,rfl⟩
 have lO:decide ((a.length:Int)=(b.length:Int))=true:=decide_eq_true (by omega)
 refine af.go 30 ?_
 simp only [W,seval,Sc,lO,hn]
 refine af.fits fun hf=>?_
 refine af.dc (fun i:Nat=>(aR 32 [(1,.d (.sl (b.map gf))),(2,.func g first caps),(15,.d (.sl (a.map gf))),(16,.d (.int .i64 a.length)),(17,.d (.int .i64 i))],⟨B,T⟩)) (fun i=>i≤a.length∧gd e a b=gd e (a.drop i) (b.drop i)) (fun i=>a.length - i) 0 ⟨by omega,rfl⟩ ?_ rfl ?_
 ·skip
  refine ay.env _ ?_
  simp only [cD,seval,hn]
 rintro i ⟨h1,h2⟩ ih
 dsimp only at h1 h2 ih ⊢
 by_cases au:i < a.length
 ·have hw:=az ((i:Int)+1) (by omega)
  have iy:i < b.length:=by omega
  have yo:=List.getElem?_eq_getElem au
  have yp:=List.getElem?_eq_getElem iy
  have aC:decide ((i:Int) < (a.length:Int))=true:=decide_eq_true (by omega)
  rw [kR e a b i au iy] at h2
  have rE:=hg a[i] (List.getElem_mem au) b[i] (List.getElem_mem iy)
  obtain ⟨x,hx⟩:∃ x,a[i]=x:=⟨_,rfl⟩
  obtain ⟨y,hy⟩:∃ y,b[i]=y:=⟨_,rfl⟩
  rw [hx] at yo h2 rE
  rw [hy] at yp h2 rE
  refine af.go 200 ?_
  simp only [W,seval,Sc,hn,List.getElem?_map,yo,yp,aC,mq]
  refine aU (rE _) ?_
  rintro _ _ ⟨rfl,rfl⟩
  refine af.go 200 ?_
  simp only [W,seval,Sc,hn]
  cases he:e x y
  ·simp only [W,seval,Sc,hn,he]
   refine af.ret Tryz.func39 rfl (Left.box ?_)
   rw [h2,he]
   exact ⟨rfl,rfl⟩
  ·simp only [W,seval,Sc,hn,he,hw]
   rw [he,Bool.true_and] at h2
   refine ih (i+1) ⟨au,h2⟩ (by omega) _ _ _ _ rfl ⟨by omega,Nat.le_refl _⟩ hf ?_
   refine bw.env _ ?_
   simp only [nU,seval,hn]
   exact mY
 ·have aC:decide ((i:Int) < (a.length:Int))=false:=decide_eq_false (by omega)
  refine af.go 200 ?_
  simp only [W,seval,Sc,hn,aC]
  refine af.ret Tryz.func39 rfl (Left.none ?_)
  rw [h2,nx e a b i (by omega) (by omega)]
  exact ⟨rfl,rfl⟩
def Sd:=by
 have c:=aM Tryz.f44 (by conv=>lhs;cbv)
 dsimp only [KK,eN,eG,eH,List.map_cons,List.map_nil,List.toList_toArray] at c
 exact c
theorem b44:bI Tryz.prog 44 Tryz.f44 32:=⟨Tryz.func44,by kernel_rfl⟩
set_option maxHeartbeats 1000000 in
theorem tT (g:FuncId) (first caps:List V) (e:cG→cG→Bool) (a b:List cG) (B:List (List V)) (T:List (Nat × Nat)) (hg:∀ x∈a,∀ y∈b,∀ J,aF Tryz.prog av g (first++[yL x,yL y]++caps) ⟨B++J,T⟩ (aB (.d (.bool (e x y))) ⟨B++J,T⟩)) :
 aF Tryz.prog av 44 [.d (.sl (a.map ef)),.d (.sl (b.map ef)),.func g first caps] ⟨B,T⟩ (aB (.d (.bool (gd e a b))) ⟨B,T⟩):=by
 obtain ⟨N,hn⟩:∃ N,B.length=N:=⟨_,rfl⟩
 refine b44.go 8 rfl fun bk=>?_
 simp only [dP] at bk
 simp only [W,seval,Sd,hn]
 refine af.FD fun yg=>?_
 have mY:=yg 2
 simp only [gV,kr,nu,Nat.reduceBEq,Nat.reduceAdd,Nat.reduceSub,cond_true,cond_false,hn] at mY
 clear yg
 by_cases hl:a.length=b.length
 case neg =>
  have lO:decide ((a.length:Int)=(b.length:Int))=false:=decide_eq_false (by omega)
  refine af.go 200 ?_
  simp only [W,seval,Sd,lO,hn]
  refine af.ret Tryz.func44 rfl (Left.none ?_)
  rw [lR e a b hl]
  exact ⟨rfl,rfl⟩
 have lO:decide ((a.length:Int)=(b.length:Int))=true:=decide_eq_true (by omega)
 refine af.go 30 ?_
 simp only [W,seval,Sd,lO,hn]
 refine af.fits fun hf=>?_
 refine af.dc (fun i:Nat=>(aR 32 [(1,.d (.sl (b.map ef))),(2,.func g first caps),(15,.d (.sl (a.map ef))),(16,.d (.int .i64 a.length)),(17,.d (.int .i64 i))],⟨B,T⟩)) (fun i=>i≤a.length∧gd e a b=gd e (a.drop i) (b.drop i)) (fun i=>a.length - i) 0 ⟨by omega,rfl⟩ ?_ rfl ?_
 ·skip
  refine ay.env _ ?_
  simp only [cD,seval,hn]
 rintro i ⟨h1,h2⟩ ih
 dsimp only at h1 h2 ih ⊢
 by_cases au:i < a.length
 ·have hw:=az ((i:Int)+1) (by omega)
  have iy:i < b.length:=by omega
  have yo:=List.getElem?_eq_getElem au
  have yp:=List.getElem?_eq_getElem iy
  have aC:decide ((i:Int) < (a.length:Int))=true:=decide_eq_true (by omega)
  rw [kR e a b i au iy] at h2
  have rE:=hg a[i] (List.getElem_mem au) b[i] (List.getElem_mem iy)
  obtain ⟨x,hx⟩:∃ x,a[i]=x:=⟨_,rfl⟩
  obtain ⟨y,hy⟩:∃ y,b[i]=y:=⟨_,rfl⟩
  rw [hx] at yo h2 rE
  rw [hy] at yp h2 rE
  refine af.go 200 ?_
  simp only [W,seval,Sd,hn,List.getElem?_map,yo,yp,aC,wM]
  refine aU (rE _) ?_
  rintro _ _ ⟨rfl,rfl⟩
  refine af.go 200 ?_
  simp only [W,seval,Sd,hn]
  cases he:e x y
  ·simp only [W,seval,Sd,hn,he]
   refine af.ret Tryz.func44 rfl (Left.box ?_)
   rw [h2,he]
   exact ⟨rfl,rfl⟩
  ·simp only [W,seval,Sd,hn,he,hw]
   rw [he,Bool.true_and] at h2
   refine ih (i+1) ⟨au,h2⟩ (by omega) _ _ _ _ rfl ⟨by omega,Nat.le_refl _⟩ hf ?_
   refine bw.env _ ?_
   simp only [nU,seval,hn]
   exact mY
 ·have aC:decide ((i:Int) < (a.length:Int))=false:=decide_eq_false (by omega)
  refine af.go 200 ?_
  simp only [W,seval,Sd,hn,aC]
  refine af.ret Tryz.func44 rfl (Left.none ?_)
  rw [h2,nx e a b i (by omega) (by omega)]
  exact ⟨rfl,rfl⟩
def Se:=by
 have c:=aM Tryz.f45 (by conv=>lhs;cbv)
 dsimp only [KK,eN,eG,eH,List.map_cons,List.map_nil,List.toList_toArray] at c
 exact c
theorem b45:bI Tryz.prog 45 Tryz.f45 32:=⟨Tryz.func45,by kernel_rfl⟩
set_option maxHeartbeats 1000000 in
theorem xl (g:FuncId) (first caps:List V) (e:cn→cn→Bool) (a b:List cn) (B:List (List V)) (T:List (Nat × Nat)) (hg:∀ x∈a,∀ y∈b,∀ J,aF Tryz.prog av g (first++[yM x,yM y]++caps) ⟨B++J,T⟩ (aB (.d (.bool (e x y))) ⟨B++J,T⟩)) :
 aF Tryz.prog av 45 [.d (.sl (a.map cT)),.d (.sl (b.map cT)),.func g first caps] ⟨B,T⟩ (aB (.d (.bool (gd e a b))) ⟨B,T⟩):=by
 obtain ⟨N,hn⟩:∃ N,B.length=N:=⟨_,rfl⟩
 refine b45.go 8 rfl fun bk=>?_
 simp only [dP] at bk
 simp only [W,seval,Se,hn]
 refine af.FD fun yg=>?_
 have mY:=yg 2
 simp only [gV,kr,nu,Nat.reduceBEq,Nat.reduceAdd,Nat.reduceSub,cond_true,cond_false,hn] at mY
 clear yg
 by_cases hl:a.length=b.length
 case neg =>
  have lO:decide ((a.length:Int)=(b.length:Int))=false:=decide_eq_false (by omega)
  refine af.go 200 ?_
  simp only [W,seval,Se,lO,hn]
  refine af.ret Tryz.func45 rfl (Left.none ?_)
  rw [lR e a b hl]
  exact ⟨rfl,rfl⟩
 have lO:decide ((a.length:Int)=(b.length:Int))=true:=decide_eq_true (by omega)
 refine af.go 30 ?_
 simp only [W,seval,Se,lO,hn]
 refine af.fits fun hf=>?_
 refine af.dc (fun i:Nat=>(aR 32 [(1,.d (.sl (b.map cT))),(2,.func g first caps),(15,.d (.sl (a.map cT))),(16,.d (.int .i64 a.length)),(17,.d (.int .i64 i))],⟨B,T⟩)) (fun i=>i≤a.length∧gd e a b=gd e (a.drop i) (b.drop i)) (fun i=>a.length - i) 0 ⟨by omega,rfl⟩ ?_ rfl ?_
 ·skip
  refine ay.env _ ?_
  simp only [cD,seval,hn]
 rintro i ⟨h1,h2⟩ ih
 dsimp only at h1 h2 ih ⊢
 by_cases au:i < a.length
 ·have hw:=az ((i:Int)+1) (by omega)
  have iy:i < b.length:=by omega
  have yo:=List.getElem?_eq_getElem au
  have yp:=List.getElem?_eq_getElem iy
  have aC:decide ((i:Int) < (a.length:Int))=true:=decide_eq_true (by omega)
  rw [kR e a b i au iy] at h2
  have rE:=hg a[i] (List.getElem_mem au) b[i] (List.getElem_mem iy)
  obtain ⟨x,hx⟩:∃ x,a[i]=x:=⟨_,rfl⟩
  obtain ⟨y,hy⟩:∃ y,b[i]=y:=⟨_,rfl⟩
  rw [hx] at yo h2 rE
  rw [hy] at yp h2 rE
  refine af.go 200 ?_
  simp only [W,seval,Se,hn,List.getElem?_map,yo,yp,aC,mw]
  refine aU (rE _) ?_
  rintro _ _ ⟨rfl,rfl⟩
  refine af.go 200 ?_
  simp only [W,seval,Se,hn]
  cases he:e x y
  ·simp only [W,seval,Se,hn,he]
   refine af.ret Tryz.func45 rfl (Left.box ?_)
   rw [h2,he]
   exact ⟨rfl,rfl⟩
  ·simp only [W,seval,Se,hn,he,hw]
   rw [he,Bool.true_and] at h2
   refine ih (i+1) ⟨au,h2⟩ (by omega) _ _ _ _ rfl ⟨by omega,Nat.le_refl _⟩ hf ?_
   refine bw.env _ ?_
   simp only [nU,seval,hn]
   exact mY
 ·have aC:decide ((i:Int) < (a.length:Int))=false:=decide_eq_false (by omega)
  refine af.go 200 ?_
  simp only [W,seval,Se,hn,aC]
  refine af.ret Tryz.func45 rfl (Left.none ?_)
  rw [h2,nx e a b i (by omega) (by omega)]
  exact ⟨rfl,rfl⟩
mutual
def yq:aA→aA→Bool
 | .mk k n es,.mk k' n' W7=>decide (k=k') && (decide (n=n') && rm es W7)
def rm:List aA→List aA→Bool
 | [],[]=>true
 | t :: a,u :: b=>yq t u && rm a b
 | [],_ :: _=>false
 | _ :: _,[]=>false
end
mutual
def E4:aj→aj→Bool
 | .mk k t i ty ns ks,.mk k' t' i' YQ YR YS=>decide (k=k') && (decide (t=t') && (decide (i=i') && (yq ty YQ && (decide (ns=YR) && va ks YS))))
def va:List aj→List aj→Bool
 | [],[]=>true
 | t :: a,u :: b=>E4 t u && va a b
 | [],_ :: _=>false
 | _ :: _,[]=>false
end
mutual
def oo:aH→aH→Bool
 | .mk k ns ty ls es b e cs,.mk k' YR YQ ls' W7 b' e' Sf=>decide (k=k') && (decide (ns=YR) && (yq ty YQ && (va ls ls' && (va es W7 && (nX b b' && (nX e e' && qJ cs Sf))))))
def nX:List aH→List aH→Bool
 | [],[]=>true
 | t :: a,u :: b=>oo t u && nX a b
 | [],_ :: _=>false
 | _ :: _,[]=>false
def yP:cJ→cJ→Bool
 | .mk i b,.mk i' b'=>decide (i=i') && nX b b'
def qJ:List cJ→List cJ→Bool
 | [],[]=>true
 | t :: a,u :: b=>yP t u && qJ a b
 | [],_ :: _=>false
 | _ :: _,[]=>false
end
def yQ (p q:bH):Bool:=decide (p.name=q.name) && yq p.type q.type
def Gs (p q:cG):Bool:=decide (p.name=q.name) && gd yQ p.fields q.fields
def Kl (p q:cn):Bool:=decide (p.name=q.name) && (gd yQ p.params q.params && (gd yq p.results q.results && gd oo p.body q.body))
def Nl (p q:kW):Bool:=gd Gs p.structs q.structs && gd Kl p.funcs q.funcs
theorem Nm:∀ a b:List aA,rm a b=gd yq a b
 | [],[]=>by rw [rm,gd]
 | t :: a,u :: b=>by rw [rm,gd,Nm a b]
 | [],_ :: _=>by rw [rm,gd]<;>simp
 | _ :: _,[]=>by rw [rm,gd]<;>simp
theorem Bo:∀ a b:List aj,va a b=gd E4 a b
 | [],[]=>by rw [va,gd]
 | t :: a,u :: b=>by rw [va,gd,Bo a b]
 | [],_ :: _=>by rw [va,gd]<;>simp
 | _ :: _,[]=>by rw [va,gd]<;>simp
theorem vu:∀ a b:List aH,nX a b=gd oo a b
 | [],[]=>by rw [nX,gd]
 | t :: a,u :: b=>by rw [nX,gd,vu a b]
 | [],_ :: _=>by rw [nX,gd]<;>simp
 | _ :: _,[]=>by rw [nX,gd]<;>simp
theorem Io:∀ a b:List cJ,qJ a b=gd yP a b
 | [],[]=>by rw [qJ,gd]
 | t :: a,u :: b=>by rw [qJ,gd,Io a b]
 | [],_ :: _=>by rw [qJ,gd]<;>simp
 | _ :: _,[]=>by rw [qJ,gd]<;>simp
theorem T3 (t u:aA):yq t u=(decide (t.kind=u.kind) && (decide (t.name=u.name) && gd yq t.elem u.elem)):=by
 cases t;cases u
 rw [yq,Nm]
 rfl
theorem T4 (t u:aj):E4 t u=(decide (t.kind=u.kind) && (decide (t.text=u.text) && (decide (t.int=u.int) && (yq t.type u.type && (decide (t.names=u.names) && gd E4 t.kids u.kids))))):=by
 cases t;cases u
 rw [E4,Bo]
 rfl
theorem Qm (t u:aH):oo t u=(decide (t.kind=u.kind) && (decide (t.names=u.names) && (yq t.type u.type && (gd E4 t.aG u.aG && (gd E4 t.exprs u.exprs && (gd oo t.body u.body && (gd oo t.dh u.dh && gd yP t.cases u.cases))))))):=by
 cases t;cases u
 rw [oo,Bo,Bo,vu,vu,Io]
 rfl
theorem Qn (t u:cJ):yP t u=(decide (t.int=u.int) && gd oo t.body u.body):=by
 cases t;cases u
 rw [yP,vu]
 rfl
def Sg:=by
 have c:=aM Tryz.f86 (by conv=>lhs;cbv)
 dsimp only [KK,eN,eG,eH,List.map_cons,List.map_nil,List.toList_toArray] at c
 exact c
theorem b86:bI Tryz.prog 86 Tryz.f86 26:=⟨Tryz.func86,by kernel_rfl⟩
def YT:=by
 have c:=aM Tryz.f37 (by conv=>lhs;cbv)
 dsimp only [KK,eN,eG,eH,List.map_cons,List.map_nil,List.toList_toArray] at c
 exact c
theorem b37:bI Tryz.prog 37 Tryz.f37 24:=⟨Tryz.func37,by kernel_rfl⟩
def Qo:=by
 have c:=aM Tryz.f88 (by conv=>lhs;cbv)
 dsimp only [KK,eN,eG,eH,List.map_cons,List.map_nil,List.toList_toArray] at c
 exact c
theorem YU:bI Tryz.prog 88 Tryz.f88 45:=⟨Tryz.func88,by kernel_rfl⟩
def c85:=by
 have c:=aM Tryz.f85 (by conv=>lhs;cbv)
 dsimp only [KK,eN,eG,eH,List.map_cons,List.map_nil,List.toList_toArray] at c
 exact c
theorem b85:bI Tryz.prog 85 Tryz.f85 17:=⟨Tryz.func85,by kernel_rfl⟩
def Gt:=by
 have c:=aM Tryz.f43 (by conv=>lhs;cbv)
 dsimp only [KK,eN,eG,eH,List.map_cons,List.map_nil,List.toList_toArray] at c
 exact c
theorem b43:bI Tryz.prog 43 Tryz.f43 61:=⟨Tryz.func43,by kernel_rfl⟩
theorem DK (a b:List (List UInt8)) (i:Nat) (h:i < a.length) (h':i < b.length):decide (a.drop i=b.drop i)=(decide (a[i]=b[i]) && decide (a.drop (i+1)=b.drop (i+1))):=by
 rw [List.drop_eq_getElem_cons h,List.drop_eq_getElem_cons h']
 generalize a[i]=x
 generalize b[i]=y
 generalize a.drop (i+1)=p
 generalize b.drop (i+1)=q
 by_cases h1:x=y<;>by_cases h2:p=q<;>simp [h1,h2]
set_option maxHeartbeats 1000000 in
theorem DL (a b:List (List UInt8)) :
 aF Tryz.prog av 86 [.d (.sl (ij a)),.d (.sl (ij b))] ⟨[],[]⟩ (aB (.d (.bool (decide (a=b)))) ⟨[],[]⟩):=by
 refine b86.go 8 rfl fun bk=>?_
 simp only [dP] at bk
 simp only [W,seval,Sg]
 by_cases hl:a.length=b.length
 case neg =>
  have lO:decide ((a.length:Int)=(b.length:Int))=false:=decide_eq_false (by omega)
  have cm:decide (a=b)=false:=decide_eq_false (fun e=>hl (by rw [e]))
  refine af.go 200 ?_
  simp only [W,seval,Sg,lO]
  refine af.ret Tryz.func86 rfl (Left.empty ?_)
  rw [cm]
  exact ⟨rfl,rfl⟩
 have lO:decide ((a.length:Int)=(b.length:Int))=true:=decide_eq_true (by omega)
 refine af.go 30 ?_
 simp only [W,seval,Sg,lO]
 refine af.cV (fun i:Nat=>(aR 26 [(0,.d (.sl (ij a))),(1,.d (.sl (ij b))),(12,.d (.int .i64 a.length)),(13,.d (.int .i64 i))],⟨[],[]⟩)) (fun i=>i≤a.length∧decide (a=b)=decide (a.drop i=b.drop i)) (fun i=>a.length - i) 0 ⟨by omega,rfl⟩ ?_ rfl ?_
 ·skip
  refine ay.env _ ?_
  simp only [cD,seval]
 rintro i ⟨h1,h2⟩ ih
 dsimp only at h1 h2 ih ⊢
 by_cases au:i < a.length
 ·have hw:=az ((i:Int)+1) (by omega)
  have iy:i < b.length:=by omega
  have yo:=List.getElem?_eq_getElem au
  have yp:=List.getElem?_eq_getElem iy
  have aC:decide ((i:Int) < (a.length:Int))=true:=decide_eq_true (by omega)
  have acM:decide ((i:Int) < (b.length:Int))=true:=decide_eq_true (by omega)
  rw [DK a b i au iy] at h2
  refine af.go 20 ?_
  simp only [W,seval,Sg,aC]
  refine af.draw (by kernel_rfl) (by kernel_rfl) (pV 60 _ _ ?_)
  simp only [W,seval,Sg,yo,yp,iy]
  cases he:decide (a[i]=b[i])
  ·refine af.go 200 ?_
   simp only [W,seval,Sg,he]
   refine af.ret Tryz.func86 rfl (Left.empty ?_)
   rw [h2,he]
   exact ⟨rfl,rfl⟩
  ·refine af.go 200 ?_
   simp only [W,seval,Sg,he,hw]
   rw [he,Bool.true_and] at h2
   refine ih (i+1) ⟨au,h2⟩ (by omega) _ _ ?_ rfl
   refine ay.env _ ?_
   simp only [cD,seval]
 ·have aC:decide ((i:Int) < (a.length:Int))=false:=decide_eq_false (by omega)
  refine af.go 200 ?_
  simp only [W,seval,Sg,aC]
  refine af.ret Tryz.func86 rfl (Left.empty ?_)
  rw [h2,List.drop_eq_nil_of_le (by omega),List.drop_eq_nil_of_le (by omega)]
  exact ⟨rfl,rfl⟩
theorem xm (a b:List (List UInt8)) (S:Mem):aF Tryz.prog av 86 [.d (.sl (ij a)),.d (.sl (ij b))] S (aB (.d (.bool (decide (a=b)))) S):=(DL a b).same rfl rfl S
def Qp (t:aA):Prop:=∀ (u:aA) (S:Mem),aF Tryz.prog av 37 [aY t,aY u] S (aB (.d (.bool (yq t u))) S)
set_option maxHeartbeats 1000000 in
theorem yR (t:aA) (h:∀ x∈t.elem,Qp x):Qp t:=by
 intro u S
 refine aF.same (v:=.d (.bool (yq t u))) ?_ rfl rfl S
 rw [T3]
 have he:=fun B T=>lp 37 [] [] yq t.elem u.elem B T (fun x hx y _ J=>h x hx y _)
 unfold aY
 cases h1:decide (t.kind=u.kind)
 ·refine b37.go 200 rfl fun _=>?_
  simp only [W,seval,YT,h1]
  refine af.ret Tryz.func37 rfl (Left.empty ?_)
  exact ⟨rfl,rfl⟩
 cases h2:decide (t.name=u.name)
 ·refine b37.go 200 rfl fun _=>?_
  simp only [W,seval,YT,h1,h2]
  refine af.ret Tryz.func37 rfl (Left.empty ?_)
  exact ⟨rfl,rfl⟩
 refine b37.go 200 rfl fun _=>?_
 simp only [W,seval,YT,h1,h2]
 refine ag (he _ _) ?_
 rintro _ _ ⟨rfl,rfl⟩
 refine af.go 200 ?_
 simp only [W,seval,YT]
 refine af.ret Tryz.func37 rfl (Left.empty ?_)
 exact ⟨rfl,rfl⟩
mutual
theorem iE:∀ t:aA,Qp t
 | .mk k n es=>yR (.mk k n es) (sE es)
theorem sE:∀ (ts:List aA),∀ x∈ts,Qp x
 | [],_,h=>absurd h List.not_mem_nil
 | y :: l,x,h=>by
  rcases List.mem_cons.1 h with e | e
  ·rw [e];exact iE y
  ·exact sE l x e
end
def Qq (t:aj):Prop:=∀ (u:aj) (S:Mem),aF Tryz.prog av 88 [sn t,sn u] S (aB (.d (.bool (E4 t u))) S)
set_option maxHeartbeats 2000000 in
theorem yS (t:aj) (h:∀ x∈t.kids,Qq x):Qq t:=by
 intro u S
 refine aF.same (v:=.d (.bool (E4 t u))) ?_ rfl rfl S
 rw [T4]
 have he:=fun B T=>lq 88 [] [] E4 t.kids u.kids B T (fun x hx y _ J=>h x hx y _)
 have fD:=iE t.type u.type
 have hns:=xm t.names u.names
 unfold aY at fD
 unfold sn
 cases h1:decide (t.kind=u.kind)
 ·refine YU.go 200 rfl fun _=>?_
  simp only [W,seval,Qo,h1]
  refine af.ret Tryz.func88 rfl (Left.empty ?_)
  exact ⟨rfl,rfl⟩
 cases h2:decide (t.text=u.text)
 ·refine YU.go 200 rfl fun _=>?_
  simp only [W,seval,Qo,h1,h2]
  refine af.ret Tryz.func88 rfl (Left.empty ?_)
  exact ⟨rfl,rfl⟩
 cases h3:decide (t.int=u.int)
 ·refine YU.go 200 rfl fun _=>?_
  simp only [W,seval,Qo,h1,h2,h3]
  refine af.ret Tryz.func88 rfl (Left.empty ?_)
  exact ⟨rfl,rfl⟩
 refine YU.go 200 rfl fun _=>?_
 simp only [W,seval,Qo,h1,h2,h3]
 refine ag (fD _) ?_
 rintro _ _ ⟨rfl,rfl⟩
 cases h4:yq t.type u.type
 ·refine af.go 200 ?_
  simp only [W,seval,Qo,h4]
  refine af.ret Tryz.func88 rfl (Left.empty ?_)
  exact ⟨rfl,rfl⟩
 refine af.go 200 ?_
 simp only [W,seval,Qo,h4]
 refine ag (hns _) ?_
 rintro _ _ ⟨rfl,rfl⟩
 cases h5:decide (t.names=u.names)
 ·refine af.go 200 ?_
  simp only [W,seval,Qo,h5]
  refine af.ret Tryz.func88 rfl (Left.empty ?_)
  exact ⟨rfl,rfl⟩
 refine af.go 200 ?_
 simp only [W,seval,Qo,h5]
 refine ag (he _ _) ?_
 rintro _ _ ⟨rfl,rfl⟩
 refine af.go 200 ?_
 simp only [W,seval,Qo]
 refine af.ret Tryz.func88 rfl (Left.empty ?_)
 exact ⟨rfl,rfl⟩
mutual
theorem oZ:∀ t:aj,Qq t
 | .mk k t i ty ns ks=>yS (.mk k t i ty ns ks) (sF ks)
theorem sF:∀ (ts:List aj),∀ x∈ts,Qq x
 | [],_,h=>absurd h List.not_mem_nil
 | y :: l,x,h=>by
  rcases List.mem_cons.1 h with e | e
  ·rw [e];exact oZ y
  ·exact sF l x e
end
def DM (t:aH):Prop:=∀ (u:aH) (S:Mem),aF Tryz.prog av 43 [Bd t,Bd u] S (aB (.d (.bool (oo t u))) S)
set_option maxHeartbeats 1000000 in
theorem DN (t:cJ) (h:∀ x∈t.body,DM x) (u:cJ) (S:Mem):aF Tryz.prog av 85 [H7 t,H7 u] S (aB (.d (.bool (yP t u))) S):=by
 refine aF.same (v:=.d (.bool (yP t u))) ?_ rfl rfl S
 rw [Qn]
 have he:=fun B T=>iX 43 [] [] oo t.body u.body B T (fun x hx y _ J=>h x hx y _)
 unfold H7
 cases h1:decide (t.int=u.int)
 ·refine b85.go 200 rfl fun _=>?_
  simp only [W,seval,c85,h1]
  refine af.ret Tryz.func85 rfl (Left.empty ?_)
  exact ⟨rfl,rfl⟩
 refine b85.go 200 rfl fun _=>?_
 simp only [W,seval,c85,h1]
 refine ag (he _ _) ?_
 rintro _ _ ⟨rfl,rfl⟩
 refine af.go 200 ?_
 simp only [W,seval,c85]
 refine af.ret Tryz.func85 rfl (Left.empty ?_)
 exact ⟨rfl,rfl⟩
set_option maxHeartbeats 4000000 in
theorem yT (t:aH) (hb:∀ x∈t.body,DM x) (hl:∀ x∈t.dh,DM x) (hc:∀ c∈t.cases,∀ x∈c.body,DM x):DM t:=by
 intro u S
 refine aF.same (v:=.d (.bool (oo t u))) ?_ rfl rfl S
 rw [Qm]
 have hns:=xm t.names u.names
 have fD:=iE t.type u.type
 have hle:=fun B T=>lq 88 [] [] E4 t.aG u.aG B T (fun x hx y _ J=>oZ x y _)
 have hex:=fun B T=>lq 88 [] [] E4 t.exprs u.exprs B T (fun x hx y _ J=>oZ x y _)
 have Bl:=fun B T=>iX 43 [] [] oo t.body u.body B T (fun x hx y _ J=>hb x hx y _)
 have Fg:=fun B T=>iX 43 [] [] oo t.dh u.dh B T (fun x hx y _ J=>hl x hx y _)
 have OG:=fun B T=>xk 85 [] [] yP t.cases u.cases B T (fun x hx y _ J=>DN x (hc x hx) y _)
 unfold aY at fD
 unfold Bd
 cases h1:decide (t.kind=u.kind)
 ·refine b43.go 200 rfl fun _=>?_
  simp only [W,seval,Gt,h1]
  refine af.ret Tryz.func43 rfl (Left.empty ?_)
  exact ⟨rfl,rfl⟩
 refine b43.go 200 rfl fun _=>?_
 simp only [W,seval,Gt,h1]
 refine ag (hns _) ?_
 rintro _ _ ⟨rfl,rfl⟩
 cases h2:decide (t.names=u.names)
 ·refine af.go 200 ?_
  simp only [W,seval,Gt,h2]
  refine af.ret Tryz.func43 rfl (Left.empty ?_)
  exact ⟨rfl,rfl⟩
 refine af.go 200 ?_
 simp only [W,seval,Gt,h2]
 refine ag (fD _) ?_
 rintro _ _ ⟨rfl,rfl⟩
 cases h3:yq t.type u.type
 ·refine af.go 200 ?_
  simp only [W,seval,Gt,h3]
  refine af.ret Tryz.func43 rfl (Left.empty ?_)
  exact ⟨rfl,rfl⟩
 refine af.go 200 ?_
 simp only [W,seval,Gt,h3]
 refine ag (hle _ _) ?_
 rintro _ _ ⟨rfl,rfl⟩
 cases h4:gd E4 t.aG u.aG
 ·refine af.go 200 ?_
  simp only [W,seval,Gt,h4]
  refine af.ret Tryz.func43 rfl (Left.empty ?_)
  exact ⟨rfl,rfl⟩
 refine af.go 200 ?_
 simp only [W,seval,Gt,h4]
 refine ag (hex _ _) ?_
 rintro _ _ ⟨rfl,rfl⟩
 cases h5:gd E4 t.exprs u.exprs
 ·refine af.go 200 ?_
  simp only [W,seval,Gt,h5]
  refine af.ret Tryz.func43 rfl (Left.empty ?_)
  exact ⟨rfl,rfl⟩
 refine af.go 200 ?_
 simp only [W,seval,Gt,h5]
 refine ag (Bl _ _) ?_
 rintro _ _ ⟨rfl,rfl⟩
 cases h6:gd oo t.body u.body
 ·refine af.go 200 ?_
  simp only [W,seval,Gt,h6]
  refine af.ret Tryz.func43 rfl (Left.empty ?_)
  exact ⟨rfl,rfl⟩
 refine af.go 200 ?_
 simp only [W,seval,Gt,h6]
 refine ag (Fg _ _) ?_
 rintro _ _ ⟨rfl,rfl⟩
 cases h7:gd oo t.dh u.dh
 ·refine af.go 200 ?_
  simp only [W,seval,Gt,h7]
  refine af.ret Tryz.func43 rfl (Left.empty ?_)
  exact ⟨rfl,rfl⟩
 refine af.go 200 ?_
 simp only [W,seval,Gt,h7]
 refine ag (OG _ _) ?_
 rintro _ _ ⟨rfl,rfl⟩
 refine af.go 200 ?_
 simp only [W,seval,Gt]
 refine af.ret Tryz.func43 rfl (Left.empty ?_)
 exact ⟨rfl,rfl⟩
mutual
theorem uH:∀ t:aH,DM t
 | .mk k ns ty ls es b e cs=>yT (.mk k ns ty ls es b e cs) (kC b) (kC e) (sG cs)
theorem kC:∀ (ts:List aH),∀ x∈ts,DM x
 | [],_,h=>absurd h List.not_mem_nil
 | y :: l,x,h=>by
  rcases List.mem_cons.1 h with e | e
  ·rw [e];exact uH y
  ·exact kC l x e
theorem sG:∀ (cs:List cJ),∀ c∈cs,∀ x∈c.body,DM x
 | [],_,h=>absurd h List.not_mem_nil
 | .mk i b :: l,c,h=>by
  rcases List.mem_cons.1 h with e | e
  ·rw [e];exact kC b
  ·exact sG l c e
end
def W8:=by
 have c:=aM Tryz.f12 (by conv=>lhs;cbv)
 dsimp only [KK,eN,eG,eH,List.map_cons,List.map_nil,List.toList_toArray] at c
 exact c
theorem b12:bI Tryz.prog 12 Tryz.f12 14:=⟨Tryz.func12,by kernel_rfl⟩
def c14:=by
 have c:=aM Tryz.f14 (by conv=>lhs;cbv)
 dsimp only [KK,eN,eG,eH,List.map_cons,List.map_nil,List.toList_toArray] at c
 exact c
theorem b14:bI Tryz.prog 14 Tryz.f14 9:=⟨Tryz.func14,by kernel_rfl⟩
def W9:=by
 have c:=aM Tryz.f138 (by conv=>lhs;cbv)
 dsimp only [KK,eN,eG,eH,List.map_cons,List.map_nil,List.toList_toArray] at c
 exact c
theorem aaL:bI Tryz.prog 138 Tryz.f138 7:=⟨Tryz.func138,by kernel_rfl⟩
def Xa:=by
 have c:=aM Tryz.f136 (by conv=>lhs;cbv)
 dsimp only [KK,eN,eG,eH,List.map_cons,List.map_nil,List.toList_toArray] at c
 exact c
theorem aaM:bI Tryz.prog 136 Tryz.f136 2:=⟨Tryz.func136,by kernel_rfl⟩
def Xb:=by
 have c:=aM Tryz.f113 (by conv=>lhs;cbv)
 dsimp only [KK,eN,eG,eH,List.map_cons,List.map_nil,List.toList_toArray] at c
 exact c
theorem aaN:bI Tryz.prog 113 Tryz.f113 2:=⟨Tryz.func113,by kernel_rfl⟩
def Xc:=by
 have c:=aM Tryz.f194 (by conv=>lhs;cbv)
 dsimp only [KK,eN,eG,eH,List.map_cons,List.map_nil,List.toList_toArray] at c
 exact c
theorem aaO:bI Tryz.prog 194 Tryz.f194 2:=⟨Tryz.func194,by kernel_rfl⟩
def Xd:=by
 have c:=aM Tryz.f191 (by conv=>lhs;cbv)
 dsimp only [KK,eN,eG,eH,List.map_cons,List.map_nil,List.toList_toArray] at c
 exact c
theorem aaP:bI Tryz.prog 191 Tryz.f191 2:=⟨Tryz.func191,by kernel_rfl⟩
def T5:=by
 have c:=aM Tryz.f171 (by conv=>lhs;cbv)
 dsimp only [KK,eN,eG,eH,List.map_cons,List.map_nil,List.toList_toArray] at c
 exact c
theorem T6:bI Tryz.prog 171 Tryz.f171 19:=⟨Tryz.func171,by kernel_rfl⟩
def Lm:=by
 have c:=aM Tryz.f68 (by conv=>lhs;cbv)
 dsimp only [KK,eN,eG,eH,List.map_cons,List.map_nil,List.toList_toArray] at c
 exact c
theorem b68:bI Tryz.prog 68 Tryz.f68 30:=⟨Tryz.func68,by kernel_rfl⟩
def c64:=by
 have c:=aM Tryz.f64 (by conv=>lhs;cbv)
 dsimp only [KK,eN,eG,eH,List.map_cons,List.map_nil,List.toList_toArray] at c
 exact c
theorem b64:bI Tryz.prog 64 Tryz.f64 37:=⟨Tryz.func64,by kernel_rfl⟩
mutual
theorem DO:∀ t u:aA,yq t u=qF t u
 | .mk k n es,.mk k' n' W7=>by
  rw [yq,qF,zP es]
  have e:(n == n')=decide (n=n'):=by rw [Bool.eq_iff_iff];simp
  show _=(decide (k=k') && (n == n') && _)
  rw [e,Bool.and_assoc]
  rfl
theorem zP:∀ l m:List aA,rm l m=fK l m
 | [],[]=>by unfold rm fK;rfl
 | [],_ :: _=>by unfold rm fK;rfl
 | _ :: _,[]=>by unfold rm fK;rfl
 | t :: l,u :: m=>by
  unfold rm fK
  rw [DO t u,zP l m]
end
theorem DP (t u:aA) (S:Mem):aF Tryz.prog av 37 [aY t,aY u] S (aB (.d (.bool (qF t u))) S):=by
 rw [← DO]
 exact iE t u S
theorem cR (B:List (List V)) (T:List (Nat × Nat)):aF Tryz.prog av 136 [] ⟨B,T⟩ (aB (aY aQ) ⟨B,T⟩):=by
 obtain ⟨N,hn⟩:∃ N,B.length=N:=⟨_,rfl⟩
 refine aaM.go 60 rfl fun _=>?_
 simp only [W,seval,Xa,hn]
 refine Qi (v:=?_) Tryz.func136 (by rfl) ?_ ?_
 rotate_left 1
 ·try simp only [W,seval,Xa,hn]
  exact rfl
 refine Left.box ?_
 exact ⟨rfl,rfl⟩
theorem fy (B:List (List V)) (T:List (Nat × Nat)):aF Tryz.prog av 113 [] ⟨B,T⟩ (aB (aY bz) ⟨B,T⟩):=by
 obtain ⟨N,hn⟩:∃ N,B.length=N:=⟨_,rfl⟩
 refine aaN.go 60 rfl fun _=>?_
 simp only [W,seval,Xb,hn]
 refine Qi (v:=?_) Tryz.func113 (by rfl) ?_ ?_
 rotate_left 1
 ·try simp only [W,seval,Xb,hn]
  exact rfl
 refine Left.box ?_
 exact ⟨rfl,rfl⟩
theorem sH (B:List (List V)) (T:List (Nat × Nat)):aF Tryz.prog av 194 [] ⟨B,T⟩ (aB (aY cg) ⟨B,T⟩):=by
 obtain ⟨N,hn⟩:∃ N,B.length=N:=⟨_,rfl⟩
 refine aaO.go 60 rfl fun _=>?_
 simp only [W,seval,Xc,hn]
 refine Qi (v:=?_) Tryz.func194 (by rfl) ?_ ?_
 rotate_left 1
 ·try simp only [W,seval,Xc,hn]
  exact rfl
 refine Left.box ?_
 exact ⟨rfl,rfl⟩
theorem Km (B:List (List V)) (T:List (Nat × Nat)):aF Tryz.prog av 191 [] ⟨B,T⟩ (aB (aY tR) ⟨B,T⟩):=by
 obtain ⟨N,hn⟩:∃ N,B.length=N:=⟨_,rfl⟩
 refine aaP.go 60 rfl fun _=>?_
 simp only [W,seval,Xd,hn]
 refine Qi (v:=?_) Tryz.func191 (by rfl) ?_ ?_
 rotate_left 1
 ·try simp only [W,seval,Xd,hn]
  exact rfl
 refine Left.box ?_
 exact ⟨rfl,rfl⟩
theorem sI (k:Int) (S:Mem):aF Tryz.prog av 12 [.d (.int .i64 k)] S (aB (.d (.int .u64 (iI k))) S):=by
 obtain ⟨B,T⟩:=S
 refine b12.go 160 rfl fun _=>?_
 simp only [W,seval,W8]
 repeat' ((first | refine bu (fun h=>?_) (fun h=>?_) | refine aW (fun h=>?_) (fun h=>?_))<;>simp only [W,seval,W8,h])
 all_goals
  refine af.ret Tryz.func12 rfl (Left.none ?_)
  unfold iI
  (try clear ih)
  (try simp only [jw] at *)
  simp only [jv,seval,aB]<;>simp [*]
theorem Kn (k:Int) (S:Mem):aF Tryz.prog av 14 [.d (.int .i64 k)] S (aB (.d (.bool (decide (k=3∨k=4)))) S):=by
 obtain ⟨B,T⟩:=S
 refine b14.go 160 rfl fun _=>?_
 simp only [W,seval,c14]
 repeat' ((first | refine bu (fun h=>?_) (fun h=>?_) | refine aW (fun h=>?_) (fun h=>?_))<;>simp only [W,seval,c14,h])
 all_goals
  refine af.ret Tryz.func14 rfl (Left.none ?_)
  (try clear ih)
  (try simp only [jw] at *)
  simp only [jv,seval,aB]<;>simp [*]
theorem fA (t:aA) (B:List (List V)) (T:List (Nat × Nat)):aF Tryz.prog av 138 [aY t] ⟨B,T⟩ (aB (.d (.bool (kB t.kind))) ⟨B,T⟩):=by
 obtain ⟨N,hn⟩:∃ N,B.length=N:=⟨_,rfl⟩
 unfold aY
 refine aaL.go 60 rfl fun _=>?_
 simp only [W,seval,W9,hn]
 refine ag (sI t.kind _) ?_
 rintro _ _ ⟨rfl,rfl⟩
 refine af.go 60 ?_
 simp only [W,seval,W9]
 refine af.ret Tryz.func138 rfl (Left.box ?_)
 rw [Nk]
 exact ⟨rfl,rfl⟩
def j9:=by
 have c:=aM Tryz.f172 (by conv=>lhs;cbv)
 dsimp only [KK,eN,eG,eH,List.map_cons,List.map_nil,List.toList_toArray] at c
 exact c
theorem Xe:bI Tryz.prog 172 Tryz.f172 52:=⟨Tryz.func172,by kernel_rfl⟩
def Qr:=by
 have c:=aM Tryz.f112 (by conv=>lhs;cbv)
 dsimp only [KK,eN,eG,eH,List.map_cons,List.map_nil,List.toList_toArray] at c
 exact c
theorem aaQ:bI Tryz.prog 112 Tryz.f112 22:=⟨Tryz.func112,by kernel_rfl⟩
theorem cS {X A C:List V} {x:aj} {kv:V} {a:Nat} (hX:X=A++aV x kv++C) (ha:A.length=a) :
 X[a]? = some (.d (.int .i64 x.kind))∧X[a+1]? = some (.d (.str x.text))∧X[a+2]? = some (.d (.int .u64 x.int))∧X[a+6]? = some (.d (.sl (ij x.names)))∧X[a+7]? = some kv∧a+8≤X.length∧(X.drop a).take 8=aV x kv∧a+3+3≤X.length∧(X.drop (a+3)).take 3=jK x.type:=by
 have e:X=A++(aV x kv++C):=by rw [hX,List.append_assoc]
 have g:∀ q,X[a+q]? = (aV x kv++C)[q]?:=fun q=>by rw [e,List.getElem?_append_right (by omega)];congr 1;omega
 have d:∀ q,X.drop (a+q)=(aV x kv++C).drop q:=fun q=>by rw [e,List.drop_append,List.drop_of_length_le (by omega),List.nil_append];congr 1;omega
 have hl:X.length=a+8+C.length:=by rw [e,List.length_append,List.length_append,ha];simp [aV];omega
 refine ⟨g 0,g 1,g 2,g 6,g 7,by omega,?_,by omega,?_⟩
 ·have:=d 0
  rw [Nat.add_zero] at this
  rw [this]
  rfl
 ·rw [d 3]
  rfl
theorem Ip {X A C:List V} {x:aj} {kv:V} {a:Nat} (hX:X=A++aV x kv++C) (ha:A.length=a) (t:aA):X.take (a+3)++(jK t++X.drop (a+3+3))=A++aV (setType x t) kv++C:=by
 have e:X=A++(aV x kv++C):=by rw [hX,List.append_assoc]
 rw [e,List.take_append,List.drop_append,List.drop_of_length_le (by omega),List.take_of_length_le (by omega),List.nil_append,List.append_assoc,List.append_assoc]
 rw [show a+3 - A.length=3 by omega,show a+3+3 - A.length=6 by omega]
 cases x
 rfl
theorem fX.first {B:List (List V)} {l:List aj} {lo hi:Nat} {v:V} {y:aj} {ks:List aj} (h:fX B l lo hi v) (hl:l=y :: ks):∃ j cap Y kv C,v = .bx j l.length cap∧B[j]? = some Y∧Y=[]++aV y kv++C:=by
 subst hl
 rcases h with ⟨h0,_⟩ | ⟨_,j,cap,Y,h1,_,_,h4,h5⟩
 ·cases h0
 ·unfold jT at h5
  obtain ⟨r,X',m,e1,e2,e3,e4,e5,e6⟩:=h5
  obtain ⟨kv,rfl,_⟩:=iW.1 e5
  exact ⟨j,cap,Y,kv,X',h1,h4,by rw [e1];rfl⟩
theorem Qs (x:aj):ic x=(decide (x.kind=2) || decide (x.kind=5) && (match x.kids with
 | y :: _=>decide (y.kind=2)
 | []=>false)):=by cases x;rfl
set_option maxHeartbeats 2000000 in
theorem Gu {x:aj} (hx:x.kind=5→x.kids ≠ []) {B:List (List V)} {lo hi:Nat} {kv:V} (ho:fX B x.kids lo hi kv) (T:List (Nat × Nat)):aF Tryz.prog av 171 [.agg (aV x kv)] ⟨B,T⟩ (aB (.d (.bool (ic x))) ⟨B,T⟩):=by
 obtain ⟨N,hn⟩:∃ N,B.length=N:=⟨_,rfl⟩
 have hl:=Qs x
 unfold aV
 by_cases h2:x.kind=2
 ·have e2:=decide_eq_true h2
  refine T6.go 60 rfl fun bk=>?_
  simp only [dP] at bk
  simp only [W,seval,T5,hn,e2]
  refine af.ret Tryz.func171 rfl (Left.box ?_)
  rw [hl,e2]
  exact ⟨rfl,rfl⟩
 have e2:=decide_eq_false h2
 by_cases h5:x.kind=5
 case neg =>
  have e5:=decide_eq_false h5
  refine T6.go 60 rfl fun bk=>?_
  simp only [dP] at bk
  simp only [W,seval,T5,hn,e2,e5]
  refine af.ret Tryz.func171 rfl (Left.box ?_)
  rw [hl,e2,e5]
  exact ⟨rfl,rfl⟩
 have e5:=decide_eq_true h5
 cases hk:x.kids with
 | nil=>exact absurd hk (hx h5)
 | cons y ks =>
  obtain ⟨j,cap,Y,mX,C,rfl,hY,hYe⟩:=ho.first hk
  obtain ⟨y0,_⟩:=cS hYe rfl
  have hj:j < N:=by have:=(List.getElem?_eq_some_iff.1 hY).1;omega
  have No:(0:Int) < (x.kids.length:Int):=by rw [hk];simp
  have y0:Y[0]? = some (.d (.int .i64 y.kind)):=y0
  rw [hk] at hl
  refine T6.go 60 rfl fun bk=>?_
  simp only [dP] at bk
  simp only [W,seval,T5,iL,hn,e2,e5,hj,hY,y0,No]
  refine af.ret Tryz.func171 rfl (Left.box ?_)
  rw [hl,e2,e5]
  exact ⟨rfl,rfl⟩
def lu (j lo hi:Nat) (A C:List V) (kv:V) (B B':List (List V)) (r:Option aj):Prop:=cx j lo hi B.length B B'∧B'.length=B.length∧∀ y,r=some y→B'[j]? = some (A++aV y kv++C)∧fX B' y.kids lo hi kv
def Xf (r:Option (aj × aA)) (v:V):Prop :=
 match r with
 | some (_,t)=>v = .bY [aY t,.d (.bool true)]
 | none=>∃ t,v = .bY [aY t,.d (.bool false)]
def mB (r:Option (aj × aA)) (j lo hi:Nat) (A C:List V) (kv:V) (B:List (List V)) (T:List (Nat × Nat)) (v:V) (S':Mem):Prop :=
 ∃ B',S' = ⟨B',T⟩∧lu j lo hi A C kv B B' (r.map Prod.fst)∧Xf r v
def qt (r:Option aj) (j lo hi:Nat) (A C:List V) (kv:V) (B:List (List V)) (T:List (Nat × Nat)) (v:V) (S':Mem):Prop :=
 ∃ B',S' = ⟨B',T⟩∧lu j lo hi A C kv B B' r∧v = .d (.bool r.isSome)
theorem cl.done {B B1:List (List V)} {n c s f w:Nat} {E:bP} {res:List aA} {j lo hi:Nat} {A C:List V} {kv:V} {x y:aj} (h:cl B n c s f w E res j lo hi A C kv x) (hd:lu j lo hi A C kv B B1 (some y)):cl B1 n c s f w E res j lo hi A C kv y :=
 h.OK (hd.1.less h.nl) (hd.2.2 y rfl).1 (hd.2.2 y rfl).2
theorem fN {B1:List (List V)} {m i:Nat} (h:i < m):(B1.take m)[i]? = B1[i]?:=by rw [List.getElem?_take,if_pos h]
theorem cl.fin {B B0 B1:List (List V)} {n c s f w:Nat} {E:bP} {res:List aA} {j lo hi:Nat} {A C:List V} {kv:V} {y:aj} {r:Option aj} (h:cl B n c s f w E res j lo hi A C kv y) (he:cx j lo hi B0.length B0 B1) (hn:n≤B0.length) (hb:∀ i,i < n→B1[i]? = B[i]?) (hr:∀ z,r=some z→z=y):lu j lo hi A C kv B0 (B1.take B0.length) r:=by
 refine ⟨he.cut,by have:=he.1;rw [List.length_take];omega,fun z hz=>?_⟩
 obtain rfl:=hr z hz
 obtain ⟨n1,n2,n3,n4,n5,n6⟩:=h.nb
 exact ⟨by rw [List.getElem?_take,if_pos (by omega),hb _ n5];exact h.row,h.own.frame fun i _ hi=>by rw [List.getElem?_take,if_pos (by omega)];exact hb i (by omega)⟩
theorem lu.none {j lo hi:Nat} {A C:List V} {kv:V} {B0 B1:List (List V)} {r:Option aj} (he:cx j lo hi B0.length B0 B1) (hr:r=Option.none):lu j lo hi A C kv B0 (B1.take B0.length) r:=⟨he.cut,by have:=he.1;rw [List.length_take];omega,fun z hz=>by rw [hr] at hz;cases hz⟩
theorem cl.qK {B0 M B1:List (List V)} {n c s f w:Nat} {E:bP} {res:List aA} {j lo hi:Nat} {A C:List V} {kv:V} {x:aj} (h:cl B0 n c s f w E res j lo hi A C kv x) (he:cx j lo hi M.length M B1) {i:Nat} (hi:n≤i) (hl:i < M.length):B1[i]? = M[i]?:=by
 obtain ⟨n1,n2,n3,n4,n5,n6⟩:=h.nb
 exact he.2.1 i hl ⟨by omega,by omega⟩
def dN (E:bP) (res:List aA) (x:aj):Prop:=∀ (want:aA) (n c s f w:Nat) (B:List (List V)) (T:List (Nat × Nat)) (j lo hi:Nat) (A C:List V) (kv:V),cl B n c s f w E res j lo hi A C kv x →
 aF Tryz.prog av 135 [.ptr c 0,.ptr j A.length,aY want] ⟨B,T⟩ (mB (aE E x want) j lo hi A C kv B T)
theorem nF {r:Option (aj × aA)} {v:V} (h:Xf r v):∃ t b,v = .bY [aY t,.d (.bool b)]∧(b=true→∃ y,r=some (y,t))∧(b=false→r=none):=by
 cases r with
 | none =>
  obtain ⟨t,rfl⟩:=h
  exact ⟨t,false,rfl,(fun h=>by cases h),fun _=>rfl⟩
 | some p =>
  obtain ⟨y,t⟩:=p
  exact ⟨t,true,h,fun _=>⟨y,rfl⟩,fun h=>by cases h⟩
section
variable {E:bP} {res:List aA} {n c s f w:Nat} {B:List (List V)} {T:List (Nat × Nat)} {j lo hi:Nat} {A C:List V} {kv:V}
set_option maxHeartbeats 4000000 in
theorem iY {x:aj} (hx:dN E res x) (want:aA) (h:cl B n c s f w E res j lo hi A C kv x):aF Tryz.prog av 112 [.ptr c 0,.ptr j A.length,aY want] ⟨B,T⟩ (qt (bf (aE E x want) want) j lo hi A C kv B T):=by
 obtain ⟨N,hn⟩:∃ N,B.length=N:=⟨_,rfl⟩
 have ht:=fun J=>hx want n c s f w (B++J) T j lo hi A C kv h.more
 unfold aY at ht ⊢
 refine aaQ.go 160 rfl fun bk=>?_
 simp only [dP] at bk
 simp only [W,seval,Qr,hn]
 refine aU (ht _) ?_
 rintro v _ ⟨B1,rfl,hd,hv⟩
 obtain ⟨t,b,rfl,me,jc⟩:=nF hv
 have gS:=h.nl
 have bg:=hd.2.1
 rw [List.length_append,hn] at bg
 have f0:=h.qK hd.1 (i:=N) (by omega) (by simp [hn])
 rw [cL hn] at f0
 simp only [List.getElem?_cons_zero] at f0
 have e1:=cx.new.step hd.1
 have dy:N < N+1:=by omega
 cases b
 ·refine af.go 160 ?_
  simp only [W,seval,Qr,bg,f0,dy,aY]
  refine af.ret Tryz.func112 rfl (aq e1.app ?_)
  have hr:=jc rfl
  exact ⟨_,rfl,.none e1.app (by rw [hr];rfl),by rw [hr];rfl⟩
 ·refine af.go 160 ?_
  simp only [W,seval,Qr,bg,f0,dy,aY]
  refine ag (DP t want _) ?_
  rintro _ _ ⟨rfl,rfl⟩
  refine af.go 160 ?_
  simp only [W,seval,Qr]
  refine af.ret Tryz.func112 rfl (aq e1.app ?_)
  obtain ⟨y,hr⟩:=me rfl
  rw [hr] at hd ⊢
  unfold bf
  dsimp only
  cases qF t want
  ·exact ⟨_,rfl,.none e1.app rfl,rfl⟩
  ·exact ⟨_,rfl,(h.more.done hd).fin e1.app (by omega) (fun i hi=>ah (by omega)) (fun z hz=>(Option.some.inj hz).symm),rfl⟩
end
theorem Gv (x:aj) (t:aA):(setType x t).kids=x.kids:=by cases x;rfl
theorem cl.ty {B:List (List V)} {n c s f w:Nat} {E:bP} {res:List aA} {j lo hi:Nat} {A C:List V} {kv:V} {x:aj} (h:cl B n c s f w E res j lo hi A C kv x) (t:aA):lu j lo hi A C kv B (B.set j (A++aV (setType x t) kv++C)) (some (setType x t)):=by
 obtain ⟨n1,n2,n3,n4,n5,n6⟩:=h.nb
 have hl:=h.nl
 have hj:j < B.length:=by omega
 have Vd:=h.jo
 refine ⟨⟨by rw [List.length_set];exact Nat.le_refl _,fun i _ ho=>List.getElem?_set_ne (fun e=>ho.1 e.symm),fun i _ Y hY v hv=>?_⟩,List.length_set,fun y hy=>?_⟩
 ·by_cases e:i=j
  ·subst e
   rw [List.getElem?_set_self hj] at hY
   obtain rfl:=Option.some.inj hY
   exact (tS v hv).imp (fun hm=>⟨_,h.row,hm⟩) id
  ·rw [List.getElem?_set_ne fun h=>e h.symm] at hY
   exact .inl ⟨Y,hY,hv⟩
 ·obtain rfl:=Option.some.inj hy
  refine ⟨List.getElem?_set_self hj,?_⟩
  rw [Gv]
  exact h.own.frame fun i h1 h2=>List.getElem?_set_ne (by omega)
theorem Xg {k:Int} (h:k=3∨k=4):IntKind.u64.wrap (iI k+1)=iI k+1:=by
 rcases h with rfl | rfl<;>rfl
section
variable {E:bP} {res:List aA} {n c s f w:Nat} {B:List (List V)} {T:List (Nat × Nat)} {j lo hi:Nat} {A C:List V} {kv:V}
set_option maxHeartbeats 4000000 in
theorem DQ {x:aj} (hx:x.kind=5→x.kids ≠ []) (want:aA) (h:cl B n c s f w E res j lo hi A C kv x):aF Tryz.prog av 172 [.ptr j A.length,aY want] ⟨B,T⟩ (mB (nA x want) j lo hi A C kv B T):=by
 obtain ⟨N,hn⟩:∃ N,B.length=N:=⟨_,rfl⟩
 obtain ⟨a,ha⟩:∃ a,A.length=a:=⟨_,rfl⟩
 obtain ⟨X,hX⟩:∃ X,A++aV x kv++C=X:=⟨_,rfl⟩
 obtain ⟨x0,x1,x2,x6,x7,x8,x9,kJ,mC⟩:=cS hX.symm ha
 have aD:=h.row
 rw [hX] at aD
 have hj:j < N:=by have:=(List.getElem?_eq_some_iff.1 aD).1;omega
 have gS:=h.nl
 have en:∀ J,cx j lo hi B.length B (B++J):=fun _=>cx.new
 rw [ha]
 unfold aY
 by_cases h5:x.kind=5
 ·have e5:=decide_eq_true h5
  cases hk:x.kids with
  | nil=>exact absurd hk (hx h5)
  | cons y ks =>
   obtain ⟨j1,cap,eL,dK,A1,C1,mX,rfl,a1,⟨a2,_⟩,k1,k2,k3⟩:=h.qI (k:=0) (y:=y) (by rw [hk];rfl)
   obtain ⟨Y,hY⟩:∃ Y,A1++aV y mX++C1=Y:=⟨_,rfl⟩
   have a1:A1.length=0:=by omega
   obtain ⟨y0,y1,y2,y6,y7,y8,y9,Ve,y11⟩:=cS hY.symm a1
   have lZ:=k1.row
   rw [hY] at lZ
   have qR:j1 < N:=by omega
   rw [Nat.zero_add] at y2 Ve
   have No:(0:Int) < (x.kids.length:Int):=by rw [hk];simp
   have kS:=Ip hY.symm a1 want
   simp only [Nat.zero_add,Nat.reduceAdd,jK,List.cons_append,List.nil_append] at kS
   have hp:nA x want=if (want.kind=3∨want.kind=4)∧y.int≤iI want.kind+1 then some (aT x (setType y want :: ks),want) else none:=by
    unfold nA;rw [if_pos h5,hk]
   rw [hp]
   have hd:=k1.ty want
   obtain ⟨Z,hZ⟩:∃ Z,A1++aV (setType y want) mX++C1=Z:=⟨_,rfl⟩
   rw [hZ] at kS hd
   refine Xe.go 160 rfl fun bk=>?_
   simp only [dP] at bk
   simp only [W,seval,j9,hn]
   refine ag (sI want.kind _) ?_
   rintro _ _ ⟨rfl,rfl⟩
   refine af.go 160 ?_
   simp only [W,seval,j9,iL,hn,hj,aD,x0,x7,e5,qR,lZ,No]
   refine ag (Kn want.kind _) ?_
   rintro _ _ ⟨rfl,rfl⟩
   by_cases hs:want.kind=3∨want.kind=4
   ·have es:=decide_eq_true hs
    have hw:=Xg hs
    by_cases jX:y.int≤iI want.kind+1
    ·have ei:decide (iI want.kind+1 < y.int)=false:=decide_eq_false (by omega)
     refine af.go 160 ?_
     simp only [W,seval,j9,hn,qR,lZ,y2,y8,Ve,es,hw,ei,Bool.not_true,kS,jK]
     have e1:=(cx.refl j lo hi B.length B).trans (k2 _ _ hd.1)
     refine cH (v:=?_) (u:=?_) Tryz.func172 (by rfl) ?_ ?_ ?_
     rotate_left 2
     ·try simp only [W,seval,j9,hn,qR]
      exact rfl
     ·try simp only [W,seval,j9,hn,qR]
      exact rfl
     refine aq e1.app ?_
     rw [if_pos ⟨hs,jX⟩]
     refine ⟨_,rfl,?_,rfl⟩
     have k4:=k3 _ _ (hd.1.less gS) (hd.2.2 _ rfl).1 (hd.2.2 _ rfl).2
     exact k4.fin e1.app gS (fun i hi=>ah (by rw [List.length_set];omega)) (fun z hz=>by rw [← Option.some.inj hz,hk];rfl)
    ·have ei:decide (iI want.kind+1 < y.int)=true:=decide_eq_true (by omega)
     refine af.go 160 ?_
     simp only [W,seval,j9,hn,qR,lZ,y2,y8,Ve,es,hw,ei,Bool.not_true]
     refine ag (cR _ _) ?_
     rintro _ _ ⟨rfl,rfl⟩
     refine af.go 160 ?_
     simp only [W,seval,j9,hn,aY]
     refine cH (v:=?_) (u:=?_) Tryz.func172 (by rfl) ?_ ?_ ?_
     rotate_left 2
     ·try simp only [W,seval,j9,hn]
      exact rfl
     ·try simp only [W,seval,j9,hn]
      exact rfl
     refine aq (en _) ?_
     rw [if_neg fun h=>jX h.2]
     exact ⟨_,rfl,.none (en _) rfl,aQ,rfl⟩
   ·have es:=decide_eq_false hs
    refine af.go 160 ?_
    simp only [W,seval,j9,hn,es,Bool.not_false]
    refine ag (cR _ _) ?_
    rintro _ _ ⟨rfl,rfl⟩
    refine af.go 160 ?_
    simp only [W,seval,j9,hn,aY]
    refine cH (v:=?_) (u:=?_) Tryz.func172 (by rfl) ?_ ?_ ?_
    rotate_left 2
    ·try simp only [W,seval,j9,hn]
     exact rfl
    ·try simp only [W,seval,j9,hn]
     exact rfl
    refine aq (en _) ?_
    rw [if_neg fun h=>hs h.1]
    exact ⟨_,rfl,.none (en _) rfl,aQ,rfl⟩
 ·have e5:=decide_eq_false h5
  have hp:nA x want=if iI want.kind=0∨iI want.kind < x.int then none else some (setType x want,want):=by
   unfold nA;rw [if_neg h5]
  rw [hp]
  have kS:=Ip hX.symm ha want
  simp only [jK,List.cons_append,List.nil_append] at kS
  have hd:=h.ty want
  obtain ⟨Z,hZ⟩:∃ Z,A++aV (setType x want) kv++C=Z:=⟨_,rfl⟩
  rw [hZ] at kS hd
  refine Xe.go 160 rfl fun bk=>?_
  simp only [dP] at bk
  simp only [W,seval,j9,hn]
  refine ag (sI want.kind _) ?_
  rintro _ _ ⟨rfl,rfl⟩
  by_cases h0:iI want.kind=0
  ·have e0:=decide_eq_true h0
   refine af.go 160 ?_
   simp only [W,seval,j9,hn,hj,aD,x0,e5,e0]
   refine ag (cR _ _) ?_
   rintro _ _ ⟨rfl,rfl⟩
   refine af.go 160 ?_
   simp only [W,seval,j9,hn,aY]
   refine cH (v:=?_) (u:=?_) Tryz.func172 (by rfl) ?_ ?_ ?_
   rotate_left 2
   ·try simp only [W,seval,j9,hn]
    exact rfl
   ·try simp only [W,seval,j9,hn]
    exact rfl
   refine aq (en _) ?_
   rw [if_pos (.inl h0)]
   exact ⟨_,rfl,.none (en _) rfl,aQ,rfl⟩
  have e0:=decide_eq_false h0
  by_cases jX:iI want.kind < x.int
  ·have ei:=decide_eq_true jX
   refine af.go 160 ?_
   simp only [W,seval,j9,hn,hj,aD,x0,x2,e5,e0,ei]
   refine ag (cR _ _) ?_
   rintro _ _ ⟨rfl,rfl⟩
   refine af.go 160 ?_
   simp only [W,seval,j9,hn,aY]
   refine cH (v:=?_) (u:=?_) Tryz.func172 (by rfl) ?_ ?_ ?_
   rotate_left 2
   ·try simp only [W,seval,j9,hn]
    exact rfl
   ·try simp only [W,seval,j9,hn]
    exact rfl
   refine aq (en _) ?_
   rw [if_pos (.inr jX)]
   exact ⟨_,rfl,.none (en _) rfl,aQ,rfl⟩
  ·have ei:=decide_eq_false jX
   refine af.go 160 ?_
   simp only [W,seval,j9,hn,hj,aD,x0,x2,kJ,e5,e0,ei,kS,jK]
   have e1:=(cx.refl j lo hi B.length B).trans hd.1
   refine cH (v:=?_) (u:=?_) Tryz.func172 (by rfl) ?_ ?_ ?_
   rotate_left 2
   ·try simp only [W,seval,j9,hn,hj]
    exact rfl
   ·try simp only [W,seval,j9,hn,hj]
    exact rfl
   refine aq e1.app ?_
   rw [if_neg fun h=>h.elim h0 jX]
   refine ⟨_,rfl,?_,rfl⟩
   exact (h.done hd).fin e1.app gS (fun i hi=>ah (by rw [List.length_set];omega)) (fun z hz=>(Option.some.inj hz).symm)
end
set_option maxHeartbeats 1000000 in
theorem nY {σ:Type} (g:FuncId) (first caps:List V) (mem:σ→Mem) (f:bH→σ→Bool × σ) (hm:∀ s s',(mem s).boxes.length=(mem s').boxes.length∧(mem s).aL.length=(mem s').aL.length) (l:List bH) (hl:l.length≤9223372036854775807) (s0:σ) (hg:Good Tryz.prog av g first caps Cd mem f l s0) :
 aF Tryz.prog av 106 [.d (.sl (l.map gf)),.func g first caps] (mem s0) (aB (.d (.int .i64 (bB f l 0 s0).1)) (mem (bB f l 0 s0).2)):=by
 refine aF.body Tryz.func106 rfl (by kernel_rfl) ?_
 refine af.go 100 ?_
 simp only [Tryz.f106,WO,seval]
 refine af.cV (fun p:Nat × σ=>(eT 19 [(0,.d (.sl (l.map gf))),(1,.func g first caps),(6,.d (.sl (l.map gf))),(7,.d (.int .i64 l.length)),(8,.d (.int .i64 p.1))],mem p.2)) (fun p=>p.1≤l.length∧bB f l 0 s0=bB f (l.drop p.1) p.1 p.2∧Good Tryz.prog av g first caps Cd mem f (l.drop p.1) p.2) (fun p=>l.length - p.1) (0,s0) ⟨by omega,rfl,hg⟩ ?_ rfl ?_
 ·simp only [eT,List.replicate_succ,List.replicate_zero,List.foldl_cons,List.foldl_nil,List.set_cons_zero,List.set_cons_succ,gO,eq_self,or_true,true_or,and_self,Int.natCast_add,Int.natCast_one,Int.natCast_zero]
 rintro ⟨i,s⟩ ⟨h1,h2,h3⟩ ih
 dsimp only at h1 h2 h3 ih ⊢
 by_cases au:i < l.length
 ·have hw:=az ((i:Int)+1) (by omega)
  have mc:=List.getElem?_eq_getElem au
  rw [aX au] at h2 h3
  obtain ⟨h4,h5⟩:=h3
  have aC:decide ((i:Int) < (l.length:Int))=true:=decide_eq_true (by omega)
  refine af.go 100 ?_
  simp only [WO,seval,List.getElem?_map,mc,aC,hw,mq]
  refine aU h4 ?_
  rintro _ _ ⟨rfl,rfl⟩
  refine af.go 100 ?_
  simp only [WO,seval,hw]
  refine aW (fun h=>?_) (fun h=>?_)
  ·simp only [WO,seval,h]
   refine af.fits fun hf=>?_
   refine af.ret Tryz.func106 rfl (Left.fits hf (hm _ _).1 (hm _ _).2 ?_)
   have e:bB f (l[i] :: l.drop (i+1)) (i:Int) s=((i:Int),(f l[i] s).2):=by simp [bB,h]
   rw [h2,e]
   exact ⟨rfl,rfl⟩
  ·simp only [WO,seval,h,hw]
   have e:bB f (l[i] :: l.drop (i+1)) (i:Int) s=bB f (l.drop (i+1)) ((i+1:Nat):Int) (f l[i] s).2:=by simp [bB,h]
   refine ih (i+1,(f l[i] s).2) ⟨au,h2.trans e,h5 h⟩ (by simp only;omega) _ _ ?_ rfl
   simp only [eT,List.replicate_succ,List.replicate_zero,List.foldl_cons,List.foldl_nil,List.set_cons_zero,List.set_cons_succ,gO,eq_self,or_true,true_or,and_self,Int.natCast_add,Int.natCast_one,Int.natCast_zero]
 ·have aC:decide ((i:Int) < (l.length:Int))=false:=decide_eq_false (by omega)
  refine af.go 100 ?_
  simp only [WO,seval,aC]
  refine af.fits fun hf=>?_
  refine af.ret Tryz.func106 rfl (Left.fits hf (hm _ _).1 (hm _ _).2 ?_)
  rw [h2,List.drop_eq_nil_of_le (by omega)]
  exact ⟨rfl,rfl⟩
theorem lz {σ:Type} (g:FuncId) (first caps:List V) (mem:σ→Mem) (f:bH→σ→Bool × σ) (hm:∀ s s',(mem s).boxes.length=(mem s').boxes.length∧(mem s).aL.length=(mem s').aL.length) (l:List bH) (hl:l.length≤9223372036854775807) (s0:σ) (hg:Good Tryz.prog av g first caps Cd mem f l s0) :
 aF Tryz.prog av 66 [.d (.sl (l.map gf)),.func g first caps] (mem s0) (aB (.d (.bool (mz f l s0).1)) (mem (mz f l s0).2)):=by
 obtain ⟨e1,e2⟩:=jx f l 0 s0 (Int.le_refl 0)
 refine aF.body Tryz.func66 rfl (by kernel_rfl) ?_
 refine af.go 100 ?_
 simp only [Tryz.f66,WO,seval]
 refine ag (nY g first caps mem f hm l hl s0 hg) ?_
 rintro _ _ ⟨rfl,rfl⟩
 refine af.go 100 ?_
 simp only [WO,seval,e1]
 refine af.fits fun hf=>?_
 refine af.ret Tryz.func66 rfl (Left.fits hf (hm _ _).1 (hm _ _).2 ?_)
 rw [e2]
 exact ⟨rfl,rfl⟩
def YV (B:List (List V)) (c:Nat) (E:bP) (res:List aA):Prop:=c < B.length∧∃ vv,B[c]? = some (TZ E.su E.fu vv res)∧iU B c vv E.vs
theorem YV.more {B J:List (List V)} {c:Nat} {E:bP} {res:List aA} (h:YV B c E res):YV (B++J) c E res:=by
 obtain ⟨h1,vv,h2,h3⟩:=h
 exact ⟨by rw [List.length_append];omega,vv,by rw [ah h1];exact h2,h3.more⟩
def Qt (r:Option (aj × aA)) (v:V):Prop :=
 match r with
 | some (y,t)=>v = .bY [sn y,aY t,.d (.bool true)]
 | none=>∃ y t,v = .bY [sn y,aY t,.d (.bool false)]
def wnR (r:Option aj) (v:V):Prop :=
 match r with
 | some y=>v = .bY [sn y,.d (.bool true)]
 | none=>∃ y,v = .bY [sn y,.d (.bool false)]
def alR (r:Option (List aj)) (v:V):Prop :=
 match r with
 | some l=>v = .bY [.d (.sl (l.map fO)),.d (.bool true)]
 | none=>v = .bY [.d (.sl []),.d (.bool false)]
theorem Qt.ne (r:Option (aj × aA)):∃ v,Qt r v:=by
 cases r with
 | none=>exact ⟨_,.mk 0 [] 0 aQ [] [],aQ,rfl⟩
 | some p=>exact ⟨_,rfl⟩
theorem wnR.ne (r:Option aj):∃ v,wnR r v:=by
 cases r with
 | none=>exact ⟨_,.mk 0 [] 0 aQ [] [],rfl⟩
 | some p=>exact ⟨_,rfl⟩
theorem alR.ne (r:Option (List aj)):∃ v,alR r v:=by
 cases r<;>exact ⟨_,rfl⟩
section
variable {E:bP} {res:List aA} {c:Nat} {B:List (List V)} {T:List (Nat × Nat)}
theorem lA (E:bP):∀ (l:List aj) (ts:List aA),l.length ≠ ts.length→bt E l ts=none
 | [],[],h=>absurd rfl h
 | [],_ :: _,_=>by unfold bt;rfl
 | _ :: _,[],_=>by unfold bt;rfl
 | x :: l,t :: ts,h=>by
  unfold bt
  rw [lA E l ts (by simpa using h)]
  cases bf (aE E x t) t<;>rfl
theorem o7 (E:bP) (l:List aj) (ts:List aA) (i:Nat) (h:i < l.length) (h':i < ts.length):bt E (l.drop i) (ts.drop i)=match bf (aE E l[i] ts[i]) ts[i] with
 | some y=>(bt E (l.drop (i+1)) (ts.drop (i+1))).map fun l=>y :: l
 | none=>none:=by
 rw [List.drop_eq_getElem_cons h,List.drop_eq_getElem_cons h']
 conv=>lhs;unfold bt
 rfl
end
section
variable {bs:List UInt8} {f:FuncId} {ar:List V} {s s':Ps} {v:V} {c:Nat} {B J:List (List V)} {T:List (Nat × Nat)} {stop:dY} {k:List Item} {d:Option Tmp} {env:List V}
theorem PP.call (h:PP bs f ar s v s') (hc:c < B.length) (zH:WK bs s) (hk:WK bs s'→stop k (aO env d v) ⟨B.set c (WQ bs s')++J,T⟩):rQ Tryz.prog av stop (.func f [] []) (.ptr c 0 :: ar) k d env ⟨B.set c (WQ bs s)++J,T⟩ :=
 PF.call (i:=0) h hc zH fun _=>hk
end
end Go.Proofs.YtnfnbjjnjjdjdaaGreatDoor
namespace Go.Proofs.YtnfnbjjnjjdjdaaGreatDoor
open Go.RowKit Go.Av Go.Ab
section
variable {bs:List UInt8} {f:FuncId} {ar:List V} {s s':Ps} {v:V} {c:Nat} {B J:List (List V)} {T:List (Nat × Nat)} {env:List V}
end
end Go.Proofs.YtnfnbjjnjjdjdaaGreatDoor
namespace Go.Ab
open Go.RowKit Go.Av
section
variable {P:Program} {I:Inv} {z:Nat × Nat} {fn:FuncId} {R:V→Mem→Prop} {k:List Item} {env:List V}
theorem af.after {α:Type} (pre K:List Item) (st:α→List V × Mem) (ok:α→Prop) {S:Mem} (h1:∀ a,ok a→af P I z fn K (st a).1 (st a).2 R)
 (h2:∀ K',(∀ a,ok a→∀ cF S',gO (st a).1 cF→(st a).2=S'→af P I z fn K' cF S' R)→af P I z fn (pre++K') env S R):af P I z fn (pre++K) env S R :=
 h2 K fun a ha _ _ he hS=>af.fV he (hS ▸ h1 a ha)
theorem VR.plain {c:Cx} {w:World} {rows:List (List D)} {tk:Tok} {v:Value} (h:VR c w (.sl rows tk) v):VR c w (.d (.sl rows)) v:=by
 cases h with
 | full _ a h ha=>exact .d _ _ h
 | own _ t a cap i h ht hr hn hl=>exact .d _ _ h
def lB (vs us:List V):Prop:=us.length=vs.length∧∀ j (hj:j < vs.length) (eS:j < us.length),us[j]=vs[j]∨∃ rows tk,vs[j] = .sl rows tk∧us[j] = .d (.sl rows)
theorem lB.nil:lB [] []:=⟨rfl,fun j hj=>absurd hj (Nat.not_lt_zero j)⟩
theorem lB.same {v:V} {vs us:List V} (h:lB vs us):lB (v :: vs) (v :: us):=⟨by simp [h.1],fun j hj eS=>by
 cases j with
 | zero=>exact .inl rfl
 | succ j=>exact h.2 j (by simpa using hj) (by simpa using eS)⟩
theorem lB.sl {rows:List (List D)} {tk:Tok} {vs us:List V} (h:lB vs us):lB (.sl rows tk :: vs) (.d (.sl rows) :: us):=⟨by simp [h.1],fun j hj eS=>by
 cases j with
 | zero=>exact .inr ⟨rows,tk,rfl,rfl⟩
 | succ j=>exact h.2 j (by simpa using hj) (by simpa using eS)⟩
theorem af.T7 {B:List (List V)} {T:List (Nat × Nat)} (i q:Nat) (vs:List V) (rows:List (List D)) (hi:B[i]? = some vs) (hq:vs[q]? = some (.sl rows .full)) (sz:Nat) (h0:0 < sz) (dJ:cy sz rows=true)
 (h:af P I z fn k env ⟨B.set i (vs.set q (.sl rows (.own T.length))),T++[(rows.length,sz)]⟩ R):af P I z fn k env ⟨B,T⟩ R:=by
 intro b a c w c0 w0 h1 h2 h3 h4 h5 h6 hI
 have hiB:=(List.getElem?_eq_some_iff.1 hi).1
 obtain ⟨hqv,Ar⟩:=List.getElem?_eq_some_iff.1 hq
 have hlen:B.length=c.ρ.length:=h5.len
 obtain ⟨b0,jc⟩:∃ b0,c.ρ[i]? = some b0:=⟨_,List.getElem?_eq_getElem (by omega)⟩
 have hT0:=h5.Aw jc hi (by
  rintro ks us rfl
  match q,hq with
  | 0,hq=>cases hq)
 obtain ⟨_,o,ho,oE,e1,e2⟩:=h5.box i b0 jc
 obtain ⟨cs,Ty,hh,e2,e3⟩:=e2.GZ ho hT0
 have e1:B[i]? = some oE:=e1
 rw [hi] at e1
 obtain rfl:=Option.some.inj e1
 have hv:=(e3 q hqv).1
 rw [Ar] at hv
 obtain ⟨c',r1,r2,r3⟩:=h5.token hv sz h0 (gv dJ)
 refine h b a c' w c0 w0 h1 h2 h3 (h4.ext r2) ?_ (h6.trans r2) ⟨r2.I.trans hI.1,hI.2⟩
 have RH:=r2.keeps.ρ i b0 jc
 have afl:(⟨B,T++[(rows.length,sz)]⟩:Mem).boxes[i]? = some vs:=hi
 refine ⟨r1.hB,by simpa using r1.len,fun j bj hj=>?_,r1.inj,r1.aL,r1.tok,r1.rG,r1.inv⟩
 obtain ⟨a',o',hh',us,f1,f2⟩:=r1.box j bj hj
 have f1:B[j]? = some us:=f1
 by_cases e:j=i
 ·subst e
  rw [hi] at f1
  obtain rfl:=Option.some.inj f1
  rw [RH] at hj
  obtain rfl:=Option.some.inj hj
  obtain ⟨Sf,Ty',Xh,g2,f3⟩:=f2.GZ hh' (hT0.imp fun T=>r2.keeps.ty b0 T)
  rw [hh] at Xh
  obtain ⟨rfl,rfl⟩:cs=Sf∧Ty=Ty':=by
   have:=Option.some.inj Xh
   simp at this
   exact this
  refine ⟨a',_,hh,vs.set q (.sl rows (.own T.length)),by show (B.set j _)[j]? = _;simp [hiB],.cells cs Ty _ (by simp [e2]) fun m hm=>?_⟩
  have Vf:m < vs.length:=by simpa using hm
  refine ⟨?_,(f3 m Vf).2⟩
  by_cases Xi:m=q
  ·subst Xi
   rw [List.getElem_set_self]
   exact r3
  ·rw [List.getElem_set_ne (fun h=>Xi h.symm)]
   exact (f3 m Vf).1
 ·exact ⟨a',o',hh',us,by show (B.set i _)[j]? = _;rw [List.getElem?_set_ne (fun h=>e h.symm)];exact f1,f2⟩
end
end Go.Ab
namespace Go.Proofs.YtnfnbjjnjjdjdaaGreatDoor
open Go.RowKit Go.Av Go.Ab
set_option linter.unusedSimpArgs false
set_option maxRecDepth 100000
theorem aF.less {P:Program} {I:Inv} {f:FuncId} {vs us:List V} {S:Mem} {R:V→Mem→Prop} (hl:lB vs us) (h:aF P I f us S R):aF P I f vs S R:=by
 refine ⟨h.1,fun c w xs h1 h2 h3 hI=>h.2 c w xs (by rw [h1,hl.1]) (fun j hj=>?_) h3 hI⟩
 have eS:j < vs.length:=by rw [← hl.1];exact hj
 rcases hl.2 j eS hj with e | ⟨rows,tk,e1,e2⟩
 ·rw [e];exact h2 j eS
 ·rw [e2]
  have:=h2 j eS
  rw [e1] at this
  exact this.plain
inductive DS:V→V→Prop
 | refl (v:V):DS v v
 | sl (rows:List (List D)) (tk:Tok):DS (.sl rows tk) (.d (.sl rows))
 | agg (vs us:List V):lB vs us→DS (.agg vs) (.agg us)
def DT (vs us:List V):Prop:=us.length=vs.length∧∀ j (hj:j < vs.length) (eS:j < us.length),DS vs[j] us[j]
theorem DT.nil:DT [] []:=⟨rfl,fun j hj=>absurd hj (Nat.not_lt_zero j)⟩
theorem DT.cons {v u:V} {vs us:List V} (hv:DS v u) (h:DT vs us):DT (v :: vs) (u :: us):=⟨by simp [h.1],fun j hj eS=>by
 cases j with
 | zero=>exact hv
 | succ j=>exact h.2 j (by simpa using hj) (by simpa using eS)⟩
theorem DU (x:aj):[fO x]=[x].map fO:=rfl
theorem Ko (x y:aj):[fO x,fO y]=[x,y].map fO:=rfl
section
variable {E:bP} {res:List aA} {c:Nat} {B:List (List V)} {T:List (Nat × Nat)}
end
set_option linter.defProp false
def kf:=by
 have c:=aM Tryz.f168 (by conv=>lhs;cbv)
 dsimp only [KK,eN,eG,eH,List.map_cons,List.map_nil,List.toList_toArray] at c
 exact c
theorem Xj:bI Tryz.prog 168 Tryz.f168 35:=⟨Tryz.func168,by kernel_rfl⟩
def aaR:=by
 have c:=aM Tryz.f193 (by conv=>lhs;cbv)
 dsimp only [KK,eN,eG,eH,List.map_cons,List.map_nil,List.toList_toArray] at c
 exact c
theorem aaS:bI Tryz.prog 193 Tryz.f193 8:=⟨Tryz.func193,by kernel_rfl⟩
theorem Gw (P:Program) (ev:Operand→V) (S:Mem) (t:TypeId) (m k:Operand) (ok:Bool):cU P ev S (.lookup t m k ok)=still S (cZ P S t (ev m) (ev k) ok):=rfl
theorem yU (P:Program) (ev:Operand→V) (S:Mem) (t:TypeId) (m k x:Operand):cU P ev S (.mapUpdate t m k x)=fh P S t (ev m) (ev k) (ev x):=rfl
theorem DV (P:Program) (ev:Operand→V) (S:Mem) (t:TypeId):cU P ev S (.makeMap t none)=some (.mp S.boxes.length,{ S with boxes:=S.boxes++[[.oy [] []]] }):=rfl
set_option linter.defProp false in
def ov:=And.intro Gw (And.intro yU DV)
theorem DW {α:Type} (nm:α→List UInt8) (v:α→V) (n:List UInt8):∀ l:List α,Cu (l.map nm) (l.map v) n=(eW nm l n).map v
 | []=>rfl
 | x :: l=>by
  have ih:=DW nm v n l
  unfold Cu at ih ⊢
  rw [List.map_cons,List.map_cons,j4,eW]
  by_cases h:nm x=n
  ·rw [if_pos h,if_pos h];rfl
  ·rw [if_neg h,if_neg h]
   cases hk:j4 (l.map nm) n with
   | none=>rw [hk] at ih;exact ih
   | some j=>rw [hk] at ih;exact ih
theorem sJ {t:Nat} {z:V} {α:Type} {nm:α→List UInt8} {g:α→V} {l:List α} {B:List (List V)} {T:List (Nat × Nat)} {i:Nat} (hz:qy Tryz.prog t=some z) (hb:B[i]? = some [.oy (l.map nm) (l.map g)]) (n:List UInt8) (ok:Bool):cZ Tryz.prog ⟨B,T⟩ t (.mp i) (.d (.str n)) ok=some (gy z ((eW nm l n).map g) ok):=by
 unfold cZ
 simp only [hz,hb,DW]
def Qu:V:=.agg [.d (.str []),.sl [] .full]
def Vg:V:=.agg [.d (.str []),.sl [] .full,.sl [] .full,.sl [] .full]
def YW:V:=.agg [.d (.int .i64 0),.d (.str []),.sl [] .full]
theorem Np:qy Tryz.prog 60=some Qu:=by kernel_rfl
theorem Nq:qy Tryz.prog 61=some Vg:=by kernel_rfl
theorem Gx:qy Tryz.prog 62=some YW:=by kernel_rfl
section
variable {E:bP} {res:List aA} {c s f w:Nat} {B:List (List V)} {T:List (Nat × Nat)}
theorem sD.lt (h:sD B c s f w E res):c < B.length∧s < B.length∧f < B.length∧w < B.length :=
 ⟨(List.getElem?_eq_some_iff.1 h.c).1,(List.getElem?_eq_some_iff.1 h.s).1,(List.getElem?_eq_some_iff.1 h.f).1,(List.getElem?_eq_some_iff.1 h.w).1⟩
theorem sD.more (h:sD B c s f w E res) (J:List (List V)):sD (B++J) c s f w E res :=
 h.eC (ah h.lt.1) (ah h.lt.2.1) (ah h.lt.2.2.1) (ah h.lt.2.2.2)
theorem sD.xp (h:sD B c s f w E res) (n:List UInt8) (ok:Bool) (J:List (List V)) (T:List (Nat × Nat)):cZ Tryz.prog ⟨B++J,T⟩ 60 (.mp s) (.d (.str n)) ok=some (gy Qu ((eW cG.name E.su n).map yL) ok):=sJ Np (h.more J).s n ok
theorem sD.Iq (h:sD B c s f w E res) (n:List UInt8) (ok:Bool) (J:List (List V)) (T:List (Nat × Nat)):cZ Tryz.prog ⟨B++J,T⟩ 61 (.mp f) (.d (.str n)) ok=some (gy Vg ((eW cn.name E.fu n).map yM) ok):=sJ Nq (h.more J).f n ok
theorem sD.gy (h:sD B c s f w E res) (n:List UInt8) (ok:Bool) (J:List (List V)) (T:List (Nat × Nat)):cZ Tryz.prog ⟨B++J,T⟩ 62 (.mp w) (.d (.str n)) ok=some (Go.Ab.gy YW ((eW bH.name E.vs n).map fun p=>aY p.type) ok):=sJ Gx (h.more J).w n ok
set_option maxHeartbeats 4000000 in
theorem Qv (n:List UInt8) (h:sD B c s f w E res):aF Tryz.prog av 64 [.ptr c 0,.d (.str n)] ⟨B,T⟩ (aB (.d (.bool (fq E.su E.fu n))) ⟨B,T⟩):=by
 obtain ⟨N,hn⟩:∃ N,B.length=N:=⟨_,rfl⟩
 have hi:c < N:=by rw [← hn];exact h.lt.1
 have hb:=h.c
 unfold yO at hb
 have hs:=h.xp n true [] T
 rw [List.append_nil] at hs
 have hf:=h.Iq n true
 have oV:fq E.su E.fu n=((eW cG.name E.su n).isNone && (eW cn.name E.fu n).isNone && !(decide (n=[95]))):=by
  unfold fq
  congr 2
  rw [Bool.eq_iff_iff];simp
 rw [oV]
 cases h1:eW cG.name E.su n<;>cases h2:eW cn.name E.fu n<;>rw [h1] at hs<;>rw [h2] at hf<;>simp only [Go.Ab.gy,Option.map_some,Option.map_none,if_true,Qu,Vg,yL,yM] at hs hf
 all_goals
  refine b64.go 160 rfl fun _=>?_
  simp only [W,seval,c64,ov,hn,hi,hb,hs,hf,Bool.not_true,Bool.not_false,Bool.true_eq_false,Bool.false_eq_true]
  refine af.ret Tryz.func64 rfl (Left.box ?_)
  exact ⟨rfl,rfl⟩
set_option maxHeartbeats 4000000 in
theorem zQ {t:aA} (ht:TW t) (h:sD B c s f w E res):aF Tryz.prog av 68 [.ptr c 0,aY t] ⟨B,T⟩ (aB (.d (.bool (bQ E.su t))) ⟨B,T⟩):=by
 obtain ⟨N,hn⟩:∃ N,B.length=N:=⟨_,rfl⟩
 have hi:c < N:=by rw [← hn];exact h.lt.1
 have m8:s < N:=by rw [← hn];exact h.lt.2.1
 have Ie:=h.s
 have hb:=h.c
 unfold yO at hb
 unfold aY
 refine b68.go 160 rfl fun bk=>?_
 simp only [dP] at bk
 simp only [W,seval,Lm,hn]
 refine af.cV (fun a:aA=>(aR 30 [(0,.ptr c 0),(3,.ptr N 0)],⟨B++[jK a],T⟩)) (fun a=>TW a∧bQ E.su a=bQ E.su t) (fun a=>SizeOf.sizeOf a) t ⟨ht,rfl⟩ ?_ rfl ?_
 ·skip
  refine ay.env _ ?_
  simp only [cD,seval]
 rintro a ⟨ha,h2⟩ ih
 cases ha with
 | sl n u hu =>
  rw [zO] at h2
  refine af.go 160 ?_
  simp only [W,seval,Lm,hn,jK,aA.kind,aA.name,aA.elem,decide_true,bC,bT,cB]
  refine ih u ⟨hu,h2⟩ (by simp;omega) _ _ ?_ rfl
  refine ay.env _ ?_
  simp only [cD,seval]
 | leaf k n es hk =>
  have e8:=decide_eq_false hk
  rw [uF _ _ _ _ hk] at h2
  rw [← h2]
  have hs:=h.xp n true
  clear ih h2
  cases h1:eW cG.name E.su n<;>rw [h1] at hs<;>simp only [Go.Ab.gy,Option.map_some,Option.map_none,if_true,Qu,yL] at hs
  all_goals
   refine af.go 160 ?_
   simp only [W,seval,Lm,hn,jK,aA.kind,aA.name,aA.elem,e8]
   refine af.bE 11 [] [c,s,N] (by kernel_rfl) (by kernel_rfl) (by kernel_rfl) (by kernel_rfl) (by kernel_rfl) (by kernel_rfl) (by kernel_rfl) ?_
   simp (maxSteps:=4000000) only [W,seval,Lm,xw,ov,hn,hi,hb,hs,m8,Ie]
   by_cases h7:k=7
   ·have e7:=decide_eq_true h7
    refine af.go 160 ?_
    simp only [W,seval,Lm,ov,hn,e7,Bool.not_true]
    refine af.ret Tryz.func68 rfl (Left.box ?_)
    simp only [h7]
    exact ⟨rfl,rfl⟩
   ·have e7:=decide_eq_false h7
    refine af.go 160 ?_
    simp only [W,seval,Lm,ov,hn,e7,Bool.not_false]
    refine af.ret Tryz.func68 rfl (Left.box ?_)
    try rw [show decide (k ≠ 7)=true from decide_eq_true h7]
    exact ⟨rfl,rfl⟩
theorem xq {α:Type} (nm:α→List UInt8):∀ {l:List α} {n:List UInt8} {x:α},eW nm l n=some x→x∈l
 | [],_,_,h=>by cases h
 | y :: l,n,x,h=>by
  unfold eW at h
  split at h
  ·rw [← Option.some.inj h];exact List.mem_cons_self
  ·exact List.mem_cons_of_mem _ (xq nm h)
theorem DX (n:List UInt8):∀ (l:List bH) (i:Int),(bB (fun (x:bH) (_:Unit)=>(decide (x.name=n),())) l i ()).1=xh bH.name l n i
 | [],_=>rfl
 | x :: l,i=>by
  unfold bB xh
  by_cases h:x.name=n
  ·rw [if_pos (decide_eq_true h),if_pos h]
  ·rw [if_neg (by simpa using h),if_neg h]
   exact DX n l (i+1)
theorem Kp (n:List UInt8) {i:Nat} {B:List (List V)} {T:List (Nat × Nat)} (hb:B[i]? = some [.d (.str n)]) (p:bH):aF Tryz.prog av 193 [Cd p,.ptr i 0] ⟨B,T⟩ (aB (.d (.bool (decide (p.name=n)))) ⟨B,T⟩):=by
 obtain ⟨N,hn⟩:∃ N,B.length=N:=⟨_,rfl⟩
 have hi:i < N:=by rw [← hn];exact (List.getElem?_eq_some_iff.1 hb).1
 unfold Cd
 refine aaS.go 60 rfl fun _=>?_
 simp only [W,seval,aaR,hn,hi,hb]
 refine af.ret Tryz.func193 rfl (Left.box ?_)
 exact ⟨rfl,rfl⟩
theorem zR {α:Type} {P:Program} {I:Inv} {g:FuncId} {first caps:List V} {DB:α→V} {S:Mem} {f:α→Bool}:∀ {l:List α},(∀ x∈l,aF P I g (first++[DB x]++caps) S (aB (.d (.bool (f x))) S))→Good P I g first caps DB (fun _:Unit=>S) (fun x _=>(f x,())) l ()
 | [],_=>trivial
 | x :: l,h=>⟨h x (by simp),fun _=>zR fun y hy=>h y (by simp [hy])⟩
theorem zS (n:List UInt8) {i:Nat} {B:List (List V)} {T:List (Nat × Nat)} (hb:B[i]? = some [.d (.str n)]) (l:List bH) (hl:l.length≤60000):aF Tryz.prog av 106 [.d (.sl (l.map gf)),.func 193 [] [.ptr i 0]] ⟨B,T⟩ (aB (.d (.int .i64 (xh bH.name l n 0))) ⟨B,T⟩):=by
 rw [← DX n l 0]
 exact nY 193 [] [.ptr i 0] (fun _:Unit=>⟨B,T⟩) (fun x _=>(decide (x.name=n),())) (fun _ _=>⟨rfl,rfl⟩) l (by omega) () (zR fun p _=>Kp n hb p)
set_option maxHeartbeats 4000000 in
theorem DY (hT:og E.su E.fu) (t:aA) (n:List UInt8) (h:sD B c s f w E res):aF Tryz.prog av 168 [.ptr c 0,aY t,.d (.str n)] ⟨B,T⟩ fun v S=>Gr (kY E.su t n) v∧S=⟨B,T⟩:=by
 obtain ⟨N,hn⟩:∃ N,B.length=N:=⟨_,rfl⟩
 have hi:c < N:=by rw [← hn];exact h.lt.1
 have m8:s < N:=by rw [← hn];exact h.lt.2.1
 have Ie:=h.s
 have hb:=h.c
 unfold yO at hb
 have hs:=h.xp t.name false
 have hf:kY E.su t n=if t.kind=7 then (match eW cG.name E.su t.name with
  | some s=>(eW bH.name s.fields n).map bH.type
  | none=>none) else none:=rfl
 rw [hf]
 unfold aY
 cases h1:eW cG.name E.su t.name with
 | none =>
  rw [h1] at hs
  simp only [Go.Ab.gy,Option.map_none,Qu,Bool.false_eq_true,if_false] at hs
  refine Xj.go 160 rfl fun bk=>?_
  simp only [dP] at bk
  simp only [W,seval,kf,hn]
  refine af.bE 8 [] [c,s,N] (by kernel_rfl) (by kernel_rfl) (by kernel_rfl) (by kernel_rfl) (by kernel_rfl) (by kernel_rfl) (by kernel_rfl) ?_
  simp (maxSteps:=4000000) only [W,seval,kf,xw,ov,hn,hi,hb,hs,m8,Ie]
  refine af.go 160 ?_
  simp only [W,seval,kf,hn]
  refine ag (aF.less (lB.sl (lB.same .nil)) (zS n (i:=N+1) (by simp [dF hn]) [] (by simp))) ?_
  rintro _ _ ⟨rfl,rfl⟩
  have hr:(if t.kind=7 then (none:Option aA) else none)=none:=by split<;>rfl
  by_cases h7:t.kind=7
  ·have e7:=decide_eq_true h7
   refine af.go 160 ?_
   simp only [W,seval,kf,ov,hn,e7,xh,Bool.not_true,Int.reduceNeg,Int.reduceLT]
   refine ag (cR _ _) ?_
   rintro _ _ ⟨rfl,rfl⟩
   refine af.go 160 ?_
   simp only [W,seval,kf,hn,aY]
   refine cH (v:=?_) (u:=?_) Tryz.func168 (by rfl) ?_ ?_ ?_
   rotate_left 2
   ·try simp only [W,seval,kf,hn]
    exact rfl
   ·try simp only [W,seval,kf,hn]
    exact rfl
   refine Left.box ?_
   rw [hr]
   exact ⟨rfl,rfl⟩
  ·have e7:=decide_eq_false h7
   refine af.go 160 ?_
   simp only [W,seval,kf,ov,hn,e7,Bool.not_false]
   refine ag (cR _ _) ?_
   rintro _ _ ⟨rfl,rfl⟩
   refine af.go 160 ?_
   simp only [W,seval,kf,hn,aY]
   refine cH (v:=?_) (u:=?_) Tryz.func168 (by rfl) ?_ ?_ ?_
   rotate_left 2
   ·try simp only [W,seval,kf,hn]
    exact rfl
   ·try simp only [W,seval,kf,hn]
    exact rfl
   refine Left.box ?_
   rw [hr]
   exact ⟨rfl,rfl⟩
 | some st =>
  rw [h1] at hs
  simp only [Go.Ab.gy,Option.map_some,yL,Bool.false_eq_true,if_false] at hs
  obtain ⟨vo,_⟩:=hT.fl st (xq cG.name h1)
  refine Xj.go 160 rfl fun bk=>?_
  simp only [dP] at bk
  simp only [W,seval,kf,hn]
  refine af.bE 8 [] [c,s,N] (by kernel_rfl) (by kernel_rfl) (by kernel_rfl) (by kernel_rfl) (by kernel_rfl) (by kernel_rfl) (by kernel_rfl) ?_
  simp (maxSteps:=4000000) only [W,seval,kf,xw,ov,hn,hi,hb,hs,m8,Ie]
  refine af.go 160 ?_
  simp only [W,seval,kf,hn]
  refine ag (zS n (i:=N+1) (by simp [dF hn]) st.fields vo) ?_
  rintro _ _ ⟨rfl,rfl⟩
  by_cases h7:t.kind=7
  ·have e7:=decide_eq_true h7
   rw [if_pos h7]
   rcases Im bH.name st.fields n 0 (by omega) with ⟨g1,g2⟩ | ⟨j,p,g1,g2,g3⟩
   ·rw [g1,g2]
    refine af.go 160 ?_
    simp only [W,seval,kf,ov,hn,e7,Bool.not_true,Int.reduceNeg,Int.reduceLT]
    refine ag (cR _ _) ?_
    rintro _ _ ⟨rfl,rfl⟩
    refine af.go 160 ?_
    simp only [W,seval,kf,hn,aY]
    refine cH (v:=?_) (u:=?_) Tryz.func168 (by rfl) ?_ ?_ ?_
    rotate_left 2
    ·try simp only [W,seval,kf,hn]
     exact rfl
    ·try simp only [W,seval,kf,hn]
     exact rfl
    refine Left.box ?_
    exact ⟨rfl,rfl⟩
   ·have g1:xh bH.name st.fields n 0=(j:Int):=by omega
    have e1:decide ((j:Int) < 0)=false:=decide_eq_false (by omega)
    have hj:=(List.getElem?_eq_some_iff.1 g2).1
    have hg:(st.fields.map gf)[j]? = some (gf p):=by rw [List.getElem?_map,g2];rfl
    rw [mq] at hg
    rw [g1,g3]
    refine af.go 160 ?_
    simp only [W,seval,kf,ov,hn,e7,e1,hg,hj,Bool.not_true]
    refine cH (v:=?_) (u:=?_) Tryz.func168 (by rfl) ?_ ?_ ?_
    rotate_left 2
    ·try simp only [W,seval,kf,hn]
     exact rfl
    ·try simp only [W,seval,kf,hn]
     exact rfl
    refine Left.box ?_
    exact ⟨rfl,rfl⟩
  ·have e7:=decide_eq_false h7
   rw [if_neg h7]
   refine af.go 160 ?_
   simp only [W,seval,kf,ov,hn,e7,Bool.not_false]
   refine ag (cR _ _) ?_
   rintro _ _ ⟨rfl,rfl⟩
   refine af.go 160 ?_
   simp only [W,seval,kf,hn,aY]
   refine cH (v:=?_) (u:=?_) Tryz.func168 (by rfl) ?_ ?_ ?_
   rotate_left 2
   ·try simp only [W,seval,kf,hn]
    exact rfl
   ·try simp only [W,seval,kf,hn]
    exact rfl
   refine Left.box ?_
   exact ⟨rfl,rfl⟩
end
mutual
def fE:aj→aj
 | .mk k t i ty ns ks=>.mk k t i (if k=2 then aQ else ty) ns (bK ks)
def bK:List aj→List aj
 | []=>[]
 | x :: l=>fE x :: bK l
end
theorem iz:∀ l:List aj,(bK l).length=l.length
 | []=>by simp [bK]
 | x :: l=>by simp [bK,iz l]
theorem gj {r:Option (aj × aA)} {t:aA} {y:aj} (h:bf r t=some y):∃ u,r=some (y,u):=by
 unfold bf at h
 split at h
 ·split at h
  ·obtain rfl:=Option.some.inj h;exact ⟨_,rfl⟩
  ·cases h
 ·cases h
theorem Bp {fa fb:aA→Option (aj × aA)} {la:Bool} {w:aA} {a b:aj} {t:aA} (h:sC fa fb la w=some (a,b,t)):(∃ w u,fa w=some (a,u))∧∃ w u,fb w=some (b,u):=by
 unfold sC at h
 split at h
 ·split at h
  ·rename_i b' t' hb
   obtain ⟨a',ha,e⟩:=Option.map_eq_some_iff.1 h
   obtain ⟨rfl,rfl,rfl⟩:=e
   obtain ⟨u,hu⟩:=gj ha
   exact ⟨⟨_,u,hu⟩,⟨_,_,hb⟩⟩
  ·cases h
 ·split at h
  ·rename_i b' t' hb
   obtain ⟨a',ha,e⟩:=Option.map_eq_some_iff.1 h
   obtain ⟨rfl,rfl,rfl⟩:=e
   obtain ⟨u,hu⟩:=gj ha
   exact ⟨⟨_,_,hb⟩,⟨_,u,hu⟩⟩
  ·cases h
theorem T8 {fa fb:aA→Option (aj × aA)} {la:Bool} {tx:List UInt8} {w:aA} {a b:aj} {t:aA} (h:qs fa fb la tx w=some (a,b,t)):(∃ w u,fa w=some (a,u))∧∃ w u,fb w=some (b,u):=by
 have key:∀ {r:Option (aj × aj × aA)} {p:aj→aj→aA→Option (aj × aj × aA)},(match r with | some (a,b,t)=>p a b t | none=>none)=some (a,b,t)→(∀ a1 b1 t1,p a1 b1 t1=some (a,b,t)→a1=a∧b1=b)→∃ t1,r=some (a,b,t1):=by
  intro r p h hp
  cases r with
  | none=>cases h
  | some q =>
   obtain ⟨a1,b1,t1⟩:=q
   obtain ⟨rfl,rfl⟩:=hp _ _ _ h
   exact ⟨t1,rfl⟩
 unfold qs at h
 split at h
 ·split at h
  ·rename_i a' b' ha hb
   obtain ⟨rfl,rfl,rfl⟩:=Option.some.inj h
   obtain ⟨u,hu⟩:=gj ha
   obtain ⟨v,hv⟩:=gj hb
   exact ⟨⟨_,u,hu⟩,⟨_,v,hv⟩⟩
  ·cases h
 split at h
 ·split at h
  ·rename_i a' t' ha
   split at h
   ·obtain ⟨b',hb,e⟩:=Option.map_eq_some_iff.1 h
    obtain ⟨rfl,rfl,rfl⟩:=e
    obtain ⟨u,hu⟩:=gj hb
    exact ⟨⟨_,_,ha⟩,⟨_,u,hu⟩⟩
   ·cases h
  ·cases h
 split at h
 ·obtain ⟨t1,h1⟩:=key h (fun a1 b1 t1 h=>by
   split at h
   ·obtain ⟨rfl,rfl,_⟩:=Option.some.inj h;exact ⟨rfl,rfl⟩
   ·cases h)
  exact Bp h1
 split at h
 ·obtain ⟨t1,h1⟩:=key h (fun a1 b1 t1 h=>by
   split at h
   ·obtain ⟨rfl,rfl,_⟩:=Option.some.inj h;exact ⟨rfl,rfl⟩
   ·cases h)
  exact Bp h1
 ·obtain ⟨t1,h1⟩:=key h (fun a1 b1 t1 h=>by
   split at h
   ·obtain ⟨rfl,rfl,_⟩:=Option.some.inj h;exact ⟨rfl,rfl⟩
   ·cases h)
  exact Bp h1
mutual
theorem bX (E:bP):∀ (x:aj) (w:aA) (y:aj) (t:aA),aE E x w=some (y,t)→fE y=fE x
 | .mk k tx i ty ns ks,w,y,t,h=>by
  unfold aE at h
  by_cases c0:k=3
  ·rw [if_pos c0] at h
   obtain ⟨rfl,_⟩:=h;rfl
  rw [if_neg c0] at h
  by_cases c1:k=1
  ·rw [if_pos c1] at h
   obtain ⟨p,_,e⟩:=Option.map_eq_some_iff.1 h
   obtain ⟨rfl,_⟩:=e;rfl
  rw [if_neg c1] at h
  by_cases c2:k=6
  ·rw [if_pos c2] at h
   split at h
   ·rename_i a b
    obtain ⟨⟨a',b',t'⟩,hr,e⟩:=Option.map_eq_some_iff.1 h
    obtain ⟨rfl,_⟩:=e
    obtain ⟨⟨_,_,ha⟩,⟨_,_,hb⟩⟩:=T8 hr
    simp only [fE,bK,bX E a _ _ _ ha,bX E b _ _ _ hb]
   ·cases h
  rw [if_neg c2] at h
  by_cases c3:k=7
  ·rw [if_pos c3] at h
   split at h
   ·rename_i l t' hr
    obtain ⟨rfl,_⟩:=h
    unfold xe at hr
    split at hr
    ·obtain ⟨l',hl,e⟩:=Option.map_eq_some_iff.1 hr
     have e:=(Prod.mk.inj e).1
     subst e
     simp only [fE,gD E ks _ _ hl]
    ·cases hr
   ·cases h
  rw [if_neg c3] at h
  by_cases c4:k=9
  ·rw [if_pos c4] at h
   split at h
   ·rename_i a
    split at h
    ·rename_i a' t' ha
     obtain ⟨_,_,e⟩:=Option.map_eq_some_iff.1 h
     obtain ⟨rfl,_⟩:=e
     simp only [fE,bK,bX E a _ _ _ ha]
    ·cases h
   ·cases h
  rw [if_neg c4] at h
  by_cases c5:k=12
  ·rw [if_pos c5] at h
   split at h
   ·rename_i a
    split at h
    ·rename_i a' t' ha
     obtain ⟨_,_,e⟩:=Option.map_eq_some_iff.1 h
     obtain ⟨rfl,_⟩:=e
     simp only [fE,bK,bX E a _ _ _ ha]
    ·cases h
   ·cases h
  rw [if_neg c5] at h
  by_cases c6:k=10
  ·rw [if_pos c6] at h
   split at h
   ·rename_i a b
    split at h
    ·rename_i a' t' ha
     obtain ⟨_,_,h⟩:=Option.bind_eq_some_iff.1 h
     obtain ⟨b',hb,e⟩:=Option.map_eq_some_iff.1 h
     obtain ⟨rfl,_⟩:=e
     obtain ⟨_,hb⟩:=gj hb
     simp only [fE,bK,bX E a _ _ _ ha,bX E b _ _ _ hb]
    ·cases h
   ·cases h
  rw [if_neg c6] at h
  by_cases c7:k=11
  ·rw [if_pos c7] at h
   split at h
   ·rename_i a b c
    split at h
    ·rename_i a' t' ha
     obtain ⟨_,_,h⟩:=Option.bind_eq_some_iff.1 h
     obtain ⟨b',hb,h⟩:=Option.bind_eq_some_iff.1 h
     obtain ⟨c',hc,e⟩:=Option.map_eq_some_iff.1 h
     obtain ⟨rfl,_⟩:=e
     obtain ⟨_,hb⟩:=gj hb
     obtain ⟨_,hc⟩:=gj hc
     simp only [fE,bK,bX E a _ _ _ ha,bX E b _ _ _ hb,bX E c _ _ _ hc]
    ·cases h
   ·cases h
  rw [if_neg c7] at h
  by_cases c8:k=13
  ·rw [if_pos c8] at h
   split at h
   ·rename_i a b
    split at h
    ·rename_i a' t' ha
     obtain ⟨_,_,h⟩:=Option.bind_eq_some_iff.1 h
     obtain ⟨b',hb,e⟩:=Option.map_eq_some_iff.1 h
     obtain ⟨rfl,_⟩:=e
     obtain ⟨_,hb⟩:=gj hb
     simp only [fE,bK,bX E a _ _ _ ha,bX E b _ _ _ hb]
    ·cases h
   ·cases h
  rw [if_neg c8] at h
  by_cases c9:k=14
  ·rw [if_pos c9] at h
   split at h
   ·obtain ⟨l,hl,e⟩:=Option.map_eq_some_iff.1 h
    obtain ⟨rfl,_⟩:=e
    obtain ⟨_,_,hl⟩:=Option.bind_eq_some_iff.1 hl
    simp only [fE,gD E ks _ _ hl]
   ·cases h
  rw [if_neg c9] at h
  by_cases c10:k=15
  ·rw [if_pos c10] at h
   split at h
   ·obtain ⟨l,hl,e⟩:=Option.map_eq_some_iff.1 h
    obtain ⟨rfl,_⟩:=e
    obtain ⟨_,_,hl⟩:=Option.bind_eq_some_iff.1 hl
    simp only [fE,gD E ks _ _ hl]
   ·cases h
  rw [if_neg c10] at h
  by_cases YX:ic (.mk k tx i ty ns ks)=true
  ·rw [if_pos YX] at h
   unfold nA at h
   split at h
   ·rename_i h5
    have h5:k=5:=h5
    split at h
    ·rename_i a YS hk
     have hk:ks=a :: YS:=hk
     split at h
     ·obtain ⟨rfl,_⟩:=h
      have h2:a.kind=2:=by
       subst h5 hk
       simpa [ic] using YX
      obtain ⟨k1,t1,i1,ty1,n1,s1⟩:=a
      have h2:k1=2:=h2
      rw [hk]
      simp only [aT,setType,fE,bK,h2,if_true]
     ·cases h
    ·cases h
   ·rename_i h5
    have h5:¬ k=5:=h5
    split at h
    ·cases h
    ·obtain ⟨rfl,_⟩:=h
     have h2:k=2:=by simpa [ic,h5] using YX
     simp only [setType,fE,h2,if_true]
  rw [if_neg YX] at h
  by_cases W8:k=4
  ·rw [if_pos W8] at h
   split at h
   ·rename_i a
    obtain ⟨a',ha,e⟩:=Option.map_eq_some_iff.1 h
    obtain ⟨rfl,_⟩:=e
    obtain ⟨_,ha⟩:=gj ha
    simp only [fE,bK,bX E a _ _ _ ha]
   ·cases h
  rw [if_neg W8] at h
  by_cases c13:k=5
  ·rw [if_pos c13] at h
   split at h
   ·rename_i a
    split at h
    ·rename_i a' t' ha
     split at h
     ·obtain ⟨rfl,_⟩:=h
      simp only [fE,bK,bX E a _ _ _ ha]
     ·cases h
    ·cases h
   ·cases h
  rw [if_neg c13] at h
  ·split at h
   ·rename_i a
    split at h
    ·obtain ⟨a',ha,e⟩:=Option.map_eq_some_iff.1 h
     obtain ⟨rfl,_⟩:=e
     obtain ⟨_,ha⟩:=gj ha
     simp only [fE,bK,bX E a _ _ _ ha]
    ·split at h
     ·rename_i a' t' ha
      split at h
      ·obtain ⟨rfl,_⟩:=h
       simp only [fE,bK,bX E a _ _ _ ha]
      ·cases h
     ·cases h
   ·cases h
theorem gD (E:bP):∀ (l:List aj) (ts:List aA) (m:List aj),bt E l ts=some m→bK m=bK l
 | [],[],m,h=>by unfold bt at h;rw [← Option.some.inj h]
 | [],_ :: _,m,h=>by unfold bt at h;cases h
 | _ :: _,[],m,h=>by unfold bt at h;cases h
 | x :: l,t :: ts,m,h=>by
  unfold bt at h
  split at h
  ·rename_i y hy
   obtain ⟨m',hm,rfl⟩:=Option.map_eq_some_iff.1 h
   obtain ⟨u,hu⟩:=gj hy
   simp only [bK,bX E x _ _ _ hu,gD E l ts m' hm]
  ·cases h
end
def yV (lo hi:Nat) (B B1:List (List V)):Prop:=B1.length=B.length∧(∀ i,¬ (lo≤i∧i < hi)→B1[i]? = B[i]?)∧∀ (i:Nat) (Y:List V),B1[i]? = some Y→∀ v∈Y,(∃ X,B[i]? = some X∧v∈X)∨fit 0 0 v=true
theorem yV.refl (lo hi:Nat) (B:List (List V)):yV lo hi B B:=⟨rfl,fun _ _=>rfl,fun _ Y hY _ hv=>.inl ⟨Y,hY,hv⟩⟩
theorem yV.trans {lo hi:Nat} {B B1 B2:List (List V)} (h:yV lo hi B B1) (h1:yV lo hi B1 B2):yV lo hi B B2 :=
 ⟨h1.1.trans h.1,fun i hi=>(h1.2.1 i hi).trans (h.2.1 i hi),fun i Y hY v hv=>(h1.2.2 i Y hY v hv).elim (fun ⟨X,hX,hm⟩=>h.2.2 i X hX v hm) .inr⟩
theorem yV.wide {lo hi eL dK:Nat} {B B1:List (List V)} (h:yV eL dK B B1) (h1:lo≤eL) (h2:dK≤hi):yV lo hi B B1:=⟨h.1,fun i hi=>h.2.1 i (by omega),h.2.2⟩
theorem yV.put {lo hi j:Nat} {B:List (List V)} {X Y:List V} (h1:lo≤j) (h2:j < hi) (hX:B[j]? = some X) (hY:∀ v∈Y,v∈X∨fit 0 0 v=true):yV lo hi B (B.set j Y):=by
 refine ⟨List.length_set,fun i hi=>List.getElem?_set_ne (by omega),fun i Z hZ v hv=>?_⟩
 by_cases e:i=j
 ·subst e
  rw [List.getElem?_set_self (List.getElem?_eq_some_iff.1 hX).1] at hZ
  obtain rfl:=Option.some.inj hZ
  exact (hY v hv).imp (fun h=>⟨X,hX,h⟩) id
 ·rw [List.getElem?_set_ne fun h=>e h.symm] at hZ
  exact .inl ⟨Z,hZ,hv⟩
theorem xu {x y:aj} (h:fE x=fE y):bK x.kids=bK y.kids:=by
 cases x;cases y
 simp only [fE,aj.mk.injEq] at h
 exact h.2.2.2.2.2
theorem Bq:∀ (l m:List aj) (B:List (List V)) (lo hi:Nat) (X:List V),bK l=bK m→jT B l lo hi X→∃ B1 X1,yV lo hi B B1∧jT B1 m lo hi X1∧∀ v∈X1,v∈X∨fit 0 0 v=true
 | [],[],B,lo,hi,X,_,h=>⟨B,X,.refl _ _ _,h,fun _ hv=>.inl hv⟩
 | [],_ :: _,_,_,_,_,e,_=>by simp [bK] at e
 | _ :: _,[],_,_,_,_,e,_=>by simp [bK] at e
 | .mk k t i ty ns ks :: l,y :: m,B,lo,hi,X,e,h=>by
  simp only [bK,List.cons.injEq] at e
  obtain ⟨e1,e2⟩:=e
  unfold jT at h
  obtain ⟨r,X',q,rfl,h2,h3,h4,h5,h6⟩:=h
  obtain ⟨kv,rfl,hv⟩:=iW.1 h5
  have hk:=xu e1
  have hlen:ks.length=y.kids.length:=by rw [← iz ks,← iz y.kids];exact congrArg _ hk
  have new:∀ v∈aV y kv,v∈aV (.mk k t i ty ns ks) kv∨fit 0 0 v=true:=fun v hv=>by
   have:=tS (A:=[]) (C:=[]) (x:=.mk k t i ty ns ks) v (by simpa using hv)
   simpa using this
  have key:∃ B1,yV lo q B B1∧fX B1 y.kids lo q kv:=by
   rcases hv with ⟨g1,g2,g3⟩ | ⟨g1,j,cap,Y,g2,g3,g4,g5,g6⟩
   ·exact ⟨B,.refl _ _ _,.inl ⟨by rw [← hlen];exact g1,g2,g3⟩⟩
   ·obtain ⟨B1,Y1,i1,i2,i3⟩:=Bq ks y.kids B _ _ _ hk g6
    have hj:B1[j]? = some Y:=by rw [i1.2.1 j (by omega)];exact g5
    refine ⟨B1.set j Y1,(i1.wide (by omega) (Nat.le_refl _)).trans (.put g3 g4 hj i3),.inr ⟨by rw [← hlen];exact g1,j,cap,Y1,by rw [← hlen];exact g2,g3,g4,List.getElem?_set_self (List.getElem?_eq_some_iff.1 hj).1,jT.frame _ i2 fun i h7 h8=>List.getElem?_set_ne (by omega)⟩⟩
  obtain ⟨B1,i1,i2⟩:=key
  obtain ⟨B2,X2,j1,j2,j3⟩:=Bq l m B1 q hi X' e2 (jT.frame l h6 fun i h7 h8=>i1.2.1 i (by omega))
  refine ⟨B2,aV y kv++X2,(i1.wide (Nat.le_refl _) h4).trans (j1.wide h3 (Nat.le_refl _)),?_,fun v hv=>?_⟩
  ·unfold jT
   exact ⟨_,X2,q,rfl,rfl,h3,h4,iW.2 ⟨kv,rfl,i2.frame fun i h7 h8=>j1.2.1 i (by omega)⟩,j2⟩
  ·rcases List.mem_append.1 hv with hv | hv
   ·exact (new v hv).imp (fun h=>List.mem_append_left _ h) id
   ·exact (j3 v hv).imp (fun h=>List.mem_append_right _ h) id
termination_by l=>SizeOf.sizeOf l
theorem cl.ex {B:List (List V)} {n c s f w:Nat} {E:bP} {res:List aA} {j lo hi:Nat} {A C:List V} {kv:V} {x y:aj} (h:cl B n c s f w E res j lo hi A C kv x) (e:fE y=fE x):∃ B1,lu j lo hi A C kv B B1 (some y):=by
 obtain ⟨n1,n2,n3,n4,n5,n6⟩:=h.nb
 have hl:=h.nl
 have Vd:=h.jo
 have hk:=(xu e).symm
 have hlen:x.kids.length=y.kids.length:=by rw [← iz x.kids,← iz y.kids];exact congrArg _ hk
 have key:∃ B1,yV lo hi B B1∧fX B1 y.kids lo hi kv:=by
  rcases h.own with ⟨g1,g2,g3⟩ | ⟨g1,j1,cap,Y,g2,g3,g4,g5,g6⟩
  ·exact ⟨B,.refl _ _ _,.inl ⟨by rw [← hlen];exact g1,g2,g3⟩⟩
  ·obtain ⟨B1,Y1,i1,i2,i3⟩:=Bq x.kids y.kids B _ _ _ hk g6
   have hj:B1[j1]? = some Y:=by rw [i1.2.1 j1 (by omega)];exact g5
   refine ⟨B1.set j1 Y1,(i1.wide (by omega) (Nat.le_refl _)).trans (.put g3 g4 hj i3),.inr ⟨by rw [← hlen];exact g1,j1,cap,Y1,by rw [← hlen];exact g2,g3,g4,List.getElem?_set_self (List.getElem?_eq_some_iff.1 hj).1,jT.frame _ i2 fun i h7 h8=>List.getElem?_set_ne (by omega)⟩⟩
 obtain ⟨B1,i1,i2⟩:=key
 have hj:B1[j]? = some (A++aV x kv++C):=by rw [i1.2.1 j (by omega)];exact h.row
 have Yr:=(List.getElem?_eq_some_iff.1 hj).1
 have i3:=(i1.wide (lo:=0) (hi:=B.length) (Nat.zero_le _) (by omega)).trans (.put (Nat.zero_le j) (by omega) hj (tS (y:=y)))
 refine ⟨B1.set j (A++aV y kv++C),⟨by rw [List.length_set,i1.1];exact Nat.le_refl _,fun i _ ho=>?_,fun i _=>i3.2.2 i⟩,by rw [List.length_set,i1.1],fun z hz=>?_⟩
 ·rw [List.getElem?_set_ne fun e=>ho.1 e.symm]
  exact i1.2.1 i (by have:=ho.2;omega)
 ·obtain rfl:=Option.some.inj hz
  exact ⟨List.getElem?_set_self Yr,i2.frame fun i _ _=>List.getElem?_set_ne (by omega)⟩
def o8:=by
 have c:=aM Tryz.f192 (by conv=>lhs;cbv)
 dsimp only [KK,eN,eG,eH,List.map_cons,List.map_nil,List.toList_toArray] at c
 exact c
theorem aaT:bI Tryz.prog 192 Tryz.f192 43:=⟨Tryz.func192,by kernel_rfl⟩
theorem Br {X A C:List V} {x:aj} {kv:V} (hX:X=A++aV x kv++C) (ha:A.length=0):X[0]? = some (.d (.int .i64 x.kind))∧X[7]? = some kv∧8≤X.length∧X.take 8=aV x kv:=by
 obtain ⟨h0,_,_,_,h7,h8,h9,_⟩:=cS hX ha
 rw [Nat.zero_add] at h7 h8
 exact ⟨h0,h7,h8,h9⟩
section
variable {E:bP} {res:List aA} {n c s f w:Nat} {B:List (List V)} {T:List (Nat × Nat)} {j lo hi:Nat} {A C:List V} {kv:V}
theorem lu.refl {r:Option aj} (hr:r=Option.none):lu j lo hi A C kv B B r:=⟨.refl _ _ _ _ _,rfl,fun z hz=>by rw [hr] at hz;cases hz⟩
theorem mB.ne {x:aj} (h:cl B n c s f w E res j lo hi A C kv x) (want:aA):∃ v S',mB (aE E x want) j lo hi A C kv B T v S':=by
 cases hr:aE E x want with
 | none=>exact ⟨.bY [aY aQ,.d (.bool false)],_,B,rfl,.refl rfl,aQ,rfl⟩
 | some p =>
  obtain ⟨y,t⟩:=p
  obtain ⟨B1,hB⟩:=h.ex (bX E x _ _ _ hr)
  exact ⟨_,_,B1,rfl,hB,rfl⟩
theorem qt.ne {x:aj} (h:cl B n c s f w E res j lo hi A C kv x) (want:aA):∃ v S',qt (bf (aE E x want) want) j lo hi A C kv B T v S':=by
 cases hr:bf (aE E x want) want with
 | none=>exact ⟨_,_,B,rfl,.refl rfl,rfl⟩
 | some y =>
  obtain ⟨u,hu⟩:=gj hr
  obtain ⟨B1,hB⟩:=h.ex (bX E x _ _ _ hu)
  exact ⟨_,_,B1,rfl,hB,rfl⟩
theorem cl.Xk {x:aj} (h:cl B n c s f w E res j lo hi A C kv x) {Z B2:List (List V)} {r:Option aj} (hd:lu j lo hi A C kv (B++Z) B2 r):B2=B2.take B.length++Z∧lu j lo hi A C kv B (B2.take B.length) r:=by
 obtain ⟨n1,n2,n3,n4,n5,n6⟩:=h.nb
 have hl:=h.nl
 obtain ⟨he,hlen,hr⟩:=hd
 rw [List.length_append] at hlen
 have au:(B2.take B.length).length=B.length:=by rw [List.length_take];omega
 refine ⟨?_,⟨by omega,fun i hi ho=>?_,fun i hi Y hY v hv=>?_⟩,au,fun y hy=>?_⟩
 ·apply List.ext_getElem?
  intro i
  rcases Nat.lt_or_ge i B.length with hi | hi
  ·rw [ah (by omega),fN hi]
  ·rw [List.getElem?_append_right (by omega),au]
   rcases Nat.lt_or_ge i (B++Z).length with h2 | h2
   ·rw [he.2.1 i h2 ⟨by omega,by omega⟩,List.getElem?_append_right hi]
   ·rw [List.length_append] at h2
    rw [List.getElem?_eq_none (by omega),List.getElem?_eq_none (by omega)]
 ·rw [fN hi,he.2.1 i (by rw [List.length_append];omega) ho,ah hi]
 ·rw [fN hi] at hY
  have:=he.2.2 i (by rw [List.length_append];omega) Y hY v hv
  rwa [ah hi] at this
 ·obtain ⟨h1,h2⟩:=hr y hy
  exact ⟨by rw [fN (by omega)];exact h1,h2.frame fun i _ hi=>by rw [fN (by omega)]⟩
theorem cl.bx {x:aj} (h:cl B n c s f w E res j lo hi A C kv x) (hn:x.kids ≠ []):∃ j1 m cap,kv = .bx j1 m cap∧m=x.kids.length:=by
 rcases h.own with ⟨h0,_⟩ | ⟨_,j1,cap,Y,h1,_⟩
 ·exact absurd (List.length_eq_zero_iff.1 h0) hn
 ·exact ⟨j1,_,cap,h1,rfl⟩
theorem cl.oq {j1 m cap:Nat} {x y:aj} (h:cl B n c s f w E res j lo hi A C (.bx j1 m cap) x) {k:Nat} (hk:x.kids[k]? = some y) :
 ∃ (eL dK:Nat) (A1 C1:List V) (mX:V),A1.length=k * 8∧(j1 < n∧Out j1 eL dK j)∧cl B n c s f w E res j1 eL dK A1 C1 mX y ∧
  (∀ B1 m,cx j1 eL dK m B B1→cx j lo hi m B B1) ∧
  ∀ B1 z,lu j1 eL dK A1 C1 mX B B1 (some z)→cl B1 n c s f w E res j lo hi A C (.bx j1 m cap) (aT x (x.kids.set k z)):=by
 obtain ⟨j1',cu,eL,dK,A1,C1,mX,e,h1,h2,h3,h4,h5⟩:=h.qI hk
 obtain ⟨rfl,rfl,rfl⟩:=V.bx.inj e
 exact ⟨eL,dK,A1,C1,mX,h1,h2,h3,h4,fun B1 z hd=>h5 B1 z (hd.1.less h.nl) (hd.2.2 z rfl).1 (hd.2.2 z rfl).2⟩
def ng:List V:=[.d (.int .i64 0),.d (.str []),.sl [] .full]
theorem eM (x:aj) (l m:List aj):aT (aT x l) m=aT x m:=by cases x;rfl
set_option maxHeartbeats 8000000 in
theorem DZ {x p q:aj} {ks:List aj} (yf:x.kids=ks) {kp kq j1 m cap N:Nat} {R:V→Mem→Prop} (OF:x.kids[kp]? = some p) (hkq:x.kids[kq]? = some q) (hpq:kp ≠ kq) (hp:dN E res p) (hq:dN E res q) (want:aA) (hn:B.length=N) (h:cl B n c s f w E res j lo hi A C (.bx j1 m cap) x)
 (hR:∀ v S',mB (match aE E p want with
  | some (y,t)=>(bf (aE E q t) t).map fun z=>(aT x ((ks.set kp y).set kq z),t)
  | none=>none) j lo hi A C (.bx j1 m cap) B T v S'→R v S') :
 af Tryz.prog av (N,T.length) 192 [.code (kF Tryz.f192 10)] (aR 43 [(8,.ptr j1 (kp * 8)),(9,.ptr j1 (kq * 8)),(6,.ptr (N+1) 0),(5,.ptr N 0),(0,.ptr c 0)]) ⟨B++[jK want,ng],T⟩ (Go.Ab.Left ⟨B,T⟩ R):=by
 have gS:=h.nl
 obtain ⟨eL,dK,A1,C1,mX,a1,⟨qR,_⟩,k1,k2,k3⟩:=(h.more (J:=[jK want,ng])).oq OF
 have tp:=hp want n c s f w _ T j1 eL dK A1 C1 mX k1
 rw [a1] at tp
 unfold aY jK ng at tp
 unfold jK ng
 refine af.go 160 ?_
 simp only [W,seval,o8,hn]
 refine aU tp ?_
 rintro v _ ⟨B1,rfl,hd,hv⟩
 obtain ⟨t,b,rfl,me,jc⟩:=nF hv
 have bg:=hd.2.1
 have e1:cx j lo hi B.length B B1:=cx.new.step (k2 _ _ hd.1)
 have f1:=h.qK (k2 _ _ hd.1) (i:=N+1) (by omega) (by simp [hn])
 rw [dF hn] at f1
 simp only [List.getElem?_cons_zero,List.getElem?_cons_succ,ng] at f1
 simp only [List.length_append,List.length_cons,List.length_nil,hn,Nat.zero_add,Nat.reduceAdd] at bg
 have dy:N+1 < N+2:=by omega
 unfold aY
 have dW:N+1 < B1.length:=by omega
 cases b
 ·have hr:=jc rfl
  rw [hr] at hR
  refine af.go 160 ?_
  simp only [W,seval,o8,bg]
  refine af.bE 9 [] [N+2] (by kernel_rfl) (by kernel_rfl) (by kernel_rfl) (by kernel_rfl) (by kernel_rfl) (by kernel_rfl) (by kernel_rfl) ?_
  simp (maxSteps:=4000000) only [W,seval,o8,xw,bg,f1,dy]
  refine af.go 20 ?_
  simp only [W,seval,o8,bg]
  have e2:∀ Z J,cx j lo hi B.length B (B1.set (N+1) Z++J):=fun Z J=>(e1.jB (by omega)).app
  refine cH (v:=?_) (u:=?_) Tryz.func192 (by rfl) ?_ ?_ ?_
  rotate_left 2
  ·try simp only [W,seval,o8,bg,dy,dW]
   exact rfl
  ·try simp only [W,seval,o8,bg,dy,dW]
   exact rfl
  refine aq (e2 _ _) ?_
  exact hR _ _ ⟨_,rfl,.none (e2 _ _) rfl,t,rfl⟩
 ·obtain ⟨y,hr⟩:=me rfl
  rw [hr] at hR hd
  dsimp only at hR
  have jL:=k3 B1 y hd
  obtain ⟨Nr,Ns,A2,C2,T9,a2,_,q1,q2,q3⟩:=(jL.more (J:=[jK t])).oq (k:=kq) (y:=q) (by rw [aS,List.getElem?_set_ne hpq];exact hkq)
  have hh:=iY (T:=T) hq t q1
  rw [a2] at hh
  unfold aY jK at hh
  refine af.go 160 ?_
  simp only [W,seval,o8,bg]
  refine af.bE 9 [] [N+2] (by kernel_rfl) (by kernel_rfl) (by kernel_rfl) (by kernel_rfl) (by kernel_rfl) (by kernel_rfl) (by kernel_rfl) ?_
  simp (maxSteps:=4000000) only [W,seval,o8,xw,bg,f1,dy]
  refine cM (qt.ne (T:=T) q1 t) hh ?_
  rintro v _ ⟨B2,rfl,eg,rfl⟩
  have iK:=eg.2.1
  simp only [List.length_append,List.length_cons,List.length_nil,bg,Nat.zero_add,Nat.reduceAdd] at iK
  have e2:cx j lo hi B.length B B2:=(e1.app (J:=[jK t])).step (q2 _ _ eg.1)
  have g1:B2[N+2]? = (B1++[jK t])[N+2]?:=jL.qK (q2 _ _ eg.1) (i:=N+2) (by omega) (by simp [bg])
  have g3:∀ Z,(B2.set (N+1) Z)[N+2]? = (B1++[jK t])[N+2]?:=fun Z=>by rw [List.getElem?_set_ne (by omega)];exact g1
  have g2:=jL.qK (q2 _ _ eg.1) (i:=N+1) (by omega) (by simp [bg])
  rw [ah (by omega),f1] at g2
  have Nt:N+1 < N+3:=by omega
  have hN4:N+1 < B2.length:=by omega
  refine ⟨⟨g1,trivial⟩,?_⟩
  simp (maxSteps:=4000000) only [W,seval,o8,xw,iK,g2,Nt]
  refine ⟨g3 _,g3 _,?_⟩
  refine af.go 20 ?_
  simp only [W,seval,o8,iK]
  have g4:∀ Z,(B2.set (N+1) Z)[N+1]? = some Z:=fun Z=>List.getElem?_set_self hN4
  refine cH (v:=?_) (u:=?_) Tryz.func192 (by rfl) ?_ ?_ ?_
  rotate_left 2
  ·try simp only [W,seval,o8,iK,g4]
   exact rfl
  ·try simp only [W,seval,o8,iK,g4]
   exact rfl
  refine aq (e2.jB (by omega)) ?_
  cases hw:bf (aE E q t) t with
  | none =>
   rw [hw] at hR
   exact hR _ _ ⟨_,rfl,.none (e2.jB (by omega)) rfl,t,rfl⟩
  | some z =>
   rw [hw] at eg hR
   have YY:=q3 B2 z eg
   refine hR _ _ ⟨_,rfl,YY.fin (e2.jB (by omega)) gS (fun i hi=>List.getElem?_set_ne (by omega)) fun u hu=>?_,rfl⟩
   rw [← Option.some.inj hu,aS,eM,yf]
set_option maxHeartbeats 8000000 in
theorem Bs {x a b:aj} (hk:x.kids=[a,b]) (ha:dN E res a) (hb:dN E res b) (zq:a.kind=5→a.kids ≠ []) (want:aA) (h:cl B n c s f w E res j lo hi A C kv x):aF Tryz.prog av 192 [.ptr c 0,.ptr j A.length,aY want] ⟨B,T⟩ (mB ((sC (aE E a) (aE E b) (ic a) want).map fun r=>(aT x [r.1,r.2.1],r.2.2)) j lo hi A C kv B T):=by
 obtain ⟨N,hn⟩:∃ N,B.length=N:=⟨_,rfl⟩
 obtain ⟨al,dI⟩:∃ a,A.length=a:=⟨_,rfl⟩
 obtain ⟨X,hX⟩:∃ X,A++aV x kv++C=X:=⟨_,rfl⟩
 obtain ⟨x0,x1,x2,x6,x7,x8,x9,kJ,mC⟩:=cS hX.symm dI
 have aD:=h.row
 rw [hX] at aD
 have gS:=h.nl
 have hj:j < N:=by have:=h.nb;omega
 have hjN:j ≠ N:=by omega
 rw [dI]
 obtain ⟨j1,_,cap,rfl,rfl⟩:=h.bx (by rw [hk];simp)
 obtain ⟨eL,dK,A1,C1,mX,a1,⟨qR,_⟩,k1,k2,k3⟩:=h.oq (k:=0) (y:=a) (by rw [hk];rfl)
 obtain ⟨Y,hY⟩:∃ Y,A1++aV a mX++C1=Y:=⟨_,rfl⟩
 obtain ⟨y0,y7,y8,y9⟩:=Br hY.symm (by omega)
 have lZ:=k1.row
 rw [hY] at lZ
 have qR:j1 < N:=by omega
 have hlen:x.kids.length=2:=by rw [hk];rfl
 have i0:(0:Int) < (x.kids.length:Int):=by omega
 have i1:(1:Int) < (x.kids.length:Int):=by omega
 unfold aY
 refine aaT.go 160 rfl fun bk=>?_
 simp only [dP] at bk
 simp only [W,seval,o8,hn]
 refine af.bE 11 [] [j] (by kernel_rfl) (by kernel_rfl) (by kernel_rfl) (by kernel_rfl) (by kernel_rfl) (by kernel_rfl) (by kernel_rfl) ?_
 simp (maxSteps:=4000000) only [W,seval,o8,xw,iL,hn,hj,aD,x7,i0,i1]
 refine af.go 160 ?_
 simp only [W,seval,o8,hn,qR,lZ,y8,y9]
 refine aU (Gu zq k1.more.own _) ?_
 rintro _ _ ⟨rfl,rfl⟩
 unfold sC
 cases Qw:ic a
 ·refine af.go 3 ?_
  simp only [W,seval,o8,hn]
  refine af.fV ?_ (DZ hk (kp:=0) (kq:=1) (p:=a) (q:=b) (by rw [hk];rfl) (by rw [hk];rfl) (by decide) ha hb want hn h fun v S' hv=>?_)
  ·skip
   refine ay.env _ ?_
   simp only [cD,seval]
  ·have e:(match aE E a want with
    | some (y,t)=>(bf (aE E b t) t).map fun z=>(aT x (([a,b].set 0 y).set 1 z),t)
    | none=>none)=Option.map (fun r:aj × aj × aA=>(aT x [r.1,r.2.1],r.2.2)) (match aE E a want with
    | some (a,t)=>Option.map (fun b=>(a,b,t)) (bf (aE E b t) t)
    | none=>none):=by
    cases aE E a want with
    | none=>rfl
    | some p =>
     dsimp only
     cases bf (aE E b p.2) p.2<;>rfl
   rw [e] at hv
   exact hv
 ·refine af.go 8 ?_
  simp only [W,seval,o8,hn]
  refine af.fV ?_ (DZ hk (kp:=1) (kq:=0) (p:=b) (q:=a) (by rw [hk];rfl) (by rw [hk];rfl) (by decide) hb ha want hn h fun v S' hv=>?_)
  ·skip
   refine ay.env _ ?_
   simp only [cD,seval]
  ·have e:(match aE E b want with
    | some (y,t)=>(bf (aE E a t) t).map fun z=>(aT x (([a,b].set 1 y).set 0 z),t)
    | none=>none)=Option.map (fun r:aj × aj × aA=>(aT x [r.1,r.2.1],r.2.2)) (match aE E b want with
    | some (b,t)=>Option.map (fun a=>(a,b,t)) (bf (aE E a t) t)
    | none=>none):=by
    cases aE E b want with
    | none=>rfl
    | some p =>
     dsimp only
     cases bf (aE E a p.2) p.2<;>rfl
   rw [e] at hv
   exact hv
end
def mD:=by
 have c:=aM Tryz.f137 (by conv=>lhs;cbv)
 dsimp only [KK,eN,eG,eH,List.map_cons,List.map_nil,List.toList_toArray] at c
 exact c
theorem Ua:bI Tryz.prog 137 Tryz.f137 57:=⟨Tryz.func137,by kernel_rfl⟩
theorem zT:bD Tryz.prog 48=some ⟨.slice 50,1,24,false,[.sl [] .full]⟩:=by kernel_rfl
theorem Bt {B:List (List V)} {l:List aj} {lo hi:Nat} {v:V} (h:fX B l lo hi v):fP Tryz.prog 48 v=some (.d (.int .i64 (l.length:Int))):=by
 rcases h with ⟨h0,rfl,_⟩ | ⟨_,j,cap,Y,rfl,_⟩
 ·rw [h0,fP.eq_1,zT];rfl
 ·rw [fP.eq_1,zT];rfl
theorem xy {α:Type} (ys l:List α) {i:Nat} (h:ys.length=i):(ys++l.drop i)[i]? = l[i]?:=by
 rw [List.getElem?_append_right (by omega),h,Nat.sub_self,List.getElem?_drop,Nat.add_zero]
theorem sK {α:Type} (ys l:List α) {i:Nat} (h:ys.length=i) (hi:i < l.length) (z:α):(ys++l.drop i).set i z=(ys++[z])++l.drop (i+1):=by
 rw [List.set_append_right _ _ (by omega),h,Nat.sub_self,List.drop_eq_getElem_cons hi,List.set_cons_zero,List.append_assoc]
 rfl
def caG (r:Option (aj × List aA)) (j lo hi:Nat) (A C:List V) (kv:V) (B:List (List V)) (T:List (Nat × Nat)) (v:V) (S':Mem):Prop :=
 ∃ B',S' = ⟨B',T⟩∧lu j lo hi A C kv B B' (r.map Prod.fst)∧match r with
  | some (_,ts)=>v = .bY [.d (.sl (ts.map dR)),.d (.bool true)]
  | none=>v = .bY [.d (.sl []),.d (.bool false)]
structure YZ where
 i:Nat
 ys:List aj
 B:List (List V)
structure COk (E:bP) (res:List aA) (n c s f w j lo hi:Nat) (A C:List V) (kv:V) (x:aj) (N:Nat) (fc:List V) (ts:List aA) (r:Option (List aj)) (B:List (List V)) (a:YZ):Prop where
 le:a.i≤x.kids.length
 len:a.ys.length=a.i
 OK:cx j lo hi B.length B a.B
 at':cl a.B n c s f w E res j lo hi A C kv (aT x (a.ys++x.kids.drop a.i))
 fb:a.B[N]? = some fc
 res:(bt E (x.kids.drop a.i) (ts.drop a.i)).map (a.ys++·)=r
theorem sL (x:aj):aT x x.kids=x:=by cases x;rfl
section
variable {E:bP} {res:List aA} {n c s f w:Nat} {B:List (List V)} {T:List (Nat × Nat)} {j lo hi:Nat} {A C:List V} {kv:V}
set_option maxHeartbeats 8000000 in
theorem zU {x:aj} (hT:og E.su E.fu) (hl:∀ y∈x.kids,dN E res y) (h:cl B n c s f w E res j lo hi A C kv x):aF Tryz.prog av 137 [.ptr c 0,.ptr j A.length] ⟨B,T⟩ (caG (kj E x) j lo hi A C kv B T):=by
 obtain ⟨N,hn⟩:∃ N,B.length=N:=⟨_,rfl⟩
 obtain ⟨al,dI⟩:∃ a,A.length=a:=⟨_,rfl⟩
 obtain ⟨X,hX⟩:∃ X,A++aV x kv++C=X:=⟨_,rfl⟩
 obtain ⟨x0,x1,x2,x6,x7,x8,x9,kJ,mC⟩:=cS hX.symm dI
 have aD:=h.row
 rw [hX] at aD
 have gS:=h.nl
 have hj:j < N:=by have:=h.nb;omega
 have xz:c < N:=by rw [← hn];exact h.k.lt.1
 have vo:f < N:=by rw [← hn];exact h.k.lt.2.2.1
 have Vh:=h.k.f
 have hb:=h.k.c
 unfold yO at hb
 have hs:=h.k.Iq x.text true [] T
 rw [List.append_nil] at hs
 have Gy:=Bt h.own
 rw [fP.eq_1,zT] at Gy
 have en:∀ J,cx j lo hi B.length B (B++J):=fun _=>cx.new
 rw [dI]
 unfold kj xe
 cases h1:eW cn.name E.fu x.text with
 | none =>
  rw [h1] at hs
  simp only [Go.Ab.gy,Option.map_none,Vg,if_true] at hs
  refine Ua.go 160 rfl fun bk=>?_
  simp only [dP] at bk
  simp only [W,seval,mD,hn]
  refine af.bE 13 [] [c,f,j] (by kernel_rfl) (by kernel_rfl) (by kernel_rfl) (by kernel_rfl) (by kernel_rfl) (by kernel_rfl) (by kernel_rfl) ?_
  simp (maxSteps:=4000000) only [W,seval,mD,xw,ov,hn,xz,hb,hs,vo,Vh,hj,aD,x1]
  refine af.go 160 ?_
  simp only [W,seval,mD,hn]
  refine af.bE 13 [] [j] (by kernel_rfl) (by kernel_rfl) (by kernel_rfl) (by kernel_rfl) (by kernel_rfl) (by kernel_rfl) (by kernel_rfl) ?_
  simp (maxSteps:=4000000) only [W,seval,mD,xw,hn,hj,aD,x7]
  refine af.go 160 ?_
  simp only [W,seval,mD,hn]
  refine af.ret Tryz.func137 rfl (aq (en _) ?_)
  exact ⟨_,rfl,.none (en _) rfl,rfl⟩
 | some g =>
  rw [h1] at hs
  simp only [Go.Ab.gy,Option.map_some,yM,if_true] at hs
  obtain ⟨Wo,Lh,Ub,hp4⟩:=hT.pa g (xq cn.name h1)
  dsimp only
  by_cases hlen:g.params.length=x.kids.length
  case neg =>
   have e1:decide ((g.params.length:Int)=(x.kids.length:Int))=false:=decide_eq_false (by omega)
   rw [lA E _ _ (by rw [List.length_map];omega)]
   refine Ua.go 160 rfl fun bk=>?_
   simp only [dP] at bk
   simp only [W,seval,mD,hn]
   refine af.bE 13 [] [c,f,j] (by kernel_rfl) (by kernel_rfl) (by kernel_rfl) (by kernel_rfl) (by kernel_rfl) (by kernel_rfl) (by kernel_rfl) ?_
   simp (maxSteps:=4000000) only [W,seval,mD,xw,ov,hn,xz,hb,hs,vo,Vh,hj,aD,x1]
   refine af.go 160 ?_
   simp only [W,seval,mD,hn]
   refine af.bE 13 [] [N,j] (by kernel_rfl) (by kernel_rfl) (by kernel_rfl) (by kernel_rfl) (by kernel_rfl) (by kernel_rfl) (by kernel_rfl) ?_
   simp (maxSteps:=4000000) only [W,seval,mD,xw,hn,hj,aD,x7,Gy,e1]
   refine af.go 160 ?_
   simp only [W,seval,mD,hn]
   refine af.ret Tryz.func137 rfl (aq (en _) ?_)
   exact ⟨_,rfl,.none (en _) rfl,rfl⟩
  have e1:decide ((g.params.length:Int)=(x.kids.length:Int))=true:=decide_eq_true (by omega)
  refine Ua.go 160 rfl fun bk=>?_
  simp only [dP] at bk
  simp only [W,seval,mD,hn]
  refine af.bE 13 [] [c,f,j] (by kernel_rfl) (by kernel_rfl) (by kernel_rfl) (by kernel_rfl) (by kernel_rfl) (by kernel_rfl) (by kernel_rfl) ?_
  simp (maxSteps:=4000000) only [W,seval,mD,xw,ov,hn,xz,hb,hs,vo,Vh,hj,aD,x1]
  refine af.go 160 ?_
  simp only [W,seval,mD,hn]
  refine af.bE 13 [] [N,j] (by kernel_rfl) (by kernel_rfl) (by kernel_rfl) (by kernel_rfl) (by kernel_rfl) (by kernel_rfl) (by kernel_rfl) ?_
  simp (maxSteps:=4000000) only [W,seval,mD,xw,hn,hj,aD,x7,Gy,e1]
  refine af.go 160 ?_
  simp only [W,seval,mD,hn]
  generalize bR:bt E x.kids (g.params.map bH.type)=r
  refine af.cV (fun a:YZ=>(aR 57 [(0,.ptr c 0),(1,.ptr j al),(6,.ptr N 0),(36,.d (.sl (g.params.map gf))),(37,.d (.int .i64 (g.params.length:Int))),(38,.d (.int .i64 (a.i:Int)))],⟨a.B,T⟩)) (COk E res n c s f w j lo hi A C kv x N [.d (.str g.name),.d (.sl (g.params.map gf)),.d (.sl (g.results.map dR)),.d (.sl (g.body.map dZ))] (g.params.map bH.type) r B) (fun a=>x.kids.length - a.i) ⟨0,[],B++[[.d (.str g.name),.d (.sl (g.params.map gf)),.d (.sl (g.results.map dR)),.d (.sl (g.body.map dZ))]]⟩ ⟨Nat.zero_le _,rfl,en _,?_,?_,?_⟩ ?_ rfl ?_
  ·rw [List.drop_zero,List.nil_append,sL]
   exact h.more
  ·rw [cL hn];rfl
  ·rw [← bR];simp
  ·skip
   refine ay.env _ ?_
   simp only [cD,seval]
  rintro ⟨i,ys,Bi⟩ ⟨h2,h3,h4,h5,h6,h7⟩ ih
  dsimp only at h2 h3 h4 h5 h6 h7 ih ⊢
  obtain ⟨Ni,nh⟩:∃ Ni,Bi.length=Ni:=⟨_,rfl⟩
  have xA:N < Ni:=by rw [← nh];exact (List.getElem?_eq_some_iff.1 h6).1
  by_cases au:i < x.kids.length
  case neg =>
   have e2:decide ((i:Int) < (g.params.length:Int))=false:=decide_eq_false (by omega)
   obtain rfl:i=x.kids.length:=by omega
   rw [List.drop_eq_nil_of_le (Nat.le_refl _),List.drop_eq_nil_of_le (by rw [List.length_map];omega)] at h7
   rw [List.drop_eq_nil_of_le (Nat.le_refl _),List.append_nil] at h5
   unfold bt at h7
   rw [Option.map_some,List.append_nil] at h7
   refine af.go 160 ?_
   simp only [W,seval,mD,nh,xA,h6,e2]
   refine af.ret Tryz.func137 rfl (aq h4 ?_)
   rw [← h7]
   exact ⟨_,rfl,h5.fin h4 gS (fun _ _=>rfl) fun z hz=>(Option.some.inj hz).symm,rfl⟩
  have e2:decide ((i:Int) < (g.params.length:Int))=true:=decide_eq_true (by omega)
  have oO:=az ((i:Int)+1) (by omega)
  have Uc:i < g.params.length:=by omega
  have hg:(g.params.map gf)[i]? = some (gf g.params[i]):=by simp [Uc]
  rw [o7 E _ _ i au (by rw [List.length_map];exact Uc),List.getElem_map] at h7
  obtain ⟨y,hy⟩:∃ y,x.kids[i]=y:=⟨_,rfl⟩
  have fD:=hl x.kids[i] (List.getElem_mem au)
  obtain ⟨p,hp⟩:∃ p,g.params[i]=p:=⟨_,rfl⟩
  rw [hp,mq] at hg
  rw [hp,hy] at h7
  rw [hy] at fD
  have mO:(aT x (ys++x.kids.drop i)).kids[i]? = some y:=by rw [aS,xy _ _ h3,List.getElem?_eq_getElem au,hy]
  obtain ⟨j1,m,cap,rfl,ni⟩:=h5.bx (by rw [aS];intro h0;rw [h0] at mO;rw [aS] at mO;simp at mO)
  have hm:(i:Int) < (m:Int):=by have:=(List.getElem?_eq_some_iff.1 mO).1;omega
  have kn:=h5.row
  rw [jC,hX] at kn
  obtain ⟨eL,dK,A1,C1,mX,a1,⟨qR,uG⟩,k1,k2,k3⟩:=(h5.more (J:=[[V.d (.str p.name),.d (.int .i64 p.type.kind),.d (.str p.type.name),.d (.sl (p.type.elem.map dR))]])).oq mO
  have hh:=iY (T:=T) fD p.type k1
  rw [a1] at hh
  unfold aY at hh
  have Gz:j < Ni:=by omega
  refine af.go 160 ?_
  simp only [W,seval,mD,nh,e2,hg,Uc]
  refine af.bE 11 [] [j,Ni] (by kernel_rfl) (by kernel_rfl) (by kernel_rfl) (by kernel_rfl) (by kernel_rfl) (by kernel_rfl) (by kernel_rfl) ?_
  simp (maxSteps:=4000000) only [W,seval,mD,xw,iL,nh,Gz,kn,x7,hm]
  refine cM (qt.ne (T:=T) k1 p.type) hh ?_
  rintro v _ ⟨B2,rfl,eg,rfl⟩
  have f1:=eg.1.2.1 j (by simp;omega) uG
  have f2:=h5.qK (k2 _ _ eg.1) (i:=Ni) (by omega) (by simp [nh])
  have f3:=h5.qK (k2 _ _ eg.1) (i:=N) (by omega) (by simp;omega)
  rw [ah (by omega),h6] at f3
  have e3:cx j lo hi B.length B B2:=h4.app.step (k2 _ _ eg.1)
  refine ⟨⟨f1,f2,trivial⟩,?_⟩
  simp (maxSteps:=4000000) only [W,seval,mD,xw,nh]
  have f4:=f2
  rw [cL nh] at f4
  refine ⟨⟨f1,f4⟩,?_⟩
  cases hw:bf (aE E y p.type) p.type with
  | none =>
   rw [hw] at h7
   refine af.go 60 ?_
   simp only [W,seval,mD,Option.isSome_none,Bool.not_false]
   refine af.ret Tryz.func137 rfl (aq e3 ?_)
   rw [← h7]
   exact ⟨_,rfl,.none e3 rfl,rfl⟩
  | some z =>
   rw [hw] at h7 eg
   refine af.go 60 ?_
   simp only [W,seval,mD,Option.isSome_some,Bool.not_true,oO]
   have h8:=k3 B2 z eg
   rw [aS,eM,sK _ _ h3 au] at h8
   refine ih ⟨i+1,ys++[z],B2⟩ ⟨au,by simp [h3],e3,h8,f3,?_⟩ (by dsimp only;omega) _ _ ?_ rfl
   ·dsimp only at h7 ⊢
    rw [← h7]
    cases bt E (x.kids.drop (i+1)) ((g.params.map bH.type).drop (i+1))<;>simp
   ·skip
    refine ay.env _ ?_
    simp only [cD,seval]
end
def je:=by
 have c:=aM Tryz.f170 (by conv=>lhs;cbv)
 dsimp only [KK,eN,eG,eH,List.map_cons,List.map_nil,List.toList_toArray] at c
 exact c
theorem aaV:bI Tryz.prog 170 Tryz.f170 71:=⟨Tryz.func170,by kernel_rfl⟩
def nG (E:bP):List aj→List (Option aA)→Option (List aj)
 | [],[]=>some []
 | x :: l,some t :: ts=>(match bf (aE E x t) t with
  | some y=>(nG E l ts).map fun l=>y :: l
  | none=>none)
 | _,_=>none
theorem Ir (E:bP):∀ (l:List aj) (fs:List (Option aA)),nG E l fs=(fs.mapM id).bind (bt E l)
 | [],[]=>by unfold nG;simp [bt]
 | [],f :: fs=>by
  unfold nG
  symm
  rw [Option.bind_eq_none_iff]
  intro ts RY
  cases ts with
  | nil =>
   rw [List.mapM_cons] at RY
   cases f with
   | none=>cases RY
   | some t =>
    cases h:fs.mapM id with
    | none=>rw [h] at RY;cases RY
    | some us=>rw [h] at RY;cases RY
  | cons t ts=>unfold bt;rfl
 | x :: l,[]=>by unfold nG;simp [bt]
 | x :: l,none :: fs=>by unfold nG;rw [List.mapM_cons];rfl
 | x :: l,some t :: fs=>by
  unfold nG
  rw [Ir E l fs,List.mapM_cons]
  cases h:fs.mapM id with
  | none =>
   show _=none
   cases bf (aE E x t) t<;>rfl
  | some us =>
   show _=bt E (x :: l) (t :: us)
   conv=>rhs;unfold bt
   rfl
theorem Kq (E:bP) (l:List aj) (fs:List (Option aA)) (i:Nat) (h:i < l.length) (h':i < fs.length):nG E (l.drop i) (fs.drop i)=match fs[i] with
 | some t=>(match bf (aE E l[i] t) t with
  | some y=>(nG E (l.drop (i+1)) (fs.drop (i+1))).map fun l=>y :: l
  | none=>none)
 | none=>none:=by
 rw [List.drop_eq_getElem_cons h,List.drop_eq_getElem_cons h']
 cases fs[i] with
 | none=>unfold nG;rfl
 | some t=>conv=>lhs;unfold nG
theorem Gr.ex (r:Option aA):∃ v,Gr r v:=by
 cases r<;>exact ⟨_,rfl⟩
structure MOk (E:bP) (res:List aA) (n c s f w j lo hi:Nat) (A C:List V) (kv:V) (x:aj) (N:Nat) (fs:List (Option aA)) (r:Option (List aj)) (B:List (List V)) (a:YZ):Prop where
 le:a.i≤x.kids.length
 len:a.ys.length=a.i
 OK:cx j lo hi B.length B a.B
 at':cl a.B n c s f w E res j lo hi A C kv (aT x (a.ys++x.kids.drop a.i))
 fb:a.B[N]? = some ng
 res:(nG E (x.kids.drop a.i) (fs.drop a.i)).map (a.ys++·)=r
section
variable {E:bP} {res:List aA} {n c s f w:Nat} {B:List (List V)} {T:List (Nat × Nat)} {j lo hi:Nat} {A C:List V} {kv:V}
set_option maxHeartbeats 8000000 in
theorem Is {x:aj} (hT:og E.su E.fu) (hx:TW x.type) (hl:∀ y∈x.kids,dN E res y) (hlen:x.kids.length≤60000) (fs:List (Option aA)) (Ff:fs.length=x.kids.length) (hk:(x.kind=14∧fs=x.names.map (kY E.su x.type))∨(x.kind ≠ 14∧∃ e,x.type.elem=[e]∧fs=List.replicate x.kids.length (some e))) (h:cl B n c s f w E res j lo hi A C kv x):aF Tryz.prog av 170 [.ptr c 0,.ptr j A.length] ⟨B,T⟩ (mB (if bQ E.su x.type=true then (nG E x.kids fs).map fun l=>(aT x l,x.type) else none) j lo hi A C kv B T):=by
 obtain ⟨N,hn⟩:∃ N,B.length=N:=⟨_,rfl⟩
 obtain ⟨al,dI⟩:∃ a,A.length=a:=⟨_,rfl⟩
 obtain ⟨X,hX⟩:∃ X,A++aV x kv++C=X:=⟨_,rfl⟩
 obtain ⟨x0,x1,x2,x6,x7,x8,x9,kJ,mC⟩:=cS hX.symm dI
 have aD:=h.row
 rw [hX] at aD
 have gS:=h.nl
 have hj:j < N:=by have:=h.nb;omega
 have jW:=fun (J:List (List V))=>zQ (T:=T) hx (h.k.more J)
 have Gy:=Bt h.own
 rw [fP.eq_1,zT] at Gy
 have en:∀ J,cx j lo hi B.length B (B++J):=fun _=>cx.new
 rw [dI]
 unfold aY at jW
 unfold jK at mC
 refine aaV.go 160 rfl fun bk=>?_
 simp only [dP] at bk
 simp only [W,seval,je,hn,hj,aD,kJ,mC]
 refine ag (jW _) ?_
 rintro _ _ ⟨rfl,rfl⟩
 cases hs:bQ E.su x.type with
 | false =>
  refine af.go 160 ?_
  simp only [W,seval,je,hn,Bool.not_false]
  refine ag (cR _ _) ?_
  rintro _ _ ⟨rfl,rfl⟩
  refine af.go 160 ?_
  simp only [W,seval,je,hn,aY]
  refine cH (v:=?_) (u:=?_) Tryz.func170 (by rfl) ?_ ?_ ?_
  rotate_left 2
  ·try simp only [W,seval,je,hn]
   exact rfl
  ·try simp only [W,seval,je,hn]
   exact rfl
  refine aq (en _) ?_
  exact ⟨_,rfl,.none (en _) rfl,aQ,rfl⟩
 | true =>
  rw [if_pos rfl]
  refine af.go 160 ?_
  simp only [W,seval,je,hn,Bool.not_true,hj,aD,x7,Gy]
  generalize bR:nG E x.kids fs=r
  refine af.cV (fun a:YZ=>(aR 71 [(0,.ptr c 0),(1,.ptr j al),(4,.ptr N 0),(21,.d (.int .i64 (x.kids.length:Int))),(22,.d (.int .i64 (a.i:Int)))],⟨a.B,T⟩)) (MOk E res n c s f w j lo hi A C kv x N fs r B) (fun a=>x.kids.length - a.i) ⟨0,[],B++[ng]⟩ ⟨Nat.zero_le _,rfl,en _,?_,?_,?_⟩ ?_ rfl ?_
  ·rw [List.drop_zero,List.nil_append,sL]
   exact h.more
  ·rw [cL hn];rfl
  ·rw [← bR];simp
  ·skip
   refine ay.env _ ?_
   simp only [cD,seval]
  rintro ⟨i,ys,Bi⟩ ⟨h2,h3,h4,h5,h6,h7⟩ ih
  dsimp only at h2 h3 h4 h5 h6 h7 ih ⊢
  unfold ng at h6
  obtain ⟨Ni,nh⟩:∃ Ni,Bi.length=Ni:=⟨_,rfl⟩
  have xA:N < Ni:=by rw [← nh];exact (List.getElem?_eq_some_iff.1 h6).1
  have kn:=h5.row
  rw [jC,hX] at kn
  have Gz:j < Ni:=by omega
  by_cases au:i < x.kids.length
  case neg =>
   have e2:decide ((i:Int) < (x.kids.length:Int))=false:=decide_eq_false (by omega)
   obtain rfl:i=x.kids.length:=by omega
   rw [List.drop_eq_nil_of_le (Nat.le_refl _),List.drop_eq_nil_of_le (by omega)] at h7
   rw [List.drop_eq_nil_of_le (Nat.le_refl _),List.append_nil] at h5
   unfold nG at h7
   rw [Option.map_some,List.append_nil] at h7
   have dy:N < Bi.length:=by omega
   refine af.go 160 ?_
   simp only [W,seval,je,nh,xA,h6,e2,Gz,kn,kJ,mC]
   have e3:∀ Z,cx j lo hi B.length B (Bi.set N Z):=fun Z=>h4.jB (by omega)
   refine cH (v:=?_) (u:=?_) Tryz.func170 (by rfl) ?_ ?_ ?_
   rotate_left 2
   ·try simp only [W,seval,je,dy,ng]
    exact rfl
   ·try simp only [W,seval,je,dy,ng]
    exact rfl
   refine aq (e3 _) ?_
   rw [← h7]
   exact ⟨_,rfl,h5.fin (e3 _) gS (fun i hi=>List.getElem?_set_ne (by omega)) fun z hz=>(Option.some.inj hz).symm,rfl⟩
  have e2:decide ((i:Int) < (x.kids.length:Int))=true:=decide_eq_true (by omega)
  have oO:=az ((i:Int)+1) (by omega)
  rw [Kq E _ _ i au (by omega)] at h7
  have hio:i < fs.length:=by omega
  obtain ⟨o,ho⟩:∃ o,fs[i]=o:=⟨_,rfl⟩
  obtain ⟨y,hy⟩:∃ y,x.kids[i]=y:=⟨_,rfl⟩
  have fD:=hl x.kids[i] (List.getElem_mem au)
  rw [hy] at fD
  rw [ho,hy] at h7
  have mO:(aT x (ys++x.kids.drop i)).kids[i]? = some y:=by rw [aS,xy _ _ h3,List.getElem?_eq_getElem au,hy]
  obtain ⟨j1,m,cap,rfl,ni⟩:=h5.bx (by rw [aS];intro h0;rw [h0] at mO;rw [aS] at mO;simp at mO)
  have hm:(i:Int) < (m:Int):=by have:=(List.getElem?_eq_some_iff.1 mO).1;omega
  have tail:∀ t:aA,o=some t→af Tryz.prog av (N,T.length) 170 [.code (.region 11 (opsOf (kF Tryz.f170 36)) true),.code (kF Tryz.f170 37),.inBlock 1,.code (kF Tryz.f170 42),.inLoop (kF Tryz.f170 15),.inBlock 0,.code (kF Tryz.f170 43)] (aR 71 [(0,.ptr c 0),(1,.ptr j al),(4,.ptr N 0),(6,.d (.int .i64 (i:Int))),(7,.ptr Ni 0),(8,.d (.bool true)),(21,.d (.int .i64 (x.kids.length:Int))),(22,.d (.int .i64 (i:Int)))]) ⟨Bi++[[.d (.int .i64 t.kind),.d (.str t.name),.d (.sl (t.elem.map dR))]],T⟩ (Go.Ab.Left ⟨B,T⟩ (mB (r.map fun l=>(aT x l,x.type)) j lo hi A C (.bx j1 m cap) B T)):=by
   rintro t rfl
   dsimp only at h7
   obtain ⟨eL,dK,A1,C1,mX,a1,⟨qR,uG⟩,k1,k2,k3⟩:=(h5.more (J:=[[V.d (.int .i64 t.kind),.d (.str t.name),.d (.sl (t.elem.map dR))]])).oq mO
   have hh:=iY (T:=T) fD t k1
   rw [a1] at hh
   unfold aY at hh
   refine af.bE 14 [] [j,Ni] (by kernel_rfl) (by kernel_rfl) (by kernel_rfl) (by kernel_rfl) (by kernel_rfl) (by kernel_rfl) (by kernel_rfl) ?_
   simp (maxSteps:=4000000) only [W,seval,je,xw,iL,nh,Gz,kn,x7,hm]
   refine cM (qt.ne (T:=T) k1 t) hh ?_
   rintro v _ ⟨B2,rfl,eg,rfl⟩
   have f1:=eg.1.2.1 j (by simp;omega) uG
   have f2:=h5.qK (k2 _ _ eg.1) (i:=Ni) (by omega) (by simp [nh])
   have f3:=h5.qK (k2 _ _ eg.1) (i:=N) (by omega) (by simp;omega)
   rw [ah (by omega),h6] at f3
   have e3:cx j lo hi B.length B B2:=h4.app.step (k2 _ _ eg.1)
   have iK:=eg.2.1
   have dW:N < B2.length:=(List.getElem?_eq_some_iff.1 f3).1
   have f4:=f2
   rw [cL nh] at f4
   refine ⟨⟨f1,f2,trivial⟩,?_⟩
   simp (maxSteps:=4000000) only [W,seval,je,xw,nh]
   refine ⟨⟨f1,f4⟩,?_⟩
   cases hw:bf (aE E y t) t with
   | none =>
    rw [hw] at h7
    refine af.go 60 ?_
    simp only [W,seval,je,Option.isSome_none,Bool.not_false]
    refine ag (cR _ _) ?_
    rintro _ _ ⟨rfl,rfl⟩
    refine af.go 60 ?_
    simp only [W,seval,je,dW,f3,aY]
    have e4:∀ Z,cx j lo hi B.length B (B2.set N Z):=fun Z=>e3.jB (by omega)
    refine cH (v:=?_) (u:=?_) Tryz.func170 (by rfl) ?_ ?_ ?_
    rotate_left 2
    ·try simp only [W,seval,je,dW]
     exact rfl
    ·try simp only [W,seval,je,dW]
     exact rfl
    refine aq (e4 _) ?_
    rw [← h7]
    exact ⟨_,rfl,.none (e4 _) rfl,aQ,rfl⟩
   | some z =>
    rw [hw] at h7 eg
    refine af.go 60 ?_
    simp only [W,seval,je,Option.isSome_some,Bool.not_true,oO]
    have h8:=k3 B2 z eg
    rw [aS,eM,sK _ _ h3 au] at h8
    refine ih ⟨i+1,ys++[z],B2⟩ ⟨au,by simp [h3],e3,h8,f3,?_⟩ (by dsimp only;omega) _ _ ?_ rfl
    ·dsimp only at h7 ⊢
     rw [← h7]
     cases nG E (x.kids.drop (i+1)) (fs.drop (i+1))<;>simp
    ·skip
     refine ay.env _ ?_
     simp only [cD,seval]
  rcases hk with ⟨JM,rfl⟩ | ⟨JM,e,he,rfl⟩
  ·have e14:=decide_eq_true JM
   have Ho:i < x.names.length:=by rw [List.length_map] at Ff;omega
   have mE:(i:Int) < ((ij x.names).length:Int):=by rw [fL];omega
   have hgn:x.names[i]? = some x.names[i]:=List.getElem?_eq_getElem Ho
   have Ln:=fun J Z=>DY (T:=T) hT x.type x.names[i] ((h5.k.more J).more Z)
   rw [List.getElem_map] at ho
   rw [ho] at Ln
   unfold aY at Ln
   refine af.go 160 ?_
   simp only [W,seval,je,nh,xA,h6,e2,Gz,kn,x0,kJ,mC,e14]
   refine af.bE 13 [] [j,Ni] (by kernel_rfl) (by kernel_rfl) (by kernel_rfl) (by kernel_rfl) (by kernel_rfl) (by kernel_rfl) (by kernel_rfl) ?_
   simp (maxSteps:=4000000) only [W,seval,je,xw,nh,Gz,kn,x6,Ho,hgn]
   refine wv (Gr.ex o) (fun Z=>Ln _ Z) ?_
   intro v hv
   refine ⟨kU _ _,?_⟩
   cases o with
   | none =>
    obtain rfl:v=_:=hv
    unfold aY
    simp (maxSteps:=4000000) only [W,seval,je,xw,nh]
    refine af.go 160 ?_
    simp only [W,seval,je,nh]
    refine af.bE 14 [] [] (by kernel_rfl) (by kernel_rfl) (by kernel_rfl) (by kernel_rfl) (by kernel_rfl) (by kernel_rfl) (by kernel_rfl) ?_
    simp (maxSteps:=4000000) only [W,seval,je,xw,nh]
    refine af.go 60 ?_
    simp only [W,seval,je]
    refine ag (cR _ _) ?_
    rintro _ _ ⟨rfl,rfl⟩
    have dW:N < Bi.length:=by omega
    refine af.go 60 ?_
    simp only [W,seval,je,xA,nh,h6,aY]
    have e4:∀ Z J,cx j lo hi B.length B (Bi.set N Z++J):=fun Z J=>(h4.jB (by omega)).app
    have U4:∀ Z,(Bi.set N Z)[N]? = some Z:=fun Z=>List.getElem?_set_self dW
    refine cH (v:=?_) (u:=?_) Tryz.func170 (by rfl) ?_ ?_ ?_
    rotate_left 2
    ·try simp only [W,seval,je,dW,xA,nh,U4]
     exact rfl
    ·try simp only [W,seval,je,dW,xA,nh,U4]
     exact rfl
    refine aq (e4 _ _) ?_
    rw [← h7]
    exact ⟨_,rfl,.none (e4 _ _) rfl,aQ,rfl⟩
   | some t =>
    obtain rfl:v=_:=hv
    unfold aY
    simp (maxSteps:=4000000) only [W,seval,je,xw,nh]
    refine af.go 160 ?_
    simp only [W,seval,je,nh]
    refine af.fV ?_ (tail t rfl)
    refine ay.env _ ?_
    simp only [cD,seval]
  ·have e14:=decide_eq_false JM
   refine af.go 160 ?_
   simp only [W,seval,je,nh,xA,h6,e2,Gz,kn,x0,kJ,mC,e14,he,bC,bT,cB]
   refine af.fV ?_ (tail e (by rw [← ho,List.getElem_replicate]))
   refine ay.env _ ?_
   simp only [cD,seval]
end
def ej:=by
 have c:=aM Tryz.f169 (by conv=>lhs;cbv)
 dsimp only [KK,eN,eG,eH,List.map_cons,List.map_nil,List.toList_toArray] at c
 exact c
theorem Xl:bI Tryz.prog 169 Tryz.f169 89:=⟨Tryz.func169,by kernel_rfl⟩
section
variable {E:bP} {res:List aA} {n c s f w:Nat} {B:List (List V)} {T:List (Nat × Nat)} {j lo hi:Nat} {A C:List V} {kv:V}
theorem Kr {y:aj} (hx:dN E res y) (k1:cl B n c s f w E res j lo hi A C kv y) (want:aA) {q:Nat} (a1:A.length=q) {AA L:List Nat} {S0:Mem} {next:gJ} {d:Option Tmp} {env:List V}
 (hk:∀ B1 t b,lu j lo hi A C kv B B1 ((aE E y want).map Prod.fst)→B1.length=B.length→(b=true→∃ z,aE E y want=some (z,t))→(b=false→aE E y want=none)→eI L S0 ⟨B1,T⟩∧next (aO env d (.bY [aY t,.d (.bool b)])) ⟨B1,T⟩) :
 uu Tryz.prog av AA L S0 next (.func 135 [] []) [.ptr c 0,.ptr j q,aY want] d env ⟨B,T⟩:=by
 subst a1
 refine Mq (mB.ne (T:=T) k1 want) (fun v S' hq=>?_) (fun Z=>((hx want n c s f w (B++Z) T j lo hi A C kv k1.more).mono ?_)) ?_
 ·obtain ⟨B',rfl,hd,_⟩:=hq
  exact hd.2.1
 ·rintro v S' ⟨B',rfl,hd,hv⟩
  obtain ⟨e1,e2⟩:=k1.Xk hd
  exact ⟨⟨B'.take B.length,T⟩,by rw [Mh,← e1],_,rfl,e2,hv⟩
 ·rintro v _ ⟨B1,rfl,hd,hv⟩
  obtain ⟨t,b,rfl,me,jc⟩:=nF hv
  exact hk B1 t b hd hd.2.1 me jc
set_option maxHeartbeats 8000000 in
theorem nH {x a:aj} {rest:List aj} {N al:Nat} (hk:x.kids=a :: rest) (ha:dN E res a) (Qx:∀ w y t,aE E a w=some (y,t)→TW t) (want w':aA) (hw:w' = if x.kind=13 then want else aQ) (hn:B.length=N) (dI:A.length=al) (h:cl B n c s f w E res j lo hi A C kv x) {R:V→Mem→Prop}
 (h0:(∀ y t,aE E a w' = some (y,t)→t.kind ≠ 8)→∀ v B',lu j lo hi A C kv B B' none→(∃ t,v = .bY [aY t,.d (.bool false)])→R v ⟨B',T⟩)
 (h1:∀ B1 y t e,aE E a w' = some (y,t)→t.kind=8→t.elem=[e]→B1.length=N+2→cx j lo hi B.length B B1→cl B1 n c s f w E res j lo hi A C kv (aT x (y :: rest))→B1[N+1]? = some ng →
  af Tryz.prog av (N,T.length) 169 [.code (kF Tryz.f169 19),.code (kF Tryz.f169 41)] (aR 89 [(0,.ptr c 0),(1,.ptr j al),(6,.ptr (N+1) 0),(8,.ptr (N+2) 0)]) ⟨B1++[jK t],T⟩ (Go.Ab.Left ⟨B,T⟩ R)) :
 aF Tryz.prog av 169 [.ptr c 0,.ptr j al,aY want] ⟨B,T⟩ R:=by
 obtain ⟨X,hX⟩:∃ X,A++aV x kv++C=X:=⟨_,rfl⟩
 obtain ⟨x0,x1,x2,x6,x7,x8,x9,kJ,mC⟩:=cS hX.symm dI
 have aD:=h.row
 rw [hX] at aD
 have gS:=h.nl
 have hj:j < N:=by have:=h.nb;omega
 obtain ⟨j1,m,cap,rfl,ni⟩:=h.bx (by rw [hk];simp)
 have hm:(0:Int) < (m:Int):=by rw [ni,hk];simp
 obtain ⟨eL,dK,A1,C1,mX,a1,⟨qR,uG⟩,k1,k2,k3⟩:=(h.more (J:=[jK w',ng])).oq (k:=0) (y:=a) (by rw [hk];rfl)
 rw [Nat.zero_mul] at a1
 have main:∀ B1 t b,lu j1 eL dK A1 C1 mX (B++[jK w',ng]) B1 ((aE E a w').map Prod.fst)→B1.length=(B++[jK w',ng]).length→(b=true→∃ z,aE E a w' = some (z,t))→(b=false→aE E a w' = none)→af Tryz.prog av (N,T.length) 169 [.code (kF Tryz.f169 10)] (aR 89 [(0,.ptr c 0),(1,.ptr j al),(6,.ptr (N+1) 0),(8,.ptr (N+2) 0),(9,.d (.bool b))]) ⟨B1++[jK t],T⟩ (Go.Ab.Left ⟨B,T⟩ R):=by
  intro B1 t b hd bg me jc
  have e1:cx j lo hi B.length B B1:=cx.new.step (k2 _ _ hd.1)
  have f1:=h.qK (k2 _ _ hd.1) (i:=N+1) (by omega) (by simp [hn])
  rw [dF hn] at f1
  simp only [List.getElem?_cons_zero,List.getElem?_cons_succ] at f1
  have f1':=f1
  unfold ng at f1'
  simp only [List.length_append,List.length_cons,List.length_nil,hn,Nat.zero_add,Nat.reduceAdd] at bg
  have dy:N+1 < N+2:=by omega
  have dW:N+1 < B1.length:=by omega
  have e2:∀ Z J,cx j lo hi B.length B (B1.set (N+1) Z++J):=fun Z J=>(e1.jB (by omega)).app
  have g4:∀ Z,(B1.set (N+1) Z)[N+1]? = some Z:=fun Z=>List.getElem?_set_self dW
  unfold jK
  cases b
  ·refine af.go 160 ?_
   simp only [W,seval,ej,bg,Bool.not_false]
   refine ag (cR _ _) ?_
   rintro _ _ ⟨rfl,rfl⟩
   refine af.go 160 ?_
   simp only [W,seval,ej,bg,f1',dy,aY]
   refine cH (v:=?_) (u:=?_) Tryz.func169 (by rfl) ?_ ?_ ?_
   rotate_left 2
   ·try simp only [W,seval,ej,bg,dy,dW,g4]
    exact rfl
   ·try simp only [W,seval,ej,bg,dy,dW,g4]
    exact rfl
   refine aq (e2 _ _) ?_
   exact h0 (fun y t hr=>by rw [jc rfl] at hr;cases hr) _ _ (.none (e2 _ _) rfl) ⟨aQ,rfl⟩
  ·obtain ⟨y,hr⟩:=me rfl
   by_cases h8:t.kind=8
   case neg =>
    have e8:=decide_eq_false h8
    refine af.go 160 ?_
    simp only [W,seval,ej,bg,e8,Bool.not_true,Bool.not_false]
    refine ag (cR _ _) ?_
    rintro _ _ ⟨rfl,rfl⟩
    refine af.go 160 ?_
    simp only [W,seval,ej,bg,f1',dy,aY]
    refine cH (v:=?_) (u:=?_) Tryz.func169 (by rfl) ?_ ?_ ?_
    rotate_left 2
    ·try simp only [W,seval,ej,bg,dy,dW,g4]
     exact rfl
    ·try simp only [W,seval,ej,bg,dy,dW,g4]
     exact rfl
    refine aq (e2 _ _) ?_
    exact h0 (fun y' t' RC=>by rw [hr] at RC;rw [← (Prod.mk.inj (Option.some.inj RC)).2];exact h8) _ _ (.none (e2 _ _) rfl) ⟨aQ,rfl⟩
   have e8:=decide_eq_true h8
   have ht:=Qx _ _ _ hr
   obtain ⟨e,he⟩:∃ e,t.elem=[e]:=by
    cases ht with
    | leaf k _ _ hk=>exact absurd h8 hk
    | sl n u _=>exact ⟨u,rfl⟩
   rw [hr] at hd
   have jL:=k3 B1 y hd
   rw [hk] at jL
   have tail:=h1 B1 y t e hr h8 he bg e1 jL f1
   unfold jK at tail
   refine af.go 14 ?_
   simp only [W,seval,ej,bg,e8,Bool.not_true,Bool.not_false]
   refine af.fV ?_ tail
   refine ay.env _ ?_
   simp only [cD,seval]
 by_cases Vi:x.kind=13
 ·have e13:=decide_eq_true Vi
  rw [if_pos Vi] at hw
  subst hw
  unfold aY
  refine Xl.go 160 rfl fun bk=>?_
  simp only [dP] at bk
  simp only [W,seval,ej,hn,hj,aD,x0,e13,Bool.not_true]
  refine af.bE 12 [11] [j,N] (by kernel_rfl) (by kernel_rfl) (by kernel_rfl) (by kernel_rfl) (by kernel_rfl) (by kernel_rfl) (by kernel_rfl) ?_
  simp (maxSteps:=4000000) only [W,seval,ej,xw,iL,hn,hj,aD,x7,hm]
  refine Kr ha k1 w' a1 ?_
  intro B1 t b hd bg me jc
  have m1:=main B1 t b hd bg me jc
  have g1:=hd.1.2.1 j (by simp;omega) uG
  have g2:=h.qK (k2 _ _ hd.1) (i:=N) (by omega) (by simp [hn])
  simp only [List.length_append,List.length_cons,List.length_nil,hn,Nat.zero_add,Nat.reduceAdd] at bg
  refine ⟨⟨g1,g2,trivial⟩,?_⟩
  unfold aY
  simp (maxSteps:=4000000) only [W,seval,ej,xw,bg]
  refine ⟨⟨g1,g2⟩,?_⟩
  refine af.fV ?_ m1
  refine ay.env _ ?_
  simp only [cD,seval]
 ·have e13:=decide_eq_false Vi
  rw [if_neg Vi] at hw
  subst hw
  unfold aY
  refine Xl.go 160 rfl fun bk=>?_
  simp only [dP] at bk
  simp only [W,seval,ej,hn,hj,aD,x0,e13,Bool.not_false]
  refine ag (cR _ _) ?_
  rintro _ _ ⟨rfl,rfl⟩
  unfold aY
  refine af.go 160 ?_
  simp only [W,seval,ej,hn]
  refine af.bE 12 [11] [j,N] (by kernel_rfl) (by kernel_rfl) (by kernel_rfl) (by kernel_rfl) (by kernel_rfl) (by kernel_rfl) (by kernel_rfl) ?_
  simp (maxSteps:=4000000) only [W,seval,ej,xw,iL,hn,hj,aD,x7,hm]
  refine Kr ha k1 aQ a1 ?_
  intro B1 t b hd bg me jc
  have m1:=main B1 t b hd bg me jc
  have g1:=hd.1.2.1 j (by simp;omega) uG
  have g2:=h.qK (k2 _ _ hd.1) (i:=N) (by omega) (by simp [hn])
  simp only [List.length_append,List.length_cons,List.length_nil,hn,Nat.zero_add,Nat.reduceAdd] at bg
  refine ⟨⟨g1,g2,trivial⟩,?_⟩
  unfold aY
  simp (maxSteps:=4000000) only [W,seval,ej,xw,bg]
  refine ⟨⟨g1,g2⟩,?_⟩
  refine af.fV ?_ m1
  refine ay.env _ ?_
  simp only [cD,seval]
end
theorem sM {t e:aA} (h:t.kind=8) (he:t.elem=[e]):gM t=some e:=by
 unfold gM
 rw [if_pos h,he];rfl
def D0 (t e:aA):List V:=[.d (.int .i64 t.kind),.d (.str t.name),.d (.sl [[.int .i64 e.kind,.str e.name,.sl (e.elem.map dR)]])]
theorem Nu {t e:aA} (he:t.elem=[e]):jK t=D0 t e:=by
 unfold jK D0
 rw [he,List.map_cons,List.map_nil,cB]
theorem sN {t:aA} (h:t.kind ≠ 8):gM t=none:=if_neg h
theorem Bu (g:aj→aA→Option (aj × aA)) (hg:∀ y t,t.kind ≠ 8→g y t=none):∀ r:Option (aj × aA),(∀ y t,r=some (y,t)→t.kind ≠ 8)→(match r with
 | some (a,t)=>g a t
 | none=>none)=none
 | none,_=>rfl
 | some p,h=>hg _ _ (h p.1 p.2 rfl)
section
variable {E:bP} {res:List aA} {n c s f w:Nat} {B:List (List V)} {T:List (Nat × Nat)} {j lo hi:Nat} {A C:List V} {kv:V}
set_option maxHeartbeats 8000000 in
theorem Qy {x a:aj} (VT:x.kind=12) (hk:x.kids=[a]) (ha:dN E res a) (Qx:∀ w y t,aE E a w=some (y,t)→TW t) (want:aA) (h:cl B n c s f w E res j lo hi A C kv x):aF Tryz.prog av 169 [.ptr c 0,.ptr j A.length,aY want] ⟨B,T⟩ (mB (match aE E a aQ with
 | some (a,t)=>(gM t).map fun _=>(aT x [a],cg)
 | none=>none) j lo hi A C kv B T):=by
 obtain ⟨N,hn⟩:∃ N,B.length=N:=⟨_,rfl⟩
 obtain ⟨al,dI⟩:∃ a,A.length=a:=⟨_,rfl⟩
 have gS:=h.nl
 have hjn:=h.nb
 rw [dI]
 refine nH hk ha Qx want aQ (by rw [if_neg (by omega)]) hn dI h (fun h0 v B' hd hv=>?_) fun B1 y t e hr h8 he bg e1 jL f1=>?_
 ·have e0:=Bu (fun a t=>(gM t).map fun _=>(aT x [a],cg)) (fun y t h=>by rw [sN h];rfl) _ h0
  rw [e0]
  exact ⟨B',rfl,hd,hv⟩
 rw [hr]
 dsimp only
 rw [sM h8 he]
 obtain ⟨X,hX⟩:∃ X,A++aV x kv++C=X:=⟨_,rfl⟩
 obtain ⟨x0,x1,x2,x6,x7,x8,x9,kJ,mC⟩:=cS hX.symm dI
 have aD:=jL.row
 rw [jC,hX] at aD
 have hj:j < N+2:=by omega
 have dy:N+1 < N+2:=by omega
 have dW:N+1 < B1.length:=by omega
 have e2:∀ Z J,cx j lo hi B.length B (B1.set (N+1) Z++J):=fun Z J=>(e1.jB (by omega)).app
 have g4:∀ Z,(B1.set (N+1) Z)[N+1]? = some Z:=fun Z=>List.getElem?_set_self dW
 have Ud:=decide_eq_true VT
 unfold jK ng at *
 refine af.go 160 ?_
 simp only [W,seval,ej,bg,hj,aD,x0,Ud]
 refine ag (sH _ _) ?_
 rintro _ _ ⟨rfl,rfl⟩
 refine af.go 160 ?_
 simp only [W,seval,ej,bg,f1,dy,aY]
 refine cH (v:=?_) (u:=?_) Tryz.func169 (by rfl) ?_ ?_ ?_
 rotate_left 2
 ·try simp only [W,seval,ej,bg,dy,dW,g4]
  exact rfl
 ·try simp only [W,seval,ej,bg,dy,dW,g4]
  exact rfl
 refine aq (e2 _ _) ?_
 exact ⟨_,rfl,jL.fin (e2 _ _) gS (fun i hi=>by rw [ah (by rw [List.length_set];omega),List.getElem?_set_ne (by omega)]) fun z hz=>(Option.some.inj hz).symm,rfl⟩
set_option maxHeartbeats 8000000 in
theorem Qz {x a b:aj} (B8:x.kind=10) (hk:x.kids=[a,b]) (ha:dN E res a) (hb:dN E res b) (Qx:∀ w y t,aE E a w=some (y,t)→TW t) (want:aA) (h:cl B n c s f w E res j lo hi A C kv x):aF Tryz.prog av 169 [.ptr c 0,.ptr j A.length,aY want] ⟨B,T⟩ (mB (match aE E a aQ with
 | some (a,t)=>(gM t).bind fun e=>(bf (aE E b cg) cg).map fun b=>(aT x [a,b],e)
 | none=>none) j lo hi A C kv B T):=by
 obtain ⟨N,hn⟩:∃ N,B.length=N:=⟨_,rfl⟩
 obtain ⟨al,dI⟩:∃ a,A.length=a:=⟨_,rfl⟩
 have gS:=h.nl
 have hjn:=h.nb
 rw [dI]
 refine nH hk ha Qx want aQ (by rw [if_neg (by omega)]) hn dI h (fun h0 v B' hd hv=>?_) fun B1 y t e hr h8 he bg e1 jL f1=>?_
 ·have e0:=Bu (fun a t=>(gM t).bind fun e=>(bf (aE E b cg) cg).map fun b=>(aT x [a,b],e)) (fun y t h=>by rw [sN h];rfl) _ h0
  rw [e0]
  exact ⟨B',rfl,hd,hv⟩
 rw [hr]
 dsimp only
 rw [sM h8 he,Option.bind_some]
 obtain ⟨X,hX⟩:∃ X,A++aV x kv++C=X:=⟨_,rfl⟩
 obtain ⟨x0,x1,x2,x6,x7,x8,x9,kJ,mC⟩:=cS hX.symm dI
 have aD:=jL.row
 rw [jC,hX] at aD
 have hj:j < N+2:=by omega
 have dy:N+1 < N+2:=by omega
 have Ue:=decide_eq_true B8
 have Ud:decide (x.kind=12)=false:=decide_eq_false (by omega)
 obtain ⟨j1,m,cap,rfl,ni⟩:=jL.bx (by rw [aS];simp)
 rw [aS] at ni
 have i1:(1:Int) < (m:Int):=by rw [ni];simp
 obtain ⟨Nr,Ns,A2,C2,T9,a2,⟨qR,uG⟩,q1,q2,q3⟩:=(jL.more (J:=[D0 t e])).oq (k:=1) (y:=b) (by rw [aS];rfl)
 have hh:=iY (T:=T) hb cg q1
 have a2:A2.length=8:=by omega
 rw [a2] at hh
 have cm:=qt.ne (T:=T) q1 cg
 have key:∀ B2,lu j1 Nr Ns A2 C2 T9 (B1++[D0 t e]) B2 (bf (aE E b cg) cg)→B2[j]? = (B1++[D0 t e])[j]?∧B2[N+2]? = (B1++[D0 t e])[N+2]?∧B2[N+1]? = some ng∧B2.length=N+3∧cx j lo hi B.length B B2:=by
  intro B2 eg
  have iK:=eg.2.1
  simp only [List.length_append,List.length_cons,List.length_nil,bg,Nat.zero_add,Nat.reduceAdd] at iK
  have g2:=jL.qK (q2 _ _ eg.1) (i:=N+1) (by omega) (by simp [bg])
  rw [ah (by omega),f1] at g2
  exact ⟨eg.1.2.1 j (by simp;omega) uG,jL.qK (q2 _ _ eg.1) (i:=N+2) (by omega) (by simp [bg]),g2,iK,e1.app.step (q2 _ _ eg.1)⟩
 rw [Nu he]
 unfold D0 at *
 unfold aY at hh
 refine af.go 160 ?_
 simp only [W,seval,ej,bg,hj,aD,x0,Ud,Ue]
 refine af.bE 13 [] [N+2,j] (by kernel_rfl) (by kernel_rfl) (by kernel_rfl) (by kernel_rfl) (by kernel_rfl) (by kernel_rfl) (by kernel_rfl) ?_
 simp (maxSteps:=4000000) only [W,seval,ej,xw,iL,bg,hj,aD,x7,i1,he,bC,bT,cB]
 refine bO (fun Z=>sH _ _) ?_
 simp (maxSteps:=4000000) only [W,seval,ej,xw,bg,aY]
 refine cM cm hh ?_
 rintro v _ ⟨B2,rfl,eg,rfl⟩
 obtain ⟨g1,g2,g3,iK,e3⟩:=key B2 eg
 unfold ng at g3
 have dW:N+1 < B2.length:=by omega
 have Nt:N+1 < N+3:=by omega
 have e4:∀ Z,cx j lo hi B.length B (B2.set (N+1) Z):=fun Z=>e3.jB (by omega)
 have g4:∀ Z,(B2.set (N+1) Z)[N+1]? = some Z:=fun Z=>List.getElem?_set_self dW
 have g5:∀ Z,(B2.set (N+1) Z)[N+2]? = B2[N+2]?:=fun Z=>List.getElem?_set_ne (by omega)
 have g6:∀ Z,(B2.set (N+1) Z)[j]? = B2[j]?:=fun Z=>List.getElem?_set_ne (by omega)
 refine ⟨⟨g2,g1,trivial⟩,?_⟩
 simp (maxSteps:=4000000) only [W,seval,ej,xw,iK,g3,Nt]
 refine ⟨⟨(g5 _).trans g2,(g6 _).trans g1⟩,⟨(g5 _).trans g2,(g6 _).trans g1⟩,?_⟩
 refine af.go 20 ?_
 simp only [W,seval,ej,iK]
 refine cH (v:=?_) (u:=?_) Tryz.func169 (by rfl) ?_ ?_ ?_
 rotate_left 2
 ·try simp only [W,seval,ej,iK,g4]
  exact rfl
 ·try simp only [W,seval,ej,iK,g4]
  exact rfl
 refine aq (e4 _) ?_
 cases hw:bf (aE E b cg) cg with
 | none=>exact ⟨_,rfl,.none (e4 _) rfl,e,rfl⟩
 | some z =>
  rw [hw] at eg
  have h9:=q3 B2 z eg
  rw [aS,eM] at h9
  exact ⟨_,rfl,h9.fin (e4 _) gS (fun i hi=>List.getElem?_set_ne (by omega)) fun u hu=>(Option.some.inj hu).symm,rfl⟩
set_option maxHeartbeats 8000000 in
theorem QB {x a b:aj} (Vi:x.kind=13) (hk:x.kids=[a,b]) (ha:dN E res a) (hb:dN E res b) (Qx:∀ w y t,aE E a w=some (y,t)→TW t) (want:aA) (h:cl B n c s f w E res j lo hi A C kv x):aF Tryz.prog av 169 [.ptr c 0,.ptr j A.length,aY want] ⟨B,T⟩ (mB (match aE E a want with
 | some (a,t)=>(gM t).bind fun e=>(bf (aE E b e) e).map fun b=>(aT x [a,b],t)
 | none=>none) j lo hi A C kv B T):=by
 obtain ⟨N,hn⟩:∃ N,B.length=N:=⟨_,rfl⟩
 obtain ⟨al,dI⟩:∃ a,A.length=a:=⟨_,rfl⟩
 have gS:=h.nl
 have hjn:=h.nb
 rw [dI]
 refine nH hk ha Qx want want (by rw [if_pos Vi]) hn dI h (fun h0 v B' hd hv=>?_) fun B1 y t e hr h8 he bg e1 jL f1=>?_
 ·have e0:=Bu (fun a t=>(gM t).bind fun e=>(bf (aE E b e) e).map fun b=>(aT x [a,b],t)) (fun y t h=>by rw [sN h];rfl) _ h0
  rw [e0]
  exact ⟨B',rfl,hd,hv⟩
 rw [hr]
 dsimp only
 rw [sM h8 he,Option.bind_some]
 obtain ⟨X,hX⟩:∃ X,A++aV x kv++C=X:=⟨_,rfl⟩
 obtain ⟨x0,x1,x2,x6,x7,x8,x9,kJ,mC⟩:=cS hX.symm dI
 have aD:=jL.row
 rw [jC,hX] at aD
 have hj:j < N+2:=by omega
 have dy:N+1 < N+2:=by omega
 have Ue:decide (x.kind=10)=false:=decide_eq_false (by omega)
 have Xm:decide (x.kind=11)=false:=decide_eq_false (by omega)
 have Ud:decide (x.kind=12)=false:=decide_eq_false (by omega)
 obtain ⟨j1,m,cap,rfl,ni⟩:=jL.bx (by rw [aS];simp)
 rw [aS] at ni
 have i1:(1:Int) < (m:Int):=by rw [ni];simp
 obtain ⟨Nr,Ns,A2,C2,T9,a2,⟨qR,uG⟩,q1,q2,q3⟩:=(jL.more (J:=[D0 t e])).oq (k:=1) (y:=b) (by rw [aS];rfl)
 have hh:=iY (T:=T) hb e q1
 have a2:A2.length=8:=by omega
 rw [a2] at hh
 have cm:=qt.ne (T:=T) q1 e
 have key:∀ B2,lu j1 Nr Ns A2 C2 T9 (B1++[D0 t e]) B2 (bf (aE E b e) e)→B2[j]? = (B1++[D0 t e])[j]?∧B2[N+2]? = (B1++[D0 t e])[N+2]?∧B2[N+1]? = some ng∧B2.length=N+3∧cx j lo hi B.length B B2:=by
  intro B2 eg
  have iK:=eg.2.1
  simp only [List.length_append,List.length_cons,List.length_nil,bg,Nat.zero_add,Nat.reduceAdd] at iK
  have g2:=jL.qK (q2 _ _ eg.1) (i:=N+1) (by omega) (by simp [bg])
  rw [ah (by omega),f1] at g2
  exact ⟨eg.1.2.1 j (by simp;omega) uG,jL.qK (q2 _ _ eg.1) (i:=N+2) (by omega) (by simp [bg]),g2,iK,e1.app.step (q2 _ _ eg.1)⟩
 rw [Nu he]
 unfold D0 at *
 unfold aY at hh
 refine af.go 160 ?_
 simp only [W,seval,ej,bg,hj,aD,x0,Ud,Ue,Xm]
 refine af.bE 13 [] [N+2,j] (by kernel_rfl) (by kernel_rfl) (by kernel_rfl) (by kernel_rfl) (by kernel_rfl) (by kernel_rfl) (by kernel_rfl) ?_
 simp (maxSteps:=4000000) only [W,seval,ej,xw,iL,bg,hj,aD,x7,i1,he,bC,bT,cB]
 refine cM cm hh ?_
 rintro v _ ⟨B2,rfl,eg,rfl⟩
 obtain ⟨g1,g2,g3,iK,e3⟩:=key B2 eg
 unfold ng at g3
 have dW:N+1 < B2.length:=by omega
 have Nt:N+1 < N+3:=by omega
 have e4:∀ Z,cx j lo hi B.length B (B2.set (N+1) Z):=fun Z=>e3.jB (by omega)
 have g4:∀ Z,(B2.set (N+1) Z)[N+1]? = some Z:=fun Z=>List.getElem?_set_self dW
 have g5:∀ Z,(B2.set (N+1) Z)[N+2]? = B2[N+2]?:=fun Z=>List.getElem?_set_ne (by omega)
 have g6:∀ Z,(B2.set (N+1) Z)[j]? = B2[j]?:=fun Z=>List.getElem?_set_ne (by omega)
 refine ⟨⟨g2,g1,trivial⟩,?_⟩
 simp (maxSteps:=4000000) only [W,seval,ej,xw,iK,g3,Nt]
 refine ⟨⟨(g5 _).trans g2,(g6 _).trans g1⟩,⟨(g5 _).trans g2,(g6 _).trans g1⟩,?_⟩
 refine af.go 20 ?_
 simp only [W,seval,ej,iK]
 refine cH (v:=?_) (u:=?_) Tryz.func169 (by rfl) ?_ ?_ ?_
 rotate_left 2
 ·try simp only [W,seval,ej,iK,g4]
  exact rfl
 ·try simp only [W,seval,ej,iK,g4]
  exact rfl
 refine aq (e4 _) ?_
 cases hw:bf (aE E b e) e with
 | none=>exact ⟨_,rfl,.none (e4 _) rfl,t,by unfold aY;rw [he,List.map_cons,List.map_nil,cB];rfl⟩
 | some z =>
  rw [hw] at eg
  have h9:=q3 B2 z eg
  rw [aS,eM] at h9
  exact ⟨_,rfl,h9.fin (e4 _) gS (fun i hi=>List.getElem?_set_ne (by omega)) fun u hu=>(Option.some.inj hu).symm,by show _=V.bY [aY t,_];unfold aY;rw [he,List.map_cons,List.map_nil,cB];rfl⟩
set_option maxHeartbeats 8000000 in
theorem QD {x a b d:aj} (B9:x.kind=11) (hk:x.kids=[a,b,d]) (ha:dN E res a) (hb:dN E res b) (hd:dN E res d) (Qx:∀ w y t,aE E a w=some (y,t)→TW t) (want:aA) (h:cl B n c s f w E res j lo hi A C kv x):aF Tryz.prog av 169 [.ptr c 0,.ptr j A.length,aY want] ⟨B,T⟩ (mB (match aE E a aQ with
 | some (a,t)=>(gM t).bind fun _=>(bf (aE E b cg) cg).bind fun b=>(bf (aE E d cg) cg).map fun c=>(aT x [a,b,c],t)
 | none=>none) j lo hi A C kv B T):=by
 obtain ⟨N,hn⟩:∃ N,B.length=N:=⟨_,rfl⟩
 obtain ⟨al,dI⟩:∃ a,A.length=a:=⟨_,rfl⟩
 have gS:=h.nl
 have hjn:=h.nb
 rw [dI]
 refine nH hk ha Qx want aQ (by rw [if_neg (by omega)]) hn dI h (fun h0 v B' hd hv=>?_) fun B1 y t e hr h8 he bg e1 jL f1=>?_
 ·have e0:=Bu (fun a t=>(gM t).bind fun _=>(bf (aE E b cg) cg).bind fun b=>(bf (aE E d cg) cg).map fun c=>(aT x [a,b,c],t)) (fun y t h=>by rw [sN h];rfl) _ h0
  rw [e0]
  exact ⟨B',rfl,hd,hv⟩
 rw [hr]
 dsimp only
 rw [sM h8 he,Option.bind_some]
 obtain ⟨X,hX⟩:∃ X,A++aV x kv++C=X:=⟨_,rfl⟩
 obtain ⟨x0,x1,x2,x6,x7,x8,x9,kJ,mC⟩:=cS hX.symm dI
 have aD:=jL.row
 rw [jC,hX] at aD
 have hj:j < N+2:=by omega
 have dy:N+1 < N+2:=by omega
 have Ue:decide (x.kind=10)=false:=decide_eq_false (by omega)
 have Xm:=decide_eq_true B9
 have Ud:decide (x.kind=12)=false:=decide_eq_false (by omega)
 obtain ⟨j1,m,cap,rfl,ni⟩:=jL.bx (by rw [aS];simp)
 rw [aS] at ni
 have i1:(1:Int) < (m:Int):=by rw [ni];simp
 obtain ⟨Nr,Ns,A2,C2,T9,a2,⟨qR,uG⟩,q1,q2,q3⟩:=(jL.more (J:=[D0 t e])).oq (k:=1) (y:=b) (by rw [aS];rfl)
 have hh:=iY (T:=T) hb cg q1
 have a2:A2.length=8:=by omega
 rw [a2] at hh
 have cm:=qt.ne (T:=T) q1 cg
 have key:∀ B2,lu j1 Nr Ns A2 C2 T9 (B1++[D0 t e]) B2 (bf (aE E b cg) cg)→B2[j]? = (B1++[D0 t e])[j]?∧B2[N+2]? = (B1++[D0 t e])[N+2]?∧B2[N+1]? = some ng∧B2.length=N+3∧cx j lo hi B.length B B2:=by
  intro B2 eg
  have iK:=eg.2.1
  simp only [List.length_append,List.length_cons,List.length_nil,bg,Nat.zero_add,Nat.reduceAdd] at iK
  have g2:=jL.qK (q2 _ _ eg.1) (i:=N+1) (by omega) (by simp [bg])
  rw [ah (by omega),f1] at g2
  exact ⟨eg.1.2.1 j (by simp;omega) uG,jL.qK (q2 _ _ eg.1) (i:=N+2) (by omega) (by simp [bg]),g2,iK,e1.app.step (q2 _ _ eg.1)⟩
 rw [Nu he]
 unfold D0 at *
 unfold aY at hh
 refine af.go 160 ?_
 simp only [W,seval,ej,bg,hj,aD,x0,Ud,Ue,Xm]
 refine af.bE 20 [] [N+2,j] (by kernel_rfl) (by kernel_rfl) (by kernel_rfl) (by kernel_rfl) (by kernel_rfl) (by kernel_rfl) (by kernel_rfl) ?_
 simp (maxSteps:=4000000) only [W,seval,ej,xw,iL,bg,hj,aD,x7,i1,he,bC,bT,cB]
 refine bO (fun Z=>sH _ _) ?_
 simp (maxSteps:=4000000) only [W,seval,ej,xw,bg,aY]
 refine cM cm hh ?_
 rintro v _ ⟨B2,rfl,eg,rfl⟩
 obtain ⟨g1,g2,g3,iK,e3⟩:=key B2 eg
 unfold ng at g3
 have E2:j < N+3:=by omega
 have Nt:N+1 < N+3:=by omega
 have hN5:N+2 < N+3:=by omega
 have dW:N+1 < B2.length:=by omega
 refine ⟨⟨g2,g1,trivial⟩,?_⟩
 cases hw:bf (aE E b cg) cg with
 | none =>
  simp (maxSteps:=4000000) only [W,seval,ej,xw,Option.isSome_none,iK,g3,Nt]
  have e4:∀ Z,cx j lo hi B.length B (B2.set (N+1) Z):=fun Z=>e3.jB (by omega)
  have g4:∀ Z,(B2.set (N+1) Z)[N+1]? = some Z:=fun Z=>List.getElem?_set_self dW
  have g5:∀ Z,(B2.set (N+1) Z)[N+2]? = B2[N+2]?:=fun Z=>List.getElem?_set_ne (by omega)
  have g6:∀ Z,(B2.set (N+1) Z)[j]? = B2[j]?:=fun Z=>List.getElem?_set_ne (by omega)
  refine ⟨⟨(g5 _).trans g2,(g6 _).trans g1⟩,⟨(g5 _).trans g2,(g6 _).trans g1⟩,?_⟩
  refine af.go 20 ?_
  simp only [W,seval,ej,iK]
  refine cH (v:=?_) (u:=?_) Tryz.func169 (by rfl) ?_ ?_ ?_
  rotate_left 2
  ·try simp only [W,seval,ej,iK,g4]
   exact rfl
  ·try simp only [W,seval,ej,iK,g4]
   exact rfl
  refine aq (e4 _) ?_
  exact ⟨_,rfl,.none (e4 _) rfl,t,by unfold aY;rw [he,List.map_cons,List.map_nil,cB];rfl⟩
 | some z =>
  rw [hw] at eg
  have h9:=q3 B2 z eg
  rw [aS,eM] at h9
  obtain ⟨lo3,hi3,A3,C3,kv3,a3,⟨hj3,Uf⟩,r1,r2,r3⟩:=h9.oq (k:=2) (y:=d) (by rw [aS];rfl)
  have Ug:=iY (T:=T) hd cg r1
  have a3:A3.length=16:=by omega
  rw [a3] at Ug
  unfold aY at Ug
  have Uh:=qt.ne (T:=T) r1 cg
  have Ko:B2[j]? = some X:=by rw [g1,ah (by omega)];exact aD
  have i2:(2:Int) < (m:Int):=by rw [ni];simp
  simp (maxSteps:=4000000) only [W,seval,ej,xw,iL,Option.isSome_some,iK,g3,Nt,E2,Ko,x7,i2]
  refine bO (fun Z=>sH _ _) ?_
  simp (maxSteps:=4000000) only [W,seval,ej,xw,iK,aY]
  refine ⟨⟨g2,g1⟩,cM Uh Ug ?_⟩
  rintro v _ ⟨B3,rfl,zV,rfl⟩
  have Ks:=zV.2.1
  rw [iK] at Ks
  have e5:=e3.step (r2 _ _ zV.1)
  have k1:=(zV.1.2.1 j (by omega) Uf)
  have k2:=h9.qK (r2 _ _ zV.1) (i:=N+2) (by omega) (by omega)
  have k3:=h9.qK (r2 _ _ zV.1) (i:=N+1) (by omega) (by omega)
  rw [g3] at k3
  have Xn:N+1 < B3.length:=by omega
  have e4:∀ Z,cx j lo hi B.length B (B3.set (N+1) Z):=fun Z=>e5.jB (by omega)
  have g4:∀ Z,(B3.set (N+1) Z)[N+1]? = some Z:=fun Z=>List.getElem?_set_self Xn
  have g5:∀ Z,(B3.set (N+1) Z)[N+2]? = B3[N+2]?:=fun Z=>List.getElem?_set_ne (by omega)
  have g6:∀ Z,(B3.set (N+1) Z)[j]? = B3[j]?:=fun Z=>List.getElem?_set_ne (by omega)
  have k4:=k2.trans g2
  have k5:=k1.trans g1
  refine ⟨⟨k4,k5,trivial⟩,?_⟩
  simp (maxSteps:=4000000) only [W,seval,ej,xw,Ks,k3,Nt]
  refine ⟨⟨(g5 _).trans k4,(g6 _).trans k5⟩,⟨(g5 _).trans k4,(g6 _).trans k5⟩,?_⟩
  refine af.go 20 ?_
  simp only [W,seval,ej,Ks]
  refine cH (v:=?_) (u:=?_) Tryz.func169 (by rfl) ?_ ?_ ?_
  rotate_left 2
  ·try simp only [W,seval,ej,Ks,g4]
   exact rfl
  ·try simp only [W,seval,ej,Ks,g4]
   exact rfl
  refine aq (e4 _) ?_
  cases Xo:bf (aE E d cg) cg with
  | none=>exact ⟨_,rfl,.none (e4 _) rfl,t,by unfold aY;rw [he,List.map_cons,List.map_nil,cB];rfl⟩
  | some u =>
   rw [Xo] at zV
   have hA:=r3 B3 u zV
   rw [aS,eM] at hA
   exact ⟨_,rfl,hA.fin (e4 _) gS (fun i hi=>List.getElem?_set_ne (by omega)) fun u hu=>(Option.some.inj hu).symm,by show _=V.bY [aY t,_];unfold aY;rw [he,List.map_cons,List.map_nil,cB];rfl⟩
end
def fR:=by
 have c:=aM Tryz.f173 (by conv=>lhs;cbv)
 dsimp only [KK,eN,eG,eH,List.map_cons,List.map_nil,List.toList_toArray] at c
 exact c
theorem Ui:bI Tryz.prog 173 Tryz.f173 78:=⟨Tryz.func173,by kernel_rfl⟩
section
variable {E:bP} {res:List aA} {n c s f w:Nat} {B:List (List V)} {T:List (Nat × Nat)} {j lo hi:Nat} {A C:List V} {kv:V}
set_option maxHeartbeats 8000000 in
theorem QE {x a:aj} (h4:x.kind=4) (hk:x.kids=[a]) (ha:dN E res a) (want:aA) (h:cl B n c s f w E res j lo hi A C kv x):aF Tryz.prog av 173 [.ptr c 0,.ptr j A.length,aY want] ⟨B,T⟩ (mB ((bf (aE E a bz) bz).map fun a=>(aT x [a],bz)) j lo hi A C kv B T):=by
 obtain ⟨N,hn⟩:∃ N,B.length=N:=⟨_,rfl⟩
 obtain ⟨al,dI⟩:∃ a,A.length=a:=⟨_,rfl⟩
 obtain ⟨X,hX⟩:∃ X,A++aV x kv++C=X:=⟨_,rfl⟩
 obtain ⟨x0,x1,x2,x6,x7,x8,x9,kJ,mC⟩:=cS hX.symm dI
 have aD:=h.row
 rw [hX] at aD
 have gS:=h.nl
 have hj:j < N:=by have:=h.nb;omega
 obtain ⟨j1,m,cap,rfl,ni⟩:=h.bx (by rw [hk];simp)
 have hm:(0:Int) < (m:Int):=by rw [ni,hk];simp
 obtain ⟨eL,dK,A1,C1,mX,a1,⟨qR,uG⟩,k1,k2,k3⟩:=(h.more (J:=[jK want,ng])).oq (k:=0) (y:=a) (by rw [hk];rfl)
 rw [Nat.zero_mul] at a1
 have hh:=iY (T:=T) ha bz k1
 have e4:=decide_eq_true h4
 have dy:N+1 < N+2:=by omega
 rw [a1] at hh
 rw [dI]
 unfold aY jK ng at *
 refine Ui.go 160 rfl fun bk=>?_
 simp only [dP] at bk
 simp only [W,seval,fR,iL,hn,hj,aD,x0,x7,hm,e4]
 refine ag (fy _ _) ?_
 rintro _ _ ⟨rfl,rfl⟩
 refine af.go 60 ?_
 simp only [W,seval,fR]
 refine ag (fy _ _) ?_
 rintro _ _ ⟨rfl,rfl⟩
 unfold aY
 refine af.go 60 ?_
 simp only [W,seval,fR]
 refine aU hh ?_
 rintro v _ ⟨B1,rfl,hd,rfl⟩
 have bg:=hd.2.1
 simp only [List.length_append,List.length_cons,List.length_nil,hn,Nat.zero_add,Nat.reduceAdd] at bg
 have e1:cx j lo hi B.length B B1:=cx.new.step (k2 _ _ hd.1)
 have f1:=h.qK (k2 _ _ hd.1) (i:=N+1) (by omega) (by simp [hn])
 rw [dF hn] at f1
 simp only [List.getElem?_cons_zero,List.getElem?_cons_succ] at f1
 have dW:N+1 < B1.length:=by omega
 have e2:∀ Z,cx j lo hi B.length B (B1.set (N+1) Z):=fun Z=>e1.jB (by omega)
 have g4:∀ Z,(B1.set (N+1) Z)[N+1]? = some Z:=fun Z=>List.getElem?_set_self dW
 refine af.go 60 ?_
 simp only [W,seval,fR,bg,f1,dy]
 refine cH (v:=?_) (u:=?_) Tryz.func173 (by rfl) ?_ ?_ ?_
 rotate_left 2
 ·try simp only [W,seval,fR,g4]
  exact rfl
 ·try simp only [W,seval,fR,g4]
  exact rfl
 refine aq (e2 _) ?_
 cases hw:bf (aE E a bz) bz with
 | none=>exact ⟨_,rfl,.none (e2 _) rfl,bz,rfl⟩
 | some z =>
  rw [hw] at hd
  have h9:=k3 B1 z hd
  rw [hk] at h9
  exact ⟨_,rfl,h9.fin (e2 _) gS (fun i hi=>List.getElem?_set_ne (by omega)) fun u hu=>(Option.some.inj hu).symm,rfl⟩
set_option maxHeartbeats 8000000 in
theorem QF {x a:aj} (h5:x.kind=5) (hk:x.kids=[a]) (ha:dN E res a) (want:aA) (h:cl B n c s f w E res j lo hi A C kv x):aF Tryz.prog av 173 [.ptr c 0,.ptr j A.length,aY want] ⟨B,T⟩ (mB (match aE E a want with
 | some (a,t)=>if kB t.kind=true then some (aT x [a],t) else none
 | none=>none) j lo hi A C kv B T):=by
 obtain ⟨N,hn⟩:∃ N,B.length=N:=⟨_,rfl⟩
 obtain ⟨al,dI⟩:∃ a,A.length=a:=⟨_,rfl⟩
 obtain ⟨X,hX⟩:∃ X,A++aV x kv++C=X:=⟨_,rfl⟩
 obtain ⟨x0,x1,x2,x6,x7,x8,x9,kJ,mC⟩:=cS hX.symm dI
 have aD:=h.row
 rw [hX] at aD
 have gS:=h.nl
 have hj:j < N:=by have:=h.nb;omega
 obtain ⟨j1,m,cap,rfl,ni⟩:=h.bx (by rw [hk];simp)
 have hm:(0:Int) < (m:Int):=by rw [ni,hk];simp
 obtain ⟨eL,dK,A1,C1,mX,a1,⟨qR,uG⟩,k1,k2,k3⟩:=(h.more (J:=[jK want,ng])).oq (k:=0) (y:=a) (by rw [hk];rfl)
 rw [Nat.zero_mul] at a1
 have hh:=ha want n c s f w _ T _ _ _ _ _ _ k1
 have e5:=decide_eq_true h5
 have e4:decide (x.kind=4)=false:=decide_eq_false (by omega)
 have dy:N+1 < N+2:=by omega
 rw [a1] at hh
 rw [dI]
 unfold aY jK ng at *
 refine Ui.go 160 rfl fun bk=>?_
 simp only [dP] at bk
 simp only [W,seval,fR,iL,hn,hj,aD,x0,x7,hm,e4,e5]
 refine aU hh ?_
 rintro v _ ⟨B1,rfl,hd,hv⟩
 obtain ⟨t,b,rfl,me,jc⟩:=nF hv
 have bg:=hd.2.1
 simp only [List.length_append,List.length_cons,List.length_nil,hn,Nat.zero_add,Nat.reduceAdd] at bg
 have e1:cx j lo hi B.length B B1:=cx.new.step (k2 _ _ hd.1)
 have f1:=h.qK (k2 _ _ hd.1) (i:=N+1) (by omega) (by simp [hn])
 rw [dF hn] at f1
 simp only [List.getElem?_cons_zero,List.getElem?_cons_succ] at f1
 have dW:N+1 < B1.length:=by omega
 have e2:∀ Z J,cx j lo hi B.length B (B1.set (N+1) Z++J):=fun Z J=>(e1.jB (by omega)).app
 have g4:∀ Z,(B1.set (N+1) Z)[N+1]? = some Z:=fun Z=>List.getElem?_set_self dW
 unfold aY
 cases b
 ·have hr:=jc rfl
  rw [hr]
  refine af.go 60 ?_
  simp only [W,seval,fR,bg]
  refine af.bE 7 [] [N+2] (by kernel_rfl) (by kernel_rfl) (by kernel_rfl) (by kernel_rfl) (by kernel_rfl) (by kernel_rfl) (by kernel_rfl) ?_
  simp (maxSteps:=4000000) only [W,seval,fR,xw,bg,f1,dy]
  refine af.go 60 ?_
  simp only [W,seval,fR,bg]
  refine cH (v:=?_) (u:=?_) Tryz.func173 (by rfl) ?_ ?_ ?_
  rotate_left 2
  ·try simp only [W,seval,fR,bg,dy,dW,g4]
   exact rfl
  ·try simp only [W,seval,fR,bg,dy,dW,g4]
   exact rfl
  refine aq (e2 _ _) ?_
  exact ⟨_,rfl,.none (e2 _ _) rfl,t,rfl⟩
 ·obtain ⟨y,hr⟩:=me rfl
  rw [hr] at hd ⊢
  dsimp only
  refine af.go 60 ?_
  simp only [W,seval,fR,bg]
  refine af.bE 7 [] [N+2] (by kernel_rfl) (by kernel_rfl) (by kernel_rfl) (by kernel_rfl) (by kernel_rfl) (by kernel_rfl) (by kernel_rfl) ?_
  simp (maxSteps:=4000000) only [W,seval,fR,xw,bg,f1,dy]
  refine bO (fun Z=>fA t _ _) ?_
  simp (maxSteps:=4000000) only [W,seval,fR,xw,bg,f1,dy]
  refine af.go 60 ?_
  simp only [W,seval,fR,bg]
  refine cH (v:=?_) (u:=?_) Tryz.func173 (by rfl) ?_ ?_ ?_
  rotate_left 2
  ·try simp only [W,seval,fR,bg,dy,dW,g4]
   exact rfl
  ·try simp only [W,seval,fR,bg,dy,dW,g4]
   exact rfl
  refine aq (e2 _ _) ?_
  have h9:=k3 B1 y hd
  rw [hk] at h9
  cases kB t.kind with
  | false=>exact ⟨_,rfl,.none (e2 _ _) rfl,t,rfl⟩
  | true=>exact ⟨_,rfl,h9.fin (e2 _ _) gS (fun i hi=>by rw [ah (by rw [List.length_set];omega),List.getElem?_set_ne (by omega)]) fun u hu=>(Option.some.inj hu).symm,rfl⟩
set_option maxHeartbeats 8000000 in
theorem QG {x a:aj} (h8:x.kind=8) (hk:x.kids=[a]) (ha:dN E res a) (zq:a.kind=5→a.kids ≠ []) (want:aA) (h:cl B n c s f w E res j lo hi A C kv x):aF Tryz.prog av 173 [.ptr c 0,.ptr j A.length,aY want] ⟨B,T⟩ (mB (if ic a=true then (bf (aE E a x.type) x.type).map fun a=>(aT x [a],x.type) else match aE E a aQ with
 | some (a,t)=>if kB t.kind=true then some (aT x [a],x.type) else none
 | none=>none) j lo hi A C kv B T):=by
 obtain ⟨N,hn⟩:∃ N,B.length=N:=⟨_,rfl⟩
 obtain ⟨al,dI⟩:∃ a,A.length=a:=⟨_,rfl⟩
 obtain ⟨X,hX⟩:∃ X,A++aV x kv++C=X:=⟨_,rfl⟩
 obtain ⟨x0,x1,x2,x6,x7,x8,x9,kJ,mC⟩:=cS hX.symm dI
 have aD:=h.row
 rw [hX] at aD
 have gS:=h.nl
 have hj:j < N:=by have:=h.nb;omega
 obtain ⟨j1,m,cap,rfl,ni⟩:=h.bx (by rw [hk];simp)
 have hm:(0:Int) < (m:Int):=by rw [ni,hk];simp
 obtain ⟨eL,dK,A1,C1,mX,a1,⟨qR,uG⟩,k1,k2,k3⟩:=(h.more (J:=[jK want,ng])).oq (k:=0) (y:=a) (by rw [hk];rfl)
 rw [Nat.zero_mul] at a1
 have OI:=Gu zq k1.own T
 have hh:=iY (T:=T) ha x.type k1
 have ht:=ha aQ n c s f w _ T _ _ _ _ _ _ k1
 obtain ⟨Y,hY⟩:∃ Y,A1++aV a mX++C1=Y:=⟨_,rfl⟩
 obtain ⟨y0,y7,y8,y9⟩:=Br hY.symm a1
 have lZ:=k1.row
 rw [hY,ah (by omega)] at lZ
 have qR:j1 < N:=by omega
 have e5:decide (x.kind=5)=false:=decide_eq_false (by omega)
 have e4:decide (x.kind=4)=false:=decide_eq_false (by omega)
 have dy:N+1 < N+2:=by omega
 rw [a1] at hh ht
 rw [dI]
 unfold aY jK ng at *
 refine Ui.go 160 rfl fun bk=>?_
 simp only [dP] at bk
 simp only [W,seval,fR,iL,hn,hj,aD,x0,x7,hm,e4,e5,qR,lZ,y8,y9]
 refine aU OI ?_
 rintro _ _ ⟨rfl,rfl⟩
 have key:∀ B1 r,lu j1 eL dK A1 C1 mX (B++[[V.d (.int .i64 want.kind),.d (.str want.name),.d (.sl (want.elem.map dR))],[V.d (.int .i64 0),.d (.str []),.sl [] .full]]) B1 r→B1.length=N+2∧cx j lo hi B.length B B1∧B1[N+1]? = some [V.d (.int .i64 0),.d (.str []),.sl [] .full]∧B1[j]? = some X:=by
  intro B1 r hd
  have bg:=hd.2.1
  simp only [List.length_append,List.length_cons,List.length_nil,hn,Nat.zero_add,Nat.reduceAdd] at bg
  have f1:=h.qK (k2 _ _ hd.1) (i:=N+1) (by omega) (by simp [hn])
  rw [dF hn] at f1
  simp only [List.getElem?_cons_zero,List.getElem?_cons_succ] at f1
  exact ⟨bg,cx.new.step (k2 _ _ hd.1),f1,by rw [hd.1.2.1 j (by simp;omega) uG,ah (by omega)];exact aD⟩
 have E2:j < N+2:=by omega
 cases Qw:ic a
 ·rw [if_neg (by decide)]
  refine af.go 60 ?_
  simp only [W,seval,fR]
  refine ag (cR _ _) ?_
  rintro _ _ ⟨rfl,rfl⟩
  unfold aY
  refine af.go 60 ?_
  simp only [W,seval,fR]
  refine aU ht ?_
  rintro v _ ⟨B1,rfl,hd,hv⟩
  obtain ⟨t,b,rfl,me,jc⟩:=nF hv
  obtain ⟨bg,e1,f1,f2⟩:=key B1 _ hd
  have dW:N+1 < B1.length:=by omega
  have e2:∀ Z J,cx j lo hi B.length B (B1.set (N+1) Z++J):=fun Z J=>(e1.jB (by omega)).app
  have g4:∀ Z,(B1.set (N+1) Z)[N+1]? = some Z:=fun Z=>List.getElem?_set_self dW
  have g6:∀ Z,(B1.set (N+1) Z)[j]? = B1[j]?:=fun Z=>List.getElem?_set_ne (by omega)
  have g7:∀ Z J,(B1.set (N+1) Z++J)[j]? = (B1++J)[j]?:=fun Z J=>by rw [ah (by rw [List.length_set];omega),ah (by omega),g6]
  unfold aY
  cases b
  ·have hr:=jc rfl
   rw [hr]
   refine af.go 60 ?_
   simp only [W,seval,fR,bg]
   refine af.bE 10 [] [j] (by kernel_rfl) (by kernel_rfl) (by kernel_rfl) (by kernel_rfl) (by kernel_rfl) (by kernel_rfl) (by kernel_rfl) ?_
   simp (maxSteps:=4000000) only [W,seval,fR,xw,bg,f1,dy,E2,f2,kJ,mC]
   refine ⟨(g6 _).trans f2,(g6 _).trans f2,?_⟩
   refine af.go 60 ?_
   simp only [W,seval,fR,bg]
   refine cH (v:=?_) (u:=?_) Tryz.func173 (by rfl) ?_ ?_ ?_
   rotate_left 2
   ·try simp only [W,seval,fR,bg,dy,dW,g4]
    exact rfl
   ·try simp only [W,seval,fR,bg,dy,dW,g4]
    exact rfl
   refine aq (e2 _ _) ?_
   exact ⟨_,rfl,.none (e2 _ _) rfl,x.type,rfl⟩
  ·obtain ⟨y,hr⟩:=me rfl
   rw [hr] at hd ⊢
   dsimp only
   refine af.go 60 ?_
   simp only [W,seval,fR,bg]
   refine af.bE 10 [] [j,N+2] (by kernel_rfl) (by kernel_rfl) (by kernel_rfl) (by kernel_rfl) (by kernel_rfl) (by kernel_rfl) (by kernel_rfl) ?_
   simp (maxSteps:=4000000) only [W,seval,fR,xw,bg,f1,dy,E2,f2,kJ,mC]
   refine bO (fun Z=>fA t _ _) ?_
   simp (maxSteps:=4000000) only [W,seval,fR,xw,bg,f1,dy]
   refine ⟨g7 _ _,g7 _ _,?_⟩
   refine af.go 60 ?_
   simp only [W,seval,fR,bg]
   refine cH (v:=?_) (u:=?_) Tryz.func173 (by rfl) ?_ ?_ ?_
   rotate_left 2
   ·try simp only [W,seval,fR,bg,dy,dW,g4]
    exact rfl
   ·try simp only [W,seval,fR,bg,dy,dW,g4]
    exact rfl
   refine aq (e2 _ _) ?_
   have h9:=k3 B1 y hd
   rw [hk] at h9
   cases kB t.kind with
   | false=>exact ⟨_,rfl,.none (e2 _ _) rfl,x.type,rfl⟩
   | true=>exact ⟨_,rfl,h9.fin (e2 _ _) gS (fun i hi=>by rw [ah (by rw [List.length_set];omega),List.getElem?_set_ne (by omega)]) fun u hu=>(Option.some.inj hu).symm,rfl⟩
 ·rw [if_pos rfl]
  refine af.go 60 ?_
  simp only [W,seval,fR]
  refine af.bE 12 [] [j] (by kernel_rfl) (by kernel_rfl) (by kernel_rfl) (by kernel_rfl) (by kernel_rfl) (by kernel_rfl) (by kernel_rfl) ?_
  simp (maxSteps:=4000000) only [W,seval,fR,xw,hn,hj,aD,kJ,mC]
  refine cM (qt.ne (T:=T) k1 x.type) hh ?_
  rintro v _ ⟨B1,rfl,hd,rfl⟩
  obtain ⟨bg,e1,f1,f2⟩:=key B1 _ hd
  have dW:N+1 < B1.length:=by omega
  have e2:∀ Z,cx j lo hi B.length B (B1.set (N+1) Z):=fun Z=>e1.jB (by omega)
  have g4:∀ Z,(B1.set (N+1) Z)[N+1]? = some Z:=fun Z=>List.getElem?_set_self dW
  have g1:B1[j]? = (B++[[V.d (.int .i64 want.kind),.d (.str want.name),.d (.sl (want.elem.map dR))],[V.d (.int .i64 0),.d (.str []),.sl [] .full]])[j]?:=hd.1.2.1 j (by simp;omega) uG
  have g6:∀ Z,(B1.set (N+1) Z)[j]? = B1[j]?:=fun Z=>List.getElem?_set_ne (by omega)
  refine ⟨⟨g1,trivial⟩,?_⟩
  simp (maxSteps:=4000000) only [W,seval,fR,xw,bg,f1,dy]
  refine ⟨(g6 _).trans g1,(g6 _).trans g1,?_⟩
  refine af.go 60 ?_
  simp only [W,seval,fR,bg]
  refine cH (v:=?_) (u:=?_) Tryz.func173 (by rfl) ?_ ?_ ?_
  rotate_left 2
  ·try simp only [W,seval,fR,g4]
   exact rfl
  ·try simp only [W,seval,fR,g4]
   exact rfl
  refine aq (e2 _) ?_
  cases hw:bf (aE E a x.type) x.type with
  | none=>exact ⟨_,rfl,.none (e2 _) rfl,x.type,rfl⟩
  | some z =>
   rw [hw] at hd
   have h9:=k3 B1 z hd
   rw [hk] at h9
   exact ⟨_,rfl,h9.fin (e2 _) gS (fun i hi=>List.getElem?_set_ne (by omega)) fun u hu=>(Option.some.inj hu).symm,rfl⟩
end
def bF:=by
 have c:=aM Tryz.f167 (by conv=>lhs;cbv)
 dsimp only [KK,eN,eG,eH,List.map_cons,List.map_nil,List.toList_toArray] at c
 exact c
theorem Nv:bI Tryz.prog 167 Tryz.f167 124:=⟨Tryz.func167,by kernel_rfl⟩
theorem eY {α:Type} [DecidableEq α] (a b:List α):(a == b)=decide (a=b):=by
 rw [Bool.eq_iff_iff];simp
section
variable {E:bP} {res:List aA} {n c s f w:Nat} {B:List (List V)} {T:List (Nat × Nat)} {j lo hi:Nat} {A C:List V} {kv:V}
theorem Bv {x:aj} {p q:List V} {N:Nat} (hn:B.length=N) (h:cl B n c s f w E res j lo hi A C kv x) {r:Option (aj × aj × aA)} {v:V} {S':Mem} (ht:mB (r.map fun r=>(aT x [r.1,r.2.1],r.2.2)) j lo hi A C kv (B++[p,q]) T v S') :
 ∃ B1 t b0,v = .bY [aY t,.d (.bool b0)]∧S' = ⟨B1,T⟩∧B1.length=N+2∧B1[N+1]? = some q∧(∀ Z J,cx j lo hi B.length B (B1.set (N+1) Z++J))∧(b0=false→r=none)∧(b0=true→∃ a' b',r=some (a',b',t)∧∀ Z J,lu j lo hi A C kv B ((B1.set (N+1) Z++J).take B.length) (some (aT x [a',b']))):=by
 have gS:=h.nl
 obtain ⟨B1,rfl,hd,hv⟩:=ht
 obtain ⟨t,b0,rfl,me,jc⟩:=nF hv
 have bg:=hd.2.1
 simp only [List.length_append,List.length_cons,List.length_nil,hn,Nat.zero_add,Nat.reduceAdd] at bg
 have e1:cx j lo hi B.length B B1:=cx.new.step hd.1
 have f1:=h.qK hd.1 (i:=N+1) (by omega) (by simp [hn])
 rw [dF hn] at f1
 simp only [List.getElem?_cons_zero,List.getElem?_cons_succ] at f1
 have e2:∀ Z J,cx j lo hi B.length B (B1.set (N+1) Z++J):=fun Z J=>(e1.jB (by omega)).app
 refine ⟨B1,t,b0,rfl,rfl,bg,f1,e2,fun h=>by simpa using jc h,fun hb=>?_⟩
 obtain ⟨y,hy⟩:=me hb
 obtain ⟨⟨a',b',t'⟩,hr,e⟩:=Option.map_eq_some_iff.1 hy
 obtain ⟨e3,rfl⟩:=Prod.mk.inj e
 rw [hr] at hd
 exact ⟨a',b',hr,fun Z J=>(h.more.done hd).fin (e2 Z J) gS (fun i hi=>by rw [ah (by rw [List.length_set];omega),List.getElem?_set_ne (by omega)]) fun u hu=>(Option.some.inj hu).symm⟩
set_option maxHeartbeats 8000000 in
theorem Kt {x a b:aj} (vb:kZ x.text=false) (ye:shift x.text=false) (rq:alike x.text=true) (hk:x.kids=[a,b]) (ha:dN E res a) (hb:dN E res b) (zq:a.kind=5→a.kids ≠ []) (want:aA) (h:cl B n c s f w E res j lo hi A C kv x):aF Tryz.prog av 167 [.ptr c 0,.ptr j A.length,aY want] ⟨B,T⟩ (mB ((qs (aE E a) (aE E b) (ic a) x.text want).map fun r=>(aT x [r.1,r.2.1],r.2.2)) j lo hi A C kv B T):=by
 obtain ⟨N,hn⟩:∃ N,B.length=N:=⟨_,rfl⟩
 obtain ⟨al,dI⟩:∃ a,A.length=a:=⟨_,rfl⟩
 obtain ⟨X,hX⟩:∃ X,A++aV x kv++C=X:=⟨_,rfl⟩
 obtain ⟨x0,x1,x2,x6,x7,x8,x9,kJ,mC⟩:=cS hX.symm dI
 have aD:=h.row
 rw [hX] at aD
 have gS:=h.nl
 have hj:j < N:=by have:=h.nb;omega
 have dy:N+1 < N+2:=by omega
 have Bl:=Bs (T:=T) hk ha hb zq aQ (h.more (J:=[jK want,ng]))
 unfold qs
 rw [vb,ye,rq,if_neg (by decide),if_neg (by decide),if_pos rfl]
 have e5:(decide (x.text=[61,61])=true∧decide (x.text=[61,61])=true)∨(decide (x.text=[61,61])=false∧decide (x.text=[33,61])=true):=by
  unfold alike at rq
  rw [eY,eY] at rq
  cases hd:decide (x.text=[61,61])
  ·rw [hd,Bool.false_or] at rq;exact .inr ⟨rfl,rq⟩
  ·exact .inl ⟨rfl,rfl⟩
 unfold kZ at vb
 unfold shift at ye
 rw [eY,eY,Bool.or_eq_false_iff] at vb ye
 obtain ⟨e1,e2⟩:=vb
 obtain ⟨e3,e4⟩:=ye
 rw [dI] at Bl ⊢
 unfold aY jK ng at *
 rcases e5 with ⟨e5,e6⟩ | ⟨e5,e6⟩
 all_goals
  refine Nv.go 160 rfl fun bk=>?_
  simp only [dP] at bk
  simp only [W,seval,bF,hn,hj,aD,x1,e1,e2,e3,e4,e5,e6]
  refine ag (cR _ _) ?_
  rintro _ _ ⟨rfl,rfl⟩
  unfold aY
  refine af.go 60 ?_
  simp only [W,seval,bF,hn]
  refine aU Bl ?_
  intro v S' hv
  obtain ⟨B1,t,b0,rfl,rfl,bg,f1,ee,jc,me⟩:=Bv hn h hv
  have dW:N+1 < B1.length:=by omega
  have g4:∀ Z,(B1.set (N+1) Z)[N+1]? = some Z:=fun Z=>List.getElem?_set_self dW
  unfold aY
  cases b0
  ·rw [jc rfl]
   refine af.go 60 ?_
   simp only [W,seval,bF,bg]
   refine af.bE 12 [] [N+2] (by kernel_rfl) (by kernel_rfl) (by kernel_rfl) (by kernel_rfl) (by kernel_rfl) (by kernel_rfl) (by kernel_rfl) ?_
   simp (maxSteps:=4000000) only [W,seval,bF,xw,bg]
   refine bO (fun Z=>fy _ _) ?_
   simp (maxSteps:=4000000) only [W,seval,bF,xw,bg,f1,dy,aY]
   refine af.go 60 ?_
   simp only [W,seval,bF,bg]
   refine cH (v:=?_) (u:=?_) Tryz.func167 (by rfl) ?_ ?_ ?_
   rotate_left 2
   ·try simp only [W,seval,bF,bg,dy,dW,g4]
    exact rfl
   ·try simp only [W,seval,bF,bg,dy,dW,g4]
    exact rfl
   refine aq (ee _ _) ?_
   exact ⟨_,rfl,.none (ee _ _) rfl,bz,rfl⟩
  ·obtain ⟨a',b',hr,hdd⟩:=me rfl
   rw [hr]
   dsimp only
   refine af.go 60 ?_
   simp only [W,seval,bF,bg]
   cases Nw:kB t.kind
   ·by_cases h1:t.kind=1
    ·have VH:=decide_eq_true h1
     rw [if_pos (.inr h1)]
     refine af.bE 12 [] [N+2] (by kernel_rfl) (by kernel_rfl) (by kernel_rfl) (by kernel_rfl) (by kernel_rfl) (by kernel_rfl) (by kernel_rfl) ?_
     simp (maxSteps:=4000000) only [W,seval,bF,xw,bg]
     refine bO (fun Z=>fy _ _) ?_
     simp (maxSteps:=4000000) only [W,seval,bF,xw,bg,f1,dy,aY]
     refine bO (fun Z=>fA t _ _) ?_
     simp (maxSteps:=4000000) only [W,seval,bF,xw,bg,f1,dy,Nw,VH]
     refine af.go 60 ?_
     simp only [W,seval,bF,bg]
     refine cH (v:=?_) (u:=?_) Tryz.func167 (by rfl) ?_ ?_ ?_
     rotate_left 2
     ·try simp only [W,seval,bF,bg,dy,dW,g4]
      exact rfl
     ·try simp only [W,seval,bF,bg,dy,dW,g4]
      exact rfl
     refine aq (ee _ _) ?_
     exact ⟨_,rfl,hdd _ _,rfl⟩
    ·have VH:=decide_eq_false h1
     rw [if_neg (fun h=>h.elim (fun h=>by cases h) h1)]
     refine af.bE 12 [] [N+2] (by kernel_rfl) (by kernel_rfl) (by kernel_rfl) (by kernel_rfl) (by kernel_rfl) (by kernel_rfl) (by kernel_rfl) ?_
     simp (maxSteps:=4000000) only [W,seval,bF,xw,bg]
     refine bO (fun Z=>fy _ _) ?_
     simp (maxSteps:=4000000) only [W,seval,bF,xw,bg,f1,dy,aY]
     refine bO (fun Z=>fA t _ _) ?_
     simp (maxSteps:=4000000) only [W,seval,bF,xw,bg,f1,dy,Nw,VH]
     refine af.go 60 ?_
     simp only [W,seval,bF,bg]
     refine cH (v:=?_) (u:=?_) Tryz.func167 (by rfl) ?_ ?_ ?_
     rotate_left 2
     ·try simp only [W,seval,bF,bg,dy,dW,g4]
      exact rfl
     ·try simp only [W,seval,bF,bg,dy,dW,g4]
      exact rfl
     refine aq (ee _ _) ?_
     exact ⟨_,rfl,.none (ee _ _) rfl,bz,rfl⟩
   ·rw [if_pos (.inl rfl)]
    refine af.bE 12 [] [N+2] (by kernel_rfl) (by kernel_rfl) (by kernel_rfl) (by kernel_rfl) (by kernel_rfl) (by kernel_rfl) (by kernel_rfl) ?_
    simp (maxSteps:=4000000) only [W,seval,bF,xw,bg]
    refine bO (fun Z=>fy _ _) ?_
    simp (maxSteps:=4000000) only [W,seval,bF,xw,bg,f1,dy,aY]
    refine bO (fun Z=>fA t _ _) ?_
    simp (maxSteps:=4000000) only [W,seval,bF,xw,bg,f1,dy,Nw]
    refine af.go 60 ?_
    simp only [W,seval,bF,bg]
    refine cH (v:=?_) (u:=?_) Tryz.func167 (by rfl) ?_ ?_ ?_
    rotate_left 2
    ·try simp only [W,seval,bF,bg,dy,dW,g4]
     exact rfl
    ·try simp only [W,seval,bF,bg,dy,dW,g4]
     exact rfl
    refine aq (ee _ _) ?_
    exact ⟨_,rfl,hdd _ _,rfl⟩
set_option maxHeartbeats 8000000 in
theorem Ku {x a b:aj} (vb:kZ x.text=false) (ye:shift x.text=false) (rq:alike x.text=false) (ho:order x.text=true) (hk:x.kids=[a,b]) (ha:dN E res a) (hb:dN E res b) (zq:a.kind=5→a.kids ≠ []) (want:aA) (h:cl B n c s f w E res j lo hi A C kv x):aF Tryz.prog av 167 [.ptr c 0,.ptr j A.length,aY want] ⟨B,T⟩ (mB ((qs (aE E a) (aE E b) (ic a) x.text want).map fun r=>(aT x [r.1,r.2.1],r.2.2)) j lo hi A C kv B T):=by
 obtain ⟨N,hn⟩:∃ N,B.length=N:=⟨_,rfl⟩
 obtain ⟨al,dI⟩:∃ a,A.length=a:=⟨_,rfl⟩
 obtain ⟨X,hX⟩:∃ X,A++aV x kv++C=X:=⟨_,rfl⟩
 obtain ⟨x0,x1,x2,x6,x7,x8,x9,kJ,mC⟩:=cS hX.symm dI
 have aD:=h.row
 rw [hX] at aD
 have gS:=h.nl
 have hj:j < N:=by have:=h.nb;omega
 have dy:N+1 < N+2:=by omega
 have Bl:=Bs (T:=T) hk ha hb zq aQ (h.more (J:=[jK want,ng]))
 unfold qs
 rw [vb,ye,rq,if_neg (by decide),if_neg (by decide),if_neg (by decide),ho,if_pos rfl]
 have e5:(decide (x.text=[60])=true∧decide (x.text=[60])=true∧decide (x.text=[60])=true∧decide (x.text=[60])=true)∨(decide (x.text=[60])=false∧decide (x.text=[60,61])=true∧decide (x.text=[60,61])=true∧decide (x.text=[60,61])=true)∨(decide (x.text=[60])=false∧decide (x.text=[60,61])=false∧decide (x.text=[62])=true∧decide (x.text=[62])=true)∨(decide (x.text=[60])=false∧decide (x.text=[60,61])=false∧decide (x.text=[62])=false∧decide (x.text=[62,61])=true):=by
  unfold order at ho
  simp only [eY] at ho
  revert ho
  cases decide (x.text=[60])<;>cases decide (x.text=[60,61])<;>cases decide (x.text=[62])<;>cases decide (x.text=[62,61])<;>decide
 unfold alike at rq
 unfold kZ at vb
 unfold shift at ye
 rw [eY,eY,Bool.or_eq_false_iff] at vb ye rq
 obtain ⟨e1,e2⟩:=vb
 obtain ⟨e3,e4⟩:=ye
 obtain ⟨e9,eA⟩:=rq
 rw [dI] at Bl ⊢
 unfold aY jK ng at *
 rcases e5 with ⟨e5,e6,e7,e8⟩ | ⟨e5,e6,e7,e8⟩ | ⟨e5,e6,e7,e8⟩ | ⟨e5,e6,e7,e8⟩
 all_goals
  refine Nv.go 160 rfl fun bk=>?_
  simp only [dP] at bk
  simp only [W,seval,bF,hn,hj,aD,x1,e1,e2,e3,e4,e9,eA,e5,e6,e7,e8]
  refine ag (cR _ _) ?_
  rintro _ _ ⟨rfl,rfl⟩
  unfold aY
  refine af.go 60 ?_
  simp only [W,seval,bF,hn]
  refine aU Bl ?_
  intro v S' hv
  obtain ⟨B1,t,b0,rfl,rfl,bg,f1,ee,jc,me⟩:=Bv hn h hv
  have dW:N+1 < B1.length:=by omega
  have g4:∀ Z,(B1.set (N+1) Z)[N+1]? = some Z:=fun Z=>List.getElem?_set_self dW
  unfold aY
  cases b0
  ·rw [jc rfl]
   refine af.go 60 ?_
   simp only [W,seval,bF,bg]
   refine ag (fy _ _) ?_
   rintro _ _ ⟨rfl,rfl⟩
   unfold aY
   refine af.go 60 ?_
   simp only [W,seval,bF,bg,f1,dy]
   refine cH (v:=?_) (u:=?_) Tryz.func167 (by rfl) ?_ ?_ ?_
   rotate_left 2
   ·try simp only [W,seval,bF,bg,dy,dW,g4]
    exact rfl
   ·try simp only [W,seval,bF,bg,dy,dW,g4]
    exact rfl
   refine aq (ee _ _) ?_
   exact ⟨_,rfl,.none (ee _ _) rfl,bz,rfl⟩
  ·obtain ⟨a',b',hr,hdd⟩:=me rfl
   rw [hr]
   dsimp only
   refine af.go 60 ?_
   simp only [W,seval,bF,bg]
   refine ag (fy _ _) ?_
   rintro _ _ ⟨rfl,rfl⟩
   unfold aY
   refine af.go 60 ?_
   simp only [W,seval,bF,bg]
   refine ag (fA t _ _) ?_
   rintro _ _ ⟨rfl,rfl⟩
   refine af.go 60 ?_
   simp only [W,seval,bF,bg,f1,dy]
   refine cH (v:=?_) (u:=?_) Tryz.func167 (by rfl) ?_ ?_ ?_
   rotate_left 2
   ·try simp only [W,seval,bF,bg,dy,dW,g4]
    exact rfl
   ·try simp only [W,seval,bF,bg,dy,dW,g4]
    exact rfl
   refine aq (ee _ _) ?_
   cases Nw:kB t.kind
   ·rw [if_neg (by decide)]
    exact ⟨_,rfl,.none (ee _ _) rfl,bz,rfl⟩
   ·rw [if_pos rfl]
    exact ⟨_,rfl,hdd _ _,rfl⟩
set_option maxHeartbeats 8000000 in
theorem Kv {x a b:aj} (vb:kZ x.text=false) (ye:shift x.text=false) (rq:alike x.text=false) (ho:order x.text=false) (hk:x.kids=[a,b]) (ha:dN E res a) (hb:dN E res b) (zq:a.kind=5→a.kids ≠ []) (want:aA) (h:cl B n c s f w E res j lo hi A C kv x):aF Tryz.prog av 167 [.ptr c 0,.ptr j A.length,aY want] ⟨B,T⟩ (mB ((qs (aE E a) (aE E b) (ic a) x.text want).map fun r=>(aT x [r.1,r.2.1],r.2.2)) j lo hi A C kv B T):=by
 obtain ⟨N,hn⟩:∃ N,B.length=N:=⟨_,rfl⟩
 obtain ⟨al,dI⟩:∃ a,A.length=a:=⟨_,rfl⟩
 obtain ⟨X,hX⟩:∃ X,A++aV x kv++C=X:=⟨_,rfl⟩
 obtain ⟨x0,x1,x2,x6,x7,x8,x9,kJ,mC⟩:=cS hX.symm dI
 have aD:=h.row
 rw [hX] at aD
 have gS:=h.nl
 have hj:j < N:=by have:=h.nb;omega
 have dy:N+1 < N+2:=by omega
 have Bl:=Bs (T:=T) hk ha hb zq want (h.more (J:=[jK want,ng]))
 unfold qs
 rw [vb,ye,rq,if_neg (by decide),if_neg (by decide),if_neg (by decide),ho,if_neg (by decide)]
 obtain ⟨e5,e6,e7,e8⟩:decide (x.text=[60])=false∧decide (x.text=[60,61])=false∧decide (x.text=[62])=false∧decide (x.text=[62,61])=false:=by
  unfold order at ho
  simp only [eY,Bool.or_eq_false_iff] at ho
  exact ⟨ho.1.1.1,ho.1.1.2,ho.1.2,ho.2⟩
 unfold alike at rq
 unfold kZ at vb
 unfold shift at ye
 rw [eY,eY,Bool.or_eq_false_iff] at vb ye rq
 obtain ⟨e1,e2⟩:=vb
 obtain ⟨e3,e4⟩:=ye
 obtain ⟨e9,eA⟩:=rq
 rw [dI] at Bl ⊢
 unfold aY jK ng at *
 refine Nv.go 160 rfl fun bk=>?_
 simp only [dP] at bk
 simp only [W,seval,bF,hn,hj,aD,x1,e1,e2,e3,e4,e9,eA,e5,e6,e7,e8]
 refine aU Bl ?_
 intro v S' hv
 obtain ⟨B1,t,b0,rfl,rfl,bg,f1,ee,jc,me⟩:=Bv hn h hv
 have dW:N+1 < B1.length:=by omega
 have g4:∀ Z,(B1.set (N+1) Z)[N+1]? = some Z:=fun Z=>List.getElem?_set_self dW
 unfold aY
 cases b0
 ·rw [jc rfl]
  refine af.go 60 ?_
  simp only [W,seval,bF,bg]
  refine af.bE 7 [] [N+2] (by kernel_rfl) (by kernel_rfl) (by kernel_rfl) (by kernel_rfl) (by kernel_rfl) (by kernel_rfl) (by kernel_rfl) ?_
  simp (maxSteps:=4000000) only [W,seval,bF,xw,bg,f1,dy]
  refine af.go 60 ?_
  simp only [W,seval,bF,bg]
  refine cH (v:=?_) (u:=?_) Tryz.func167 (by rfl) ?_ ?_ ?_
  rotate_left 2
  ·try simp only [W,seval,bF,bg,dy,dW,g4]
   exact rfl
  ·try simp only [W,seval,bF,bg,dy,dW,g4]
   exact rfl
  refine aq (ee _ _) ?_
  exact ⟨_,rfl,.none (ee _ _) rfl,t,rfl⟩
 ·obtain ⟨a',b',hr,hdd⟩:=me rfl
  rw [hr]
  dsimp only
  refine af.go 60 ?_
  simp only [W,seval,bF,bg]
  refine af.bE 7 [] [N+2] (by kernel_rfl) (by kernel_rfl) (by kernel_rfl) (by kernel_rfl) (by kernel_rfl) (by kernel_rfl) (by kernel_rfl) ?_
  simp (maxSteps:=4000000) only [W,seval,bF,xw,bg,f1,dy]
  refine bO (fun Z=>fA t _ _) ?_
  simp (maxSteps:=4000000) only [W,seval,bF,xw,bg,f1,dy]
  refine af.go 60 ?_
  simp only [W,seval,bF,bg]
  refine cH (v:=?_) (u:=?_) Tryz.func167 (by rfl) ?_ ?_ ?_
  rotate_left 2
  ·try simp only [W,seval,bF,bg,dy,dW,g4]
   exact rfl
  ·try simp only [W,seval,bF,bg,dy,dW,g4]
   exact rfl
  refine aq (ee _ _) ?_
  cases Nw:kB t.kind
  ·rw [if_neg (by decide)]
   exact ⟨_,rfl,.none (ee _ _) rfl,t,rfl⟩
  ·rw [if_pos rfl]
   exact ⟨_,rfl,hdd _ _,rfl⟩
end
section
variable {E:bP} {res:List aA} {n c s f w:Nat} {B:List (List V)} {T:List (Nat × Nat)} {j lo hi:Nat} {A C:List V} {kv:V}
set_option maxHeartbeats 8000000 in
theorem Kw {x a b:aj} (vb:kZ x.text=true) (hk:x.kids=[a,b]) (ha:dN E res a) (hb:dN E res b) (want:aA) (h:cl B n c s f w E res j lo hi A C kv x):aF Tryz.prog av 167 [.ptr c 0,.ptr j A.length,aY want] ⟨B,T⟩ (mB ((qs (aE E a) (aE E b) (ic a) x.text want).map fun r=>(aT x [r.1,r.2.1],r.2.2)) j lo hi A C kv B T):=by
 obtain ⟨N,hn⟩:∃ N,B.length=N:=⟨_,rfl⟩
 obtain ⟨al,dI⟩:∃ a,A.length=a:=⟨_,rfl⟩
 obtain ⟨X,hX⟩:∃ X,A++aV x kv++C=X:=⟨_,rfl⟩
 obtain ⟨x0,x1,x2,x6,x7,x8,x9,kJ,mC⟩:=cS hX.symm dI
 have aD:=h.row
 rw [hX] at aD
 have gS:=h.nl
 have hj:j < N:=by have:=h.nb;omega
 have E2:j < N+2:=by omega
 have dy:N+1 < N+2:=by omega
 obtain ⟨j1,m,cap,rfl,ni⟩:=h.bx (by rw [hk];simp)
 have i0:(0:Int) < (m:Int):=by rw [ni,hk];simp
 have i1:(1:Int) < (m:Int):=by rw [ni,hk];simp
 obtain ⟨eL,dK,A1,C1,mX,a1,⟨qR,uG⟩,k1,k2,k3⟩:=(h.more (J:=[jK want,ng])).oq (k:=0) (y:=a) (by rw [hk];rfl)
 rw [Nat.zero_mul] at a1
 have hh:=iY (T:=T) ha bz k1
 have cm:=qt.ne (T:=T) k1 bz
 rw [a1] at hh
 unfold qs
 rw [vb,if_pos rfl]
 have e5:(decide (x.text=[38,38])=true∧decide (x.text=[38,38])=true)∨(decide (x.text=[38,38])=false∧decide (x.text=[124,124])=true):=by
  unfold kZ at vb
  rw [eY,eY] at vb
  cases hd:decide (x.text=[38,38])
  ·rw [hd,Bool.false_or] at vb;exact .inr ⟨rfl,vb⟩
  ·exact .inl ⟨rfl,rfl⟩
 rw [dI]
 unfold aY jK ng at *
 rcases e5 with ⟨e5,e6⟩ | ⟨e5,e6⟩
 all_goals
  refine Nv.go 160 rfl fun bk=>?_
  simp only [dP] at bk
  simp only [W,seval,bF,hn,hj,aD,x1,e5,e6]
  refine af.bE 20 [] [j] (by kernel_rfl) (by kernel_rfl) (by kernel_rfl) (by kernel_rfl) (by kernel_rfl) (by kernel_rfl) (by kernel_rfl) ?_
  simp (maxSteps:=4000000) only [W,seval,bF,xw,iL,hn,hj,aD,x7,i0]
  refine bO (fun Z=>fy _ _) ?_
  simp (maxSteps:=4000000) only [W,seval,bF,xw,iL,hn,hj,aD,x7,i0]
  refine bO (fun Z=>fy _ _) ?_
  simp (maxSteps:=4000000) only [W,seval,bF,xw,iL,hn,hj,aD,x7,i0,aY]
  refine cM cm hh ?_
  rintro v _ ⟨B2,rfl,eg,rfl⟩
  have iK:=eg.2.1
  simp only [List.length_append,List.length_cons,List.length_nil,hn,Nat.zero_add,Nat.reduceAdd] at iK
  have e3:cx j lo hi B.length B B2:=cx.new.step (k2 _ _ eg.1)
  have g3:=h.qK (k2 _ _ eg.1) (i:=N+1) (by omega) (by simp [hn])
  rw [dF hn] at g3
  simp only [List.getElem?_cons_zero,List.getElem?_cons_succ] at g3
  have g1:B2[j]? = (B++[[V.d (.int .i64 want.kind),.d (.str want.name),.d (.sl (want.elem.map dR))],[V.d (.int .i64 0),.d (.str []),.sl [] .full]])[j]?:=eg.1.2.1 j (by simp;omega) uG
  have dW:N+1 < B2.length:=by omega
  have Ko:B2[j]? = some X:=by rw [g1,ah (by omega)];exact aD
  refine ⟨⟨g1,trivial⟩,?_⟩
  cases hw:bf (aE E a bz) bz with
  | none =>
   simp (maxSteps:=4000000) only [W,seval,bF,xw,Option.isSome_none,iK,g3,dy]
   have e4:∀ Z,cx j lo hi B.length B (B2.set (N+1) Z):=fun Z=>e3.jB (by omega)
   have g4:∀ Z,(B2.set (N+1) Z)[N+1]? = some Z:=fun Z=>List.getElem?_set_self dW
   have g6:∀ Z,(B2.set (N+1) Z)[j]? = B2[j]?:=fun Z=>List.getElem?_set_ne (by omega)
   refine ⟨(g6 _).trans g1,(g6 _).trans g1,?_⟩
   refine af.go 20 ?_
   simp only [W,seval,bF,iK]
   refine cH (v:=?_) (u:=?_) Tryz.func167 (by rfl) ?_ ?_ ?_
   rotate_left 2
   ·try simp only [W,seval,bF,iK,g4]
    exact rfl
   ·try simp only [W,seval,bF,iK,g4]
    exact rfl
   refine aq (e4 _) ?_
   exact ⟨_,rfl,.none (e4 _) rfl,bz,rfl⟩
  | some z =>
   rw [hw] at eg
   have h9:=k3 B2 z eg
   rw [hk] at h9
   obtain ⟨lo3,hi3,A3,C3,kv3,a3,⟨hj3,Uf⟩,r1,r2,r3⟩:=h9.oq (k:=1) (y:=b) (by rw [aS];rfl)
   have Ug:=iY (T:=T) hb bz r1
   have a3:A3.length=8:=by omega
   rw [a3] at Ug
   unfold aY at Ug
   have Uh:=qt.ne (T:=T) r1 bz
   simp (maxSteps:=4000000) only [W,seval,bF,xw,iL,Option.isSome_some,iK,g3,dy,E2,Ko,x7,i1]
   refine bO (fun Z=>fy _ _) ?_
   simp (maxSteps:=4000000) only [W,seval,bF,xw,iK,aY]
   refine ⟨g1,cM Uh Ug ?_⟩
   rintro v _ ⟨B3,rfl,zV,rfl⟩
   have Ks:=zV.2.1
   rw [iK] at Ks
   have e5:=e3.step (r2 _ _ zV.1)
   have k1:=(zV.1.2.1 j (by omega) Uf)
   have k3:=h9.qK (r2 _ _ zV.1) (i:=N+1) (by omega) (by omega)
   rw [g3] at k3
   have Xn:N+1 < B3.length:=by omega
   have e4:∀ Z,cx j lo hi B.length B (B3.set (N+1) Z):=fun Z=>e5.jB (by omega)
   have g4:∀ Z,(B3.set (N+1) Z)[N+1]? = some Z:=fun Z=>List.getElem?_set_self Xn
   have g6:∀ Z,(B3.set (N+1) Z)[j]? = B3[j]?:=fun Z=>List.getElem?_set_ne (by omega)
   have k5:=k1.trans g1
   refine ⟨⟨k5,trivial⟩,?_⟩
   simp (maxSteps:=4000000) only [W,seval,bF,xw,Ks,k3,dy]
   refine ⟨(g6 _).trans k5,(g6 _).trans k5,?_⟩
   refine af.go 20 ?_
   simp only [W,seval,bF,Ks]
   refine cH (v:=?_) (u:=?_) Tryz.func167 (by rfl) ?_ ?_ ?_
   rotate_left 2
   ·try simp only [W,seval,bF,Ks,g4]
    exact rfl
   ·try simp only [W,seval,bF,Ks,g4]
    exact rfl
   refine aq (e4 _) ?_
   cases Xo:bf (aE E b bz) bz with
   | none=>exact ⟨_,rfl,.none (e4 _) rfl,bz,rfl⟩
   | some u =>
    rw [Xo] at zV
    have hA:=r3 B3 u zV
    rw [aS,eM] at hA
    exact ⟨_,rfl,hA.fin (e4 _) gS (fun i hi=>List.getElem?_set_ne (by omega)) fun u hu=>(Option.some.inj hu).symm,rfl⟩
set_option maxHeartbeats 8000000 in
theorem Ky {x a b:aj} (vb:kZ x.text=false) (ye:shift x.text=true) (hk:x.kids=[a,b]) (ha:dN E res a) (hb:dN E res b) (want:aA) (h:cl B n c s f w E res j lo hi A C kv x):aF Tryz.prog av 167 [.ptr c 0,.ptr j A.length,aY want] ⟨B,T⟩ (mB ((qs (aE E a) (aE E b) (ic a) x.text want).map fun r=>(aT x [r.1,r.2.1],r.2.2)) j lo hi A C kv B T):=by
 obtain ⟨N,hn⟩:∃ N,B.length=N:=⟨_,rfl⟩
 obtain ⟨al,dI⟩:∃ a,A.length=a:=⟨_,rfl⟩
 obtain ⟨X,hX⟩:∃ X,A++aV x kv++C=X:=⟨_,rfl⟩
 obtain ⟨x0,x1,x2,x6,x7,x8,x9,kJ,mC⟩:=cS hX.symm dI
 have aD:=h.row
 rw [hX] at aD
 have gS:=h.nl
 have hj:j < N:=by have:=h.nb;omega
 have E2:j < N+2:=by omega
 have dy:N+1 < N+2:=by omega
 obtain ⟨j1,m,cap,rfl,ni⟩:=h.bx (by rw [hk];simp)
 have i0:(0:Int) < (m:Int):=by rw [ni,hk];simp
 have i1:(1:Int) < (m:Int):=by rw [ni,hk];simp
 obtain ⟨eL,dK,A1,C1,mX,a1,⟨qR,uG⟩,k1,k2,k3⟩:=(h.more (J:=[jK want,ng])).oq (k:=0) (y:=a) (by rw [hk];rfl)
 rw [Nat.zero_mul] at a1
 unfold qs
 rw [vb,if_neg (by decide),ye,if_pos rfl]
 have e5:(decide (x.text=[60,60])=true∧decide (x.text=[60,60])=true)∨(decide (x.text=[60,60])=false∧decide (x.text=[62,62])=true):=by
  unfold shift at ye
  rw [eY,eY] at ye
  cases hd:decide (x.text=[60,60])
  ·rw [hd,Bool.false_or] at ye;exact .inr ⟨rfl,ye⟩
  ·exact .inl ⟨rfl,rfl⟩
 unfold kZ at vb
 rw [eY,eY,Bool.or_eq_false_iff] at vb
 obtain ⟨e1,e2⟩:=vb
 rw [dI]
 unfold jK ng at *
 unfold aY
 rcases e5 with ⟨e5,e6⟩ | ⟨e5,e6⟩
 all_goals
  refine Nv.go 160 rfl fun bk=>?_
  simp only [dP] at bk
  simp only [W,seval,bF,hn,hj,aD,x1,e1,e2,e5,e6]
  refine af.bE 12 [11] [j,N] (by kernel_rfl) (by kernel_rfl) (by kernel_rfl) (by kernel_rfl) (by kernel_rfl) (by kernel_rfl) (by kernel_rfl) ?_
  simp (maxSteps:=4000000) only [W,seval,bF,xw,iL,hn,hj,aD,x7,i0]
  refine Kr ha k1 want a1 ?_
  intro B1 t b0 hd bg me jc
  simp only [List.length_append,List.length_cons,List.length_nil,hn,Nat.zero_add,Nat.reduceAdd] at bg
  have e3:cx j lo hi B.length B B1:=cx.new.step (k2 _ _ hd.1)
  have f1:=h.qK (k2 _ _ hd.1) (i:=N+1) (by omega) (by simp [hn])
  rw [dF hn] at f1
  simp only [List.getElem?_cons_zero,List.getElem?_cons_succ] at f1
  have g1:B1[j]? = (B++[[V.d (.int .i64 want.kind),.d (.str want.name),.d (.sl (want.elem.map dR))],[V.d (.int .i64 0),.d (.str []),.sl [] .full]])[j]?:=hd.1.2.1 j (by simp;omega) uG
  have g2:=h.qK (k2 _ _ hd.1) (i:=N) (by omega) (by simp [hn])
  have DU:B1[j]? = some X:=by rw [g1,ah (by omega)];exact aD
  have dW:N+1 < B1.length:=by omega
  refine ⟨⟨g1,g2,trivial⟩,?_⟩
  unfold aY
  simp (maxSteps:=4000000) only [W,seval,bF,xw,bg]
  refine ⟨⟨g1,g2⟩,?_⟩
  cases b0
  ·have hr:=jc rfl
   rw [hr]
   have e4:∀ Z J,cx j lo hi B.length B (B1.set (N+1) Z++J):=fun Z J=>(e3.jB (by omega)).app
   have g4:∀ Z,(B1.set (N+1) Z)[N+1]? = some Z:=fun Z=>List.getElem?_set_self dW
   refine af.go 20 ?_
   simp only [W,seval,bF,bg]
   refine af.bE 17 [] [N+2] (by kernel_rfl) (by kernel_rfl) (by kernel_rfl) (by kernel_rfl) (by kernel_rfl) (by kernel_rfl) (by kernel_rfl) ?_
   simp (maxSteps:=4000000) only [W,seval,bF,xw,bg,f1,dy]
   refine af.go 20 ?_
   simp only [W,seval,bF,bg]
   refine cH (v:=?_) (u:=?_) Tryz.func167 (by rfl) ?_ ?_ ?_
   rotate_left 2
   ·try simp only [W,seval,bF,bg,dy,dW,g4]
    exact rfl
   ·try simp only [W,seval,bF,bg,dy,dW,g4]
    exact rfl
   refine aq (e4 _ _) ?_
   exact ⟨_,rfl,.none (e4 _ _) rfl,t,rfl⟩
  obtain ⟨y,hr⟩:=me rfl
  rw [hr] at hd ⊢
  dsimp only
  have jL:=k3 B1 y hd
  rw [hk] at jL
  cases Nw:kB t.kind
  ·rw [if_neg (by decide)]
   have e4:∀ Z J,cx j lo hi B.length B (B1.set (N+1) Z++J):=fun Z J=>(e3.jB (by omega)).app
   have g4:∀ Z,(B1.set (N+1) Z)[N+1]? = some Z:=fun Z=>List.getElem?_set_self dW
   refine af.go 20 ?_
   simp only [W,seval,bF,bg]
   refine af.bE 17 [] [N+2] (by kernel_rfl) (by kernel_rfl) (by kernel_rfl) (by kernel_rfl) (by kernel_rfl) (by kernel_rfl) (by kernel_rfl) ?_
   simp (maxSteps:=4000000) only [W,seval,bF,xw,bg,f1,dy]
   refine bO (fun Z=>fA t _ _) ?_
   simp (maxSteps:=4000000) only [W,seval,bF,xw,bg,f1,dy,Nw]
   refine af.go 20 ?_
   simp only [W,seval,bF,bg]
   refine cH (v:=?_) (u:=?_) Tryz.func167 (by rfl) ?_ ?_ ?_
   rotate_left 2
   ·try simp only [W,seval,bF,bg,dy,dW,g4]
    exact rfl
   ·try simp only [W,seval,bF,bg,dy,dW,g4]
    exact rfl
   refine aq (e4 _ _) ?_
   exact ⟨_,rfl,.none (e4 _ _) rfl,t,rfl⟩
  rw [if_pos rfl]
  obtain ⟨Nr,Ns,A2,C2,T9,a2,⟨hj3,aa0⟩,q1,q2,q3⟩:=(jL.more (J:=[[V.d (.int .i64 t.kind),.d (.str t.name),.d (.sl (t.elem.map dR))]])).oq (k:=1) (y:=b) (by rw [aS];rfl)
  have hh:=iY (T:=T) hb tR q1
  have a2:A2.length=8:=by omega
  rw [a2] at hh
  unfold aY at hh
  refine af.go 20 ?_
  simp only [W,seval,bF,bg]
  refine af.bE 17 [] [N+2,j] (by kernel_rfl) (by kernel_rfl) (by kernel_rfl) (by kernel_rfl) (by kernel_rfl) (by kernel_rfl) (by kernel_rfl) ?_
  simp (maxSteps:=4000000) only [W,seval,bF,xw,bg,f1,dy,E2,DU]
  refine bO (fun Z=>fA t _ _) ?_
  simp (maxSteps:=4000000) only [W,seval,bF,xw,iL,bg,f1,dy,Nw,E2,DU,x7,i1]
  refine bO (fun Z=>Km _ _) ?_
  simp (maxSteps:=4000000) only [W,seval,bF,xw,bg,aY]
  refine cM (qt.ne (T:=T) q1 tR) hh ?_
  rintro v _ ⟨B2,rfl,eg,rfl⟩
  have iK:=eg.2.1
  simp only [List.length_append,List.length_cons,List.length_nil,bg,Nat.zero_add,Nat.reduceAdd] at iK
  have e4:cx j lo hi B.length B B2:=e3.app.step (q2 _ _ eg.1)
  have p1:=jL.qK (q2 _ _ eg.1) (i:=N+1) (by omega) (by simp [bg])
  rw [ah (by omega),f1] at p1
  have p2:=jL.qK (q2 _ _ eg.1) (i:=N+2) (by omega) (by simp [bg])
  have p3:=eg.1.2.1 j (by simp;omega) aa0
  have Xn:N+1 < B2.length:=by omega
  have Nt:N+1 < N+3:=by omega
  have e6:∀ Z,cx j lo hi B.length B (B2.set (N+1) Z):=fun Z=>e4.jB (by omega)
  have g4:∀ Z,(B2.set (N+1) Z)[N+1]? = some Z:=fun Z=>List.getElem?_set_self Xn
  have g5:∀ Z,(B2.set (N+1) Z)[N+2]? = B2[N+2]?:=fun Z=>List.getElem?_set_ne (by omega)
  have g6:∀ Z,(B2.set (N+1) Z)[j]? = B2[j]?:=fun Z=>List.getElem?_set_ne (by omega)
  refine ⟨⟨p2,p3,trivial⟩,?_⟩
  simp (maxSteps:=4000000) only [W,seval,bF,xw,iK,p1,Nt]
  refine ⟨⟨(g5 _).trans p2,(g6 _).trans p3⟩,⟨(g5 _).trans p2,(g6 _).trans p3⟩,?_⟩
  refine af.go 20 ?_
  simp only [W,seval,bF,iK]
  refine cH (v:=?_) (u:=?_) Tryz.func167 (by rfl) ?_ ?_ ?_
  rotate_left 2
  ·try simp only [W,seval,bF,iK,g4]
   exact rfl
  ·try simp only [W,seval,bF,iK,g4]
   exact rfl
  refine aq (e6 _) ?_
  cases Xo:bf (aE E b tR) tR with
  | none=>exact ⟨_,rfl,.none (e6 _) rfl,t,rfl⟩
  | some u =>
   rw [Xo] at eg
   have hA:=q3 B2 u eg
   rw [aS,eM] at hA
   exact ⟨_,rfl,hA.fin (e6 _) gS (fun i hi=>List.getElem?_set_ne (by omega)) fun u hu=>(Option.some.inj hu).symm,rfl⟩
end
def cC:=by
 have c:=aM Tryz.f135 (by conv=>lhs;cbv)
 dsimp only [KK,eN,eG,eH,List.map_cons,List.map_nil,List.toList_toArray] at c
 exact c
theorem Bw:bI Tryz.prog 135 Tryz.f135 123:=⟨Tryz.func135,by kernel_rfl⟩
section
variable {E:bP} {res:List aA} {n c s f w:Nat} {B:List (List V)} {T:List (Nat × Nat)} {j lo hi:Nat} {A C:List V} {kv:V}
theorem mB.pass {x:aj} {p q:List V} {N:Nat} (hn:B.length=N) (h:cl B n c s f w E res j lo hi A C kv x) {r:Option (aj × aA)} {v:V} {S':Mem} (ht:mB r j lo hi A C kv (B++[p,q]) T v S') :
 ∃ B1 t b0,v = .bY [aY t,.d (.bool b0)]∧S' = ⟨B1,T⟩∧N+1 < B1.length∧B1[N+1]? = some q∧∀ Z,cx j lo hi B.length B (B1.set (N+1) Z)∧mB r j lo hi A C kv B T (.bY [aY t,.d (.bool b0)]) ⟨(B1.set (N+1) Z).take B.length,T⟩:=by
 have gS:=h.nl
 obtain ⟨B1,rfl,hd,hv⟩:=ht
 obtain ⟨t,b0,rfl,me,jc⟩:=nF hv
 have bg:=hd.2.1
 simp only [List.length_append,List.length_cons,List.length_nil,hn,Nat.zero_add,Nat.reduceAdd] at bg
 have e1:cx j lo hi B.length B B1:=cx.new.step hd.1
 have f1:=h.qK hd.1 (i:=N+1) (by omega) (by simp [hn])
 rw [dF hn] at f1
 simp only [List.getElem?_cons_zero,List.getElem?_cons_succ] at f1
 have e2:∀ Z,cx j lo hi B.length B (B1.set (N+1) Z):=fun Z=>e1.jB (by omega)
 refine ⟨B1,t,b0,rfl,rfl,by omega,f1,fun Z=>⟨e2 Z,_,rfl,?_,hv⟩⟩
 cases r with
 | none=>exact .none (e2 Z) rfl
 | some u=>exact (h.more.done hd).fin (e2 Z) gS (fun i hi=>List.getElem?_set_ne (by omega)) fun z hz=>(Option.some.inj hz).symm
set_option maxHeartbeats 8000000 in
theorem QH {x:aj} (hx:x.kind=3) (want:aA) (h:cl B n c s f w E res j lo hi A C kv x):aF Tryz.prog av 135 [.ptr c 0,.ptr j A.length,aY want] ⟨B,T⟩ (mB (some (x,bz)) j lo hi A C kv B T):=by
 obtain ⟨N,hn⟩:∃ N,B.length=N:=⟨_,rfl⟩
 obtain ⟨al,dI⟩:∃ a,A.length=a:=⟨_,rfl⟩
 obtain ⟨X,hX⟩:∃ X,A++aV x kv++C=X:=⟨_,rfl⟩
 obtain ⟨x0,x1,x2,x6,x7,x8,x9,kJ,mC⟩:=cS hX.symm dI
 have aD:=h.row
 rw [hX] at aD
 rw [hx] at x0
 have gS:=h.nl
 have hj:j < N:=by have:=h.nb;omega
 have en:∀ J,cx j lo hi B.length B (B++J):=fun _=>cx.new
 rw [dI]
 unfold aY
 refine Bw.go 160 rfl fun bk=>?_
 simp only [dP] at bk
 simp only [W,seval,cC,hn,hj,aD,x0,Int.reduceEq,decide_true]
 refine ag (fy _ _) ?_
 rintro _ _ ⟨rfl,rfl⟩
 unfold aY
 refine af.go 60 ?_
 simp only [W,seval,cC,hn]
 refine cH (v:=?_) (u:=?_) Tryz.func135 (by rfl) ?_ ?_ ?_
 rotate_left 2
 ·try simp only [W,seval,cC,hn]
  exact rfl
 ·try simp only [W,seval,cC,hn]
  exact rfl
 refine aq (en _) ?_
 exact ⟨_,rfl,h.fin (en _) gS (fun i hi=>ah (by omega)) fun z hz=>(Option.some.inj hz).symm,rfl⟩
set_option maxHeartbeats 8000000 in
theorem QI {x:aj} (hx:x.kind=1) (want:aA) (h:cl B n c s f w E res j lo hi A C kv x):aF Tryz.prog av 135 [.ptr c 0,.ptr j A.length,aY want] ⟨B,T⟩ (mB ((eW bH.name E.vs x.text).map fun p=>(x,p.type)) j lo hi A C kv B T):=by
 obtain ⟨N,hn⟩:∃ N,B.length=N:=⟨_,rfl⟩
 obtain ⟨al,dI⟩:∃ a,A.length=a:=⟨_,rfl⟩
 obtain ⟨X,hX⟩:∃ X,A++aV x kv++C=X:=⟨_,rfl⟩
 obtain ⟨x0,x1,x2,x6,x7,x8,x9,kJ,mC⟩:=cS hX.symm dI
 have aD:=h.row
 rw [hX] at aD
 rw [hx] at x0
 have gS:=h.nl
 have hj:j < N:=by have:=h.nb;omega
 have en:∀ J,cx j lo hi B.length B (B++J):=fun _=>cx.new
 have xz:c < N:=by rw [← hn];exact h.k.lt.1
 have Jg:w < N:=by rw [← hn];exact h.k.lt.2.2.2
 have Xp:=h.k.w
 have hb:=h.k.c
 unfold yO at hb
 have hs:=h.k.gy x.text true
 rw [dI]
 unfold aY
 cases h1:eW bH.name E.vs x.text<;>rw [h1] at hs<;>simp only [Go.Ab.gy,Option.map_some,Option.map_none,if_true,YW,aY] at hs
 ·refine Bw.go 160 rfl fun bk=>?_
  simp only [dP] at bk
  simp only [W,seval,cC,hn,hj,aD,x0,Int.reduceEq,decide_true,decide_false]
  refine af.bE 13 [] [c,w,j] (by kernel_rfl) (by kernel_rfl) (by kernel_rfl) (by kernel_rfl) (by kernel_rfl) (by kernel_rfl) (by kernel_rfl) ?_
  simp (maxSteps:=4000000) only [W,seval,cC,xw,ov,hn,xz,hb,hs,Jg,Xp,hj,aD,x1]
  refine af.go 60 ?_
  simp only [W,seval,cC,hn]
  refine cH (v:=?_) (u:=?_) Tryz.func135 (by rfl) ?_ ?_ ?_
  rotate_left 2
  ·try simp only [W,seval,cC,hn]
   exact rfl
  ·try simp only [W,seval,cC,hn]
   exact rfl
  refine aq (en _) ?_
  exact ⟨_,rfl,.none (en _) rfl,aQ,rfl⟩
 ·refine Bw.go 160 rfl fun bk=>?_
  simp only [dP] at bk
  simp only [W,seval,cC,hn,hj,aD,x0,Int.reduceEq,decide_true,decide_false]
  refine af.bE 13 [] [c,w,j] (by kernel_rfl) (by kernel_rfl) (by kernel_rfl) (by kernel_rfl) (by kernel_rfl) (by kernel_rfl) (by kernel_rfl) ?_
  simp (maxSteps:=4000000) only [W,seval,cC,xw,ov,hn,xz,hb,hs,Jg,Xp,hj,aD,x1]
  refine af.go 60 ?_
  simp only [W,seval,cC,hn]
  refine cH (v:=?_) (u:=?_) Tryz.func135 (by rfl) ?_ ?_ ?_
  rotate_left 2
  ·try simp only [W,seval,cC,hn]
   exact rfl
  ·try simp only [W,seval,cC,hn]
   exact rfl
  refine aq (en _) ?_
  exact ⟨_,rfl,h.fin (en _) gS (fun i hi=>ah (by omega)) fun z hz=>(Option.some.inj hz).symm,rfl⟩
set_option maxHeartbeats 8000000 in
theorem QJ {x:aj} (hx:x.kind=6) {r:Option (aj × aA)} (want:aA) (h:cl B n c s f w E res j lo hi A C kv x) (hf:∀ p q,aF Tryz.prog av 167 [.ptr c 0,.ptr j A.length,aY want] ⟨B++[p,q],T⟩ (mB r j lo hi A C kv (B++[p,q]) T)):aF Tryz.prog av 135 [.ptr c 0,.ptr j A.length,aY want] ⟨B,T⟩ (mB r j lo hi A C kv B T):=by
 obtain ⟨N,hn⟩:∃ N,B.length=N:=⟨_,rfl⟩
 obtain ⟨al,dI⟩:∃ a,A.length=a:=⟨_,rfl⟩
 obtain ⟨X,hX⟩:∃ X,A++aV x kv++C=X:=⟨_,rfl⟩
 obtain ⟨x0,x1,x2,x6,x7,x8,x9,kJ,mC⟩:=cS hX.symm dI
 have aD:=h.row
 rw [hX] at aD
 rw [hx] at x0
 have hj:j < N:=by have:=h.nb;have:=h.nl;omega
 rw [dI] at hf ⊢
 unfold aY at hf ⊢
 refine Bw.go 160 rfl fun bk=>?_
 simp only [dP] at bk
 simp only [W,seval,cC,hn,hj,aD,x0,Int.reduceEq,decide_true,decide_false]
 refine aU (hf _ _) ?_
 intro v S' hv
 obtain ⟨B1,t,b0,rfl,rfl,hl,f1,ee⟩:=mB.pass hn h hv
 unfold aY at ee ⊢
 refine af.go 60 ?_
 simp only [W,seval,cC,hl,f1]
 refine cH (v:=?_) (u:=?_) Tryz.func135 (by rfl) ?_ ?_ ?_
 rotate_left 2
 ·try simp only [W,seval,cC,hl]
  exact rfl
 ·try simp only [W,seval,cC,hl]
  exact rfl
 refine aq (ee _).1 ?_
 exact (ee _).2
set_option maxHeartbeats 8000000 in
theorem vw {x:aj} (hx:x.kind=10∨x.kind=11∨x.kind=12∨x.kind=13) {r:Option (aj × aA)} (want:aA) (h:cl B n c s f w E res j lo hi A C kv x) (hf:∀ p q,aF Tryz.prog av 169 [.ptr c 0,.ptr j A.length,aY want] ⟨B++[p,q],T⟩ (mB r j lo hi A C kv (B++[p,q]) T)):aF Tryz.prog av 135 [.ptr c 0,.ptr j A.length,aY want] ⟨B,T⟩ (mB r j lo hi A C kv B T):=by
 obtain ⟨N,hn⟩:∃ N,B.length=N:=⟨_,rfl⟩
 obtain ⟨al,dI⟩:∃ a,A.length=a:=⟨_,rfl⟩
 obtain ⟨X,hX⟩:∃ X,A++aV x kv++C=X:=⟨_,rfl⟩
 obtain ⟨x0,x1,x2,x6,x7,x8,x9,kJ,mC⟩:=cS hX.symm dI
 have aD:=h.row
 rw [hX] at aD
 have hj:j < N:=by have:=h.nb;have:=h.nl;omega
 rw [dI] at hf ⊢
 unfold aY at hf ⊢
 rcases hx with hx | hx | hx | hx
 all_goals
  rw [hx] at x0
  refine Bw.go 160 rfl fun bk=>?_
  simp only [dP] at bk
  simp only [W,seval,cC,hn,hj,aD,x0,Int.reduceEq,decide_true,decide_false]
  refine aU (hf _ _) ?_
  intro v S' hv
  obtain ⟨B1,t,b0,rfl,rfl,hl,f1,ee⟩:=mB.pass hn h hv
  unfold aY at ee ⊢
  refine af.go 60 ?_
  simp only [W,seval,cC,hl,f1]
  refine cH (v:=?_) (u:=?_) Tryz.func135 (by rfl) ?_ ?_ ?_
  rotate_left 2
  ·try simp only [W,seval,cC,hl]
   exact rfl
  ·try simp only [W,seval,cC,hl]
   exact rfl
  refine aq (ee _).1 ?_
  exact (ee _).2
set_option maxHeartbeats 8000000 in
theorem It {x:aj} (hx:x.kind=14∨x.kind=15) {r:Option (aj × aA)} (want:aA) (h:cl B n c s f w E res j lo hi A C kv x) (hf:∀ p q,aF Tryz.prog av 170 [.ptr c 0,.ptr j A.length] ⟨B++[p,q],T⟩ (mB r j lo hi A C kv (B++[p,q]) T)):aF Tryz.prog av 135 [.ptr c 0,.ptr j A.length,aY want] ⟨B,T⟩ (mB r j lo hi A C kv B T):=by
 obtain ⟨N,hn⟩:∃ N,B.length=N:=⟨_,rfl⟩
 obtain ⟨al,dI⟩:∃ a,A.length=a:=⟨_,rfl⟩
 obtain ⟨X,hX⟩:∃ X,A++aV x kv++C=X:=⟨_,rfl⟩
 obtain ⟨x0,x1,x2,x6,x7,x8,x9,kJ,mC⟩:=cS hX.symm dI
 have aD:=h.row
 rw [hX] at aD
 have hj:j < N:=by have:=h.nb;have:=h.nl;omega
 rw [dI] at hf ⊢
 unfold aY
 rcases hx with hx | hx
 all_goals
  rw [hx] at x0
  refine Bw.go 160 rfl fun bk=>?_
  simp only [dP] at bk
  simp only [W,seval,cC,hn,hj,aD,x0,Int.reduceEq,decide_true,decide_false]
  refine aU (hf _ _) ?_
  intro v S' hv
  obtain ⟨B1,t,b0,rfl,rfl,hl,f1,ee⟩:=mB.pass hn h hv
  unfold aY at ee ⊢
  refine af.go 60 ?_
  simp only [W,seval,cC,hl,f1]
  refine cH (v:=?_) (u:=?_) Tryz.func135 (by rfl) ?_ ?_ ?_
  rotate_left 2
  ·try simp only [W,seval,cC,hl]
   exact rfl
  ·try simp only [W,seval,cC,hl]
   exact rfl
  refine aq (ee _).1 ?_
  exact (ee _).2
set_option maxHeartbeats 8000000 in
theorem sO {x:aj} (hx:x.kind=2∨x.kind=4∨x.kind=5∨x.kind=8) (zq:x.kind=5→x.kids ≠ []) {r:Option (aj × aA)} (want:aA) (h:cl B n c s f w E res j lo hi A C kv x) (hf:∀ p q,if ic x=true then aF Tryz.prog av 172 [.ptr j A.length,aY want] ⟨B++[p,q],T⟩ (mB r j lo hi A C kv (B++[p,q]) T) else aF Tryz.prog av 173 [.ptr c 0,.ptr j A.length,aY want] ⟨B++[p,q],T⟩ (mB r j lo hi A C kv (B++[p,q]) T)):aF Tryz.prog av 135 [.ptr c 0,.ptr j A.length,aY want] ⟨B,T⟩ (mB r j lo hi A C kv B T):=by
 obtain ⟨N,hn⟩:∃ N,B.length=N:=⟨_,rfl⟩
 obtain ⟨al,dI⟩:∃ a,A.length=a:=⟨_,rfl⟩
 obtain ⟨X,hX⟩:∃ X,A++aV x kv++C=X:=⟨_,rfl⟩
 obtain ⟨x0,x1,x2,x6,x7,x8,x9,kJ,mC⟩:=cS hX.symm dI
 have aD:=h.row
 rw [hX] at aD
 have hj:j < N:=by have:=h.nb;have:=h.nl;omega
 rw [dI] at hf ⊢
 unfold aY at hf ⊢
 have OI:=fun J=>Gu zq (h.more (J:=J)).own T
 rcases hx with hx | hx | hx | hx
 all_goals
  rw [hx] at x0
  refine Bw.go 160 rfl fun bk=>?_
  simp only [dP] at bk
  simp only [W,seval,cC,hn,hj,aD,x0,x8,x9,Int.reduceEq,decide_true,decide_false]
  refine aU (OI _) ?_
  rintro _ _ ⟨rfl,rfl⟩
  cases Qw:ic x
  ·simp only [Qw,Bool.false_eq_true,if_false] at hf
   refine af.go 60 ?_
   simp only [W,seval,cC,hn]
   refine aU (hf _ _) ?_
   intro v S' hv
   obtain ⟨B1,t,b0,rfl,rfl,hl,f1,ee⟩:=mB.pass hn h hv
   unfold aY at ee ⊢
   refine af.go 60 ?_
   simp only [W,seval,cC,hl,f1]
   refine cH (v:=?_) (u:=?_) Tryz.func135 (by rfl) ?_ ?_ ?_
   rotate_left 2
   ·try simp only [W,seval,cC,hl]
    exact rfl
   ·try simp only [W,seval,cC,hl]
    exact rfl
   refine aq (ee _).1 ?_
   exact (ee _).2
  ·simp only [Qw,if_true] at hf
   refine af.go 60 ?_
   simp only [W,seval,cC,hn]
   refine aU (hf _ _) ?_
   intro v S' hv
   obtain ⟨B1,t,b0,rfl,rfl,hl,f1,ee⟩:=mB.pass hn h hv
   unfold aY at ee ⊢
   refine af.go 60 ?_
   simp only [W,seval,cC,hl,f1]
   refine cH (v:=?_) (u:=?_) Tryz.func135 (by rfl) ?_ ?_ ?_
   rotate_left 2
   ·try simp only [W,seval,cC,hl]
    exact rfl
   ·try simp only [W,seval,cC,hl]
    exact rfl
   refine aq (ee _).1 ?_
   exact (ee _).2
end
theorem Qt.of {r:Option (aj × aA)} {v:V} (y:aj) (t:aA) (b:Bool) (hv:v = .bY [sn y,aY t,.d (.bool b)]) (h:r=if b=true then some (y,t) else none):Qt r v:=by
 subst h hv
 cases b
 ·exact ⟨y,t,rfl⟩
 ·rfl
theorem Gr.ne (r:Option aA):∃ v,Gr r v:=by
 cases r<;>exact ⟨_,rfl⟩
theorem QK (t:List UInt8) (h:0 < ki t):(kZ t=true∧ki t≤2)∨(kZ t=false∧shift t=false∧ki t=3∧(alike t=true∨alike t=false∧order t=true))∨(kZ t=false∧shift t=true∧3 < ki t)∨(kZ t=false∧shift t=false∧alike t=false∧order t=false∧3 < ki t):=by
 rcases PV t with ⟨x,hx,rfl⟩ | h'
 ·simp only [wE,List.mem_cons,List.not_mem_nil,or_false] at hx
  rcases hx with rfl | rfl | rfl | rfl | rfl | rfl | rfl | rfl | rfl | rfl | rfl | rfl | rfl | rfl | rfl | rfl | rfl | rfl
  all_goals decide
 ·exfalso
  have:ki t=0:=by
   unfold ki
   rw [List.find?_eq_none.2 fun x hx e=>by
    have h1:=h' x hx
    rw [beq_eq_false_iff_ne] at h1
    exact h1 (eq_of_beq e).symm]
   rfl
  omega
section
variable {E:bP} {res:List aA} {c:Nat} {B:List (List V)} {T:List (Nat × Nat)}
end
def ru (E:bP) (l:List aj) (t:aA):Option (List aj):=bt E l (List.replicate l.length t)
theorem GA (E:bP) (t:aA):ru E [] t=some []:=by
 unfold ru bt;rfl
theorem D1 (E:bP) (x:aj) (l:List aj) (t:aA):ru E (x :: l) t=match bf (aE E x t) t with
 | some y=>(ru E l t).map fun l=>y :: l
 | none=>none:=by
 unfold ru
 rw [List.length_cons,List.replicate_succ]
 conv=>lhs;unfold bt
 rfl
section
variable {E:bP} {res:List aA} {c:Nat} {B:List (List V)} {T:List (Nat × Nat)}
end
inductive Ch:aj→Prop
 | mk (x:aj):x.kids.length≤30000→(∀ y∈x.kids,Ch y)→Ch x
theorem Ch.len {x:aj} (h:Ch x):x.kids.length≤30000:=by cases h;assumption
theorem Ch.qI {x:aj} (h:Ch x):∀ y∈x.kids,Ch y:=by cases h;assumption
section
variable (E:bP) (w:aA)
theorem xB (t:List UInt8):aE E (.mk 1 t 0 aQ [] []) w=(eW bH.name E.vs t).map fun p=>(.mk 1 t 0 aQ [] [],p.type):=by
 unfold aE;rw [if_neg (by decide),if_pos rfl]
theorem D2 (i:Int):aE E (.mk 2 [] i aQ [] []) w=if iI w.kind=0∨iI w.kind < i then none else some (.mk 2 [] i w [] [],w):=by
 unfold aE
 rw [if_neg (by decide),if_neg (by decide),if_neg (by decide),if_neg (by decide),if_neg (by decide),if_neg (by decide),if_neg (by decide),if_neg (by decide),if_neg (by decide),if_neg (by decide),if_neg (by decide),if_pos (show ic (.mk 2 [] i aQ [] [])=true from rfl)]
 rfl
theorem D3 (i:Int):aE E (.mk 3 [] i aQ [] []) w=some (.mk 3 [] i aQ [] [],bz):=by
 unfold aE;rw [if_pos rfl]
theorem D4 (y:aj):aE E (.mk 4 [] 0 aQ [] [y]) w=(bf (aE E y bz) bz).map fun a=>(.mk 4 [] 0 aQ [] [a],bz):=by
 conv=>lhs;unfold aE
 rw [if_neg (by decide),if_neg (by decide),if_neg (by decide),if_neg (by decide),if_neg (by decide),if_neg (by decide),if_neg (by decide),if_neg (by decide),if_neg (by decide),if_neg (by decide),if_neg (by decide),if_neg (by simp [ic]),if_pos rfl]
theorem D5 (y:aj) (hy:y.kind ≠ 2):aE E (.mk 5 [] 0 aQ [] [y]) w=match aE E y w with
 | some (a,t)=>if kB t.kind=true then some (.mk 5 [] 0 aQ [] [a],t) else none
 | none=>none:=by
 conv=>lhs;unfold aE
 rw [if_neg (by decide),if_neg (by decide),if_neg (by decide),if_neg (by decide),if_neg (by decide),if_neg (by decide),if_neg (by decide),if_neg (by decide),if_neg (by decide),if_neg (by decide),if_neg (by decide),if_neg (by simp [ic,hy]),if_neg (by decide),if_pos rfl]
 rfl
theorem zW (y:aj) (hy:y.kind=2):aE E (.mk 5 [] 0 aQ [] [y]) w=if (w.kind=3∨w.kind=4)∧y.int≤iI w.kind+1 then some (.mk 5 [] 0 aQ [] [setType y w],w) else none:=by
 conv=>lhs;unfold aE
 rw [if_neg (by decide),if_neg (by decide),if_neg (by decide),if_neg (by decide),if_neg (by decide),if_neg (by decide),if_neg (by decide),if_neg (by decide),if_neg (by decide),if_neg (by decide),if_neg (by decide),if_pos (by simp [ic,hy])]
 rfl
theorem D6 (t:List UInt8) (a b:aj):aE E (.mk 6 t 0 aQ [] [a,b]) w=(qs (aE E a) (aE E b) (ic a) t w).map fun r=>(.mk 6 t 0 aQ [] [r.1,r.2.1],r.2.2):=by
 conv=>lhs;unfold aE
 rw [if_neg (by decide),if_neg (by decide),if_pos rfl]
theorem D7 (t:List UInt8) (ks:List aj):aE E (.mk 7 t 0 aQ [] ks) w=match kj E (.mk 7 t 0 aQ [] ks) with
 | some (y,[t])=>some (y,t)
 | _=>none:=by
 conv=>lhs;unfold aE
 rw [if_neg (by decide),if_neg (by decide),if_neg (by decide),if_pos rfl]
 unfold kj
 dsimp only [aj.text,aj.kids]
 cases xe (eW cn.name E.fu t) (bt E ks) with
 | none=>rfl
 | some r =>
  obtain ⟨l,ts⟩:=r
  match ts with
  | []=>rfl
  | [t]=>rfl
  | _ :: _ :: _=>rfl
theorem D8 (k:Int) (y:aj):aE E (.mk 8 [] 0 (.mk k [] []) [] [y]) w=if ic y=true then (bf (aE E y (.mk k [] [])) (.mk k [] [])).map fun a=>(.mk 8 [] 0 (.mk k [] []) [] [a],.mk k [] []) else match aE E y aQ with
 | some (a,t)=>if kB t.kind=true then some (.mk 8 [] 0 (.mk k [] []) [] [a],.mk k [] []) else none
 | none=>none:=by
 conv=>lhs;unfold aE
 rw [if_neg (by decide),if_neg (by decide),if_neg (by decide),if_neg (by decide),if_neg (by decide),if_neg (by decide),if_neg (by decide),if_neg (by decide),if_neg (by decide),if_neg (by decide),if_neg (by decide),if_neg (by simp [ic]),if_neg (by decide),if_neg (by decide)]
 rfl
theorem xC (t:List UInt8) (y:aj):aE E (.mk 9 t 0 aQ [] [y]) w=match aE E y aQ with
 | some (a,u)=>(kY E.su u t).map fun f=>(.mk 9 t 0 aQ [] [a],f)
 | none=>none:=by
 conv=>lhs;unfold aE
 rw [if_neg (by decide),if_neg (by decide),if_neg (by decide),if_neg (by decide),if_pos rfl]
 rfl
theorem D9 (a b:aj):aE E (.mk 10 [] 0 aQ [] [a,b]) w=match aE E a aQ with
 | some (a,t)=>(gM t).bind fun e=>(bf (aE E b cg) cg).map fun b=>(.mk 10 [] 0 aQ [] [a,b],e)
 | none=>none:=by
 conv=>lhs;unfold aE
 rw [if_neg (by decide),if_neg (by decide),if_neg (by decide),if_neg (by decide),if_neg (by decide),if_neg (by decide),if_pos rfl]
 rfl
theorem Ea (a b c:aj):aE E (.mk 11 [] 0 aQ [] [a,b,c]) w=match aE E a aQ with
 | some (a,t)=>(gM t).bind fun _=>(bf (aE E b cg) cg).bind fun b=>(bf (aE E c cg) cg).map fun c=>(.mk 11 [] 0 aQ [] [a,b,c],t)
 | none=>none:=by
 conv=>lhs;unfold aE
 rw [if_neg (by decide),if_neg (by decide),if_neg (by decide),if_neg (by decide),if_neg (by decide),if_neg (by decide),if_neg (by decide),if_pos rfl]
 rfl
theorem Eb (a:aj):aE E (.mk 12 [] 0 aQ [] [a]) w=match aE E a aQ with
 | some (a,t)=>(gM t).map fun _=>(.mk 12 [] 0 aQ [] [a],cg)
 | none=>none:=by
 conv=>lhs;unfold aE
 rw [if_neg (by decide),if_neg (by decide),if_neg (by decide),if_neg (by decide),if_neg (by decide),if_pos rfl]
 rfl
theorem Ec (a b:aj):aE E (.mk 13 [] 0 aQ [] [a,b]) w=match aE E a w with
 | some (a,t)=>(gM t).bind fun e=>(bf (aE E b e) e).map fun b=>(.mk 13 [] 0 aQ [] [a,b],t)
 | none=>none:=by
 conv=>lhs;unfold aE
 rw [if_neg (by decide),if_neg (by decide),if_neg (by decide),if_neg (by decide),if_neg (by decide),if_neg (by decide),if_neg (by decide),if_neg (by decide),if_pos rfl]
 rfl
theorem Ed (n:List UInt8) (ns:List (List UInt8)) (ks:List aj):aE E (.mk 14 [] 0 (.mk 7 n []) ns ks) w=if bQ E.su (.mk 7 n [])=true then ((ns.mapM (kY E.su (.mk 7 n []))).bind (bt E ks)).map fun l=>(.mk 14 [] 0 (.mk 7 n []) ns l,.mk 7 n []) else none:=by
 conv=>lhs;unfold aE
 rw [if_neg (by decide),if_neg (by decide),if_neg (by decide),if_neg (by decide),if_neg (by decide),if_neg (by decide),if_neg (by decide),if_neg (by decide),if_neg (by decide),if_pos rfl]
theorem Ee (t:aA) (ks:List aj):aE E (.mk 15 [] 0 (.mk 8 [] [t]) [] ks) w=if bQ E.su (.mk 8 [] [t])=true then (ru E ks t).map fun l=>(.mk 15 [] 0 (.mk 8 [] [t]) [] l,.mk 8 [] [t]) else none:=by
 conv=>lhs;unfold aE
 rw [if_neg (by decide),if_neg (by decide),if_neg (by decide),if_neg (by decide),if_neg (by decide),if_neg (by decide),if_neg (by decide),if_neg (by decide),if_neg (by decide),if_neg (by decide),if_pos rfl]
 rfl
end
structure Uj (E:bP):Prop where
 t:og E.su E.fu
 v:∀ p∈E.vs,TW p.type
theorem qa {α:Type} (nm:α→List UInt8):∀ {l:List α} {n:List UInt8} {x:α},eW nm l n=some x→x∈l
 | [],_,_,h=>by cases h
 | y :: l,n,x,h=>by
  unfold eW at h
  split at h
  ·rw [Option.some.inj h];exact List.mem_cons_self
  ·exact List.mem_cons_of_mem _ (qa nm h)
theorem Nx {E:bP} (hE:Uj E) {t:aA} {n:List UInt8} {f:aA} (h:kY E.su t n=some f):TW f:=by
 unfold kY at h
 split at h
 case isFalse=>cases h
 split at h
 case h_2=>cases h
 rename_i s hs
 obtain ⟨p,hp,rfl⟩:=Option.map_eq_some_iff.1 h
 exact (hE.t.fl s (qa _ hs)).2 p (qa _ hp)
theorem QL {t e:aA} (ht:TW t) (h:gM t=some e):TW e:=by
 unfold gM at h
 split at h
 case isFalse=>cases h
 rename_i h8
 cases ht with
 | leaf k n es hk=>exact absurd h8 hk
 | sl n u hu=>obtain rfl:u=e:=Option.some.inj h;exact hu
theorem Ny {t:aA} (h:iI t.kind ≠ 0):TW t:=by
 obtain ⟨k,n,es⟩:=t
 refine .leaf k n es fun e=>h ?_
 rw [show (aA.mk k n es).kind=k from rfl,e];rfl
theorem QM {fa fb:aA→Option (aj × aA)} (ha:∀ w y t,fa w=some (y,t)→TW t) (hb:∀ w y t,fb w=some (y,t)→TW t) {la:Bool} {w:aA} {a b:aj} {t:aA} (h:sC fa fb la w=some (a,b,t)):TW t:=by
 unfold sC at h
 split at h
 ·split at h
  case h_2=>cases h
  rename_i y u hy
  obtain ⟨z,hz,e⟩:=Option.map_eq_some_iff.1 h
  obtain ⟨_,_,rfl⟩:=by simpa using e
  exact hb _ _ _ hy
 ·split at h
  case h_2=>cases h
  rename_i y u hy
  obtain ⟨z,hz,e⟩:=Option.map_eq_some_iff.1 h
  obtain ⟨_,_,rfl⟩:=by simpa using e
  exact ha _ _ _ hy
theorem sP:TW bz:=.leaf 1 _ _ (by decide)
theorem Uk:TW cg:=.leaf 4 _ _ (by decide)
theorem Ul {fa fb:aA→Option (aj × aA)} (ha:∀ w y t,fa w=some (y,t)→TW t) (hb:∀ w y t,fb w=some (y,t)→TW t) {la:Bool} {tx:List UInt8} {w:aA} {a b:aj} {t:aA} (h:qs fa fb la tx w=some (a,b,t)):TW t:=by
 unfold qs at h
 split at h
 ·split at h
  ·obtain ⟨_,_,rfl⟩:=by simpa using h
   exact sP
  ·cases h
 split at h
 ·split at h
  case h_2=>cases h
  rename_i y u hy
  split at h
  case isFalse=>cases h
  obtain ⟨z,hz,e⟩:=Option.map_eq_some_iff.1 h
  obtain ⟨_,_,rfl⟩:=by simpa using e
  exact ha _ _ _ hy
 split at h
 ·split at h
  case h_2=>cases h
  split at h
  case isFalse=>cases h
  obtain ⟨_,_,rfl⟩:=by simpa using h
  exact sP
 split at h
 ·split at h
  case h_2=>cases h
  split at h
  case isFalse=>cases h
  obtain ⟨_,_,rfl⟩:=by simpa using h
  exact sP
 ·split at h
  case h_2=>cases h
  rename_i y z u hy
  split at h
  case isFalse=>cases h
  obtain ⟨_,_,rfl⟩:=by simpa using h
  exact QM ha hb hy
theorem Bx {E:bP} (hE:Uj E) {d:Int} {x:aj} (hx:kA d x):∀ w y t,aE E x w=some (y,t)→TW t:=by
 induction hx with
 | Nb d s h1 h2 =>
  intro w y t h
  rw [xB] at h
  obtain ⟨p,hp,e⟩:=Option.map_eq_some_iff.1 h
  obtain ⟨_,rfl⟩:=Prod.mk.inj e
  exact hE.v p (qa _ hp)
 | num d i h1 h2 h3 =>
  intro w y t h
  rw [D2] at h
  split at h
  ·cases h
  ·rename_i hn
   obtain ⟨_,rfl⟩:=Prod.mk.inj (Option.some.inj h)
   exact Ny fun e=>hn (.inl e)
 | YP d i h1 h2 h3 =>
  intro w y t h
  rw [D3] at h
  obtain ⟨_,rfl⟩:=Prod.mk.inj (Option.some.inj h)
  exact sP
 | Vc d k z h1 h2 h3 ih =>
  intro w y t h
  rcases h2 with rfl | rfl
  ·rw [D4] at h
   obtain ⟨p,hp,e⟩:=Option.map_eq_some_iff.1 h
   obtain ⟨_,rfl⟩:=Prod.mk.inj e
   exact sP
  ·by_cases hz:z.kind=2
   ·rw [zW E w z hz] at h
    split at h
    ·rename_i hn
     obtain ⟨_,rfl⟩:=Prod.mk.inj (Option.some.inj h)
     refine Ny ?_
     rcases hn.1 with h | h<;>rw [h]<;>decide
    ·cases h
   ·rw [D5 E w z hz] at h
    split at h
    case h_2=>cases h
    rename_i a u ha
    split at h
    case isFalse=>cases h
    obtain ⟨_,rfl⟩:=Prod.mk.inj (Option.some.inj h)
    exact ih _ _ _ ha
 | bin d s a b h1 h2 ha hb Ci Lo =>
  intro w y t h
  rw [D6] at h
  obtain ⟨⟨p,q,r⟩,hp,e⟩:=Option.map_eq_some_iff.1 h
  obtain ⟨_,rfl⟩:=Prod.mk.inj e
  exact Ul Ci Lo hp
 | W1 d s ks h1 h2 h3 ih =>
  intro w y t h
  rw [D7] at h
  split at h
  case h_2=>cases h
  rename_i z u hz
  obtain ⟨_,rfl⟩:=Prod.mk.inj (Option.some.inj h)
  unfold kj xe at hz
  dsimp only [aj.text,aj.kids] at hz
  cases hf:eW cn.name E.fu s with
  | none=>rw [hf] at hz;cases hz
  | some f =>
   rw [hf] at hz
   dsimp only at hz
   rw [Option.map_map] at hz
   obtain ⟨l,hl,e⟩:=Option.map_eq_some_iff.1 hz
   have e2:f.results=[u]:=(Prod.mk.inj e).2
   exact (hE.t.pa f (qa _ hf)).2.2.2 u (by rw [e2];exact List.mem_singleton_self _)
 | W2 d k z h1 h2 h3 h4 ih =>
  intro w y t h
  rw [D8] at h
  have hk:TW (.mk k [] []):=.leaf k _ _ (by omega)
  split at h
  ·obtain ⟨p,hp,e⟩:=Option.map_eq_some_iff.1 h
   obtain ⟨_,rfl⟩:=Prod.mk.inj e
   exact hk
  ·split at h
   case h_2=>cases h
   split at h
   case isFalse=>cases h
   obtain ⟨_,rfl⟩:=Prod.mk.inj (Option.some.inj h)
   exact hk
 | W3 d s z h1 h2 h3 ih =>
  intro w y t h
  rw [xC] at h
  split at h
  case h_2=>cases h
  obtain ⟨f,hf,e⟩:=Option.map_eq_some_iff.1 h
  obtain ⟨_,rfl⟩:=Prod.mk.inj e
  exact Nx hE hf
 | idx d a b h1 h2 h3 Ci Lo =>
  intro w y t h
  rw [D9] at h
  split at h
  case h_2=>cases h
  rename_i a' u ha
  obtain ⟨e,he,h⟩:=Option.bind_eq_some_iff.1 h
  obtain ⟨q,hq,h⟩:=Option.map_eq_some_iff.1 h
  obtain ⟨_,rfl⟩:=Prod.mk.inj h
  exact QL (Ci _ _ _ ha) he
 | cut d a b c h1 h2 h3 h4 Ci Lo ihc =>
  intro w y t h
  rw [Ea] at h
  split at h
  case h_2=>cases h
  rename_i a' u ha
  obtain ⟨e,he,h⟩:=Option.bind_eq_some_iff.1 h
  obtain ⟨q,hq,h⟩:=Option.bind_eq_some_iff.1 h
  obtain ⟨r,hr,h⟩:=Option.map_eq_some_iff.1 h
  obtain ⟨_,rfl⟩:=Prod.mk.inj h
  exact Ci _ _ _ ha
 | len d a h1 h2 Ci =>
  intro w y t h
  rw [Eb] at h
  split at h
  case h_2=>cases h
  obtain ⟨e,he,h⟩:=Option.map_eq_some_iff.1 h
  obtain ⟨_,rfl⟩:=Prod.mk.inj h
  exact Uk
 | app d a b h1 h2 h3 Ci Lo =>
  intro w y t h
  rw [Ec] at h
  split at h
  case h_2=>cases h
  rename_i a' u ha
  obtain ⟨e,he,h⟩:=Option.bind_eq_some_iff.1 h
  obtain ⟨q,hq,h⟩:=Option.map_eq_some_iff.1 h
  obtain ⟨_,rfl⟩:=Prod.mk.inj h
  exact Ci _ _ _ ha
 | str d n ns ks h1 h2 h3 h4 h5 ih =>
  intro w y t h
  rw [Ed] at h
  split at h
  case isFalse=>cases h
  obtain ⟨q,hq,h⟩:=Option.map_eq_some_iff.1 h
  obtain ⟨_,rfl⟩:=Prod.mk.inj h
  exact .leaf 7 _ _ (by decide)
 | W4 d u ks h1 h2 h3 ih =>
  intro w y t h
  rw [Ee] at h
  split at h
  case isFalse=>cases h
  obtain ⟨q,hq,h⟩:=Option.map_eq_some_iff.1 h
  obtain ⟨_,rfl⟩:=Prod.mk.inj h
  exact .sl _ _ (TW.zN h2)
theorem sQ {d:Int} {x:aj} (h:kA d x):x.kind=5→x.kids ≠ []:=by
 intro h5
 cases h with
 | Vc d k y h1 h2 h3=>simp [aj.kids]
 | _=>exact absurd h5 (by simp [aj.kind])
section
variable {E:bP} {res:List aA} {n c s f w:Nat} {B:List (List V)} {T:List (Nat × Nat)} {j lo hi:Nat} {A C:List V} {kv:V}
set_option maxHeartbeats 8000000 in
theorem QN {x:aj} (hx:x.kind=7) (hT:og E.su E.fu) (hl:∀ y∈x.kids,dN E res y) (want:aA) (h:cl B n c s f w E res j lo hi A C kv x):aF Tryz.prog av 135 [.ptr c 0,.ptr j A.length,aY want] ⟨B,T⟩ (mB (match kj E x with
 | some (y,[t])=>some (y,t)
 | _=>none) j lo hi A C kv B T):=by
 obtain ⟨N,hn⟩:∃ N,B.length=N:=⟨_,rfl⟩
 obtain ⟨al,dI⟩:∃ a,A.length=a:=⟨_,rfl⟩
 obtain ⟨X,hX⟩:∃ X,A++aV x kv++C=X:=⟨_,rfl⟩
 obtain ⟨x0,x1,x2,x6,x7,x8,x9,kJ,mC⟩:=cS hX.symm dI
 have aD:=h.row
 rw [hX] at aD
 rw [hx] at x0
 have gS:=h.nl
 have hj:j < N:=by have:=h.nb;omega
 have hf:=fun J=>zU (T:=T) hT hl (h.more (J:=J))
 rw [dI] at hf ⊢
 unfold aY
 refine Bw.go 160 rfl fun bk=>?_
 simp only [dP] at bk
 simp only [W,seval,cC,hn,hj,aD,x0,Int.reduceEq,decide_true,decide_false]
 refine aU (hf _) ?_
 rintro v _ ⟨B1,rfl,hd,hv⟩
 have bg:=hd.2.1
 simp only [List.length_append,List.length_cons,List.length_nil,hn,Nat.zero_add,Nat.reduceAdd] at bg
 have e1:cx j lo hi B.length B B1:=cx.new.step hd.1
 have f1:=h.qK hd.1 (i:=N+1) (by omega) (by simp [hn])
 rw [dF hn] at f1
 simp only [List.getElem?_cons_zero,List.getElem?_cons_succ] at f1
 have dW:N+1 < B1.length:=by omega
 have e2:∀ Z,cx j lo hi B.length B (B1.set (N+1) Z):=fun Z=>e1.jB (by omega)
 cases hr:kj E x with
 | none =>
  rw [hr] at hv
  obtain rfl:v=_:=hv
  refine af.go 60 ?_
  simp only [W,seval,cC,Bool.not_false]
  refine ag (cR _ _) ?_
  rintro _ _ ⟨rfl,rfl⟩
  unfold aY
  refine af.go 60 ?_
  simp only [W,seval,cC,dW,f1]
  refine cH (v:=?_) (u:=?_) Tryz.func135 (by rfl) ?_ ?_ ?_
  rotate_left 2
  ·try simp only [W,seval,cC,dW]
   exact rfl
  ·try simp only [W,seval,cC,dW]
   exact rfl
  refine aq (e2 _) ?_
  exact ⟨_,rfl,.none (e2 _) rfl,aQ,rfl⟩
 | some p =>
  obtain ⟨y,ts⟩:=p
  rw [hr] at hv hd
  obtain rfl:v=_:=hv
  by_cases h1:ts.length=1
  ·have g1:decide ((ts.length:Int)=1)=true:=decide_eq_true (by omega)
   obtain ⟨t,rfl⟩:=List.length_eq_one_iff.1 h1
   refine af.go 60 ?_
   simp only [W,seval,cC,Bool.not_true,bC,bT,cB,dW,f1,decide_true]
   refine cH (v:=?_) (u:=?_) Tryz.func135 (by rfl) ?_ ?_ ?_
   rotate_left 2
   ·try simp only [W,seval,cC,dW]
    exact rfl
   ·try simp only [W,seval,cC,dW]
    exact rfl
   refine aq (e2 _) ?_
   exact ⟨_,rfl,(h.more.done hd).fin (e2 _) gS (fun i hi=>List.getElem?_set_ne (by omega)) fun z hz=>(Option.some.inj hz).symm,rfl⟩
  ·have g1:decide ((ts.length:Int)=1)=false:=decide_eq_false (by omega)
   have g2:(match (some (y,ts):Option (aj × List aA)) with
    | some (y,[t])=>some (y,t)
    | _=>none)=none:=by
    match ts,h1 with
    | [],_=>rfl
    | [t],h1=>exact absurd rfl h1
    | _ :: _ :: _,_=>rfl
   rw [g2]
   refine af.go 60 ?_
   simp only [W,seval,cC,Bool.not_true,g1,Bool.not_false]
   refine ag (cR _ _) ?_
   rintro _ _ ⟨rfl,rfl⟩
   unfold aY
   refine af.go 60 ?_
   simp only [W,seval,cC,dW,f1]
   refine cH (v:=?_) (u:=?_) Tryz.func135 (by rfl) ?_ ?_ ?_
   rotate_left 2
   ·try simp only [W,seval,cC,dW]
    exact rfl
   ·try simp only [W,seval,cC,dW]
    exact rfl
   refine aq (e2 _) ?_
   exact ⟨_,rfl,.none (e2 _) rfl,aQ,rfl⟩
set_option maxHeartbeats 8000000 in
theorem QO {x a:aj} (hx:x.kind=9) (hk:x.kids=[a]) (hT:og E.su E.fu) (ha:dN E res a) (want:aA) (h:cl B n c s f w E res j lo hi A C kv x):aF Tryz.prog av 135 [.ptr c 0,.ptr j A.length,aY want] ⟨B,T⟩ (mB (match aE E a aQ with
 | some (a,t)=>(kY E.su t x.text).map fun f=>(aT x [a],f)
 | none=>none) j lo hi A C kv B T):=by
 obtain ⟨N,hn⟩:∃ N,B.length=N:=⟨_,rfl⟩
 obtain ⟨al,dI⟩:∃ a,A.length=a:=⟨_,rfl⟩
 obtain ⟨X,hX⟩:∃ X,A++aV x kv++C=X:=⟨_,rfl⟩
 obtain ⟨x0,x1,x2,x6,x7,x8,x9,kJ,mC⟩:=cS hX.symm dI
 have aD:=h.row
 rw [hX] at aD
 rw [hx] at x0
 have gS:=h.nl
 have hj:j < N:=by have:=h.nb;omega
 have E2:j < N+2:=by omega
 have dy:N+1 < N+2:=by omega
 obtain ⟨j1,m,cap,rfl,ni⟩:=h.bx (by rw [hk];simp)
 have i0:(0:Int) < (m:Int):=by rw [ni,hk];simp
 obtain ⟨eL,dK,A1,C1,mX,a1,⟨qR,uG⟩,k1,k2,k3⟩:=(h.more (J:=[jK want,ng])).oq (k:=0) (y:=a) (by rw [hk];rfl)
 rw [Nat.zero_mul] at a1
 rw [dI]
 unfold jK ng at *
 unfold aY
 refine Bw.go 160 rfl fun bk=>?_
 simp only [dP] at bk
 simp only [W,seval,cC,hn,hj,aD,x0,Int.reduceEq,decide_true,decide_false]
 refine af.bE 12 [11] [j] (by kernel_rfl) (by kernel_rfl) (by kernel_rfl) (by kernel_rfl) (by kernel_rfl) (by kernel_rfl) (by kernel_rfl) ?_
 simp (maxSteps:=4000000) only [W,seval,cC,xw,iL,hn,hj,aD,x7,i0]
 refine bO (fun Z=>cR _ _) ?_
 simp (maxSteps:=4000000) only [W,seval,cC,xw,hn,aY]
 refine Kr ha k1 aQ a1 ?_
 intro B1 t b0 hd bg me jc
 simp only [List.length_append,List.length_cons,List.length_nil,hn,Nat.zero_add,Nat.reduceAdd] at bg
 have e3:cx j lo hi B.length B B1:=cx.new.step (k2 _ _ hd.1)
 have f1:=h.qK (k2 _ _ hd.1) (i:=N+1) (by omega) (by simp [hn])
 rw [dF hn] at f1
 simp only [List.getElem?_cons_zero,List.getElem?_cons_succ] at f1
 have g1:B1[j]? = (B++[[V.d (.int .i64 want.kind),.d (.str want.name),.d (.sl (want.elem.map dR))],[V.d (.int .i64 0),.d (.str []),.sl [] .full]])[j]?:=hd.1.2.1 j (by simp;omega) uG
 have DU:B1[j]? = some X:=by rw [g1,ah (by omega)];exact aD
 have dW:N+1 < B1.length:=by omega
 have e4:∀ Z J,cx j lo hi B.length B (B1.set (N+1) Z++J):=fun Z J=>(e3.jB (by omega)).app
 have g4:∀ Z,(B1.set (N+1) Z)[N+1]? = some Z:=fun Z=>List.getElem?_set_self dW
 have g7:∀ Z J,(B1.set (N+1) Z++J)[j]? = (B1++J)[j]?:=fun Z J=>by rw [ah (by rw [List.length_set];omega),ah (by omega),List.getElem?_set_ne (by omega)]
 refine ⟨⟨g1,trivial⟩,?_⟩
 unfold aY
 simp (maxSteps:=4000000) only [W,seval,cC,xw,bg]
 refine ⟨g1,?_⟩
 cases b0
 ·have hr:=jc rfl
  rw [hr]
  refine af.go 60 ?_
  simp only [W,seval,cC,bg,Bool.not_false]
  refine ag (cR _ _) ?_
  rintro _ _ ⟨rfl,rfl⟩
  unfold aY
  refine af.go 60 ?_
  simp only [W,seval,cC,bg,f1,dy]
  refine cH (v:=?_) (u:=?_) Tryz.func135 (by rfl) ?_ ?_ ?_
  rotate_left 2
  ·try simp only [W,seval,cC,bg,dy,dW,g4]
   exact rfl
  ·try simp only [W,seval,cC,bg,dy,dW,g4]
   exact rfl
  refine aq (e4 _ _) ?_
  exact ⟨_,rfl,.none (e4 _ _) rfl,aQ,rfl⟩
 obtain ⟨y,hr⟩:=me rfl
 rw [hr] at hd ⊢
 dsimp only
 have jL:=k3 B1 y hd
 rw [hk] at jL
 have Ln:=fun J Z=>DY (T:=T) hT t x.text ((jL.k.more J).more Z)
 unfold aY at Ln
 refine af.go 60 ?_
 simp only [W,seval,cC,bg,Bool.not_true]
 refine af.bE 9 [] [N+2,j] (by kernel_rfl) (by kernel_rfl) (by kernel_rfl) (by kernel_rfl) (by kernel_rfl) (by kernel_rfl) (by kernel_rfl) ?_
 simp (maxSteps:=4000000) only [W,seval,cC,xw,bg,f1,dy,E2,DU,x1]
 refine wv (Gr.ex _) (fun Z=>Ln _ Z) ?_
 intro v hv
 refine ⟨kU _ _,?_⟩
 have g5:∀ Z J,(B1.set (N+1) Z++J)[N+2]? = (B1++J)[N+2]?:=fun Z J=>by
  have h1:(B1.set (N+1) Z).length=N+2:=by rw [List.length_set];exact bg
  rw [cL h1,cL bg]
 cases Ff:kY E.su t x.text with
 | none =>
  rw [Ff] at hv
  obtain rfl:v=_:=hv
  unfold aY
  simp (maxSteps:=4000000) only [W,seval,cC,xw,bg,f1,dy]
  refine af.go 60 ?_
  simp only [W,seval,cC,bg]
  refine cH (v:=?_) (u:=?_) Tryz.func135 (by rfl) ?_ ?_ ?_
  rotate_left 2
  ·try simp only [W,seval,cC,bg,dy,dW,g4]
   exact rfl
  ·try simp only [W,seval,cC,bg,dy,dW,g4]
   exact rfl
  refine aq (e4 _ _) ?_
  exact ⟨_,rfl,.none (e4 _ _) rfl,aQ,rfl⟩
 | some u =>
  rw [Ff] at hv
  obtain rfl:v=_:=hv
  unfold aY
  simp (maxSteps:=4000000) only [W,seval,cC,xw,bg,f1,dy]
  refine af.go 60 ?_
  simp only [W,seval,cC,bg]
  refine cH (v:=?_) (u:=?_) Tryz.func135 (by rfl) ?_ ?_ ?_
  rotate_left 2
  ·try simp only [W,seval,cC,bg,dy,dW,g4]
   exact rfl
  ·try simp only [W,seval,cC,bg,dy,dW,g4]
   exact rfl
  refine aq (e4 _ _) ?_
  exact ⟨_,rfl,jL.fin (e4 _ _) gS (fun i hi=>by rw [ah (by rw [List.length_set];omega),List.getElem?_set_ne (by omega)]) fun z hz=>(Option.some.inj hz).symm,rfl⟩
end
theorem Iu {α β:Type} (g:α→Option β):∀ l:List α,(l.map g).mapM id=l.mapM g
 | []=>rfl
 | x :: l=>by rw [List.map_cons,List.mapM_cons,List.mapM_cons,Iu g l];rfl
theorem Nz (E:bP) (e:aA):∀ l:List aj,nG E l (List.replicate l.length (some e))=ru E l e
 | []=>by unfold nG;exact (GA E e).symm
 | x :: l=>by
  rw [List.length_cons,List.replicate_succ,D1]
  unfold nG
  rw [Nz E e l]
  all_goals (cases bf (aE E x e) e<;>rfl)
theorem Ef {E:bP} {res:List aA} (hE:Uj E) {d:Int} {x:aj} (hx:kA d x):Ch x→dN E res x:=by
 induction hx with
 | Nb d s h1 h2 =>
  intro hs w n c s' f w' B T j lo hi A C kv h
  rw [xB]
  exact QI (x:=.mk 1 s 0 aQ [] []) rfl w h
 | num d i h1 h2 h3 =>
  intro hs w n c s' f w' B T j lo hi A C kv h
  rw [D2]
  refine sO (x:=.mk 2 [] i aQ [] []) (.inl rfl) (fun h=>by simp [aj.kind] at h) w h fun p q=>?_
  rw [if_pos (show ic (.mk 2 [] i aQ [] [])=true from rfl)]
  exact DQ (x:=.mk 2 [] i aQ [] []) (fun h=>by simp [aj.kind] at h) w h.more
 | YP d i h1 h2 h3 =>
  intro hs w n c s' f w' B T j lo hi A C kv h
  rw [D3]
  exact QH (x:=.mk 3 [] i aQ [] []) rfl w h
 | Vc d k z h1 h2 h3 ih =>
  intro hs w n c s' f w' B T j lo hi A C kv h
  have hz:dN E res z:=ih (hs.qI z List.mem_cons_self)
  rcases h2 with rfl | rfl
  ·rw [D4]
   refine sO (x:=.mk 4 [] 0 aQ [] [z]) (.inr (.inl rfl)) (fun h=>by simp [aj.kind] at h) w h fun p q=>?_
   rw [if_neg (by simp [ic])]
   exact QE (x:=.mk 4 [] 0 aQ [] [z]) rfl rfl hz w h.more
  ·by_cases hk:z.kind=2
   ·rw [zW E w z hk]
    refine sO (x:=.mk 5 [] 0 aQ [] [z]) (.inr (.inr (.inl rfl))) (fun _=>by simp [aj.kids]) w h fun p q=>?_
    rw [if_pos (by simp [ic,hk])]
    exact DQ (x:=.mk 5 [] 0 aQ [] [z]) (fun _=>by simp [aj.kids]) w h.more
   ·rw [D5 E w z hk]
    refine sO (x:=.mk 5 [] 0 aQ [] [z]) (.inr (.inr (.inl rfl))) (fun _=>by simp [aj.kids]) w h fun p q=>?_
    rw [if_neg (by simp [ic,hk])]
    exact QF (x:=.mk 5 [] 0 aQ [] [z]) rfl rfl hz w h.more
 | bin d s a b h1 h2 ha hb Ci Lo =>
  intro hs w n c s' f w' B T j lo hi A C kv h
  rw [D6]
  have hA:=Ci (hs.qI a List.mem_cons_self)
  have hB:=Lo (hs.qI b (List.mem_cons_of_mem _ List.mem_cons_self))
  refine QJ (x:=.mk 6 s 0 aQ [] [a,b]) rfl w h fun p q=>?_
  rcases QK s h2 with ⟨g1,_⟩ | ⟨g1,g2,_,g3 | ⟨g3,g4⟩⟩ | ⟨g1,g2,_⟩ | ⟨g1,g2,g3,g4,_⟩
  ·exact Kw (x:=.mk 6 s 0 aQ [] [a,b]) g1 rfl hA hB w h.more
  ·exact Kt (x:=.mk 6 s 0 aQ [] [a,b]) g1 g2 g3 rfl hA hB (sQ ha) w h.more
  ·exact Ku (x:=.mk 6 s 0 aQ [] [a,b]) g1 g2 g3 g4 rfl hA hB (sQ ha) w h.more
  ·exact Ky (x:=.mk 6 s 0 aQ [] [a,b]) g1 g2 rfl hA hB w h.more
  ·exact Kv (x:=.mk 6 s 0 aQ [] [a,b]) g1 g2 g3 g4 rfl hA hB (sQ ha) w h.more
 | W1 d s ks h1 h2 h3 ih =>
  intro hs w n c s' f w' B T j lo hi A C kv h
  rw [D7]
  exact QN (x:=.mk 7 s 0 aQ [] ks) rfl hE.t (fun y hy=>ih y hy (hs.qI y hy)) w h
 | W2 d k z h1 h2 h3 h4 ih =>
  intro hs w n c s' f w' B T j lo hi A C kv h
  rw [D8]
  refine sO (x:=.mk 8 [] 0 (.mk k [] []) [] [z]) (.inr (.inr (.inr rfl))) (fun h=>by simp [aj.kind] at h) w h fun p q=>?_
  rw [if_neg (by simp [ic])]
  exact QG (x:=.mk 8 [] 0 (.mk k [] []) [] [z]) rfl rfl (ih (hs.qI z List.mem_cons_self)) (sQ h4) w h.more
 | W3 d s z h1 h2 h3 ih =>
  intro hs w n c s' f w' B T j lo hi A C kv h
  rw [xC]
  exact QO (x:=.mk 9 s 0 aQ [] [z]) rfl rfl hE.t (ih (hs.qI z List.mem_cons_self)) w h
 | idx d a b h1 h2 h3 Ci Lo =>
  intro hs w n c s' f w' B T j lo hi A C kv h
  rw [D9]
  exact vw (x:=.mk 10 [] 0 aQ [] [a,b]) (.inl rfl) w h fun p q=>Qz (x:=.mk 10 [] 0 aQ [] [a,b]) rfl rfl (Ci (hs.qI a List.mem_cons_self)) (Lo (hs.qI b (List.mem_cons_of_mem _ List.mem_cons_self))) (Bx hE h2) w h.more
 | cut d a b c h1 h2 h3 h4 Ci Lo ihc =>
  intro hs w n c' s' f w' B T j lo hi A C kv h
  rw [Ea]
  exact vw (x:=.mk 11 [] 0 aQ [] [a,b,c]) (.inr (.inl rfl)) w h fun p q=>QD (x:=.mk 11 [] 0 aQ [] [a,b,c]) rfl rfl (Ci (hs.qI a List.mem_cons_self)) (Lo (hs.qI b (List.mem_cons_of_mem _ List.mem_cons_self))) (ihc (hs.qI c (List.mem_cons_of_mem _ (List.mem_cons_of_mem _ List.mem_cons_self)))) (Bx hE h2) w h.more
 | len d a h1 h2 Ci =>
  intro hs w n c s' f w' B T j lo hi A C kv h
  rw [Eb]
  exact vw (x:=.mk 12 [] 0 aQ [] [a]) (.inr (.inr (.inl rfl))) w h fun p q=>Qy (x:=.mk 12 [] 0 aQ [] [a]) rfl rfl (Ci (hs.qI a List.mem_cons_self)) (Bx hE h2) w h.more
 | app d a b h1 h2 h3 Ci Lo =>
  intro hs w n c s' f w' B T j lo hi A C kv h
  rw [Ec]
  exact vw (x:=.mk 13 [] 0 aQ [] [a,b]) (.inr (.inr (.inr rfl))) w h fun p q=>QB (x:=.mk 13 [] 0 aQ [] [a,b]) rfl rfl (Ci (hs.qI a List.mem_cons_self)) (Lo (hs.qI b (List.mem_cons_of_mem _ List.mem_cons_self))) (Bx hE h2) w h.more
 | str d m ns ks h1 h2 h3 h4 h5 ih =>
  intro hs w n c s' f w' B T j lo hi A C kv h
  rw [Ed,← Iu,← Ir]
  exact It (x:=.mk 14 [] 0 (.mk 7 m []) ns ks) (.inl rfl) w h fun p q=>Is (x:=.mk 14 [] 0 (.mk 7 m []) ns ks) hE.t (.leaf 7 _ _ (by decide)) (fun y hy=>ih y hy (hs.qI y hy)) (by have:=hs.len;omega) _ (by rw [List.length_map];exact h3) (.inl ⟨rfl,rfl⟩) h.more
 | W4 d t ks h1 h2 h3 ih =>
  intro hs w n c s' f w' B T j lo hi A C kv h
  rw [Ee,← Nz]
  exact It (x:=.mk 15 [] 0 (.mk 8 [] [t]) [] ks) (.inr rfl) w h fun p q=>Is (x:=.mk 15 [] 0 (.mk 8 [] [t]) [] ks) hE.t (.sl _ t (TW.zN h2)) (fun y hy=>ih y hy (hs.qI y hy)) (by have:=hs.len;omega) _ (by rw [List.length_replicate];rfl) (.inr ⟨by simp [aj.kind],t,rfl,rfl⟩) h.more
end Go.Proofs.YtnfnbjjnjjdjdaaGreatDoor
