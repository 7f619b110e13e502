/- gotypeMore Part 6 of 6 of the proof. -/
import Derived.Test.YtnfnbjjnjjdjdaaGreatDoorGotypeMoree
import Derived.OpenShut
import Derived.ChangeArms
import Derived.Test.YtnfnbjjnjjdjdaaGreatDoorRows
import Derived.ChangeSame
import Derived.ProofKit
import Derived.ShutString
import Derived.Deep.DeepHandedRow
import Derived.Carry
import Derived.Lib.LaidTab
import Derived.LaidLaws
import Derived.WalkKit
import Derived.Test.YtnfnbjjnjjdjdaaGreatDoorCards
import Derived.Test.YtnfnbjjnjjdjdaaGreatDoorTie
import Derived.Lay
namespace Go.Proofs.YtnfnbjjnjjdjdaaGreatDoor
open Go.RowKit Go.Av Go.Ab
set_option linter.unusedSimpArgs false
set_option maxRecDepth 100000
set_option linter.defProp false
def c9:=by
 have c:=aM Tryz.f9 (by conv=>lhs;cbv)
 dsimp only [KK,eN,eG,eH,List.map_cons,List.map_nil,List.toList_toArray] at c
 exact c
theorem b9:bI Tryz.prog 9 Tryz.f9 95:=⟨Tryz.func9,by kernel_rfl⟩
theorem gk {P:Program} {I:Inv} {ops:Array Oper} {W:List Nat} {MM:Mem→Prop} {K:List V→Mem→Prop} {n:Nat} {listed:Array Bool} {env:List V} {S:Mem} (i:Nat) {o:Oper} (hM:MM S) (hr:Region.ready .any ops listed=[i]) (ho:ops[i]? = some o) (hw:W.contains i=true) (h:WC P I ops o env S fun v S'=>j7 P I ops W MM K n (listed.setIfInBounds i true) (aO env o.dst v) S'):j7 P I ops W MM K (n+1) listed env S :=
 ⟨hM,fun e=>(by rw [hr] at e;cases e),fun x hx=>by
  rw [hr] at hx
  obtain rfl:=List.mem_singleton.1 hx
  exact ⟨o,ho,.inl ⟨hw,h⟩⟩⟩
theorem vB {P:Program} {I:Inv} {ops:Array Oper} {W:List Nat} {MM:Mem→Prop} {K:List V→Mem→Prop} {n:Nat} {listed:Array Bool} {env:List V} {S:Mem} (i j:Nat) {o o2:Oper} (hM:MM S) (hr:Region.ready .any ops listed=[i,j]) (ho:ops[i]? = some o) (ho2:ops[j]? = some o2) (hw:W.contains i=true) (U2:W.contains j=true) (h:WC P I ops o env S fun v S'=>j7 P I ops W MM K n (listed.setIfInBounds i true) (aO env o.dst v) S') (h2:WC P I ops o2 env S fun v S'=>j7 P I ops W MM K n (listed.setIfInBounds j true) (aO env o2.dst v) S'):j7 P I ops W MM K (n+1) listed env S :=
 ⟨hM,fun e=>(by rw [hr] at e;cases e),fun x hx=>by
  rw [hr] at hx
  simp only [List.mem_cons,List.not_mem_nil,or_false] at hx
  rcases hx with rfl | rfl
  ·exact ⟨o,ho,.inl ⟨hw,h⟩⟩
  ·exact ⟨o2,ho2,.inl ⟨U2,h2⟩⟩⟩
theorem sX {P:Program} {I:Inv} {ops:Array Oper} {o:Oper} {env:List V} {S:Mem} {K:V→Mem→Prop} {q:Call} {f:Operand} {g:FuncId} {args:List V} {Q:V→Mem→Prop} (hg:o.guard=none) (h1:o.op = .call q) (h2:q.callee = .value f) (h3:ai I env f = .func g [] []) (h4:q.args.toList.map (ai I env)=args) (cm:∃ v S',Q v S') (h:aF P I g args S Q) (hk:∀ v S',Q v S'→K v S'):WC P I ops o env S K :=
 ⟨Q,cm,.inl ⟨.inl hg,.inr (.inl ⟨q,f,g,[],[],h1,h2,h3,by rw [h4];simpa using h⟩)⟩,hk⟩
theorem qf {P:Program} {ev:Operand→V} {S:Mem} {N q:Nat} {Y:List V} {v:V} {o:Op} {t:TypeId} {a:Operand} {ti:tq} (hS:S.boxes[N]? = some Y) (lP:o = .load t a) (ht:bD P t=some ti) (V3:ti.agg=false) (ha:ev a = .ptr N q) (hv:Y[q]? = some v):cU P ev S o=some (v,S):=by
 subst lP
 show still S (ff P S t (ev a))=_
 rw [ha]
 simp [ff,ht,hS,oD,V3,hv,still]
theorem Sr:bD Tryz.prog 22=some ⟨.slice 67,1,24,false,[.sl [] .full]⟩:=by kernel_rfl
theorem IF:bD Tryz.prog 23=some ⟨.slice 41,1,24,false,[.sl [] .full]⟩:=by kernel_rfl
theorem XR:bD Tryz.prog 25=some ⟨.struct [(0,1),(1,1)],2,48,true,[.sl [] .full,.sl [] .full]⟩:=by kernel_rfl
theorem kK {ev:Operand→V} {S:Mem} {v1 v2:V} {o:Op} {a b:Operand} (lP:o = .build 25 #[(0,a),(1,b)]) (ha:ev a=v1) (hb:ev b=v2) (c1:fG v1=some [v1]) (c2:fG v2=some [v2]):cU Tryz.prog ev S o=some (.agg [v1,v2],S):=by
 subst lP
 show still S (pO Tryz.prog 25 [(0,ev a),(1,ev b)])=_
 rw [ha,hb]
 simp [pO,XR,qx,c1,c2,still]
theorem kL {ev:Operand→V} {M:List (List V)} {T:List (Nat × Nat)} {j:Nat} {v1 v2 u1 u2:V} {o:Op} {a x:Operand} (lP:o = .store 25 a x) (ha:ev a = .ptr j 0) (hx:ev x = .agg [v1,v2]) (hM:M[j]? = some [u1,u2]):cU Tryz.prog ev ⟨M,T⟩ o=some (.undef,⟨M.set j [v1,v2],T⟩):=by
 subst lP
 show nk Tryz.prog ⟨M,T⟩ 25 (ev a) (ev x)=_
 rw [ha,hx]
 simp [nk,XR,fG,hM]
def gm (su:List cG) (fu:List cn) (f:cn):Option cn :=
 match bU su fu f.results f.body f.params with
 | some b=>if dV f.body=true then some ⟨f.name,f.params,f.results,b⟩ else none
 | none=>none
def fY (rb:Bool) (p:kW):kW × Int :=
 if rb=true then (if lG p.structs p.funcs=true then (match p.funcs.mapM (gm p.structs p.funcs) with
  | some fs=>(⟨p.structs,fs⟩,0)
  | none=>(⟨[],[]⟩,52)) else (⟨[],[]⟩,52)) else (⟨[],[]⟩,2)
def Zg (p:kW) (M:List (List V)) (a:Nat) (v2:V) (M':List (List V)):Prop :=
 M.length≤a∧(∀ k,k < M.length→M'[k]? = M[k]?)∧M'[a]? = some [.d (.sl (p.structs.map ef)),v2] ∧
  ((p.funcs=[]∧v2 = .d (.sl [])∧M'.length=M.length+1)∨(p.funcs ≠ []∧∃ b cap J,v2 = .bx b p.funcs.length cap∧M.length≤b∧b ≠ a∧M'[b]? = some ((p.funcs.map cT).flatten.map V.d++J)∧M'.length=M.length+2))
theorem Rh {p:kW} {M M2:List (List V)} {v2 u1 u2:V} (l2:M.length≤M2.length) (p2:∀ k,k < M.length→M2[k]? = M[k]?)
 (d2:(p.funcs.map cT=[]∧v2 = .d (.sl [])∧M2=M)∨(p.funcs.map cT ≠ []∧∃ cap J,v2 = .bx M.length (p.funcs.map cT).length cap∧M2=M++[(p.funcs.map cT).flatten.map V.d++J])):Zg p M M2.length v2 ((M2++[[u1,u2]]).set M2.length [.d (.sl (p.structs.map ef)),v2]):=by
 refine ⟨l2,fun k hk=>?_,?_,?_⟩
 ·rw [List.getElem?_set_ne (by omega),ah (by omega),p2 k hk]
 ·rw [List.getElem?_set_self (by simp)]
 ·rcases d2 with ⟨h0,rfl,rfl⟩ | ⟨h0,cap,J,rfl,rfl⟩
  ·exact .inl ⟨by simpa using h0,rfl,by simp⟩
  ·rw [List.length_map]
   refine .inr ⟨fun e=>h0 (by rw [e];rfl),M.length,cap,J,rfl,Nat.le_refl _,by simp,?_,by simp⟩
   rw [List.getElem?_set_ne (by simp),ah (by simp),cL rfl]
   rfl
theorem IG {p:kW} {M M2:List (List V)} {v2 u1 u2:V} (l2:(M++[[u1,u2]]).length≤M2.length) (p2:∀ k,k < (M++[[u1,u2]]).length→M2[k]? = (M++[[u1,u2]])[k]?)
 (d2:(p.funcs.map cT=[]∧v2 = .d (.sl [])∧M2=M++[[u1,u2]])∨(p.funcs.map cT ≠ []∧∃ cap J,v2 = .bx (M++[[u1,u2]]).length (p.funcs.map cT).length cap∧M2=(M++[[u1,u2]])++[(p.funcs.map cT).flatten.map V.d++J])):Zg p M M.length v2 (M2.set M.length [.d (.sl (p.structs.map ef)),v2]):=by
 have hl:(M++[[u1,u2]]).length=M.length+1:=by simp
 refine ⟨Nat.le_refl _,fun k hk=>?_,?_,?_⟩
 ·rw [List.getElem?_set_ne (by omega),p2 k (by omega),ah hk]
 ·rw [List.getElem?_set_self (by omega)]
 ·rcases d2 with ⟨h0,rfl,rfl⟩ | ⟨h0,cap,J,rfl,rfl⟩
  ·exact .inl ⟨by simpa using h0,rfl,by simp⟩
  ·rw [List.length_map]
   refine .inr ⟨fun e=>h0 (by rw [e];rfl),_,cap,J,rfl,by omega,by omega,?_,by simp⟩
   rw [List.getElem?_set_ne (by omega),cL rfl]
   rfl
section
variable {p:kW} {T:List (Nat × Nat)} {z:Nat × Nat} {k:List Item} {R:V→Mem→Prop}
set_option maxHeartbeats 4000000 in
theorem BL {N:Nat} {M:List (List V)} (Vs:p.structs.length≤60000) (Uw:p.funcs.length≤60000) (hM:M[N]? = some [V.d (.sl (p.structs.map ef)),V.d (.sl (p.funcs.map cT))])
 (rest:∀ a v2 M',Zg p M a v2 M'→af Tryz.prog av z 9 k (aR 95 [(5,.ptr a 0),(4,.ptr (N+4) 0),(2,.ptr (N+1) 0)]) ⟨M',T⟩ R) :
 af Tryz.prog av z 9 (.code (.region 6 (opsOf (kF Tryz.f9 21)) true) :: k) (aR 95 [(4,.ptr (N+4) 0),(2,.ptr (N+1) 0),(1,.ptr N 0)]) ⟨M,T⟩ R:=by
 have dJ:(opsOf (kF Tryz.f9 21)).size=9:=by kernel_rfl
 have oV:∀ r∈p.funcs.map cT,r.length=4:=by intro r hr;obtain ⟨x,_,rfl⟩:=List.mem_map.1 hr;rfl
 have Ce:=fun M=>GO (p.funcs.map cT) oV (by rw [List.length_map];omega) M T
 have OM:N < M.length:=(List.getElem?_eq_some_iff.1 hM).1
 have fin:∀ a v2 M' env,Go.Ab.gO (aR 95 [(5,.ptr a 0),(4,.ptr (N+4) 0),(2,.ptr (N+1) 0)]) env→Zg p M a v2 M'→af Tryz.prog av z 9 k env ⟨M',T⟩ R:=fun a v2 M' env he h=>af.fV he (rest a v2 M' h)
 refine af.Sq [2,5,7,8] (fun S=>S.boxes[N]? = some [V.d (.sl (p.structs.map ef)),V.d (.sl (p.funcs.map cT))]) (by kernel_rfl) ?_
 rw [dJ]
 refine gA 0 (v:=.ptr N 0) (oi:=bh (opsOf (kF Tryz.f9 21)) 0) (by kernel_rfl) (by rfl) (by kernel_rfl) (by kernel_rfl) (by kernel_rfl) (fun S hS=>by kernel_rfl) ?_
 refine gA 1 (v:=.d (.sl (p.structs.map ef))) (oi:=bh (opsOf (kF Tryz.f9 21)) 1) (by kernel_rfl) (by rfl) (by kernel_rfl) (by kernel_rfl) (by kernel_rfl) (fun S hS=>qf (q:=0) (a:=.tmp 23) hS (by kernel_rfl) Sr rfl (by kernel_rfl) rfl) ?_
 refine gA 3 (v:=.ptr N 1) (oi:=bh (opsOf (kF Tryz.f9 21)) 3) (by kernel_rfl) (by rfl) (by kernel_rfl) (by kernel_rfl) (by kernel_rfl) (fun S hS=>by kernel_rfl) ?_
 refine gA 4 (v:=.d (.sl (p.funcs.map cT))) (oi:=bh (opsOf (kF Tryz.f9 21)) 4) (by kernel_rfl) (by rfl) (by kernel_rfl) (by kernel_rfl) (by kernel_rfl) (fun S hS=>qf (q:=1) (a:=.tmp 26) hS (by kernel_rfl) IF rfl (by kernel_rfl) rfl) ?_
 have hz:(M++[[V.sl [] .full,.sl [] .full]])[N]? = some [V.d (.sl (p.structs.map ef)),V.d (.sl (p.funcs.map cT))]:=(ah OM).trans hM
 have Zy:(M++[[V.sl [] .full,.sl [] .full]]).length=M.length+1:=by simp
 have hzM:(M++[[V.sl [] .full,.sl [] .full]])[M.length]? = some [V.sl [] .full,.sl [] .full]:=cL rfl
 refine vB 2 7 (o:=bh (opsOf (kF Tryz.f9 21)) 2) (o2:=bh (opsOf (kF Tryz.f9 21)) 7) hM (by kernel_rfl) (by kernel_rfl) (by kernel_rfl) (by rfl) (by rfl) ?_ ?_
 ·refine sX (by kernel_rfl) (q:=⟨.value (.func 24),#[.tmp 24],#[22]⟩) (by kernel_rfl) rfl (by rfl) (by kernel_rfl) ⟨_,_,rfl,rfl⟩ (uO Vs _ T) ?_
  rintro _ _ ⟨rfl,rfl⟩
  refine vB 5 7 (o:=bh (opsOf (kF Tryz.f9 21)) 5) (o2:=bh (opsOf (kF Tryz.f9 21)) 7) hM (by kernel_rfl) (by kernel_rfl) (by kernel_rfl) (by rfl) (by rfl) ?_ ?_
  ·refine sX (by kernel_rfl) (q:=⟨.value (.func 25),#[.tmp 27],#[23]⟩) (by kernel_rfl) rfl (by rfl) (by kernel_rfl) (jH.ne _ _ _ _ (by rw [List.length_map];omega)) (Ce M) ?_
   intro v2 S' hv
   obtain ⟨M2,rfl,l2,p2,c2,d2⟩:=hv.split
   refine gA 6 (v:=.agg [.d (.sl (p.structs.map ef)),v2]) (oi:=bh (opsOf (kF Tryz.f9 21)) 6) (by kernel_rfl) (by rfl) (by kernel_rfl) (by kernel_rfl) (by kernel_rfl) (fun S hS=>kK (a:=.tmp 25) (b:=.tmp 28) (by kernel_rfl) (by kernel_rfl) (by kernel_rfl) rfl c2) ?_
   have h2:M2[N]? = some [V.d (.sl (p.structs.map ef)),V.d (.sl (p.funcs.map cT))]:=(p2 N OM).trans hM
   refine gk 7 (o:=bh (opsOf (kF Tryz.f9 21)) 7) h2 (by kernel_rfl) (by kernel_rfl) (by rfl) (jN (v:=.ptr M2.length 0) (S':=⟨M2++[[.sl [] .full,.sl [] .full]],T⟩) (by kernel_rfl) (by kernel_rfl) ?_)
   refine gk 8 (o:=bh (opsOf (kF Tryz.f9 21)) 8) ((ah (by omega)).trans h2) (by kernel_rfl) (by kernel_rfl) (by rfl) (jN (v:=.undef) (S':=⟨(M2++[[V.sl [] .full,.sl [] .full]]).set M2.length [.d (.sl (p.structs.map ef)),v2],T⟩) (by kernel_rfl) (kL (a:=.tmp 5) (x:=.tmp 29) (by kernel_rfl) (by kernel_rfl) (by kernel_rfl) (cL rfl)) ?_)
   refine ⟨?_,by kernel_rfl,fin _ _ _ _ ?_ (Rh l2 p2 d2)⟩
   ·show ((M2++[[V.sl [] .full,.sl [] .full]]).set M2.length [.d (.sl (p.structs.map ef)),v2])[N]? = _
    rw [List.getElem?_set_ne (by omega),ah (by omega),h2]
   ·simp only [W,seval,c9]
    refine ay.env _ ?_
    simp only [cD,seval]
  ·refine jN (v:=.ptr M.length 0) (S':=⟨M++[[.sl [] .full,.sl [] .full]],T⟩) (by kernel_rfl) (by kernel_rfl) ?_
   refine gk 5 (o:=bh (opsOf (kF Tryz.f9 21)) 5) hz (by kernel_rfl) (by kernel_rfl) (by rfl) (sX (by kernel_rfl) (q:=⟨.value (.func 25),#[.tmp 27],#[23]⟩) (by kernel_rfl) rfl (by rfl) (by kernel_rfl) (jH.ne _ _ _ _ (by rw [List.length_map];omega)) (Ce _) ?_)
   intro v2 S' hv
   obtain ⟨M2,rfl,l2,p2,c2,d2⟩:=hv.split
   refine gA 6 (v:=.agg [.d (.sl (p.structs.map ef)),v2]) (oi:=bh (opsOf (kF Tryz.f9 21)) 6) (by kernel_rfl) (by rfl) (by kernel_rfl) (by kernel_rfl) (by kernel_rfl) (fun S hS=>kK (a:=.tmp 25) (b:=.tmp 28) (by kernel_rfl) (by kernel_rfl) (by kernel_rfl) rfl c2) ?_
   have h2:M2[N]? = some [V.d (.sl (p.structs.map ef)),V.d (.sl (p.funcs.map cT))]:=(p2 N (by omega)).trans hz
   refine gk 8 (o:=bh (opsOf (kF Tryz.f9 21)) 8) h2 (by kernel_rfl) (by kernel_rfl) (by rfl) (jN (v:=.undef) (S':=⟨M2.set M.length [.d (.sl (p.structs.map ef)),v2],T⟩) (by kernel_rfl) (kL (a:=.tmp 5) (x:=.tmp 29) (by kernel_rfl) (by kernel_rfl) (by kernel_rfl) ((p2 _ (by omega)).trans hzM)) ?_)
   refine ⟨?_,by kernel_rfl,fin _ _ _ _ ?_ (IG l2 p2 d2)⟩
   ·show (M2.set M.length [.d (.sl (p.structs.map ef)),v2])[N]? = _
    rw [List.getElem?_set_ne (by omega),h2]
   ·simp only [W,seval,c9]
    refine ay.env _ ?_
    simp only [cD,seval]
 ·refine jN (v:=.ptr M.length 0) (S':=⟨M++[[.sl [] .full,.sl [] .full]],T⟩) (by kernel_rfl) (by kernel_rfl) ?_
  refine gk 2 (o:=bh (opsOf (kF Tryz.f9 21)) 2) hz (by kernel_rfl) (by kernel_rfl) (by rfl) (sX (by kernel_rfl) (q:=⟨.value (.func 24),#[.tmp 24],#[22]⟩) (by kernel_rfl) rfl (by rfl) (by kernel_rfl) ⟨_,_,rfl,rfl⟩ (uO Vs _ T) ?_)
  rintro _ _ ⟨rfl,rfl⟩
  refine gk 5 (o:=bh (opsOf (kF Tryz.f9 21)) 5) hz (by kernel_rfl) (by kernel_rfl) (by rfl) (sX (by kernel_rfl) (q:=⟨.value (.func 25),#[.tmp 27],#[23]⟩) (by kernel_rfl) rfl (by rfl) (by kernel_rfl) (jH.ne _ _ _ _ (by rw [List.length_map];omega)) (Ce _) ?_)
  intro v2 S' hv
  obtain ⟨M2,rfl,l2,p2,c2,d2⟩:=hv.split
  refine gA 6 (v:=.agg [.d (.sl (p.structs.map ef)),v2]) (oi:=bh (opsOf (kF Tryz.f9 21)) 6) (by kernel_rfl) (by rfl) (by kernel_rfl) (by kernel_rfl) (by kernel_rfl) (fun S hS=>kK (a:=.tmp 25) (b:=.tmp 28) (by kernel_rfl) (by kernel_rfl) (by kernel_rfl) rfl c2) ?_
  have h2:M2[N]? = some [V.d (.sl (p.structs.map ef)),V.d (.sl (p.funcs.map cT))]:=(p2 N (by omega)).trans hz
  refine gk 8 (o:=bh (opsOf (kF Tryz.f9 21)) 8) h2 (by kernel_rfl) (by kernel_rfl) (by rfl) (jN (v:=.undef) (S':=⟨M2.set M.length [.d (.sl (p.structs.map ef)),v2],T⟩) (by kernel_rfl) (kL (a:=.tmp 5) (x:=.tmp 29) (by kernel_rfl) (by kernel_rfl) (by kernel_rfl) ((p2 _ (by omega)).trans hzM)) ?_)
  refine ⟨?_,by kernel_rfl,fin _ _ _ _ ?_ (IG l2 p2 d2)⟩
  ·show (M2.set M.length [.d (.sl (p.structs.map ef)),v2])[N]? = _
   rw [List.getElem?_set_ne (by omega),h2]
  ·simp only [W,seval,c9]
   refine ay.env _ ?_
   simp only [cD,seval]
end
def oa (f:cn) (v:V):List V:=[.d (.str f.name),.d (.sl (f.params.map gf)),.d (.sl (f.results.map dR)),v]
def yZ (B:List (List V)) (f:cn) (lo hi:Nat) (r:List V):Prop:=∃ v a b,lo≤a∧b≤hi∧r=oa f v∧fS B f.body a b v
theorem yZ.frame {B B':List (List V)} {f:cn} {lo hi:Nat} {r:List V} (h:yZ B f lo hi r) (he:∀ i,lo≤i→i < hi→B'[i]? = B[i]?):yZ B' f lo hi r:=by
 obtain ⟨v,a,b,h1,h2,h3,h4⟩:=h
 exact ⟨v,a,b,h1,h2,h3,h4.frame fun i _ _=>he i (by omega) (by omega)⟩
theorem yZ.deep {n:Nat} {B:List (List V)} {x:cn} {lo hi:Nat} {r:List V} (hn:n≤lo) (h:yZ B x lo hi r):∀ q (hq:q < (cT x).length) u,r[q]? = some u→Deep n B u (cT x)[q]:=by
 obtain ⟨v,a,b,h1,h2,rfl,h4⟩:=h
 have h3:=h4.deep (n:=n) (by omega)
 intro q hq u hu
 have hq4:q < 4:=hq
 rcases q with _ | _ | _ | _ | q
 all_goals first
  | omega
  | (simp only [oa,List.getElem?_cons_zero,List.getElem?_cons_succ,Option.some.injEq] at hu
     subst hu
     first
      | exact .d _
      | exact h3)
theorem II {X A C:List V} {f:cn} {v:V} {a:Nat} (hX:X=A++oa f v++C) (ha:A.length=a) :
 X[a+1]? = some (.d (.sl (f.params.map gf)))∧X[a+2]? = some (.d (.sl (f.results.map dR)))∧X[a+3]? = some v∧a+4≤X.length∧∀ u,X.take (a+3)++u :: X.drop (a+3+1)=A++oa f u++C:=by
 have e:X=A++(oa f v++C):=by rw [hX,List.append_assoc]
 have g:∀ q,X[a+q]? = (oa f v++C)[q]?:=fun q=>by rw [e,List.getElem?_append_right (by omega)];congr 1;omega
 refine ⟨g 1,g 2,g 3,?_,fun u=>?_⟩
 ·rw [e,List.length_append,List.length_append,ha];show a+4≤a+(4+C.length);omega
 ·rw [e,List.take_append,List.take_of_length_le (by omega),List.drop_append,List.drop_of_length_le (by omega),List.nil_append,show a+3 - A.length=3 by omega,show a+3+1 - A.length=4 by omega,List.append_assoc,List.append_assoc]
  rfl
theorem Ri (f:cn):(cT f).map V.d=oa f (.d (.sl (f.body.map dZ))):=rfl
theorem KO {α β:Type} (g:α→Option β) (x:α) (l:List α) (fs:List β):((x :: l).mapM g).map (fs++·)=match g x with
 | some y=>(l.mapM g).map ((fs++[y])++·)
 | none=>none:=by
 rw [List.mapM_cons]
 cases g x with
 | none=>rfl
 | some y =>
  cases l.mapM g with
  | none=>rfl
  | some ys=>simp
structure Ux where
 i:Nat
 fs:List cn
 Y:List V
 B:List (List V)
structure abw (p:kW) (M0:List (List V)) (N b:Nat) (qu:List V) (s:Ux):Prop where
 le:s.i≤p.funcs.length
 res:p.funcs.mapM (gm p.structs p.funcs)=((p.funcs.drop s.i).mapM (gm p.structs p.funcs)).map (s.fs++·)
 fl:s.fs.length=s.i
 yl:s.Y.length=s.i * 4
 bl:M0.length≤s.B.length
 old:∀ k,k < M0.length→k ≠ b→k ≠ N+4→s.B[k]? = M0[k]?
 cb:∃ xx yy,s.B[N+4]? = some [.mp (N+2),.mp (N+3),xx,yy]
 row:s.B[b]? = some (s.Y++(((p.funcs.drop s.i).map cT).flatten.map V.d++qu))
 own:bV 4 (yZ s.B) s.fs (b+1) s.B.length s.Y
structure abx (ps:List bH) (M0:List (List V)) (w:Nat) (s:Nat × List (List V)):Prop where
 le:s.1≤ps.length
 bl:M0.length≤s.2.length
 old:∀ k,k < M0.length→k ≠ w→s.2[k]? = M0[k]?
 vm:s.2[w]? = some (qH (ps.take s.1))
structure FnG (su:List cG) (fu:List cn) (f:cn):Prop where
 bl:QU su fu f.results f.body
 st:KH f.body
 nw:E5 fun B lo hi v=>fS B f.body lo hi v
 en:∀ l,gr l=gr f.body→GJ l
 pn:∀ i (h:i < f.params.length),eW bH.name (f.params.take i) (f.params[i]).name=none
 pl:f.params.length≤60000
 pt:∀ p∈f.params,TW p.type
 sh:∀ s∈f.body,En s
 sl:f.body.length≤60000
section
variable {B:List (List V)} {T:List (Nat × Nat)}
set_option maxHeartbeats 16000000 in
theorem xK {p:kW} {rb:Bool} (hT:rb=true→og p.structs p.funcs) (hF:rb=true→∀ f∈p.funcs,FnG p.structs p.funcs f) (hrg:∀ B T,aF Tryz.prog av 16 [ju p] ⟨B,T⟩ (aB (.d (.bool rb)) ⟨B,T⟩)):aF Tryz.prog av 9 [ju p] ⟨B,T⟩ (aB (.bY [ju (fY rb p).1,.d (.int .i64 (fY rb p).2)]) ⟨B,T⟩):=by
 obtain ⟨N,hn⟩:∃ N,B.length=N:=⟨_,rfl⟩
 generalize bR:fY rb p=r
 unfold fY at bR
 unfold ju at hrg
 refine aF.XP (aF.uM (body:=(kF Tryz.f9 0)) 95 Tryz.func9 (by kernel_rfl) (by kernel_rfl) (by kernel_rfl) (Nat.le_of_ble_eq_true rfl) ?_)
 have exit:∀ (M1:List (List V)) (v1 v2:V) (d1 d2:D) (y:Int),(∀ k,k < N→M1[k]? = B[k]?)→Deep N M1 v1 d1→Deep N M1 v2 d2→d1 = .sl (r.1.structs.map ef)→d2 = .sl (r.1.funcs.map cT)→y=r.2→∃ L J2 T2 K w1 w2 e1 e2 y2,(⟨M1,T⟩:Mem)=⟨L++J2,T2++K⟩∧L.length=N∧T2.length=T.length∧AL N T.length B L∧V.bY [.agg [v1,v2],.d (.int .i64 y)]=V.bY [.agg [w1,w2],.d y2]∧Deep N (L++J2) w1 e1∧Deep N (L++J2) w2 e2∧aB (.bY [ju r.1,.d (.int .i64 r.2)]) ⟨B,T⟩ (.bY [.agg [.d e1,.d e2],.d y2]) ⟨L,T2⟩:=fun M1 v1 v2 d1 d2 y h0 h1 h2 h3 h4 h5=>by
  obtain ⟨J,rfl⟩:∃ J,M1=B++J:=⟨_,ID fun k hk=>h0 k (by omega)⟩
  exact ⟨B,J,T,[],v1,v2,d1,d2,.int .i64 y,by rw [List.append_nil],hn,rfl,hn ▸ (qU.refl _ _ _).cells,rfl,h1,h2,by rw [h3,h4,h5];exact ⟨rfl,rfl⟩⟩
 have bad:∀ (M1:List (List V)) (y:Int),(∀ k,k < N→M1[k]? = B[k]?)→r=(⟨[],[]⟩,y)→∃ L J2 T2 K w1 w2 e1 e2 y2,(⟨M1,T⟩:Mem)=⟨L++J2,T2++K⟩∧L.length=N∧T2.length=T.length∧AL N T.length B L∧V.bY [.agg [.sl [] .full,.sl [] .full],.d (.int .i64 y)]=V.bY [.agg [w1,w2],.d y2]∧Deep N (L++J2) w1 e1∧Deep N (L++J2) w2 e2∧aB (.bY [ju r.1,.d (.int .i64 r.2)]) ⟨B,T⟩ (.bY [.agg [.d e1,.d e2],.d y2]) ⟨L,T2⟩:=fun M1 y h0 h =>
  exit M1 _ _ (.sl []) (.sl []) y h0 (.full []) (.full []) (by rw [h];rfl) (by rw [h];rfl) (by rw [h])
 refine af.go 160 ?_
 unfold ju
 simp only [W,seval,c9,hn]
 refine ag (hrg _ _) ?_
 rintro _ _ ⟨rfl,rfl⟩
 cases rb
 ·refine af.go 60 ?_
  simp only [W,seval,c9,hn]
  refine cH (v:=?_) (u:=?_) Tryz.func9 (by rfl) ?_ ?_ ?_
  rotate_left 2
  ·try simp only [W,seval,c9,hn]
   exact rfl
  ·try simp only [W,seval,c9,hn]
   exact rfl
  refine bad _ 2 (fun k hk=>ah (by omega)) ?_
  exact bR.symm
 rw [if_pos rfl] at bR
 replace hT:=hT rfl
 replace hF:=hF rfl
 have hhd:=fun (B:List (List V)) c s f xx yy h cm=>@NW c s f xx yy B T p.structs p.funcs hT h cm
 unfold ju at hhd
 have hhe:=hhd (B++[[V.d (.sl (p.structs.map ef)),V.d (.sl (p.funcs.map cT))],[V.sl [] .full,V.sl [] .full],[.oy [] []],[.oy [] []],[.mp (N+2),.mp (N+3),.undef,.sl [] .full]]) (N+4) (N+2) (N+3) .undef (.sl [] .full) ⟨by rw [dF hn];rfl,by rw [dF hn];rfl,by rw [dF hn];rfl⟩ ⟨by omega,by omega,by omega⟩
 clear hhd hrg
 refine af.go 160 ?_
 simp only [W,seval,c9,ov,hn]
 refine ag hhe ?_
 rintro _ _ ⟨rfl,BI,BK,rfl,hsf⟩
 have kS:((B++[[V.d (.sl (p.structs.map ef)),V.d (.sl (p.funcs.map cT))],[V.sl [] .full,V.sl [] .full],[.oy [] []],[.oy [] []],[.mp (N+2),.mp (N+3),.undef,.sl [] .full]]).set (N+2) (oh BI)).set (N+3) (om BK)=B++[[V.d (.sl (p.structs.map ef)),V.d (.sl (p.funcs.map cT))],[V.sl [] .full,V.sl [] .full],oh BI,om BK,[.mp (N+2),.mp (N+3),.undef,.sl [] .full]]:=by
  rw [List.set_append_right _ _ (by omega),List.set_append_right _ _ (by omega),hn,show N+2 - N=2 by omega,show N+3 - N=3 by omega]
  rfl
 rw [kS]
 clear kS hhe
 cases hh:lG p.structs p.funcs
 ·rw [hh,if_neg (by decide)] at bR
  refine af.go 60 ?_
  simp only [W,seval,c9,hn]
  refine cH (v:=?_) (u:=?_) Tryz.func9 (by rfl) ?_ ?_ ?_
  rotate_left 2
  ·try simp only [W,seval,c9,hn]
   exact rfl
  ·try simp only [W,seval,c9,hn]
   exact rfl
  refine bad _ 52 (fun k hk=>ah (by omega)) ?_
  exact bR.symm
 obtain ⟨rfl,rfl⟩:=hsf hh
 rw [hh,if_pos rfl] at bR
 refine af.go 60 ?_
 simp only [W,seval,c9,hn]
 obtain ⟨M,hM⟩:∃ M,M=B++[[V.d (.sl (p.structs.map ef)),V.d (.sl (p.funcs.map cT))],[V.sl [] .full,V.sl [] .full],oh p.structs,om p.funcs,[.mp (N+2),.mp (N+3),.undef,.sl [] .full]]:=⟨_,rfl⟩
 have hML:M.length=N+5:=by rw [hM];simp [hn]
 have mN:M[N]? = some [V.d (.sl (p.structs.map ef)),V.d (.sl (p.funcs.map cT))]:=by rw [hM,cL hn];rfl
 have m1:M[N+1]? = some [V.sl [] .full,V.sl [] .full]:=by rw [hM,dF hn];rfl
 have m2:M[N+2]? = some (oh p.structs):=by rw [hM,dF hn];rfl
 have m3:M[N+3]? = some (om p.funcs):=by rw [hM,dF hn];rfl
 have m4:M[N+4]? = some [.mp (N+2),.mp (N+3),.undef,.sl [] .full]:=by rw [hM,dF hn];rfl
 have m0:∀ k,k < N→M[k]? = B[k]?:=fun k hk=>by rw [hM];exact ah (by omega)
 rw [← hM]
 clear hM
 have zv:=fun h=>BL (z:=(N,T.length)) (k:=[.code (kF Tryz.f9 22)]) (T:=T) (R:=fun v S'=>∃ L J T2 K v1 v2 d1 d2 y,S' = ⟨L++J,T2++K⟩∧L.length=N∧T2.length=T.length∧AL N T.length B L∧v=V.bY [.agg [v1,v2],.d y]∧Deep N (L++J) v1 d1∧Deep N (L++J) v2 d2∧aB (.bY [.agg [.d (.sl (r.1.structs.map ef)),.d (.sl (r.1.funcs.map cT))],.d (.int .i64 r.2)]) ⟨B,T⟩ (.bY [.agg [.d d1,.d d2],.d y]) ⟨L,T2⟩) (N:=N) (M:=M) hT.su hT.fu mN h
 refine af.fV ?_ (zv ?_)
 ·skip
  refine ay.env _ ?_
  simp only [cD,seval]
 rintro a v2 M0 ⟨c1,c2,c3,c4⟩
 have ha:a < M0.length:=(List.getElem?_eq_some_iff.1 c3).1
 have k1:M0[N+1]? = some [V.sl [] .full,V.sl [] .full]:=(c2 _ (by omega)).trans m1
 have k2:M0[N+2]? = some (oh p.structs):=(c2 _ (by omega)).trans m2
 have k3:M0[N+3]? = some (om p.funcs):=(c2 _ (by omega)).trans m3
 have k4:M0[N+4]? = some [.mp (N+2),.mp (N+3),.undef,.sl [] .full]:=(c2 _ (by omega)).trans m4
 have k0:∀ k,k < N→M0[k]? = B[k]?:=fun k hk=>(c2 k (by omega)).trans (m0 k hk)
 clear m0 m1 m2 m3 m4 c2 zv mN hh
 have lN1:N+1 < M0.length:=(List.getElem?_eq_some_iff.1 k1).1
 rcases c4 with ⟨h0,rfl,c5⟩ | ⟨h0,b,cap,J,rfl,c5,c6,c7,c8⟩
 ·rw [h0] at bR
  refine af.go 160 ?_
  simp only [W,seval,c9,c3,k1]
  refine af.cV (fun _:Unit=>(aR 95 [(33,.d (.int .i64 0)),(32,.d (.int .i64 0)),(5,.ptr a 0),(2,.ptr (N+1) 0)],⟨M0,T⟩)) (fun _=>True) (fun _=>0) () trivial ?_ rfl ?_
  ·skip
   refine ay.env _ ?_
   simp only [cD,seval]
  intro _ _ _
  refine af.go 160 ?_
  simp only [W,seval,c9,decide_eq_false (show ¬ ((0:Int) < 0) by decide),c3,k1]
  have hr:r=(⟨p.structs,[]⟩,0):=by rw [← bR];rfl
  have s1:∀ X,(M0.set (N+1) X)[N+1]? = some X:=fun X=>List.getElem?_set_self lN1
  refine cH (v:=?_) (u:=?_) Tryz.func9 (by rfl) ?_ ?_ ?_
  rotate_left 2
  ·try simp only [W,seval,c9,s1]
   exact rfl
  ·try simp only [W,seval,c9,s1]
   exact rfl
  refine exit _ _ _ (.sl (p.structs.map ef)) (.sl []) 0 (fun k hk=>by rw [List.getElem?_set_ne (by omega),k0 k hk]) (.d _) (.d _) (by rw [hr]) (by rw [hr];rfl) ?_
  rw [hr]
 have cm:p.funcs.length ≠ 0:=fun e=>h0 (List.eq_nil_of_length_eq_zero e)
 have Uw:=hT.fu
 have lb:b < M0.length:=(List.getElem?_eq_some_iff.1 c7).1
 refine af.go 160 ?_
 simp only [W,seval,c9,iL,c3,k1]
 refine af.cV (fun s:Ux=>(aR 95 [(33,.d (.int .i64 (s.i:Int))),(32,.d (.int .i64 (p.funcs.length:Int))),(5,.ptr a 0),(4,.ptr (N+4) 0),(2,.ptr (N+1) 0)],⟨s.B,T⟩)) (abw p M0 N b J) (fun s=>p.funcs.length - s.i) ⟨0,[],[],M0⟩ ⟨Nat.zero_le _,?_,rfl,rfl,Nat.le_refl _,fun _ _ _ _=>rfl,⟨_,_,k4⟩,by simpa using c7,lb⟩ ?_ rfl ?_
 ·rw [show p.funcs.drop (Ux.mk 0 [] [] M0).i=p.funcs from rfl]
  cases p.funcs.mapM (gm p.structs p.funcs)<;>rfl
 ·skip
  refine ay.env _ ?_
  simp only [cD,seval]
 clear h0
 rintro ⟨i,fs,Y,Bi⟩ ⟨h1,h2,h3,h4,h5,h6,⟨xx,yy,h7⟩,h8,h9⟩ ih
 dsimp only at h1 h2 h3 h4 h5 h6 h7 h8 h9 ih ⊢
 have ca:Bi[a]? = some [.d (.sl (p.structs.map ef)),.bx b p.funcs.length cap]:=(h6 a ha (by omega) (by omega)).trans c3
 have q1:Bi[N+1]? = some [V.sl [] .full,V.sl [] .full]:=(h6 _ lN1 (by omega) (by omega)).trans k1
 have q0:∀ k,k < N→Bi[k]? = B[k]?:=fun k hk=>(h6 k (by omega) (by omega) (by omega)).trans (k0 k hk)
 by_cases au:i < p.funcs.length
 case neg =>
  have e2:decide ((i:Int) < (p.funcs.length:Int))=false:=decide_eq_false (by omega)
  obtain rfl:i=p.funcs.length:=by omega
  have hr:r=(⟨p.structs,fs⟩,0):=by
   rw [← bR,h2,List.drop_length]
   simp
  refine af.go 160 ?_
  simp only [W,seval,c9,e2,ca,q1]
  have s1:∀ X,(Bi.set (N+1) X)[N+1]? = some X:=fun X=>List.getElem?_set_self (by omega)
  have hd:∀ X,Deep N (Bi.set (N+1) X) (.bx b p.funcs.length cap) (.sl (fs.map cT)):=fun X=>by
   rw [← h3]
   refine lg.deep (sz:=4) (f:=yZ (Bi.set (N+1) X)) (g:=cT) (l:=fs) (lo:=b) (hi:=Bi.length) (by omega) (.inr ⟨by omega,b,cap,_,rfl,Nat.le_refl _,by omega,(List.getElem?_set_ne (by omega)).trans h8,?_⟩) (by omega) (fun x _=>rfl) (fun x _ a z r ha hf=>yZ.deep ha hf)
   exact (h9.tail _).congr fun x _ a z r ha hz hf=>hf.frame fun k _ _=>List.getElem?_set_ne (by omega)
  refine cH (v:=?_) (u:=?_) Tryz.func9 (by rfl) ?_ ?_ ?_
  rotate_left 2
  ·try simp only [W,seval,c9,s1]
   exact rfl
  ·try simp only [W,seval,c9,s1]
   exact rfl
  refine exit _ _ _ (.sl (p.structs.map ef)) (.sl (fs.map cT)) 0 (fun k hk=>by rw [List.getElem?_set_ne (by omega),q0 k hk]) (.d _) (hd _) (by rw [hr]) (by rw [hr]) ?_
  rw [hr]
 have e2:decide ((i:Int) < (p.funcs.length:Int))=true:=decide_eq_true (by omega)
 have oO:=az ((i:Int)+1) (by omega)
 have mE:(i:Int) < (p.funcs.length:Int):=by omega
 obtain ⟨f,hf⟩:∃ f,p.funcs[i]=f:=⟨_,rfl⟩
 obtain ⟨g1,g2,g3,g4,g5,g6,g7,_,_⟩:=hF f (hf ▸ List.getElem_mem au)
 rw [List.drop_eq_getElem_cons au,hf,List.map_cons,List.flatten_cons,List.map_append,Ri,List.append_assoc,← List.append_assoc] at h8
 rw [List.drop_eq_getElem_cons au,hf,KO] at h2
 obtain ⟨C,hC⟩:∃ C,C=((p.funcs.drop (i+1)).map cT).flatten.map V.d++J:=⟨_,rfl⟩
 rw [← hC] at h8
 obtain ⟨Z,hZ⟩:∃ Z,Z=Y++oa f (.d (.sl (f.body.map dZ)))++C:=⟨_,rfl⟩
 rw [← hZ] at h8
 obtain ⟨x1,x2,x3,x4,x5⟩:=II hZ h4
 refine af.go 160 ?_
 simp only [W,seval,c9,iL,e2,mE,ca,h8,x3,x4]
 refine ag (g2 Bi T) ?_
 intro v S1 n1
 obtain ⟨M1,rfl,l1,p1,o1⟩:=n1.split
 have cv:=lg.cells o1
 have b1:M1[b]? = some Z:=(p1 b (by omega)).trans h8
 have b4:M1[N+4]? = some [.mp (N+2),.mp (N+3),xx,yy]:=(p1 _ (by omega)).trans h7
 have xv:=x5 v
 obtain ⟨Z1,Sl⟩:∃ Z1,Z1=Y++oa f v++C:=⟨_,rfl⟩
 rw [← Sl] at xv
 obtain ⟨y1,y2,y3,y4,_⟩:=II Sl h4
 have s4:(M1.set b Z1)[N+4]? = some [.mp (N+2),.mp (N+3),xx,yy]:=by rw [List.getElem?_set_ne (by omega),b4]
 have sb:(M1.set b Z1)[b]? = some Z1:=List.getElem?_set_self (by omega)
 refine af.go 4 ?_
 simp only [W,seval,c9,iL,b1,cv,xv,x4]
 obtain ⟨M2,XS⟩:∃ M2,M2=M1.set b Z1:=⟨_,rfl⟩
 rw [← XS] at s4 sb ⊢
 have l2:M2.length=M1.length:=by rw [XS,List.length_set]
 have p2:∀ k,k < Bi.length→k ≠ b→M2[k]? = Bi[k]?:=fun k hk hb=>by rw [XS,List.getElem?_set_ne (Ne.symm hb),p1 k hk]
 have o2:fS M2 f.body Bi.length M1.length v:=o1.frame fun k h1 h2=>by rw [XS];exact List.getElem?_set_ne (by omega)
 clear x1 x2 x3 x4 x5 xv hZ b1 b4 g2 g3 o1 p1 cv XS h8 h7
 have lb2:b < M2.length:=by omega
 have l4:N+4 < M2.length:=by omega
 have t4:∀ X,(M2++[X])[N+4]? = some [.mp (N+2),.mp (N+3),xx,yy]:=fun X=>(ah l4).trans s4
 have tb:∀ X,(M2++[X])[b]? = some Z1:=fun X=>(ah lb2).trans sb
 have t5:∀ X Q,((M2++[X]).set (N+4) Q)[N+4]? = some Q:=fun X Q=>List.getElem?_set_self (by rw [List.length_append];omega)
 have t6:∀ X Q,((M2++[X]).set (N+4) Q)[b]? = some Z1:=fun X Q=>(List.getElem?_set_ne (by omega)).trans (tb X)
 refine af.go 160 ?_
 simp only [W,seval,c9,ov,iL,t4,t5,t6,tb,y1,y2,y4]
 obtain ⟨w,hw⟩:∃ w,M2.length=w:=⟨_,rfl⟩
 rw [hw]
 obtain ⟨M3,Uy⟩:∃ M3,M3=(M2++[[V.oy [] []]]).set (N+4) [V.mp (N+2),V.mp (N+3),V.mp w,V.d (.sl (f.results.map dR))]:=⟨_,rfl⟩
 rw [← Uy]
 have l3:M3.length=w+1:=by rw [Uy];simp [hw]
 have p3:∀ k,k < w→k ≠ N+4→M3[k]? = M2[k]?:=fun k hk hn=>by rw [Uy,List.getElem?_set_ne (Ne.symm hn),ah (by omega)]
 have b3:M3[b]? = some Z1:=by rw [Uy];exact t6 _ _
 have K3:sD M3 (N+4) (N+2) (N+3) w ⟨p.structs,p.funcs,[]⟩ f.results:=⟨by rw [Uy];exact t5 _ _,by rw [p3 _ (by omega) (by omega),p2 _ (by omega) (by omega),h6 _ (by omega) (by omega) (by omega)];exact k2,by rw [p3 _ (by omega) (by omega),p2 _ (by omega) (by omega),h6 _ (by omega) (by omega) (by omega)];exact k3,by rw [Uy,List.getElem?_set_ne (by omega),cL hw];rfl⟩
 have o3:fS M3 f.body Bi.length M1.length v:=o2.frame fun k h1 h2=>p3 k (by omega) (by omega)
 clear t4 t5 t6 tb s4 sb o2 Uy y1 y2
 refine af.cV (fun s:Nat × List (List V)=>(aR 95 [(64,.d (.int .i64 (s.1:Int))),(63,.d (.int .i64 (f.params.length:Int))),(62,.d (.sl (f.params.map gf))),(7,.ptr b (i * 4)),(33,.d (.int .i64 (i:Int))),(32,.d (.int .i64 (p.funcs.length:Int))),(5,.ptr a 0),(4,.ptr (N+4) 0),(2,.ptr (N+1) 0)],⟨s.2,T⟩)) (abx f.params M3 w) (fun s=>f.params.length - s.1) (0,M3) ⟨Nat.zero_le _,Nat.le_refl _,fun _ _ _=>rfl,K3.w⟩ ?_ rfl ?_
 ·skip
  refine ay.env _ ?_
  simp only [cD,seval]
 rintro ⟨j,Bj⟩ ⟨i1,i2,i3,i4⟩ lM
 dsimp only at i1 i2 i3 i4 lM ⊢
 have Kj:sD Bj (N+4) (N+2) (N+3) w ⟨p.structs,p.funcs,f.params.take j⟩ f.results:=K3.vars (i3 _ (by omega) (by omega)) (i3 _ (by omega) (by omega)) (i3 _ (by omega) (by omega)) i4 rfl rfl
 by_cases l8:j < f.params.length
 case pos =>
  have e3:decide ((j:Int) < (f.params.length:Int))=true:=decide_eq_true (by omega)
  have m9:=az ((j:Int)+1) (by omega)
  have XJ:(j:Int) < (f.params.length:Int):=by omega
  have hg:=List.getElem?_eq_getElem l8
  have ry:=fun J T=>Kj.Xw (g5 j l8) (f.params[j]).type J T
  obtain ⟨q,hq⟩:∃ q,f.params[j]=q:=⟨_,rfl⟩
  rw [hq] at hg ry
  have Vo:f.params.take j++[⟨q.name,q.type⟩]=f.params.take (j+1):=by rw [List.take_succ_eq_append_getElem l8,hq]
  dsimp only at ry
  rw [Vo] at ry
  unfold aY at ry
  have hcj:=Kj.c
  unfold yO at hcj
  have h4j:N+4 < Bj.length:=by omega
  have Yr:Bj.length ≠ N+4:=by omega
  have t4:∀ X,(Bj++[X])[N+4]? = _:=fun X=>(ah h4j).trans hcj
  refine af.go 160 ?_
  simp only [W,seval,c9,iL,e3,XJ,List.getElem?_map,hg,mq]
  refine af.bE 8 [] [N+4,Bj.length] (by kernel_rfl) (by kernel_rfl) (by kernel_rfl) (by kernel_rfl) (by kernel_rfl) (by kernel_rfl) (by kernel_rfl) ?_
  simp (maxSteps:=4000000) only [W,seval,c9,xw,ov,iL,t4,ry]
  refine af.go 60 ?_
  simp only [W,seval,c9,m9]
  have Jg:w < Bj.length:=by omega
  refine lM ⟨j+1,Bj.set w (qH (f.params.take (j+1)))++[[.d (.str q.name),.d (.int .i64 q.type.kind),.d (.str q.type.name),.d (.sl (q.type.elem.map dR))]]⟩ ⟨l8,?_,fun k hk hn=>?_,?_⟩ (by dsimp only;omega) _ _ ?_ rfl
  ·show M3.length≤(_++_:List (List V)).length
   rw [List.length_append,List.length_set]
   omega
  ·show (_++_:List (List V))[k]? = _
   rw [ah (by rw [List.length_set];omega),List.getElem?_set_ne (Ne.symm hn),i3 k hk hn]
  ·show (_++_:List (List V))[w]? = _
   rw [ah (by rw [List.length_set];omega),List.getElem?_set_self Jg]
  ·skip
   refine ay.env _ ?_
   simp only [cD,seval]
 have e3:decide ((j:Int) < (f.params.length:Int))=false:=decide_eq_false (by omega)
 obtain rfl:j=f.params.length:=by omega
 rw [List.take_length] at Kj
 clear lM i4
 have bj:Bj[b]? = some Z1:=(i3 _ (by omega) (by omega)).trans b3
 have oj:fS Bj f.body Bi.length M1.length v:=o3.frame fun k _ _=>i3 k (by omega) (by omega)
 have Sj:mG Bj Bj.length (N+4) (N+2) (N+3) w ⟨p.structs,p.funcs,f.params⟩ f.results Bi.length M1.length v f.body:=⟨Kj,oj,.inl (by omega),.inl (by omega),.inl (by omega),.inr (by omega),⟨by omega,by omega,by omega⟩,⟨by omega,by omega,by omega,by omega,by omega⟩,Nat.le_refl _⟩
 have jY:=g1 f.params Bj.length (N+4) (N+2) (N+3) w Bj T Bi.length M1.length v g7 Sj
 have Rj:∀ k,k < Bi.length→k ≠ b→k ≠ N+4→Bj[k]? = Bi[k]?:=fun k a b c=>by rw [i3 k (by omega) (by omega),p3 k (by omega) c,p2 k a b]
 clear Sj o3 oj b3 K3 p3 p2
 refine af.go 160 ?_
 simp only [W,seval,c9,iL,e3,bj,y3,y4]
 refine ag jY ?_
 rintro _ _ ⟨B4,rfl,⟨d1,d2,d3⟩,rfl⟩
 have dk:∀ k,k < Bi.length→B4[k]? = Bj[k]?:=fun k hk=>d1.2.1 k (by omega) (by omega) (by omega) (.inl hk)
 have b4:B4[b]? = some Z1:=(dk b (by omega)).trans bj
 have z1:B4[N+1]? = some [V.sl [] .full,V.sl [] .full]:=by rw [dk _ (by omega),Rj _ (by omega) (by omega) (by omega)];exact q1
 have s1:∀ X,(B4.set (N+1) X)[N+1]? = some X:=fun X=>List.getElem?_set_self (by omega)
 have tJ:∀ X k,k < N→(B4.set (N+1) X)[k]? = B[k]?:=fun X k hk=>by rw [List.getElem?_set_ne (by omega),dk k (by omega),Rj k (by omega) (by omega) (by omega),q0 k hk]
 clear jY bj
 have XO:∀ x,bU p.structs p.funcs f.results f.body f.params=x→gm p.structs p.funcs f=(match x with
  | some b=>if dV f.body=true then some ⟨f.name,f.params,f.results,b⟩ else none
  | none=>none):=fun x hx=>by rw [← hx];rfl
 obtain ⟨rb,hrb⟩:∃ x,bU p.structs p.funcs f.results f.body f.params=x:=⟨_,rfl⟩
 rw [hrb] at d3 ⊢
 rw [XO _ hrb] at h2
 clear XO
 cases rb with
 | none =>
  have hr:r=(⟨[],[]⟩,52):=by rw [← bR,h2]
  refine af.go 160 ?_
  simp only [W,seval,c9,z1,Option.isSome_none,Bool.not_false]
  refine cH (v:=?_) (u:=?_) Tryz.func9 (by rfl) ?_ ?_ ?_
  rotate_left 2
  ·try simp only [W,seval,c9,s1]
   exact rfl
  ·try simp only [W,seval,c9,s1]
   exact rfl
  refine bad _ 52 (tJ _) ?_
  exact hr
 | some l =>
  obtain ⟨u1,u2⟩:=d3 l rfl
  have TE:=gF _ _ _ _ _ _ hrb
  have YF:=g4 l TE B4 T Bi.length M1.length v u1 (by omega)
  have FF:=KN TE
  rw [FF] at YF
  clear u2 d3
  refine af.go 160 ?_
  simp only [W,seval,c9,iL,Option.isSome_some,Bool.not_true,b4,y3,y4]
  refine ag YF ?_
  rintro _ _ ⟨rfl,rfl⟩
  cases hen:dV f.body
  ·rw [hen] at h2
   have hr:r=(⟨[],[]⟩,52):=by rw [← bR,h2];rfl
   refine af.go 160 ?_
   simp only [W,seval,c9,z1,Bool.not_false]
   refine cH (v:=?_) (u:=?_) Tryz.func9 (by rfl) ?_ ?_ ?_
   rotate_left 2
   ·try simp only [W,seval,c9,s1]
    exact rfl
   ·try simp only [W,seval,c9,s1]
    exact rfl
   refine bad _ 52 (tJ _) ?_
   exact hr
  ·rw [hen] at h2
   dsimp only at h2
   rw [if_pos rfl] at h2
   dsimp only at h2
   refine af.go 160 ?_
   simp only [W,seval,c9,oO,Bool.not_true]
   refine ih ⟨i+1,fs++[⟨f.name,f.params,f.results,l⟩],Y++oa f v,B4⟩ ⟨au,h2,?_,?_,?_,fun k hk hb hn=>?_,⟨_,_,(dk _ (by omega)).trans Kj.c⟩,?_,?_⟩ (by dsimp only;omega) _ _ ?_ rfl
   ·show (fs++[_]).length=i+1
    rw [List.length_append,h3]
    rfl
   ·show (Y++oa f v).length=(i+1) * 4
    rw [List.length_append,h4]
    show i * 4+4=_
    omega
   ·show M0.length≤B4.length
    omega
   ·show B4[k]? = _
    rw [dk k (by omega),Rj k (by omega) hb hn,h6 k hk hb hn]
   ·show B4[b]? = _
    rw [b4,Sl,List.append_assoc,← hC,List.append_assoc]
   ·show bV 4 (yZ B4) (fs++[_]) (b+1) B4.length (Y++oa f v)
    refine bV.snoc (sz:=4) (m:=Bi.length) (f:=yZ B4) rfl (by omega) (fun a ha=>⟨v,Bi.length,M1.length,ha,by omega,rfl,u1⟩) (h9.congr fun x _ a z r ha hz hf=>hf.frame fun k _ _=>?_) (by rw [h4,h3])
    rw [dk k (by omega),Rj k (by omega) (by omega) (by omega)]
   ·skip
    refine ay.env _ ?_
    simp only [cD,seval]
end
theorem dX {f g:Int→Bool × Int} {n p:Int} (hf:aK f n) (hp:0≤p) (h:(aP f g p).1=true):(f p).1=true∧0≤(f p).2∧(g (f p).2).1=true:=by
 obtain ⟨h1,h2⟩:=aJ h
 have:=hf.up p h1
 exact ⟨h1,by omega,h2⟩
theorem BN {g:Int→Bool × Int} {m d q:Int} (hg:aK g m) (h:(aP (cr d) g q).1=true):q+1≤60000∧q+1≤(aP (cr d) g q).2:=by
 obtain ⟨h1,h2⟩:=aJ h
 have h3:bA d q=true:=h1
 unfold bA at h3
 rw [Bool.and_eq_true,decide_eq_true_iff,decide_eq_true_iff] at h3
 refine ⟨h3.1,?_⟩
 have h4:=hg.up (q+1) h2
 unfold aP
 rw [if_neg (by rw [h1];decide)]
 exact h4
def Pos {α:Type} (f:α→Int→Bool × Int) (x:α):Prop:=∀ q,(f x q).1=true→q+1≤60000∧q+1≤(f x q).2
theorem nJ {α:Type} {f:α→Int→Bool × Int}:∀ (l:List α) (p:Int),(∀ x∈l,Pos f x)→0≤p→(cq f l p).1=true→(l=[]∨p+l.length≤60000)∧∀ x∈l,∃ q,0≤q∧(f x q).1=true
 | [],_,_,_,_=>⟨.inl rfl,fun _ hx=>absurd hx List.not_mem_nil⟩
 | x :: l,p,hc,hp,h=>by
  obtain ⟨h1,h2⟩:=aJ (f:=f x) (g:=cq f l) h
  obtain ⟨a1,a2⟩:=hc x List.mem_cons_self p h1
  obtain ⟨b1,b2⟩:=nJ l _ (fun y hy=>hc y (List.mem_cons_of_mem _ hy)) (by omega) h2
  refine ⟨.inr ?_,fun y hy=>?_⟩
  ·rcases b1 with rfl | b1
   ·simp;omega
   ·simp only [List.length_cons];omega
  ·rcases List.mem_cons.1 hy with rfl | hy
   ·exact ⟨p,hp,h1⟩
   ·exact b2 y hy
theorem pG {α:Type} {f:α→Int→Bool × Int} {l:List α} {p:Int} (hc:∀ x∈l,Pos f x) (hp:0≤p) (h:(cq f l p).1=true):l.length≤60000:=by
 rcases (nJ l p hc hp h).1 with rfl | h
 ·simp
 ·omega
theorem Rk {k:Int} {t:List UInt8} {i:Int} {ty:aA} {ns:List (List UInt8)} {ks:List aj} {d p:Int} (h:(p8 (.mk k t i ty ns ks) d p).1=true):ks.length≤30000∧∃ q,(eR ks (d+1) q).1=true:=by
 unfold p8 at h
 split at h
 ·cases h
 split at h
 ·cases h
 rename_i h2
 split at h
 ·cases h
 refine ⟨?_,_,h⟩
 have:nS k≤30000:=by unfold nS;split<;>omega
 omega
mutual
theorem Rl:∀ (x:aj) (d p:Int),(p8 x d p).1=true→Ch x
 | .mk k t i ty ns ks,d,p,h=>by
  obtain ⟨h1,q,h2⟩:=Rk h
  exact .mk _ h1 (xL ks _ q h2)
theorem xL:∀ (l:List aj) (d p:Int),(eR l d p).1=true→∀ x∈l,Ch x
 | [],_,_,_,_,hx=>absurd hx List.not_mem_nil
 | y :: l,d,p,h,x,hx=>by
  unfold eR at h
  split at h
  ·cases h
  rename_i h1
  rcases List.mem_cons.1 hx with e | hx
  ·rw [e];exact Rl y d p (by simpa using h1)
  ·exact xL l d _ h x hx
end
theorem sY {l:List aj} {d p:Int} (h:(ep l d p).1=true):l.length≤60000∧∀ x∈l,Ch x:=by
 obtain ⟨h1,h2⟩:=aJ (f:=fun p=>eR l d p) h
 have h2:decide (l.length≤40)=true:=h2
 have:=of_decide_eq_true h2
 exact ⟨by omega,xL l d p h1⟩
theorem xM:∀ (n:Nat) (d:Int) (x:aH),Pos (fun x=>ia n x d) x
 | 0,_,_=>fun _ h=>by cases h
 | n+1,d,s=>by
  have hb:=aK.row (f:=fun x=>ia n x (d+1)) (c:=yh n) s.body fun x _=>aK.st n x (d+1)
  have he:=aK.row (f:=fun x=>ia n x (d+1)) (c:=yh n) s.dh fun x _=>aK.st n x (d+1)
  have fD:aK (if s.kind=1 then fun p=>eK ak s.type (d+1) p else cA true) (if s.kind=1 then iZ s.type else 0):=by
   by_cases hk:s.kind=1
   ·rw [if_pos hk,if_pos hk];exact aK.ty s.type (d+1)
   ·rw [if_neg hk,if_neg hk];exact aK.allow true
  have h:=((aK.allow (fW s && decide (s.cases.length≤40))).and (fD.and ((aK.TJ (fun s d=>aK.st n s d) d s.cases []).and ((aK.ep s.aG (d+1)).and ((aK.ep s.exprs (d+1)).and (hb.and he))))))
  exact fun q hq=>BN h hq
theorem IJ {R:aH→Int→Int→Bool × Int} {c:aH→Int} (hR:∀ s d,aK (R s d) (c s)) (hP:∀ d s,Pos (fun x=>R x d) s) (d:Int):∀ (l:List cJ) (seen:List Int) (p:Int),0≤p→(ri R d seen l p).1=true→∀ k∈l,k.body.length≤60000∧∀ y∈k.body,∃ q,0≤q∧(R y (d+2) q).1=true
 | [],_,_,_,_,_,hk=>absurd hk List.not_mem_nil
 | k :: l,seen,p,hp,h,x,hx=>by
  rw [zK] at h
  obtain ⟨_,p1,h⟩:=dX (aK.part (d+1)) hp h
  obtain ⟨_,p2,h⟩:=dX (aK.allow _) p1 h
  obtain ⟨h1,p3,h⟩:=dX (aK.row (f:=fun s=>R s (d+2)) (c:=c) k.body fun s _=>hR s (d+2)) p2 h
  rcases List.mem_cons.1 hx with e | hx
  ·rw [e]
   exact ⟨pG (f:=fun s=>R s (d+2)) (fun y _=>hP _ y) p2 h1,(nJ (f:=fun s=>R s (d+2)) _ _ (fun y _=>hP _ y) p2 h1).2⟩
  ·exact IJ hR hP d l _ _ p3 h x hx
theorem BO:∀ (n:Nat) (x:aH) (d p:Int),0≤p→(ia n x d p).1=true→En x
 | 0,_,_,_,_,h=>by cases h
 | n+1,s,d,p,hp,h=>by
  rw [Gl] at h
  have fD:∃ m,aK (if s.kind=1 then fun p=>eK ak s.type (d+1) p else cA true) m:=by
   by_cases hk:s.kind=1
   ·rw [if_pos hk];exact ⟨_,aK.ty s.type (d+1)⟩
   ·rw [if_neg hk];exact ⟨_,aK.allow true⟩
  obtain ⟨_,fD⟩:=fD
  obtain ⟨_,p1,h⟩:=dX (aK.part d) hp h
  obtain ⟨hz,p2,h⟩:=dX (aK.allow _) p1 h
  obtain ⟨_,p3,h⟩:=dX fD p2 h
  obtain ⟨hc,p4,h⟩:=dX (aK.TJ (fun s d=>aK.st n s d) d s.cases []) p3 h
  obtain ⟨hl,p5,h⟩:=dX (aK.ep s.aG (d+1)) p4 h
  obtain ⟨hx,p6,h⟩:=dX (aK.ep s.exprs (d+1)) p5 h
  obtain ⟨hb,p7,he⟩:=dX (aK.row (f:=fun x=>ia n x (d+1)) (c:=yh n) s.body fun x _=>aK.st n x (d+1)) p6 h
  have hz:(fW s && decide (s.cases.length≤40))=true:=hz
  rw [Bool.and_eq_true,decide_eq_true_iff] at hz
  have up:∀ (l:List aH) (p:Int),0≤p→(cq (fun x=>ia n x (d+1)) l p).1=true→l.length≤60000∧∀ y∈l,En y:=fun l p hp h =>
   ⟨pG (f:=fun x=>ia n x (d+1)) (fun y _=>xM n _ y) hp h,fun y hy=>by
    obtain ⟨q,hq,h⟩:=(nJ (f:=fun x=>ia n x (d+1)) _ _ (fun y _=>xM n _ y) hp h).2 y hy
    exact BO n y _ q hq h⟩
  have qw:=IJ (fun s d=>aK.st n s d) (fun d s=>xM n d s) d s.cases [] _ p3 hc
  exact .mk s (sY hl).1 (sY hx).1 (by omega) (up _ _ p6 hb).1 (up _ _ p7 he).1 (sY hl).2 (sY hx).2 (up _ _ p6 hb).2 (up _ _ p7 he).2 (fun c hc=>(qw c hc).1) fun c hc y hy=>by
   obtain ⟨q,hq,h⟩:=(qw c hc).2 y hy
   exact BO n y _ q hq h
theorem NY {α:Type} (nm:α→List UInt8):∀ (l:List α) (n:List UInt8),n ∉ l.map nm→eW nm l n=none
 | [],_,_=>rfl
 | x :: l,n,h=>by
  unfold eW
  rw [if_neg (fun e=>h (by rw [← e];simp))]
  exact NY nm l n fun hm=>h (by simp [List.mem_cons] at hm ⊢;exact .inr hm)
theorem IK {l:List (List UInt8)}:∀ (j:Nat),j≤l.length→gK j l=true→∀ i (h:i < l.length),i < j→l[i] ∉ l.take i
 | 0,_,_,_,_,hi=>absurd hi (Nat.not_lt_zero _)
 | j+1,hj,h,i,hl,hi=>by
  rw [wR j l (by omega)] at h
  simp only [Bool.and_eq_true,Bool.not_eq_true'] at h
  by_cases e:i=j
  ·subst e
   intro hm
   rw [List.contains_iff_mem.2 hm] at h
   cases h.2
  ·exact IK j (by omega) h.1.1 i hl (by omega)
theorem IL {jR:Nat} {l:List bH} {p:Int} (h:(Ds jR l p).1=true) (hm:jR≤60000):l.length≤60000∧(∀ x∈l,TW x.type)∧∀ i (h:i < l.length),eW bH.name (l.take i) (l[i]).name=none:=by
 obtain ⟨h1,h2⟩:=aJ (f:=cq (fun x:bH=>aP (cr 0) (fun p=>eK ak x.type 0 p)) l) h
 have h2:(decide (l.length≤jR) && gK l.length (l.map bH.name))=true:=h2
 rw [Bool.and_eq_true,decide_eq_true_iff] at h2
 refine ⟨by omega,fun x hx=>TW.zN (Gq h x hx).2,fun i hi=>NY _ _ _ ?_⟩
 have:=IK (l:=l.map bH.name) l.length (by simp) h2.2 i (by simpa using hi) hi
 rw [← List.map_take] at this
 simpa using this
theorem qg {n:Nat} {x:kW} (h:(nT n x 0).1=true) (hn:uE x):og x.structs x.funcs∧∀ f∈x.funcs,FnG x.structs x.funcs f:=by
 have zH:=Qg h hn
 obtain ⟨h1,p1,h2⟩:=dX (f:=cq Dt x.structs) (aK.row (f:=Dt) (c:=TK) x.structs fun s _=>aK.su s) (Int.le_refl _) h
 have OY:∀ s∈x.structs,Pos Dt s:=fun s _ q hq=>BN ((aK.allow (ak s.name)).and (aK.pa 60 s.fields)) hq
 have hfp:∀ f∈x.funcs,Pos (uZ n) f:=fun f _ q hq=>BN ((aK.allow (ak f.name)).and ((aK.pa 20 f.params).and ((aK.allow (decide (1≤f.results.length) && decide (f.results.length≤20))).and ((aK.row (f:=fun t p=>eK ak t 0 p) (c:=iZ) f.results fun t _=>aK.ty t 0).and
  (aK.row (f:=fun s=>ia n s 0) (c:=yh n) f.body fun s _=>aK.st n s 0))))) hq
 have Ff:=(nJ _ _ hfp p1 h2).2
 have RG:=(nJ _ _ OY (Int.le_refl _) h1).2
 have key:∀ f∈x.funcs,(f.params.length≤60000∧f.results.length≤60000∧(∀ p∈f.params,TW p.type)∧∀ t∈f.results,TW t)∧(∀ i (h:i < f.params.length),eW bH.name (f.params.take i) (f.params[i]).name=none)∧f.body.length≤60000∧∀ s∈f.body,En s:=fun f hf=>by
  obtain ⟨q,hq,h⟩:=Ff f hf
  obtain ⟨_,q1,h⟩:=dX (aK.part 0) hq h
  obtain ⟨_,q2,h⟩:=dX (aK.allow (ak f.name)) q1 h
  obtain ⟨uC,q3,h⟩:=dX (aK.pa 20 f.params) q2 h
  obtain ⟨U3,q4,h⟩:=dX (aK.allow _) q3 h
  obtain ⟨hrt,q5,h⟩:=dX (aK.row (f:=fun t p=>eK ak t 0 p) (c:=iZ) f.results fun t _=>aK.ty t 0) q4 h
  have U3:(decide (1≤f.results.length) && decide (f.results.length≤20))=true:=U3
  rw [Bool.and_eq_true,decide_eq_true_iff,decide_eq_true_iff] at U3
  obtain ⟨a1,a2,a3⟩:=IL uC (by omega)
  have up:=nJ (f:=fun s=>ia n s 0) _ _ (fun y _=>xM n _ y) q5 h
  refine ⟨⟨a1,by omega,a2,fun t ht=>TW.zN ((zH.2 f hf).2.2.2.1 t ht)⟩,a3,pG (f:=fun s=>ia n s 0) (fun y _=>xM n _ y) q5 h,fun s hs=>?_⟩
  obtain ⟨q,hq,h⟩:=up.2 s hs
  exact BO n s _ q hq h
 have hE:og x.structs x.funcs:=⟨pG OY (Int.le_refl _) h1,pG hfp p1 h2,fun s hs=>by
  obtain ⟨q,hq,h⟩:=RG s hs
  obtain ⟨_,q1,h⟩:=dX (aK.part 0) hq h
  obtain ⟨_,q2,h⟩:=dX (aK.allow (ak s.name)) q1 h
  obtain ⟨a1,a2,_⟩:=IL h (by omega)
  exact ⟨a1,a2⟩,fun f hf=>(key f hf).1⟩
 refine ⟨hE,fun f hf=>?_⟩
 obtain ⟨⟨b1,b2,b3,b4⟩,b5,b6,b7⟩:=key f hf
 have jW:=(zH.2 f hf).2.2.2.2
 exact ⟨KD hE jW b7 b6,KI b7 b6,Q6 fun s hs=>mkS (b7 s hs),fun l e=>NM l (GK.all (fun y hy=>ym.shb (jW y hy) (b7 y hy)) e) (by have:=congrArg List.length e;rw [ie,ie,List.length_map,List.length_map] at this;omega),b5,b1,b3,b7,b6⟩
def c8:=by
 have c:=aM Tryz.f8 (by conv=>lhs;cbv)
 dsimp only [KK,eN,eG,eH,List.map_cons,List.map_nil,List.toList_toArray] at c
 exact c
theorem b8:bI Tryz.prog 8 Tryz.f8 59:=⟨Tryz.func8,by kernel_rfl⟩
def c22:=by
 have c:=aM Tryz.f22 (by conv=>lhs;cbv)
 dsimp only [KK,eN,eG,eH,List.map_cons,List.map_nil,List.toList_toArray] at c
 exact c
theorem b22:bI Tryz.prog 22 Tryz.f22 40:=⟨Tryz.func22,by kernel_rfl⟩
theorem XT:YO (Cg 4 aQ)=true:=by kernel_rfl
theorem XU:YO (Cg 2 aQ)=true:=by kernel_rfl
theorem abB:fY true (Cg 4 aQ)=(Cg 4 (.mk 4 [] []),0):=by kernel_rfl
theorem abC:fY true (Cg 2 aQ)=(⟨[],[]⟩,52):=by kernel_rfl
theorem XV (k:Int):uE (Cg k aQ):=by
 intro f hf
 obtain rfl:=List.mem_singleton.1 hf
 simp [gL,qq,mU,sB,qG]
theorem Rm (B:List (List V)) (T:List (Nat × Nat)):aF Tryz.prog av 9 [ju (Cg 4 aQ)] ⟨B,T⟩ (aB (.bY [ju (Cg 4 (.mk 4 [] [])),.d (.int .i64 0)]) ⟨B,T⟩):=by
 obtain ⟨h1,h2⟩:=qg XT (XV 4)
 have:=xK (B:=B) (T:=T) (fun _=>h1) (fun _=>h2) (rb:=true) (fun B T=>XT ▸ Gm (Cg 4 aQ) B T)
 rwa [abB] at this
theorem Rn (B:List (List V)) (T:List (Nat × Nat)):aF Tryz.prog av 9 [ju (Cg 2 aQ)] ⟨B,T⟩ (aB (.bY [ju ⟨[],[]⟩,.d (.int .i64 52)]) ⟨B,T⟩):=by
 obtain ⟨h1,h2⟩:=qg XU (XV 2)
 have:=xK (B:=B) (T:=T) (fun _=>h1) (fun _=>h2) (rb:=true) (fun B T=>XU ▸ Gm (Cg 2 aQ) B T)
 rwa [abC] at this
def Zh:cn:=⟨[102],[⟨[97],.mk 4 [] []⟩],[.mk 4 [] []],[.mk 6 [] aQ [] [.mk 6 [43] 0 aQ [] [.mk 1 [97] 0 aQ [] [],.mk 2 [] 1 (.mk 4 [] []) [] []]] [] [] []]⟩
theorem Uz:(Cg 4 (.mk 4 [] [])).funcs=[Zh]:=rfl
set_option maxHeartbeats 4000000 in
theorem UA (S:Mem):aF Tryz.prog av 22 [yM Zh] S (aB (.d (.int .i64 4)) S):=by
 refine aF.same (v:=.d (.int .i64 4)) ?_ rfl rfl S
 unfold yM Zh
 simp only [List.map_cons,List.map_nil,cX,cQ,aH.exprs,aj.kids]
 refine b22.go 200 rfl fun _=>?_
 simp only [W,seval,c22,List.map_cons,List.map_nil]
 refine af.ret Tryz.func22 rfl (Left.empty ?_)
 exact ⟨rfl,rfl⟩
set_option maxHeartbeats 8000000 in
theorem GU (S:Mem):aF Tryz.prog av 8 [] S (aB (.d (.bool true)) S):=by
 refine aF.same (v:=.d (.bool true)) ?_ rfl rfl S
 have hP:=aF.H9 Ke (args:=[.sl (Dz Va) .full]) (by simp [uW,wk]) rfl
 have hQ:=aF.H9 Kf (args:=[.sl (Dz Vb) .full]) (by simp [uW,wk]) rfl
 have hC:=fun B=>Rm B []
 have hD:=fun B=>Rn B []
 have hO:=UA
 have hn:(aA.mk 0 [] [])=aQ:=rfl
 rw [hn] at hP hQ
 unfold ju at hP hQ hC hD
 rw [Uz] at hC
 unfold yM at hO
 have hl:decide ((([Zh].length:Nat):Int)=1)=true:=rfl
 refine b8.go 60 rfl fun _=>?_
 simp only [W,seval,c8,bT,bC,Nat.reduceMul]
 refine ag (hP _) ?_
 rintro _ _ ⟨rfl,rfl⟩
 refine af.go 60 ?_
 simp only [W,seval,c8,bT,bC,Nat.reduceMul]
 refine ag (hQ _) ?_
 rintro _ _ ⟨rfl,rfl⟩
 refine af.go 60 ?_
 simp only [W,seval,c8,bT,bC,Nat.reduceMul]
 refine ag (hC _) ?_
 rintro _ _ ⟨rfl,rfl⟩
 refine af.go 60 ?_
 simp only [W,seval,c8,bT,bC,Nat.reduceMul]
 refine ag (hD _) ?_
 rintro _ _ ⟨rfl,rfl⟩
 refine af.go 160 ?_
 simp only [W,seval,c8,bT,bC,Nat.reduceMul,hl,mw]
 refine ag (hO _) ?_
 rintro _ _ ⟨rfl,rfl⟩
 refine af.go 160 ?_
 simp only [W,seval,c8]
 refine af.ret Tryz.func8 rfl (Left.empty ?_)
 exact ⟨rfl,rfl⟩
def UB:=by
 have c:=aM Tryz.f98 (by conv=>lhs;cbv)
 dsimp only [KK,eN,eG,eH,List.map_cons,List.map_nil,List.toList_toArray] at c
 exact c
theorem b98:bI Tryz.prog 98 Tryz.f98 29:=⟨Tryz.func98,by kernel_rfl⟩
def BP:=by
 have c:=aM Tryz.f51 (by conv=>lhs;cbv)
 dsimp only [KK,eN,eG,eH,List.map_cons,List.map_nil,List.toList_toArray] at c
 exact c
theorem b51:bI Tryz.prog 51 Tryz.f51 63:=⟨Tryz.func51,by kernel_rfl⟩
def IM:=by
 have c:=aM Tryz.f19 (by conv=>lhs;cbv)
 dsimp only [KK,eN,eG,eH,List.map_cons,List.map_nil,List.toList_toArray] at c
 exact c
theorem b19:bI Tryz.prog 19 Tryz.f19 53:=⟨Tryz.func19,by kernel_rfl⟩
mutual
def NZ (n:List UInt8):aj→Bool
 | .mk k t _ _ _ ks=>(decide (k=7) && decide (t=n)) || eV n ks
def eV (n:List UInt8):List aj→Bool
 | []=>false
 | x :: l=>NZ n x || eV n l
end
mutual
def Ro (n:List UInt8):aH→Bool
 | .mk _ ns _ ls es b e cs=>ns.any (fun m=>decide (m=n)) || (y5 n cs || (eV n es || (eV n ls || (eB n b || eB n e))))
def eB (n:List UInt8):List aH→Bool
 | []=>false
 | x :: l=>Ro n x || eB n l
def y5 (n:List UInt8):List cJ→Bool
 | []=>false
 | .mk _ b :: l=>eB n b || y5 n l
end
def za (n:List UInt8) (p:kW):Bool:=p.structs.any (fun s=>decide (s.name=n)) || p.funcs.any fun f=>(decide (f.name=n) || eB n f.body) || f.params.any fun q=>decide (q.name=n)
theorem BQ (n:List UInt8) (x:aj):NZ n x=((decide (x.kind=7) && decide (x.text=n)) || eV n x.kids):=by cases x;unfold NZ;rfl
theorem IN (n:List UInt8) (s:aH):Ro n s=(s.names.any (fun m=>decide (m=n)) || (y5 n s.cases || (eV n s.exprs || (eV n s.aG || (eB n s.body || eB n s.dh))))):=by cases s;unfold Ro;rfl
theorem Ad (n:List UInt8) (c:cJ) (l:List cJ):y5 n (c :: l)=(eB n c.body || y5 n l):=by cases c;rw [y5];rfl
def XW (n:List UInt8) (l:List aj):Prop:=∀ S:Mem,aF Tryz.prog av 98 [.d (.sl (l.map fO)),.d (.str n)] S (aB (.d (.bool (eV n l))) S)
set_option maxHeartbeats 2000000 in
theorem Ae (n:List UInt8) (l:List aj) (h:∀ x∈l,XW n x.kids):XW n l:=by
 intro S
 refine aF.same (v:=.d (.bool (eV n l))) ?_ rfl rfl S
 generalize bR:eV n l=res
 refine b98.go 60 rfl fun bk=>?_
 simp only [dP] at bk
 simp only [W,seval,UB]
 refine af.dc (fun i:Nat=>(aR 29 [(1,.d (.str n)),(7,.d (.sl (l.map fO))),(8,.d (.int .i64 l.length)),(9,.d (.int .i64 i))],⟨[],[]⟩)) (fun i=>i≤l.length∧eV n (l.drop i)=res) (fun i=>l.length - i) 0 ⟨Nat.zero_le _,bR⟩ ?_ rfl ?_
 ·skip
  refine ay.env _ ?_
  simp only [cD,seval]
 rintro i ⟨h1,h2⟩ ih
 dsimp only at ih ⊢
 by_cases au:i < l.length
 ·have hw:=az ((i:Int)+1) (by omega)
  have aC:decide ((i:Int) < (l.length:Int))=true:=decide_eq_true (by omega)
  have hg:=List.getElem?_eq_getElem au
  have oU:=h l[i] (List.getElem_mem au)
  rw [aX au,eV] at h2
  obtain ⟨x,hx⟩:∃ x,l[i]=x:=⟨_,rfl⟩
  rw [hx] at hg oU h2
  rw [BQ] at h2
  cases h7:decide (x.kind=7)
  case' false =>
   rw [h7] at h2
   refine af.go 100 ?_
   simp only [W,seval,UB,List.getElem?_map,hg,aC,cQ,h7]
  case' true =>
   rw [h7] at h2
   cases h8:decide (x.text=n)
   case' true =>
    rw [h8] at h2
    refine af.go 100 ?_
    simp only [W,seval,UB,List.getElem?_map,hg,aC,cQ,h7,h8]
    refine af.ret Tryz.func98 rfl (Left.empty ?_)
    rw [← h2]
    exact ⟨rfl,rfl⟩
   rw [h8] at h2
   refine af.go 100 ?_
   simp only [W,seval,UB,List.getElem?_map,hg,aC,cQ,h7,h8]
  all_goals
   refine ag (oU _) ?_
   rintro _ _ ⟨rfl,rfl⟩
   cases h9:eV n x.kids
   ·rw [h9] at h2
    refine af.go 100 ?_
    simp only [W,seval,UB,hw]
    refine ih (i+1) ⟨au,h2⟩ (by omega) _ _ _ _ rfl ⟨Nat.zero_le _,Nat.zero_le _⟩ (fun vs hv=>absurd hv List.not_mem_nil) ?_
    refine bw.env _ ?_
    simp only [nU,seval]
   ·rw [h9] at h2
    refine af.go 100 ?_
    simp only [W,seval,UB]
    refine af.ret Tryz.func98 rfl (Left.empty ?_)
    rw [← h2]
    exact ⟨rfl,rfl⟩
 ·have aC:decide ((i:Int) < (l.length:Int))=false:=decide_eq_false (by omega)
  rw [List.drop_eq_nil_of_le (by omega),eV] at h2
  refine af.go 100 ?_
  simp only [W,seval,UB,aC]
  refine af.ret Tryz.func98 rfl (Left.empty ?_)
  rw [← h2]
  exact ⟨rfl,rfl⟩
mutual
theorem N0 (n:List UInt8):∀ t:aj,XW n t.kids
 | .mk _ _ _ _ _ es=>Ae n es (xN n es)
theorem xN (n:List UInt8):∀ l:List aj,∀ x∈l,XW n x.kids
 | [],_,h=>absurd h List.not_mem_nil
 | y :: l,x,h=>by
  rcases List.mem_cons.1 h with e | e
  ·rw [e];exact N0 n y
  ·exact xN n l x e
end
theorem IP (n:List UInt8) (l:List aj):XW n l:=Ae n l (xN n l)
def Lr (n:List UInt8) (l:List aH):Prop:=∀ S:Mem,aF Tryz.prog av 51 [.d (.sl (l.map dZ)),.d (.str n)] S (aB (.d (.bool (eB n l))) S)
set_option maxHeartbeats 4000000 in
theorem qh (n:List UInt8) (l:List aH) (h:∀ x∈l,Lr n x.body∧Lr n x.dh∧∀ c∈x.cases,Lr n c.body):Lr n l:=by
 intro S
 refine aF.same (v:=.d (.bool (eB n l))) ?_ rfl rfl S
 generalize bR:eB n l=res
 refine b51.go 60 rfl fun bk=>?_
 simp only [dP] at bk
 simp only [W,seval,BP]
 refine af.dc (fun i:Nat=>(aR 63 [(1,.d (.str n)),(11,.d (.sl (l.map dZ))),(12,.d (.int .i64 l.length)),(13,.d (.int .i64 i))],⟨[],[]⟩)) (fun i=>i≤l.length∧eB n (l.drop i)=res) (fun i=>l.length - i) 0 ⟨Nat.zero_le _,bR⟩ ?_ rfl ?_
 ·skip
  refine ay.env _ ?_
  simp only [cD,seval]
 rintro i ⟨h1,h2⟩ ih
 dsimp only at ih ⊢
 by_cases au:i < l.length
 ·have hw:=az ((i:Int)+1) (by omega)
  have aC:decide ((i:Int) < (l.length:Int))=true:=decide_eq_true (by omega)
  have hg:=List.getElem?_eq_getElem au
  have oU:=h l[i] (List.getElem_mem au)
  rw [aX au,eB] at h2
  obtain ⟨x,hx⟩:∃ x,l[i]=x:=⟨_,rfl⟩
  rw [hx] at hg oU h2
  obtain ⟨hb,he,hc⟩:=oU
  rw [IN] at h2
  refine af.go 100 ?_
  simp only [W,seval,BP,List.getElem?_map,hg,aC,cX]
  have Vh:Fits ⟨[oX x],[]⟩:=fun vs hv=>by rw [List.mem_singleton.1 hv];rfl
  refine af.small fun jd=>?_
  have jY:x.names.length≤9223372036854775807:=by
   have:=(ga _).1 jd 18 (by simp [aR])
   simpa [aR,lk,sm,fL] using this
  clear jd
  refine af.dc (fun j:Nat=>(aR 63 [(1,.d (.str n)),(11,.d (.sl (l.map dZ))),(12,.d (.int .i64 l.length)),(13,.d (.int .i64 i)),(6,.ptr 0 0),(18,.d (.sl (ij x.names))),(19,.d (.int .i64 x.names.length)),(20,.d (.int .i64 j))],⟨[oX x],[]⟩)) (fun j=>j≤x.names.length∧(((x.names.drop j).any (fun m=>decide (m=n)) || (y5 n x.cases || (eV n x.exprs || (eV n x.aG || (eB n x.body || eB n x.dh))))) || eB n (l.drop (i+1)))=res) (fun j=>x.names.length - j) 0 ⟨Nat.zero_le _,h2⟩ ?_ rfl ?_
  ·skip
   refine ay.env _ ?_
   simp only [cD,seval]
  rintro j ⟨g1,g2⟩ lM
  dsimp only at lM ⊢
  by_cases l8:j < x.names.length
  ·have m9:=az ((j:Int)+1) (by omega)
   have gG:decide ((j:Int) < (x.names.length:Int))=true:=decide_eq_true (by omega)
   have Cj:=List.getElem?_eq_getElem l8
   rw [aX l8,List.any_cons] at g2
   obtain ⟨m,hm⟩:∃ m,x.names[j]=m:=⟨_,rfl⟩
   rw [hm] at Cj g2
   refine af.go 100 ?_
   simp only [W,seval,BP,H8,Cj,gG]
   cases ON:decide (m=n)
   ·rw [ON,Bool.false_or] at g2
    simp only [W,seval,BP,m9]
    refine lM (j+1) ⟨l8,g2⟩ (by omega) _ _ _ _ rfl ⟨Nat.zero_le _,Nat.zero_le _⟩ Vh ?_
    refine bw.env _ ?_
    simp only [nU,seval]
    rfl
   ·rw [ON] at g2
    simp only [W,seval,BP]
    refine af.ret Tryz.func51 rfl (Left.empty ?_)
    rw [← g2]
    exact ⟨rfl,rfl⟩
  have gG:decide ((j:Int) < (x.names.length:Int))=false:=decide_eq_false (by omega)
  rw [List.drop_eq_nil_of_le (by omega),List.any_nil,Bool.false_or] at g2
  dsimp only [oX]
  clear lM
  refine af.go 100 ?_
  simp only [W,seval,BP,gG]
  refine af.small fun jd=>?_
  have jY:x.cases.length≤9223372036854775807:=by
   have:=(ga _).1 jd 29 (by simp [aR])
   simpa [aR,lk,sm] using this
  clear jd
  refine af.dc (fun j:Nat=>(aR 63 [(1,.d (.str n)),(11,.d (.sl (l.map dZ))),(12,.d (.int .i64 l.length)),(13,.d (.int .i64 i)),(6,.ptr 0 0),(29,.d (.sl (x.cases.map lK))),(30,.d (.int .i64 x.cases.length)),(31,.d (.int .i64 j))],⟨[oX x],[]⟩)) (fun j=>j≤x.cases.length∧((y5 n (x.cases.drop j) || (eV n x.exprs || (eV n x.aG || (eB n x.body || eB n x.dh)))) || eB n (l.drop (i+1)))=res) (fun j=>x.cases.length - j) 0 ⟨Nat.zero_le _,g2⟩ ?_ rfl ?_
  ·skip
   refine ay.env _ ?_
   simp only [cD,seval]
  rintro k ⟨f1,f2⟩ lM
  dsimp only at lM ⊢
  by_cases Ss:k < x.cases.length
  ·have E1:=az ((k:Int)+1) (by omega)
   have GV:decide ((k:Int) < (x.cases.length:Int))=true:=decide_eq_true (by omega)
   have Ut:=List.getElem?_eq_getElem Ss
   have hck:=hc x.cases[k] (List.getElem_mem Ss)
   rw [aX Ss,Ad] at f2
   obtain ⟨c,Ld⟩:∃ c,x.cases[k]=c:=⟨_,rfl⟩
   rw [Ld] at Ut hck f2
   dsimp only [oX]
   refine af.go 100 ?_
   simp only [W,seval,BP,List.getElem?_map,Ut,GV,iS]
   refine ag (hck _) ?_
   rintro _ _ ⟨rfl,rfl⟩
   cases hv:eB n c.body
   ·rw [hv,Bool.false_or] at f2
    refine af.go 100 ?_
    simp only [W,seval,BP,E1]
    refine lM (k+1) ⟨Ss,f2⟩ (by omega) _ [oX x] _ _ rfl ⟨Nat.zero_le _,Nat.zero_le _⟩ Vh ?_
    refine bw.env _ ?_
    simp only [nU,seval]
    rfl
   ·rw [hv] at f2
    refine af.go 100 ?_
    simp only [W,seval,BP]
    refine af.ret Tryz.func51 rfl (Left.empty ?_)
    rw [← f2]
    exact ⟨rfl,rfl⟩
  have GV:decide ((k:Int) < (x.cases.length:Int))=false:=decide_eq_false (by omega)
  rw [List.drop_eq_nil_of_le (by omega),y5,Bool.false_or] at f2
  dsimp only [oX]
  clear lM
  refine af.go 100 ?_
  simp only [W,seval,BP,GV]
  refine ag (IP n x.exprs _) ?_
  rintro _ _ ⟨rfl,rfl⟩
  cases e1:eV n x.exprs
  case' true =>
   rw [e1] at f2
   refine af.go 100 ?_
   simp only [W,seval,BP]
   refine af.ret Tryz.func51 rfl (Left.empty ?_)
   rw [← f2]
   exact ⟨rfl,rfl⟩
  rw [e1,Bool.false_or] at f2
  refine af.go 100 ?_
  simp only [W,seval,BP]
  refine ag (IP n x.aG _) ?_
  rintro _ _ ⟨rfl,rfl⟩
  cases e2:eV n x.aG
  case' true =>
   rw [e2] at f2
   refine af.go 100 ?_
   simp only [W,seval,BP]
   refine af.ret Tryz.func51 rfl (Left.empty ?_)
   rw [← f2]
   exact ⟨rfl,rfl⟩
  rw [e2,Bool.false_or] at f2
  refine af.go 100 ?_
  simp only [W,seval,BP]
  refine ag (hb _) ?_
  rintro _ _ ⟨rfl,rfl⟩
  cases e3:eB n x.body
  case' true =>
   rw [e3] at f2
   refine af.go 100 ?_
   simp only [W,seval,BP]
   refine af.ret Tryz.func51 rfl (Left.empty ?_)
   rw [← f2]
   exact ⟨rfl,rfl⟩
  rw [e3,Bool.false_or] at f2
  refine af.go 100 ?_
  simp only [W,seval,BP]
  refine ag (he _) ?_
  rintro _ _ ⟨rfl,rfl⟩
  cases e4:eB n x.dh
  case' true =>
   rw [e4] at f2
   refine af.go 100 ?_
   simp only [W,seval,BP]
   refine af.ret Tryz.func51 rfl (Left.empty ?_)
   rw [← f2]
   exact ⟨rfl,rfl⟩
  rw [e4,Bool.false_or] at f2
  refine af.go 100 ?_
  simp only [W,seval,BP,hw]
  refine ih (i+1) ⟨au,f2⟩ (by omega) _ _ _ _ rfl ⟨Nat.zero_le _,Nat.zero_le _⟩ (fun vs hv=>absurd hv List.not_mem_nil) ?_
  refine bw.env _ ?_
  simp only [nU,seval]
 ·have aC:decide ((i:Int) < (l.length:Int))=false:=decide_eq_false (by omega)
  rw [List.drop_eq_nil_of_le (by omega),eB] at h2
  refine af.go 100 ?_
  simp only [W,seval,BP,aC]
  refine af.ret Tryz.func51 rfl (Left.empty ?_)
  rw [← h2]
  exact ⟨rfl,rfl⟩
mutual
theorem N1 (n:List UInt8):∀ s:aH,Lr n s.body∧Lr n s.dh∧∀ k∈s.cases,Lr n k.body
 | .mk _ _ _ _ _ b e cs=>⟨qh n b (pH n b),qh n e (pH n e),EA n cs⟩
theorem pH (n:List UInt8):∀ l:List aH,∀ x∈l,Lr n x.body∧Lr n x.dh∧∀ k∈x.cases,Lr n k.body
 | [],_,h=>absurd h List.not_mem_nil
 | y :: l,x,h=>by
  rcases List.mem_cons.1 h with e | e
  ·rw [e];exact N1 n y
  ·exact pH n l x e
theorem EA (n:List UInt8):∀ l:List cJ,∀ k∈l,Lr n k.body
 | [],_,h=>absurd h List.not_mem_nil
 | .mk _ b :: l,k,h=>by
  rcases List.mem_cons.1 h with e | e
  ·rw [e];exact qh n b (pH n b)
  ·exact EA n l k e
end
theorem Rp (n:List UInt8) (l:List aH):Lr n l:=qh n l (pH n l)
set_option maxHeartbeats 4000000 in
theorem N2 (n:List UInt8) (p:kW) (S:Mem):aF Tryz.prog av 19 [ju p,.d (.str n)] S (aB (.d (.bool (za n p))) S):=by
 refine aF.same (v:=.d (.bool (za n p))) ?_ rfl rfl S
 generalize bR:za n p=res
 unfold za at bR
 unfold ju
 refine b19.go 60 rfl fun bk=>?_
 simp only [dP] at bk
 simp only [W,seval,IM]
 have Cf:Fits ⟨[[.d (.sl (p.structs.map ef)),.d (.sl (p.funcs.map cT))]],[]⟩:=fun vs hv=>by rw [List.mem_singleton.1 hv];rfl
 refine af.small fun jd=>?_
 have qw:p.structs.length≤9223372036854775807:=by
  have:=(ga _).1 jd 12 (by simp [aR])
  simpa [aR,lk,sm] using this
 clear jd
 refine af.dc (fun i:Nat=>(aR 53 [(1,.d (.str n)),(2,.ptr 0 0),(12,.d (.sl (p.structs.map ef))),(13,.d (.int .i64 p.structs.length)),(14,.d (.int .i64 i))],⟨[[.d (.sl (p.structs.map ef)),.d (.sl (p.funcs.map cT))]],[]⟩)) (fun i=>i≤p.structs.length∧(((p.structs.drop i).any (fun s=>decide (s.name=n))) || p.funcs.any fun f=>(decide (f.name=n) || eB n f.body) || f.params.any fun q=>decide (q.name=n))=res) (fun i=>p.structs.length - i) 0 ⟨Nat.zero_le _,bR⟩ ?_ rfl ?_
 ·skip
  refine ay.env _ ?_
  simp only [cD,seval]
 rintro i ⟨h1,h2⟩ ih
 dsimp only at ih ⊢
 by_cases au:i < p.structs.length
 ·have hw:=az ((i:Int)+1) (by omega)
  have aC:decide ((i:Int) < (p.structs.length:Int))=true:=decide_eq_true (by omega)
  have hg:=List.getElem?_eq_getElem au
  rw [aX au,List.any_cons] at h2
  obtain ⟨x,hx⟩:∃ x,p.structs[i]=x:=⟨_,rfl⟩
  rw [hx] at hg h2
  refine af.go 100 ?_
  simp only [W,seval,IM,List.getElem?_map,hg,aC,wM]
  cases ON:decide (x.name=n)
  ·rw [ON,Bool.false_or] at h2
   simp only [W,seval,IM,hw]
   refine ih (i+1) ⟨au,h2⟩ (by omega) _ [[.d (.sl (p.structs.map ef)),.d (.sl (p.funcs.map cT))]] _ _ rfl ⟨Nat.zero_le _,Nat.zero_le _⟩ Cf ?_
   refine bw.env _ ?_
   simp only [nU,seval]
   rfl
  ·rw [ON] at h2
   simp only [W,seval,IM]
   refine af.ret Tryz.func19 rfl (Left.empty ?_)
   rw [← h2]
   exact ⟨rfl,rfl⟩
 have aC:decide ((i:Int) < (p.structs.length:Int))=false:=decide_eq_false (by omega)
 rw [List.drop_eq_nil_of_le (by omega),List.any_nil,Bool.false_or] at h2
 clear ih
 refine af.go 100 ?_
 simp only [W,seval,IM,aC]
 refine af.small fun jd=>?_
 have Ce:p.funcs.length≤9223372036854775807:=by
  have:=(ga _).1 jd 24 (by simp [aR])
  simpa [aR,lk,sm] using this
 clear jd
 refine af.dc (fun j:Nat=>(aR 53 [(1,.d (.str n)),(24,.d (.sl (p.funcs.map cT))),(25,.d (.int .i64 p.funcs.length)),(26,.d (.int .i64 j))],⟨[[.d (.sl (p.structs.map ef)),.d (.sl (p.funcs.map cT))]],[]⟩)) (fun j=>j≤p.funcs.length∧((p.funcs.drop j).any fun f=>(decide (f.name=n) || eB n f.body) || f.params.any fun q=>decide (q.name=n))=res) (fun j=>p.funcs.length - j) 0 ⟨Nat.zero_le _,h2⟩ ?_ rfl ?_
 ·skip
  refine ay.env _ ?_
  simp only [cD,seval]
 rintro j ⟨g1,g2⟩ ih
 dsimp only at ih ⊢
 by_cases l8:j < p.funcs.length
 ·have m9:=az ((j:Int)+1) (by omega)
  have gG:decide ((j:Int) < (p.funcs.length:Int))=true:=decide_eq_true (by omega)
  have Cj:=List.getElem?_eq_getElem l8
  rw [aX l8,List.any_cons] at g2
  obtain ⟨f,hf⟩:∃ f,p.funcs[j]=f:=⟨_,rfl⟩
  rw [hf] at Cj g2
  cases ON:decide (f.name=n)
  case' true =>
   rw [ON] at g2
   refine af.go 100 ?_
   simp only [W,seval,IM,List.getElem?_map,Cj,gG,mw,ON]
   refine af.ret Tryz.func19 rfl (Left.empty ?_)
   rw [← g2]
   exact ⟨rfl,rfl⟩
  rw [ON,Bool.false_or] at g2
  refine af.go 100 ?_
  simp only [W,seval,IM,List.getElem?_map,Cj,gG,mw,ON]
  refine ag (Rp n f.body _) ?_
  rintro _ _ ⟨rfl,rfl⟩
  cases hv:eB n f.body
  case' true =>
   rw [hv] at g2
   refine af.go 100 ?_
   simp only [W,seval,IM]
   refine af.ret Tryz.func19 rfl (Left.empty ?_)
   rw [← g2]
   exact ⟨rfl,rfl⟩
  rw [hv,Bool.false_or] at g2
  refine af.go 100 ?_
  simp only [W,seval,IM]
  have hf3:Fits ⟨[[.d (.sl (p.structs.map ef)),.d (.sl (p.funcs.map cT))],[.d (.str f.name),.d (.sl (f.params.map gf)),.d (.sl (f.results.map dR)),.d (.sl (f.body.map dZ))]],[]⟩:=fun vs hv=>by
   simp only [List.mem_cons,List.not_mem_nil,or_false] at hv
   rcases hv with rfl | rfl<;>rfl
  refine af.small fun jd=>?_
  have hcp:f.params.length≤9223372036854775807:=by
   have:=(ga _).1 jd 41 (by simp [aR])
   simpa [aR,lk,sm] using this
  clear jd
  refine af.dc (fun k:Nat=>(aR 53 [(1,.d (.str n)),(24,.d (.sl (p.funcs.map cT))),(25,.d (.int .i64 p.funcs.length)),(26,.d (.int .i64 j)),(41,.d (.sl (f.params.map gf))),(42,.d (.int .i64 f.params.length)),(43,.d (.int .i64 k))],⟨[[.d (.sl (p.structs.map ef)),.d (.sl (p.funcs.map cT))],[.d (.str f.name),.d (.sl (f.params.map gf)),.d (.sl (f.results.map dR)),.d (.sl (f.body.map dZ))]],[]⟩)) (fun k=>k≤f.params.length∧(((f.params.drop k).any fun q=>decide (q.name=n)) || (p.funcs.drop (j+1)).any fun f=>(decide (f.name=n) || eB n f.body) || f.params.any fun q=>decide (q.name=n))=res) (fun k=>f.params.length - k) 0 ⟨Nat.zero_le _,g2⟩ ?_ rfl ?_
  ·skip
   refine ay.env _ ?_
   simp only [cD,seval]
  rintro k ⟨f1,f2⟩ lM
  dsimp only at lM ⊢
  by_cases Ss:k < f.params.length
  ·have E1:=az ((k:Int)+1) (by omega)
   have GV:decide ((k:Int) < (f.params.length:Int))=true:=decide_eq_true (by omega)
   have Ut:=List.getElem?_eq_getElem Ss
   rw [aX Ss,List.any_cons] at f2
   obtain ⟨q,hq⟩:∃ q,f.params[k]=q:=⟨_,rfl⟩
   rw [hq] at Ut f2
   refine af.go 100 ?_
   simp only [W,seval,IM,List.getElem?_map,Ut,GV,mq]
   cases Xi:decide (q.name=n)
   ·rw [Xi,Bool.false_or] at f2
    simp only [W,seval,IM,E1]
    refine lM (k+1) ⟨Ss,f2⟩ (by omega) _ [_,_] _ _ rfl ⟨Nat.zero_le _,Nat.zero_le _⟩ hf3 ?_
    refine bw.env _ ?_
    simp only [nU,seval]
   ·rw [Xi] at f2
    simp only [W,seval,IM]
    refine af.ret Tryz.func19 rfl (Left.empty ?_)
    rw [← f2]
    exact ⟨rfl,rfl⟩
  have GV:decide ((k:Int) < (f.params.length:Int))=false:=decide_eq_false (by omega)
  rw [List.drop_eq_nil_of_le (by omega),List.any_nil,Bool.false_or] at f2
  refine af.go 100 ?_
  simp only [W,seval,IM,GV,m9]
  refine ih (j+1) ⟨l8,f2⟩ (by omega) _ [_] _ _ rfl ⟨Nat.zero_le _,Nat.zero_le _⟩ Cf ?_
  refine bw.env _ ?_
  simp only [nU,seval]
 have gG:decide ((j:Int) < (p.funcs.length:Int))=false:=decide_eq_false (by omega)
 rw [List.drop_eq_nil_of_le (by omega),List.any_nil] at g2
 refine af.go 100 ?_
 simp only [W,seval,IM,gG]
 refine af.ret Tryz.func19 rfl (Left.empty ?_)
 rw [← g2]
 exact ⟨rfl,rfl⟩
section
variable {su:List cG} {fu:List cn} {m:cn}
theorem sZ {α:Type} (nm:α→List UInt8) (x:α) (n:List UInt8) (h:nm x ≠ n):∀ l:List α,eW nm (l++[x]) n=eW nm l n
 | []=>by
  show (if nm x=n then some x else none)=none
  exact if_neg h
 | y :: l=>by
  show eW nm (y :: (l++[x])) n=_
  rw [eW,eW,sZ nm x n h l]
mutual
theorem xO (vs:List bH):∀ x:aj,NZ m.name x=false→aE ⟨su,fu++[m],vs⟩ x=aE ⟨su,fu,vs⟩ x
 | .mk k t i ty ns ks,h=>by
  rw [BQ,Bool.or_eq_false_iff] at h
  obtain ⟨h1,h2⟩:=h
  have hw:=nK vs ks h2
  have hk:=tY vs ks h2
  funext w
  by_cases h7:k=7
  ·have XL:eW cn.name (fu++[m]) t=eW cn.name fu t:=sZ cn.name m t (fun e=>by simp [aj.kind,aj.text,h7,← e] at h1) fu
   subst h7
   unfold aE
   dsimp only
   rw [hw,XL]
   rfl
  ·rcases ks with _ | ⟨a,_ | ⟨b,_ | ⟨c,_ | ⟨d,l⟩⟩⟩⟩
   ·unfold aE
    simp only [if_neg h7,hw]
   ·unfold aE
    simp only [if_neg h7,hw,hk a List.mem_cons_self]
   ·unfold aE
    simp only [if_neg h7,hw,hk a List.mem_cons_self,hk b (by simp)]
   ·unfold aE
    simp only [if_neg h7,hw,hk a List.mem_cons_self,hk b (by simp),hk c (by simp)]
   ·unfold aE
    simp only [if_neg h7,hw]
theorem tY (vs:List bH):∀ l:List aj,eV m.name l=false→∀ y∈l,aE ⟨su,fu++[m],vs⟩ y=aE ⟨su,fu,vs⟩ y
 | [],_,_,hy=>absurd hy List.not_mem_nil
 | x :: l,h,y,hy=>by
  rw [eV,Bool.or_eq_false_iff] at h
  rcases List.mem_cons.1 hy with e | hy
  ·rw [e];exact xO vs x h.1
  ·exact tY vs l h.2 y hy
theorem nK (vs:List bH):∀ l:List aj,eV m.name l=false→bt ⟨su,fu++[m],vs⟩ l=bt ⟨su,fu,vs⟩ l
 | [],_=>by
  funext ts
  cases ts<;>(unfold bt;rfl)
 | x :: l,h=>by
  rw [eV,Bool.or_eq_false_iff] at h
  have h1:=xO vs x h.1
  have h2:=nK vs l h.2
  funext ts
  cases ts with
  | nil=>unfold bt;rfl
  | cons t ts =>
   unfold bt
   rw [h1,h2]
end
theorem KP (vs:List bH) (x:aj) (h:NZ m.name x=false) (h7:x.kind=7):kj ⟨su,fu++[m],vs⟩ x=kj ⟨su,fu,vs⟩ x:=by
 rw [BQ,Bool.or_eq_false_iff] at h
 unfold kj
 dsimp only
 rw [nK vs x.kids h.2,sZ cn.name m x.text fun e=>by have:=h.1;simp [h7,← e] at this]
theorem EB (vs:List bH) (l:List aj) (h:eV m.name l=false) (ts:List aA):cY ⟨su,fu++[m],vs⟩ l ts=cY ⟨su,fu,vs⟩ l ts:=by
 have hw:=nK (su:=su) (fu:=fu) vs l h
 rcases l with _ | ⟨x,_ | ⟨y,l⟩⟩
 ·unfold cY
  dsimp only
  rw [hw]
 ·unfold cY
  dsimp only
  rw [hw]
  by_cases h1:1 < ts.length∧x.kind=7
  ·rw [eV,Bool.or_eq_false_iff] at h
   rw [if_pos h1,if_pos h1,KP vs x h.1 h1.2]
  ·rw [if_neg h1,if_neg h1]
 ·unfold cY
  dsimp only
  rw [hw]
theorem xP (vs:List bH):∀ l:List aj,eV m.name l=false→lf ⟨su,fu++[m],vs⟩ l=lf ⟨su,fu,vs⟩ l
 | [],_=>rfl
 | x :: l,h=>by
  rw [eV,Bool.or_eq_false_iff] at h
  unfold lf
  rw [xO vs x h.1,xP vs l h.2]
theorem Af {n:List UInt8} (h:m.name ≠ n):fq su (fu++[m]) n=fq su fu n:=by
 unfold fq
 rw [sZ cn.name m n h]
mutual
theorem KQ (res:List aA):∀ s:aH,Ro m.name s=false→∀ vs,gh su (fu++[m]) res s vs=gh su fu res s vs
 | .mk k ns ty ls es b e cs,h,vs=>by
  rw [IN] at h
  simp only [Bool.or_eq_false_iff,aH.names,aH.cases,aH.exprs,aH.aG,aH.body,aH.dh] at h
  obtain ⟨h1,h2,h3,h4,h5,h6⟩:=h
  have hv:=EB (su:=su) (fu:=fu) vs es h3
  have hl:=xP (su:=su) (fu:=fu) vs ls h4
  have hb:=lH res b h5
  have he:=lH res e h6
  have hc:=fun top=>xQ res top cs h2
  have hx:=tY (su:=su) (fu:=fu) vs es h3
  have hf:∀ n∈ns,fq su (fu++[m]) n=fq su fu n:=fun n hn=>Af fun e=>by
   rw [List.any_eq_false] at h1
   exact h1 n hn (decide_eq_true e.symm)
  unfold gh
  rw [hl]
  simp only [hv,hb,he,hc]
  rcases ns with _ | ⟨n,ns⟩
  ·rcases es with _ | ⟨x,_ | ⟨y,es⟩⟩
   ·rfl
   ·dsimp only
    rw [hx x List.mem_cons_self]
   ·rfl
  ·have UW:=hf n List.mem_cons_self
   rcases es with _ | ⟨x,_ | ⟨y,es⟩⟩
   ·dsimp only
    rw [UW]
   ·dsimp only
    rw [UW,hx x List.mem_cons_self]
   ·dsimp only
    rw [UW]
theorem lH (res:List aA):∀ l:List aH,eB m.name l=false→∀ vs,bU su (fu++[m]) res l vs=bU su fu res l vs
 | [],_,vs=>by unfold bU;rfl
 | s :: l,h,vs=>by
  rw [eB,Bool.or_eq_false_iff] at h
  have h1:=KQ res s h.1 vs
  have h2:=lH res l h.2
  unfold bU
  rw [h1]
  simp only [h2]
theorem xQ (res:List aA) (top:Int):∀ l:List cJ,y5 m.name l=false→∀ vs,fM su (fu++[m]) res top l vs=fM su fu res top l vs
 | [],_,vs=>by unfold fM;rfl
 | .mk i b :: l,h,vs=>by
  rw [Ad,Bool.or_eq_false_iff] at h
  have h1:=lH res b h.1 vs
  have h2:=xQ res top l h.2 vs
  unfold fM
  rw [h1,h2]
end
end
def EC:List UInt8:=[111,110,101,95,102,117,110,99,116,105,111,110,95,109,111,114,101]
def bS (n:Int) (t:aA):cn:=⟨EC,[],[.mk 6 [] []],[.mk 6 [] aQ [] [.mk 2 [] n t [] []] [] [] []]⟩
theorem Ag {α:Type} (f:α→Int→Bool × Int) (x:α):∀ (a:List α) (p:Int),cq f (a++[x]) p=aP (cq f a) (f x) p
 | [],p=>by
  show aP (f x) (cq f []) p=aP (cq f []) (f x) p
  unfold aP cq
  cases h:(f x p).1<;>simp [h,Prod.ext_iff]
 | y :: a,p=>by
  show aP (f y) (cq f (a++[x])) p=aP (aP (f y) (cq f a)) (f x) p
  have ih:=Ag f x a
  unfold aP
  cases h:(f y p).1
  ·simp
  ·simp only [Bool.true_eq_false,if_false]
   rw [ih]
   rfl
theorem xR (K:Nat) (su:List cG) (fu:List cn) (m:cn) (p:Int):nT K ⟨su,fu++[m]⟩ p=aP (nT K ⟨su,fu⟩) (uZ K m) p:=by
 show aP (cq Dt su) (cq (uZ K) (fu++[m])) p=aP (aP (cq Dt su) (cq (uZ K) fu)) (uZ K m) p
 have h:=Ag (uZ K) m fu
 unfold aP
 cases h1:(cq Dt su p).1
 ·simp
 ·simp only [Bool.true_eq_false,if_false]
  rw [h]
  rfl
theorem s7 {d p:Int} (h1:p+1≤60000) (h2:d≤60):bA d p=true:=by
 unfold bA
 rw [decide_eq_true h1,decide_eq_true h2]
 rfl
theorem IQ (K:Nat) (n q:Int) (E3:q≤50000):uZ (K+1) (bS n aQ) q=(true,q+4):=by
 have e1:=s7 (d:=0) (p:=q) (by omega) (by decide)
 have e2:=s7 (d:=0) (p:=q+1) (by omega) (by decide)
 have e3:=s7 (d:=0) (p:=q+1+1) (by omega) (by decide)
 have e4:=s7 (d:=1) (p:=q+1+1+1) (by omega) (by decide)
 have hi:ak EC=true:=by kernel_rfl
 have hx:p8 (.mk 2 [] n aQ [] []) 1 (q+1+1+1)=(true,q+1+1+1+1):=by
  unfold p8
  rw [if_neg (by rw [e4];decide),if_neg (by decide)]
  have hb:dw (.mk 2 [] n aQ [] []) 1 (q+1+1+1+1)=(true,q+1+1+1+1):=by rfl
  rw [hb,if_neg (by simp)]
  unfold eR
  rfl
 have ht:eK ak (.mk 6 [] []) 0 (q+1)=(true,q+1+1):=by
  unfold eK
  rw [if_neg (by rw [e2];decide)]
  rfl
 have hs:ia (K+1) (.mk 6 [] aQ [] [.mk 2 [] n aQ [] []] [] [] []) 0 (q+1+1)=(true,q+1+1+1+1):=by
  rw [Gl]
  rw [aN (show (cr 0 (q+1+1)).1=true from e3)]
  rw [aN (by rfl)]
  show aP (cA true) _ (q+1+1+1)=_
  rw [aN (by rfl)]
  show aP (ri (ia K) 0 [] []) _ (q+1+1+1)=_
  rw [aN (show (ri (ia K) 0 [] [] _).1=true from rfl)]
  show aP (ep [] (0+1)) _ (q+1+1+1)=_
  rw [aN (show (ep [] (0+1) _).1=true from rfl)]
  show aP (ep [.mk 2 [] n aQ [] []] (0+1)) _ (q+1+1+1)=_
  have h4:ep [.mk 2 [] n aQ [] []] (0+1) (q+1+1+1)=(true,q+1+1+1+1):=by
   rw [wZ]
   unfold eR
   rw [show ((0:Int)+1)=1 from rfl,hx]
   rfl
  rw [aN (by rw [h4]),h4]
  rfl
 show aP (cr 0) _ q=_
 rw [aN (show (cr 0 q).1=true from e1)]
 show aP (cA (ak EC)) _ (q+1)=_
 rw [aN (show (cA (ak EC) (q+1)).1=true from hi)]
 show aP (Ds 20 []) _ (q+1)=_
 rw [aN (show (Ds 20 [] (q+1)).1=true from rfl)]
 show aP (cA _) _ (q+1)=_
 rw [aN (by rfl)]
 show aP (cq (fun t p=>eK ak t 0 p) [.mk 6 [] []]) _ (q+1)=_
 have h5:cq (fun t p=>eK ak t 0 p) [.mk 6 [] []] (q+1)=(true,q+1+1):=by
  show aP (fun p=>eK ak (.mk 6 [] []) 0 p) (cq _ []) (q+1)=_
  rw [aN (by show (eK ak (.mk 6 [] []) 0 (q+1)).1=true;rw [ht]),ht]
  rfl
 rw [aN (by rw [h5]),h5]
 show aP (ia (K+1) (.mk 6 [] aQ [] [.mk 2 [] n aQ [] []] [] [] []) 0) (cq _ []) (q+1+1)=_
 rw [aN (by rw [hs]),hs]
 show (true,q+1+1+1+1)=_
 congr 1
 omega
theorem ED {α β:Type} (g:α→Option β) (x:α):∀ l:List α,(l++[x]).mapM g=(l.mapM g).bind fun ys=>(g x).map fun y=>ys++[y]
 | []=>by
  rw [List.nil_append,List.mapM_cons,List.mapM_nil]
  cases g x<;>rfl
 | y :: l=>by
  rw [List.cons_append,List.mapM_cons,List.mapM_cons,ED g x l]
  cases g y with
  | none=>rfl
  | some a =>
   cases l.mapM g with
   | none=>rfl
   | some ys=>cases g x<;>rfl
theorem Ah {α β:Type} {f g:α→Option β}:∀ {l:List α},(∀ x∈l,f x=g x)→l.mapM f=l.mapM g
 | [],_=>rfl
 | x :: l,h=>by rw [List.mapM_cons,List.mapM_cons,h x List.mem_cons_self,Ah fun y hy=>h y (List.mem_cons_of_mem _ hy)]
theorem KR (su:List cG) (fu:List cn) (n:Int) (hn:n≤18446744073709551615):gm su fu (bS n aQ)=some (bS n tR):=by
 have ht:aE ⟨su,fu,[]⟩ (.mk 2 [] n aQ [] []) tR=some (.mk 2 [] n tR [] [],tR):=by
  unfold aE
  simp only [show ¬ (2:Int)=3 by decide,show ¬ (2:Int)=1 by decide,show ¬ (2:Int)=6 by decide,show ¬ (2:Int)=7 by decide,show ¬ (2:Int)=9 by decide,show ¬ (2:Int)=12 by decide,show ¬ (2:Int)=10 by decide,show ¬ (2:Int)=11 by decide,show ¬ (2:Int)=13 by decide,show ¬ (2:Int)=14 by decide,show ¬ (2:Int)=15 by decide,if_false]
  rw [show ic (aj.mk 2 [] n aQ [] [])=true from rfl,if_pos rfl]
  unfold nA
  rw [if_neg (show ¬ (aj.mk 2 [] n aQ [] []).kind=5 from fun e=>absurd (show (2:Int)=5 from e) (by decide)),if_neg ?_]
  ·rfl
  ·have:iI tR.kind=18446744073709551615:=rfl
   rw [this]
   show ¬ (_∨18446744073709551615 < n)
   omega
 have hb:bU su fu [.mk 6 [] []] [.mk 6 [] aQ [] [.mk 2 [] n aQ [] []] [] [] []] []=some [.mk 6 [] aQ [] [.mk 2 [] n tR [] []] [] [] []]:=by
  have hw:bt ⟨su,fu,[]⟩ [.mk 2 [] n aQ [] []] [tR]=some [.mk 2 [] n tR [] []]:=by
   unfold bt
   rw [ht]
   have:bf (some (aj.mk 2 [] n tR [] [],tR)) tR=some (aj.mk 2 [] n tR [] []):=by
    unfold bf
    dsimp only
    rw [if_pos (wH _)]
   rw [this]
   rfl
  have hv:cY ⟨su,fu,[]⟩ [.mk 2 [] n aQ [] []] [tR]=some [.mk 2 [] n tR [] []]:=by
   unfold cY
   dsimp only
   rw [if_neg (fun h=>absurd h.1 (by decide))]
   exact hw
  have hs:gh su fu [.mk 6 [] []] (.mk 6 [] aQ [] [.mk 2 [] n aQ [] []] [] [] []) []=some (.mk 6 [] aQ [] [.mk 2 [] n tR [] []] [] [] [],[]):=by
   unfold gh
   rw [if_neg (by decide),if_neg (by decide),if_pos rfl]
   change (cY ⟨su,fu,[]⟩ [.mk 2 [] n aQ [] []] [tR]).map _=_
   rw [hv]
   rfl
  unfold bU
  rw [hs]
  unfold bU
  rfl
 unfold gm
 show (match bU su fu [.mk 6 [] []] [.mk 6 [] aQ [] [.mk 2 [] n aQ [] []] [] [] []] [] with
  | some b=>if dV _=true then some _ else none
  | none=>none)=_
 rw [hb]
 rfl
def c6:=by
 have c:=aM Tryz.f6 (by conv=>lhs;cbv)
 dsimp only [KK,eN,eG,eH,List.map_cons,List.map_nil,List.toList_toArray] at c
 exact c
theorem b6:bI Tryz.prog 6 Tryz.f6 96:=⟨Tryz.func6,by kernel_rfl⟩
theorem BR:bD Tryz.prog 41=some ⟨.struct [(0,1),(1,1),(2,1),(3,1)],4,88,true,[.d (.str []),.sl [] .full,.sl [] .full,.sl [] .full]⟩:=by kernel_rfl
theorem N3 {P:Program} {ev:Operand→V} {S:Mem} {N:Nat} {Y:List V} {o:Op} {t:TypeId} {a:Operand} {ti:tq} (hS:S.boxes[N]? = some Y) (lP:o = .load t a) (ht:bD P t=some ti) (V3:ti.agg=true) (ha:ev a = .ptr N 0) (hs:ti.size=Y.length):cU P ev S o=some (.agg Y,S):=by
 subst lP
 show still S (ff P S t (ev a))=_
 rw [ha]
 simp [ff,ht,hS,oD,V3,hs,still]
theorem IS {ev:Operand→V} {S:Mem} {an:List (List D)} {o:Op} {a b:Operand} (lP:o = .call ⟨.builtin .append,#[a,b],#[23,23]⟩) (ha:ev a = .sl [] .full) (hb:ev b = .d (.sl an)) (hr:cy 4 an=true) (hc:an.length * 88≤140737488355328) :
 cU Tryz.prog ev S o=some (.sl an (.own S.aL.length),⟨S.boxes,S.aL++[(an.length,4)]⟩):=by
 subst lP
 show iN Tryz.prog _ _ S (ev a) (ev b)=_
 rw [ha,hb]
 simp [iN,pP,jl,IF,BR,rO,mL,cy,hc]
 simpa [cy] using hr
theorem BS {ev:Operand→V} {S:Mem} {rows:List (List D)} {r:List D} {t:Nat} {o:Op} {a b:Operand} (lP:o = .call ⟨.builtin .append,#[a,b],#[23,23]⟩) (ha:ev a = .sl rows (.own t)) (hb:ev b = .sl [r] .full) (hr:r.length=4) (ht:S.aL[t]? = some (rows.length,4)) (hc:(rows.length+1) * 88≤140737488355328) :
 cU Tryz.prog ev S o=some (.sl (rows++[r]) (.own t),⟨S.boxes,S.aL.set t (rows.length+1,4)⟩):=by
 subst lP
 show iN Tryz.prog _ _ S (ev a) (ev b)=_
 rw [ha,hb]
 simp [iN,jl,IF,BR,rO,mL,cy,hc,ht,hr]
theorem KS {ev:Operand→V} {S:Mem} {v1:V} {vs:List V} {o:Op} {a:Operand} (lP:o = .buildSlice 23 1 #[(0,a)]) (ha:ev a = .agg vs) (hc:fH Tryz.prog 23 1 [(0,.agg vs)]=some v1):cU Tryz.prog ev S o=some (v1,S):=by
 subst lP
 show still S (fH Tryz.prog 23 1 [(0,ev a)])=_
 rw [ha,hc]
 rfl
def ig (n:Int):List V:=[.d (.str EC),.sl [] .full,.sl [[.int .i64 6,.str [],.sl []]] .full,.sl [[.int .i64 6,.sl [],.int .i64 0,.str [],.sl [],.sl [],.sl [[.int .i64 2,.str [],.int .u64 n,.int .i64 0,.str [],.sl [],.sl [],.sl []]],.sl [],.sl [],.sl []]] .full]
theorem N4 (n:Int):fH Tryz.prog 23 1 [(0,.agg (ig n))]=some (.sl [cT (bS n aQ)] .full):=by kernel_rfl
section
variable {p:kW} {z:Nat × Nat} {k:List Item} {R:V→Mem→Prop}
set_option maxHeartbeats 4000000 in
theorem EE {n:Int} {qr:List V} {e:V} (Uw:(p.funcs.length+2)*88≤140737488355328)
 (rest:af Tryz.prog av z 6 k (aR 96 [(8,.ptr 3 0),(7,.ptr 2 0),(6,e),(5,.ptr 1 0),(2,.ptr 0 0)]) ⟨[[.d (.sl (p.structs.map ef)),.d (.sl (p.funcs.map cT))],qr,ig n,[.d (.sl (p.structs.map ef)),.sl (p.funcs.map cT++[cT (bS n aQ)]) (.own 0)]],[((p.funcs.map cT).length+1,4)]⟩ R) :
 af Tryz.prog av z 6 (.code (.region 7 (opsOf (kF Tryz.f6 23)) true) :: k) (aR 96 [(7,.ptr 2 0),(6,e),(5,.ptr 1 0),(2,.ptr 0 0)]) ⟨[[.d (.sl (p.structs.map ef)),.d (.sl (p.funcs.map cT))],qr,ig n],[]⟩ R:=by
 have dJ:(opsOf (kF Tryz.f6 23)).size=12:=by kernel_rfl
 have oV:cy 4 (p.funcs.map cT)=true:=by
  unfold cy
  rw [List.all_eq_true]
  intro r hr
  obtain ⟨x,_,rfl⟩:=List.mem_map.1 hr
  rfl
 have hl:((p.funcs.map cT).length+2)*88≤140737488355328:=by rw [List.length_map];exact Uw
 generalize p.funcs.map cT=fs at oV hl rest ⊢
 generalize hs:p.structs.map ef=ss at rest ⊢
 have fin:∀ env S,Go.Ab.gO (aR 96 [(8,.ptr 3 0),(7,.ptr 2 0),(6,e),(5,.ptr 1 0),(2,.ptr 0 0)]) env→S=⟨[[.d (.sl ss),.d (.sl fs)],qr,ig n,[.d (.sl ss),.sl (fs++[cT (bS n aQ)]) (.own 0)]],[(fs.length+1,4)]⟩→af Tryz.prog av z 6 k env S R:=fun env S he h=>h ▸ af.fV he rest
 refine af.Sq [5,8,10,11] (fun S=>S.boxes[0]? = some [V.d (.sl ss),V.d (.sl fs)]∧S.boxes[2]? = some (ig n)) (by kernel_rfl) ?_
 rw [dJ]
 refine gA 0 (v:=.ptr 0 0) (oi:=bh (opsOf (kF Tryz.f6 23)) 0) (by kernel_rfl) (by rfl) (by kernel_rfl) (by kernel_rfl) (by kernel_rfl) (fun S hS=>by kernel_rfl) ?_
 refine gA 1 (v:=.d (.sl ss)) (oi:=bh (opsOf (kF Tryz.f6 23)) 1) (by kernel_rfl) (by rfl) (by kernel_rfl) (by kernel_rfl) (by kernel_rfl) (fun S hS=>qf (q:=0) (a:=.tmp 39) hS.1 (by kernel_rfl) Sr rfl (by kernel_rfl) rfl) ?_
 refine gA 2 (v:=.sl [] .full) (oi:=bh (opsOf (kF Tryz.f6 23)) 2) (by kernel_rfl) (by rfl) (by kernel_rfl) (by kernel_rfl) (by kernel_rfl) (fun S hS=>by kernel_rfl) ?_
 refine gA 3 (v:=.ptr 0 1) (oi:=bh (opsOf (kF Tryz.f6 23)) 3) (by kernel_rfl) (by rfl) (by kernel_rfl) (by kernel_rfl) (by kernel_rfl) (fun S hS=>by kernel_rfl) ?_
 refine gA 4 (v:=.d (.sl fs)) (oi:=bh (opsOf (kF Tryz.f6 23)) 4) (by kernel_rfl) (by rfl) (by kernel_rfl) (by kernel_rfl) (by kernel_rfl) (fun S hS=>qf (q:=1) (a:=.tmp 42) hS.1 (by kernel_rfl) IF rfl (by kernel_rfl) rfl) ?_
 refine gA 6 (v:=.agg (ig n)) (oi:=bh (opsOf (kF Tryz.f6 23)) 6) (by kernel_rfl) (by rfl) (by kernel_rfl) (by kernel_rfl) (by kernel_rfl) (fun S hS=>N3 (a:=.tmp 7) hS.2 (by kernel_rfl) BR rfl (by kernel_rfl) rfl) ?_
 refine gA 7 (v:=.sl [cT (bS n aQ)] .full) (oi:=bh (opsOf (kF Tryz.f6 23)) 7) (by kernel_rfl) (by rfl) (by kernel_rfl) (by kernel_rfl) (by kernel_rfl) (fun S hS=>KS (a:=.tmp 45) (by kernel_rfl) (by kernel_rfl) (N4 n)) ?_
 refine vB 5 10 (o:=bh (opsOf (kF Tryz.f6 23)) 5) (o2:=bh (opsOf (kF Tryz.f6 23)) 10) ⟨rfl,rfl⟩ (by kernel_rfl) (by kernel_rfl) (by kernel_rfl) (by rfl) (by rfl) ?_ ?_
 ·refine jN (v:=.sl fs (.own 0)) (S':=⟨[[V.d (.sl ss),V.d (.sl fs)],qr,ig n],[(fs.length,4)]⟩) (by kernel_rfl) (IS (a:=.tmp 41) (b:=.tmp 43) (by kernel_rfl) (by kernel_rfl) (by kernel_rfl) oV (by omega)) ?_
  refine vB 8 10 (o:=bh (opsOf (kF Tryz.f6 23)) 8) (o2:=bh (opsOf (kF Tryz.f6 23)) 10) ⟨rfl,rfl⟩ (by kernel_rfl) (by kernel_rfl) (by kernel_rfl) (by rfl) (by rfl) ?_ ?_
  ·refine jN (v:=.sl (fs++[cT (bS n aQ)]) (.own 0)) (S':=⟨[[V.d (.sl ss),V.d (.sl fs)],qr,ig n],[(fs.length+1,4)]⟩) (by kernel_rfl) (BS (a:=.tmp 44) (b:=.tmp 46) (by kernel_rfl) (by kernel_rfl) (by kernel_rfl) rfl rfl (by omega)) ?_
   refine gA 9 (v:=.agg [.d (.sl ss),.sl (fs++[cT (bS n aQ)]) (.own 0)]) (oi:=bh (opsOf (kF Tryz.f6 23)) 9) (by kernel_rfl) (by rfl) (by kernel_rfl) (by kernel_rfl) (by kernel_rfl) (fun S hS=>kK (a:=.tmp 40) (b:=.tmp 47) (by kernel_rfl) (by kernel_rfl) (by kernel_rfl) rfl rfl) ?_
   refine gk 10 (o:=bh (opsOf (kF Tryz.f6 23)) 10) ⟨rfl,rfl⟩ (by kernel_rfl) (by kernel_rfl) (by rfl) (jN (v:=.ptr 3 0) (S':=⟨[[V.d (.sl ss),V.d (.sl fs)],qr,ig n,[V.sl [] .full,.sl [] .full]],[(fs.length+1,4)]⟩) (by kernel_rfl) (by kernel_rfl) ?_)
   refine gk 11 (o:=bh (opsOf (kF Tryz.f6 23)) 11) ⟨rfl,rfl⟩ (by kernel_rfl) (by kernel_rfl) (by rfl) (jN (v:=.undef) (S':=⟨[[V.d (.sl ss),V.d (.sl fs)],qr,ig n,[V.d (.sl ss),.sl (fs++[cT (bS n aQ)]) (.own 0)]],[(fs.length+1,4)]⟩) (by kernel_rfl) (kL (M:=[[V.d (.sl ss),V.d (.sl fs)],qr,ig n,[V.sl [] .full,.sl [] .full]]) (T:=[(fs.length+1,4)]) (j:=3) (v1:=.d (.sl ss)) (v2:=.sl (fs++[cT (bS n aQ)]) (.own 0)) (u1:=.sl [] .full) (u2:=.sl [] .full) (a:=.tmp 8) (x:=.tmp 48) (by kernel_rfl) (by kernel_rfl) (by kernel_rfl) rfl) ?_)
   refine ⟨⟨rfl,rfl⟩,by kernel_rfl,fin _ _ ?_ rfl⟩
   simp only [W,seval,c6]
   refine ay.env _ ?_
   simp only [cD,seval]
  ·refine jN (v:=.ptr 3 0) (S':=⟨[[V.d (.sl ss),V.d (.sl fs)],qr,ig n,[V.sl [] .full,.sl [] .full]],[(fs.length,4)]⟩) (by kernel_rfl) (by kernel_rfl) ?_
   refine gk 8 (o:=bh (opsOf (kF Tryz.f6 23)) 8) ⟨rfl,rfl⟩ (by kernel_rfl) (by kernel_rfl) (by rfl) (jN (v:=.sl (fs++[cT (bS n aQ)]) (.own 0)) (S':=⟨[[V.d (.sl ss),V.d (.sl fs)],qr,ig n,[V.sl [] .full,.sl [] .full]],[(fs.length+1,4)]⟩) (by kernel_rfl) (BS (a:=.tmp 44) (b:=.tmp 46) (by kernel_rfl) (by kernel_rfl) (by kernel_rfl) rfl rfl (by omega)) ?_)
   refine gA 9 (v:=.agg [.d (.sl ss),.sl (fs++[cT (bS n aQ)]) (.own 0)]) (oi:=bh (opsOf (kF Tryz.f6 23)) 9) (by kernel_rfl) (by rfl) (by kernel_rfl) (by kernel_rfl) (by kernel_rfl) (fun S hS=>kK (a:=.tmp 40) (b:=.tmp 47) (by kernel_rfl) (by kernel_rfl) (by kernel_rfl) rfl rfl) ?_
   refine gk 11 (o:=bh (opsOf (kF Tryz.f6 23)) 11) ⟨rfl,rfl⟩ (by kernel_rfl) (by kernel_rfl) (by rfl) (jN (v:=.undef) (S':=⟨[[V.d (.sl ss),V.d (.sl fs)],qr,ig n,[V.d (.sl ss),.sl (fs++[cT (bS n aQ)]) (.own 0)]],[(fs.length+1,4)]⟩) (by kernel_rfl) (kL (M:=[[V.d (.sl ss),V.d (.sl fs)],qr,ig n,[V.sl [] .full,.sl [] .full]]) (T:=[(fs.length+1,4)]) (j:=3) (v1:=.d (.sl ss)) (v2:=.sl (fs++[cT (bS n aQ)]) (.own 0)) (u1:=.sl [] .full) (u2:=.sl [] .full) (a:=.tmp 8) (x:=.tmp 48) (by kernel_rfl) (by kernel_rfl) (by kernel_rfl) rfl) ?_)
   refine ⟨⟨rfl,rfl⟩,by kernel_rfl,fin _ _ ?_ rfl⟩
   simp only [W,seval,c6]
   refine ay.env _ ?_
   simp only [cD,seval]
 ·refine jN (v:=.ptr 3 0) (S':=⟨[[V.d (.sl ss),V.d (.sl fs)],qr,ig n,[V.sl [] .full,.sl [] .full]],[]⟩) (by kernel_rfl) (by kernel_rfl) ?_
  refine gk 5 (o:=bh (opsOf (kF Tryz.f6 23)) 5) ⟨rfl,rfl⟩ (by kernel_rfl) (by kernel_rfl) (by rfl) (jN (v:=.sl fs (.own 0)) (S':=⟨[[V.d (.sl ss),V.d (.sl fs)],qr,ig n,[V.sl [] .full,.sl [] .full]],[(fs.length,4)]⟩) (by kernel_rfl) (IS (a:=.tmp 41) (b:=.tmp 43) (by kernel_rfl) (by kernel_rfl) (by kernel_rfl) oV (by omega)) ?_)
  refine gk 8 (o:=bh (opsOf (kF Tryz.f6 23)) 8) ⟨rfl,rfl⟩ (by kernel_rfl) (by kernel_rfl) (by rfl) (jN (v:=.sl (fs++[cT (bS n aQ)]) (.own 0)) (S':=⟨[[V.d (.sl ss),V.d (.sl fs)],qr,ig n,[V.sl [] .full,.sl [] .full]],[(fs.length+1,4)]⟩) (by kernel_rfl) (BS (a:=.tmp 44) (b:=.tmp 46) (by kernel_rfl) (by kernel_rfl) (by kernel_rfl) rfl rfl (by omega)) ?_)
  refine gA 9 (v:=.agg [.d (.sl ss),.sl (fs++[cT (bS n aQ)]) (.own 0)]) (oi:=bh (opsOf (kF Tryz.f6 23)) 9) (by kernel_rfl) (by rfl) (by kernel_rfl) (by kernel_rfl) (by kernel_rfl) (fun S hS=>kK (a:=.tmp 40) (b:=.tmp 47) (by kernel_rfl) (by kernel_rfl) (by kernel_rfl) rfl rfl) ?_
  refine gk 11 (o:=bh (opsOf (kF Tryz.f6 23)) 11) ⟨rfl,rfl⟩ (by kernel_rfl) (by kernel_rfl) (by rfl) (jN (v:=.undef) (S':=⟨[[V.d (.sl ss),V.d (.sl fs)],qr,ig n,[V.d (.sl ss),.sl (fs++[cT (bS n aQ)]) (.own 0)]],[(fs.length+1,4)]⟩) (by kernel_rfl) (kL (M:=[[V.d (.sl ss),V.d (.sl fs)],qr,ig n,[V.sl [] .full,.sl [] .full]]) (T:=[(fs.length+1,4)]) (j:=3) (v1:=.d (.sl ss)) (v2:=.sl (fs++[cT (bS n aQ)]) (.own 0)) (u1:=.sl [] .full) (u2:=.sl [] .full) (a:=.tmp 8) (x:=.tmp 48) (by kernel_rfl) (by kernel_rfl) (by kernel_rfl) rfl) ?_)
  refine ⟨⟨rfl,rfl⟩,by kernel_rfl,fin _ _ ?_ rfl⟩
  simp only [W,seval,c6]
  refine ay.env _ ?_
  simp only [cD,seval]
end
theorem Ai (b:List (List UInt8)) (x:List UInt8):gN b [x]=(!b.contains x && !(x == [95])):=by
 rw [jG,zZ,Bool.and_true]
theorem IT {n:List UInt8} {p:kW} (h:za n p=false):(∀ s∈p.structs,s.name ≠ n)∧∀ f∈p.funcs,f.name ≠ n∧eB n f.body=false∧∀ q∈f.params,q.name ≠ n:=by
 unfold za at h
 rw [Bool.or_eq_false_iff,List.any_eq_false,List.any_eq_false] at h
 refine ⟨fun s hs e=>h.1 s hs (decide_eq_true e),fun f hf=>?_⟩
 have h2:=h.2 f hf
 simp only [Bool.or_eq_true,not_or,decide_eq_true_eq,Bool.not_eq_true,List.any_eq_true,not_exists,not_and] at h2
 exact ⟨h2.1.1,h2.1.2,fun q hq=>h2.2 q hq⟩
theorem KT {p:kW} {n:Int} (h:za EC p=false):lG p.structs (p.funcs++[bS n aQ])=lG p.structs p.funcs∧lG p.structs ((p.funcs++[bS n aQ])++[bS n aQ])=false:=by
 obtain ⟨h1,h2⟩:=IT h
 have Yh:(p.structs.map cG.name++p.funcs.map cn.name).contains EC=false:=by
  cases hc:(p.structs.map cG.name++p.funcs.map cn.name).contains EC with
  | false=>rfl
  | true =>
   rw [List.contains_iff_mem,List.mem_append,List.mem_map,List.mem_map] at hc
   rcases hc with ⟨s,hs,e⟩ | ⟨f,hf,e⟩
   ·exact absurd e (h1 s hs)
   ·exact absurd e (h2 f hf).1
 have hd:∀ l,gN [] (p.structs.map cG.name++(p.funcs++l).map cn.name)=(gN [] (p.structs.map cG.name++p.funcs.map cn.name) && gN (p.structs.map cG.name++p.funcs.map cn.name) (l.map cn.name)):=fun l=>by
  rw [List.map_append,← List.append_assoc,Ac,List.nil_append]
 have hf:∀ f∈p.funcs,lF p.structs (p.funcs++[bS n aQ]) f=lF p.structs p.funcs f:=fun f hf=>by
  unfold lF
  congr 1
  have:∀ l:List bH,(∀ q∈l,q.name ≠ EC)→l.all (fun q=>bQ p.structs q.type && fq p.structs (p.funcs++[bS n aQ]) q.name)=l.all fun q=>bQ p.structs q.type && fq p.structs p.funcs q.name:=by
   intro l
   induction l with
   | nil=>exact fun _=>rfl
   | cons q l ih =>
    intro hq
    rw [List.all_cons,List.all_cons,ih fun x hx=>hq x (List.mem_cons_of_mem _ hx),Af fun e=>hq q List.mem_cons_self e.symm]
  exact this _ (h2 f hf).2.2
 constructor
 ·unfold lG
  rw [hd]
  have e1:gN (p.structs.map cG.name++p.funcs.map cn.name) ([bS n aQ].map cn.name)=true:=by
   show gN _ [EC]=true
   rw [Ai,Yh]
   rfl
  have e2:(p.funcs++[bS n aQ]).all (lF p.structs (p.funcs++[bS n aQ]))=p.funcs.all (lF p.structs p.funcs):=by
   rw [List.all_append]
   have e3:[bS n aQ].all (lF p.structs (p.funcs++[bS n aQ]))=true:=rfl
   rw [e3,Bool.and_true]
   have:∀ l:List cn,(∀ f∈l,lF p.structs (p.funcs++[bS n aQ]) f=lF p.structs p.funcs f)→l.all (lF p.structs (p.funcs++[bS n aQ]))=l.all (lF p.structs p.funcs):=by
    intro l
    induction l with
    | nil=>exact fun _=>rfl
    | cons q l ih=>intro hq;rw [List.all_cons,List.all_cons,hq q List.mem_cons_self,ih fun x hx=>hq x (List.mem_cons_of_mem _ hx)]
   exact this _ hf
  rw [e1,e2,Bool.and_true]
 ·unfold lG
  rw [List.append_assoc,hd]
  have e1:gN (p.structs.map cG.name++p.funcs.map cn.name) (([bS n aQ]++[bS n aQ]).map cn.name)=false:=by
   show gN _ [EC,EC]=false
   rw [jG,Ai]
   simp
  rw [e1,Bool.and_false,Bool.false_and]
theorem EF {α β:Type} {g:α→Option β}:∀ {l:List α} {ys:List β},l.mapM g=some ys→ys.length=l.length
 | [],ys,h=>by
  rw [List.mapM_nil] at h
  cases h
  rfl
 | x :: l,ys,h=>by
  rw [List.mapM_cons] at h
  cases hx:g x with
  | none=>rw [hx] at h;cases h
  | some a =>
   rw [hx] at h
   cases hl:l.mapM g with
   | none=>rw [hl] at h;cases h
   | some zs =>
    rw [hl] at h
    cases h
    rw [List.length_cons,List.length_cons,EF hl]
theorem N5 {K:Nat} {p:kW} {n:Int} (hK:0 < K) (h:za EC p=false) (hn:n≤18446744073709551615) (hc:(nT K p 0).1=true→JO K p≤2000) :
 ((fY (nT K p 0).1 p).2 ≠ 0∧(fY (nT K ⟨p.structs,p.funcs++[bS n aQ]⟩ 0).1 ⟨p.structs,p.funcs++[bS n aQ]⟩).2=(fY (nT K p 0).1 p).2) ∨
 (∃ fs,fs.length=p.funcs.length∧fY (nT K p 0).1 p=(⟨p.structs,fs⟩,0)∧fY (nT K ⟨p.structs,p.funcs++[bS n aQ]⟩ 0).1 ⟨p.structs,p.funcs++[bS n aQ]⟩=(⟨p.structs,fs++[bS n tR]⟩,0) ∧
  fY (nT K ⟨p.structs,(p.funcs++[bS n aQ])++[bS n aQ]⟩ 0).1 ⟨p.structs,(p.funcs++[bS n aQ])++[bS n aQ]⟩=(⟨[],[]⟩,52)):=by
 obtain ⟨K,rfl⟩:∃ k,K=k+1:=⟨K - 1,by omega⟩
 obtain ⟨g1,g2⟩:=KT (n:=n) h
 obtain ⟨_,n2⟩:=IT h
 rw [xR,xR,show nT (K+1) ⟨p.structs,p.funcs++[bS n aQ]⟩=aP (nT (K+1) ⟨p.structs,p.funcs⟩) (uZ (K+1) (bS n aQ)) from funext fun q=>xR (K+1) p.structs p.funcs (bS n aQ) q]
 cases hr:(nT (K+1) p 0).1 with
 | false =>
  left
  have e:(aP (nT (K+1) ⟨p.structs,p.funcs⟩) (uZ (K+1) (bS n aQ)) 0).1=false:=by
   unfold aP
   rw [if_pos hr]
  rw [e]
  exact ⟨show (2:Int) ≠ 0 by decide,rfl⟩
 | true =>
  have abD:=hc hr
  rw [MH (K+1) p 0 hr] at abD
  have agn:=(aK.pr (K+1) p).wJ 0 hr
  have hq:(nT (K+1) ⟨p.structs,p.funcs⟩ 0).2≤2000:=by
   show (nT (K+1) p 0).2≤2000
   omega
  have e1:aP (nT (K+1) ⟨p.structs,p.funcs⟩) (uZ (K+1) (bS n aQ)) 0=(true,(nT (K+1) ⟨p.structs,p.funcs⟩ 0).2+4):=by
   rw [aN hr,IQ K n _ (by omega)]
  have e2:aP (aP (nT (K+1) ⟨p.structs,p.funcs⟩) (uZ (K+1) (bS n aQ))) (uZ (K+1) (bS n aQ)) 0=(true,(nT (K+1) ⟨p.structs,p.funcs⟩ 0).2+4+4):=by
   rw [aN (by rw [e1]),e1,IQ K n _ (by show (nT (K+1) ⟨p.structs,p.funcs⟩ 0).2+4≤50000;omega)]
  rw [e1,e2]
  unfold fY
  rw [if_pos rfl,if_pos rfl,if_pos rfl]
  dsimp only
  rw [g1,g2,if_neg (show ¬ (false=true) by decide)]
  cases hh:lG p.structs p.funcs with
  | false=>exact .inl ⟨show (52:Int) ≠ 0 by decide,rfl⟩
  | true =>
   rw [if_pos rfl,if_pos rfl]
   have hm:(p.funcs++[bS n aQ]).mapM (gm p.structs (p.funcs++[bS n aQ]))=(p.funcs.mapM (gm p.structs p.funcs)).map fun ys=>ys++[bS n tR]:=by
    rw [ED,KR _ _ _ hn]
    have:p.funcs.mapM (gm p.structs (p.funcs++[bS n aQ]))=p.funcs.mapM (gm p.structs p.funcs):=Ah fun f hf=>by
     unfold gm
     rw [lH (m:=bS n aQ) f.results f.body (n2 f hf).2.1]
    rw [this]
    cases p.funcs.mapM (gm p.structs p.funcs)<;>rfl
   rw [hm]
   cases NC:p.funcs.mapM (gm p.structs p.funcs) with
   | none=>exact .inl ⟨show (52:Int) ≠ 0 by decide,rfl⟩
   | some fs=>exact .inr ⟨fs,EF NC,rfl,rfl,rfl⟩
def c36:=by
 have c:=aM Tryz.f36 (by conv=>lhs;cbv)
 dsimp only [KK,eN,eG,eH,List.map_cons,List.map_nil,List.toList_toArray] at c
 exact c
theorem b36:bI Tryz.prog 36 Tryz.f36 17:=⟨Tryz.func36,by kernel_rfl⟩
def c38:=by
 have c:=aM Tryz.f38 (by conv=>lhs;cbv)
 dsimp only [KK,eN,eG,eH,List.map_cons,List.map_nil,List.toList_toArray] at c
 exact c
theorem b38:bI Tryz.prog 38 Tryz.f38 19:=⟨Tryz.func38,by kernel_rfl⟩
def UC:=by
 have c:=aM Tryz.f40 (by conv=>lhs;cbv)
 dsimp only [KK,eN,eG,eH,List.map_cons,List.map_nil,List.toList_toArray] at c
 exact c
theorem b40:bI Tryz.prog 40 Tryz.f40 33:=⟨Tryz.func40,by kernel_rfl⟩
def Zi:=by
 have c:=aM Tryz.f15 (by conv=>lhs;cbv)
 dsimp only [KK,eN,eG,eH,List.map_cons,List.map_nil,List.toList_toArray] at c
 exact c
theorem b15:bI Tryz.prog 15 Tryz.f15 24:=⟨Tryz.func15,by kernel_rfl⟩
set_option maxHeartbeats 1000000 in
theorem Aj (x y:bH) (S:Mem):aF Tryz.prog av 36 [Cd x,Cd y] S (aB (.d (.bool (yQ x y))) S):=by
 refine aF.same (v:=.d (.bool (yQ x y))) ?_ rfl rfl S
 unfold yQ
 have fD:=iE x.type y.type
 unfold aY at fD
 unfold Cd
 cases h1:decide (x.name=y.name)
 ·refine b36.go 200 rfl fun _=>?_
  simp only [W,seval,c36,h1]
  refine af.ret Tryz.func36 rfl (Left.empty ?_)
  exact ⟨rfl,rfl⟩
 refine b36.go 200 rfl fun _=>?_
 simp only [W,seval,c36,h1]
 refine ag (fD _) ?_
 rintro _ _ ⟨rfl,rfl⟩
 refine af.go 200 ?_
 simp only [W,seval,c36]
 refine af.ret Tryz.func36 rfl (Left.empty ?_)
 exact ⟨rfl,rfl⟩
set_option maxHeartbeats 1000000 in
theorem KU (x y:cG) (a:Nat) (B:List (List V)) (T:List (Nat × Nat)) (ha:B[a]? = some [.func 36 [] []]):aF Tryz.prog av 38 [yL x,yL y,.ptr a 0] ⟨B,T⟩ (aB (.d (.bool (Gs x y))) ⟨B,T⟩):=by
 obtain ⟨N,hn⟩:∃ N,B.length=N:=⟨_,rfl⟩
 have we:a < N:=by have:=(List.getElem?_eq_some_iff.1 ha).1;omega
 unfold Gs
 have uC:=fun B T=>nW 36 [] [] yQ x.fields y.fields B T (fun p _ q _ J=>Aj p q _)
 unfold yL
 cases h1:decide (x.name=y.name)
 ·refine b38.go 200 rfl fun bk=>?_
  simp only [dP] at bk
  simp only [W,seval,c38,h1,hn,we,ha]
  refine af.ret Tryz.func38 rfl (Left.box ?_)
  exact ⟨rfl,rfl⟩
 refine b38.go 200 rfl fun bk=>?_
 simp only [dP] at bk
 simp only [W,seval,c38,h1,hn,we,ha]
 refine ag (uC _ _) ?_
 rintro _ _ ⟨rfl,rfl⟩
 refine af.go 200 ?_
 simp only [W,seval,c38,hn,we]
 refine af.ret Tryz.func38 rfl (Left.box ?_)
 exact ⟨rfl,rfl⟩
set_option maxHeartbeats 1000000 in
theorem KV (x y:cn) (a:Nat) (B:List (List V)) (T:List (Nat × Nat)) (ha:B[a]? = some [.func 36 [] []]):aF Tryz.prog av 40 [yM x,yM y,.ptr a 0] ⟨B,T⟩ (aB (.d (.bool (Kl x y))) ⟨B,T⟩):=by
 obtain ⟨N,hn⟩:∃ N,B.length=N:=⟨_,rfl⟩
 have we:a < N:=by have:=(List.getElem?_eq_some_iff.1 ha).1;omega
 unfold Kl
 have uC:=fun B T=>nW 36 [] [] yQ x.params y.params B T (fun p _ q _ J=>Aj p q _)
 have U3:=fun B T=>lp 37 [] [] yq x.results y.results B T (fun p _ q _ J=>iE p q _)
 have Bl:=fun B T=>iX 43 [] [] oo x.body y.body B T (fun p _ q _ J=>uH p q _)
 unfold yM
 cases h1:decide (x.name=y.name)
 ·refine b40.go 200 rfl fun bk=>?_
  simp only [dP] at bk
  simp only [W,seval,UC,h1,hn,we,ha]
  refine af.ret Tryz.func40 rfl (Left.box ?_)
  exact ⟨rfl,rfl⟩
 refine b40.go 200 rfl fun bk=>?_
 simp only [dP] at bk
 simp only [W,seval,UC,h1,hn,we,ha]
 refine ag (uC _ _) ?_
 rintro _ _ ⟨rfl,rfl⟩
 cases h2:gd yQ x.params y.params
 ·refine af.go 200 ?_
  simp only [W,seval,UC,hn,we,h2]
  refine af.ret Tryz.func40 rfl (Left.box ?_)
  exact ⟨rfl,rfl⟩
 refine af.go 200 ?_
 simp only [W,seval,UC,hn,we,h2]
 refine ag (U3 _ _) ?_
 rintro _ _ ⟨rfl,rfl⟩
 cases h3:gd yq x.results y.results
 ·refine af.go 200 ?_
  simp only [W,seval,UC,hn,we,h3]
  refine af.ret Tryz.func40 rfl (Left.box ?_)
  exact ⟨rfl,rfl⟩
 refine af.go 200 ?_
 simp only [W,seval,UC,hn,we,h3]
 refine ag (Bl _ _) ?_
 rintro _ _ ⟨rfl,rfl⟩
 refine af.go 200 ?_
 simp only [W,seval,UC,hn,we]
 refine af.ret Tryz.func40 rfl (Left.box ?_)
 exact ⟨rfl,rfl⟩
set_option maxHeartbeats 1000000 in
theorem Rq (p q:kW) (S:Mem):aF Tryz.prog av 15 [ju p,ju q] S (aB (.d (.bool (Nl p q))) S):=by
 refine aF.same (v:=.d (.bool (Nl p q))) ?_ rfl rfl S
 unfold Nl
 have Vs:=fun B T (h:∀ J,(B++J)[2]? = some [.func 36 [] []])=>tT 38 [] [.ptr 2 0] Gs p.structs q.structs B T (fun x _ y _ J=>KU x y 2 _ T (h J))
 have Uw:=fun B T (h:∀ J,(B++J)[2]? = some [.func 36 [] []])=>xl 40 [] [.ptr 2 0] Kl p.funcs q.funcs B T (fun x _ y _ J=>KV x y 2 _ T (h J))
 unfold ju
 refine b15.go 200 rfl fun _=>?_
 simp only [W,seval,Zi]
 refine ag (Vs _ _ (fun J=>rfl)) ?_
 rintro _ _ ⟨rfl,rfl⟩
 cases h2:gd Gs p.structs q.structs
 ·refine af.go 200 ?_
  simp only [W,seval,Zi,h2]
  refine af.ret Tryz.func15 rfl (Left.empty ?_)
  exact ⟨rfl,rfl⟩
 refine af.go 200 ?_
 simp only [W,seval,Zi,h2]
 refine ag (Uw _ _ (fun J=>rfl)) ?_
 rintro _ _ ⟨rfl,rfl⟩
 refine af.go 200 ?_
 simp only [W,seval,Zi]
 refine af.ret Tryz.func15 rfl (Left.empty ?_)
 exact ⟨rfl,rfl⟩
mutual
theorem pI:∀ t:aA,yq t t=true
 | .mk k n es=>by
  rw [yq,Ak es]
  simp
theorem Ak:∀ l:List aA,rm l l=true
 | []=>by rw [rm]
 | t :: l=>by
  rw [rm,pI t,Ak l]
  rfl
end
mutual
theorem N6:∀ x:aj,E4 x x=true
 | .mk k t i ty ns ks=>by
  rw [E4,pI ty,qi ks]
  simp
theorem qi:∀ l:List aj,va l l=true
 | []=>by rw [va]
 | t :: l=>by
  rw [va,N6 t,qi l]
  rfl
end
mutual
theorem Al:∀ x:aH,oo x x=true
 | .mk k ns ty ls es b e cs=>by
  rw [oo,pI ty,qi ls,qi es,nL b,nL e,xS cs]
  simp
theorem nL:∀ l:List aH,nX l l=true
 | []=>by rw [nX]
 | t :: l=>by
  rw [nX,Al t,nL l]
  rfl
theorem KW:∀ c:cJ,yP c c=true
 | .mk i b=>by
  rw [yP,nL b]
  simp
theorem xS:∀ l:List cJ,qJ l l=true
 | []=>by rw [qJ]
 | t :: l=>by
  rw [qJ,KW t,xS l]
  rfl
end
theorem lI {α:Type} (e:α→α→Bool) (h:∀ x,e x x=true):∀ l:List α,gd e l l=true
 | []=>rfl
 | x :: l=>by
  rw [gd,h x,lI e h l]
  rfl
theorem KX (p:kW):Nl p p=true:=by
 have uC:∀ x,yQ x x=true:=fun x=>by simp [yQ,pI]
 have Vs:∀ x,Gs x x=true:=fun x=>by simp [Gs,lI _ uC]
 have Uw:∀ x,Kl x x=true:=fun x=>by simp [Kl,lI _ uC,lI _ pI,lI _ Al]
 simp [Nl,lI _ Vs,lI _ Uw]
def XX:=by
 have c:=aM Tryz.f53 (by conv=>lhs;cbv)
 dsimp only [KK,eN,eG,eH,List.map_cons,List.map_nil,List.toList_toArray] at c
 exact c
theorem b53:bI Tryz.prog 53 Tryz.f53 31:=⟨Tryz.func53,by kernel_rfl⟩
def EG:=by
 have c:=aM Tryz.f100 (by conv=>lhs;cbv)
 dsimp only [KK,eN,eG,eH,List.map_cons,List.map_nil,List.toList_toArray] at c
 exact c
theorem abG:bI Tryz.prog 100 Tryz.f100 50:=⟨Tryz.func100,by kernel_rfl⟩
def XY:=by
 have c:=aM Tryz.f52 (by conv=>lhs;cbv)
 dsimp only [KK,eN,eG,eH,List.map_cons,List.map_nil,List.toList_toArray] at c
 exact c
theorem b52:bI Tryz.prog 52 Tryz.f52 31:=⟨Tryz.func52,by kernel_rfl⟩
def cN (n:Int):Int:=IntKind.i64.wrap n
mutual
def IU:aA→Int→Int
 | .mk _ _ es,m=>KY es 1 m
def KY:List aA→Int→Int→Int
 | [],n,_=>n
 | e :: es,n,m=>if n≤m then KY es (cN (n+IU e (cN (m - n)))) m else n
end
def BT (t:aA) (n m:Int):Int:=if dB t=true then n else cN (n+IU t (cN (m - n)))
mutual
def e1W:aj→Int→Int→Int
 | .mk _ _ _ ty _ ks,n,m=>cN (BT ty (cN (n+1)) m+Am ks 0 (cN (m - BT ty (cN (n+1)) m)))
def Am:List aj→Int→Int→Int
 | [],n,_=>n
 | x :: l,n,m=>if n≤m then Am l (e1W x n m) m else n
end
def Ls:List bH→Int→Int→Int
 | [],n,_=>n
 | x :: l,n,m=>if n≤m then Ls l (cN (cN (n+1)+IU x.type (cN (m - n)))) m else n
theorem N7 (t:aA) (m:Int):IU t m=KY t.elem 1 m:=by cases t;rw [IU];rfl
theorem N8 (x:aj) (n m:Int):e1W x n m=cN (BT x.type (cN (n+1)) m+Am x.kids 0 (cN (m - BT x.type (cN (n+1)) m))):=by cases x;rw [e1W];rfl
theorem EH (t:aA) (S:Mem):aF Tryz.prog av 99 [aY t] S (aB (.d (.bool (dB t))) S):=Qh t S.boxes S.aL
def Rr (t:aA):Prop:=∀ (m:Int) (S:Mem),aF Tryz.prog av 53 [aY t,.d (.int .i64 m)] S (aB (.d (.int .i64 (IU t m))) S)
set_option maxHeartbeats 1000000 in
theorem KZ (t:aA) (h:∀ x∈t.elem,Rr x):Rr t:=by
 intro m S
 refine aF.same (v:=.d (.int .i64 (IU t m))) ?_ rfl rfl S
 generalize bR:IU t m=res
 rw [N7] at bR
 unfold aY
 refine b53.go 30 rfl fun bk=>?_
 simp only [dP] at bk
 simp only [W,seval,XX]
 have hf:Fits ⟨[[.d (.int .i64 t.kind),.d (.str t.name),.d (.sl (t.elem.map dR))]],[]⟩:=fun vs nr=>by
  simp only [List.mem_cons,List.not_mem_nil,or_false] at nr
  subst nr
  rfl
 refine af.dc (fun a:Nat × Int=>(aR 31 [(1,.d (.int .i64 m)),(2,.ptr 0 0),(5,.d (.int .i64 a.2)),(6,.d (.int .i64 a.1))],⟨[[.d (.int .i64 t.kind),.d (.str t.name),.d (.sl (t.elem.map dR))]],[]⟩)) (fun a=>a.1≤t.elem.length∧KY (t.elem.drop a.1) a.2 m=res) (fun a=>t.elem.length - a.1) (0,1) ⟨by omega,bR⟩ ?_ rfl ?_
 ·skip
  refine ay.env _ ?_
  simp only [cD,seval]
 rintro ⟨i,q⟩ ⟨h1,h2⟩ ih
 dsimp only at h1 h2 ih ⊢
 by_cases au:i < t.elem.length
 ·have hw:=az ((i:Int)+1) (by omega)
  have aC:decide ((i:Int) < (t.elem.length:Int))=true:=decide_eq_true (by omega)
  have hg:=List.getElem?_eq_getElem au
  have E6:=h t.elem[i] (List.getElem_mem au)
  rw [aX au] at h2
  obtain ⟨x,hx⟩:∃ x,t.elem[i]=x:=⟨_,rfl⟩
  rw [hx] at hg h2 E6
  rw [KY] at h2
  unfold Rr aY at E6
  cases hle:decide (q≤m)
  ·rw [if_neg (of_decide_eq_false hle)] at h2
   refine af.go 200 ?_
   simp only [W,seval,XX,aC,hle]
   refine af.ret Tryz.func53 rfl (Left.empty ?_)
   rw [h2]
   exact ⟨rfl,rfl⟩
  ·rw [if_pos (of_decide_eq_true hle)] at h2
   refine af.go 200 ?_
   simp only [W,seval,XX,List.getElem?_map,hg,aC,hle,cB]
   refine ag (E6 _ _) ?_
   rintro _ _ ⟨rfl,rfl⟩
   refine af.go 200 ?_
   simp only [W,seval,XX,hw]
   refine ih (i+1,cN (q+IU x (cN (m - q)))) ⟨au,h2⟩ (by dsimp only;omega) _ _ [] _ rfl ⟨Nat.zero_le _,Nat.zero_le _⟩ hf ?_
   refine bw.env _ ?_
   simp only [nU,seval,cN]
   exact rfl
 ·have aC:decide ((i:Int) < (t.elem.length:Int))=false:=decide_eq_false (by omega)
  rw [List.drop_eq_nil_of_le (by omega),KY] at h2
  refine af.go 200 ?_
  simp only [W,seval,XX,aC]
  refine af.ret Tryz.func53 rfl (Left.empty ?_)
  rw [h2]
  exact ⟨rfl,rfl⟩
mutual
theorem s8:∀ t:aA,Rr t
 | .mk k n es=>KZ (.mk k n es) (EI es)
theorem EI:∀ l:List aA,∀ x∈l,Rr x
 | [],_,h=>absurd h List.not_mem_nil
 | y :: l,x,h=>by
  rcases List.mem_cons.1 h with e | e
  ·rw [e];exact s8 y
  ·exact EI l x e
end
set_option maxHeartbeats 1000000 in
theorem xT (l:List bH) (m:Int) (S:Mem):aF Tryz.prog av 52 [.d (.sl (l.map gf)),.d (.int .i64 m)] S (aB (.d (.int .i64 (Ls l 0 m))) S):=by
 refine aF.same (v:=.d (.int .i64 (Ls l 0 m))) ?_ rfl rfl S
 generalize bR:Ls l 0 m=res
 refine b52.go 30 rfl fun bk=>?_
 simp only [dP] at bk
 simp only [W,seval,XY]
 refine af.cV (fun a:Nat × Int=>(aR 31 [(0,.d (.sl (l.map gf))),(1,.d (.int .i64 m)),(5,.d (.int .i64 a.2)),(6,.d (.int .i64 a.1))],⟨[],[]⟩)) (fun a=>a.1≤l.length∧Ls (l.drop a.1) a.2 m=res) (fun a=>l.length - a.1) (0,0) ⟨by omega,bR⟩ ?_ rfl ?_
 ·skip
  refine ay.env _ ?_
  simp only [cD,seval]
 rintro ⟨i,q⟩ ⟨h1,h2⟩ ih
 dsimp only at h1 h2 ih ⊢
 by_cases au:i < l.length
 ·have hw:=az ((i:Int)+1) (by omega)
  have aC:decide ((i:Int) < (l.length:Int))=true:=decide_eq_true (by omega)
  have hg:=List.getElem?_eq_getElem au
  rw [aX au] at h2
  obtain ⟨x,hx⟩:∃ x,l[i]=x:=⟨_,rfl⟩
  rw [hx] at hg h2
  rw [Ls] at h2
  have E6:=s8 x.type
  unfold Rr aY at E6
  cases hle:decide (q≤m)
  ·rw [if_neg (of_decide_eq_false hle)] at h2
   refine af.go 200 ?_
   simp only [W,seval,XY,aC,hle]
   refine af.ret Tryz.func52 rfl (Left.empty ?_)
   rw [h2]
   exact ⟨rfl,rfl⟩
  ·rw [if_pos (of_decide_eq_true hle)] at h2
   refine af.go 200 ?_
   simp only [W,seval,XY,List.getElem?_map,hg,aC,hle,mq]
   refine ag (E6 _ _) ?_
   rintro _ _ ⟨rfl,rfl⟩
   refine af.go 200 ?_
   simp only [W,seval,XY,hw]
   refine ih (i+1,cN (cN (q+1)+IU x.type (cN (m - q)))) ⟨au,h2⟩ (by dsimp only;omega) _ _ ?_ rfl
   refine ay.env _ ?_
   simp only [cD,seval,cN]
 ·have aC:decide ((i:Int) < (l.length:Int))=false:=decide_eq_false (by omega)
  rw [List.drop_eq_nil_of_le (by omega),Ls] at h2
  refine af.go 200 ?_
  simp only [W,seval,XY,aC]
  refine af.ret Tryz.func52 rfl (Left.empty ?_)
  rw [h2]
  exact ⟨rfl,rfl⟩
def XZ (l:List aj):Prop:=∀ (m:Int) (S:Mem),aF Tryz.prog av 100 [.d (.sl (l.map fO)),.d (.int .i64 m)] S (aB (.d (.int .i64 (Am l 0 m))) S)
set_option maxHeartbeats 1000000 in
theorem uP (l:List aj) (h:∀ x∈l,XZ x.kids):XZ l:=by
 intro m S
 refine aF.same (v:=.d (.int .i64 (Am l 0 m))) ?_ rfl rfl S
 generalize bR:Am l 0 m=res
 refine abG.go 30 rfl fun bk=>?_
 simp only [dP] at bk
 simp only [W,seval,EG]
 refine af.cV (fun a:Nat × Int=>(aR 50 [(0,.d (.sl (l.map fO))),(1,.d (.int .i64 m)),(5,.d (.int .i64 a.2)),(6,.d (.int .i64 a.1))],⟨[],[]⟩)) (fun a=>a.1≤l.length∧Am (l.drop a.1) a.2 m=res) (fun a=>l.length - a.1) (0,0) ⟨by omega,bR⟩ ?_ rfl ?_
 ·skip
  refine ay.env _ ?_
  simp only [cD,seval]
 rintro ⟨i,q⟩ ⟨h1,h2⟩ ih
 dsimp only at h1 h2 ih ⊢
 by_cases au:i < l.length
 ·have hw:=az ((i:Int)+1) (by omega)
  have aC:decide ((i:Int) < (l.length:Int))=true:=decide_eq_true (by omega)
  have hg:=List.getElem?_eq_getElem au
  have oU:=h l[i] (List.getElem_mem au)
  rw [aX au] at h2
  obtain ⟨x,hx⟩:∃ x,l[i]=x:=⟨_,rfl⟩
  rw [hx] at hg h2 oU
  rw [Am] at h2
  have E6:=s8 x.type
  unfold Rr aY at E6
  have hz:=EH x.type
  unfold aY at hz
  cases hle:decide (q≤m)
  ·rw [if_neg (of_decide_eq_false hle)] at h2
   refine af.go 200 ?_
   simp only [W,seval,EG,aC,hle]
   refine af.ret Tryz.func100 rfl (Left.empty ?_)
   rw [h2]
   exact ⟨rfl,rfl⟩
  ·rw [if_pos (of_decide_eq_true hle),N8] at h2
   refine af.go 200 ?_
   simp only [W,seval,EG,List.getElem?_map,hg,aC,hle,cQ]
   refine ag (hz _) ?_
   rintro _ _ ⟨rfl,rfl⟩
   cases qQ:dB x.type
   case' false =>
    have ht:BT x.type (cN (q+1)) m=cN (cN (q+1)+IU x.type (cN (m - cN (q+1)))):=if_neg (by rw [qQ];decide)
    simp only [cN] at ht
    refine af.go 200 ?_
    simp only [W,seval,EG,List.getElem?_map,hg,qQ,cQ]
    refine ag (E6 _ _) ?_
    rintro _ _ ⟨rfl,rfl⟩
    refine af.go 200 ?_
    simp only [W,seval,EG,List.getElem?_map,hg,cQ]
   case' true =>
    have ht:BT x.type (cN (q+1)) m=cN (q+1):=if_pos qQ
    simp only [cN] at ht
    refine af.go 200 ?_
    simp only [W,seval,EG,List.getElem?_map,hg,qQ,cQ]
   all_goals
    refine ag (oU _ _) ?_
    rintro _ _ ⟨rfl,rfl⟩
    refine af.go 200 ?_
    simp only [W,seval,EG,hw]
    refine ih (i+1,cN (BT x.type (cN (q+1)) m+Am x.kids 0 (cN (m - BT x.type (cN (q+1)) m)))) ⟨au,h2⟩ (by dsimp only;omega) _ _ ?_ rfl
    refine ay.env _ ?_
    simp only [cD,seval,cN,ht]
 ·have aC:decide ((i:Int) < (l.length:Int))=false:=decide_eq_false (by omega)
  rw [List.drop_eq_nil_of_le (by omega),Am] at h2
  refine af.go 200 ?_
  simp only [W,seval,EG,aC]
  refine af.ret Tryz.func100 rfl (Left.empty ?_)
  rw [h2]
  exact ⟨rfl,rfl⟩
mutual
theorem GW:∀ t:aj,XZ t.kids
 | .mk _ _ _ _ _ es=>uP es (rB es)
theorem rB:∀ l:List aj,∀ x∈l,XZ x.kids
 | [],_,h=>absurd h List.not_mem_nil
 | y :: l,x,h=>by
  rcases List.mem_cons.1 h with e | e
  ·rw [e];exact GW y
  ·exact rB l x e
end
theorem An (l:List aj):XZ l:=uP l (rB l)
def BU:=by
 have c:=aM Tryz.f54 (by conv=>lhs;cbv)
 dsimp only [KK,eN,eG,eH,List.map_cons,List.map_nil,List.toList_toArray] at c
 exact c
theorem b54:bI Tryz.prog 54 Tryz.f54 113:=⟨Tryz.func54,by kernel_rfl⟩
def E7:=by
 have c:=aM Tryz.f20 (by conv=>lhs;cbv)
 dsimp only [KK,eN,eG,eH,List.map_cons,List.map_nil,List.toList_toArray] at c
 exact c
theorem b20:bI Tryz.prog 20 Tryz.f20 113:=⟨Tryz.func20,by kernel_rfl⟩
def c7:=by
 have c:=aM Tryz.f7 (by conv=>lhs;cbv)
 dsimp only [KK,eN,eG,eH,List.map_cons,List.map_nil,List.toList_toArray] at c
 exact c
theorem b7:bI Tryz.prog 7 Tryz.f7 6:=⟨Tryz.func7,by kernel_rfl⟩
mutual
def BV:List aH→Int→Int→Int
 | [],n,_=>n
 | s :: l,n,m=>if n≤m then BV l (s1W s n m) m else n
def s1W:aH→Int→Int→Int
 | .mk _ _ ty ls es b e cs,n,m =>
  St cs (cN (cN (cN (cN (BT ty (cN (n+1)) m+Am ls 0 (cN (m - BT ty (cN (n+1)) m)))+Am es 0 (cN (m - BT ty (cN (n+1)) m)))+BV b 0 (cN (m - cN (cN (BT ty (cN (n+1)) m+Am ls 0 (cN (m - BT ty (cN (n+1)) m)))+Am es 0 (cN (m - BT ty (cN (n+1)) m))))))+BV e 0 (cN (m - cN (cN (BT ty (cN (n+1)) m+Am ls 0 (cN (m - BT ty (cN (n+1)) m)))+Am es 0 (cN (m - BT ty (cN (n+1)) m))))))) m
def St:List cJ→Int→Int→Int
 | [],n,_=>n
 | .mk _ b :: l,n,m=>if n≤m then St l (cN (cN (n+1)+BV b 0 (cN (m - n)))) m else n
end
theorem N9 (k:cJ) (l:List cJ) (n m:Int):St (k :: l) n m=if n≤m then St l (cN (cN (n+1)+BV k.body 0 (cN (m - n)))) m else n:=by cases k;rw [St];rfl
theorem UD (s:aH) (n m n2 n3:Int) (h2:BT s.type (cN (n+1)) m=n2) (h3:cN (cN (n2+Am s.aG 0 (cN (m - n2)))+Am s.exprs 0 (cN (m - n2)))=n3) :
 s1W s n m=St s.cases (cN (cN (n3+BV s.body 0 (cN (m - n3)))+BV s.dh 0 (cN (m - n3)))) m:=by
 subst h2
 subst h3
 cases s
 rw [s1W]
 rfl
def Lt (l:List aH):Prop:=∀ (m:Int) (S:Mem),aF Tryz.prog av 54 [.d (.sl (l.map dZ)),.d (.int .i64 m)] S (aB (.d (.int .i64 (BV l 0 m))) S)
set_option maxHeartbeats 4000000 in
theorem l9 (l:List aH) (h:∀ x∈l,Lt x.body∧Lt x.dh∧∀ k∈x.cases,Lt k.body):Lt l:=by
 intro m S
 refine aF.same (v:=.d (.int .i64 (BV l 0 m))) ?_ rfl rfl S
 generalize bR:BV l 0 m=res
 refine b54.go 30 rfl fun bk=>?_
 simp only [dP] at bk
 simp only [W,seval,BU]
 refine af.cV (fun a:Nat × Int=>(aR 113 [(0,.d (.sl (l.map dZ))),(1,.d (.int .i64 m)),(5,.d (.int .i64 a.2)),(6,.d (.int .i64 a.1))],⟨[],[]⟩)) (fun a=>a.1≤l.length∧BV (l.drop a.1) a.2 m=res) (fun a=>l.length - a.1) (0,0) ⟨by omega,bR⟩ ?_ rfl ?_
 ·skip
  refine ay.env _ ?_
  simp only [cD,seval]
 rintro ⟨i,q⟩ ⟨h1,h2⟩ ih
 dsimp only at h1 h2 ih ⊢
 by_cases au:i < l.length
 ·have hw:=az ((i:Int)+1) (by omega)
  have aC:decide ((i:Int) < (l.length:Int))=true:=decide_eq_true (by omega)
  have hg:=List.getElem?_eq_getElem au
  have oU:=h l[i] (List.getElem_mem au)
  rw [aX au] at h2
  obtain ⟨x,hx⟩:∃ x,l[i]=x:=⟨_,rfl⟩
  rw [hx] at hg h2 oU
  obtain ⟨hxb,Zx,UT⟩:=oU
  have E6:=s8 x.type
  unfold Rr aY at E6
  have hz:=EH x.type
  unfold aY at hz
  rw [BV] at h2
  cases hle:decide (q≤m)
  ·rw [if_neg (of_decide_eq_false hle)] at h2
   refine af.go 200 ?_
   simp only [W,seval,BU,aC,hle]
   refine af.ret Tryz.func54 rfl (Left.empty ?_)
   rw [h2]
   exact ⟨rfl,rfl⟩
  rw [if_pos (of_decide_eq_true hle)] at h2
  obtain ⟨n2,Su⟩:∃ n2,BT x.type (cN (q+1)) m=n2:=⟨_,rfl⟩
  obtain ⟨n3,X0⟩:∃ n3,cN (cN (n2+Am x.aG 0 (cN (m - n2)))+Am x.exprs 0 (cN (m - n2)))=n3:=⟨_,rfl⟩
  obtain ⟨n4,X3⟩:∃ n4,cN (cN (n3+BV x.body 0 (cN (m - n3)))+BV x.dh 0 (cN (m - n3)))=n4:=⟨_,rfl⟩
  rw [UD x q m n2 n3 Su X0,X3] at h2
  refine af.go 200 ?_
  simp only [W,seval,BU,List.getElem?_map,hg,aC,hle,cX]
  refine ag (hz _) ?_
  rintro _ _ ⟨rfl,rfl⟩
  cases qQ:dB x.type
  case' false =>
   have ht:cN (cN (q+1)+IU x.type (cN (m - cN (q+1))))=n2:=by rw [← Su];exact (if_neg (by rw [qQ];decide)).symm
   simp only [cN] at ht
   refine af.go 200 ?_
   simp only [W,seval,BU,List.getElem?_map,hg,qQ,cX]
   refine ag (E6 _ _) ?_
   rintro _ _ ⟨rfl,rfl⟩
   refine af.go 200 ?_
   simp only [W,seval,BU,List.getElem?_map,hg,cX,ht]
  case' true =>
   have ht:cN (q+1)=n2:=by rw [← Su];exact (if_pos qQ).symm
   simp only [cN] at ht
   refine af.go 200 ?_
   simp only [W,seval,BU,List.getElem?_map,hg,qQ,cX,ht]
  all_goals
   clear ht Su hle hz E6
   simp only [cN] at X0 X3
   refine af.draw (by kernel_rfl) (by kernel_rfl) (pV 60 _ _ ?_)
   simp only [W,seval,BU,List.getElem?_map,hg,cX,au]
   refine ⟨_,An x.aG _ _,?_⟩
   simp only [W,seval,BU,List.getElem?_map,hg,cX,au]
   refine ⟨_,An x.exprs _ _,?_⟩
   simp only [W,seval,BU,List.getElem?_map,hg,cX,au,X0]
   refine af.go 20 ?_
   simp only [W,seval,BU,X0]
   refine af.draw (by kernel_rfl) (by kernel_rfl) (pV 60 _ _ ?_)
   simp only [W,seval,BU,List.getElem?_map,hg,cX,au]
   refine ⟨_,hxb _ _,?_⟩
   simp only [W,seval,BU,List.getElem?_map,hg,cX,au]
   refine ⟨_,Zx _ _,?_⟩
   simp only [W,seval,BU,List.getElem?_map,hg,cX,au,X3]
   refine af.go 20 ?_
   simp only [W,seval,BU,X3]
   clear X0 X3
   refine af.cV (fun b:Nat × Int=>(aR 113 [(0,.d (.sl (l.map dZ))),(1,.d (.int .i64 m)),(5,.d (.int .i64 b.2)),(6,.d (.int .i64 i)),(7,.d (.int .i64 b.1))],⟨[],[]⟩)) (fun b=>b.1≤x.cases.length∧BV (l.drop (i+1)) (St (x.cases.drop b.1) b.2 m) m=res) (fun b=>x.cases.length - b.1) (0,n4) ⟨by omega,h2⟩ ?_ rfl ?_
   ·skip
    refine ay.env _ ?_
    simp only [cD,seval]
   rintro ⟨j,r⟩ ⟨g1,g2⟩ lM
   dsimp only at g1 g2 lM ⊢
   by_cases l8:j < x.cases.length
   ·have Cj:=List.getElem?_eq_getElem l8
    have hkx:=UT x.cases[j] (List.getElem_mem l8)
    rw [aX l8] at g2
    obtain ⟨k,hk⟩:∃ k,x.cases[j]=k:=⟨_,rfl⟩
    rw [hk] at Cj g2 hkx
    rw [N9] at g2
    have gG:decide ((j:Int) < (x.cases.length:Int))=true:=decide_eq_true (by omega)
    cases NT:decide (r≤m)
    ·rw [if_neg (of_decide_eq_false NT)] at g2
     refine af.go 200 ?_
     simp only [W,seval,BU,List.getElem?_map,hg,gG,NT,cX,hw]
     refine ih (i+1,r) ⟨au,g2⟩ (by dsimp only;omega) _ _ ?_ rfl
     refine ay.env _ ?_
     simp only [cD,seval]
    ·rw [if_pos (of_decide_eq_true NT)] at g2
     refine af.go 200 ?_
     simp only [W,seval,BU,List.getElem?_map,hg,gG,NT,cX,Cj,iS]
     refine ag (hkx _ _) ?_
     rintro _ _ ⟨rfl,rfl⟩
     refine af.small fun jd=>?_
     have jY:x.cases.length≤9223372036854775807:=by
      have:=(ga _).1 jd 86 (by simp [aR,aO])
      simpa [aR,aO,lk,sm] using this
     clear jd
     have m9:=az ((j:Int)+1) (by omega)
     refine af.go 200 ?_
     simp only [W,seval,BU,m9]
     refine lM (j+1,cN (cN (r+1)+BV k.body 0 (cN (m - r)))) ⟨l8,g2⟩ (by dsimp only;omega) _ _ ?_ rfl
     refine ay.env _ ?_
     simp only [cD,seval,cN]
   ·have gG:decide ((j:Int) < (x.cases.length:Int))=false:=decide_eq_false (by omega)
    have qS:x.cases.drop j=[]:=List.drop_eq_nil_of_le (by omega)
    rw [qS,St] at g2
    refine af.go 200 ?_
    simp only [W,seval,BU,List.getElem?_map,hg,gG,cX,hw]
    refine ih (i+1,r) ⟨au,g2⟩ (by dsimp only;omega) _ _ ?_ rfl
    refine ay.env _ ?_
    simp only [cD,seval]
 ·have aC:decide ((i:Int) < (l.length:Int))=false:=decide_eq_false (by omega)
  rw [List.drop_eq_nil_of_le (by omega),BV] at h2
  refine af.go 200 ?_
  simp only [W,seval,BU,aC]
  refine af.ret Tryz.func54 rfl (Left.empty ?_)
  rw [h2]
  exact ⟨rfl,rfl⟩
mutual
theorem Rs:∀ s:aH,Lt s.body∧Lt s.dh∧∀ k∈s.cases,Lt k.body
 | .mk _ _ _ _ _ b e cs=>⟨l9 b (s9 b),l9 e (s9 e),IV cs⟩
theorem s9:∀ l:List aH,∀ x∈l,Lt x.body∧Lt x.dh∧∀ k∈x.cases,Lt k.body
 | [],_,h=>absurd h List.not_mem_nil
 | y :: l,x,h=>by
  rcases List.mem_cons.1 h with e | e
  ·rw [e];exact Rs y
  ·exact s9 l x e
theorem IV:∀ l:List cJ,∀ k∈l,Lt k.body
 | [],_,h=>absurd h List.not_mem_nil
 | .mk i b :: l,x,h=>by
  rcases List.mem_cons.1 h with e | e
  ·rw [e];exact l9 b (s9 b)
  ·exact IV l x e
end
theorem K0 (l:List aH):Lt l:=l9 l (s9 l)
def Sv:List aA→Int→Int→Int
 | [],n,_=>n
 | t :: l,n,m=>if n≤m then Sv l (cN (n+IU t (cN (m - n)))) m else n
def EJ:List cG→Int→Int→Int
 | [],n,_=>n
 | s :: l,n,m=>if n≤m then EJ l (cN (n+Ls s.fields 0 (cN (m - n)))) m else n
def f1W (f:cn) (n m:Int):Int:=cN (Sv f.results (cN (n+Ls f.params 0 (cN (m - n)))) m+BV f.body 0 (cN (m - Sv f.results (cN (n+Ls f.params 0 (cN (m - n)))) m)))
def EK:List cn→Int→Int→Int
 | [],n,_=>n
 | f :: l,n,m=>if n≤m then EK l (f1W f n m) m else n
def Vt (p:kW) (m:Int):Int :=
 if m < EK p.funcs (EJ p.structs (cN ((p.structs.length:Int)+p.funcs.length)) m) m then cN (m+1) else EK p.funcs (EJ p.structs (cN ((p.structs.length:Int)+p.funcs.length)) m) m
set_option maxHeartbeats 4000000 in
theorem EL (pr:kW) (m:Int) (S:Mem):aF Tryz.prog av 20 [ju pr,.d (.int .i64 m)] S (aB (.d (.int .i64 (Vt pr m))) S):=by
 refine aF.same (v:=.d (.int .i64 (Vt pr m))) ?_ rfl rfl S
 generalize bR:Vt pr m=res
 obtain ⟨n0,LH⟩:∃ n,cN ((pr.structs.length:Int)+pr.funcs.length)=n:=⟨_,rfl⟩
 obtain ⟨n1,Vu⟩:∃ n,EJ pr.structs n0 m=n:=⟨_,rfl⟩
 obtain ⟨n2,Su⟩:∃ n,EK pr.funcs n1 m=n:=⟨_,rfl⟩
 have Tm:(if m < n2 then cN (m+1) else n2)=res:=by rw [← bR,← Su,← Vu,← LH];rfl
 simp only [cN] at LH Tm
 unfold ju
 refine b20.go 30 rfl fun bk=>?_
 simp only [dP] at bk
 simp only [W,seval,E7,LH]
 have hf:Fits ⟨[[.d (.sl (pr.structs.map ef)),.d (.sl (pr.funcs.map cT))]],[]⟩:=fun vs nr=>by
  simp only [List.mem_cons,List.not_mem_nil,or_false] at nr
  subst nr
  rfl
 have Sw:∀ cF:List V,gO (aR 113 [(1,.d (.int .i64 m)),(2,.ptr 0 0),(5,.d (.int .i64 n1)),(7,.d (.int .i64 0))]) cF →
  af Tryz.prog av (0,0) 20 [.code (.loop (kF Tryz.f20 24)),.inBlock 2,.code (kF Tryz.f20 51)] cF ⟨[[.d (.sl (pr.structs.map ef)),.d (.sl (pr.funcs.map cT))]],[]⟩ (Ab.Left ⟨[],[]⟩ (aB (.d (.int .i64 res)) ⟨[],[]⟩)):=by
  intro cF LY
  refine af.fV LY ?_
  refine af.dc (fun a:Nat × Int=>(aR 113 [(1,.d (.int .i64 m)),(2,.ptr 0 0),(5,.d (.int .i64 a.2)),(7,.d (.int .i64 a.1))],⟨[[.d (.sl (pr.structs.map ef)),.d (.sl (pr.funcs.map cT))]],[]⟩)) (fun a=>a.1≤pr.funcs.length∧EK (pr.funcs.drop a.1) a.2 m=n2) (fun a=>pr.funcs.length - a.1) (0,n1) ⟨by omega,Su⟩ ?_ rfl ?_
  ·skip
   refine ay.env _ ?_
   simp only [cD,seval]
  rintro ⟨i,q⟩ ⟨h1,h2⟩ ih
  dsimp only at h1 h2 ih ⊢
  by_cases au:i < pr.funcs.length
  case' pos =>
   have aC:decide ((i:Int) < (pr.funcs.length:Int))=true:=decide_eq_true (by omega)
   by_cases hle:q≤m
   case' pos =>
    have Bn:decide (q≤m)=true:=decide_eq_true hle
    have hw:=az ((i:Int)+1) (by omega)
    have hg:=List.getElem?_eq_getElem au
    rw [aX au,EK,if_pos hle] at h2
    obtain ⟨x,hx⟩:∃ x,pr.funcs[i]=x:=⟨_,rfl⟩
    rw [hx] at hg h2
    obtain ⟨p1,Wo⟩:∃ n,cN (q+Ls x.params 0 (cN (m - q)))=n:=⟨_,rfl⟩
    obtain ⟨p2,Lh⟩:∃ n,Sv x.results p1 m=n:=⟨_,rfl⟩
    obtain ⟨p3,Ub⟩:∃ n,cN (p2+BV x.body 0 (cN (m - p2)))=n:=⟨_,rfl⟩
    have Y4:f1W x q m=p3:=by unfold f1W;rw [Wo,Lh,Ub]
    rw [Y4] at h2
    simp only [cN] at Wo Ub
    refine af.go 200 ?_
    simp only [W,seval,E7,List.getElem?_map,hg,aC,Bn,mw]
    refine ag (xT x.params _ _) ?_
    rintro _ _ ⟨rfl,rfl⟩
    refine af.go 200 ?_
    simp only [W,seval,E7,Wo]
    refine af.dc (fun a:Nat × Int=>(aR 113 [(1,.d (.int .i64 m)),(2,.ptr 0 0),(5,.d (.int .i64 a.2)),(7,.d (.int .i64 i)),(8,.d (.int .i64 a.1))],⟨[[.d (.sl (pr.structs.map ef)),.d (.sl (pr.funcs.map cT))]],[]⟩)) (fun a=>a.1≤x.results.length∧Sv (x.results.drop a.1) a.2 m=p2) (fun a=>x.results.length - a.1) (0,p1) ⟨by omega,Lh⟩ ?_ rfl ?_
    ·skip
     refine ay.env _ ?_
     simp only [cD,seval]
    rintro ⟨j,r⟩ ⟨g1,g2⟩ lM
    dsimp only at g1 g2 lM ⊢
    by_cases l8:j < x.results.length
    case' pos =>
     have gG:decide ((j:Int) < (x.results.length:Int))=true:=decide_eq_true (by omega)
     by_cases NT:r≤m
     case' pos =>
      have UE:decide (r≤m)=true:=decide_eq_true NT
      have Cj:=List.getElem?_eq_getElem l8
      rw [aX l8,Sv,if_pos NT] at g2
      obtain ⟨k,hk⟩:∃ k,x.results[j]=k:=⟨_,rfl⟩
      rw [hk] at Cj g2
      have E6:=s8 k
      unfold Rr aY at E6
      refine af.go 200 ?_
      simp only [W,seval,E7,List.getElem?_map,hg,Cj,gG,UE,mw,cB]
      refine ag (E6 _ _) ?_
      rintro _ _ ⟨rfl,rfl⟩
      refine af.small fun jd=>?_
      have jY:x.results.length≤9223372036854775807:=by
       have:=(ga _).1 jd 70 (by simp [aR,aO])
       simpa [aR,aO,lk,sm] using this
      clear jd
      have m9:=az ((j:Int)+1) (by omega)
      refine af.go 200 ?_
      simp only [W,seval,E7,m9]
      refine lM (j+1,cN (r+IU k (cN (m - r)))) ⟨l8,g2⟩ (by dsimp only;omega) _ _ [] _ rfl ⟨Nat.zero_le _,Nat.zero_le _⟩ hf ?_
      refine bw.env _ ?_
      simp only [nU,seval,cN]
      exact rfl
     case' neg =>
      have UE:decide (r≤m)=false:=decide_eq_false NT
      rw [aX l8,Sv,if_neg NT] at g2
      refine af.go 200 ?_
      simp only [W,seval,E7,List.getElem?_map,hg,gG,UE,mw]
    case' neg =>
     have gG:decide ((j:Int) < (x.results.length:Int))=false:=decide_eq_false (by omega)
     have qS:x.results.drop j=[]:=List.drop_eq_nil_of_le (by omega)
     rw [qS,Sv] at g2
     refine af.go 200 ?_
     simp only [W,seval,E7,List.getElem?_map,hg,gG,mw]
    iterate 2
     subst g2
     refine ag (K0 x.body _ _) ?_
     rintro _ _ ⟨rfl,rfl⟩
     refine af.go 200 ?_
     simp only [W,seval,E7,Ub,hw]
     refine ih (i+1,p3) ⟨au,h2⟩ (by dsimp only;omega) _ _ [] _ rfl ⟨Nat.zero_le _,Nat.zero_le _⟩ hf ?_
     refine bw.env _ ?_
     simp only [nU,seval]
     exact rfl
   case' neg =>
    have Bn:decide (q≤m)=false:=decide_eq_false hle
    rw [aX au,EK,if_neg hle] at h2
    refine af.go 40 ?_
    simp only [W,seval,E7,aC,Bn]
  case' neg =>
   have aC:decide ((i:Int) < (pr.funcs.length:Int))=false:=decide_eq_false (by omega)
   have qS:pr.funcs.drop i=[]:=List.drop_eq_nil_of_le (by omega)
   rw [qS,EK] at h2
   refine af.go 40 ?_
   simp only [W,seval,E7,aC]
  all_goals
   subst h2
   by_cases hm:m < q
   ·have Vf:decide (m < q)=true:=decide_eq_true hm
    rw [if_pos hm] at Tm
    simp only [W,seval,E7,Vf]
    refine af.ret Tryz.func20 rfl (Left.empty ?_)
    rw [← Tm]
    exact ⟨rfl,rfl⟩
   ·have Vf:decide (m < q)=false:=decide_eq_false hm
    rw [if_neg hm] at Tm
    simp only [W,seval,E7,Vf]
    refine af.ret Tryz.func20 rfl (Left.empty ?_)
    rw [← Tm]
    exact ⟨rfl,rfl⟩
 refine af.dc (fun a:Nat × Int=>(aR 113 [(1,.d (.int .i64 m)),(2,.ptr 0 0),(5,.d (.int .i64 a.2)),(6,.d (.int .i64 a.1))],⟨[[.d (.sl (pr.structs.map ef)),.d (.sl (pr.funcs.map cT))]],[]⟩)) (fun a=>a.1≤pr.structs.length∧EJ (pr.structs.drop a.1) a.2 m=n1) (fun a=>pr.structs.length - a.1) (0,n0) ⟨by omega,Vu⟩ ?_ rfl ?_
 ·skip
  refine ay.env _ ?_
  simp only [cD,seval]
 rintro ⟨i,q⟩ ⟨h1,h2⟩ ih
 dsimp only at h1 h2 ih ⊢
 by_cases au:i < pr.structs.length
 case' pos =>
  have aC:decide ((i:Int) < (pr.structs.length:Int))=true:=decide_eq_true (by omega)
  by_cases hle:q≤m
  case' pos =>
   have Bn:decide (q≤m)=true:=decide_eq_true hle
   have hw:=az ((i:Int)+1) (by omega)
   have hg:=List.getElem?_eq_getElem au
   rw [aX au,EJ,if_pos hle] at h2
   obtain ⟨x,hx⟩:∃ x,pr.structs[i]=x:=⟨_,rfl⟩
   rw [hx] at hg h2
   refine af.go 200 ?_
   simp only [W,seval,E7,List.getElem?_map,hg,aC,Bn,wM]
   refine ag (xT x.fields _ _) ?_
   rintro _ _ ⟨rfl,rfl⟩
   refine af.go 200 ?_
   simp only [W,seval,E7,hw]
   refine ih (i+1,cN (q+Ls x.fields 0 (cN (m - q)))) ⟨au,h2⟩ (by dsimp only;omega) _ _ [] _ rfl ⟨Nat.zero_le _,Nat.zero_le _⟩ hf ?_
   refine bw.env _ ?_
   simp only [nU,seval,cN]
   exact rfl
  case' neg =>
   have Bn:decide (q≤m)=false:=decide_eq_false hle
   rw [aX au,EJ,if_neg hle] at h2
   subst h2
   refine af.go 200 ?_
   simp only [W,seval,E7,aC,Bn]
   refine Sw _ ?_
   refine ay.env _ ?_
   simp only [cD,seval]
 case' neg =>
  have aC:decide ((i:Int) < (pr.structs.length:Int))=false:=decide_eq_false (by omega)
  rw [List.drop_eq_nil_of_le (by omega),EJ] at h2
  subst h2
  refine af.go 200 ?_
  simp only [W,seval,E7,aC]
  refine Sw _ ?_
  refine ay.env _ ?_
  simp only [cD,seval]
theorem Oa (pr:kW) (S:Mem):aF Tryz.prog av 7 [ju pr] S (aB (.d (.bool (decide (2500 < Vt pr 2500)))) S):=by
 refine aF.same (v:=.d (.bool (decide (2500 < Vt pr 2500)))) ?_ rfl rfl S
 have h:=EL pr 2500
 unfold ju at h ⊢
 refine b7.go 200 rfl fun _=>?_
 simp only [W,seval,c7]
 refine ag (h _) ?_
 rintro _ _ ⟨rfl,rfl⟩
 refine af.go 200 ?_
 simp only [W,seval,c7]
 refine af.ret Tryz.func7 rfl (Left.empty ?_)
 exact ⟨rfl,rfl⟩
def Sx:=by
 have c:=aM Tryz.f49 (by conv=>lhs;cbv)
 dsimp only [KK,eN,eG,eH,List.map_cons,List.map_nil,List.toList_toArray] at c
 exact c
theorem b49:bI Tryz.prog 49 Tryz.f49 24:=⟨Tryz.func49,by kernel_rfl⟩
def EM:=by
 have c:=aM Tryz.f97 (by conv=>lhs;cbv)
 dsimp only [KK,eN,eG,eH,List.map_cons,List.map_nil,List.toList_toArray] at c
 exact c
theorem b97:bI Tryz.prog 97 Tryz.f97 38:=⟨Tryz.func97,by kernel_rfl⟩
def Sy:=by
 have c:=aM Tryz.f48 (by conv=>lhs;cbv)
 dsimp only [KK,eN,eG,eH,List.map_cons,List.map_nil,List.toList_toArray] at c
 exact c
theorem b48:bI Tryz.prog 48 Tryz.f48 25:=⟨Tryz.func48,by kernel_rfl⟩
mutual
theorem IW:∀ t:aA,1≤iZ t
 | .mk _ _ es=>by
  have:=EN es
  rw [iZ];omega
theorem EN:∀ l:List aA,0≤wF l
 | []=>by rw [wF];omega
 | t :: l=>by
  have h1:=IW t
  have h2:=EN l
  rw [wF];omega
end
theorem EO:∀ l:List aA,wF l=aZ iZ l
 | []=>by rw [wF];rfl
 | t :: l=>by rw [wF,EO l];rfl
theorem Ob (t:aA):iZ t=1+aZ iZ t.elem:=by
 cases t
 rw [iZ,EO]
 rfl
theorem bZ {α:Type} {c:α→Int} (h:∀ x,0≤c x):∀ l:List α,0≤aZ c l
 | []=>Int.le_refl _
 | x :: l=>by
  have h1:=h x
  have h2:=bZ h l
  show 0≤c x+aZ c l
  omega
theorem mH (t:aA):0≤iZ t:=by have:=IW t;omega
mutual
theorem Rt:∀ t:aj,1≤TH t
 | .mk _ _ _ ty _ es=>by
  have:=jV es
  have h2:=mH ty
  rw [TH]
  split<;>omega
theorem jV:∀ l:List aj,0≤gq l
 | []=>by rw [gq];omega
 | t :: l=>by
  have h1:=Rt t
  have h2:=jV l
  rw [gq];omega
end
theorem Oc (t:aj):TH t=1+(if dB t.type=true then 0 else iZ t.type)+gq t.kids:=by
 cases t
 rw [TH]
 rfl
theorem qj (l:List bH):0≤Bb l:=bZ (fun x=>by have:=mH x.type;omega) l
theorem Ao {P:Program} {I:Inv} {f:FuncId} {a:V} {rows:List (List D)} {tk:Go.Ab.Tok} {S:Mem} {R:V→Mem→Prop} (h:aF P I f [a,.d (.sl rows)] S R):aF P I f [a,.sl rows tk] S R :=
 ⟨h.1,fun c w xs h1 h2 h3 hI=>h.2 c w xs h1 (fun j hj=>by
  match j,hj with
  | 0,_=>exact h2 0 (by simp)
  | 1,_=>exact DH (h2 1 (by simp))) h3 hI⟩
def X4 (l:List aA):Prop:=∀ (c:Nat) (p:Int) (B:List (List V)) (T:List (Nat × Nat)),B[c]? = some [.d (.int .i64 p)]→0≤p→p+aZ iZ l≤60000 →
 aF Tryz.prog av 49 [.ptr c 0,.d (.sl (l.map dR))] ⟨B,T⟩ (aB (.bY []) ⟨B.set c [.d (.int .i64 (p+aZ iZ l))],T⟩)
set_option maxHeartbeats 1000000 in
theorem Ap (l:List aA) (h:∀ x∈l,X4 x.elem):X4 l:=by
 intro c p B T hB hp hle
 obtain ⟨N,hn⟩:∃ N,B.length=N:=⟨_,rfl⟩
 have hc:=(List.getElem?_eq_some_iff.1 hB).1
 have hi:c < N:=by omega
 have u9:B.set c [.d (.int .i64 p)]=B:=by
  obtain ⟨_,h⟩:=List.getElem?_eq_some_iff.1 hB
  rw [← h,List.set_getElem_self]
 generalize bR:p+aZ iZ l=res at hle ⊢
 refine b49.go 10 rfl fun bk=>?_
 simp only [dP] at bk
 simp only [W,seval,Sx,hn,hi]
 refine af.fits fun hf=>?_
 refine af.dc (fun a:Nat × Int=>(aR 24 [(0,.ptr c 0),(6,.d (.sl (l.map dR))),(7,.d (.int .i64 l.length)),(8,.d (.int .i64 a.1))],⟨B.set c [.d (.int .i64 a.2)],T⟩)) (fun a=>a.1≤l.length∧0≤a.2∧a.2+aZ iZ (l.drop a.1)=res) (fun a=>l.length - a.1) (0,p) ⟨by omega,hp,bR⟩ ?_ (by rw [u9]) ?_
 ·skip
  refine ay.env _ ?_
  simp only [cD,seval,hn]
 rintro ⟨i,q⟩ ⟨h1,h2,h3⟩ ih
 dsimp only at h1 h2 h3 ih ⊢
 by_cases au:i < l.length
 ·have hw:=az ((i:Int)+1) (by omega)
  have aC:decide ((i:Int) < (l.length:Int))=true:=decide_eq_true (by omega)
  have hg:=List.getElem?_eq_getElem au
  have oU:=h l[i] (List.getElem_mem au)
  rw [aX au] at h3
  obtain ⟨x,hx⟩:∃ x,l[i]=x:=⟨_,rfl⟩
  rw [hx] at hg h3 oU
  change q+(iZ x+aZ iZ (l.drop (i+1)))=res at h3
  have jL:=Ob x
  have YY:=bZ mH x.elem
  have hx3:=bZ mH (l.drop (i+1))
  have Sz:=az (q+1) (by omega)
  refine af.go 200 ?_
  simp only [W,seval,Sx,hn,hi,List.getElem?_map,hg,aC,Sz,cB]
  refine ag (oU c (q+1) _ T (by rw [ah (by simp;omega)];exact bG hc) (by omega) (by omega)) ?_
  rintro _ _ ⟨rfl,rfl⟩
  refine af.go 200 ?_
  simp only [W,seval,Sx,hn,hi,hw]
  refine ih (i+1,q+1+aZ iZ x.elem) ⟨au,by dsimp only;omega,by dsimp only;omega⟩ (by dsimp only;omega) _ _ _ _ rfl ⟨by simp;omega,Nat.le_refl _⟩ (hf.set rfl) ?_
  refine bw.env _ ?_
  simp only [nU,seval,hn,hi]
 ·have aC:decide ((i:Int) < (l.length:Int))=false:=decide_eq_false (by omega)
  rw [List.drop_eq_nil_of_le (by omega)] at h3
  change q+0=res at h3
  refine af.go 200 ?_
  simp only [W,seval,Sx,hn,hi,aC]
  refine af.fin Tryz.func49 rfl (Left.yD rfl ?_)
  rw [← h3,Int.add_zero]
  exact ⟨rfl,rfl⟩
mutual
theorem Od:∀ t:aA,X4 t.elem
 | .mk _ _ es=>Ap es (xU es)
theorem xU:∀ l:List aA,∀ x∈l,X4 x.elem
 | [],_,h=>absurd h List.not_mem_nil
 | y :: l,x,h=>by
  rcases List.mem_cons.1 h with e | e
  ·rw [e];exact Od y
  ·exact xU l x e
end
theorem IX (l:List aA):X4 l:=Ap l (xU l)
theorem xV (t:aA) (c:Nat) (p:Int) (B:List (List V)) (T:List (Nat × Nat)) (tk:Go.Ab.Tok) (hB:B[c]? = some [.d (.int .i64 p)]) (hp:0≤p) (hle:p+iZ t≤60000) :
 aF Tryz.prog av 49 [.ptr c 0,.sl [[.int .i64 t.kind,.str t.name,.sl (t.elem.map dR)]] tk] ⟨B,T⟩ (aB (.bY []) ⟨B.set c [.d (.int .i64 (p+iZ t))],T⟩):=by
 have h:=IX [t] c p B T hB hp (by show p+(iZ t+0)≤60000;omega)
 have e:p+aZ iZ [t]=p+iZ t:=by show p+(iZ t+0)=p+iZ t;omega
 rw [e,List.map_cons,List.map_nil,cB] at h
 exact Ao h
set_option maxHeartbeats 1000000 in
theorem xW (l:List bH) (c:Nat) (p:Int) (B:List (List V)) (T:List (Nat × Nat)) (hB:B[c]? = some [.d (.int .i64 p)]) (hp:0≤p) (hle:p+Bb l≤60000) :
 aF Tryz.prog av 48 [.ptr c 0,.d (.sl (l.map gf))] ⟨B,T⟩ (aB (.bY []) ⟨B.set c [.d (.int .i64 (p+Bb l))],T⟩):=by
 obtain ⟨N,hn⟩:∃ N,B.length=N:=⟨_,rfl⟩
 have hc:=(List.getElem?_eq_some_iff.1 hB).1
 have hi:c < N:=by omega
 have u9:B.set c [.d (.int .i64 p)]=B:=by
  obtain ⟨_,h⟩:=List.getElem?_eq_some_iff.1 hB
  rw [← h,List.set_getElem_self]
 generalize bR:p+Bb l=res at hle ⊢
 refine b48.go 10 rfl fun bk=>?_
 simp only [dP] at bk
 simp only [W,seval,Sy,hn,hi]
 refine af.fits fun hf=>?_
 refine af.dc (fun a:Nat × Int=>(aR 25 [(0,.ptr c 0),(6,.d (.sl (l.map gf))),(7,.d (.int .i64 l.length)),(8,.d (.int .i64 a.1))],⟨B.set c [.d (.int .i64 a.2)],T⟩)) (fun a=>a.1≤l.length∧0≤a.2∧a.2+Bb (l.drop a.1)=res) (fun a=>l.length - a.1) (0,p) ⟨by omega,hp,bR⟩ ?_ (by rw [u9]) ?_
 ·skip
  refine ay.env _ ?_
  simp only [cD,seval,hn]
 rintro ⟨i,q⟩ ⟨h1,h2,h3⟩ ih
 dsimp only at h1 h2 h3 ih ⊢
 by_cases au:i < l.length
 ·have hw:=az ((i:Int)+1) (by omega)
  have aC:decide ((i:Int) < (l.length:Int))=true:=decide_eq_true (by omega)
  have hg:=List.getElem?_eq_getElem au
  rw [aX au] at h3
  obtain ⟨x,hx⟩:∃ x,l[i]=x:=⟨_,rfl⟩
  rw [hx] at hg h3
  change q+((1+iZ x.type)+Bb (l.drop (i+1)))=res at h3
  have YY:=mH x.type
  have hx3:=qj (l.drop (i+1))
  have Sz:=az (q+1) (by omega)
  refine af.go 200 ?_
  simp only [W,seval,Sy,hn,hi,List.getElem?_map,hg,aC,Sz,mq,bT,bC,Nat.reduceMul]
  refine ag (xV x.type c (q+1) _ T _ (by rw [ah (by simp;omega)];exact bG hc) (by omega) (by omega)) ?_
  rintro _ _ ⟨rfl,rfl⟩
  refine af.go 200 ?_
  simp only [W,seval,Sy,hn,hi,hw]
  refine ih (i+1,q+1+iZ x.type) ⟨au,by dsimp only;omega,by dsimp only;omega⟩ (by dsimp only;omega) _ _ _ _ rfl ⟨by simp;omega,Nat.le_refl _⟩ (hf.set rfl) ?_
  refine bw.env _ ?_
  simp only [nU,seval,hn,hi]
 ·have aC:decide ((i:Int) < (l.length:Int))=false:=decide_eq_false (by omega)
  rw [List.drop_eq_nil_of_le (by omega)] at h3
  change q+0=res at h3
  refine af.go 200 ?_
  simp only [W,seval,Sy,hn,hi,aC]
  refine af.fin Tryz.func48 rfl (Left.yD rfl ?_)
  rw [← h3,Int.add_zero]
  exact ⟨rfl,rfl⟩
def X5 (l:List aj):Prop:=∀ (c:Nat) (p:Int) (B:List (List V)) (T:List (Nat × Nat)),B[c]? = some [.d (.int .i64 p)]→0≤p→p+gq l≤60000 →
 aF Tryz.prog av 97 [.ptr c 0,.d (.sl (l.map fO))] ⟨B,T⟩ (aB (.bY []) ⟨B.set c [.d (.int .i64 (p+gq l))],T⟩)
set_option maxHeartbeats 2000000 in
theorem uQ (l:List aj) (h:∀ x∈l,X5 x.kids):X5 l:=by
 intro c p B T hB hp hle
 obtain ⟨N,hn⟩:∃ N,B.length=N:=⟨_,rfl⟩
 have hc:=(List.getElem?_eq_some_iff.1 hB).1
 have hi:c < N:=by omega
 have u9:B.set c [.d (.int .i64 p)]=B:=by
  obtain ⟨_,h⟩:=List.getElem?_eq_some_iff.1 hB
  rw [← h,List.set_getElem_self]
 generalize bR:p+gq l=res at hle ⊢
 refine b97.go 10 rfl fun bk=>?_
 simp only [dP] at bk
 simp only [W,seval,EM,hn,hi]
 refine af.fits fun hf=>?_
 refine af.dc (fun a:Nat × Int=>(aR 38 [(0,.ptr c 0),(6,.d (.sl (l.map fO))),(7,.d (.int .i64 l.length)),(8,.d (.int .i64 a.1))],⟨B.set c [.d (.int .i64 a.2)],T⟩)) (fun a=>a.1≤l.length∧0≤a.2∧a.2+gq (l.drop a.1)=res) (fun a=>l.length - a.1) (0,p) ⟨by omega,hp,bR⟩ ?_ (by rw [u9]) ?_
 ·skip
  refine ay.env _ ?_
  simp only [cD,seval,hn]
 rintro ⟨i,q⟩ ⟨h1,h2,h3⟩ ih
 dsimp only at h1 h2 h3 ih ⊢
 by_cases au:i < l.length
 ·have hw:=az ((i:Int)+1) (by omega)
  have aC:decide ((i:Int) < (l.length:Int))=true:=decide_eq_true (by omega)
  have hg:=List.getElem?_eq_getElem au
  have oU:=h l[i] (List.getElem_mem au)
  rw [aX au] at h3
  obtain ⟨x,hx⟩:∃ x,l[i]=x:=⟨_,rfl⟩
  rw [hx] at hg h3 oU
  rw [gq] at h3
  have jL:=Oc x
  have YY:=jV x.kids
  have hx3:=jV (l.drop (i+1))
  have hx4:=mH x.type
  have Sz:=az (q+1) (by omega)
  have hz:=p9 x.type
  unfold aY at hz
  refine af.go 200 ?_
  simp only [W,seval,EM,hn,hi,List.getElem?_map,hg,aC,Sz,cQ]
  refine ag (hz _ _) ?_
  rintro _ _ ⟨rfl,rfl⟩
  cases qQ:dB x.type
  ·rw [qQ] at jL
   simp only [Bool.false_eq_true,if_false] at jL
   refine af.go 200 ?_
   simp only [W,seval,EM,hn,hi,qQ,bT,bC,Nat.reduceMul]
   refine ag (xV x.type c (q+1) _ T _ (by rw [ah (by simp;omega)];exact bG hc) (by omega) (by omega)) ?_
   rintro _ _ ⟨rfl,rfl⟩
   have Q9:decide (q+1+iZ x.type≤60000)=true:=decide_eq_true (by omega)
   refine af.go 200 ?_
   simp only [W,seval,EM,hn,hi,Q9]
   refine ag (oU c (q+1+iZ x.type) _ T (by rw [ah (by simp;omega)];exact bG hc) (by omega) (by omega)) ?_
   rintro _ _ ⟨rfl,rfl⟩
   refine af.go 200 ?_
   simp only [W,seval,EM,hn,hi,hw]
   refine ih (i+1,q+1+iZ x.type+gq x.kids) ⟨au,by dsimp only;omega,by dsimp only;omega⟩ (by dsimp only;omega) _ _ _ _ rfl ⟨by simp;omega,Nat.le_refl _⟩ (hf.set rfl) ?_
   refine bw.env _ ?_
   simp only [nU,seval,hn,hi]
  ·rw [qQ] at jL
   simp only [if_true] at jL
   have Q9:decide (q+1≤60000)=true:=decide_eq_true (by omega)
   refine af.go 200 ?_
   simp only [W,seval,EM,hn,hi,qQ,Q9]
   refine ag (oU c (q+1) _ T (by rw [ah (by simp;omega)];exact bG hc) (by omega) (by omega)) ?_
   rintro _ _ ⟨rfl,rfl⟩
   refine af.go 200 ?_
   simp only [W,seval,EM,hn,hi,hw]
   refine ih (i+1,q+1+gq x.kids) ⟨au,by dsimp only;omega,by dsimp only;omega⟩ (by dsimp only;omega) _ _ _ _ rfl ⟨by simp;omega,Nat.le_refl _⟩ (hf.set rfl) ?_
   refine bw.env _ ?_
   simp only [nU,seval,hn,hi]
 ·have aC:decide ((i:Int) < (l.length:Int))=false:=decide_eq_false (by omega)
  rw [List.drop_eq_nil_of_le (by omega),gq] at h3
  refine af.go 200 ?_
  simp only [W,seval,EM,hn,hi,aC]
  refine af.fin Tryz.func97 rfl (Left.yD rfl ?_)
  rw [← h3,Int.add_zero]
  exact ⟨rfl,rfl⟩
mutual
theorem GX:∀ t:aj,X5 t.kids
 | .mk _ _ _ _ _ es=>uQ es (rC es)
theorem rC:∀ l:List aj,∀ x∈l,X5 x.kids
 | [],_,h=>absurd h List.not_mem_nil
 | y :: l,x,h=>by
  rcases List.mem_cons.1 h with e | e
  ·rw [e];exact GX y
  ·exact rC l x e
end
theorem Aq (l:List aj):X5 l:=uQ l (rC l)
def tg:=by
 have c:=aM Tryz.f50 (by conv=>lhs;cbv)
 dsimp only [KK,eN,eG,eH,List.map_cons,List.map_nil,List.toList_toArray] at c
 exact c
theorem b50:bI Tryz.prog 50 Tryz.f50 71:=⟨Tryz.func50,by kernel_rfl⟩
def BW:=by
 have c:=aM Tryz.f18 (by conv=>lhs;cbv)
 dsimp only [KK,eN,eG,eH,List.map_cons,List.map_nil,List.toList_toArray] at c
 exact c
theorem b18:bI Tryz.prog 18 Tryz.f18 54:=⟨Tryz.func18,by kernel_rfl⟩
theorem mI:∀ (n:Nat) (s:aH),0≤nc n s
 | 0,_=>Int.le_refl _
 | n+1,s=>by
  have h1:=jV s.aG
  have h2:=jV s.exprs
  have h3:=bZ (mI n) s.body
  have h4:=bZ (mI n) s.dh
  have h5:=bZ (fun c:cJ=>by have:=bZ (mI n) c.body;show 0≤1+aZ (nc n) c.body;omega) s.cases
  have h6:=mH s.type
  unfold nc
  split<;>omega
def OO (n:Nat) (c:cJ):Int:=1+aZ (nc n) c.body
theorem Oe (n:Nat) (c:cJ):0≤OO n c:=by have:=bZ (mI n) c.body;unfold OO;omega
theorem Of (n:Nat) (s:aH):nc (n+1) s=1+(if dB s.type=true then 0 else iZ s.type)+gq s.aG+gq s.exprs+aZ (nc n) s.body+aZ (nc n) s.dh+aZ (OO n) s.cases:=rfl
def CSt (n:Nat) (l:List aH):Prop:=(∀ x∈l,Dp n x)→∀ (c:Nat) (p:Int) (B:List (List V)) (T:List (Nat × Nat)),B[c]? = some [.d (.int .i64 p)]→0≤p→p+aZ (nc n) l≤60000 →
 aF Tryz.prog av 50 [.ptr c 0,.d (.sl (l.map dZ))] ⟨B,T⟩ (aB (.bY []) ⟨B.set c [.d (.int .i64 (p+aZ (nc n) l))],T⟩)
set_option maxHeartbeats 4000000 in
theorem ER (n:Nat) (Vu:∀ m,n=m+1→∀ l,CSt m l) (l:List aH):CSt n l:=by
 intro hD c p B T hB hp hle
 obtain ⟨N,hn⟩:∃ N,B.length=N:=⟨_,rfl⟩
 have hc:=(List.getElem?_eq_some_iff.1 hB).1
 have hi:c < N:=by omega
 have dK:c < N+1:=by omega
 have dy:N < N+1:=by omega
 have u9:B.set c [.d (.int .i64 p)]=B:=by
  obtain ⟨_,h⟩:=List.getElem?_eq_some_iff.1 hB
  rw [← h,List.set_getElem_self]
 generalize bR:p+aZ (nc n) l=res at hle ⊢
 refine b50.go 10 rfl fun bk=>?_
 simp only [dP] at bk
 simp only [W,seval,tg,hn,hi]
 refine af.fits fun hf=>?_
 refine af.dc (fun a:Nat × Int=>(aR 71 [(0,.ptr c 0),(8,.d (.sl (l.map dZ))),(9,.d (.int .i64 l.length)),(10,.d (.int .i64 a.1))],⟨B.set c [.d (.int .i64 a.2)],T⟩)) (fun a=>a.1≤l.length∧0≤a.2∧a.2+aZ (nc n) (l.drop a.1)=res) (fun a=>l.length - a.1) (0,p) ⟨by omega,hp,bR⟩ ?_ (by rw [u9]) ?_
 ·skip
  refine ay.env _ ?_
  simp only [cD,seval,hn]
 rintro ⟨i,q⟩ ⟨h1,h2,h3⟩ ih
 dsimp only at h1 h2 h3 ih ⊢
 by_cases au:i < l.length
 ·have hw:=az ((i:Int)+1) (by omega)
  have aC:decide ((i:Int) < (l.length:Int))=true:=decide_eq_true (by omega)
  have hg:=List.getElem?_eq_getElem au
  have Vv:=hD l[i] (List.getElem_mem au)
  rw [aX au] at h3
  obtain ⟨x,hx⟩:∃ x,l[i]=x:=⟨_,rfl⟩
  rw [hx] at hg h3 Vv
  obtain ⟨m,rfl⟩:∃ m,n=m+1:=by
   cases n with
   | zero=>exact Vv.elim
   | succ m=>exact ⟨m,rfl⟩
  have jW:=Vu m rfl
  obtain ⟨hdb,hde,Tz⟩:=Vv
  change q+(nc (m+1) x+aZ (nc (m+1)) (l.drop (i+1)))=res at h3
  have jL:=Of m x
  have hy1:=jV x.aG
  have hy2:=jV x.exprs
  have hy3:=bZ (mI m) x.body
  have hy4:=bZ (mI m) x.dh
  have hy5:=bZ (Oe m) x.cases
  have hy6:=bZ (mI (m+1)) (l.drop (i+1))
  have hy7:=mH x.type
  have Sz:=az (q+1) (by omega)
  have hz:=p9 x.type
  unfold aY at hz
  have X6:decide (60000 < q+1)=false:=decide_eq_false (by split at jL<;>omega)
  refine af.go 200 ?_
  simp only [W,seval,tg,hn,hi,List.getElem?_map,hg,aC,Sz,cX,X6]
  refine ag (hz _ _) ?_
  rintro _ _ ⟨rfl,rfl⟩
  cases qQ:dB x.type
  case' false =>
   rw [qQ] at jL
   simp only [Bool.false_eq_true,if_false] at jL
   refine af.go 200 ?_
   simp only [W,seval,tg,hn,hi,qQ,bT,bC,Nat.reduceMul]
   refine ag (xV x.type c (q+1) _ T _ (by rw [ah (by simp;omega)];exact bG hc) (by omega) (by omega)) ?_
   rintro _ _ ⟨rfl,rfl⟩
   obtain ⟨q2,E3⟩:∃ q2,q+1+iZ x.type=q2:=⟨_,rfl⟩
   have ou:0≤q2∧q2+(gq x.aG+gq x.exprs+aZ (nc m) x.body+aZ (nc m) x.dh+aZ (OO m) x.cases+aZ (nc (m+1)) (l.drop (i+1)))=res:=by omega
   rw [E3]
   refine af.go 200 ?_
   simp only [W,seval,tg,hn,hi]
  case' true =>
   rw [qQ] at jL
   simp only [if_true] at jL
   obtain ⟨q2,E3⟩:∃ q2,q+1=q2:=⟨_,rfl⟩
   have ou:0≤q2∧q2+(gq x.aG+gq x.exprs+aZ (nc m) x.body+aZ (nc m) x.dh+aZ (OO m) x.cases+aZ (nc (m+1)) (l.drop (i+1)))=res:=by omega
   rw [E3]
   refine af.go 200 ?_
   simp only [W,seval,tg,hn,hi,qQ]
  all_goals
   clear E3 jL h3 hz Sz X6
   refine ag (Aq x.aG c q2 _ T (by rw [ah (by simp;omega)];exact bG hc) (by omega) (by omega)) ?_
   rintro _ _ ⟨rfl,rfl⟩
   refine af.go 200 ?_
   simp only [W,seval,tg,hn,hi]
   refine ag (Aq x.exprs c (q2+gq x.aG) _ T (by rw [ah (by simp;omega)];exact bG hc) (by omega) (by omega)) ?_
   rintro _ _ ⟨rfl,rfl⟩
   refine af.go 200 ?_
   simp only [W,seval,tg,hn,hi]
   refine ag (jW x.body hdb c (q2+gq x.aG+gq x.exprs) _ T (by rw [ah (by simp;omega)];exact bG hc) (by omega) (by omega)) ?_
   rintro _ _ ⟨rfl,rfl⟩
   refine af.go 200 ?_
   simp only [W,seval,tg,hn,hi]
   refine ag (jW x.dh hde c (q2+gq x.aG+gq x.exprs+aZ (nc m) x.body) _ T (by rw [ah (by simp;omega)];exact bG hc) (by omega) (by omega)) ?_
   rintro _ _ ⟨rfl,rfl⟩
   refine af.go 200 ?_
   simp only [W,seval,tg,hn,hi]
   obtain ⟨q3,P9⟩:∃ q3,q2+gq x.aG+gq x.exprs+aZ (nc m) x.body+aZ (nc m) x.dh=q3:=⟨_,rfl⟩
   rw [P9]
   have Li:0≤q3∧q3+aZ (OO m) x.cases+aZ (nc (m+1)) (l.drop (i+1))=res:=by omega
   clear P9 ou
   refine af.fits fun Ln=>?_
   have Cf:∀ q':Int,Fits ⟨B.set c [.d (.int .i64 q')]++[oX x],T⟩:=fun q'=>by
    have:=Ln.set (i:=c) (vs:=[.d (.int .i64 q')]) rfl
    rw [fI (by simp;omega),List.set_set] at this
    exact this
   clear Ln
   refine af.small fun jd=>?_
   have jY:x.cases.length≤9223372036854775807:=by
    have:=(ga _).1 jd 52 (by simp [aR])
    simpa [aR,lk,sm] using this
   clear jd
   refine af.dc (fun b:Nat × Int=>(aR 71 [(0,.ptr c 0),(8,.d (.sl (l.map dZ))),(9,.d (.int .i64 l.length)),(10,.d (.int .i64 i)),(52,.d (.sl (x.cases.map lK))),(53,.d (.int .i64 x.cases.length)),(54,.d (.int .i64 b.1))],⟨B.set c [.d (.int .i64 b.2)]++[oX x],T⟩)) (fun b=>b.1≤x.cases.length∧0≤b.2∧b.2+aZ (OO m) (x.cases.drop b.1)+aZ (nc (m+1)) (l.drop (i+1))=res) (fun b=>x.cases.length - b.1) (0,q3) ⟨by omega,Li.1,Li.2⟩ ?_ rfl ?_
   ·skip
    refine ay.env _ ?_
    simp only [cD,seval,hn]
   rintro ⟨j,r⟩ ⟨g1,g2,g3⟩ lM
   dsimp only at g1 g2 g3 lM ⊢
   dsimp only [oX]
   by_cases l8:j < x.cases.length
   ·have m9:=az ((j:Int)+1) (by omega)
    have gG:decide ((j:Int) < (x.cases.length:Int))=true:=decide_eq_true (by omega)
    have Cj:=List.getElem?_eq_getElem l8
    have X7:=Tz x.cases[j] (List.getElem_mem l8)
    rw [aX l8] at g3
    obtain ⟨k,hk⟩:∃ k,x.cases[j]=k:=⟨_,rfl⟩
    rw [hk] at Cj g3 X7
    change r+(OO m k+aZ (OO m) (x.cases.drop (j+1)))+aZ (nc (m+1)) (l.drop (i+1))=res at g3
    have Sk:OO m k=1+aZ (nc m) k.body:=rfl
    have U9:=bZ (mI m) k.body
    have hk3:=bZ (Oe m) (x.cases.drop (j+1))
    have hwr:=az (r+1) (by omega)
    refine af.go 200 ?_
    simp only [W,seval,tg,hn,hi,List.getElem?_map,Cj,gG,hwr,iS]
    refine ag (jW k.body X7 c (r+1) _ T (by rw [ah (by simp;omega)];exact bG hc) (by omega) (by omega)) ?_
    rintro _ _ ⟨rfl,rfl⟩
    refine af.go 200 ?_
    simp only [W,seval,tg,hn,hi,m9]
    rw [TR]
    refine lM (j+1,r+1+aZ (nc m) k.body) ⟨l8,by dsimp only;omega,by dsimp only;omega⟩ (by dsimp only;omega) _ _ _ _ rfl ⟨by simp;omega,Nat.le_refl _⟩ (Cf _) ?_
    refine bw.env _ ?_
    simp only [nU,seval,hn,hi,dK,dy,List.length_append,List.length_cons,List.length_nil,Nat.zero_add,Nat.reduceAdd]
   ·have gG:decide ((j:Int) < (x.cases.length:Int))=false:=decide_eq_false (by omega)
    rw [List.drop_eq_nil_of_le (by omega)] at g3
    change r+0+_=res at g3
    refine af.go 200 ?_
    simp only [W,seval,tg,hn,hi,gG,hw]
    refine ih (i+1,r) ⟨au,g2,by dsimp only;omega⟩ (by dsimp only;omega) _ _ _ _ rfl ⟨by simp;omega,Nat.le_refl _⟩ (hf.set rfl) ?_
    refine bw.env _ ?_
    simp only [nU,seval,hn,hi]
 ·have aC:decide ((i:Int) < (l.length:Int))=false:=decide_eq_false (by omega)
  rw [List.drop_eq_nil_of_le (by omega)] at h3
  change q+0=res at h3
  refine af.go 200 ?_
  simp only [W,seval,tg,hn,hi,aC]
  refine af.fin Tryz.func50 rfl (Left.yD rfl ?_)
  rw [← h3,Int.add_zero]
  exact ⟨rfl,rfl⟩
theorem Og:∀ (n:Nat) (l:List aH),CSt n l
 | 0,l=>ER 0 (fun m h=>by omega) l
 | n+1,l=>ER (n+1) (fun m h=>by obtain rfl:n=m:=by omega
                                exact Og n) l
theorem xX {α:Type} (f:α→Int):∀ l:List α,aZ (fun x=>1+f x) l=l.length+aZ f l
 | []=>by simp [aZ]
 | x :: l=>by
  show (1+f x)+aZ (fun x=>1+f x) l=((l.length+1:Nat):Int)+(f x+aZ f l)
  rw [xX f l]
  omega
def OP (s:cG):Int:=Bb s.fields
def Lu (n:Nat) (f:cn):Int:=Bb f.params+aZ iZ f.results+aZ (nc n) f.body
theorem Oh (n:Nat) (f:cn):0≤Lu n f:=by
 have h1:=qj f.params
 have h2:=bZ mH f.results
 have h3:=bZ (mI n) f.body
 unfold Lu;omega
theorem K1 (n:Nat) (p:kW):JO n p=((p.structs.length:Int)+p.funcs.length)+aZ OP p.structs+aZ (Lu n) p.funcs:=by
 have h1:=xX OP p.structs
 have h2:=xX (Lu n) p.funcs
 have e1:aZ TK p.structs=aZ (fun x=>1+OP x) p.structs:=rfl
 have e2:aZ (Wz n) p.funcs=aZ (fun x=>1+Lu n x) p.funcs:=gC _ fun x _=>by unfold Wz Lu;omega
 unfold JO
 rw [e1,e2,h1,h2]
 omega
set_option maxHeartbeats 4000000 in
theorem K2 (n:Nat) (pr:kW) (hD:∀ f∈pr.funcs,∀ x∈f.body,Dp n x) (hle:JO n pr≤60000) :
 aF Tryz.prog av 18 [ju pr] ⟨[],[]⟩ (aB (.d (.int .i64 (JO n pr))) ⟨[],[]⟩):=by
 have hpn:=K1 n pr
 have Vu:=bZ (fun s:cG=>qj s.fields) pr.structs
 have Su:=bZ (Oh n) pr.funcs
 change 0≤aZ OP pr.structs at Vu
 generalize bR:JO n pr=res at hle hpn ⊢
 unfold ju
 have Jg:=az ((pr.structs.length:Int)+pr.funcs.length) (by omega)
 refine b18.go 40 rfl fun bk=>?_
 simp only [dP] at bk
 simp only [W,seval,BW,Jg]
 refine af.fits fun hf=>?_
 have Cf:∀ q:Int,Fits ⟨[[.d (.sl (pr.structs.map ef)),.d (.sl (pr.funcs.map cT))],[.d (.int .i64 q)]],[]⟩:=fun q vs nr=>by
  simp only [List.mem_cons,List.not_mem_nil,or_false] at nr
  rcases nr with rfl | rfl<;>rfl
 refine af.dc (fun a:Nat × Int=>(aR 54 [(1,.ptr 0 0),(3,.ptr 1 0),(18,.d (.sl (pr.structs.map ef))),(19,.d (.int .i64 pr.structs.length)),(20,.d (.int .i64 a.1))],⟨[[.d (.sl (pr.structs.map ef)),.d (.sl (pr.funcs.map cT))],[.d (.int .i64 a.2)]],[]⟩)) (fun a=>a.1≤pr.structs.length∧0≤a.2∧a.2+aZ OP (pr.structs.drop a.1)+aZ (Lu n) pr.funcs=res) (fun a=>pr.structs.length - a.1) (0,(pr.structs.length:Int)+pr.funcs.length) ⟨by omega,by dsimp only;omega,hpn.symm⟩ ?_ rfl ?_
 ·skip
  refine ay.env _ ?_
  simp only [cD,seval]
 rintro ⟨i,q⟩ ⟨h1,h2,h3⟩ ih
 dsimp only at h1 h2 h3 ih ⊢
 by_cases au:i < pr.structs.length
 ·have hw:=az ((i:Int)+1) (by omega)
  have aC:decide ((i:Int) < (pr.structs.length:Int))=true:=decide_eq_true (by omega)
  have hg:=List.getElem?_eq_getElem au
  rw [aX au] at h3
  obtain ⟨x,hx⟩:∃ x,pr.structs[i]=x:=⟨_,rfl⟩
  rw [hx] at hg h3
  change q+(OP x+aZ OP (pr.structs.drop (i+1)))+_=res at h3
  have hy1:0≤OP x:=qj x.fields
  have hy2:0≤aZ OP (pr.structs.drop (i+1)):=bZ (fun s:cG=>qj s.fields) _
  have hy3:OP x=Bb x.fields:=rfl
  refine af.go 200 ?_
  simp only [W,seval,BW,List.getElem?_map,hg,aC,wM]
  refine ag (xW x.fields 1 q _ _ rfl h2 (by omega)) ?_
  rintro _ _ ⟨rfl,rfl⟩
  refine af.go 200 ?_
  simp only [W,seval,BW,hw]
  refine ih (i+1,q+Bb x.fields) ⟨au,by dsimp only;omega,by dsimp only;omega⟩ (by dsimp only;omega) _ _ [[.d (.str x.name),.d (.sl (x.fields.map gf))]] _ rfl ⟨Nat.zero_le _,Nat.zero_le _⟩ (Cf _) ?_
  refine bw.env _ ?_
  simp only [nU,seval]
  exact ⟨rfl,rfl⟩
 ·have aC:decide ((i:Int) < (pr.structs.length:Int))=false:=decide_eq_false (by omega)
  rw [List.drop_eq_nil_of_le (by omega)] at h3
  change q+0+_=res at h3
  clear ih
  refine af.go 40 ?_
  simp only [W,seval,BW,aC]
  refine af.dc (fun a:Nat × Int=>(aR 54 [(1,.ptr 0 0),(3,.ptr 1 0),(30,.d (.sl (pr.funcs.map cT))),(31,.d (.int .i64 pr.funcs.length)),(32,.d (.int .i64 a.1))],⟨[[.d (.sl (pr.structs.map ef)),.d (.sl (pr.funcs.map cT))],[.d (.int .i64 a.2)]],[]⟩)) (fun a=>a.1≤pr.funcs.length∧0≤a.2∧a.2+aZ (Lu n) (pr.funcs.drop a.1)=res) (fun a=>pr.funcs.length - a.1) (0,q) ⟨by omega,h2,by show q+aZ (Lu n) pr.funcs=res;omega⟩ ?_ rfl ?_
  ·skip
   refine ay.env _ ?_
   simp only [cD,seval]
  rintro ⟨j,r⟩ ⟨g1,g2,g3⟩ ih
  dsimp only at g1 g2 g3 ih ⊢
  by_cases l8:j < pr.funcs.length
  ·have hw:=az ((j:Int)+1) (by omega)
   have gG:decide ((j:Int) < (pr.funcs.length:Int))=true:=decide_eq_true (by omega)
   have hg:=List.getElem?_eq_getElem l8
   have Vv:=hD pr.funcs[j] (List.getElem_mem l8)
   rw [aX l8] at g3
   obtain ⟨x,hx⟩:∃ x,pr.funcs[j]=x:=⟨_,rfl⟩
   rw [hx] at hg g3 Vv
   change r+(Lu n x+aZ (Lu n) (pr.funcs.drop (j+1)))=res at g3
   have hy1:=qj x.params
   have hy2:=bZ mH x.results
   have hy3:=bZ (mI n) x.body
   have hy4:=bZ (Oh n) (pr.funcs.drop (j+1))
   have hy5:Lu n x=Bb x.params+aZ iZ x.results+aZ (nc n) x.body:=rfl
   refine af.go 200 ?_
   simp only [W,seval,BW,List.getElem?_map,hg,gG,mw]
   refine ag (xW x.params 1 r _ _ rfl g2 (by omega)) ?_
   rintro _ _ ⟨rfl,rfl⟩
   refine af.go 200 ?_
   simp only [W,seval,BW]
   refine ag (IX x.results 1 (r+Bb x.params) _ _ rfl (by omega) (by omega)) ?_
   rintro _ _ ⟨rfl,rfl⟩
   refine af.go 200 ?_
   simp only [W,seval,BW]
   refine ag (Og n x.body Vv 1 (r+Bb x.params+aZ iZ x.results) _ _ rfl (by omega) (by omega)) ?_
   rintro _ _ ⟨rfl,rfl⟩
   refine af.go 200 ?_
   simp only [W,seval,BW,hw]
   refine ih (j+1,r+Bb x.params+aZ iZ x.results+aZ (nc n) x.body) ⟨l8,by dsimp only;omega,by dsimp only;omega⟩ (by dsimp only;omega) _ _ [[.d (.str x.name),.d (.sl (x.params.map gf)),.d (.sl (x.results.map dR)),.d (.sl (x.body.map dZ))]] _ rfl ⟨Nat.zero_le _,Nat.zero_le _⟩ (Cf _) ?_
   refine bw.env _ ?_
   simp only [nU,seval]
   exact ⟨rfl,rfl⟩
  ·have gG:decide ((j:Int) < (pr.funcs.length:Int))=false:=decide_eq_false (by omega)
   rw [List.drop_eq_nil_of_le (by omega)] at g3
   change r+0=res at g3
   have CS:¬ (60001:Int) < r:=by omega
   refine af.go 200 ?_
   simp only [W,seval,BW,gG,CS]
   refine af.ret Tryz.func18 rfl (Left.empty ?_)
   rw [← g3,Int.add_zero]
   exact ⟨rfl,rfl⟩
theorem Oi (n:Nat) (pr:kW) (hD:∀ f∈pr.funcs,∀ x∈f.body,Dp n x) (hle:JO n pr≤60000) (S:Mem):aF Tryz.prog av 18 [ju pr] S (aB (.d (.int .i64 (JO n pr))) S):=(K2 n pr hD hle).same rfl rfl S
def X8 (c:Nat) (B:List (List V)) (T:List (Nat × Nat)) (v:V) (S':Mem):Prop:=∃ q:Int,v = .bY []∧S' = ⟨B.set c [.d (.int .i64 q)],T⟩
def Oj (l:List aA):Prop:=∀ (c:Nat) (p:Int) (B:List (List V)) (T:List (Nat × Nat)),B[c]? = some [.d (.int .i64 p)]→aF Tryz.prog av 49 [.ptr c 0,.d (.sl (l.map dR))] ⟨B,T⟩ (X8 c B T)
set_option maxHeartbeats 1000000 in
theorem xY (l:List aA) (h:∀ x∈l,Oj x.elem):Oj l:=by
 intro c p B T hB
 obtain ⟨N,hn⟩:∃ N,B.length=N:=⟨_,rfl⟩
 have hc:=(List.getElem?_eq_some_iff.1 hB).1
 have hi:c < N:=by omega
 have u9:B.set c [.d (.int .i64 p)]=B:=by
  obtain ⟨_,h⟩:=List.getElem?_eq_some_iff.1 hB
  rw [← h,List.set_getElem_self]
 refine b49.go 10 rfl fun bk=>?_
 simp only [dP] at bk
 simp only [W,seval,Sx,hn,hi]
 refine af.fits fun hf=>?_
 refine af.dc (fun a:Nat × Int=>(aR 24 [(0,.ptr c 0),(6,.d (.sl (l.map dR))),(7,.d (.int .i64 l.length)),(8,.d (.int .i64 a.1))],⟨B.set c [.d (.int .i64 a.2)],T⟩)) (fun a=>a.1≤l.length) (fun a=>l.length - a.1) (0,p) (Nat.zero_le _) ?_ (by rw [u9]) ?_
 ·skip
  refine ay.env _ ?_
  simp only [cD,seval,hn]
 rintro ⟨i,q⟩ h1 ih
 dsimp only at h1 ih ⊢
 by_cases au:i < l.length
 ·have hw:=az ((i:Int)+1) (by omega)
  have aC:decide ((i:Int) < (l.length:Int))=true:=decide_eq_true (by omega)
  have hg:=List.getElem?_eq_getElem au
  have oU:=h l[i] (List.getElem_mem au)
  obtain ⟨x,hx⟩:∃ x,l[i]=x:=⟨_,rfl⟩
  rw [hx] at hg oU
  refine af.go 200 ?_
  simp only [W,seval,Sx,hn,hi,List.getElem?_map,hg,aC,cB]
  refine ag (oU c _ _ T (by rw [ah (by simp;omega)];exact bG hc)) ?_
  rintro _ _ ⟨q2,rfl,rfl⟩
  refine af.go 200 ?_
  simp only [W,seval,Sx,hn,hi,hw]
  refine ih (i+1,q2) au (by dsimp only;omega) _ _ _ _ rfl ⟨by simp;omega,Nat.le_refl _⟩ (hf.set rfl) ?_
  refine bw.env _ ?_
  simp only [nU,seval,hn,hi]
 ·have aC:decide ((i:Int) < (l.length:Int))=false:=decide_eq_false (by omega)
  refine af.go 200 ?_
  simp only [W,seval,Sx,hn,hi,aC]
  refine af.fin Tryz.func49 rfl (Left.yD rfl ?_)
  exact ⟨_,rfl,rfl⟩
mutual
theorem K4:∀ t:aA,Oj t.elem
 | .mk _ _ es=>xY es (tZ es)
theorem tZ:∀ l:List aA,∀ x∈l,Oj x.elem
 | [],_,h=>absurd h List.not_mem_nil
 | y :: l,x,h=>by
  rcases List.mem_cons.1 h with e | e
  ·rw [e];exact K4 y
  ·exact tZ l x e
end
theorem ES (l:List aA):Oj l:=xY l (tZ l)
theorem ua (t:aA) (c:Nat) (p:Int) (B:List (List V)) (T:List (Nat × Nat)) (tk:Go.Ab.Tok) (hB:B[c]? = some [.d (.int .i64 p)]) :
 aF Tryz.prog av 49 [.ptr c 0,.sl [[.int .i64 t.kind,.str t.name,.sl (t.elem.map dR)]] tk] ⟨B,T⟩ (X8 c B T):=by
 have h:=ES [t] c p B T hB
 rw [List.map_cons,List.map_nil,cB] at h
 exact Ao h
set_option maxHeartbeats 1000000 in
theorem uR (l:List bH) (c:Nat) (p:Int) (B:List (List V)) (T:List (Nat × Nat)) (hB:B[c]? = some [.d (.int .i64 p)]) :
 aF Tryz.prog av 48 [.ptr c 0,.d (.sl (l.map gf))] ⟨B,T⟩ (X8 c B T):=by
 obtain ⟨N,hn⟩:∃ N,B.length=N:=⟨_,rfl⟩
 have hc:=(List.getElem?_eq_some_iff.1 hB).1
 have hi:c < N:=by omega
 have u9:B.set c [.d (.int .i64 p)]=B:=by
  obtain ⟨_,h⟩:=List.getElem?_eq_some_iff.1 hB
  rw [← h,List.set_getElem_self]
 refine b48.go 10 rfl fun bk=>?_
 simp only [dP] at bk
 simp only [W,seval,Sy,hn,hi]
 refine af.fits fun hf=>?_
 refine af.dc (fun a:Nat × Int=>(aR 25 [(0,.ptr c 0),(6,.d (.sl (l.map gf))),(7,.d (.int .i64 l.length)),(8,.d (.int .i64 a.1))],⟨B.set c [.d (.int .i64 a.2)],T⟩)) (fun a=>a.1≤l.length) (fun a=>l.length - a.1) (0,p) (Nat.zero_le _) ?_ (by rw [u9]) ?_
 ·skip
  refine ay.env _ ?_
  simp only [cD,seval,hn]
 rintro ⟨i,q⟩ h1 ih
 dsimp only at h1 ih ⊢
 by_cases au:i < l.length
 ·have hw:=az ((i:Int)+1) (by omega)
  have aC:decide ((i:Int) < (l.length:Int))=true:=decide_eq_true (by omega)
  have hg:=List.getElem?_eq_getElem au
  obtain ⟨x,hx⟩:∃ x,l[i]=x:=⟨_,rfl⟩
  rw [hx] at hg
  refine af.go 200 ?_
  simp only [W,seval,Sy,hn,hi,List.getElem?_map,hg,aC,mq,bT,bC,Nat.reduceMul]
  refine ag (ua x.type c _ _ T _ (by rw [ah (by simp;omega)];exact bG hc)) ?_
  rintro _ _ ⟨q2,rfl,rfl⟩
  refine af.go 200 ?_
  simp only [W,seval,Sy,hn,hi,hw]
  refine ih (i+1,q2) au (by dsimp only;omega) _ _ _ _ rfl ⟨by simp;omega,Nat.le_refl _⟩ (hf.set rfl) ?_
  refine bw.env _ ?_
  simp only [nU,seval,hn,hi]
 ·have aC:decide ((i:Int) < (l.length:Int))=false:=decide_eq_false (by omega)
  refine af.go 200 ?_
  simp only [W,seval,Sy,hn,hi,aC]
  refine af.fin Tryz.func48 rfl (Left.yD rfl ?_)
  exact ⟨_,rfl,rfl⟩
def Ok (l:List aj):Prop:=∀ (c:Nat) (p:Int) (B:List (List V)) (T:List (Nat × Nat)),B[c]? = some [.d (.int .i64 p)]→aF Tryz.prog av 97 [.ptr c 0,.d (.sl (l.map fO))] ⟨B,T⟩ (X8 c B T)
set_option maxHeartbeats 2000000 in
theorem tc (l:List aj) (h:∀ x∈l,Ok x.kids):Ok l:=by
 intro c p B T hB
 obtain ⟨N,hn⟩:∃ N,B.length=N:=⟨_,rfl⟩
 have hc:=(List.getElem?_eq_some_iff.1 hB).1
 have hi:c < N:=by omega
 have u9:B.set c [.d (.int .i64 p)]=B:=by
  obtain ⟨_,h⟩:=List.getElem?_eq_some_iff.1 hB
  rw [← h,List.set_getElem_self]
 refine b97.go 10 rfl fun bk=>?_
 simp only [dP] at bk
 simp only [W,seval,EM,hn,hi]
 refine af.fits fun hf=>?_
 refine af.dc (fun a:Nat × Int=>(aR 38 [(0,.ptr c 0),(6,.d (.sl (l.map fO))),(7,.d (.int .i64 l.length)),(8,.d (.int .i64 a.1))],⟨B.set c [.d (.int .i64 a.2)],T⟩)) (fun a=>a.1≤l.length) (fun a=>l.length - a.1) (0,p) (Nat.zero_le _) ?_ (by rw [u9]) ?_
 ·skip
  refine ay.env _ ?_
  simp only [cD,seval,hn]
 rintro ⟨i,q⟩ h1 ih
 dsimp only at h1 ih ⊢
 by_cases au:i < l.length
 ·have hw:=az ((i:Int)+1) (by omega)
  have aC:decide ((i:Int) < (l.length:Int))=true:=decide_eq_true (by omega)
  have hg:=List.getElem?_eq_getElem au
  have oU:=h l[i] (List.getElem_mem au)
  obtain ⟨x,hx⟩:∃ x,l[i]=x:=⟨_,rfl⟩
  rw [hx] at hg oU
  have hz:=p9 x.type
  unfold aY at hz
  refine af.go 200 ?_
  simp only [W,seval,EM,hn,hi,List.getElem?_map,hg,aC,cQ]
  refine ag (hz _ _) ?_
  rintro _ _ ⟨rfl,rfl⟩
  obtain ⟨q1,P8⟩:∃ q1,IntKind.i64.wrap (q+1)=q1:=⟨_,rfl⟩
  rw [P8]
  cases qQ:dB x.type
  case' false =>
   refine af.go 200 ?_
   simp only [W,seval,EM,hn,hi,qQ,bT,bC,Nat.reduceMul]
   refine ag (ua x.type c q1 _ T _ (by rw [ah (by simp;omega)];exact bG hc)) ?_
   rintro _ _ ⟨q2,rfl,rfl⟩
   refine af.go 3 ?_
   simp only [W,seval,EM,hn,hi]
  case' true =>
   obtain ⟨q2,E3⟩:∃ q2,q1=q2:=⟨_,rfl⟩
   rw [E3]
   refine af.go 3 ?_
   simp only [W,seval,EM,hn,hi,qQ]
  all_goals
   cases Q9:decide (q2≤60000)
   ·refine af.go 200 ?_
    simp only [W,seval,EM,hn,hi,Q9,hw]
    refine ih (i+1,q2) au (by dsimp only;omega) _ _ _ _ rfl ⟨by simp;omega,Nat.le_refl _⟩ (hf.set rfl) ?_
    refine bw.env _ ?_
    simp only [nU,seval,hn,hi]
   ·refine af.go 200 ?_
    simp only [W,seval,EM,hn,hi,Q9]
    refine ag (oU c q2 _ T (by rw [ah (by simp;omega)];exact bG hc)) ?_
    rintro _ _ ⟨q3,rfl,rfl⟩
    refine af.go 200 ?_
    simp only [W,seval,EM,hn,hi,hw]
    refine ih (i+1,q3) au (by dsimp only;omega) _ _ _ _ rfl ⟨by simp;omega,Nat.le_refl _⟩ (hf.set rfl) ?_
    refine bw.env _ ?_
    simp only [nU,seval,hn,hi]
 ·have aC:decide ((i:Int) < (l.length:Int))=false:=decide_eq_false (by omega)
  refine af.go 200 ?_
  simp only [W,seval,EM,hn,hi,aC]
  refine af.fin Tryz.func97 rfl (Left.yD rfl ?_)
  exact ⟨_,rfl,rfl⟩
mutual
theorem ET:∀ t:aj,Ok t.kids
 | .mk _ _ _ _ _ es=>tc es (pJ es)
theorem pJ:∀ l:List aj,∀ x∈l,Ok x.kids
 | [],_,h=>absurd h List.not_mem_nil
 | y :: l,x,h=>by
  rcases List.mem_cons.1 h with e | e
  ·rw [e];exact ET y
  ·exact pJ l x e
end
theorem xZ (l:List aj):Ok l:=tc l (pJ l)
def vh (l:List aH):Prop:=∀ (c:Nat) (p:Int) (B:List (List V)) (T:List (Nat × Nat)),B[c]? = some [.d (.int .i64 p)]→aF Tryz.prog av 50 [.ptr c 0,.d (.sl (l.map dZ))] ⟨B,T⟩ (X8 c B T)
set_option maxHeartbeats 4000000 in
theorem ql (l:List aH) (h:∀ x∈l,vh x.body∧vh x.dh∧∀ k∈x.cases,vh k.body):vh l:=by
 intro c p B T hB
 obtain ⟨N,hn⟩:∃ N,B.length=N:=⟨_,rfl⟩
 have hc:=(List.getElem?_eq_some_iff.1 hB).1
 have hi:c < N:=by omega
 have dK:c < N+1:=by omega
 have dy:N < N+1:=by omega
 have u9:B.set c [.d (.int .i64 p)]=B:=by
  obtain ⟨_,h⟩:=List.getElem?_eq_some_iff.1 hB
  rw [← h,List.set_getElem_self]
 refine b50.go 10 rfl fun bk=>?_
 simp only [dP] at bk
 simp only [W,seval,tg,hn,hi]
 refine af.fits fun hf=>?_
 refine af.dc (fun a:Nat × Int=>(aR 71 [(0,.ptr c 0),(8,.d (.sl (l.map dZ))),(9,.d (.int .i64 l.length)),(10,.d (.int .i64 a.1))],⟨B.set c [.d (.int .i64 a.2)],T⟩)) (fun a=>a.1≤l.length) (fun a=>l.length - a.1) (0,p) (Nat.zero_le _) ?_ (by rw [u9]) ?_
 ·skip
  refine ay.env _ ?_
  simp only [cD,seval,hn]
 rintro ⟨i,q⟩ h1 ih
 dsimp only at h1 ih ⊢
 by_cases au:i < l.length
 ·have hw:=az ((i:Int)+1) (by omega)
  have aC:decide ((i:Int) < (l.length:Int))=true:=decide_eq_true (by omega)
  have hg:=List.getElem?_eq_getElem au
  have oU:=h l[i] (List.getElem_mem au)
  obtain ⟨x,hx⟩:∃ x,l[i]=x:=⟨_,rfl⟩
  rw [hx] at hg oU
  obtain ⟨hdb,hde,Tz⟩:=oU
  have hz:=p9 x.type
  unfold aY at hz
  refine af.go 200 ?_
  simp only [W,seval,tg,hn,hi,List.getElem?_map,hg,aC,cX]
  obtain ⟨q1,P8⟩:∃ q1,IntKind.i64.wrap (q+1)=q1:=⟨_,rfl⟩
  rw [P8]
  cases X6:decide (60000 < q1)
  case' true =>
   simp only [W,seval,tg,hn,hi,X6]
   refine af.ret Tryz.func50 rfl (Left.set (by rfl) ?_)
   exact ⟨_,rfl,rfl⟩
  simp only [W,seval,tg,hn,hi,X6]
  refine ag (hz _ _) ?_
  rintro _ _ ⟨rfl,rfl⟩
  cases qQ:dB x.type
  case' false =>
   refine af.go 200 ?_
   simp only [W,seval,tg,hn,hi,qQ,bT,bC,Nat.reduceMul]
   refine ag (ua x.type c q1 _ T _ (by rw [ah (by simp;omega)];exact bG hc)) ?_
   rintro _ _ ⟨q2,rfl,rfl⟩
   refine af.go 200 ?_
   simp only [W,seval,tg,hn,hi]
  case' true =>
   obtain ⟨q2,E3⟩:∃ q2,q1=q2:=⟨_,rfl⟩
   rw [E3]
   refine af.go 200 ?_
   simp only [W,seval,tg,hn,hi,qQ]
  all_goals
   refine ag (xZ x.aG c q2 _ T (by rw [ah (by simp;omega)];exact bG hc)) ?_
   rintro _ _ ⟨q3,rfl,rfl⟩
   refine af.go 200 ?_
   simp only [W,seval,tg,hn,hi]
   refine ag (xZ x.exprs c q3 _ T (by rw [ah (by simp;omega)];exact bG hc)) ?_
   rintro _ _ ⟨q4,rfl,rfl⟩
   refine af.go 200 ?_
   simp only [W,seval,tg,hn,hi]
   refine ag (hdb c q4 _ T (by rw [ah (by simp;omega)];exact bG hc)) ?_
   rintro _ _ ⟨q5,rfl,rfl⟩
   refine af.go 200 ?_
   simp only [W,seval,tg,hn,hi]
   refine ag (hde c q5 _ T (by rw [ah (by simp;omega)];exact bG hc)) ?_
   rintro _ _ ⟨q6,rfl,rfl⟩
   refine af.go 200 ?_
   simp only [W,seval,tg,hn,hi]
   refine af.fits fun Ln=>?_
   have Cf:∀ q':Int,Fits ⟨B.set c [.d (.int .i64 q')]++[oX x],T⟩:=fun q'=>by
    have:=Ln.set (i:=c) (vs:=[.d (.int .i64 q')]) rfl
    rw [fI (by simp;omega),List.set_set] at this
    exact this
   clear Ln
   refine af.small fun jd=>?_
   have jY:x.cases.length≤9223372036854775807:=by
    have:=(ga _).1 jd 52 (by simp [aR])
    simpa [aR,lk,sm] using this
   clear jd
   refine af.dc (fun b:Nat × Int=>(aR 71 [(0,.ptr c 0),(8,.d (.sl (l.map dZ))),(9,.d (.int .i64 l.length)),(10,.d (.int .i64 i)),(52,.d (.sl (x.cases.map lK))),(53,.d (.int .i64 x.cases.length)),(54,.d (.int .i64 b.1))],⟨B.set c [.d (.int .i64 b.2)]++[oX x],T⟩)) (fun b=>b.1≤x.cases.length) (fun b=>x.cases.length - b.1) (0,q6) (Nat.zero_le _) ?_ rfl ?_
   ·skip
    refine ay.env _ ?_
    simp only [cD,seval,hn]
   rintro ⟨j,r⟩ g1 lM
   dsimp only at g1 lM ⊢
   dsimp only [oX]
   by_cases l8:j < x.cases.length
   ·have m9:=az ((j:Int)+1) (by omega)
    have gG:decide ((j:Int) < (x.cases.length:Int))=true:=decide_eq_true (by omega)
    have Cj:=List.getElem?_eq_getElem l8
    have X7:=Tz x.cases[j] (List.getElem_mem l8)
    obtain ⟨k,hk⟩:∃ k,x.cases[j]=k:=⟨_,rfl⟩
    rw [hk] at Cj X7
    refine af.go 200 ?_
    simp only [W,seval,tg,hn,hi,List.getElem?_map,Cj,gG,iS]
    refine ag (X7 c _ _ T (by rw [ah (by simp;omega)];exact bG hc)) ?_
    rintro _ _ ⟨r2,rfl,rfl⟩
    refine af.go 200 ?_
    simp only [W,seval,tg,hn,hi,m9]
    rw [TR]
    refine lM (j+1,r2) l8 (by dsimp only;omega) _ _ _ _ rfl ⟨by simp;omega,Nat.le_refl _⟩ (Cf _) ?_
    refine bw.env _ ?_
    simp only [nU,seval,hn,hi,dK,dy,List.length_append,List.length_cons,List.length_nil,Nat.zero_add,Nat.reduceAdd]
   ·have gG:decide ((j:Int) < (x.cases.length:Int))=false:=decide_eq_false (by omega)
    refine af.go 200 ?_
    simp only [W,seval,tg,hn,hi,gG,hw]
    refine ih (i+1,r) au (by dsimp only;omega) _ _ _ _ rfl ⟨by simp;omega,Nat.le_refl _⟩ (hf.set rfl) ?_
    refine bw.env _ ?_
    simp only [nU,seval,hn,hi]
 ·have aC:decide ((i:Int) < (l.length:Int))=false:=decide_eq_false (by omega)
  refine af.go 200 ?_
  simp only [W,seval,tg,hn,hi,aC]
  refine af.fin Tryz.func50 rfl (Left.yD rfl ?_)
  exact ⟨_,rfl,rfl⟩
mutual
theorem Ol:∀ s:aH,vh s.body∧vh s.dh∧∀ k∈s.cases,vh k.body
 | .mk _ _ _ _ _ b e cs=>⟨ql b (pK b),ql e (pK e),EU cs⟩
theorem pK:∀ l:List aH,∀ x∈l,vh x.body∧vh x.dh∧∀ k∈x.cases,vh k.body
 | [],_,h=>absurd h List.not_mem_nil
 | y :: l,x,h=>by
  rcases List.mem_cons.1 h with e | e
  ·rw [e];exact Ol y
  ·exact pK l x e
theorem EU:∀ l:List cJ,∀ k∈l,vh k.body
 | [],_,h=>absurd h List.not_mem_nil
 | .mk _ b :: l,k,h=>by
  rcases List.mem_cons.1 h with e | e
  ·rw [e];exact ql b (pK b)
  ·exact EU l k e
end
theorem Ru (l:List aH):vh l:=ql l (pK l)
set_option maxHeartbeats 4000000 in
theorem K5 (pr:kW):aF Tryz.prog av 18 [ju pr] ⟨[],[]⟩ fun v S'=>∃ q:Int,v = .d (.int .i64 q)∧S' = ⟨[],[]⟩:=by
 unfold ju
 refine b18.go 40 rfl fun bk=>?_
 simp only [dP] at bk
 simp only [W,seval,BW]
 refine af.fits fun hf=>?_
 have Cf:∀ q:Int,Fits ⟨[[.d (.sl (pr.structs.map ef)),.d (.sl (pr.funcs.map cT))],[.d (.int .i64 q)]],[]⟩:=fun q vs nr=>by
  simp only [List.mem_cons,List.not_mem_nil,or_false] at nr
  rcases nr with rfl | rfl<;>rfl
 obtain ⟨q0,SS⟩:∃ q0,IntKind.i64.wrap ((pr.structs.length:Int)+pr.funcs.length)=q0:=⟨_,rfl⟩
 rw [SS]
 refine af.dc (fun a:Nat × Int=>(aR 54 [(1,.ptr 0 0),(3,.ptr 1 0),(18,.d (.sl (pr.structs.map ef))),(19,.d (.int .i64 pr.structs.length)),(20,.d (.int .i64 a.1))],⟨[[.d (.sl (pr.structs.map ef)),.d (.sl (pr.funcs.map cT))],[.d (.int .i64 a.2)]],[]⟩)) (fun a=>a.1≤pr.structs.length) (fun a=>pr.structs.length - a.1) (0,q0) (Nat.zero_le _) ?_ rfl ?_
 ·skip
  refine ay.env _ ?_
  simp only [cD,seval]
 rintro ⟨i,q⟩ h1 ih
 dsimp only at h1 ih ⊢
 by_cases au:i < pr.structs.length
 ·have hw:=az ((i:Int)+1) (by omega)
  have aC:decide ((i:Int) < (pr.structs.length:Int))=true:=decide_eq_true (by omega)
  have hg:=List.getElem?_eq_getElem au
  obtain ⟨x,hx⟩:∃ x,pr.structs[i]=x:=⟨_,rfl⟩
  rw [hx] at hg
  refine af.go 200 ?_
  simp only [W,seval,BW,List.getElem?_map,hg,aC,wM]
  refine ag (uR x.fields 1 q _ _ rfl) ?_
  rintro _ _ ⟨q2,rfl,rfl⟩
  refine af.go 200 ?_
  simp only [W,seval,BW,hw]
  refine ih (i+1,q2) au (by dsimp only;omega) _ _ [[.d (.str x.name),.d (.sl (x.fields.map gf))]] _ rfl ⟨Nat.zero_le _,Nat.zero_le _⟩ (Cf _) ?_
  refine bw.env _ ?_
  simp only [nU,seval]
  exact ⟨rfl,rfl⟩
 ·have aC:decide ((i:Int) < (pr.structs.length:Int))=false:=decide_eq_false (by omega)
  clear ih
  refine af.go 40 ?_
  simp only [W,seval,BW,aC]
  refine af.dc (fun a:Nat × Int=>(aR 54 [(1,.ptr 0 0),(3,.ptr 1 0),(30,.d (.sl (pr.funcs.map cT))),(31,.d (.int .i64 pr.funcs.length)),(32,.d (.int .i64 a.1))],⟨[[.d (.sl (pr.structs.map ef)),.d (.sl (pr.funcs.map cT))],[.d (.int .i64 a.2)]],[]⟩)) (fun a=>a.1≤pr.funcs.length) (fun a=>pr.funcs.length - a.1) (0,q) (Nat.zero_le _) ?_ rfl ?_
  ·skip
   refine ay.env _ ?_
   simp only [cD,seval]
  rintro ⟨j,r⟩ g1 ih
  dsimp only at g1 ih ⊢
  by_cases l8:j < pr.funcs.length
  ·have hw:=az ((j:Int)+1) (by omega)
   have gG:decide ((j:Int) < (pr.funcs.length:Int))=true:=decide_eq_true (by omega)
   have hg:=List.getElem?_eq_getElem l8
   obtain ⟨x,hx⟩:∃ x,pr.funcs[j]=x:=⟨_,rfl⟩
   rw [hx] at hg
   refine af.go 200 ?_
   simp only [W,seval,BW,List.getElem?_map,hg,gG,mw]
   refine ag (uR x.params 1 r _ _ rfl) ?_
   rintro _ _ ⟨r2,rfl,rfl⟩
   refine af.go 200 ?_
   simp only [W,seval,BW]
   refine ag (ES x.results 1 r2 _ _ rfl) ?_
   rintro _ _ ⟨r3,rfl,rfl⟩
   refine af.go 200 ?_
   simp only [W,seval,BW]
   refine ag (Ru x.body 1 r3 _ _ rfl) ?_
   rintro _ _ ⟨r4,rfl,rfl⟩
   refine af.go 200 ?_
   simp only [W,seval,BW,hw]
   refine ih (j+1,r4) l8 (by dsimp only;omega) _ _ [[.d (.str x.name),.d (.sl (x.params.map gf)),.d (.sl (x.results.map dR)),.d (.sl (x.body.map dZ))]] _ rfl ⟨Nat.zero_le _,Nat.zero_le _⟩ (Cf _) ?_
   refine bw.env _ ?_
   simp only [nU,seval]
   exact ⟨rfl,rfl⟩
  ·have gG:decide ((j:Int) < (pr.funcs.length:Int))=false:=decide_eq_false (by omega)
   by_cases CS:(60001:Int) < r
   ·refine af.go 200 ?_
    simp only [W,seval,BW,gG,CS]
    refine af.ret Tryz.func18 rfl (Left.empty ?_)
    exact ⟨_,rfl,rfl⟩
   ·refine af.go 200 ?_
    simp only [W,seval,BW,gG,CS]
    refine af.ret Tryz.func18 rfl (Left.empty ?_)
    exact ⟨_,rfl,rfl⟩
theorem EV (rows:List (List D)) (tk:Go.Ab.Tok) (l:List V):List.mapM mL (.sl rows tk :: l)=(List.mapM mL l).map (.sl rows :: ·):=by
 simp only [List.mapM_cons,mL]
 cases List.mapM mL l<;>rfl
theorem BX {K:Nat} {p:kW} (hD:∀ f∈p.funcs,∀ x∈f.body,Dp K x) (hn:uE p) (B:List (List V)) (T:List (Nat × Nat)):aF Tryz.prog av 9 [ju p] ⟨B,T⟩ (aB (.bY [ju (fY (nT K p 0).1 p).1,.d (.int .i64 (fY (nT K p 0).1 p).2)]) ⟨B,T⟩) :=
 xK (fun h=>(qg h hn).1) (fun h=>(qg h hn).2) (fun B T=>DI K p (fun f hf x hx=>sy K x (hD f hf x hx)) B T)
theorem Rv {K:Nat} {p:kW} (hD:∀ f∈p.funcs,∀ x∈f.body,Dp K x) (S:Mem):aF Tryz.prog av 18 [ju p] S fun v S'=>∃ q:Int,v = .d (.int .i64 q)∧S' = S∧((nT K p 0).1=true→q=JO K p):=by
 cases h:(nT K p 0).1 with
 | true=>exact (Oi K p hD (Du K p h).2 S).mono fun v S' ⟨e1,e2⟩=>⟨_,e1,e2,fun _=>rfl⟩
 | false =>
  refine (aF.frame (args:=[ju p]) (K5 p) S).mono ?_
  rintro v S' ⟨rfl,v0,S0,⟨q,rfl,_⟩,rfl⟩
  exact ⟨q,rfl,rfl,fun e=>by cases e⟩
set_option maxHeartbeats 8000000 in
theorem Om (p:kW) (n:Int) (hp:uE p) (hn:0≤n∧n≤18446744073709551615) (vo:(p.funcs.length+2)*88≤140737488355328):aF Tryz.prog av 6 [ju p,.d (.int .u64 n)] ⟨[],[]⟩ (aB (.d (.bool true)) ⟨[],[]⟩):=by
 obtain ⟨K,hK0,hK⟩:∃ K,0 < K∧∀ f∈(p.funcs++[bS n aQ])++[bS n aQ],∀ x∈f.body,Dp K x:=by
  refine ⟨SizeOf.sizeOf ((p.funcs++[bS n aQ])++[bS n aQ])+1,by omega,fun f hf x hx=>Dp.sA _ x ?_⟩
  have h1:=List.sizeOf_lt_of_mem hf
  have h2:=List.sizeOf_lt_of_mem hx
  have h3:SizeOf.sizeOf f.body < SizeOf.sizeOf f:=by
   cases f
   simp +arith
  omega
 have NC:gL (bS n aQ).body:=by
  show gL [.mk 6 [] aQ [] [.mk 2 [] n aQ [] []] [] [] []]
  simp [gL,qq,sB,mU,qG,hn.1,hn.2]
 have Lh:uE ⟨p.structs,p.funcs++[bS n aQ]⟩:=fun f hf=>by
  rcases List.mem_append.1 hf with hf | hf
  ·exact hp f hf
  ·rw [List.mem_singleton.1 hf];exact NC
 have Ub:uE ⟨p.structs,(p.funcs++[bS n aQ])++[bS n aQ]⟩:=fun f hf=>by
  rcases List.mem_append.1 hf with hf | hf
  ·exact Lh f hf
  ·rw [List.mem_singleton.1 hf];exact NC
 have hP:=Rv (K:=K) (p:=p) fun f hf=>hK f (by simp [hf])
 have hC:=BX (K:=K) (p:=p) (fun f hf=>hK f (by simp [hf])) hp
 have Vq:=BX (K:=K) (p:=⟨p.structs,p.funcs++[bS n aQ]⟩) (fun f hf=>hK f (List.mem_append_left _ hf)) Lh [] []
 have hC3:=BX (K:=K) (p:=⟨p.structs,(p.funcs++[bS n aQ])++[bS n aQ]⟩) (fun f hf=>hK f hf) Ub [] []
 have K6:=fun (h:za EC p=false) hc=>N5 (K:=K) (p:=p) (n:=n) hK0 h hn.2 hc
 have hG:=Oa p
 have hN:=N2 EC p
 generalize fY (nT K p 0).1 p=r1 at hC K6
 generalize fY (nT K ⟨p.structs,p.funcs++[bS n aQ]⟩ 0).1 ⟨p.structs,p.funcs++[bS n aQ]⟩=r2 at Vq K6
 generalize fY (nT K ⟨p.structs,(p.funcs++[bS n aQ])++[bS n aQ]⟩ 0).1 ⟨p.structs,(p.funcs++[bS n aQ])++[bS n aQ]⟩=r3 at hC3 K6
 have hD2:∀ S:Mem,aF Tryz.prog av 9 [.agg [.d (.sl (p.structs.map ef)),.sl (p.funcs.map cT++[cT (bS n aQ)]) (.own 0)]] S (aB (.bY [ju r2.1,.d (.int .i64 r2.2)]) S):=fun S =>
  aF.H9 (v:=.bY [ju r2.1,.d (.int .i64 r2.2)]) Vq.only (by simp [uW,wk,ju]) rfl S
 have hD3:∀ S:Mem,aF Tryz.prog av 9 [.agg [.d (.sl (p.structs.map ef)),.sl (p.funcs.map cT++[cT (bS n aQ),cT (bS n aQ)]) (.own 0)]] S (aB (.bY [ju r3.1,.d (.int .i64 r3.2)]) S):=fun S =>
  aF.H9 (v:=.bY [ju r3.1,.d (.int .i64 r3.2)]) hC3.only (by simp [uW,wk,ju]) rfl S
 clear Vq hC3 hK hp Lh Ub NC
 unfold ju at hP hG hN hC hD2 hD3 ⊢
 refine b6.go 60 rfl fun bk=>?_
 simp only [dP] at bk
 simp only [W,seval,c6]
 refine ag (GU _) ?_
 rintro _ _ ⟨rfl,rfl⟩
 refine af.go 60 ?_
 simp only [W,seval,c6,Bool.not_true]
 refine ag (hP _) ?_
 rintro _ _ ⟨q,rfl,rfl,hq⟩
 by_cases hgt:2000 < q
 ·have UF:=decide_eq_true hgt
  refine af.go 100 ?_
  simp only [W,seval,c6,UF]
  refine af.ret Tryz.func6 rfl (Left.empty ?_)
  exact ⟨rfl,rfl⟩
 have UF:=decide_eq_false hgt
 refine af.go 100 ?_
 simp only [W,seval,c6,UF]
 refine ag (hG _) ?_
 rintro _ _ ⟨rfl,rfl⟩
 cases hgr:decide (2500 < Vt p 2500)
 case true =>
  refine af.go 100 ?_
  simp only [W,seval,c6]
  refine af.ret Tryz.func6 rfl (Left.empty ?_)
  exact ⟨rfl,rfl⟩
 refine af.go 100 ?_
 simp only [W,seval,c6]
 refine ag (hN _) ?_
 rintro _ _ ⟨rfl,rfl⟩
 cases RK:za EC p
 case true =>
  refine af.go 100 ?_
  simp only [W,seval,c6]
  refine af.ret Tryz.func6 rfl (Left.empty ?_)
  exact ⟨rfl,rfl⟩
 have K6:=K6 RK fun h=>by have:=hq h;omega
 refine af.go 100 ?_
 simp only [W,seval,c6]
 refine ag (hC _ _) ?_
 rintro _ _ ⟨rfl,rfl⟩
 refine af.go 160 ?_
 simp only [W,seval,c6,EV,bT,bC]
 refine af.fV ?_ (EE (p:=p) (n:=n) (qr:=[.d (.sl (r1.1.structs.map ef)),.d (.sl (r1.1.funcs.map cT))]) (e:=.d (.int .i64 r1.2)) vo ?_)
 ·skip
  refine ay.env _ ?_
  simp only [cD,seval]
 unfold ig
 clear hC hG hN hP
 refine af.go 160 ?_
 simp only [W,seval,c6]
 refine ag (hD2 _) ?_
 rintro _ _ ⟨rfl,rfl⟩
 have fF:(p.funcs.length+1+1) * 88≤140737488355328:=by omega
 have hr4:cy 4 [cT (bS n aQ)]=true:=rfl
 have hbf:cT (bS n aQ)=[.str EC,.sl [],.sl [[.int .i64 6,.str [],.sl []]],.sl [[.int .i64 6,.sl [],.int .i64 0,.str [],.sl [],.sl [],.sl [[.int .i64 2,.str [],.int .u64 n,.int .i64 0,.str [],.sl [],.sl [],.sl []]],.sl [],.sl [],.sl []]]]:=rfl
 rw [hbf] at hr4
 refine af.go 160 ?_
 simp only [W,seval,c6,fF,hr4,EV,bT,bC,List.length_append,List.length_map,List.length_cons,List.length_nil,Nat.zero_add,Nat.reduceMul]
 refine ag (hD3 _) ?_
 rintro _ _ ⟨rfl,rfl⟩
 clear hD2 hD3
 rcases K6 with ⟨he,hf⟩ | ⟨fs,hlen,rfl,rfl,rfl⟩
 ·have zg:decide (r1.2 ≠ 0)=true:=decide_eq_true he
  rw [hf]
  refine af.go 160 ?_
  simp only [W,seval,c6,zg,he]
  refine af.ret Tryz.func6 rfl (Left.empty ?_)
  exact ⟨rfl,rfl⟩
 have hw:=az ((fs.length:Int)+1) (by omega)
 have hle:(fs.length:Int)≤fs.length+1:=by omega
 have FI:cy 4 (fs.map cT++[cT (bS n tR)])=true:=by
  unfold cy
  rw [List.all_eq_true]
  intro r hr
  rcases List.mem_append.1 hr with hr | hr
  ·obtain ⟨x,_,rfl⟩:=List.mem_map.1 hr
   rfl
  ·rw [List.mem_singleton.1 hr]
   rfl
 have Vo:List.take fs.length (fs.map cT++[cT (bS n tR)])=fs.map cT:=by
  rw [← List.length_map (f:=cT),List.take_left']
  rfl
 have hS:=Rq ⟨p.structs,fs⟩ ⟨p.structs,fs⟩
 rw [KX] at hS
 unfold ju at hS
 refine af.go 200 ?_
 simp only [W,seval,c6,hw,hle,FI,Vo,List.map_append,List.length_append,List.length_map,List.length_cons,List.length_nil,List.map_cons,List.map_nil,Nat.zero_add]
 refine ag (hS _) ?_
 rintro _ _ ⟨rfl,rfl⟩
 refine af.go 60 ?_
 simp only [W,seval,c6]
 refine af.ret Tryz.func6 rfl (Left.empty ?_)
 exact ⟨rfl,rfl⟩
end Go.Proofs.YtnfnbjjnjjdjdaaGreatDoor
namespace Go.Ab
open Go.ChangeShapes Go.WideShapes Go.ChangeAt Go.RowKit Go.Av
def Rw (T:TypeId→List D→Prop):List Field→List D→Prop
 | [],ds=>ds=[]
 | f :: fs,ds=>∃ a b,ds=a++b∧T f.type a∧Rw T fs b
def rF (P:Program):Nat→TypeId→List D→Prop
 | 0,_,_=>False
 | n+1,t,ds=>match P.underlying t with
  | some .bool=>∃ b,ds=[.bool b]
  | some (.int k)=>∃ m,ds=[.int k m]∧(Lit.int k m).wf=true
  | some .string=>∃ s,ds=[.str s]∧s.length≤9223372036854775807
  | some (.slice e)=>∃ rows,ds=[.sl rows]∧rows.length≤9223372036854775807∧∀ r∈rows,rF P n e r
  | some (.struct fs)=>Rw (rF P n) fs.toList ds
  | _=>False
def ya (P:Program):List Field→Nat→Option Nat
 | [],o=>some o
 | f :: fs,o=>if f.offset=o then ya P fs (o+P.cellsOf f.type) else none
def GY (P:Program) (L:List TypeId) (t:TypeId):Bool :=
 match P.underlying t with
 | some .bool=>true
 | some (.int _)=>true
 | some .string=>true
 | some (.slice e)=>L.contains e && decide (0 < P.cellsOf e)
 | some (.struct fs)=>fs.toList.all (fun f=>L.contains f.type) && ya P fs.toList 0 == some (P.cellsOf t)
 | _=>false
theorem EW {α:Type} (Q:Nat→α→Prop):∀ len:Nat,(∀ i < len,∃ a,Q i a)→∃ l:List α,l.length=len∧∀ i (hi:i < l.length),Q i l[i]
 | 0,_=>⟨[],rfl,fun i hi=>by cases hi⟩
 | n+1,h=>by
  obtain ⟨l,hl,hq⟩:=EW Q n (fun i hi=>h i (by omega))
  obtain ⟨a,ha⟩:=h n (by omega)
  refine ⟨l++[a],by simp [hl],fun i hi=>?_⟩
  by_cases VG:i < l.length
  ·rw [List.getElem_append_left VG]
   exact hq i VG
  ·have:i=n:=by simp at hi;omega
   subst this
   have zq:(l++[a])[i]'hi=a:=by
    rw [List.getElem_append_right (by omega)]
    simp
   rw [zq]
   exact ha
theorem On {w:World} {a:Addr} {v:Value} (h:w.cell? a=some v):a.block < w.heap.size∧a.spot=none:=by
 unfold World.cell? at h
 cases hb:w.heap[a.block]? with
 | none=>rw [hb] at h;cases h
 | some o =>
  refine ⟨(Array.getElem?_eq_some_iff.1 hb).1,?_⟩
  rw [hb] at h
  cases o<;>simp at h
  obtain ⟨h1,_⟩:=h
  exact h1
section
variable {P:Program} {H:Type} {enc:TypeId × Value→H} {W:World} {sp:Nat→Bool} {held:Bool}
abbrev EX (W:World):Nat→Nat→Prop:=fun g _=>W.heap.size≤g
def BY (P:Program) (W:World) (n:Nat) (t:TypeId) (cs:List Value) (ds:List D):Prop:=rF P n t ds∧ds.length=cs.length∧∀ j (h:j < ds.length),DR (EX W) W ds[j] (cs.getD j undef)
theorem uS (n:Nat) (cs:List Value):∀ (l:List Field) (o:Nat),ya P l o=some cs.length →
 (∀ f∈l,∃ ds,BY P W n f.type ((cs.drop f.offset).take (P.cellsOf f.type)) ds)→o≤cs.length∧∃ ds,Rw (rF P n) l ds∧ds.length=cs.length - o∧∀ j (h:j < ds.length),DR (EX W) W ds[j] (cs.getD (o+j) undef)
 | [],o,h,_=>by
  have:o=cs.length:=Option.some.inj h
  exact ⟨by omega,[],rfl,by simp;omega,fun j h=>by simp at h⟩
 | f :: fs,o,h,hf=>by
  unfold ya at h
  split at h
  case isFalse=>cases h
  rename_i ho
  obtain ⟨a,a1,a2,a3⟩:=hf f List.mem_cons_self
  obtain ⟨b0,b,b1,b2,b3⟩:=uS n cs fs _ h fun g hg=>hf g (List.mem_cons_of_mem _ hg)
  rw [ho] at a2 a3
  have ha:a.length=P.cellsOf f.type:=by rw [a2,List.length_take,List.length_drop];omega
  refine ⟨by omega,a++b,⟨a,b,rfl,a1,b1⟩,by rw [List.length_append,b2];omega,fun j hj=>?_⟩
  rcases Nat.lt_or_ge j a.length with au | mc
  ·rw [List.getElem_append_left au]
   have:=a3 j au
   rw [List.getD_eq_getElem?_getD,List.getElem?_take,if_pos (by omega),List.getElem?_drop] at this
   rw [List.getD_eq_getElem?_getD]
   exact this
  ·rw [List.getElem_append_right mc]
   have:=b3 (j - a.length) (by rw [List.length_append] at hj;omega)
   rw [show o+P.cellsOf f.type+(j - a.length)=o+j by omega] at this
   exact this
theorem UG (L:List TypeId) (hL:L.all (GY P L)=true):∀ (fuel:Nat) (t:TypeId) (cs:List Value) (y:DataW H × List MemPlace),L.contains t=true→DataW.trod enc P W 0 sp held fuel t cs=some y→∃ ds,BY P W fuel t cs ds:=by
 intro fuel
 induction fuel with
 | zero=>intro t cs y _ h;simp [DataW.trod] at h
 | succ n ih =>
  intro t cs y ht h
  have G7:=List.all_eq_true.1 hL t (List.contains_iff_mem.1 ht)
  unfold GY at G7
  split at G7
  ·rename_i hu
   obtain ⟨b,rfl,_⟩:=DataW.trod_bool hu h
   refine ⟨[.bool b],?_,rfl,fun j hj=>?_⟩
   ·simp only [rF,hu];exact ⟨b,rfl⟩
   ·have:j=0:=by simp at hj;exact hj
    subst this;exact .bool b
  ·rename_i k hu
   obtain ⟨m,rfl,_,hw⟩:=DataW.trod_int hu h
   refine ⟨[.int k m],?_,rfl,fun j hj=>?_⟩
   ·simp only [rF,hu];exact ⟨m,rfl,hw⟩
   ·have:j=0:=by simp at hj;exact hj
    subst this;exact .int k m
  ·rename_i hu
   obtain ⟨s,rfl,_,hs⟩:=DataW.trod_string hu h
   have m8:s.data.toList.length≤9223372036854775807:=by
    have:s.data.toList.length=s.size:=by rw [Array.length_toList];rfl
    rw [this]
    exact hs
   refine ⟨[.str s.data.toList],?_,rfl,fun j hj=>?_⟩
   ·simp only [rF,hu];exact ⟨_,rfl,m8⟩
   ·have:j=0:=by simp at hj;exact hj
    subst this
    have:=DR.str (M:=EX W) (w:=W) s.data.toList m8
    exact this
  ·rename_i e hu
   simp only [Bool.and_eq_true,decide_eq_true_eq] at G7
   obtain ⟨he,No⟩:=G7
   rcases DataW.trod_slice hu h with ⟨rfl,_⟩ | ⟨a,len,cap,elems,rest,n',hn',rfl,_,_,hlc,yx,Fg,hq,_⟩
   ·refine ⟨[.sl []],?_,rfl,fun j hj=>?_⟩
    ·simp only [rF,hu];exact ⟨[],rfl,by simp,by simp⟩
    ·have:j=0:=by simp at hj;exact hj
     subst this
     exact .sl [] 1 none 0 (fun _ _=>undef) (by omega) (by simp) (by simp) (by omega) (fun h=>absurd rfl h) (fun j h=>by simp at h)
   ·obtain rfl:n=n':=by omega
    obtain ⟨rows,Zv,hrq⟩:=EW (fun i (ds:List D)=>∃ ci,W.cells? 0 (a.add (i * P.cellsOf e)) (P.cellsOf e)=some ci∧BY P W n e ci ds) len (fun i hi=>by
     have hqi:=hq i hi
     rw [List.getElem?_eq_getElem (by omega),Option.bind_eq_some_iff] at hqi
     obtain ⟨ci,xz,jZ⟩:=hqi
     obtain ⟨ds,VI⟩:=ih e ci _ he jZ
     exact ⟨ds,ci,xz,VI⟩)
    subst Zv
    have xz:∀ i (hi:i < rows.length),(rows[i]).length=P.cellsOf e∧∀ q (h:q < (rows[i]).length),∃ v,W.cell? (a.add (i * P.cellsOf e+q))=some v∧DR (EX W) W (rows[i])[q] v:=by
     intro i hi
     obtain ⟨ci,h1,h2,h3,h4⟩:=hrq i hi
     have h5:=World.cells?_some h1
     have hlen:ci.length=P.cellsOf e:=h5.2.1
     refine ⟨by omega,fun q hq=>?_⟩
     have h6:=h5.2.2 q (by omega)
     rw [Addr.add_add] at h6
     refine ⟨ci[q]'(by omega),by rw [h6];simp,?_⟩
     have h7:=h4 q hq
     rw [List.getD_eq_getElem?_getD,List.getElem?_eq_getElem (by omega)] at h7
     exact h7
    refine ⟨[.sl rows],?_,rfl,fun j hj=>?_⟩
    ·simp only [rF,hu]
     refine ⟨rows,rfl,by have:maxLen=9223372036854775807:=rfl;omega,fun r hr=>?_⟩
     obtain ⟨i,hi,rfl⟩:=List.mem_iff_getElem.1 hr
     obtain ⟨ci,_,h2,_⟩:=hrq i hi
     exact h2
    ·have:j=0:=by simp at hj;exact hj
     subst this
     have oB:rows ≠ []→a.block < W.heap.size∧a.spot=none:=by
      intro cm
      have h0:0 < rows.length:=by
       rcases Nat.eq_zero_or_pos rows.length with e' | e'
       ·exact absurd (List.eq_nil_of_length_eq_zero e') cm
       ·exact e'
      obtain ⟨OI,VE⟩:=xz 0 h0
      obtain ⟨v,hv,_⟩:=VE 0 (by omega)
      rw [show a.add (0 * P.cellsOf e+0)=a by rw [Nat.zero_mul];rfl] at hv
      exact On hv
     have:=DR.sl (M:=EX W) (w:=W) rows (P.cellsOf e) (some a) cap (fun i q=>(W.cell? (a.add (i * P.cellsOf e+q))).getD undef) No (fun r hr=>by
      obtain ⟨i,hi,rfl⟩:=List.mem_iff_getElem.1 hr
      exact (xz i hi).1) hlc (by have:maxLen=9223372036854775807:=rfl;omega) (fun cm=>by
      obtain ⟨h1,h2⟩:=oB cm
      obtain ⟨g,off,spot⟩:=a
      simp only at h1 h2
      subst h2
      refine ⟨g,off,rfl,fun j hj q hq=>⟨by show ¬ W.heap.size≤g;omega,?_⟩⟩
      obtain ⟨v,hv,_⟩:=(xz j hj).2 q hq
      rw [hv]
      rw [Addr.add_plain,← Nat.add_assoc] at hv
      exact hv) (fun j hj q hq=>by
      obtain ⟨v,hv,hd⟩:=(xz j hj).2 q hq
      rw [hv]
      exact hd)
     exact this
  ·rename_i fs hu
   simp only [Bool.and_eq_true] at G7
   obtain ⟨Ff,abQ⟩:=G7
   obtain ⟨xs,n',hn',_,hl,XM,hf⟩:=DataW.trod_struct hu h
   obtain rfl:n=n':=by omega
   have X9:ya P fs.toList 0=some cs.length:=by rw [hl];exact eq_of_beq abQ
   obtain ⟨_,ds,h1,h2,h3⟩:=uS (W:=W) n cs fs.toList 0 X9 (fun f Vn=>by
    obtain ⟨i,hi,rfl⟩:=List.mem_iff_getElem.1 Vn
    have jX:i < fs.size:=by simpa using hi
    have:=hf i fs[i] (by simp [jX])
    rw [List.getElem?_eq_getElem (by omega)] at this
    exact ih _ _ _ (List.all_eq_true.1 Ff _ Vn) this)
   refine ⟨ds,?_,by omega,fun j hj=>?_⟩
   ·simp only [rF,hu];exact h1
   ·have:=h3 j hj
    rwa [Nat.zero_add] at this
  ·cases G7
end
def Lv (W:World) (I:Inv):Cx:=⟨W.heap.size,[],[],I,fun _ _=>False,fun _ _ h=>h.elim⟩
theorem DR.first {W:World} {I:Inv} {x:D} {v:Value} (h:DR (EX W) W x v):DR (Lv W I).M W x v:=h.mono fun g k v _ hv=>⟨by
 rintro ((hm | hm) | ⟨t,i,off,ht,_⟩)
 ·exact hm
 ·simp [Lv] at hm
 ·simp [Lv] at ht,hv⟩
theorem dz.first {W:World} {I:Inv} (h2:I.top≤W.heap.size) (hI:∀ w',Below W.heap.size W w'→I.holds w'):dz (Lv W I) W ⟨[],[]⟩ :=
 ⟨⟨h2,Nat.le_refl _⟩,rfl,fun i b h=>by simp [Lv] at h,fun i j b h=>by simp [Lv] at h,rfl,fun t i h=>by simp [Lv] at h,fun t t' i i' g off th h=>by simp [Lv] at h,hI⟩
theorem K7 {P:Program} {W:World} {I:Inv} {n:Nat} {t:TypeId} {cs:Array Value} {ds:List D} (h:BY P W n t cs.toList ds):VR (Lv W I) W (.agg (ds.map .d)) (.agg cs):=by
 obtain ⟨_,h2,h3⟩:=h
 have h2:ds.length=cs.size:=by simpa using h2
 have key:∀ j,j < ds.length→∃ h:j < ds.length,DR (Lv W I).M W ds[j] (cs.getD j undef):=fun j hj=>⟨hj,by
  have:=(h3 j hj).first (I:=I)
  rw [List.getD_eq_getElem?_getD,Array.getElem?_toList] at this
  have e:cs.getD j undef=(cs[j]?).getD undef:=by simp [Array.getD,show j < cs.size by omega]
  rw [e]
  exact this⟩
 refine .agg _ _ (by rw [List.length_map];omega) (fun j hj=>?_) (fun j hj=>?_)
 ·rw [List.length_map] at hj
  obtain ⟨_,hd⟩:=key j hj
  rw [List.getElem_map]
  exact .d _ _ hd
 ·rw [List.length_map] at hj
  obtain ⟨_,hd⟩:=key j hj
  exact hd.one
theorem aF.law {P:Program} {I:Inv} {f:FuncId} {args:List V} {b:Bool} (h:aF P I f args ⟨[],[]⟩ (fun v _=>v = .d (.bool b))) {W:World} {xs:Array Value} (h2:I.top≤W.heap.size) (hI:∀ w',Below W.heap.size W w'→I.holds w') (hs:xs.size=args.length) (hv:∀ j (h:j < args.length),VR (Lv W I) W args[j] (xs.getD j undef)) :
 Calls P f xs W fun e w'=>e = .returned (.bool b)∧Below W.heap.size W w':=by
 refine (h.2 (Lv W I) W xs hs hv (.first h2 hI) rfl).mono ?_
 rintro e w' ⟨v,x,S',c',rfl,rfl,_,hx,SW⟩
 cases SW with
 | d _ _ hd=>cases hd with
  | bool _=>exact ⟨rfl,hx.below⟩
end Go.Ab
namespace Go.Proofs.YtnfnbjjnjjdjdaaGreatDoor
open Go.ChangeShapes Go.WideShapes Go.ChangeAt Go.RowKit Go.Av Go.Ab
theorem Oq {M:Nat→Nat→Prop} {w:World} {rows:List (List D)} {a:Option Addr} {n cap:Nat} (h:DR M w (.sl rows) (.slice a n cap)):rows.length=n:=by
 generalize hv:Value.slice a n cap=v at h
 cases h
 cases hv
 rfl
theorem K8 {cs:List Value} (h:cs.length=2):∃ a b,cs=[a,b]:=by
 match cs,h with
 | [a,b],_=>exact ⟨a,b,rfl⟩
theorem K9 {H:Type} {enc:TypeId × Value→H} {W:World} {sp:Nat→Bool} {held:Bool} {u:Nat} {cs:List Value} {d:DataW H} {q:List MemPlace} (h:DataW.trod enc Tryz.prog W 0 sp held u 25 cs=some (d,q)) (Uw:(DataW.weights Tryz.prog 25 d).all (·≤reachBytes)=true) {rows:List (List D)} (hD:DR (EX W) W (.sl rows) (cs.getD 1 undef)):(rows.length+2)*88≤140737488355328:=by
 obtain ⟨y0,y1,n,hx,hl,_,h1⟩:=trod_struct2 Tryz.underlying25 h
 have zb:Tryz.prog.cellsOf 25=2:=by kernel_rfl
 have hc:Tryz.prog.cellsOf 23=1:=by kernel_rfl
 rw [zb] at hl
 obtain ⟨a,b,rfl⟩:=K8 hl
 dsimp only at h1
 rw [hc] at h1
 have h1:DataW.trod enc Tryz.prog W 0 sp held n 23 [b]=some y1:=h1
 have hD:DR (EX W) W (.sl rows) b:=hD
 cases hx
 rcases DataW.trod_slice Tryz.underlying23 h1 with ⟨e,_⟩ | ⟨a',len,cap,elems,rest,n',_,e,e2,_,_,_,Fg,_⟩
 ·cases e
  rw [Oq hD]
  decide
 ·cases e
  have hb:Tryz.prog.bytesOf 41=88:=by kernel_rfl
  have hr:reachBytes=140737488351232:=rfl
  simp only [DataW.weights,DataW.weightsEach,Tryz.underlying25,e2,Tryz.underlying23,List.map_cons,List.map_nil,List.all_append,List.all_cons,Bool.and_eq_true,decide_eq_true_eq,List.length_map,hb,hr] at Uw
  rw [Oq hD,← Fg]
  omega
end Go.Proofs.YtnfnbjjnjjdjdaaGreatDoor
namespace Go.Proofs.YtnfnbjjnjjdjdaaGreatDoor
open Go.RowKit Go.Av Go.Ab
set_option maxRecDepth 100000
section
variable {n:Nat} {ds:List D}
theorem uc (h:rF Tryz.prog n 9 ds):∃ s,ds=[.str s]∧s.length≤9223372036854775807:=by
 cases n with
 | zero=>exact h.elim
 | succ n =>
  unfold rF at h
  rw [Tryz.underlying9] at h
  exact h
theorem yb {t:TypeId} {k:IntKind} (hu:Tryz.prog.underlying t=some (.int k)) (h:rF Tryz.prog n t ds):∃ m,ds=[.int k m]∧(Lit.int k m).wf=true:=by
 cases n with
 | zero=>exact h.elim
 | succ n =>
  unfold rF at h
  rw [hu] at h
  exact h
theorem m7 {t e:TypeId} (hu:Tryz.prog.underlying t=some (.slice e)) {α:Type} (f:α→List D) (ih:∀ m < n,∀ r,rF Tryz.prog m e r→∃ x,r=f x) (h:rF Tryz.prog n t ds):∃ l:List α,ds=[.sl (l.map f)]∧l.length≤9223372036854775807:=by
 cases n with
 | zero=>exact h.elim
 | succ n =>
  unfold rF at h
  rw [hu] at h
  obtain ⟨rows,rfl,hl,hr⟩:=h
  have:∃ l:List α,rows=l.map f:=by
   clear hl
   induction rows with
   | nil=>exact ⟨[],rfl⟩
   | cons r rows ihr =>
    obtain ⟨x,hx⟩:=ih n (by omega) r (hr r List.mem_cons_self)
    obtain ⟨l,hl⟩:=ihr fun y hy=>hr y (List.mem_cons_of_mem _ hy)
    exact ⟨x :: l,by rw [hx,hl];rfl⟩
  obtain ⟨l,rfl⟩:=this
  exact ⟨l,rfl,by simpa using hl⟩
theorem iF {t:TypeId} {fs:Array Field} (hu:Tryz.prog.underlying t=some (.struct fs)) (h:rF Tryz.prog n t ds):∃ m,n=m+1∧Rw (rF Tryz.prog m) fs.toList ds:=by
 cases n with
 | zero=>exact h.elim
 | succ n =>
  unfold rF at h
  rw [hu] at h
  exact ⟨n,rfl,h⟩
end
theorem SA {n:Nat} {ds:List D} (h:rF Tryz.prog n 47 ds):∃ l,ds=[.sl (ij l)]:=by
 obtain ⟨l,rfl,_⟩:=m7 Tryz.underlying47 (fun s:List UInt8=>[D.str s]) (fun m _ r hr=>(uc hr).imp fun _ h=>h.1) h
 exact ⟨l,rfl⟩
theorem IY:∀ (n:Nat) (ds:List D),rF Tryz.prog n 46 ds→∃ t,ds=dR t:=by
 intro n
 induction n using Nat.strongRecOn with
 | _ n ih =>
  intro ds h
  obtain ⟨m,rfl,h⟩:=iF Tryz.underlying46 h
  obtain ⟨a,_,rfl,ha,b,_,rfl,hb,c,_,rfl,hc,rfl⟩:=h
  obtain ⟨k,rfl,_⟩:=yb Tryz.underlying3 ha
  obtain ⟨s,rfl,_⟩:=uc hb
  obtain ⟨l,rfl,_⟩:=m7 Tryz.underlying38 dR (fun q hq r hr=>ih q (by omega) r hr) hc
  exact ⟨.mk k s l,by rw [cB];rfl⟩
theorem UH {n:Nat} {ds:List D} (h:rF Tryz.prog n 38 ds):∃ l:List aA,ds=[.sl (l.map dR)]:=by
 obtain ⟨l,rfl,_⟩:=m7 Tryz.underlying38 dR (fun q _ r hr=>IY q r hr) h
 exact ⟨l,rfl⟩
theorem Ot {n:Nat} {ds:List D} (h:rF Tryz.prog n 37 ds):∃ l:List bH,ds=[.sl (l.map gf)]:=by
 obtain ⟨l,rfl,_⟩:=m7 Tryz.underlying37 gf (fun q _ r hr=>by
  obtain ⟨q',rfl,hr⟩:=iF Tryz.underlying71 hr
  obtain ⟨a,_,rfl,ha,b,_,rfl,hb,rfl⟩:=hr
  obtain ⟨s,rfl,_⟩:=uc ha
  obtain ⟨t,rfl⟩:=IY _ _ hb
  exact ⟨⟨s,t⟩,by rw [cB];rfl⟩) h
 exact ⟨l,rfl⟩
theorem UI {n:Nat} {ds:List D} (h:rF Tryz.prog n 22 ds):∃ l:List cG,ds=[.sl (l.map ef)]:=by
 obtain ⟨l,rfl,_⟩:=m7 Tryz.underlying22 ef (fun q _ r hr=>by
  obtain ⟨q',rfl,hr⟩:=iF Tryz.underlying67 hr
  obtain ⟨a,_,rfl,ha,b,_,rfl,hb,rfl⟩:=hr
  obtain ⟨s,rfl,_⟩:=uc ha
  obtain ⟨t,rfl⟩:=Ot hb
  exact ⟨⟨s,t⟩,rfl⟩) h
 exact ⟨l,rfl⟩
def Ou:List TypeId:=[3,34,9,47,46,38,50,48,53,39,96,51,71,37,67,22,41,23,25]
theorem Ov:Ou.all (GY Tryz.prog Ou)=true:=by kernel_rfl
end Go.Proofs.YtnfnbjjnjjdjdaaGreatDoor
namespace Go.Proofs.YtnfnbjjnjjdjdaaGreatDoor
open Go.RowKit Go.Av
set_option linter.unusedSimpArgs false
set_option linter.unusedVariables false
def UJ (i:Int):Prop:=0≤i∧i≤18446744073709551615
theorem abR:UJ 0:=⟨by decide,by decide⟩
def WB (s:Ps):Prop:=∀ w∈s.ws,UJ (w.int:Int)
theorem WB.dn {s s':Ps} (h:WB s) (d:Dn s s'):WB s':=fun w hw=>h w (d.sub w hw)
theorem WB.w {s:Ps} (h:WB s):UJ (s.w.int:Int):=by
 unfold Ps.w
 cases hs:s.ws with
 | nil=>exact abR
 | cons w l=>exact h w (by rw [hs];exact List.mem_cons_self)
theorem ud:∀ l:List aj,mU l↔∀ x∈l,sB x
 | []=>by simp [mU]
 | x :: l=>by
  unfold mU
  rw [ud l]
  simp
theorem Rx (k:Int) (t:List UInt8) (i:Int) (ty:aA) (ns:List (List UInt8)) (ks:List aj):sB (.mk k t i ty ns ks)=(UJ i∧∀ x∈ks,sB x):=by
 conv=>lhs;unfold sB
 rw [ud]
 rfl
def NuE (E:EP):Prop:=∀ s,WB s→sB (E s).1
theorem NuE.at {E:EP} (h:NuE E) {s s1:Ps} {x:aj} (hs:WB s) (e:E s=(x,s1)):sB x:=by
 have:=h s hs
 rw [e] at this
 exact this
end Go.Proofs.YtnfnbjjnjjdjdaaGreatDoor
namespace Go.Proofs.YtnfnbjjnjjdjdaaGreatDoor
open Go.RowKit Go.Av Go.Ab
structure BZ (f:Int→Bool × Int) (n:Int):Prop where
 lo:-1≤n
 hi:n≤60000
 ok:∀ p,0≤p→p≤60000→((f p).1=true↔0≤n∧p+n≤60000)
 wJ:∀ p,0≤p→p≤60000→(f p).1=true→(f p).2=p+n
theorem Ow (a b:Int):-1≤xd a b∧xd a b≤60000:=by unfold xd;split<;>omega
theorem BZ.and {f g:Int→Bool × Int} {a b:Int} (hf:BZ f a) (hg:BZ g b):BZ (aP f g) (xd a b):=by
 have key:∀ p,0≤p→p≤60000→((aP f g p).1=true↔(0≤a∧p+a≤60000)∧0≤b∧p+a+b≤60000)∧((aP f g p).1=true→(aP f g p).2=p+a+b):=by
  intro p h1 h2
  unfold aP
  by_cases h:(f p).1=false
  ·rw [if_pos h]
   have:=hf.ok p h1 h2
   rw [h] at this
   exact ⟨⟨fun h=>(by cases h),fun h=>absurd (this.2 h.1) (by decide)⟩,fun h=>(by cases h)⟩
  ·rw [if_neg h]
   have ht:(f p).1=true:=by simpa using h
   have h3:=(hf.ok p h1 h2).1 ht
   have h4:=hf.wJ p h1 h2 ht
   rw [h4]
   have h5:=hg.ok (p+a) (by omega) h3.2
   exact ⟨⟨fun h=>⟨h3,h5.1 h⟩,fun h=>h5.2 h.2⟩,fun h=>hg.wJ (p+a) (by omega) h3.2 h⟩
 obtain ⟨h1,h2⟩:=Ow a b
 refine ⟨h1,h2,fun p h3 h4=>?_,fun p h3 h4 h5=>?_⟩
 ·rw [(key p h3 h4).1]
  unfold xd
  split<;>omega
 ·have h6:=(key p h3 h4).1.1 h5
  rw [(key p h3 h4).2 h5]
  unfold xd
  rw [if_neg (by omega)]
  omega
theorem BZ.bad {f:Int→Bool × Int} (h:∀ p,0≤p→p≤60000→(f p).1=false):BZ f (-1) :=
 ⟨by omega,by omega,fun p h1 h2=>by rw [h p h1 h2];exact ⟨fun h=>(by cases h),fun h=>absurd h.1 (by omega)⟩,fun p h1 h2 h3=>by rw [h p h1 h2] at h3;cases h3⟩
theorem BZ.allow (b:Bool):BZ (cA b) (if b=true then 0 else -1):=by
 cases b
 ·exact BZ.bad fun p _ _=>rfl
 ·refine ⟨by decide,by decide,fun p h1 h2=>?_,fun p h1 h2 h3=>?_⟩
  ·rw [if_pos rfl]
   exact ⟨fun _=>⟨Int.le_refl _,by omega⟩,fun _=>rfl⟩
  ·rw [if_pos rfl]
   show p=p+0
   omega
theorem BZ.part (d:Int):BZ (cr d) (if 60 < d then -1 else 1):=by
 by_cases h:60 < d
 ·rw [if_pos h]
  refine BZ.bad fun p _ _=>?_
  show (decide (p+1≤60000) && decide (d≤60))=false
  rw [decide_eq_false (by omega:¬ d≤60),Bool.and_false]
 ·rw [if_neg h]
  refine ⟨by decide,by decide,fun p h1 h2=>?_,fun p _ _ _=>rfl⟩
  show (decide (p+1≤60000) && decide (d≤60))=true↔_
  rw [decide_eq_true (by omega:d≤60),Bool.and_true,decide_eq_true_iff]
  omega
def Ya {α:Type} (c:α→Int):List α→Int
 | []=>0
 | x :: l=>xd (c x) (Ya c l)
theorem BZ.row {α:Type} {f:α→Int→Bool × Int} {c:α→Int}:∀ (l:List α),(∀ x∈l,BZ (f x) (c x))→BZ (cq f l) (Ya c l)
 | [],_=>⟨show (-1:Int)≤0 by decide,show (0:Int)≤60000 by decide,fun p _ h=>⟨fun _=>⟨Int.le_refl _,by show p+0≤60000;omega⟩,fun _=>rfl⟩,fun p _ _ _=>by show p=p+0;omega⟩
 | x :: l,h=>(h x List.mem_cons_self).and (BZ.row l fun y hy=>h y (List.mem_cons_of_mem _ hy))
theorem BZ.congr {f g:Int→Bool × Int} {n:Int} (h:BZ g n) (h1:∀ p,0≤p→p≤60000→(f p).1=(g p).1∧((f p).1=true→(f p).2=(g p).2)):BZ f n :=
 ⟨h.lo,h.hi,fun p h2 h3=>by rw [(h1 p h2 h3).1];exact h.ok p h2 h3,fun p h2 h3 h4=>by rw [(h1 p h2 h3).2 h4];exact h.wJ p h2 h3 (by rw [← (h1 p h2 h3).1];exact h4)⟩
def zM (b:Bool):Int:=if b=true then 0 else -1
set_option maxRecDepth 100000
set_option linter.unusedVariables false
theorem B7 {m:Int} (h:(Lit.int .u64 m).wf=true):UJ m:=by
 have h1:IntKind.u64.min=0∧IntKind.u64.max=18446744073709551615:=by decide
 simp only [Lit.wf,h1,Bool.and_eq_true,decide_eq_true_eq] at h
 exact h
theorem La (l:List aH) (h:∀ x∈l,qq x):gL l:=by
 induction l with
 | nil=>rw [gL];trivial
 | cons x l ih=>rw [w8];exact ⟨h x List.mem_cons_self,ih fun y hy=>h y (List.mem_cons_of_mem _ hy)⟩
theorem Lb (l:List cJ) (h:∀ c∈l,UJ c.int∧gL c.body):qG l:=by
 induction l with
 | nil=>rw [qG];trivial
 | cons c l ih =>
  obtain ⟨i,b⟩:=c
  rw [xb]
  have:=h _ List.mem_cons_self
  exact ⟨this.1,this.2,ih fun y hy=>h y (List.mem_cons_of_mem _ hy)⟩
theorem UK:∀ (n:Nat) (ds:List D),rF Tryz.prog n 50 ds→∃ x:{x:aj // sB x},ds=fO x.1:=by
 intro n
 induction n using Nat.strongRecOn with
 | _ n ih =>
  intro ds h
  obtain ⟨m,rfl,h⟩:=iF Tryz.underlying50 h
  obtain ⟨a,_,rfl,ha,b,_,rfl,hb,c,_,rfl,hc,d,_,rfl,hd,e,_,rfl,he,f,_,rfl,hf,rfl⟩:=h
  obtain ⟨k,rfl,_⟩:=yb Tryz.underlying3 ha
  obtain ⟨s,rfl,_⟩:=uc hb
  obtain ⟨i,rfl,hi⟩:=yb Tryz.underlying34 hc
  obtain ⟨t,rfl⟩:=IY _ _ hd
  obtain ⟨ns,rfl⟩:=SA he
  obtain ⟨l,rfl,_⟩:=m7 Tryz.underlying48 (fun x:{x:aj // sB x}=>fO x.1) (fun q hq r hr=>ih q (by omega) r hr) hf
  refine ⟨⟨.mk k s i t ns (l.map (·.1)),?_⟩,by rw [cQ,cB];simp [aj.kind,aj.text,aj.int,aj.type,aj.names,aj.kids]<;>rfl⟩
  rw [Rx]
  refine ⟨B7 hi,fun x hx=>?_⟩
  obtain ⟨y,_,rfl⟩:=List.mem_map.1 hx
  exact y.2
theorem IZ {n:Nat} {ds:List D} (h:rF Tryz.prog n 48 ds):∃ l:List aj,mU l∧ds=[.sl (l.map fO)]:=by
 obtain ⟨l,rfl,_⟩:=m7 Tryz.underlying48 (fun x:{x:aj // sB x}=>fO x.1) (fun q _ r hr=>UK q r hr) h
 refine ⟨l.map (·.1),?_,by simp⟩
 rw [ud]
 intro x hx
 obtain ⟨y,_,rfl⟩:=List.mem_map.1 hx
 exact y.2
theorem vC (l:List {x:aH // qq x}):gL (l.map (·.1)):=La _ fun x hx=>by
 obtain ⟨y,_,rfl⟩:=List.mem_map.1 hx
 exact y.2
theorem UL:∀ (n:Nat) (ds:List D),rF Tryz.prog n 53 ds→∃ x:{x:aH // qq x},ds=dZ x.1:=by
 intro n
 induction n using Nat.strongRecOn with
 | _ n ih =>
  intro ds h
  obtain ⟨m,rfl,h⟩:=iF Tryz.underlying53 h
  obtain ⟨a,_,rfl,ha,b,_,rfl,hb,c,_,rfl,hc,d,_,rfl,hd,e,_,rfl,he,f,_,rfl,hf,g,_,rfl,hg,i,_,rfl,hi,rfl⟩:=h
  obtain ⟨k,rfl,_⟩:=yb Tryz.underlying3 ha
  obtain ⟨ns,rfl⟩:=SA hb
  obtain ⟨t,rfl⟩:=IY _ _ hc
  obtain ⟨ls,nl,rfl⟩:=IZ hd
  obtain ⟨es,ne,rfl⟩:=IZ he
  obtain ⟨bo,rfl,_⟩:=m7 Tryz.underlying39 (fun x:{x:aH // qq x}=>dZ x.1) (fun q hq r hr=>ih q (by omega) r hr) hf
  obtain ⟨el,rfl,_⟩:=m7 Tryz.underlying39 (fun x:{x:aH // qq x}=>dZ x.1) (fun q hq r hr=>ih q (by omega) r hr) hg
  obtain ⟨cs,rfl,_⟩:=m7 Tryz.underlying51 (fun c:{c:cJ // UJ c.int∧gL c.body}=>lK c.1) (fun q hq r hr=>by
   obtain ⟨q',rfl,hr⟩:=iF Tryz.underlying96 hr
   obtain ⟨a,_,rfl,ha,b,_,rfl,hb,rfl⟩:=hr
   obtain ⟨k,rfl,hk⟩:=yb Tryz.underlying34 ha
   obtain ⟨l,rfl,_⟩:=m7 Tryz.underlying39 (fun x:{x:aH // qq x}=>dZ x.1) (fun q2 E3 r hr=>ih q2 (by omega) r hr) hb
   have hl:=vC l
   exact ⟨⟨.mk k (l.map fun y:{x:aH // qq x}=>y.1),B7 hk,hl⟩,by rw [iS];simp [cJ.int,cJ.body]⟩) hi
  refine ⟨⟨.mk k ns t ls es (bo.map (·.1)) (el.map (·.1)) (cs.map (·.1)),?_⟩,by rw [cX,cB];simp [aH.kind,aH.names,aH.type,aH.aG,aH.exprs,aH.body,aH.dh,aH.cases]<;>rfl⟩
  rw [qq]
  refine ⟨nl,ne,vC bo,vC el,Lb _ fun c hc=>?_⟩
  obtain ⟨y,_,rfl⟩:=List.mem_map.1 hc
  exact y.2
theorem Ry {n:Nat} {ds:List D} (h:rF Tryz.prog n 39 ds):∃ l:List aH,gL l∧ds=[.sl (l.map dZ)]:=by
 obtain ⟨l,rfl,_⟩:=m7 Tryz.underlying39 (fun x:{x:aH // qq x}=>dZ x.1) (fun q _ r hr=>UL q r hr) h
 exact ⟨l.map (·.1),vC l,by simp⟩
theorem UM {n:Nat} {ds:List D} (h:rF Tryz.prog n 25 ds):∃ p:kW,uE p∧ds=[.sl (p.structs.map ef),.sl (p.funcs.map cT)]:=by
 obtain ⟨q',rfl,h⟩:=iF Tryz.underlying25 h
 obtain ⟨a,_,rfl,ha,b,_,rfl,hb,rfl⟩:=h
 obtain ⟨s,rfl⟩:=UI ha
 obtain ⟨l,rfl,_⟩:=m7 Tryz.underlying23 (fun f:{f:cn // gL f.body}=>cT f.1) (fun q _ r hr=>by
  obtain ⟨q',rfl,hr⟩:=iF Tryz.underlying41 hr
  obtain ⟨a,_,rfl,ha,b,_,rfl,hb,c,_,rfl,hc,d,_,rfl,hd,rfl⟩:=hr
  obtain ⟨s,rfl,_⟩:=uc ha
  obtain ⟨ps,rfl⟩:=Ot hb
  obtain ⟨rs,rfl⟩:=UH hc
  obtain ⟨bo,nb,rfl⟩:=Ry hd
  exact ⟨⟨⟨s,ps,rs,bo⟩,nb⟩,rfl⟩) hb
 refine ⟨⟨s,l.map (·.1)⟩,fun f hf=>?_,by simp⟩
 obtain ⟨y,_,rfl⟩:=List.mem_map.1 hf
 exact y.2
end Go.Proofs.YtnfnbjjnjjdjdaaGreatDoor
namespace Go.Proofs.YtnfnbjjnjjdjdaaGreatDoor
open Go.ChangeShapes Go.WideShapes Go.ChangeAt Go.RowKit Go.Av
theorem laidOut:laidOutB Tryz.prog=true:=by kernel_rfl
theorem Ox {H:Type} {enc:TypeId × Value→H} {t:TypeId} {W W':World} {v:Value} {d:DataW H} {ps:List MemPlace} (hr:Tryz.prog.readableRec t=true) (aD:t < Tryz.prog.types.size)
 (h:DataW.Trod enc Tryz.prog W 0 (fun _=>true) true t v d ps) (hb:Below W.heap.size W W') (au:∀ x∈ps,x.block < W.heap.size):DataW.Trod enc Tryz.prog W' 0 (fun b=>decide (b < W.heap.size)) true t v d ps :=
 Below.trod laidOut hr aD h hb au
end Go.Proofs.YtnfnbjjnjjdjdaaGreatDoor
namespace Go.Av
def yc {H:Type} (zs:List (List UInt8)):DataW H:=.agg (zs.map fun z=>.lit (.string z))
theorem yd {H:Type} {enc:TypeId × Value→H} {P:Program} {w:World} {base:Nat} {sp:Nat→Bool} {held:Bool} {fuel:Nat} {t e:TypeId} {n:Nat} {cs:List Value} {zs:List (List UInt8)} {p:List MemPlace}
 (ht:P.underlying t=some (.array n e)) (he:P.underlying e=some .string) (hce:P.cellsOf e=1) (hct:P.cellsOf t=n)
 (h:DataW.trod enc P w base sp held fuel t cs=some (yc zs,p)):cs=zs.map fun z=>Value.string ⟨z.toArray⟩:=by
 cases fuel with
 | zero=>simp [DataW.trod] at h
 | succ fuel =>
  simp only [DataW.trod,ht,hce,hct,Nat.mul_one] at h
  split at h
  ·rename_i hl
   obtain ⟨xs,hm,hx⟩:=Option.map_eq_some_iff.1 h
   have Pp:xs.map (·.1)=zs.map fun z=>(DataW.lit (.string z):DataW H):=by
    have:=congrArg Prod.fst hx
    simpa [yc] using this
   have XM:xs.length=n:=by simpa using Lib.mapM_length hm
   have Zy:zs.length=n:=by
    have:=congrArg List.length Pp
    simp at this
    omega
   apply List.ext_getElem?
   intro i
   by_cases hi:i < n
   ·obtain ⟨b,hb,hf⟩:=Lib.mapM_at hm i i (by simp [hi])
    obtain ⟨z,hc,rfl,_⟩:=DataW.trod_string he hf
    have h1:cs[i]? = some (.string z):=by
     have:=congrArg (·[0]?) hc
     simpa [List.getElem?_take,List.getElem?_drop] using this
    have h2:(xs.map (·.1))[i]? = some (DataW.lit (.string z.data.toList):DataW H):=by simp [hb]
    rw [Pp] at h2
    simp only [List.getElem?_map,Option.map_eq_some_iff,DataW.lit.injEq,Lit.string.injEq] at h2
    obtain ⟨z',tf,e⟩:=h2
    have ez:z=⟨z'.toArray⟩:=by
     apply ByteArray.ext
     rw [e]
    simp [h1,tf,ez]
   ·rw [List.getElem?_eq_none (by omega),List.getElem?_eq_none (by simp;omega)]
  ·cases h
theorem qN {P:Program} {W:World} {name:String} {zs:List (List UInt8)} {rest:List (String × DataW Unit)} {ps:List MemPlace} {g:Nat} {t e:TypeId} {n:Nat}
 (hg:P.globalNamed name=some g) (fD:(P.globals[g]?).map (·.type)=some t) (ht:P.underlying t=some (.array n e)) (he:P.underlying e=some .string) (hce:P.cellsOf e=1) (hct:P.cellsOf t=n)
 (h:DataW.LaidVars P W ((name,yc zs) :: rest) ps):(∃ u fr,W.heap[g]? = some (.cells (zs.map fun z=>Value.string ⟨z.toArray⟩).toArray u fr))∧∃ q,DataW.LaidVars P W rest q:=by
 obtain ⟨g',t',cs,fuel,p,q,hg',gR,Oy,hd,hr,_⟩:=h
 obtain rfl:=Option.some.inj (hg.symm.trans hg')
 obtain rfl:=Option.some.inj (fD.symm.trans gR)
 refine ⟨?_,q,hr⟩
 have qw:=yd ht he hce hct hd
 have ecs:cs=(zs.map fun z=>Value.string ⟨z.toArray⟩).toArray:=by rw [← qw]
 unfold World.var? at Oy
 rw [hg,Option.bind_some] at Oy
 split at Oy
 ·rename_i c u fr hh
  obtain rfl:=Option.some.inj Oy
  exact ⟨u,fr,by rw [hh,ecs]⟩
 ·cases Oy
end Go.Av
namespace Go.Proofs.YtnfnbjjnjjdjdaaGreatDoor.gotypeMore
open Go.ChangeShapes Go.WideShapes Go.ChangeAt Go.RowKit Go.Av Go.Ab
open Go.ChangeMaps (open_string shut_string)
set_option linter.unusedVariables false
theorem own:ownKnob Tryz.prog.godebug=none:=by kernel_rfl
theorem tab {W:World} (h:laidMetH Tryz.prog Rows.gotypeMoreRow.laid W):qo W:=by
 have h':laidMet Tryz.prog Rows.gotypeMoreRow.laid W:=h
 obtain ⟨ps,hv,_⟩:=h'
 obtain ⟨⟨u,fr,h1⟩,ps2,Le⟩:=qN (zs:=eE) (g:=0) (t:=189) (e:=9) (n:=29) (by kernel_rfl) (by kernel_rfl) Tryz.underlying189 Tryz.underlying9 (by kernel_rfl) (by kernel_rfl) hv
 obtain ⟨⟨u2,Ca,h2⟩,_⟩:=qN (zs:=lT) (g:=1) (t:=198) (e:=9) (n:=22) (by kernel_rfl) (by kernel_rfl) Tryz.underlying198 Tryz.underlying9 (by kernel_rfl) (by kernel_rfl) Le
 exact ⟨⟨u,fr,h1⟩,⟨u2,Ca,h2⟩⟩
noncomputable def laidWorld (os:Os):World:=World.laidAll Tryz.prog os Rows.gotypeMoreRow.laid
theorem laid_met (os:Os):laidMet Tryz.prog Rows.gotypeMoreRow.laid ((laidWorld os).forCall (fun _ _=>0) ⟨#[],#[Value.agg #[.slice none 0 0,.slice none 0 0],.int .u64 0],[]⟩).memory :=
 laidMet_laidAll _ (by kernel_rfl) (by kernel_rfl)
theorem reads (os:Os) {H:Type} (enc:TypeId × Value→H):∃ places,DataW.whole enc Tryz.prog ((laidWorld os).forCall (fun _ _=>0) ⟨#[],#[Value.agg #[.slice none 0 0,.slice none 0 0],.int .u64 0],[]⟩).memory Tryz.f6.params.toList Rows.gotypeMoreSpec.vars false #[Value.agg #[.slice none 0 0,.slice none 0 0],.int .u64 0].toList 8=some ([.agg [.nil,.nil],.lit (.int .u64 0)],[],places) :=
 ⟨[],by kernel_rfl⟩
set_option maxRecDepth 100000 in
theorem lifted (os:Os) (started:os.Started) (H:Type) (enc:TypeId × Value→H) (F:Stop.Interp) :
 ReturnsInHanded {} Tryz.checked os 6 .any ((OpenSpec.ofChange Rows.gotypeMoreSpec).preRow enc Tryz.prog Tryz.f6 Rows.gotypeMoreRow.domain false Rows.gotypeMoreRow.laid) (((OpenSpec.ofChange Rows.gotypeMoreSpec).at F).post enc Tryz.prog Tryz.f6 false true false false):=by
 obtain ⟨places,hx⟩:=reads os enc
 refine returnsInHanded_of_row (C:=Tryz.checked) (s:=OpenSpec.ofChange Rows.gotypeMoreSpec) own started (by kernel_rfl) Tryz.func6
  (witness_row_at (enc:=enc) (C:=Tryz.checked) false (laidWorld os) #[Value.agg #[.slice none 0 0,.slice none 0 0],.int .u64 0] (World.laidAll_os _ _ _) (by kernel_rfl) (by kernel_rfl) (by kernel_rfl)
   (OpenSpec.preRow_of_cond 8 hx (by kernel_rfl) (fun k hk=>by cases hk) (by kernel_rfl) (laid_met os))) ?_
 intro W base args ds gs before Rz hW _ _ Uw hL _ _
 have hW':=hW
 obtain ⟨p,q,Pr,hV,rfl,Zq,hnd⟩:=hW
 have hA:DataW.TrodAll enc Tryz.prog W 0 (fun _=>true) true Tryz.f6.params.toList args.toList ds p:=Pr
 rw [Tryz.params6] at hA Rz
 obtain ⟨v0,Vz,d0,ds0,p0,q0,hargs,rfl,rfl,h0,r0⟩:=trodAll_cons hA
 obtain ⟨v1,OV,d1,ds1,p1,q1,rfl,rfl,rfl,h1,r1⟩:=trodAll_cons r0
 obtain ⟨rfl,rfl,rfl⟩:=trodAll_nil r1
 obtain rfl:args = #[v0,v1]:=by cases args;simp_all
 obtain ⟨rfl,rfl⟩:=trodVars_none hV
 have au:∀ x∈(p0++(p1++[])),x.block < W.heap.size:=fun x hx=>by simpa using hW'.lt x (by simpa using hx)
 obtain ⟨c0,rfl,_⟩:=okWide_struct Tryz.underlying25 (Rz 0 25 v0 rfl rfl)
 obtain ⟨u0,g0⟩:=h0
 obtain ⟨y0,o0⟩:=UG (W:=W) (enc:=enc) Ou Ov u0 25 c0.toList _ (by kernel_rfl) g0
 have h0:=(⟨u0,g0⟩:DataW.Trod enc Tryz.prog W 0 (fun _=>true) true 25 (.agg c0) d0 p0)
 have q0:=K7 (I:=av) o0
 obtain ⟨x0,LH,rfl⟩:=UM o0.1
 have vo:(x0.funcs.length+2)*88≤140737488355328:=by
  have h1:=K9 g0 (by
   rw [Tryz.params6] at Uw
   have Uw:(DataW.weights Tryz.prog 25 d0++_).all (·≤reachBytes)=true:=Uw
   rw [List.all_append,Bool.and_eq_true] at Uw
   exact Uw.1) (o0.2.2 1 (by simp))
  rw [List.length_map] at h1
  exact h1
 obtain ⟨a1,rfl,rfl,rfl,w1⟩:=open_int Tryz.underlying34 (Rz 1 34 v1 rfl rfl) h1
 have hu:=B7 w1
 clear Pr Rz
 simp only [List.append_nil] at hW'
 have hmx:maxLen=9223372036854775807:=rfl
 have hT:=tab hL
 refine ((aF.only (Om x0 a1 LH hu vo)).law (W:=W) (xs:=#[.agg c0,.int .u64 a1]) (show 1+0+1≤W.heap.size by have:=hT.size;omega) (fun w hb=>hT.below hb) rfl (fun j hj=>?_)).mono fun e W' ⟨he,bel⟩=>?_
 ·match j,hj with
  | 0,_=>exact q0
  | 1,_=>exact .d _ _ (.int _ _)
 subst he
 exact ⟨_,rfl,_,_,_,[],_,[],hW',trodAll_mk1 (shut_bool Tryz.underlying4 _),(trodAll_cons_mk (Ox (by kernel_rfl) (of_decide_eq_true (by kernel_rfl)) h0 bel (fun x hx=>au x (by simp [hx]))) (trodAll_cons_mk (shut_int Tryz.underlying34 w1) trodAll_mk0)),rfl,bel.frame _,fun h=>by cases h⟩
theorem said:Rows.GotypeMoreSaid :=
 OpenClaim.holds_of_cond 6 Tryz.f6 rfl rfl rfl rfl rfl rfl rfl ⟨rfl,rfl,rfl,rfl,rfl⟩ rfl rfl rfl rfl rfl (by kernel_rfl) Tryz.func6 (by kernel_rfl)
  (of_decide_eq_true (by kernel_rfl)) (by unfold Func.isWrapper;first | (rw [if_pos (by decide +kernel)];kernel_rfl) | (rw [if_neg (by decide +kernel)];exact ⟨rfl,rfl⟩))
  (fun os started H enc _ F=>by rw [OpenClaim.pre_eq_preRow];exact lifted os started H enc F)
theorem plain (f:FuncId) (fn:Func) (hf:Tryz.pinned.checked.prog.funcNamed "avocet/avocetlaw27.GotypeMore" = some f) (UW:Tryz.pinned.checked.prog.funcs[f]? = some fn) :
 false=Tryz.pinned.checked.prog.looks []∧∀ (j:Nat) t,fn.params[j]? = some t→Tryz.pinned.checked.prog.wantsStandIn t=false:=by
 obtain rfl:f=6:=Option.some.inj ((show Tryz.prog.funcNamed "avocet/avocetlaw27.GotypeMore" = some 6 by kernel_rfl).symm.trans hf) |>.symm
 obtain rfl:fn=Tryz.f6:=(Option.some.inj (Tryz.func6.symm.trans UW)).symm
 refine ⟨by kernel_rfl,fun j t ht=>?_⟩
 rw [Tryz.params6] at ht
 have hm:=Array.mem_of_getElem? ht
 have:t=25∨t=34:=by simpa using hm
 rcases this with rfl | rfl
 ·exact (show Tryz.prog.wantsStandIn 25=false by kernel_rfl)
 ·exact (show Tryz.prog.wantsStandIn 34=false by kernel_rfl)
theorem proved:Rows.GotypeMoreCardSaid :=
 Claim7.holds_tied_plain_at .later [] _ _ _ _ said (fun _ h=>by cases h) (by kernel_rfl) (fun _ h=>by cases h) gotypeMore_row_tie rfl ⟨rfl,rfl⟩ (by kernel_rfl) rfl plain (by kernel_rfl)
#print axioms proved
end Go.Proofs.YtnfnbjjnjjdjdaaGreatDoor.gotypeMore
