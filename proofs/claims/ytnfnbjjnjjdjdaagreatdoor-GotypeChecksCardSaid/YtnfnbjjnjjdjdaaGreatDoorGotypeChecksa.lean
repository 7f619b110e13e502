/- Whatever the program, gotype.Check and the document answer alike. Part 1 of 7 of the proof. -/
import Derived.WalkKit
import Derived.Lib.ConvBytes
import Derived.Lib.AppendStr
import Derived.ProofKit
import Derived.MapKept
import Derived.Deep.Quiet
set_option linter.unusedVariables false
set_option linter.unusedSimpArgs false
set_option linter.defProp false
def bD:=@Array.getElem?_eq_some_iff
def bp:=@List.getElem?_take
def iT:=@Nat.le_trans
def eS:=@Nat.lt_of_lt_of_le
def aA:=@Nat.le_refl
def aQ:=@List.append_nil
def aW:=@List.length_nil
def gZ:=@Nat.add_zero
def eX:=@List.take_append_drop
def iE:=@List.drop_zero
def au:=@List.getElem?_eq_getElem
def ct:=@Nat.lt_or_ge
def cD:=@Nat.mul_le_mul_right
def fy:=@Array.getElem?_eq_none
def ag:=@Option.some.inj
def bf:=@Nat.zero_add
def dA:=@List.mem_append
def bO:=@List.mem_singleton
def bk:=@List.getElem?_append_left
def ai:=@List.getElem?_eq_some_iff
def aN:=@List.getElem?_append_right
def aC:=@List.getElem?_set_self
def aj:=@List.getElem?_set_ne
def nD:=@Nat.mul_comm
def ej:=@Nat.add_mul
def ni:=@List.exists_cons_of_ne_nil
def qZ:=@Nat.div_lt_of_lt_mul
def aH:=@List.getElem_mem
def qm:=@Nat.mod_lt
def fD:=@Nat.add_assoc
def vC:=@Nat.div_add_mod
def aL:=@List.getElem?_map
def nO:=@List.getElem?_range
def nY:=@Nat.lt_irrefl
def aE:=@List.append_assoc
def av:=@List.length_append
def aD:=@if_pos
def aq:=@if_neg
def cA:=@List.getElem_append_left
def dZ:=@List.getElem_append_right
def aR:=@Prod.mk.inj
def uv:=@Nat.le_mul_of_pos_right
def fW:=@List.ext_getElem?
def jZ:=@List.length_pos_iff
def cJ:=@Option.map_some
def eu:=@List.mem_map
def mT:=@List.getElem?_toArray
def aS:=@List.length_map
def lu:=@List.length_range
def mU:=@Array.getElem?_toList
def dS:=@List.getElem?_drop
def pe:=@List.size_toArray
def jL:=@Nat.add_sub_cancel_left
def dy:=@List.getElem_map
def jD:=@Array.getElem_toList
def cC:=@List.all_eq_true
def gj:=@if_true
def cS:=@Bool.false_eq_true
def iF:=@if_false
def pg:=@List.getElem_drop
def kE:=@List.getElem_range
def aB:=@Option.map_eq_some_iff
def ga:=@List.mem_iff_getElem
def cg:=@List.length_take
def eG:=@List.length_drop
def nP:=@Array.length_toList
def lI:=@Option.isSome_iff_exists
def eM:=@List.mem_of_getElem?
def j8:=@Array.getD_eq_getD_getElem?
def dc:=@List.foldl_cons
def aP:=@List.length_cons
def iU:=@Nat.sub_self
def aM:=@List.eq_nil_of_length_eq_zero
def gQ:=@List.mapM_cons
def bB:=@List.mem_cons
def gk:=@Nat.zero_mul
def cw:=@List.map_cons
def iL:=@List.mem_of_mem_take
def kV:=@Array.getElem?_eq_getElem
def pq:=@not_true_eq_false
def jl:=@Bool.beq_eq_decide_eq
def gm:=@List.getElem_cons_zero
def tC:=@Nat.mul_one
def fX:=@Option.some.injEq
def aI:=@List.mem_cons_self
def mZ:=@Bool.eq_false_iff
def nE:=@Nat.add_comm
def fO:=@Array.toList_inj
def dg:=@Option.bind_some
def kW:=@Array.getElem_append_left
def sJ:=@Array.getElem_append_right
def pE:=@List.getElem_replicate
def dO:=@List.nil_append
def aF:=@Bool.and_eq_true
def dP:=@List.getElem?_eq_none
def gR:=@congrArg
def og:=@List.map_take
def iz:=@List.set_append_right
def gT:=@List.set_append_left
def aT:=@List.not_mem_nil
def sK:=@or_false
def hU:=@exists_congr
def uz:=@or_congr
def pG:=@Iff.rfl
def sr:=@and_congr
def jk:=@Ne.symm
def gG:=@Array.setIfInBounds_comm
def pH:=@List.reverse_singleton
def mW:=@List.singleton_append
def gq:=@Bool.true_or
def bz:=@decide_eq_true_iff
def aG:=@List.length_set
def tj:=@List.mem_or_eq_of_mem_set
def gH:=@List.cons_append
def iK:=@beq_iff_eq
def uC:=@cond_true
def cB:=@beq_eq_false_iff_ne
def nt:=@cond_false
def bG:=@Nat.zero_le
def mc:=@List.drop_drop
def cm:=@Nat.le_of_ble_eq_true
def aJ:=@List.drop_eq_getElem_cons
def ay:=@List.drop_eq_nil_of_le
def aU:=@List.mem_cons_of_mem
def bZ:=@List.contains_iff_mem
def af:=@decide_eq_false
def dJ:=@of_decide_eq_false
def lg:=@Bool.or_eq_true
def ah:=@decide_eq_true
def cM:=@decide_eq_decide
def tY:=@List.eq_of_mem_replicate
def gM:=@List.flatten_cons
def mO:=@Nat.min_eq_left
def cr:=@List.map_append
def gd:=@List.take_append_of_le_length
def bS:=@List.take_of_length_le
def fQ:=@List.drop_append
def fR:=@List.take_length
def eB:=@List.map_nil
def mS:=@Bool.or_false
def xD:=@Array.ext
def fA:=@Bool.or_eq_false_iff
def sR:=@List.mem_range
def eN:=@Bool.false_or
def iV:=@Bool.not_eq_true'
def jY:=@Nat.not_lt_zero
def iA:=@List.mem_append_right
def eO:=@List.mem_append_left
def qt:=@List.eq_nil_iff_forall_not_mem
def dQ:=@Bool.eq_iff_iff
def rT:=@List.perm_singleton
def rM:=@List.mem_filter
def aO:=@Bool.not_false
def gU:=@Bool.and_true
def mX:=@Nat.eq_of_beq_eq_true
def aZ:=@decide_eq_true_eq
def dm:=@List.getD_eq_getElem?_getD
def om:=@Prod.mk.injEq
def qb:=@List.takeWhile_prefix
def qx:=@Bool.not_eq_true
def ua:=@List.any_cons
def bV:=@of_decide_eq_true
def kJ:=@List.isPrefixOf_iff_prefix
def oL:=@List.prefix_iff_eq_take
def bF:=@List.take_succ_eq_append_getElem
def qz:=@Nat.lt_succ_self
def yz:=@List.map_drop
def dV:=@Int.le_refl
def pM:=@Int.le_trans
def jy:=@List.set_set
def cO:=@List.replicate_succ
def cX:=@List.replicate_zero
def eC:=@List.foldl_nil
def cn:=@List.set_cons_zero
def cI:=@List.set_cons_succ
def kj:=@eq_self
def lE:=@or_true
def lF:=@true_or
def jH:=@and_self
def dB:=@Int.natCast_add
def dw:=@Int.natCast_one
def cV:=@Int.natCast_zero
def ff:=@decide_eq_false_iff_not
def bY:=@Bool.true_and
def aK:=@Bool.not_true
def Al:=@and_true
def Am:=@true_and
def jP:=@List.length_eq_zero_iff
def pP:=@Bool.not_not
def gC:=@Bool.and_false
def bA:=@Bool.false_and
def kN:=@List.set_getElem_self
def cR:=@decide_true
def mF:=@List.contains_cons
def fI:=@List.sizeOf_lt_of_mem
def yB:=@Int.ofNat_inj
def eP:=@List.map_eq_cons_iff
def gv:=@List.drop_of_length_le
def nI:=@List.take_append
def bX:=@List.getElem?_cons_zero
def je:=@List.length_eq_one_iff
def jh:=@Option.map_none
def dX:=@Option.bind_eq_some_iff
def vM:=@List.cons.injEq
def cu:=@List.getElem?_cons_succ
def gw:=@Option.isSome_none
def gy:=@Option.isSome_some
def jA:=@decide_false
def qg:=@List.length_replicate
def pV:=@Option.isSome_map
def oY:=@List.eraseIdx_append_of_length_le
def iD:=@List.length_singleton
def iH:=@List.all_cons
def tv:=@List.mem_take_iff_getElem
def rB:=@Bool.and_eq_true_iff
def qh:=@List.countP_mono_left
def sk:=@List.all_nil
def qi:=@List.countP_le_length
def oS:=@List.not_any_eq_all_not
def aV {α:Type} (a:α):∃ x,a=x:=⟨a,rfl⟩
def ak {p:Prop} (h:p:=by omega):p:=h
def bH {p:Prop} (h:p:=by decide):p:=h
def cP {p:Prop} (h:p:=by kernel_rfl):p:=h
def dM {p:Prop} (h:p:=by simp):p:=h
def fk {p:Prop} (h:p:=by simp;omega):p:=h
def gP {p:Prop} (h:p:=by dsimp only;omega):p:=h
namespace Go.Av
open Go.RowKit
def bv (bs:List UInt8):List Value:=bs.map fun c=>Value.int .u8 (c.toNat:Int)
def Own (w:World) (B:Nat) (e:TypeId) (size:Nat) (v:Value) (n:Nat) (xs:List Value):Prop :=
 xs.length=n * size ∧
 ((v = .slice none 0 0∧n=0) ∨
  ∃ (g off cap:Nat) (cur:Array Value) (fz:Nat × Nat),v = .slice (some ⟨g,off,none⟩) n cap∧B≤g∧w.heap[g]? = some (.cells cur e fz)∧n≤cap∧cap≤maxLen∧off+cap * size≤cur.size ∧
   (off+cap * size≤fz.1∨fz.2≤fz.1)∧(cur.toList.drop off).take (n * size)=xs)
theorem Own.nil (w:World) (B:Nat) (e:TypeId) (size:Nat):Own w B e size (.slice none 0 0) 0 []:=⟨dM,.inl ⟨rfl,rfl⟩⟩
theorem Own.lt {w:World} {B e size:Nat} {v:Value} {n:Nat} {xs:List Value} (h:Own w B e size v n xs):∀ k,v.ownBlock=some k→B≤k∧k < w.heap.size:=by
 intro k hk;rcases h.2 with ⟨rfl,_⟩ | ⟨g,off,cap,cur,fz,rfl,hb,hg,_⟩
 ·simp [Value.ownBlock] at hk
 ·simp [Value.ownBlock] at hk;subst hk;exact ⟨hb,(bD.1 hg).1⟩
theorem Own.kept {w w':World} {B e size:Nat} {v:Value} {n:Nat} {xs:List Value} (h:Own w B e size v n xs) (hk:∀ k,v.ownBlock=some k→w'.heap[k]? = w.heap[k]?):Own w' B e size v n xs:=by
 refine ⟨h.1,?_⟩;rcases h.2 with hn | ⟨g,off,cap,cur,fz,rfl,hb,hgg,rest⟩
 ·exact .inl hn
 ·exact .inr ⟨g,off,cap,cur,fz,rfl,hb,by rw [hk g (by simp [Value.ownBlock])];exact hgg,rest⟩
theorem Own.alloc {w:World} {B e size:Nat} {v:Value} {n:Nat} {xs:List Value} (h:Own w B e size v n xs) (o:Obj):Own (w.alloc o) B e size v n xs :=
 h.kept fun k hk=>Below.heap_alloc w o k (h.lt k hk).2
theorem Own.drew {w:World} {B e size:Nat} {v:Value} {n:Nat} {xs:List Value} (h:Own w B e size v n xs):Own w.drew B e size v n xs :=
 h.kept fun _ _=>rfl
theorem Own.below {w w':World} {B e size:Nat} {v:Value} {n:Nat} {xs:List Value} (h:Own w B e size v n xs) (hb:Below w.heap.size w w'):Own w' B e size v n xs :=
 h.kept fun k hk=>hb.block k (h.lt k hk).2
theorem Own.grown {w w':World} {B e size:Nat} {v:Value} {n:Nat} {xs:List Value} (h:Own w B e size v n xs) {row:Option Nat} (hb:w.grownBy w' row) (gW:v.ownBlock=none∨v.ownBlock ≠ row):Own w' B e size v n xs :=
 h.kept fun k hk=>hb.block k (h.lt k hk).2 (by rcases gW with h' | h'<;>simp_all)
theorem Own.mono {w:World} {B B' e size:Nat} {v:Value} {n:Nat} {xs:List Value} (h:Own w B e size v n xs) (hB:B'≤B):Own w B' e size v n xs:=by
 refine ⟨h.1,?_⟩;rcases h.2 with hn | ⟨g,off,cap,cur,fz,rfl,hb,rest⟩
 ·exact .inl hn
 ·exact .inr ⟨g,off,cap,cur,fz,rfl,ak,rest⟩
theorem Own.cells {w:World} {B e size:Nat} {v:Value} {n:Nat} {xs:List Value} (h:Own w B e size v n xs) {g off cap:Nat} (hv:v = .slice (some ⟨g,off,none⟩) n cap):∀ j u,xs[j]? = some u→w.cell? ⟨g,off+j,none⟩=some u:=by
 intro j u hu;rcases h.2 with ⟨rfl,_⟩ | ⟨g',Bq,gF,cur,fz,rfl,_,hgg,_,_,FD,_,aei⟩
 ·simp at hv
 ·simp at hv;obtain ⟨⟨rfl,rfl⟩,rfl⟩:=hv;rw [← aei,bp] at hu
  split at hu
  ·simpa [World.cell?,hgg] using hu
  ·cases hu
theorem Addr.add_plain (g off j:Nat):(⟨g,off,none⟩:Addr).add j=⟨g,off+j,none⟩:=by unfold Addr.add;split<;>simp_all
structure yK (w:World) (v:Value) (w':World) (v':Value):Prop where
 grown:w.grownBy w' v.ownBlock
 aaW:v'.ownBlock=v.ownBlock∨∀ k,v'.ownBlock=some k→w.heap.size≤k
theorem Br {w w':World} (h:Below w.heap.size w w') (row:Option Nat):w.grownBy w' row :=
 ⟨h.os,h.tape,h.output,h.size,fun k hk _=>h.block k hk⟩
theorem FE {w w1 w2:World} {r r1:Option Nat} (h:w.grownBy w1 r) (h1:w1.grownBy w2 r1) (hr:r1=r∨∀ k,r1=some k→w.heap.size≤k):w.grownBy w2 r:=by
 refine ⟨h1.os.trans h.os,h1.tape.trans h.tape,h1.output.trans h.output,iT h.size h1.size,fun k hk gW=>?_⟩;rw [h1.block k (eS hk h.size) ?_,h.block k hk gW];intro e;rcases hr with rfl | hr
 ·exact gW e
 ·have:=hr k e.symm;omega
theorem yK.refl (w:World) (v:Value):yK w v w v:=⟨⟨rfl,rfl,rfl,aA _,fun _ _ _=>rfl⟩,.inl rfl⟩
theorem yK.trans {w w1 w2:World} {v v1 v2:Value} (h:yK w v w1 v1) (h1:yK w1 v1 w2 v2):yK w v w2 v2:=by
 refine ⟨FE h.grown h1.grown h.aaW,?_⟩;rcases h1.aaW with e | e
 ·rw [e];exact h.aaW
 ·exact .inr fun k hk=>iT h.grown.size (e k hk)
theorem yK.alloc {w w1:World} {v v1:Value} (h:yK w v w1 v1) (o:Obj):yK w v (w1.alloc o) v1 :=
 h.trans ⟨World.grownBy_alloc w1 o _,.inl rfl⟩
theorem yK.drew {w w1:World} {v v1:Value} (h:yK w v w1 v1):yK w v w1.drew v1 :=
 h.trans ⟨⟨rfl,rfl,rfl,aA _,fun _ _ _=>rfl⟩,.inl rfl⟩
theorem yK.below {w w1 w2:World} {v v1:Value} (h:yK w v w1 v1) (hb:Below w1.heap.size w1 w2):yK w v w2 v1 :=
 h.trans ⟨Br hb _,.inl rfl⟩
section
variable {P:Program}
theorem qV (g o:Nat) (t:TypeId) (fz:Nat × Nat):∀ (vs:List Value) (i:Nat) (cur:Array Value) (w:World),w.heap[g]? = some (.cells cur t fz)→o+i+vs.length≤cur.size →
 (o+i+vs.length≤fz.1∨fz.2≤fz.1)→(∀ v∈vs,v.oneCell' = true) →
 (storeCells ⟨g,o,none⟩ vs i).run P w = .ok () (w.setRow g (cur.toList.take (o+i)++vs++cur.toList.drop (o+i+vs.length)).toArray)
 | [],i,cur,w,hg,_,_,_=>by
  simp only [storeCells,aQ,aW,gZ,eX,Array.toArray_toList];rw [setRow_self w g cur t fz hg];rfl
 | v :: rest,i,cur,w,hg,hl,hf,h1=>by
  have hi:o+i < cur.size:=by simp at hl;omega
  have l8:w.cell? ⟨g,o+i,none⟩=some cur[o+i]:=by simp [World.cell?,hg,hi]
  have aia:w.frozen? ⟨g,o+i,none⟩=false:=by
   simp only [World.frozen?,hg];simp at hf ⊢;omega
  have kz:(store ((⟨g,o,none⟩:Addr).add i) v).run P w = .ok () (w.setRow g (cur.setIfInBounds (o+i) v)):=by
   rw [Addr.add_plain,run_store P w _ v _ (h1 v dM),l8];simp [aia,setCell_eq_setRow w g (o+i) cur t fz v hg]
  have ih:=qV g o t fz rest (i+1) (cur.setIfInBounds (o+i) v) (w.setRow g (cur.setIfInBounds (o+i) v)) (setRow_heap w g cur _ t _ hg) (by simp at hl ⊢;omega) (by simp at hf ⊢;omega) (fun x hx=>h1 x (by simp [hx]));simp only [storeCells,Sem.run_bind,kz,Result.andThen_ok,ih,setRow_setRow]
  congr 3
  have e:=list_seg_step cur.toList (o+i) v rest (by simp at hl ⊢;omega)
  simpa [Array.toList_setIfInBounds,Nat.add_assoc] using e
structure Dx (P:Program) (t e size bytes:Nat) (z:Value):Prop where
 under:P.underlying t=some (.slice e)
 info:(P.info? e).map (fun i=>(i.zero,i.size,i.bytes))=some (some z,size,bytes)
 akK:z.cells.size=size
theorem Own.lenOf {w:World} {B e size:Nat} {y:Value} {m:Nat} {news:List Value} (h:Own w B e size y m news) (W:World):(Builtin.lenOf y).run P W = .ok m W:=by
 rcases h.2 with ⟨rfl,rfl⟩ | ⟨g,off,cap,cur,fz,rfl,_⟩<;>simp [Builtin.lenOf]
theorem Own.firstCells {w:World} {B e size:Nat} {y:Value} {m:Nat} {news:List Value} (h:Own w B e size y m news) (W:World) (hW:W.heap=w.heap):(Builtin.firstCells size m y).run P W = .ok news.toArray W:=by
 rcases h.2 with ⟨rfl,rfl⟩ | ⟨g,off,cap,cur,fz,rfl,_⟩
 ·have:news=[]:=List.eq_nil_of_length_eq_zero (by simpa using h.1);subst this;exact run_firstCells_none (P:=P) W size 0 0 0
 ·exact run_firstCells_some (P:=P) W size m ⟨g,off,none⟩ m cap news h.1 (fun j u hu=>by
   rw [Addr.add_plain];have:=h.cells rfl j u hu
   simpa [World.cell?,hW] using this)
theorem SO (w:World) (xs:List Value) (e:TypeId):∀ j u,xs[j]? = some u→(w.alloc (.cells xs.toArray e)).cell? ⟨w.heap.size,0+j,none⟩=some u:=by
 intro j u hu;have:=heap_alloc_new w (.cells xs.toArray e);simp only [World.cell?,this]
 simpa using hu
theorem v7 (w:World) (B e:Nat) (s:ByteArray) (hB:B≤w.heap.size) (hs:s.size≤maxLen) :
 Own (Lib.bytesWorld w e s) B e 1 (.slice (some ⟨w.heap.size,0,none⟩) s.size (grownCap w s.size 0 e)) s.size (bv s.data.toList):=by
 have nU:=grownCap_ge w s.size 0 e
 have jS:(Lib.bytesCells w e s).size=grownCap w s.size 0 e:=by
  have:s.data.size=s.size:=rfl;simp [Lib.bytesCells,this];omega
 refine ⟨by simp [bv],.inr ⟨w.heap.size,0,_,_,_,rfl,hB,Lib.bytesWorld_at_new w e s,nU,grownCap_le_maxLen w s.size 0 e hs,ak,?_,?_⟩⟩
 ·left;simp only [];omega
 ·simp only [Lib.bytesCells,Array.toList_append,Array.toList_map,iE,bv];have:(List.map (fun c:UInt8=>Value.int IntKind.u8 (c.toNat:Int)) s.data.toList).length=s.size * 1:=dM;rw [← this];exact List.take_left
theorem qj (w:World) (B e:Nat) (s:ByteArray) (hB:B≤w.heap.size):Below B w (Lib.bytesWorld w e s) :=
 ⟨rfl,rfl,rfl,by rw [Lib.bytesWorld_size];omega,fun k hk=>Lib.bytesWorld_at_old w e s k ak⟩
theorem yh {w:World} (src e dst:Nat) (hs:P.underlying src=some (.slice e)) (he:P.underlying e=some (.int .u8)) (hd:P.underlying dst=some .string) (g off cap n:Nat) (bs:List UInt8) (hlen:bs.length=n)
 (hc:∀ j u,(bv bs)[j]? = some u→w.cell? ⟨g,off+j,none⟩=some u) :
 (convert src dst (.slice (some ⟨g,off,none⟩) n cap)).run P w = .ok (.string ⟨bs.toArray⟩) w:=by
 have h:=run_convert_bytes_arg (P:=P) w src e hs he g off n cap (bs.map fun c=>(c.toNat:Int)) (by simpa using hlen) (fun i hi=>by
  have:=hc i (.int .u8 ((bs.map fun c=>(c.toNat:Int)).getD i 0)) (by simp [bv,List.getD,au (show i < bs.length by omega)]);exact this) dst hd
 rw [h]
 congr 2
 simp [strOfNums,Function.comp_def]
end
end Go.Av
namespace Go.Ab
open Go.RowKit Go.Av
inductive D where
 | int (k:IntKind) (n:Int)
 | bool (b:Bool)
 | str (s:List UInt8)
 | sl (rows:List (List D))
inductive Tok where
 | full
 | own (t:Nat)
inductive V where
 | undef
 | d (x:D)
 | sl (rows:List (List D)) (t:Tok)
 | ptr (i k:Nat)
 | nc (row:List D) (k:Nat)
 | bx (i n cap:Nat)
 | mp (i:Nat)
 | vY (ks:List (List UInt8)) (vs:List V)
 | self (i T:Nat)
 | buf (rows:List (List D)) (t T:Nat)
 | oU
 | func (f:FuncId) (first caps:List V)
 | sF
 | agg (vs:List V)
 | fZ (vs:List V)
abbrev bQ:=List (List V)
abbrev eg:=List (Nat × Nat)
instance:Inhabited V:=⟨.undef⟩
structure TI where
 addr:Option (Nat × Nat)
 cap:Nat
 n:Nat
 sz:Nat
def JK:D→Option Value
 | .int k n=>some (.int k n)
 | .bool b=>some (.bool b)
 | .str s=>if s.length≤9223372036854775807 then some (.string ⟨s.toArray⟩) else none
 | .sl _=>none
structure Inv where
 holds:World→Prop
 top:Nat
 Mu:Nat→Option (List D)
 ok:∀ (w:World) (g:Nat) (row:List D),holds w→Mu g=some row→g < top∧∀ q (h:q < row.length),∃ v,JK row[q]=some v∧w.cell? ⟨g,q,none⟩=some v
structure Cx where
 B:Nat
 ρ:List Nat
 τ:List TI
 I:Inv
 X:Nat→Nat→Prop
 hX:∀ g k,X g k→I.top≤g∧g < B
def Cx.M (c:Cx) (g k:Nat):Prop:=(c.X g k∨g∈c.ρ)∨∃ (t:Nat) (i:TI) (off:Nat),c.τ[t]? = some i∧i.addr=some (g,off)∧off+i.n * i.sz≤k∧k < off+i.cap * i.sz
inductive DR (M:Nat→Nat→Prop) (w:World):D→Value→Prop
 | int (k:IntKind) (n:Int):DR M w (.int k n) (.int k n)
 | bool (b:Bool):DR M w (.bool b) (.bool b)
 | str (s:List UInt8) (h:s.length≤9223372036854775807):DR M w (.str s) (.string ⟨s.toArray⟩)
 | sl (rows:List (List D)) (sz:Nat) (a:Option Addr) (cap:Nat) (f:Nat→Nat→Value) (jS:0 < sz) (hr:∀ r∈rows,r.length=sz) (hc:rows.length≤cap) (hm:cap≤9223372036854775807)
  (hs:rows ≠ []→∃ g off,a=some ⟨g,off,none⟩∧∀ j (h:j < rows.length) q (_:q < (rows[j]).length),¬ M g (off+j * sz+q)∧w.cell? ⟨g,off+j * sz+q,none⟩=some (f j q))
  (hd:∀ j (h:j < rows.length) q (hq:q < (rows[j]).length),DR M w (rows[j])[q] (f j q)):DR M w (.sl rows) (.slice a rows.length cap)
theorem DR.mono {M M':Nat→Nat→Prop} {w w':World} (hk:∀ g k v,¬ M g k→w.cell? ⟨g,k,none⟩=some v→¬ M' g k∧w'.cell? ⟨g,k,none⟩=some v) {x:D} {v:Value} (h:DR M w x v):DR M' w' x v:=by
 induction h with
 | int k n=>exact .int k n
 | bool b=>exact .bool b
 | str s h=>exact .str s h
 | sl rows sz a cap f jS hr hc hm hs hd ih =>
  refine .sl rows sz a cap f jS hr hc hm (fun he=>?_) ih;obtain ⟨g,off,ha,hc⟩:=hs he;exact ⟨g,off,ha,fun j h q hq=>hk _ _ _ (hc j h q hq).1 (hc j h q hq).2⟩
theorem DR.one {M:Nat→Nat→Prop} {w:World} {x:D} {v:Value} (h:DR M w x v):v.oneCell' = true:=by cases h<;>rfl
theorem DR.cells {M:Nat→Nat→Prop} {w:World} {x:D} {v:Value} (h:DR M w x v):v.cells = #[v]:=by cases h<;>rfl
def oA (w:World) (b T:Nat):Prop:=∃ cs fz,w.heap[b]? = some (.cells cs T fz)
inductive VR (c:Cx) (w:World):V→Value→Prop
 | undef (v:Value):VR c w .undef v
 | d (x:D) (v:Value) (h:DR c.M w x v):VR c w (.d x) v
 | full (rows:List (List D)) (a:Option Addr) (h:DR c.M w (.sl rows) (.slice a rows.length rows.length)) (ha:∀ p,a=some p→p.spot=none∧c.B≤p.block):VR c w (.sl rows .full) (.slice a rows.length rows.length)
 | own (rows:List (List D)) (t:Nat) (a:Option Addr) (cap:Nat) (i:TI) (h:DR c.M w (.sl rows) (.slice a rows.length cap)) (ht:c.τ[t]? = some i) (hr:∀ r∈rows,r.length=i.sz) (hn:rows.length≤i.n)
  (hl:rows.length=i.n→cap=i.cap∧a=i.addr.map fun p=>⟨p.1,p.2,none⟩):VR c w (.sl rows (.own t)) (.slice a rows.length cap)
 | ptr (i k b:Nat) (h:c.ρ[i]? = some b) (hT:∃ T,oA w b T):VR c w (.ptr i k) (.pointer (some ⟨b,k,none⟩))
 | nc (row:List D) (k g o:Nat) (f:Nat→Value) (h:∀ q (h:q < row.length),¬ c.M g (o+q)∧w.cell? ⟨g,o+q,none⟩=some (f q)∧DR c.M w row[q] (f q)):VR c w (.nc row k) (.pointer (some ⟨g,o+k,none⟩))
 | bx (i n cap b:Nat) (h:c.ρ[i]? = some b) (hn:n≤cap) (hm:cap≤9223372036854775807) (hT:∃ T,oA w b T):VR c w (.bx i n cap) (.slice (some ⟨b,0,none⟩) n cap)
 | mp (i b:Nat) (h:c.ρ[i]? = some b):VR c w (.mp i) (.map (some b))
 | self (i T b:Nat) (v:Value) (h:c.ρ[i]? = some b) (hT:oA w b T) (hv:v = .pointer none∨v = .pointer (some ⟨b,0,none⟩)):VR c w (.self i T) v
 | buf (rows:List (List D)) (t T:Nat) (v:Value) (h:VR c w (.sl rows (.own t)) v) (hT:∀ g off n cap,cap ≠ 0→v = .slice (some ⟨g,off,none⟩) n cap→off=0∧c.B≤g∧oA w g T):VR c w (.buf rows t T) v
 | oU:VR c w .oU (.pointer none)
 | func (f:FuncId) (first caps:List V) (cf cc:Array Value) (h1:cf.size=first.length) (h2:cc.size=caps.length) (h3:∀ j (h:j < first.length),VR c w first[j] (cf.getD j undef)) (h4:∀ j (h:j < caps.length),VR c w caps[j] (cc.getD j undef)):VR c w (.func f first caps) (.func (.func f) cf cc)
 | sF:VR c w .sF .nilFunc
 | agg (vs:List V) (cs:Array Value) (h1:cs.size=vs.length) (h2:∀ j (h:j < vs.length),VR c w vs[j] (cs.getD j undef)) (h3:∀ j,j < vs.length→(cs.getD j undef).oneCell' = true):VR c w (.agg vs) (.agg cs)
 | fZ (vs:List V) (cs:Array Value) (h1:cs.size=vs.length) (h2:∀ j (h:j < vs.length),VR c w vs[j] (cs.getD j undef)):VR c w (.fZ vs) (.tuple cs)
structure oH (c:Cx) (w:World) (c':Cx) (w':World):Prop where
 cell:∀ g k v,¬ c.M g k→w.cell? ⟨g,k,none⟩=some v→¬ c'.M g k∧w'.cell? ⟨g,k,none⟩=some v
 ρ:∀ (i b:Nat),c.ρ[i]? = some b→c'.ρ[i]? = some b
 τ:∀ (t:Nat) (i:TI),c.τ[t]? = some i→∃ i',c'.τ[t]? = some i'∧i'.sz=i.sz∧i.n≤i'.n∧(i'.n=i.n→i' = i)
 B:c'.B=c.B
 ty:∀ b T,oA w b T→oA w' b T
theorem oH.refl (c:Cx) (w:World):oH c w c w:=⟨fun _ _ _ h h'=>⟨h,h'⟩,fun _ _ h=>h,fun _ i h=>⟨i,h,rfl,aA _,fun _=>rfl⟩,rfl,fun _ _ h=>h⟩
theorem oH.trans {c1 c2 c3:Cx} {w1 w2 w3:World} (h:oH c1 w1 c2 w2) (k:oH c2 w2 c3 w3):oH c1 w1 c3 w3:=by
 refine ⟨fun g q v hm hv=>?_,fun i b hb=>k.ρ _ _ (h.ρ _ _ hb),fun t i ht=>?_,k.B.trans h.B,fun b T hT=>k.ty b T (h.ty b T hT)⟩
 ·obtain ⟨a,b⟩:=h.cell g q v hm hv;exact k.cell g q v a b
 ·obtain ⟨i1,a1,a2,a3,a4⟩:=h.τ t i ht;obtain ⟨i2,b1,b2,b3,b4⟩:=k.τ t i1 a1;refine ⟨i2,b1,b2.trans a2,iT a3 b3,fun e=>?_⟩;have e1:i1.n=i.n:=ak;have e2:=a4 e1;subst e2;exact b4 e
theorem DR.jC {c c':Cx} {w w':World} (hk:oH c w c' w') {x:D} {v:Value} (h:DR c.M w x v):DR c'.M w' x v:=h.mono hk.cell
theorem VR.jC {c c':Cx} {w w':World} (hk:oH c w c' w') {x:V} {v:Value} (h:VR c w x v):VR c' w' x v:=by
 induction h with
 | undef v=>exact .undef v
 | d x v h=>exact .d x v (h.jC hk)
 | full rows a h ha=>exact .full rows a (h.jC hk) (fun p hp=>by rw [hk.B];exact ha p hp)
 | own rows t a cap i h ht hr hn hl =>
  obtain ⟨i',b1,b2,b3,b4⟩:=hk.τ t i ht;refine .own rows t a cap i' (h.jC hk) b1 (by rw [b2];exact hr) ak (fun e=>?_);have e1:i'.n=i.n:=ak;have e2:=b4 e1;subst e2;exact hl e
 | ptr i k b h hT=>exact .ptr i k b (hk.ρ _ _ h) (hT.imp fun T=>hk.ty b T)
 | nc row k g o f h =>
  refine .nc row k g o f fun q hq=>?_;obtain ⟨a,b,d⟩:=h q hq;obtain ⟨a',b'⟩:=hk.cell _ _ _ a b;exact ⟨a',b',d.jC hk⟩
 | bx i n cap b h hn hm hT=>exact .bx i n cap b (hk.ρ _ _ h) hn hm (hT.imp fun T=>hk.ty b T)
 | mp i b h=>exact .mp i b (hk.ρ _ _ h)
 | self i T b v h hT hv=>exact .self i T b v (hk.ρ _ _ h) (hk.ty _ _ hT) hv
 | buf rows t T v h hT ih =>
  refine .buf rows t T v ih fun g off n cap hr hv=>?_;obtain ⟨h1,h2,h3⟩:=hT g off n cap hr hv;exact ⟨h1,by rw [hk.B];exact h2,hk.ty _ _ h3⟩
 | oU=>exact .oU
 | func f first caps cf cc h1 h2 h3 h4 SQ o8=>exact .func f first caps cf cc h1 h2 SQ o8
 | sF=>exact .sF
 | agg vs cs h1 h2 h3 ih=>exact .agg vs cs h1 ih h3
 | fZ vs cs h1 h2 ih=>exact .fZ vs cs h1 ih
structure Ext (c:Cx) (w:World) (c':Cx) (w':World):Prop where
 keeps:oH c w c' w'
 B:c'.B=c.B
 I:c'.I=c.I
 X:c'.X=c.X
 below:Below c.B w w'
theorem Ext.refl (c:Cx) (w:World):Ext c w c w:=⟨.refl c w,rfl,rfl,rfl,.refl _ w⟩
theorem Ext.trans {c1 c2 c3:Cx} {w1 w2 w3:World} (h:Ext c1 w1 c2 w2) (k:Ext c2 w2 c3 w3):Ext c1 w1 c3 w3 :=
 ⟨h.keeps.trans k.keeps,k.B.trans h.B,k.I.trans h.I,k.X.trans h.X,h.below.trans (h.B ▸ k.below)⟩
theorem VR.ext {c c':Cx} {w w':World} (hk:Ext c w c' w') {x:V} {v:Value} (h:VR c w x v):VR c' w' x v:=h.jC hk.keeps
inductive v8 (c:Cx) (w:World):Obj→List V→Prop
 | cells (cs:Array Value) (T:TypeId) (vs:List V) (h1:cs.size=vs.length) (h2:∀ j (h:j < vs.length),VR c w vs[j] (cs.getD j undef)∧(cs.getD j undef).oneCell' = true):v8 c w (.cells cs T (0,0)) vs
 | map (es:Array MapEntry) (ck:Nat) (ks:List (List UInt8)) (vs:List V) (h0:es.size=ks.length) (h1:ks.length=vs.length)
  (h2:∀ (j:Nat) (k:List UInt8) (v:V),ks[j]? = some k→vs[j]? = some v→∃ e,es[j]? = some e∧e.key = .string ⟨k.toArray⟩∧VR c w v e.val):v8 c w (.map es ck) [.vY ks vs]
theorem v8.jC {c c':Cx} {w w':World} (hk:oH c w c' w') {o:Obj} {vs:List V} (h:v8 c w o vs):v8 c' w' o vs:=by
 cases h with
 | cells cs T vs h1 h2=>exact .cells cs T vs h1 fun j hj=>⟨(h2 j hj).1.jC hk,(h2 j hj).2⟩
 | map es ck ks us h0 h1 h2=>exact .map es ck ks us h0 h1 fun j k v hj hv=>(h2 j k v hj hv).imp fun e he=>⟨he.1,he.2.1,he.2.2.jC hk⟩
def WU (vs:List V):Prop:=∀ ks us,vs ≠ [.vY ks us]
theorem v8.aej {c:Cx} {w:World} {o:Obj} {vs:List V} (h:v8 c w o vs) (hn:WU vs):∃ (cs:Array Value) (T:TypeId),o = .cells cs T (0,0)∧cs.size=vs.length∧∀ j (h:j < vs.length),VR c w vs[j] (cs.getD j undef)∧(cs.getD j undef).oneCell' = true:=by
 cases h with
 | cells cs T vs h1 h2=>exact ⟨cs,T,rfl,h1,h2⟩
 | map es ck ks us h0 h1 h2=>exact absurd rfl (hn ks us)
theorem v8.OB {c:Cx} {w:World} {b:Nat} {o:Obj} {vs:List V} (h:v8 c w o vs) (ho:w.heap[b]? = some o) (hT:∃ T,oA w b T):∃ (cs:Array Value) (T:TypeId),w.heap[b]? = some (.cells cs T (0,0))∧cs.size=vs.length∧∀ j (h:j < vs.length),VR c w vs[j] (cs.getD j undef)∧(cs.getD j undef).oneCell' = true:=by
 cases h with
 | cells cs T vs h1 h2=>exact ⟨cs,T,ho,h1,h2⟩
 | map es ck ks us h0 h1 h2 =>
  obtain ⟨T,cs,fz,hT⟩:=hT;rw [ho] at hT;cases hT
structure Mem where
 boxes:List (List V)
 dG:List (Nat × Nat)
structure ji (c:Cx) (w:World) (S:Mem):Prop where
 hB:c.I.top≤c.B∧c.B≤w.heap.size
 len:S.boxes.length=c.ρ.length
 box:∀ (i b:Nat),c.ρ[i]? = some b→c.B≤b∧∃ o,w.heap[b]? = some o∧∃ vs,S.boxes[i]? = some vs∧v8 c w o vs
 inj:∀ (i j b:Nat),c.ρ[i]? = some b→c.ρ[j]? = some b→i=j
 dG:S.dG=c.τ.map fun i=>(i.n,i.sz)
 tok:∀ (t:Nat) (i:TI),c.τ[t]? = some i→i.n≤i.cap∧i.cap≤9223372036854775807∧0 < i.sz∧(i.addr=none→i.cap=0) ∧
  (i.n < i.cap→∀ g off,i.addr=some (g,off)→c.B≤g∧g ∉ c.ρ∧∃ (cur:Array Value) (T:TypeId) (fz:Nat × Nat),w.heap[g]? = some (.cells cur T fz)∧off+i.cap * i.sz≤cur.size∧(off+i.cap * i.sz≤fz.1∨fz.2=fz.1))
 yL:∀ (t t':Nat) (i i':TI) (g off Bq:Nat),c.τ[t]? = some i→c.τ[t']? = some i'→i.addr=some (g,off)→i'.addr=some (g,Bq)→i.n < i.cap→i'.n < i'.cap→t=t'
 inv:∀ w',Below c.B w w'→c.I.holds w'
theorem ji.lt {c:Cx} {w:World} {S:Mem} (h:ji c w S) {i b:Nat} (hb:c.ρ[i]? = some b):b < w.heap.size:=by
 obtain ⟨_,o,hh,_⟩:=h.box i b hb;exact (bD.1 hh).1
theorem ji.I {c:Cx} {w:World} {S:Mem} (h:ji c w S):c.I.holds w:=h.inv w (.refl _ _)
theorem ql {l:List Nat} {b:Nat}:b∈l↔∃ i:Nat,l[i]? = some b:=List.mem_iff_getElem?
theorem ji.Dy {c:Cx} {w:World} {S:Mem} (h:ji c w S) {g k:Nat} (hg:w.heap.size≤g):¬ c.M g k:=by
 rintro ((hm | hm) | ⟨t,i,off,ht,ha,h1,h2⟩)
 ·have:=(c.hX _ _ hm).2;have:=h.hB.2;omega
 ·obtain ⟨i,hi⟩:=ql.1 hm;have:=h.lt hi;omega
 ·obtain ⟨a1,a2,a3,a4,a5⟩:=h.tok t i ht
  have bu:i.n < i.cap:=by
   rcases ct i.n i.cap with h' | h'
   ·exact h'
   ·have:=cD i.sz h';omega
  obtain ⟨_,_,cur,T,fz,hh,_⟩:=a5 bu g off ha;have:=(bD.1 hh).1;omega
theorem xm {w:World} {g k:Nat} {v:Value} (h:w.cell? ⟨g,k,none⟩=some v):g < w.heap.size:=by
 rcases ct g w.heap.size with h' | h'
 ·exact h'
 ·simp [World.cell?,fy h'] at h
theorem WV {M:Nat→Nat→Prop} {w:World} {x:D} {v:Value} (h:JK x=some v):DR M w x v:=by
 cases x with
 | int k n=>obtain rfl:=ag h;exact .int _ _
 | bool b=>obtain rfl:=ag h;exact .bool _
 | str s =>
  simp only [JK] at h
  split at h
  ·rename_i hs;obtain rfl:=ag h;exact .str _ hs
  ·cases h
 | sl rows=>cases h
theorem ji.Mu {c:Cx} {w:World} {S:Mem} (h:ji c w S) {g:Nat} {row:List D} (hg:c.I.Mu g=some row):VR c w (.nc row 0) (.pointer (some ⟨g,0,none⟩)):=by
 obtain ⟨bu,hc⟩:=c.I.ok w g row h.I hg;have hB:=h.hB.1
 have hM:∀ k,¬ c.M g k:=by
  rintro k ((hm | hm) | ⟨t,i,off,ht,ha,h1,h2⟩)
  ·have:=(c.hX _ _ hm).1;omega
  ·obtain ⟨i,hi⟩:=ql.1 hm;obtain ⟨hb,_⟩:=h.box i g hi;omega
  ·obtain ⟨a1,a2,a3,a4,a5⟩:=h.tok t i ht
   have bu:i.n < i.cap:=by
    rcases ct i.n i.cap with h' | h'
    ·exact h'
    ·have:=cD i.sz h';omega
   have:=(a5 bu g off ha).1;omega
 refine .nc row 0 g 0 (fun q=>(w.cell? ⟨g,q,none⟩).getD undef) fun q hq=>?_;obtain ⟨v,h1,h2⟩:=hc q hq;rw [bf];refine ⟨hM q,by rw [h2];rfl,?_⟩;rw [h2];exact WV h1
theorem oA.lt {w:World} {b T:Nat} (h:oA w b T):b < w.heap.size:=by
 obtain ⟨cs,fz,h⟩:=h;exact (bD.1 h).1
theorem oA.uu {w w':World} {b T:Nat} (h:oA w b T) (e:w'.heap[b]? = w.heap[b]?):oA w' b T:=by
 obtain ⟨cs,fz,h⟩:=h;exact ⟨cs,fz,by rw [e];exact h⟩
theorem oA.alloc {w:World} {b T:Nat} (h:oA w b T) (o:Obj):oA (w.alloc o) b T:=h.uu (Below.heap_alloc w o b h.lt)
theorem Dz {w:World} {g k:Nat} (o:Obj) (h:g < w.heap.size):(w.alloc o).cell? ⟨g,k,none⟩=w.cell? ⟨g,k,none⟩ :=
 World.cell?_of_block (a:=⟨g,k,none⟩) (Below.heap_alloc w o g h)
theorem ji.aek {c:Cx} {w:World} {S:Mem} (h:ji c w S) (o:Obj):ji c (w.alloc o) S∧Ext c w c (w.alloc o):=by
 have hk:oH c w c (w.alloc o):=⟨fun g k v hm hv=>⟨hm,by rw [Dz o (xm hv)];exact hv⟩,fun _ _ h=>h,fun _ i h=>⟨i,h,rfl,aA _,fun _=>rfl⟩,rfl,fun _ _ h=>h.alloc o⟩;have hb:Below c.B w (w.alloc o):=(Below.refl _ _).alloc h.hB.2 _;refine ⟨⟨⟨h.hB.1,by have:=hb.size;have:=h.hB.2;omega⟩,h.len,fun i b hi=>?_,h.inj,h.dG,fun t i ht=>?_,h.yL,fun w' WW=>h.inv w' (hb.trans WW)⟩,hk,rfl,rfl,rfl,hb⟩
 ·obtain ⟨a,o,hh,vs,e1,e2⟩:=h.box i b hi;exact ⟨a,o,by rw [Below.heap_alloc _ _ _ (h.lt hi)];exact hh,vs,e1,e2.jC hk⟩
 ·obtain ⟨a1,a2,a3,a4,a5⟩:=h.tok t i ht;refine ⟨a1,a2,a3,a4,fun hn g off ha=>?_⟩;obtain ⟨b1,b2,cur,T,fz,hh,r⟩:=a5 hn g off ha;exact ⟨b1,b2,cur,T,fz,by rw [Below.heap_alloc _ _ _ (bD.1 hh).1];exact hh,r⟩
theorem ji.OC {c:Cx} {w:World} {S:Mem} (h:ji c w S) (o:Obj) (vs:List V) (hv:v8 c w o vs) :
 ji { c with ρ:=c.ρ++[w.heap.size] } (w.alloc o) { S with boxes:=S.boxes++[vs] }∧Ext c w { c with ρ:=c.ρ++[w.heap.size] } (w.alloc o):=by
 obtain ⟨h1,hj⟩:=h.aek o
 have hk:oH c w { c with ρ:=c.ρ++[w.heap.size] } (w.alloc o):=by
  refine ⟨fun g k v hm hv=>⟨?_,(hj.keeps.cell g k v hm hv).2⟩,fun i b hi=>?_,hj.keeps.τ,rfl,hj.keeps.ty⟩
  ·rintro ((h' | h') | h')
   ·exact hm (.inl (.inl h'))
   ·simp only [dA,bO] at h';rcases h' with h' | h'
    ·exact hm (.inl (.inr h'))
    ·have:=xm hv;omega
   ·exact hm (.inr h')
  ·show (c.ρ++[w.heap.size])[i]? = some b;rw [bk (ai.1 hi).1];exact hi
 have nV:∀ i b:Nat,(c.ρ++[w.heap.size])[i]? = some b→c.ρ[i]? = some b∨(i=c.ρ.length∧b=w.heap.size):=by
  intro i b hi;rcases ct i c.ρ.length with h' | h'
  ·left;rwa [bk h'] at hi
  ·right;rw [aN h'] at hi
   have:i - c.ρ.length=0:=by
    have:=(ai.1 hi).1;simp at this;omega
   rw [this] at hi;simp at hi;exact ⟨ak,hi.symm⟩
 refine ⟨⟨h1.hB,by simp [h.len],fun i b hi=>?_,fun i j b hi jT=>?_,h.dG,fun t i ht=>?_,h.yL,h1.inv⟩,hk,rfl,rfl,rfl,hj.below⟩
 ·rcases nV i b hi with hi | ⟨rfl,rfl⟩
  ·obtain ⟨a,o0,hh0,vs0,f1,f2⟩:=h.box i b hi;have hold:(w.alloc o).heap[b]? = w.heap[b]?:=Below.heap_alloc _ _ _ (h.lt hi);refine ⟨a,o0,by rw [hold];exact hh0,vs0,?_,f2.jC hk⟩;show (S.boxes++[vs])[i]? = _;rw [bk (ai.1 f1).1];exact f1
  ·refine ⟨h.hB.2,o,heap_alloc_new w _,vs,?_,hv.jC hk⟩;show (S.boxes++[vs])[c.ρ.length]? = _;rw [← h.len];simp
 ·rcases nV i b hi with hi | ⟨rfl,rfl⟩<;>rcases nV j _ jT with jT | ⟨rfl,e⟩
  ·exact h.inj i j b hi jT
  ·have:=h.lt hi;omega
  ·have:=h.lt jT;omega
  ·rfl
 ·obtain ⟨a1,a2,a3,a4,a5⟩:=h1.tok t i ht;refine ⟨a1,a2,a3,a4,fun hn g off ha=>?_⟩;obtain ⟨b1,b2,r⟩:=a5 hn g off ha;obtain ⟨_,_,cur,T',fz,hh,_⟩:=(h.tok t i ht).2.2.2.2 hn g off ha;refine ⟨b1,?_,r⟩;simp only [dA,bO,not_or];refine ⟨b2,fun e=>?_⟩;have:=(bD.1 hh).1;omega
theorem ji.Da {c:Cx} {w:World} {S:Mem} (h:ji c w S) (cs:Array Value) (T:TypeId) (vs:List V) (jS:cs.size=vs.length) (hv:∀ j (h:j < vs.length),VR c w vs[j] (cs.getD j undef)∧(cs.getD j undef).oneCell' = true) :
 ji { c with ρ:=c.ρ++[w.heap.size] } (w.alloc (.cells cs T)) { S with boxes:=S.boxes++[vs] }∧Ext c w { c with ρ:=c.ρ++[w.heap.size] } (w.alloc (.cells cs T)) :=
 h.OC _ vs (.cells cs T vs jS hv)
theorem oA.new {w:World} (cs:Array Value) (T:TypeId):oA (w.alloc (.cells cs T)) w.heap.size T:=⟨cs,(0,0),heap_alloc_new w _⟩
theorem JL (w:World) (g:Nat) (cs:Array Value) {b k:Nat} (h:b ≠ g):(w.setRow g cs).cell? ⟨b,k,none⟩=w.cell? ⟨b,k,none⟩ :=
 World.cell?_of_block (a:=⟨b,k,none⟩) (setRow_other w g b cs h)
theorem oA.setRow {w:World} {b T:Nat} (h:oA w b T) (g:Nat) (cs:Array Value):oA (w.setRow g cs) b T:=by
 by_cases e:b=g
 ·subst e;obtain ⟨cs0,fz,h⟩:=h;exact ⟨cs,fz,setRow_heap w b cs0 cs T fz h⟩
 ·exact h.uu (setRow_other w g b cs e)
theorem setRow_size (w:World) (g:Nat) (cs:Array Value):(w.setRow g cs).heap.size=w.heap.size:=by simp [World.setRow]
theorem zD (B:Nat) (w:World) (g:Nat) (cs:Array Value) (h:B≤g):Below B w (w.setRow g cs) :=
 ⟨rfl,rfl,rfl,by rw [setRow_size];exact aA _,fun k hk=>setRow_other w g k cs ak⟩
theorem ji.setObj {c:Cx} {w w':World} {S:Mem} (h:ji c w S) {i b:Nat} (hi:c.ρ[i]? = some b) (o:Obj) (vs:List V) (hv:v8 c w o vs) (nV:w'.heap[b]? = some o) (WY:∀ k,k ≠ b→w'.heap[k]? = w.heap[k]?) (jS:w'.heap.size=w.heap.size) (hb:Below c.B w w')
 (jU:∀ T,oA w b T→oA w' b T):ji c w' { S with boxes:=S.boxes.set i vs }∧Ext c w c w':=by
 obtain ⟨hBb,o0,hh0,vs0,f1,f2⟩:=h.box i b hi
 have hk:oH c w c w':=⟨fun g k v hm hv=>⟨hm,by rw [World.cell?_of_block (a:=⟨g,k,none⟩) (WY g (fun (e:g=b)=>hm (.inl (.inr (ql.2 ⟨i,by rw [e];exact hi⟩)))))];exact hv⟩,fun _ _ h=>h,fun _ i h=>⟨i,h,rfl,aA _,fun _=>rfl⟩,rfl,fun g T hT=>by
  by_cases e:g=b
  ·subst e;exact jU T hT
  ·exact hT.uu (WY g e)⟩
 refine ⟨⟨⟨h.hB.1,by rw [jS];exact h.hB.2⟩,by simp [h.len],fun i' b' rE=>?_,h.inj,h.dG,fun t i ht=>?_,h.yL,fun w' WW=>h.inv w' (hb.trans WW)⟩,hk,rfl,rfl,rfl,hb⟩
 ·obtain ⟨a,o1,WZ,ZN,e1,e2⟩:=h.box i' b' rE
  by_cases gW:i' = i
  ·subst gW;rw [hi] at rE;obtain rfl:=ag rE;refine ⟨a,o,nV,vs,?_,hv.jC hk⟩;show (S.boxes.set i' vs)[i']? = some vs;rw [aC (ai.1 f1).1]
  ·have Jx:b' ≠ b:=fun e=>gW (h.inj i' i b (e ▸ rE) hi);refine ⟨a,o1,by rw [WY _ Jx];exact WZ,ZN,?_,e2.jC hk⟩;show (S.boxes.set i vs)[i']? = some ZN;rw [aj (fun e=>gW e.symm)];exact e1
 ·obtain ⟨a1,a2,a3,a4,a5⟩:=h.tok t i ht;refine ⟨a1,a2,a3,a4,fun hn g off ha=>?_⟩;obtain ⟨b1,b2,cur,T,fz,hh,r⟩:=a5 hn g off ha;refine ⟨b1,b2,cur,T,fz,?_,r⟩;rw [WY _ (fun (e:g=b)=>b2 (ql.2 ⟨_,by rw [e];exact hi⟩))];exact hh
theorem ji.SR {c:Cx} {w:World} {S:Mem} (h:ji c w S) {i b:Nat} (hi:c.ρ[i]? = some b) (hT:∃ T,oA w b T) (cs:Array Value) (vs:List V) (jS:cs.size=vs.length) (hv:∀ j (h:j < vs.length),VR c w vs[j] (cs.getD j undef)∧(cs.getD j undef).oneCell' = true) :
 ji c (w.setRow b cs) { S with boxes:=S.boxes.set i vs }∧Ext c w c (w.setRow b cs):=by
 obtain ⟨hBb,o0,hh0,vs0,f1,f2⟩:=h.box i b hi;obtain ⟨cs0,T0,hh,_⟩:=f2.OB hh0 hT;exact h.setObj hi _ vs (.cells cs T0 vs jS hv) (setRow_heap w b cs0 cs T0 _ hh) (fun k hk=>setRow_other w b k cs hk) (setRow_size _ _ _) (zD _ _ _ _ hBb) (fun T h=>h.setRow b cs)
theorem OD {j q sz:Nat} (hq:q < sz):(j * sz+q) / sz=j∧(j * sz+q) % sz=q:=by
 have hs:0 < sz:=ak;rw [nD];exact ⟨by rw [Nat.mul_add_div hs,Nat.div_eq_of_lt hq];omega,by rw [Nat.mul_add_mod,Nat.mod_eq_of_lt hq]⟩
theorem Mv {j n q sz:Nat} (hj:j < n) (hq:q < sz):j * sz+q < n * sz:=by
 have:=cD sz (show j+1≤n by omega);rw [ej] at this;omega
theorem DR.flat {M:Nat→Nat→Prop} {w:World} {rows:List (List D)} {a:Option Addr} {n cap:Nat} (h:DR M w (.sl rows) (.slice a n cap)) (sz:Nat) (jS:∀ r∈rows,r.length=sz) :
 n=rows.length∧n≤cap∧cap≤9223372036854775807∧∃ F:Nat→Value,(rows ≠ []→0 < sz∧∃ g off,a=some ⟨g,off,none⟩∧∀ k,k < rows.length * sz→¬ M g (off+k)∧w.cell? ⟨g,off+k,none⟩=some (F k)) ∧
  ∀ j (h:j < rows.length) q (hq:q < (rows[j]).length),DR M w (rows[j])[q] (F (j * sz+q)):=by
 cases h with
 | sl _ ZO _ _ f h0 hr hc hm hs hd =>
  refine ⟨rfl,hc,hm,fun k=>f (k / sz) (k % sz),fun gW=>?_,fun j hj q hq=>?_⟩
  ·obtain ⟨r,l,rfl⟩:=ni gW;have e:ZO=sz:=by rw [← hr r dM,jS r dM]
   subst e;obtain ⟨g,off,ha,qW⟩:=hs gW;refine ⟨h0,g,off,ha,fun k hk=>?_⟩;have hj:k / ZO < (r :: l).length:=qZ (by rw [nD];exact hk);have hq:k % ZO < ((r :: l)[k / ZO]).length:=by rw [jS _ (aH hj)];exact qm _ h0
   have:=qW _ hj _ hq;rw [fD,show k / ZO * ZO+k % ZO=k by rw [nD];exact vC k ZO] at this;exact this
  ·have Ht:q < sz:=by rw [← jS _ (aH hj)];exact hq
   simp only [(OD Ht).1,(OD Ht).2];exact hd j hj q hq
theorem DR.of_flat {M:Nat→Nat→Prop} {w:World} (rows:List (List D)) (sz:Nat) (h0:0 < sz) (jS:∀ r∈rows,r.length=sz) (a:Option Addr) (cap:Nat) (hc:rows.length≤cap) (hm:cap≤9223372036854775807) (F:Nat→Value)
 (hs:rows ≠ []→∃ g off,a=some ⟨g,off,none⟩∧∀ k,k < rows.length * sz→¬ M g (off+k)∧w.cell? ⟨g,off+k,none⟩=some (F k))
 (hd:∀ j (h:j < rows.length) q (hq:q < (rows[j]).length),DR M w (rows[j])[q] (F (j * sz+q))):DR M w (.sl rows) (.slice a rows.length cap):=by
 refine .sl rows sz a cap (fun j q=>F (j * sz+q)) h0 jS hc hm (fun gW=>?_) hd;obtain ⟨g,off,ha,qW⟩:=hs gW;refine ⟨g,off,ha,fun j hj q hq=>?_⟩;have Ht:q < sz:=by rw [← jS _ (aH hj)];exact hq
 have:=qW (j * sz+q) (Mv hj Ht);rw [← fD] at this;exact this
theorem qn {P:Program} {M:Nat→Nat→Prop} {w:World} {rows:List (List D)} {a:Option Addr} {n cap sz:Nat} {F:Nat→Value} (hn:n=rows.length)
 (hs:rows ≠ []→0 < sz∧∃ g off,a=some ⟨g,off,none⟩∧∀ k,k < rows.length * sz→¬ M g (off+k)∧w.cell? ⟨g,off+k,none⟩=some (F k)) (W:World) (hW:W.heap=w.heap) :
 (Builtin.firstCells sz n (.slice a n cap)).run P W = .ok ((List.range (n * sz)).map F).toArray W:=by
 subst hn
 by_cases he:rows=[]
 ·subst he;cases a with
  | none=>simp [Builtin.firstCells]
  | some p =>
   have:=run_firstCells_some (P:=P) W sz 0 p 0 cap [] dM (fun j v hv=>by simp at hv)
   simpa using this
 ·obtain ⟨h0,g,off,rfl,qW⟩:=hs he;refine run_firstCells_some (P:=P) W sz rows.length ⟨g,off,none⟩ rows.length cap ((List.range (rows.length * sz)).map F) dM (fun j v hv=>?_);rw [Addr.add_plain]
  have hj:j < rows.length * sz:=by
   have:=(ai.1 hv).1
   simpa using this
  rw [aL,nO hj] at hv;obtain rfl:=ag hv;have:=(qW j hj).2
  simpa [World.cell?,hW] using this
theorem nW {α:Type} {l:List α} {x y:α} {t:Nat} (h:(l++[x])[t]? = some y):l[t]? = some y∨(t=l.length∧y=x):=by
 rcases ct t l.length with h' | h'
 ·left;rwa [bk h'] at h
 ·right;rw [aN h'] at h
  have:t - l.length=0:=by
   have:=(ai.1 h).1;simp at this;omega
  rw [this] at h;simp at h;exact ⟨ak,h.symm⟩
theorem zF {α:Type} {l:List α} {x y:α} {t:Nat} (h:l[t]? = some y):(l++[x])[t]? = some y:=by
 rw [bk (ai.1 h).1];exact h
theorem ji.token {c:Cx} {w:World} {S:Mem} (h:ji c w S) {rows:List (List D)} {v:Value} (hv:VR c w (.sl rows .full) v) (sz:Nat) (h0:0 < sz) (jS:∀ r∈rows,r.length=sz) :
 ∃ c',ji c' w { S with dG:=S.dG++[(rows.length,sz)] }∧Ext c w c' w∧VR c' w (.sl rows (.own S.dG.length)) v:=by
 cases hv with
 | full _ a hd ha =>
  let i:TI:=⟨a.map fun p=>(p.block,p.off),rows.length,rows.length,sz⟩
  let c':Cx:={ c with τ:=c.τ++[i] }
  have hM:∀ g k,c'.M g k↔c.M g k:=by
   intro g k;constructor
   ·rintro (h' | ⟨t,j,off,ht,e1,e2,e3⟩)
    ·exact .inl h'
    ·rcases nW ht with ht | ⟨_,rfl⟩
     ·exact .inr ⟨t,j,off,ht,e1,e2,e3⟩
     ·exact absurd e3 (by simp only [i] at e2 ⊢;omega)
   ·rintro (h' | ⟨t,j,off,ht,e⟩)
    ·exact .inl h'
    ·exact .inr ⟨t,j,off,zF ht,e⟩
  have hk:oH c w c' w:=⟨fun g k v hm hv=>⟨fun h'=>hm ((hM g k).1 h'),hv⟩,fun _ _ h=>h,fun t j h=>⟨j,zF h,rfl,aA _,fun _=>rfl⟩,rfl,fun _ _ h=>h⟩;have yM:rows.length≤9223372036854775807:=(hd.flat sz jS).2.2.1;refine ⟨c',⟨h.hB,h.len,fun i b hi=>?_,h.inj,by simp [c',h.dG,i],fun t j ht=>?_,fun t t' j j' g off Bq ht nX a1 a2 a3 a4=>?_,h.inv⟩,⟨hk,rfl,rfl,rfl,.refl _ _⟩,?_⟩
  ·obtain ⟨a,o1,WZ,ZN,e1,e2⟩:=h.box i b hi;exact ⟨a,o1,WZ,ZN,e1,e2.jC hk⟩
  ·rcases nW ht with ht | ⟨_,rfl⟩
   ·exact h.tok t j ht
   ·refine ⟨aA _,yM,h0,fun e=>?_,fun bu=>absurd bu (nY _)⟩;have e0:a=none:=by simpa [i] using e
    subst e0
    by_cases hr:rows=[]
    ·subst hr;rfl
    ·obtain ⟨_,_,_,F,hs,_⟩:=hd.flat sz jS;obtain ⟨_,g,off,e,_⟩:=hs hr;cases e
  ·rcases nW ht with ht | ⟨_,rfl⟩
   ·rcases nW nX with nX | ⟨_,rfl⟩
    ·exact h.yL t t' j j' g off Bq ht nX a1 a2 a3 a4
    ·exact absurd a4 (nY _)
   ·exact absurd a3 (nY _)
  ·have hlen:S.dG.length=c.τ.length:=by rw [h.dG];simp
   refine .own rows _ a rows.length i (hd.jC hk) (by rw [hlen];exact List.getElem?_concat_length) jS (aA _) (fun _=>⟨rfl,?_⟩);cases a with
   | none=>rfl
   | some p =>
    obtain ⟨b,o,s⟩:=p;have:s=none:=(ha ⟨b,o,s⟩ rfl).1;subst this;rfl
theorem rX {α:Type} {l:List α} {x y z:α} {t t':Nat} (h:l[t]? = some z) (h':(l.set t x)[t']? = some y):(t' = t∧y=x)∨(t' ≠ t∧l[t']? = some y):=by
 by_cases e:t' = t
 ·subst e;rw [aC (ai.1 h).1] at h';exact .inl ⟨rfl,(ag h').symm⟩
 ·rw [aj (fun h=>e h.symm)] at h';exact .inr ⟨e,h'⟩
theorem zG {α:Type} {l:List α} {x z:α} {t:Nat} (h:l[t]? = some z):(l.set t x)[t]? = some x:=aC (ai.1 h).1
theorem DA {α:Type} {l:List α} {x y:α} {t t':Nat} (e:t' ≠ t) (h:l[t']? = some y):(l.set t x)[t']? = some y:=by
 rw [aj (fun h=>e h.symm)];exact h
theorem JM {α β:Type} (f:α→β) (l:List α) (t:Nat) (x:α):(l.set t x).map f=(l.map f).set t (f x):=by
 rw [List.map_set]
section
variable {P:Program}
structure Dx (P:Program) (t e sz bytes:Nat):Prop where
 under:P.underlying t=some (.slice e)
 info:∃ i z,P.info? e=some i∧i.zero=some z∧i.size=sz∧i.bytes=bytes∧z.cells.size=sz
theorem zH {w:World} {t u ty e sz bytes:Nat} (T:Dx P t e sz bytes) (hu:∃ d,P.underlying u=some d∧∀ k,d ≠ .int k) (a:Option Addr) (n cap:Nat) (hn:n≤cap) (x:Value)
 (hlen:∀ W,(Builtin.lenOf x).run P W = .ok 0 W) (mE:∀ W:World,W.heap=w.heap→(Builtin.firstCells sz 0 x).run P W = .ok #[] W) :
 (Builtin.append_ #[t,u] ty #[.slice a n cap,x]).run P w = .ok (.slice a n cap) w:=by
 obtain ⟨i,z,hi,hz,rfl,rfl,Mw⟩:=T.info;obtain ⟨d,hud,hdi⟩:=hu;have hfw:=mE w rfl;cases a with
 | none=>simp [Builtin.append_,run_underlying T.under,run_underlying hud,sizeOf,typeInfo,hi,hlen,hfw,hn]
 | some p=>simp [Builtin.append_,run_underlying T.under,run_underlying hud,sizeOf,typeInfo,hi,hlen,hfw,hn,storeCells]
theorem DB {w w':World} {t u ty e sz bytes:Nat} (T:Dx P t e sz bytes) (hu:∃ d,P.underlying u=some d∧∀ k,d ≠ .int k) (g off n cap m:Nat) (rR:n+m≤cap) (x:Value) (news:List Value)
 (hlen:∀ W,(Builtin.lenOf x).run P W = .ok m W) (mE:∀ W:World,W.heap=w.heap→(Builtin.firstCells sz m x).run P W = .ok news.toArray W)
 (kz:(storeCells ⟨g,off+n * sz,none⟩ news).run P w = .ok () w') :
 (Builtin.append_ #[t,u] ty #[.slice (some ⟨g,off,none⟩) n cap,x]).run P w = .ok (.slice (some ⟨g,off,none⟩) (n+m) cap) w':=by
 obtain ⟨i,z,hi,hz,rfl,rfl,Mw⟩:=T.info;obtain ⟨d,hud,hdi⟩:=hu;have hfw:=mE w rfl;simp [Builtin.append_,run_underlying T.under,run_underlying hud,sizeOf,typeInfo,hi,hlen,rR,hfw,Addr.add_plain,kz]
def sG (w:World) (e n m cap:Nat) (xs news:List Value) (z:Value):World :=
 w.drew.alloc (.cells (xs.toArray++news.toArray++Builtin.zeroCells z.cells (grownCap w (n+m) cap e - (n+m))) e)
theorem uW {w:World} {t u ty e sz bytes:Nat} (T:Dx P t e sz bytes) (hu:∃ d,P.underlying u=some d∧∀ k,d ≠ .int k) (a:Option Addr) (n cap m:Nat) (rR:¬ n+m≤cap) (x:Value) (xs news:List Value)
 (hlen:∀ W,(Builtin.lenOf x).run P W = .ok m W) (mE:∀ W:World,W.heap=w.heap→(Builtin.firstCells sz m x).run P W = .ok news.toArray W)
 (hold:∀ W:World,W.heap=w.heap→(Builtin.firstCells sz n (.slice a n cap)).run P W = .ok xs.toArray W)
 (h63:n+m≤9223372036854775807) (DC:(n+m) * bytes≤140737488355328) :
 ∃ (i:TypeInfo) (z:Value),P.info? e=some i∧i.zero=some z∧z.cells.size=sz∧(Builtin.append_ #[t,u] ty #[.slice a n cap,x]).run P w = .ok (.slice (some ⟨w.heap.size,0,none⟩) (n+m) (grownCap w (n+m) cap e)) (sG w e n m cap xs news z):=by
 obtain ⟨i,z,hi,hz,rfl,rfl,Mw⟩:=T.info;obtain ⟨d,hud,hdi⟩:=hu;refine ⟨i,z,hi,hz,Mw,?_⟩;have hfd:=mE w.drew rfl;have hfo:=hold w.drew rfl;have h48:=growslice_fits (need:=n+m) (old:=cap) (bytes:=i.bytes) ak DC;have aic:¬ (9223372036854775807 < ((n:Int)+(m:Int))):=ak;have aid:¬ (281474976710656 < Builtin.nextslicecap (n+m) cap * i.bytes):=ak;simp [Builtin.append_,run_underlying T.under,run_underlying hud,sizeOf,typeInfo,zeroValue,hi,hz,hlen,rR,aic,aid,Question.forced,hfo,hfd,newRow,grownCap,sG]
 congr 2
 apply Array.ext';simp [aE]
end
theorem DR.append {M:Nat→Nat→Prop} {w:World} (rows bU:List (List D)) (sz:Nat) (h0:0 < sz) (h1:∀ r∈rows,r.length=sz) (h2:∀ r∈bU,r.length=sz) (g off cap:Nat) (hc:rows.length+bU.length≤cap) (hm:cap≤9223372036854775807) (F G:Nat→Value)
 (hs:∀ k,k < rows.length * sz→¬ M g (off+k)∧w.cell? ⟨g,off+k,none⟩=some (F k))
 (hn:∀ k,k < bU.length * sz→¬ M g (off+rows.length * sz+k)∧w.cell? ⟨g,off+rows.length * sz+k,none⟩=some (G k))
 (hd:∀ j (h:j < rows.length) q (hq:q < (rows[j]).length),DR M w (rows[j])[q] (F (j * sz+q)))
 (he:∀ j (h:j < bU.length) q (hq:q < (bU[j]).length),DR M w (bU[j])[q] (G (j * sz+q))):DR M w (.sl (rows++bU)) (.slice (some ⟨g,off,none⟩) (rows.length+bU.length) cap):=by
 rw [← av];refine DR.of_flat (rows++bU) sz h0 (fun r hr=>?_) _ cap (by simpa using hc) hm (fun k=>if k < rows.length * sz then F k else G (k - rows.length * sz)) (fun _=>⟨g,off,rfl,fun k hk=>?_⟩) (fun j hj q hq=>?_)
 ·rcases dA.1 hr with h | h
  ·exact h1 r h
  ·exact h2 r h
 ·by_cases bu:k < rows.length * sz
  ·simp only [aD bu];exact hs k bu
  ·simp only [aq bu];have:=hn (k - rows.length * sz) (by rw [av,ej] at hk;omega);rw [show off+rows.length * sz+(k - rows.length * sz)=off+k by omega] at this;exact this
 ·by_cases bu:j < rows.length
  ·have hg:(rows++bU)[j]=rows[j]:=cA bu;have Ht:q < sz:=by rw [hg,h1 _ (aH bu)] at hq;exact hq
   simp only [aD (Mv bu Ht)];have:=hd j bu q (by rw [hg] at hq;exact hq);simp only [hg];exact this
  ·have dY:j - rows.length < bU.length:=by rw [av] at hj;omega
   have hg:(rows++bU)[j]=bU[j - rows.length]:=dZ ak;have Ht:q < sz:=by rw [hg,h2 _ (aH dY)] at hq;exact hq
   have nU:rows.length * sz≤j * sz:=cD sz ak;simp only [aq (show ¬ j * sz+q < rows.length * sz by omega)];have:=he (j - rows.length) dY q (by rw [hg] at hq;exact hq);rw [show (j - rows.length) * sz+q=j * sz+q - rows.length * sz by rw [Nat.sub_mul];omega] at this;simp only [hg];exact this
def aie (B:Nat) (w':World) (e m:Nat) (v v':Value):Prop:=∀ a n cap,v = .slice a n cap→∃ a' gF,v' = .slice a' (n+m) gF∧((a' = a∧gF=cap)∨∃ g,a' = some ⟨g,0,none⟩∧B≤g∧oA w' g e)
theorem ji.aif {P:Program} {c:Cx} {w:World} {S:Mem} (h:ji c w S) {rows bU:List (List D)} {t sz bytes ts us ty e:Nat} {v x:Value} (hv:VR c w (.sl rows (.own t)) v) (ht:S.dG[t]? = some (rows.length,sz)) (T:Dx P ts e sz bytes) (hu:∃ d,P.underlying us=some d∧∀ k,d ≠ .int k)
 (hnr:∀ r∈bU,r.length=sz) (F:Nat→Value) (hlen:∀ W,(Builtin.lenOf x).run P W = .ok bU.length W)
 (mE:∀ W:World,W.heap=w.heap→(Builtin.firstCells sz bU.length x).run P W = .ok ((List.range (bU.length * sz)).map F).toArray W)
 (hd:∀ j (h:j < bU.length) q (hq:q < (bU[j]).length),DR c.M w (bU[j])[q] (F (j * sz+q)))
 (DC:(rows.length+bU.length) * bytes≤140737488355328) (tV:1≤bytes) :
 ∃ v' w' c',(Builtin.append_ #[ts,us] ty #[v,x]).run P w = .ok v' w'∧ji c' w' { S with dG:=S.dG.set t (rows.length+bU.length,sz) }∧Ext c w c' w'∧VR c' w' (.sl (rows++bU) (.own t)) v'∧aie c.B w' e bU.length v v':=by
 cases hv with
 | own _ _ a cap i JN o9 hr hn hl =>
  have aem:S.dG[t]? = some (i.n,i.sz):=by rw [h.dG,aL,o9];rfl
  rw [ht] at aem;obtain ⟨e1,e2⟩:=aR (ag aem);obtain ⟨gh,ha⟩:=hl e1;obtain ⟨t1,t2,t3,t4,t5⟩:=h.tok t i o9;subst gh;have W0:0 < sz:=ak;rw [← e2] at hr;obtain ⟨_,_,akM,F0,SS,Bs⟩:=JN.flat sz hr;have hmul:rows.length+bU.length≤(rows.length+bU.length) * bytes:=uv _ ak
  by_cases hz:bU=[]
  ·subst hz
   refine ⟨_,w,c,zH T hu a rows.length i.cap ak x hlen (by simpa using mE),?_,.refl _ _,?_,fun a0 n0 c0 h0=>by
    obtain ⟨rfl,rfl,rfl⟩:=Value.slice.inj h0;exact ⟨_,_,rfl,.inl ⟨rfl,rfl⟩⟩⟩
   ·have:S.dG.set t (rows.length+([]:List (List D)).length,sz)=S.dG:=by
     apply fW;intro k
     by_cases hk:k=t
     ·subst hk;rw [zG ht,ht];rfl
     ·rw [aj (fun e=>hk e.symm)]
    rw [this];exact h
   ·rw [aQ];exact .own rows t a i.cap i JN o9 (by rw [← e2];exact hr) hn hl
  ·have hm0:0 < bU.length:=jZ.2 hz;have amq:0 < bU.length * sz:=Nat.mul_pos hm0 W0
   by_cases rR:rows.length+bU.length≤i.cap
   ·have bu:i.n < i.cap:=ak;cases v9:i.addr with
    | none=>have:=t4 v9;omega
    | some p =>
     obtain ⟨g,off⟩:=p;rw [v9] at ha;simp only [cJ] at ha;subst ha;obtain ⟨hBg,aaZ,cur,T0,fz,hh,FD,hfz⟩:=t5 bu g off v9;have aa0:(rows.length+bU.length) * sz≤i.cap * sz:=cD sz rR;rw [ej] at aa0;rw [← e2] at FD hfz
     have kz:=qV (P:=P) g (off+rows.length * sz) T0 fz ((List.range (bU.length * sz)).map F) 0 cur w hh fk fk (by
      intro u hu;obtain ⟨k,hk,rfl⟩:=eu.1 hu;have Mf:k < bU.length * sz:=by simpa using hk
      have hj:k / sz < bU.length:=qZ (by rw [nD];exact Mf);have hq:k % sz < (bU[k / sz]).length:=by rw [hnr _ (aH hj)];exact qm _ W0
      have:=(hd _ hj _ hq).one;rw [show k / sz * sz+k % sz=k by rw [nD];exact vC k sz] at this;exact this)
     have eI:=DB (ty:=ty) T hu g off rows.length i.cap bU.length rR x _ hlen mE kz;generalize nV:(cur.toList.take (off+rows.length * sz+0)++(List.range (bU.length * sz)).map F++cur.toList.drop (off+rows.length * sz+0+((List.range (bU.length * sz)).map F).length)).toArray=Bt at kz eI
     let i':TI:={ i with n:=rows.length+bU.length }
     let c':Cx:={ c with τ:=c.τ.set t i' }
     have we:Bt.size=cur.size:=by rw [← nV];simp;omega
     have l8:∀ k,k < off+rows.length * sz∨off+(rows.length+bU.length) * sz≤k→Bt[k]? = cur[k]?:=by
      intro k hk;rw [← nV];rw [ej] at hk;simp only [mT,aE,gZ,aS,lu];rcases hk with hk | hk
      ·rw [bk fk,bp,aD hk,mU]
      ·rw [aN fk,aN fk,dS,mU]
       congr 1
       simp;omega
     have aa1:∀ k,k < bU.length * sz→Bt[off+rows.length * sz+k]? = some (F k):=by
      intro k hk;rw [← nV];simp only [mT,aE,gZ];rw [aN fk,bk fk,aL,nO fk];simp;congr 1;omega
     have JO:∀ q,(w.setRow g Bt).cell? ⟨g,q,none⟩=Bt[q]?:=by
      intro q;simp [World.cell?,setRow_heap w g cur Bt T0 fz hh]
     have SU:∀ q,w.cell? ⟨g,q,none⟩=cur[q]?:=by
      intro q;simp [World.cell?,hh]
     have hMM:∀ b k,c'.M b k→c.M b k:=by
      rintro b k (h' | ⟨t',j,o,nX,a1,a2,a3⟩)
      ·exact .inl h'
      ·rcases rX o9 nX with ⟨rfl,rfl⟩ | ⟨_,nX⟩
       ·refine .inr ⟨t',i,o,o9,a1,?_,a3⟩;have:i.n * i.sz≤i'.n * i.sz:=cD _ (by show i.n≤rows.length+bU.length;omega);have a2':o+i'.n * i.sz≤k:=a2;omega
       ·exact .inr ⟨t',j,o,nX,a1,a2,a3⟩
     have hk:oH c w c' (w.setRow g Bt):=by
      refine ⟨fun b k u hm hu=>⟨fun h'=>hm (hMM b k h'),?_⟩,fun _ _ h=>h,fun t' j hj=>?_,rfl,fun _ _ h=>h.setRow g Bt⟩
      ·by_cases hb:b=g
       ·subst hb;rw [JO,l8 k ?_,← SU]
        ·exact hu
        ·rcases ct k (off+rows.length * sz) with h1 | h1
         ·exact .inl h1
         ·rcases ct k (off+(rows.length+bU.length) * sz) with h2 | h2
          ·refine absurd (Or.inr ⟨t,i,off,o9,v9,?_,?_⟩) hm
           ·rw [← e1,← e2];exact h1
           ·rw [← e2];rw [ej] at h2;omega
          ·exact .inr h2
       ·rw [JL _ _ _ hb];exact hu
      ·by_cases gW:t' = t
       ·subst gW;rw [o9] at hj;obtain rfl:=ag hj;exact ⟨i',zG o9,rfl,by show i.n≤rows.length+bU.length;omega,fun e=>absurd e (by show rows.length+bU.length ≠ i.n;omega)⟩
       ·exact ⟨j,DA gW hj,rfl,aA _,fun _=>rfl⟩
     have Hu:Below c.B w (w.setRow g Bt):=zD _ _ _ _ hBg
     refine ⟨_,_,c',eI,⟨⟨h.hB.1,by rw [setRow_size];exact h.hB.2⟩,h.len,fun i2 b hi=>?_,h.inj,?_,fun t' j hj=>?_,fun t' t'' j j' b o o' hj jT a1 a2 a3 a4=>?_,fun w' WW=>h.inv w' (Hu.trans WW)⟩,⟨hk,rfl,rfl,rfl,Hu⟩,?_,fun a0 n0 c0 h0=>by
      obtain ⟨rfl,rfl,rfl⟩:=Value.slice.inj h0;exact ⟨_,_,rfl,.inl ⟨rfl,rfl⟩⟩⟩
     ·obtain ⟨a,o1,WZ,ZN,f1,f2⟩:=h.box i2 b hi;refine ⟨a,o1,?_,ZN,f1,f2.jC hk⟩;rw [setRow_other _ _ _ _ (fun (e:b=g)=>aaZ (ql.2 ⟨_,by rw [← e];exact hi⟩))];exact WZ
     ·show S.dG.set t _=(c.τ.set t i').map _;rw [JM,h.dG];show _=List.set _ t (rows.length+bU.length,i.sz);rw [e2]
     ·rcases rX o9 hj with ⟨rfl,rfl⟩ | ⟨gW,hj⟩
      ·refine ⟨rR,t2,t3,t4,fun rY g2 o2 W1=>?_⟩;have:some (g2,o2)=some (g,off):=by rw [← v9];exact W1.symm
       obtain ⟨rfl,rfl⟩:=aR (ag this);exact ⟨hBg,aaZ,Bt,T0,fz,setRow_heap w g2 cur Bt T0 fz hh,by rw [we,← e2];exact FD,by rw [← e2];exact hfz⟩
      ·obtain ⟨u1,u2,u3,u4,u5⟩:=h.tok t' j hj;refine ⟨u1,u2,u3,u4,fun rY g2 o2 W1=>?_⟩;obtain ⟨x1,x2,aa3,T2,fz2,hh2,x3⟩:=u5 rY g2 o2 W1;refine ⟨x1,x2,aa3,T2,fz2,?_,x3⟩;rw [setRow_other _ _ _ _ (fun (e:g2=g)=>gW (h.yL t' t j i g o2 off hj o9 (by rw [← e];exact W1) v9 rY bu))];exact hh2
     ·have q1:∀ {t':Nat} {j:TI},(c.τ.set t i')[t']? = some j→j.n < j.cap→∃ j0,c.τ[t']? = some j0∧j0.addr=j.addr∧j0.n < j0.cap:=by
       intro t' j hj rY;rcases rX o9 hj with ⟨rfl,rfl⟩ | ⟨_,hj⟩
       ·exact ⟨i,o9,rfl,bu⟩
       ·exact ⟨j,hj,rfl,rY⟩
      obtain ⟨j0,r1,r2,r3⟩:=q1 hj a3;obtain ⟨j1,s1,s2,s3⟩:=q1 jT a4;exact h.yL t' t'' j0 j1 b o o' r1 s1 (r2.trans a1) (s2.trans a2) r3 s3
     ·have hold:rows ≠ []→∀ k,k < rows.length * sz→¬ c.M g (off+k)∧w.cell? ⟨g,off+k,none⟩=some (F0 k):=by
       intro gW k hk;obtain ⟨_,g',Bq,e,qW⟩:=SS gW;obtain ⟨rfl,rfl,_⟩:=Addr.mk.inj (ag e);exact qW k hk
      have hDR:DR c'.M (w.setRow g Bt) (.sl (rows++bU)) (.slice (some ⟨g,off,none⟩) (rows.length+bU.length) i.cap):=by
       refine DR.append rows bU sz W0 hr hnr g off i.cap rR t2 F0 F (fun k Wk=>?_) (fun k Wk=>⟨?_,?_⟩) (fun j hj q hq=>(Bs j hj q hq).jC hk) (fun j hj q hq=>(hd j hj q hq).jC hk)
       ·have gW:rows ≠ []:=by rintro rfl;simp at Wk
        obtain ⟨x1,x2⟩:=hold gW k Wk;exact hk.cell _ _ _ x1 x2
       ·rintro ((h' | h') | ⟨t',j,o,nX,a1,a2,a3⟩)
        ·have:=(c.hX _ _ h').2;omega
        ·exact aaZ h'
        ·rcases rX o9 nX with ⟨rfl,rfl⟩ | ⟨gW,nX⟩
         ·have:some (g,o)=some (g,off):=by rw [← v9];exact a1.symm
          obtain ⟨_,rfl⟩:=aR (ag this);have a2':o+(rows.length+bU.length) * i.sz≤o+rows.length * sz+k:=a2;rw [← e2,ej] at a2';omega
         ·have:j.n < j.cap:=by
           rcases ct j.n j.cap with h' | h'
           ·exact h'
           ·have:=cD j.sz h';omega
          exact gW (h.yL t' t j i g o off nX o9 a1 v9 this bu)
       ·rw [JO,aa1 k Wk]
      have:=VR.own (c:=c') (w:=w.setRow g Bt) (rows++bU) t (some ⟨g,off,none⟩) i.cap i' (by rw [av];exact hDR) (zG o9) (fun r ZP=>by
       show r.length=i.sz;rw [← e2];rcases dA.1 ZP with h | h
       ·exact hr r h
       ·exact hnr r h) (by rw [av];exact aA _) (fun _=>⟨rfl,by show _=i.addr.map _;rw [v9];rfl⟩)
      rw [av] at this;exact this
   ·obtain ⟨_,z,_,_,Mw,eI⟩:=uW (P:=P) (w:=w) (ty:=ty) T hu a rows.length i.cap bU.length rR x ((List.range (rows.length * sz)).map F0) ((List.range (bU.length * sz)).map F) hlen mE
     (fun W hW=>qn rfl SS W hW) ak DC
    have nU:=grownCap_ge w (rows.length+bU.length) i.cap e;have DD:grownCap w (rows.length+bU.length) i.cap e≤9223372036854775807:=grownCap_le_maxLen w (rows.length+bU.length) i.cap e (by unfold maxLen;omega);unfold sG at eI;generalize grownCap w (rows.length+bU.length) i.cap e=gF at eI nU DD;generalize Mx:((List.range (rows.length * sz)).map F0).toArray++((List.range (bU.length * sz)).map F).toArray++Builtin.zeroCells z.cells (gF - (rows.length+bU.length))=arr at eI
    have vD:arr.size=gF * sz:=by
     rw [← Mx];simp only [Array.size_append,pe,aS,lu,size_zeroCells,Mw,← ej]
     congr 1;omega
    have aik:(rows.length+bU.length) * sz≤gF * sz:=cD sz nU
    have OE:∀ k,k < rows.length * sz→arr[k]? = some (F0 k):=by
     intro k hk;rw [← Mx,Array.getElem?_append_left fk,Array.getElem?_append_left (by simpa using hk)];simp only [mT,aL,nO hk,cJ]
    have FF:∀ k,k < bU.length * sz→arr[rows.length * sz+k]? = some (F k):=by
     intro k hk;rw [← Mx,Array.getElem?_append_left fk,Array.getElem?_append_right dM];simp only [pe,aS,lu,jL,mT,aL,nO hk,cJ]
    let i':TI:=⟨some (w.heap.size,0),gF,rows.length+bU.length,i.sz⟩
    let c':Cx:={ c with τ:=c.τ.set t i' }
    let w':World:=w.drew.alloc (.cells arr e)
    have SV:w'.heap[w.heap.size]? = some (.cells arr e (0,0)):=heap_alloc_new w.drew _;have OF:∀ b,b < w.heap.size→w'.heap[b]? = w.heap[b]?:=fun b hb=>Below.heap_alloc w.drew _ b hb;have Hu:Below c.B w w':=((Below.refl _ _).drew).alloc h.hB.2 _
    have hMM:∀ b k,b < w.heap.size→c'.M b k→c.M b k:=by
     rintro b k hb (h' | ⟨t',j,o,nX,a1,a2,a3⟩)
     ·exact .inl h'
     ·rcases rX o9 nX with ⟨rfl,rfl⟩ | ⟨_,nX⟩
      ·have:some (w.heap.size,0)=some (b,o):=a1;obtain ⟨rfl,_⟩:=aR (ag this);omega
      ·exact .inr ⟨t',j,o,nX,a1,a2,a3⟩
    have hk:oH c w c' w':=by
     refine ⟨fun b k u hm hu=>⟨fun h'=>hm (hMM b k (xm hu) h'),?_⟩,fun _ _ h=>h,fun t' j hj=>?_,rfl,fun b _ h=>h.uu (OF b h.lt)⟩
     ·have:=World.cell?_of_block (w:=w) (w':=w') (a:=⟨b,k,none⟩) (OF b (xm hu));rw [this];exact hu
     ·by_cases gW:t' = t
      ·subst gW;rw [o9] at hj;obtain rfl:=ag hj;exact ⟨i',zG o9,rfl,by show i.n≤rows.length+bU.length;omega,fun e=>absurd e (by show rows.length+bU.length ≠ i.n;omega)⟩
      ·exact ⟨j,DA gW hj,rfl,aA _,fun _=>rfl⟩
    have Jy:∀ (t':Nat) (j:TI) (g o:Nat),c.τ[t']? = some j→j.addr=some (g,o)→j.n < j.cap→g < w.heap.size:=by
     intro t' j g o hj ha bu;obtain ⟨_,_,cur,T0,fz,hh,_⟩:=(h.tok t' j hj).2.2.2.2 bu g o ha;exact (bD.1 hh).1
    refine ⟨_,w',c',eI,⟨⟨h.hB.1,iT h.hB.2 Hu.size⟩,h.len,fun i2 b hi=>?_,h.inj,?_,fun t' j hj=>?_,fun t' t'' j j' b o o' hj jT a1 a2 a3 a4=>?_,fun w2 WW=>h.inv w2 (Hu.trans WW)⟩,⟨hk,rfl,rfl,rfl,Hu⟩,?_,fun a0 n0 c0 h0=>by
     obtain ⟨rfl,rfl,rfl⟩:=Value.slice.inj h0;exact ⟨_,_,rfl,.inr ⟨_,rfl,h.hB.2,_,_,SV⟩⟩⟩
    ·obtain ⟨a,o1,WZ,ZN,f1,f2⟩:=h.box i2 b hi;exact ⟨a,o1,by rw [OF b (h.lt hi)];exact WZ,ZN,f1,f2.jC hk⟩
    ·show S.dG.set t _=(c.τ.set t i').map _;rw [JM,h.dG];show _=List.set _ t (rows.length+bU.length,i.sz);rw [e2]
    ·rcases rX o9 hj with ⟨rfl,rfl⟩ | ⟨gW,hj⟩
     ·refine ⟨nU,DD,t3,(fun e=>by cases e),fun rY g2 o2 W1=>?_⟩;have:some (w.heap.size,0)=some (g2,o2):=W1;obtain ⟨rfl,rfl⟩:=aR (ag this);refine ⟨h.hB.2,fun hm=>?_,arr,e,(0,0),SV,?_,.inr rfl⟩
      ·obtain ⟨q,hq⟩:=ql.1 hm;have:=h.lt hq;omega
      ·show 0+gF * i.sz≤arr.size;rw [vD,← e2];omega
     ·obtain ⟨u1,u2,u3,u4,u5⟩:=h.tok t' j hj;refine ⟨u1,u2,u3,u4,fun rY g2 o2 W1=>?_⟩;obtain ⟨x1,x2,aa3,T2,fz2,hh2,x3⟩:=u5 rY g2 o2 W1;exact ⟨x1,x2,aa3,T2,fz2,by rw [OF g2 (Jy t' j g2 o2 hj W1 rY)];exact hh2,x3⟩
    ·rcases rX o9 hj with ⟨rfl,rfl⟩ | ⟨gW,Wl⟩<;>rcases rX o9 jT with ⟨rfl,rfl⟩ | ⟨amr,zw⟩
     ·rfl
     ·have:some (w.heap.size,0)=some (b,o):=a1;obtain ⟨rfl,_⟩:=aR (ag this);have:=Jy _ _ _ _ zw a2 a4;omega
     ·have:some (w.heap.size,0)=some (b,o'):=a2;obtain ⟨rfl,_⟩:=aR (ag this);have:=Jy _ _ _ _ Wl a1 a3;omega
     ·exact h.yL t' t'' j j' b o o' Wl zw a1 a2 a3 a4
    ·have hnc:∀ q,w'.cell? ⟨w.heap.size,q,none⟩=arr[q]?:=by
      intro q;simp [World.cell?,SV]
     have hnM:∀ q,q < (rows.length+bU.length) * sz→¬ c'.M w.heap.size q:=by
      rintro q hq ((h' | h') | ⟨t',j,o,nX,a1,a2,a3⟩)
      ·have:=(c.hX _ _ h').2;have:=h.hB.2;omega
      ·obtain ⟨p,hp⟩:=ql.1 h';have:=h.lt hp;omega
      ·rcases rX o9 nX with ⟨rfl,rfl⟩ | ⟨gW,nX⟩
       ·have:some (w.heap.size,0)=some (w.heap.size,o):=a1;obtain ⟨_,rfl⟩:=aR (ag this);have a2':0+(rows.length+bU.length) * i.sz≤q:=a2;rw [← e2] at a2';omega
       ·have:j.n < j.cap:=by
         rcases ct j.n j.cap with h' | h'
         ·exact h'
         ·have:=cD j.sz h';omega
        have:=Jy _ _ _ _ nX a1 this;omega
     have hDR:DR c'.M w' (.sl (rows++bU)) (.slice (some ⟨w.heap.size,0,none⟩) (rows.length+bU.length) gF):=by
      refine DR.append rows bU sz W0 hr hnr w.heap.size 0 gF nU DD F0 F (fun k Wk=>?_) (fun k Wk=>?_) (fun j hj q hq=>(Bs j hj q hq).jC hk) (fun j hj q hq=>(hd j hj q hq).jC hk)
      ·rw [bf];exact ⟨hnM k (by rw [ej];omega),by rw [hnc,OE k Wk]⟩
      ·rw [bf];exact ⟨hnM _ (by rw [ej];omega),by rw [hnc,FF k Wk]⟩
     have:=VR.own (c:=c') (w:=w') (rows++bU) t (some ⟨w.heap.size,0,none⟩) gF i' (by rw [av];exact hDR) (zG o9) (fun r ZP=>by
      show r.length=i.sz;rw [← e2];rcases dA.1 ZP with h | h
      ·exact hr r h
      ·exact hnr r h) (by rw [av];exact aA _) (fun _=>⟨rfl,rfl⟩)
     rw [av] at this;exact this
theorem ji.app {P:Program} {c:Cx} {w:World} {S:Mem} (h:ji c w S) {rows bU:List (List D)} {t sz bytes ts us ty e:Nat} {v x:Value} (hv:VR c w (.sl rows (.own t)) v) (ht:S.dG[t]? = some (rows.length,sz)) (T:Dx P ts e sz bytes) (hu:∃ d,P.underlying us=some d∧∀ k,d ≠ .int k)
 (hnr:∀ r∈bU,r.length=sz) (F:Nat→Value) (hlen:∀ W,(Builtin.lenOf x).run P W = .ok bU.length W)
 (mE:∀ W:World,W.heap=w.heap→(Builtin.firstCells sz bU.length x).run P W = .ok ((List.range (bU.length * sz)).map F).toArray W)
 (hd:∀ j (h:j < bU.length) q (hq:q < (bU[j]).length),DR c.M w (bU[j])[q] (F (j * sz+q)))
 (DC:(rows.length+bU.length) * bytes≤140737488355328) (tV:1≤bytes) :
 ∃ v' w' c',(Builtin.append_ #[ts,us] ty #[v,x]).run P w = .ok v' w'∧ji c' w' { S with dG:=S.dG.set t (rows.length+bU.length,sz) }∧Ext c w c' w'∧VR c' w' (.sl (rows++bU) (.own t)) v':=by
 obtain ⟨v',w',c',h1,h2,h3,h4,_⟩:=h.aif hv ht T hu hnr F hlen mE hd DC tV;exact ⟨v',w',c',h1,h2,h3,h4⟩
inductive TD where
 | int (k:IntKind)
 | bool
 | string
 | slice (e:Nat)
 | struct (fs:eg)
 | array (n e:Nat)
 | pointer
 | map (k e:Nat)
 | other
structure zI where
 d:TD
 size:Nat
 bytes:Nat
 agg:Bool
 zero:List V
def qo:Value→V
 | .int k n=>.d (.int k n)
 | .bool b=>.d (.bool b)
 | .string s=>if s.data.toList.length≤9223372036854775807 then .d (.str s.data.toList) else .undef
 | .slice none 0 0=>.sl [] .full
 | .pointer none=>.oU
 | .nilFunc=>.sF
 | _=>.undef
def DE:Value→V
 | .agg cs=>if cs.toList.all Value.oneCell' then .agg (cs.toList.map qo) else .undef
 | v=>qo v
def wg (P:Program) (t:TypeId):Nat:=match P.info? t with | some i=>i.size | none=>0
def xT (P:Program):TypeDesc→TD
 | .int k=>.int k
 | .bool=>.bool
 | .string=>.string
 | .slice e=>.slice e
 | .struct fs=>if fs.toList.all (fun f=>(P.info? f.type).isSome) then .struct (fs.toList.map fun f=>(f.offset,wg P f.type)) else .other
 | .array n e=>.array n e
 | .pointer _=>.pointer
 | .map k e=>.map k e
 | _=>.other
def Hv:TypeDesc→Bool
 | .struct _ | .array _ _=>true
 | _=>false
def eT (P:Program) (t:TypeId):Option zI :=
 match P.info? t,P.underlying t with
 | some i,some d=>match i.zero with
  | some z=>if z.cells.size=i.size∧z.cells.toList.all Value.oneCell' = true then some ⟨xT P d,i.size,i.bytes,Hv d,z.cells.toList.map qo⟩ else none
  | none=>none
 | _,_=>none
theorem JP (c:Cx) (w:World):VR c w (.sl [] .full) (.slice none 0 0) :=
 .full [] none (.sl [] 1 none 0 (fun _ _=>undef) ak dM dM ak (fun h=>absurd rfl h) (fun j h=>by simp at h)) (fun p h=>by cases h)
theorem xp (c:Cx) (w:World) (v:Value):VR c w (qo v) v:=by
 unfold qo
 split
 ·exact .d _ _ (.int _ _)
 ·exact .d _ _ (.bool _)
 ·rename_i s
  split
  ·rename_i h;have:=DR.str (M:=c.M) (w:=w) s.data.toList h;exact .d _ _ this
  ·exact .undef _
 ·exact JP c w
 ·exact .oU
 ·exact .sF
 ·exact .undef _
theorem DF (c:Cx) (w:World) (v:Value):VR c w (DE v) v:=by
 unfold DE
 split
 ·rename_i cs
  split
  ·rename_i h;refine .agg _ _ dM (fun j hj=>?_) (fun j hj=>?_)
   ·have jT:j < cs.size:=by simpa using hj
    simp only [dy,jD];have:cs.getD j undef=cs[j]:=by simp [Array.getD,jT]
    rw [this];exact xp c w _
   ·have jT:j < cs.size:=by simpa using hj
    have:cs.getD j undef=cs[j]:=by simp [Array.getD,jT]
    rw [this];rw [cC] at h;exact h _ dM
  ·exact .undef _
 ·exact xp c w v
def ij (c:Cx) (w:World) (env:List V) (tmps:Array Value):Prop:=tmps.size=env.length∧∀ t (h:t < env.length),VR c w env[t] (tmps.getD t undef)
theorem ij.ext {c c':Cx} {w w':World} (hk:Ext c w c' w') {env:List V} {tmps:Array Value} (h:ij c w env tmps):ij c' w' env tmps:=⟨h.1,fun t ht=>(h.2 t ht).ext hk⟩
theorem ij.get {c:Cx} {w:World} {env:List V} {tmps:Array Value} (h:ij c w env tmps) (t:Nat):VR c w (env.getD t .undef) (tmps.getD t undef):=by
 by_cases ht:t < env.length
 ·have:env.getD t .undef=env[t]:=by simp [List.getD,ht]
  rw [this];exact h.2 t ht
 ·have:env.getD t .undef = .undef:=by simp [List.getD,ht]
  rw [this];exact .undef _
def OG:Option (List D)→V
 | some row=>.nc row 0
 | none=>.undef
def bw (I:Inv) (env:List V):Operand→V
 | .tmp t=>env.getD t .undef
 | .const v=>DE v
 | .global g=>OG (I.Mu g)
 | .func f=>.func f [] []
theorem ij.eval {c:Cx} {w:World} {S:Mem} {env:List V} {a:Act} (hr:ji c w S) (h:ij c w env a.tmps) (x:Operand):VR c w (bw c.I env x) (a.eval x):=by
 cases x with
 | tmp t=>exact h.get t
 | const v=>exact DF c w v
 | global g =>
  show VR c w (OG (c.I.Mu g)) (.pointer (some ⟨g,0,none⟩));cases hg:c.I.Mu g with
  | none=>exact .undef _
  | some row=>exact hr.Mu hg
 | func f=>exact .func f [] [] #[] #[] rfl rfl (fun j h=>by simp at h) (fun j h=>by simp at h)
theorem ij.put {c:Cx} {w:World} {env:List V} {a:Act} (h:ij c w env a.tmps) (d:Option Tmp) {v:V} {x:Value} (hv:VR c w v x):ij c w (match d with | some t=>env.set t v | none=>env) (a.put d x).tmps:=by
 cases d with
 | none=>exact h
 | some t =>
  refine ⟨by simp [Act.put,h.1],fun q hq=>?_⟩;have Ht:q < env.length:=by simpa using hq
  have hs:q < a.tmps.size:=by rw [h.1];exact Ht
  have:=h.2 q Ht
  by_cases e:t=q
  ·subst e;have e2:((a.put (some t) x).tmps.getD t undef)=x:=by simp [Act.put,Array.getD,hs]
   rw [e2]
   simpa using hv
  ·have e2:((a.put (some t) x).tmps.getD q undef)=a.tmps.getD q undef:=by simp [Act.put,Array.getD,hs,e]
   rw [e2]
   simpa [e] using this
def kU:V→Option (List V)
 | .agg vs=>some vs
 | .fZ _=>none
 | .undef=>none
 | v=>some [v]
theorem DG {c:Cx} {w:World} {v:V} {x:Value} (h:VR c w v x) {vs:List V} (hv:kU v=some vs):x.cells.size=vs.length∧∀ j (h:j < vs.length),VR c w vs[j] (x.cells.getD j undef)∧(x.cells.getD j undef).oneCell' = true:=by
 have one:∀ (v:V) (x:Value),VR c w v x→x.cells = #[x]→x.oneCell' = true→([v]:List V)=vs→x.cells.size=vs.length∧∀ j (h:j < vs.length),VR c w vs[j] (x.cells.getD j undef)∧(x.cells.getD j undef).oneCell' = true:=by
  rintro v x h hc h1 rfl;rw [hc];refine ⟨rfl,fun j hj=>?_⟩;have:j=0:=by simp at hj;exact hj
  subst this;exact ⟨h,h1⟩
 have h':=h;cases h with
 | undef v=>cases hv
 | d x v h=>exact one _ _ h' h.cells h.one (ag hv)
 | full rows a h ha=>exact one _ _ h' rfl rfl (ag hv)
 | own rows t a cap i h ht hr hn hl=>exact one _ _ h' rfl rfl (ag hv)
 | ptr i k b h hT=>exact one _ _ h' rfl rfl (ag hv)
 | nc row k g o f h=>exact one _ _ h' rfl rfl (ag hv)
 | bx i n cap b h hn hm hT=>exact one _ _ h' rfl rfl (ag hv)
 | mp i b h=>exact one _ _ h' rfl rfl (ag hv)
 | buf rows t T v h hT =>
  have h1:x.cells = #[x]∧x.oneCell' = true:=by cases h with | own=>exact ⟨rfl,rfl⟩
  exact one _ _ h' h1.1 h1.2 (ag hv)
 | self i T b v h hT hq=>exact one _ _ h' (by rcases hq with rfl | rfl<;>rfl) (by rcases hq with rfl | rfl<;>rfl) (ag hv)
 | oU=>exact one _ _ h' rfl rfl (ag hv)
 | func f first caps cf cc h1 h2 h3 h4=>exact one _ _ h' rfl rfl (ag hv)
 | sF=>exact one _ _ h' rfl rfl (ag hv)
 | agg us cs h1 h2 h3 =>
  obtain rfl:=ag hv;exact ⟨h1,fun j hj=>⟨h2 j hj,h3 j hj⟩⟩
 | fZ us cs h1 h2=>cases hv
def uw:V→Option D
 | .d x=>some x
 | .sl rows _=>some (.sl rows)
 | .buf rows _ _=>some (.sl rows)
 | _=>none
theorem mV {c:Cx} {w:World} {v:V} {x:Value} (h:VR c w v x) {d:D} (hd:uw v=some d):DR c.M w d x:=by
 cases h with
 | d x v h=>obtain rfl:=ag hd;exact h
 | full rows a h ha=>obtain rfl:=ag hd;exact h
 | own rows t a cap i h ht hr hn hl=>obtain rfl:=ag hd;exact h
 | buf rows t T v h hT =>
  obtain rfl:=ag hd;cases h with
  | own _ _ a cap i h ht hr hn hl=>exact h
 | _=>cases hd
section
variable {P:Program}
theorem cQ {t:TypeId} {i:zI} (h:eT P t=some i):∃ (f:TypeInfo) (d:TypeDesc) (z:Value),P.info? t=some f∧P.underlying t=some d∧f.zero=some z∧f.size=i.size∧f.bytes=i.bytes∧xT P d=i.d∧Hv d=i.agg∧z.cells.size=i.size∧i.zero=z.cells.toList.map qo∧(∀ u∈z.cells.toList,u.oneCell' = true):=by
 unfold eT at h;cases hf:P.info? t with
 | none=>simp [hf] at h
 | some f =>
  cases hd:P.underlying t with
  | none=>simp [hf,hd] at h
  | some d =>
   cases hz:f.zero with
   | none=>simp [hf,hd,hz] at h
   | some z =>
    simp only [hf,hd,hz] at h
    split at h
    ·rename_i hc;obtain rfl:=ag h;exact ⟨f,d,z,rfl,rfl,hz,rfl,rfl,rfl,rfl,hc.1,rfl,fun u hu=>cC.1 hc.2 u hu⟩
    ·cases h
theorem xq {t:TypeId} {d:TypeDesc} (h:P.underlying t=some d) (w:World):(isAgg t).run P w = .ok (Hv d) w:=by
 unfold isAgg;rw [Sem.run_bind,run_underlying h w];cases d<;>rfl
theorem run_sizeOf {t:TypeId} {i:TypeInfo} (h:P.info? t=some i) (w:World):(sizeOf t).run P w = .ok i.size w:=by simp [sizeOf,typeInfo,h]
theorem tB {t:TypeId} {i:zI} (ht:eT P t=some i) (w:World) (g o:Nat) (cs:Nat→Value) (hc:∀ j,j < (if i.agg then i.size else 1)→w.cell? ⟨g,o+j,none⟩=some (cs j)) :
 (Instr.loadAt t (.pointer (some ⟨g,o,none⟩))).run P w = .ok (if i.agg then .agg ((List.range i.size).map cs).toArray else cs 0) w:=by
 obtain ⟨f,d,z,h1,h2,h3,h4,h5,h6,h7,h8,h9,_⟩:=cQ ht;rw [← h7] at hc ⊢;simp only [Instr.loadAt,Instr.sureAddr,loadVar,Sem.run_bind,Sem.run_pure,Result.andThen_ok,xq h2];cases hd:Hv d with
 | true =>
  simp only [hd,gj] at hc ⊢;rw [← h4] at hc ⊢;have:=run_loadCells (P:=P) w ⟨g,o,none⟩ f.size cs (fun j hj=>by rw [Addr.add_plain];exact hc j hj);simp only [Sem.run_bind,run_sizeOf h1,Result.andThen_ok,this,Sem.run_pure]
 | false =>
  simp only [hd,cS,iF] at hc ⊢;have:=hc 0 ak;rw [gZ] at this;simp [run_load,this]
end
def TyK (P:Program):List (Nat × Option zI)→Prop
 | []=>True
 | x :: l=>eT P x.1=x.2∧TyK P l
theorem OH (P:Program):∀ l:List Nat,TyK P (l.map fun k=>(k,eT P k))
 | []=>trivial
 | _ :: l=>⟨rfl,OH P l⟩
theorem aa5 (P:Program) (l:List Nat) {t:List (Nat × Option zI)} (h:(l.map fun k=>(k,eT P k))=t):TyK P t:=h ▸ OH P l
def aen (P:Program) (c:Cx) (w:World) (s:Sem Next) (r:Option (V × Mem)):Prop :=
 ∀ v S',r=some (v,S')→∃ x w' c',(s.run P w = .ok (.value x) w'∨(s.run P w = .ok .skip w'∧v = .undef))∧ji c' w' S'∧Ext c w c' w'∧VR c' w' v x
theorem aen.pure {P:Program} {c:Cx} {w:World} {S:Mem} (h:ji c w S) {s:Sem Value} {r:Option V} (hs:∀ v,r=some v→∃ x,s.run P w = .ok x w∧VR c w v x) :
 aen P c w (do Pure.pure (.value (← s))) (r.map fun v=>(v,S)):=by
 intro v S' hr;cases r with
 | none=>cases hr
 | some v0 =>
  obtain ⟨rfl,rfl⟩:=aR (ag hr);obtain ⟨x,hx,hv⟩:=hs v0 rfl;exact ⟨x,w,c,.inl (by simp [hx]),h,.refl _ _,hv⟩
def yj (i:zI) (vs:List V) (k:Nat):Option V:=if i.agg then (if k+i.size≤vs.length then some (.agg ((vs.drop k).take i.size)) else none) else vs[k]?
def SW (i:zI) (row:List D) (k:Nat):Option V:=if i.agg then (if k+i.size≤row.length then some (.agg (((row.drop k).take i.size).map .d)) else none) else (row[k]?).map .d
def jE (P:Program) (S:Mem) (t:TypeId):V→Option V
 | .ptr i k=>match eT P t,S.boxes[i]? with
  | some ti,some vs=>yj ti vs k
  | _,_=>none
 | .nc row k=>match eT P t with
  | some ti=>SW ti row k
  | none=>none
 | _=>none
theorem fM {cs:Array Value} {j:Nat} (h:j < cs.size):cs.getD j undef=cs[j]:=by simp [Array.getD,h]
theorem mR {l:List Value} {j:Nat} (h:j < l.length):l.toArray.getD j undef=l[j]:=by simp [Array.getD,h]
theorem ji.wh {c:Cx} {w:World} {S:Mem} (h:ji c w S) {i b:Nat} (hi:c.ρ[i]? = some b) (hT:∃ T,oA w b T) {vs:List V} (hv:S.boxes[i]? = some vs):∃ (cs:Array Value) (T:TypeId),w.heap[b]? = some (.cells cs T (0,0))∧cs.size=vs.length ∧
 ∀ j (h:j < vs.length),w.cell? ⟨b,j,none⟩=some (cs.getD j undef)∧VR c w vs[j] (cs.getD j undef)∧(cs.getD j undef).oneCell' = true:=by
 obtain ⟨_,o,ho,rZ,e1,e2⟩:=h.box i b hi;rw [hv] at e1;obtain rfl:=ag e1;obtain ⟨cs,T,hh,e2,e3⟩:=e2.OB ho hT;refine ⟨cs,T,hh,e2,fun j hj=>⟨?_,e3 j hj⟩⟩;have:j < cs.size:=ak;simp [World.cell?,hh,Array.getD,this]
theorem ji.Hw {c:Cx} {w:World} {S:Mem} (h:ji c w S) {i b:Nat} (hi:c.ρ[i]? = some b) {vs:List V} (hv:S.boxes[i]? = some vs) (hn:WU vs):∃ T,oA w b T:=by
 obtain ⟨_,o,ho,rZ,e1,e2⟩:=h.box i b hi;rw [hv] at e1;obtain rfl:=ag e1;obtain ⟨cs,T,rfl,_⟩:=e2.aej hn;exact ⟨T,cs,_,ho⟩
section
variable {P:Program} {c:Cx} {w:World} {S:Mem}
theorem OI (h:ji c w S) (t:TypeId) {a:V} {x:Value} (ha:VR c w a x) {v:V} (hv:jE P S t a=some v):∃ y,(Instr.loadAt t x).run P w = .ok y w∧VR c w v y:=by
 unfold jE at hv;cases ha with
 | ptr i k b hi hT =>
  cases ht:eT P t with
  | none=>simp [ht] at hv
  | some ti =>
   cases hb:S.boxes[i]? with
   | none=>simp [ht,hb] at hv
   | some vs =>
    simp only [ht,hb,yj] at hv;obtain ⟨cs,T,hh,jS,hc⟩:=h.wh hi hT hb;cases vQ:ti.agg with
    | true =>
     simp only [vQ,gj] at hv
     split at hv
     ·rename_i hle;obtain rfl:=ag hv;refine ⟨_,tB ht w b k (fun j=>cs.getD (k+j) undef) (fun j hj=>(hc (k+j) (by rw [vQ] at hj;simp at hj;omega)).1),?_⟩;simp only [vQ,gj];refine .agg _ _ fk (fun j hj=>?_) (fun j hj=>?_)
      ·have jT:j < ti.size:=by simp at hj;omega
       simp only [List.getElem_take,pg];rw [mR (by simpa using jT)];simp only [dy,kE];exact (hc (k+j) ak).2.1
      ·have jT:j < ti.size:=by simp at hj;omega
       rw [mR (by simpa using jT)];simp only [dy,kE];exact (hc (k+j) ak).2.2
     ·cases hv
    | false =>
     simp only [vQ,cS,iF] at hv;obtain ⟨hk,rfl⟩:=ai.1 hv;refine ⟨_,tB ht w b k (fun j=>cs.getD (k+j) undef) (fun j hj=>?_),?_⟩
     ·have:j=0:=by rw [vQ] at hj;simpa using hj
      subst this;exact (hc (k+0) hk).1
     ·simp only [vQ,cS,iF];exact (hc (k+0) hk).2.1
 | nc row k g o f hc =>
  cases ht:eT P t with
  | none=>simp [ht] at hv
  | some ti =>
   simp only [ht,SW] at hv;cases vQ:ti.agg with
   | true =>
    simp only [vQ,gj] at hv
    split at hv
    ·rename_i hle;obtain rfl:=ag hv;refine ⟨_,tB ht w g (o+k) (fun j=>f (k+j)) (fun j hj=>?_),?_⟩
     ·rw [fD];exact (hc (k+j) (by rw [vQ] at hj;simp at hj;omega)).2.1
     ·simp only [vQ,gj];refine .agg _ _ fk (fun j hj=>?_) (fun j hj=>?_)
      ·have jT:j < ti.size:=by simp at hj;omega
       simp only [dy,List.getElem_take,pg];rw [mR (by simpa using jT)];simp only [dy,kE];exact .d _ _ (hc (k+j) ak).2.2
      ·have jT:j < ti.size:=by simp at hj;omega
       rw [mR (by simpa using jT)];simp only [dy,kE];exact (hc (k+j) ak).2.2.one
    ·cases hv
   | false =>
    simp only [vQ,cS,iF] at hv;obtain ⟨d,hd,rfl⟩:=aB.1 hv;obtain ⟨hk,rfl⟩:=ai.1 hd;refine ⟨_,tB ht w g (o+k) (fun j=>f (k+j)) (fun j hj=>?_),?_⟩
    ·have:j=0:=by rw [vQ] at hj;simpa using hj
     subst this;rw [fD];exact (hc (k+0) hk).2.1
    ·simp only [vQ,cS,iF];exact .d _ _ (hc (k+0) hk).2.2
 | _=>cases hv
theorem SX (h:ji c w S) (t:TypeId) {i:zI} (ht:eT P t=some i):∃ x w' c',(Instr.alloc t true (.tuple #[])).run P w = .ok x w'∧ji c' w' { S with boxes:=S.boxes++[i.zero] }∧Ext c w c' w'∧VR c' w' (.ptr S.boxes.length 0) x:=by
 obtain ⟨f,d,z,h1,h2,h3,h4,h5,h6,h7,h8,h9,yN⟩:=cQ ht
 have hn:=h.Da z.cells t i.zero (by rw [h9];simp) (fun j hj=>by
  have jT:j < z.cells.size:=by rw [h9] at hj;simpa using hj
  rw [fM jT];refine ⟨?_,yN _ dM⟩;simp only [h9,dy,jD];exact xp c w _)
 refine ⟨_,_,_,?_,hn.1,hn.2,.ptr _ 0 w.heap.size ?_ ⟨_,oA.new _ _⟩⟩
 ·simp [Instr.alloc,zeroValue,typeInfo,h1,h3,newVar,newRow]
 ·show (c.ρ++[w.heap.size])[S.boxes.length]? = _;rw [h.len];simp
theorem aa6 (h:ji c w S) (t:TypeId) {v:V} {x:Value} (hv:VR c w v x) {vs:List V} (hc:kU v=some vs):∃ y w' c',(Instr.box t x).run P w = .ok y w'∧ji c' w' { S with boxes:=S.boxes++[vs] }∧Ext c w c' w'∧VR c' w' (.ptr S.boxes.length 0) y:=by
 obtain ⟨h1,h2⟩:=DG hv hc;have hn:=h.Da x.cells t vs h1 h2;refine ⟨_,_,_,?_,hn.1,hn.2,.ptr _ 0 w.heap.size ?_ ⟨_,oA.new _ _⟩⟩
 ·simp [Instr.box,newVar,newRow]
 ·show (c.ρ++[w.heap.size])[S.boxes.length]? = _;rw [h.len];simp
theorem SY (h:ji c w S) (t:TypeId) {ti:zI} (ht:eT P t=some ti) {i k:Nat} {p x:Value} (hp:VR c w (.ptr i k) p) {v:V} (hv:VR c w v x) {us vs:List V} (hu:S.boxes[i]? = some us) (hc:kU v=some vs) (hs:vs.length=ti.size) (FD:k+ti.size≤us.length) :
 ∃ w' ,(Instr.storeAt t p x).run P w = .ok () w'∧ji c w' { S with boxes:=S.boxes.set i (us.take k++vs++us.drop (k+vs.length)) }∧Ext c w c w':=by
 obtain ⟨h1,h2⟩:=DG hv hc;obtain ⟨f,d,z,g1,g2,g3,g4,g5,g6,g7,g8,g9,g10⟩:=cQ ht;cases hp with
 | ptr _ _ b hi hT =>
  obtain ⟨cs,T,hh,jS,we⟩:=h.wh hi hT hu
  have kz:=qV (P:=P) b k T (0,0) x.cells.toList 0 cs w hh fk dM (fun u hu=>by
   obtain ⟨j,hj,rfl⟩:=ga.1 hu;have jT:j < x.cells.size:=by simpa using hj
   have:=(h2 j ak).2;rw [fM jT] at this
   simpa using this)
  have vD:x.cells.size=f.size:=ak;refine ⟨_,?_,h.SR hi hT (cs.toList.take (k+0)++x.cells.toList++cs.toList.drop (k+0+x.cells.toList.length)).toArray _ ?_ (fun j hj=>?_)⟩
  ·simp only [Instr.storeAt,Instr.sureAddr,Sem.run_bind,Sem.run_pure,Result.andThen_ok,storeVar,run_sizeOf g1,Sem.run_ite];rw [aq (by simp [vD])];exact kz
  ·simp only [gZ,pe,av,cg,eG,nP,jS,h1]
  ·simp only [gZ];rw [mR (by simp at hj ⊢;omega)];rcases ct j k with bu | nU
   ·have e1:(us.take k++vs++us.drop (k+vs.length))[j]=us[j]'ak:=by
     rw [cA fk,cA fk];simp
    have e2:(cs.toList.take k++x.cells.toList++cs.toList.drop (k+x.cells.toList.length))[j]'(by simp at hj ⊢;omega)=cs[j]'ak:=by
     rw [cA fk,cA fk];simp
    rw [e1,e2,← fM];exact (we j ak).2
   ·rcases ct j (k+vs.length) with rY | aim
    ·have e1:(us.take k++vs++us.drop (k+vs.length))[j]=vs[j - k]'ak:=by
      rw [cA fk,dZ fk]
      congr 1;simp;omega
     have e2:(cs.toList.take k++x.cells.toList++cs.toList.drop (k+x.cells.toList.length))[j]'(by simp at hj ⊢;omega)=x.cells[j - k]'ak:=by
      rw [cA fk,dZ fk];simp only [jD]
      congr 1;simp;omega
     rw [e1,e2,← fM];exact h2 (j - k) ak
    ·have jT:j < us.length:=by simp at hj;omega
     have e1:(us.take k++vs++us.drop (k+vs.length))[j]=us[j]'jT:=by
      rw [dZ fk];simp only [pg]
      congr 1;simp;omega
     have e2:(cs.toList.take k++x.cells.toList++cs.toList.drop (k+x.cells.toList.length))[j]'(by simp at hj ⊢;omega)=cs[j]'ak:=by
      rw [dZ fk];simp only [pg,jD]
      congr 1;simp;omega
     rw [e1,e2,← fM];exact (we j ak).2
end
def JQ (off:Nat):V→Option V
 | .ptr i k=>some (.ptr i (k+off))
 | .nc row k=>some (.nc row (k+off))
 | _=>none
def Db (P:Program) (s:TypeId) (f:Nat) (a:V):Option V :=
 match eT P s with
 | some i=>match i.d with
  | .struct fs=>match fs[f]? with
   | some (off,sz)=>if sz=0 then none else JQ off a
   | none=>none
  | _=>none
 | none=>none
def Hx (P:Program) (ti:zI) (x:V) (n:Int):Option V :=
 match x with
 | .bx b len _=>match ti.d with
  | .slice e=>match eT P e with
   | some te=>if 0≤n∧n < (len:Int) then some (.ptr b (n.toNat * te.size)) else none
   | none=>none
  | _=>none
 | _=>none
def oI (P:Program) (t:TypeId) (x i:V):Option V :=
 match eT P t,uw x,i with
 | some ti,some (.sl rows),.d (.int _ n)=>match ti.d with
  | .slice e=>match eT P e,rows[n.toNat]? with
   | some te,some r=>if 0≤n∧r.length=te.size then some (.nc r 0) else none
   | _,_=>none
  | _=>none
 | some ti,none,.d (.int _ n)=>Hx P ti x n
 | _,_,_=>none
def Bu (ti:zI) (x:V):Option V :=
 match x with
 | .bx _ len _=>match ti.d with
  | .slice _=>some (.d (.int .i64 (len:Int)))
  | _=>none
 | _=>none
def mM (P:Program) (t:TypeId) (x:V):Option V :=
 match eT P t,uw x with
 | some ti,none=>Bu ti x
 | some ti,some (.sl rows)=>match ti.d with
  | .slice _=>some (.d (.int .i64 (rows.length:Int)))
  | _=>none
 | some ti,some (.str s)=>match ti.d with
  | .string=>some (.d (.int .i64 (s.length:Int)))
  | _=>none
 | _,_=>none
def ym (place:Nat→Option (Nat × Nat)) (cells:List V):List (Nat × V)→Option (List V)
 | []=>some cells
 | (i,v) :: rest=>match place i,kU v with
  | some (off,size),some vs=>if vs.length=size∧off+size≤cells.length then ym place (cells.take off++vs++cells.drop (off+size)) rest else none
  | _,_=>none
def xu (P:Program) (t:TypeId) (parts:List (Nat × V)):Option V :=
 match eT P t with
 | some i=>match i.d with
  | .struct fs=>(ym (fun k=>fs[k]?) i.zero parts).map .agg
  | _=>none
 | none=>none
def rep:Nat→List V→List V
 | 0,_=>[]
 | n+1,z=>z++rep n z
def chunk:Nat→Nat→List V→Option (List (List D))
 | 0,_,_=>some []
 | n+1,s,l=>match (l.take s).mapM uw,chunk n s (l.drop s) with
  | some r,some rs=>some (r :: rs)
  | _,_=>none
def r6 (P:Program) (t:TypeId) (len:Nat) (parts:List (Nat × V)):Option V :=
 match eT P t with
 | some i=>match i.d with
  | .slice e=>match eT P e with
   | some te=>if 0 < te.size∧len * te.size≤16777216 then
    match ym (fun k=>some (k * te.size,te.size)) (rep len te.zero) parts with
    | some flat=>(chunk len te.size flat).map fun rows=>.sl rows .full
    | none=>none
    else none
   | none=>none
  | _=>none
 | none=>none
section
variable {P:Program} {c:Cx} {w:World} {S:Mem}
theorem Cc {d:TypeDesc} {fs:eg} (h:xT P d = .struct fs):∃ Fs:Array Field,d = .struct Fs∧(∀ f∈Fs.toList,∃ i,P.info? f.type=some i)∧fs=Fs.toList.map fun f=>(f.offset,wg P f.type):=by
 cases d<;>simp only [xT] at h<;>try cases h
 rename_i Fs
 split at h
 ·rename_i j4;refine ⟨Fs,rfl,fun f hf=>?_,(TD.struct.inj h).symm⟩;rw [cC] at j4;exact lI.1 (j4 f hf)
 ·cases h
theorem fN {d:TypeDesc} {e:Nat} (h:xT P d = .slice e):d = .slice e:=by
 cases d<;>simp only [xT] at h<;>try cases h
 ·rfl
 ·split at h<;>cases h
theorem My {d:TypeDesc} {n e:Nat} (h:xT P d = .array n e):d = .array n e:=by
 cases d<;>simp only [xT] at h<;>try cases h
 all_goals first
  | rfl
  | (split at h<;>cases h)
theorem Hy {d:TypeDesc} (h:xT P d = .pointer):∃ e,d = .pointer e:=by
 cases d<;>simp only [xT] at h<;>try cases h
 all_goals first
  | exact ⟨_,rfl⟩
  | (split at h<;>cases h)
theorem oJ {d:TypeDesc} (h:xT P d = .string):d = .string:=by
 cases d<;>simp only [xT] at h<;>try cases h
 ·rfl
 ·split at h<;>cases h
theorem zJ {d:TypeDesc} {k:IntKind} (h:xT P d = .int k):d = .int k:=by
 cases d<;>simp only [xT] at h<;>try cases h
 ·rfl
 ·split at h<;>cases h
theorem Ql {d:TypeDesc} (h:xT P d = .bool):d = .bool:=by
 cases d<;>simp only [xT] at h<;>try cases h
 ·rfl
 ·split at h<;>cases h
theorem W2 {off:Nat} {a v:V} {x:Value} (ha:VR c w a x) (hv:JQ off a=some v):∃ g o,x = .pointer (some ⟨g,o,none⟩)∧VR c w v (.pointer (some ⟨g,o+off,none⟩)):=by
 cases ha with
 | ptr i k b hi hT =>
  obtain rfl:=ag hv;exact ⟨b,k,rfl,.ptr i _ b hi hT⟩
 | nc row k g o f hc =>
  obtain rfl:=ag hv;refine ⟨g,o+k,rfl,?_⟩;rw [fD];exact .nc row _ g o f hc
 | _=>cases hv
theorem SZ {s:TypeId} {f:Nat} {a v:V} {x:Value} (ha:VR c w a x) (hv:Db P s f a=some v):∃ y,(Instr.fieldAt s x f).run P w = .ok y w∧VR c w v y:=by
 unfold Db at hv
 split at hv
 case h_2=>cases hv
 rename_i i hi;obtain ⟨fi,d,z,h1,h2,h3,h4,h5,h6,h7,h8,h9,yN⟩:=cQ hi
 split at hv
 case h_2=>cases hv
 rename_i fs Mz;rw [Mz] at h6;obtain ⟨Fs,rfl,j4,rfl⟩:=Cc h6
 split at hv
 case h_2=>cases hv
 rename_i off sz hf;rw [aL] at hf;obtain ⟨F,hF,he⟩:=aB.1 hf;obtain ⟨fi2,aeo⟩:=j4 F (eM hF);obtain ⟨rfl,rfl⟩:=aR he;have hsa:wg P F.type=fi2.size:=by simp [wg,aeo]
 by_cases jS:fi2.size=0
 ·rw [aD (by rw [hsa];exact jS)] at hv;cases hv
 rw [aq (by rw [hsa];exact jS)] at hv;obtain ⟨g,o,rfl,hr⟩:=W2 ha hv;refine ⟨_,?_,hr⟩;have hF':Fs[f]? = some F:=by simpa using hF
 simp [Instr.fieldAt,run_underlying h2,hF',Instr.sureAddr,fieldPlace,run_sizeOf aeo,jS,Addr.add_plain]
theorem Hz {t:TypeId} {x i v:V} {X I:Value} (hx:VR c w x X) (hi:VR c w i I) (hv:oI P t x i=some v):∃ y,(Instr.indexAt t X I).run P w = .ok y w∧VR c w v y:=by
 unfold oI at hv
 split at hv
 case h_3=>cases hv
 case h_2 =>
  rename_i ti k n ht hd;unfold Hx at hv
  split at hv
  case h_2=>cases hv
  rename_i bb len cap
  split at hv
  case h_2=>cases hv
  rename_i e he
  split at hv
  case h_2=>cases hv
  rename_i te sq
  split at hv
  case isFalse=>cases hv
  rename_i hc0;obtain ⟨MA,nZ⟩:=hc0;obtain rfl:=ag hv;obtain ⟨fi,d,z,h1,h2,h3,h4,h5,h6,h7,h8,h9,yN⟩:=cQ ht;obtain ⟨gi,d2,z2,g1,g2,g3,g4,_⟩:=cQ sq;rw [he] at h6;obtain rfl:=fN h6;cases hi with
  | d _ _ hi=>cases hi with
   | int _ _ =>
    cases hx with
    | bx _ _ _ b hb _ _ hT =>
     refine ⟨.pointer (some ⟨b,0+n.toNat * te.size,none⟩),?_,?_⟩
     ·simp [Instr.indexAt,asIntOf,run_underlying h2,MA,nZ,run_sizeOf g1,g4,Addr.add_plain]
     ·rw [bf];exact .ptr _ _ b hb hT
 rename_i ti rows k n ht hd
 split at hv
 case h_2=>cases hv
 rename_i e he
 split at hv
 case h_2=>cases hv
 rename_i te r sq hr
 split at hv
 case isFalse=>cases hv
 rename_i hc0;obtain ⟨MA,hrl⟩:=hc0;obtain rfl:=ag hv;obtain ⟨fi,d,z,h1,h2,h3,h4,h5,h6,h7,h8,h9,yN⟩:=cQ ht;obtain ⟨gi,d2,z2,g1,g2,g3,g4,_⟩:=cQ sq;rw [he] at h6;obtain rfl:=fN h6;cases hi with
 | d _ _ hi=>cases hi with
  | int _ _ =>
   have hD:=mV hx hd;obtain ⟨bu,rfl⟩:=ai.1 hr;cases hD with
   | sl _ sz a cap f jS ZQ Wm hm hs hdd =>
    have esz:sz=te.size:=by rw [← hrl];exact (ZQ _ (aH bu)).symm
    subst esz;obtain ⟨g,off,rfl,qW⟩:=hs (by intro h0;rw [h0] at bu;simp at bu);have dY:n < (rows.length:Int):=ak;refine ⟨.pointer (some ⟨g,off+n.toNat * te.size+0,none⟩),?_,.nc _ 0 g (off+n.toNat * te.size) (fun q=>f n.toNat q) (fun q hq=>⟨(qW _ bu q hq).1,(qW _ bu q hq).2,hdd _ bu q hq⟩)⟩;simp [Instr.indexAt,asIntOf,run_underlying h2,MA,dY,run_sizeOf g1,g4,Addr.add_plain]
theorem aa8 {t ty:TypeId} {x v:V} {X:Value} (hx:VR c w x X) (hv:mM P t x=some v):∃ y,(Builtin.len_ #[t] ty #[X]).run P w = .ok y w∧VR c w v y:=by
 unfold mM at hv
 split at hv
 case h_4=>cases hv
 ·rename_i ti ht hd;unfold Bu at hv
  split at hv
  case h_2=>cases hv
  rename_i bb len cap
  split at hv
  case h_2=>cases hv
  rename_i e he;obtain rfl:=ag hv;obtain ⟨fi,d,z,h1,h2,h3,h4,h5,h6,_⟩:=cQ ht;rw [he] at h6;obtain rfl:=fN h6;cases hx with
  | bx _ _ _ b hb _ _ hT =>
   refine ⟨.int .i64 len,?_,.d _ _ (.int _ _)⟩;simp [Builtin.len_,run_underlying h2,goInt]
 ·rename_i ti rows ht hd
  split at hv
  case h_2=>cases hv
  rename_i e he;obtain rfl:=ag hv;obtain ⟨fi,d,z,h1,h2,h3,h4,h5,h6,_⟩:=cQ ht;rw [he] at h6;obtain rfl:=fN h6;have hD:=mV hx hd;cases hD with
  | sl _ sz a cap f jS ZQ Wm hm hs hdd =>
   refine ⟨.int .i64 rows.length,?_,.d _ _ (.int _ _)⟩;simp [Builtin.len_,run_underlying h2,goInt]
 ·rename_i ti s ht hd
  split at hv
  case h_2=>cases hv
  rename_i he;obtain rfl:=ag hv;obtain ⟨fi,d,z,h1,h2,h3,h4,h5,h6,_⟩:=cQ ht;rw [he] at h6;obtain rfl:=oJ h6;have hD:=mV hx hd;cases hD with
  | str _ hl =>
   refine ⟨.int .i64 s.length,?_,.d _ _ (.int _ _)⟩;exact run_len_string w t ty ⟨s.toArray⟩ h2
def sH (c:Cx) (w:World) (vs:List V) (cs:Array Value):Prop:=cs.size=vs.length∧∀ (j:Nat) (v:V),vs[j]? = some v→∃ x,cs[j]? = some x∧VR c w v x∧x.oneCell' = true
theorem sH.agg {vs:List V} {cs:Array Value} (h:sH c w vs cs):VR c w (.agg vs) (.agg cs):=by
 refine .agg vs cs h.1 (fun j hj=>?_) (fun j hj=>?_)
 ·obtain ⟨x,hx,hv,_⟩:=h.2 j vs[j] (au hj);rw [show cs.getD j undef=x by simp [j8,hx]];exact hv
 ·obtain ⟨x,hx,_,ho⟩:=h.2 j vs[j] (au hj);rw [show cs.getD j undef=x by simp [j8,hx]];exact ho
theorem sH.of {v:V} {x:Value} (h:VR c w v x) {vs:List V} (hv:kU v=some vs):sH c w vs x.cells:=by
 obtain ⟨h1,h2⟩:=DG h hv;refine ⟨h1,fun j u hu=>?_⟩;obtain ⟨hj,rfl⟩:=ai.1 hu;refine ⟨x.cells[j]'ak,dM,?_⟩;have:=h2 j hj;rw [fM ak] at this;exact this
theorem Bv (off:Nat):∀ (l:List Value) (s:Nat) (cs:Array Value),off+s+l.length≤cs.size →
 ((l.zipIdx s).foldl (fun cs (p:Value × Nat)=>cs.setIfInBounds (off+p.2) p.1) cs).size=cs.size∧∀ k,((l.zipIdx s).foldl (fun cs (p:Value × Nat)=>cs.setIfInBounds (off+p.2) p.1) cs)[k]? = if off+s≤k∧k < off+s+l.length then l[k - (off+s)]? else cs[k]?
 | [],s,cs,_=>⟨rfl,fun k=>by simp;intro h1 h2;omega⟩
 | x :: l,s,cs,h=>by
  have ih:=Bv off l (s+1) (cs.setIfInBounds (off+s) x) (by simp at h ⊢;omega);simp only [List.zipIdx_cons,dc];refine ⟨by rw [ih.1];simp,fun k=>?_⟩;rw [ih.2 k];simp only [aP] at h ⊢
  by_cases h1:off+(s+1)≤k∧k < off+(s+1)+l.length
  ·rw [aD h1,aD ak,show k - (off+s)=(k - (off+(s+1)))+1 by omega];simp
  ·rw [aq h1]
   by_cases h2:k=off+s
   ·subst h2;rw [aD ak,iU];rw [Array.getElem?_setIfInBounds_self_of_lt ak];rfl
   ·rw [aq ak];rw [Array.getElem?_setIfInBounds,aq ak]
theorem HB (place:Nat→Option (Nat × Nat)):∀ (parts:List (Nat × V)) (ps:List (Nat × Value)) (vs:List V) (cs:Array Value) (us:List V),sH c w vs cs→ps.length=parts.length→(∀ (j i:Nat) (v:V),parts[j]? = some (i,v)→∃ x,ps[j]? = some (i,x)∧VR c w v x)→ym place vs parts=some us→∃ ds,Instr.fill place cs ps=some ds∧sH c w us ds
 | [],ps,vs,cs,us,hc,hl,_,hf=>by
  have:ps=[]:=aM hl;subst this;obtain rfl:=ag hf;exact ⟨cs,rfl,hc⟩
 | (i,v) :: parts,ps,vs,cs,us,hc,hl,hr,hf=>by
  cases ps with
  | nil=>cases hl
  | cons p ps =>
   obtain ⟨x,hp,hx⟩:=hr 0 i v rfl;obtain rfl:=ag hp;simp only [ym] at hf
   split at hf
   case h_2=>cases hf
   rename_i off size ys Mg S7
   split at hf
   case isFalse=>cases hf
   rename_i vE;obtain ⟨rfl,hle⟩:=vE;have hxc:=sH.of hx S7;obtain ⟨s1,s2⟩:=Bv off x.cells.toList 0 cs (by simp [hxc.1];rw [hc.1];exact hle)
   have nV:sH c w (vs.take off++ys++vs.drop (off+ys.length)) ((x.cells.toList.zipIdx 0).foldl (fun cs (p:Value × Nat)=>cs.setIfInBounds (off+p.2) p.1) cs):=by
    refine ⟨by rw [s1,hc.1];simp;omega,fun j u hu=>?_⟩;rw [s2 j];simp only [gZ,nP,hxc.1]
    by_cases hin:off≤j∧j < off+ys.length
    ·rw [aD hin];rw [aE,aN fk,bk fk] at hu;have e:j - (vs.take off).length=j - off:=fk;rw [e] at hu;obtain ⟨y,h1,h2⟩:=hxc.2 _ _ hu;exact ⟨y,by simpa using h1,h2⟩
    ·rw [aq hin];rcases ct j off with h1 | h1
     ·rw [aE,bk fk,bp,aD h1] at hu;exact hc.2 _ _ hu
     ·rw [aN fk,dS] at hu;have e:off+ys.length+(j - (vs.take off++ys).length)=j:=fk;rw [e] at hu;exact hc.2 _ _ hu
   have ih:=HB place parts ps _ _ us nV (by simpa using hl) (fun j i v hj=>by
    obtain ⟨x,h1,h2⟩:=hr (j+1) i v hj;exact ⟨x,h1,h2⟩) hf
   obtain ⟨ds,h1,h2⟩:=ih;refine ⟨ds,?_,h2⟩;simp only [Instr.fill,Mg];rw [aq (by simp [hxc.1];rw [hc.1];omega)];rw [← Array.foldl_toList,Array.toList_zipIdx];exact h1
theorem DH {t:TypeId} {i:zI} (h:eT P t=some i):∃ (f:TypeInfo) (z:Value),P.info? t=some f∧f.zero=some z∧sH c w i.zero z.cells:=by
 obtain ⟨f,d,z,h1,h2,h3,h4,h5,h6,h7,h8,h9,yN⟩:=cQ h;refine ⟨f,z,h1,h3,by rw [h9];simp,fun j v hv=>?_⟩;rw [h9,aL] at hv;obtain ⟨x,hx,rfl⟩:=aB.1 hv;exact ⟨x,by simpa using hx,xp c w x,yN x (List.mem_of_getElem? hx)⟩
theorem run_places:∀ (l:List Field),(∀ f∈l,∃ i,P.info? f.type=some i)→∀ w:World,(l.mapM (fun f=>Prod.mk f.offset <$> sizeOf f.type):Sem (List (Nat × Nat))).run P w = .ok (l.map fun f=>(f.offset,wg P f.type)) w
 | [],_,w=>dM
 | f :: l,h,w=>by
  obtain ⟨i,hi⟩:=h f dM;have ih:=run_places l (fun g hg=>h g (by simp [hg])) w;have hs:wg P f.type=i.size:=by simp [wg,hi]
  simp [gQ,run_sizeOf hi,ih,hs]
theorem S8 {t:TypeId} {parts:List (Nat × V)} {ps:Array (Nat × Value)} (hl:ps.size=parts.length) (hr:∀ (j i:Nat) (v:V),parts[j]? = some (i,v)→∃ x,ps[j]? = some (i,x)∧VR c w v x) {v:V} (hv:xu P t parts=some v):∃ y,(Instr.build t ps).run P w = .ok y w∧VR c w v y:=by
 unfold xu at hv
 split at hv
 case h_2=>cases hv
 rename_i i hi
 split at hv
 case h_2=>cases hv
 rename_i fs Mz;obtain ⟨us,hf,rfl⟩:=aB.1 hv;obtain ⟨f,d,z,h1,h2,h3,h4,h5,h6,h7,h8,h9,yN⟩:=cQ hi;obtain ⟨f',z',k1,k2,hz⟩:=DH (c:=c) (w:=w) hi;rw [h1] at k1;obtain rfl:=ag k1;rw [h3] at k2;obtain rfl:=ag k2;rw [Mz] at h6;obtain ⟨Fs,rfl,j4,rfl⟩:=Cc h6
 obtain ⟨ds,e1,e2⟩:=HB _ parts ps.toList _ _ us hz (by simpa using hl) (fun j i v hj=>by
  obtain ⟨x,h1,h2⟩:=hr j i v hj;exact ⟨x,by simpa using h1,h2⟩) hf
 refine ⟨.agg ds,?_,e2.agg⟩;have hp:=run_places (P:=P) Fs.toList j4 w;simp [Instr.build,zeroValue,typeInfo,h1,h3,run_underlying h2];rw [Array.mapM_eq_mapM_toList];simp [hp]
 have e1':Instr.fill (fun x=>Option.map (fun f=>(f.offset,wg P f.type)) Fs[x]?) z.cells ps.toList=some ds:=by
  rw [← e1]
  congr 1
  funext x
  simp
 rw [e1'];rfl
theorem JR:∀ (l:List V) (r:List D),l.mapM uw=some r→r.length=l.length∧∀ (q:Nat) (d:D),r[q]? = some d→∃ v,l[q]? = some v∧uw v=some d
 | [],r,h=>by
  have:r=[]:=by simpa using h.symm
  subst this;exact ⟨rfl,fun q d h=>by simp at h⟩
 | v :: l,r,h=>by
  rw [gQ] at h;cases hv:uw v with
  | none=>simp [hv] at h
  | some d0 =>
   cases hl:l.mapM uw with
   | none=>simp [hv,hl] at h
   | some r0 =>
    have hr:d0 :: r0=r:=by simpa [hv,hl] using h
    subst hr;obtain ⟨h1,h2⟩:=JR l r0 hl;refine ⟨by simp [h1],fun q d hq=>?_⟩;cases q with
    | zero=>exact ⟨v,rfl,by rw [hv];simpa using hq⟩
    | succ q=>exact h2 q d (by simpa using hq)
theorem JS:∀ (n s:Nat) (l:List V) (rows:List (List D)),chunk n s l=some rows→l.length=n * s→rows.length=n∧(∀ r∈rows,r.length=s)∧∀ (j q:Nat) (r:List D) (d:D),rows[j]? = some r→r[q]? = some d→∃ v,l[j * s+q]? = some v∧uw v=some d
 | 0,s,l,rows,h,hl=>by
  obtain rfl:=ag h;exact ⟨rfl,dM,fun j q r d h=>by simp at h⟩
 | n+1,s,l,rows,h,hl=>by
  simp only [chunk] at h
  split at h
  case h_2=>cases h
  rename_i r rs h1 h2;obtain rfl:=ag h;obtain ⟨a1,a2⟩:=JR _ _ h1;have Cd:(l.drop s).length=n * s:=by rw [eG,hl,ej];omega
  obtain ⟨b1,b2,b3⟩:=JS n s _ rs h2 Cd;have hs:s≤l.length:=by rw [hl,ej];omega
  have hr:r.length=s:=by rw [a1];simp;omega
  refine ⟨by simp [b1],fun x hx=>?_,fun j q x d hj hq=>?_⟩
  ·rcases bB.1 hx with rfl | hx
   ·exact hr
   ·exact b2 x hx
  ·cases j with
   | zero =>
    have:r=x:=by simpa using hj
    subst this;obtain ⟨v,h3,h4⟩:=a2 q d hq;refine ⟨v,?_,h4⟩;rw [gk,bf];rw [bp] at h3
    split at h3
    ·exact h3
    ·cases h3
   | succ j =>
    obtain ⟨v,h3,h4⟩:=b3 j q x d (by simpa using hj) hq;refine ⟨v,?_,h4⟩;rw [dS] at h3;rw [ej,Nat.one_mul,show j * s+s+q=s+(j * s+q) by omega];exact h3
theorem aa9 (z:List V) (zc:Array Value) (hz:sH c w z zc):∀ n,sH c w (rep n z) ((Array.range (n * z.length)).map (zc[· % zc.size]!)):=by
 have hlen:∀ n,(rep n z).length=n * z.length:=by
  intro n
  induction n with
  | zero=>simp [rep]
  | succ n ih=>simp [rep,ih,ej];omega
 have CO:∀ n (j:Nat) (v:V),(rep n z)[j]? = some v→z[j % z.length]? = some v:=by
  intro n
  induction n with
  | zero=>intro j v h;simp [rep] at h
  | succ n ih =>
   intro j v h;simp only [rep] at h;rcases ct j z.length with h1 | h1
   ·rw [bk h1] at h;rw [Nat.mod_eq_of_lt h1];exact h
   ·rw [aN h1] at h;have:=ih _ _ h;rw [Nat.mod_eq_sub_mod h1];exact this
 intro n;refine ⟨by simp [hlen],fun j v hv=>?_⟩;have hj:j < n * z.length:=by rw [← hlen];exact (ai.1 hv).1
 obtain ⟨x,hx,h2⟩:=hz.2 _ _ (CO n j v hv);refine ⟨x,?_,h2⟩;obtain ⟨bu,hxe⟩:=bD.1 hx;rw [Array.getElem?_map];rw [Array.getElem?_range,aD hj];simp only [cJ,hz.1];rw [getElem!_pos zc (j % z.length) bu,hxe]
theorem S9 (h:ji c w S) (rows:List (List D)) (sz:Nat) (h0:0 < sz) (hr:∀ r∈rows,r.length=sz) (yM:rows.length≤9223372036854775807) (e:TypeId) (cs:Array Value)
 (hd:∀ (j q:Nat) (r:List D) (d:D),rows[j]? = some r→r[q]? = some d→∃ x,cs[j * sz+q]? = some x∧DR c.M w d x) :
 ji c (w.alloc (.cells cs e)) S∧Ext c w c (w.alloc (.cells cs e))∧VR c (w.alloc (.cells cs e)) (.sl rows .full) (.slice (some ⟨w.heap.size,0,none⟩) rows.length rows.length):=by
 obtain ⟨h1,h2⟩:=h.aek (.cells cs e);refine ⟨h1,h2,.full rows _ ?_ (fun p hp=>by obtain rfl:=ag hp;exact ⟨rfl,h.hB.2⟩)⟩
 have l8:∀ k,(w.alloc (.cells cs e)).cell? ⟨w.heap.size,k,none⟩=cs[k]?:=by
  intro k;have hb:=heap_alloc_new w (.cells cs e);simp only [World.cell?,hb];rfl
 refine .sl rows sz _ rows.length (fun j q=>cs.getD (j * sz+q) undef) h0 hr (aA _) yM (fun _=>⟨w.heap.size,0,rfl,fun j hj q hq=>⟨h.Dy (aA _),?_⟩⟩) (fun j hj q hq=>?_)
 ·obtain ⟨x,hx,_⟩:=hd j q _ _ (au hj) (au hq);rw [bf,l8,hx];simp [j8,hx]
 ·obtain ⟨x,hx,JN⟩:=hd j q _ _ (au hj) (au hq);rw [show cs.getD (j * sz+q) undef=x by simp [j8,hx]];exact JN.jC h2.keeps
theorem FG (h:ji c w S) {t:TypeId} {len:Nat} {parts:List (Nat × V)} {ps:Array (Nat × Value)} (hl:ps.size=parts.length) (hr:∀ (j i:Nat) (v:V),parts[j]? = some (i,v)→∃ x,ps[j]? = some (i,x)∧VR c w v x) {v:V} (hv:r6 P t len parts=some v) :
 ∃ y w',(Instr.buildSlice t len ps).run P w = .ok y w'∧ji c w' S∧Ext c w c w'∧VR c w' v y:=by
 unfold r6 at hv
 split at hv
 case h_2=>cases hv
 rename_i i hi
 split at hv
 case h_2=>cases hv
 rename_i e he
 split at hv
 case h_2=>cases hv
 rename_i te sq
 split at hv
 case isFalse=>cases hv
 rename_i vE;obtain ⟨SS,Ta⟩:=vE
 split at hv
 case h_2=>cases hv
 rename_i flat ZR;obtain ⟨rows,vF,rfl⟩:=aB.1 hv;obtain ⟨fi,d,z,h1,h2,h3,h4,h5,h6,h7,h8,h9,yN⟩:=cQ hi;rw [he] at h6;obtain rfl:=fN h6;obtain ⟨gi,d2,z2,g1,g2,g3,g4,g5,g6,g7,g8,g9,g10⟩:=cQ sq;obtain ⟨f',z',k1,k2,hz⟩:=DH (c:=c) (w:=w) sq;rw [g1] at k1;obtain rfl:=ag k1;rw [g3] at k2;obtain rfl:=ag k2;have hzl:te.zero.length=te.size:=by rw [g9];simp [g8]
 have Bw:=aa9 (c:=c) (w:=w) te.zero z2.cells hz len;rw [hzl] at Bw
 obtain ⟨ds,e1,e2⟩:=HB _ parts ps.toList _ _ flat Bw (by simpa using hl) (fun j i v hj=>by
  obtain ⟨x,h1,h2⟩:=hr j i v hj;exact ⟨x,by simpa using h1,h2⟩) ZR
 have hds:ds.size=flat.length:=e2.1
 have aet:flat.length=len * te.size:=by
  have:∀ (parts:List (Nat × V)) (vs us:List V),ym (fun k=>some (k * te.size,te.size)) vs parts=some us→us.length=vs.length:=by
   intro parts
   induction parts with
   | nil=>intro vs us h;obtain rfl:=ag h;rfl
   | cons p parts ih =>
    intro vs us h;obtain ⟨i,v⟩:=p;simp only [ym] at h
    split at h
    case h_2=>cases h
    rename_i off size ys hp S7;obtain ⟨rfl,rfl⟩:=aR (ag hp)
    split at h
    case isFalse=>cases h
    rename_i hc;rw [ih _ _ h];simp;omega
  rw [this _ _ _ ZR,← Bw.1];simp
 obtain ⟨b1,b2,b3⟩:=JS len te.size flat rows vF aet
 have nV:=S9 h rows te.size SS b2 (by
  rw [b1];have:len≤len * te.size:=uv _ SS;omega) e ds (fun j q r d hj hq=>by
  obtain ⟨v,h3,h4⟩:=b3 j q r d hj hq;obtain ⟨x,h5,h6,_⟩:=e2.2 _ _ h3;exact ⟨x,h5,mV h6 h4⟩)
 refine ⟨_,_,?_,nV⟩;rw [b1];have MA:¬ (16777216 < len * te.size):=ak
 by_cases hlen:len=0
 ·subst hlen;have hr0:∀ f:Nat→Value,(Array.range 0).map f = #[]:=fun f=>dM;rw [gk,hr0] at e1;simp [Instr.buildSlice,run_underlying h2,run_sizeOf g1,g4,e1,hr0,newRow]
 ·have gW:¬ (len * te.size=0):=by
   have:=Nat.mul_pos (Nat.pos_of_ne_zero hlen) SS;omega
  simp [Instr.buildSlice,run_underlying h2,run_sizeOf g1,g4,MA,gW,zeroValue,typeInfo,g1,g3,newRow,e1]
end
theorem ji.under {c:Cx} {w w':World} {S:Mem} (h:ji c w S) (hb:Below w.heap.size w w'):ji c w' S∧Ext c w c w':=by
 have hk:oH c w c w':=⟨fun g k v hm hv=>⟨hm,by rw [hb.cell (p:=⟨g,k,none⟩) (xm hv)];exact hv⟩,fun _ _ h=>h,fun _ i h=>⟨i,h,rfl,aA _,fun _=>rfl⟩,rfl,fun b _ h=>h.uu (hb.block b h.lt)⟩;have hbB:Below c.B w w':=hb.mono h.hB.2;refine ⟨⟨⟨h.hB.1,iT h.hB.2 hb.size⟩,h.len,fun i b hi=>?_,h.inj,h.dG,fun t i ht=>?_,h.yL,fun w2 hw=>h.inv w2 (hbB.trans hw)⟩,hk,rfl,rfl,rfl,hbB⟩
 ·obtain ⟨a,o,hh,vs,e1,e2⟩:=h.box i b hi;exact ⟨a,o,by rw [hb.block b (h.lt hi)];exact hh,vs,e1,e2.jC hk⟩
 ·obtain ⟨a1,a2,a3,a4,a5⟩:=h.tok t i ht;refine ⟨a1,a2,a3,a4,fun hn g off ha=>?_⟩;obtain ⟨b1,b2,cur,T,fz,hh,r⟩:=a5 hn g off ha;exact ⟨b1,b2,cur,T,fz,by rw [hb.block g (bD.1 hh).1];exact hh,r⟩
def fE (sz:Nat) (rows:List (List D)):Bool:=rows.all fun r=>r.length == sz
theorem nj {sz:Nat} {rows:List (List D)} (h:fE sz rows=true):∀ r∈rows,r.length=sz:=by
 intro r hr;have:=cC.1 h r hr
 simpa using this
theorem nk {α:Type} {sz:Nat} (f:α→List D) (h:∀ x,(f x).length=sz) (l:List α):fE sz (l.map f)=true:=by
 simp [fE,h]
def ZS (d:Int):Option V→Option Int
 | none=>some d
 | some (.d (.int _ n))=>some n
 | _=>none
def Dc (P:Program) (t:TypeId) (x:V) (lo hi:Option V):Option V :=
 match eT P t,uw x with
 | some ti,some (.sl rows)=>match ti.d,ZS 0 lo,ZS rows.length hi with
  | .slice e,some l,some h=>match eT P e with
   | some te=>if 0≤l∧l≤h∧h≤(rows.length:Int)∧fE te.size rows=true∧0 < te.size then some (.d (.sl ((rows.drop l.toNat).take (h.toNat - l.toNat)))) else none
   | none=>none
  | _,_,_=>none
 | some ti,some (.str s)=>match ti.d,ZS 0 lo,ZS s.length hi with
  | .string,some l,some h=>if 0≤l∧l≤h∧h≤(s.length:Int) then some (.d (.str ((s.drop l.toNat).take (h.toNat - l.toNat)))) else none
  | _,_,_=>none
 | _,_=>none
def Dd (P:Program) (t:TypeId) (x i:V):Option V :=
 match eT P t,x,i with
 | some ti,.d (.str s),.d (.int _ n)=>match ti.d,s[n.toNat]? with
  | .string,some b=>if 0≤n then some (.d (.int .u8 (b.toNat:Int))) else none
  | _,_=>none
 | some ti,.agg vs,.d (.int _ n)=>match ti.d with
  | .array len e=>match eT P e with
   | some ei=>if 0≤n∧n < len then yj ei vs (n.toNat * ei.size) else none
   | none=>none
  | _=>none
 | _,_,_=>none
def tW (op:BinOp) (k k':IntKind) (a b:Int):Option V :=
 match op with
 | .shl=>if 0≤b then some (.d (.int k (k.wrap (a * 2 ^ (min b.toNat k.bits))))) else none
 | .shr=>if 0≤b then some (.d (.int k (a.fdiv (2 ^ (min b.toNat k.bits))))) else none
 | op=>if k=k' then match op with
  | .add=>some (.d (.int k (k.wrap (a+b))))
  | .sub=>some (.d (.int k (k.wrap (a - b))))
  | .mul=>some (.d (.int k (k.wrap (a * b))))
  | .quo=>if b=0 then none else some (.d (.int k (k.wrap (a.tdiv b))))
  | .rem=>if b=0 then none else some (.d (.int k (a.tmod b)))
  | .and=>some (.d (.int k (k.wrap (BitVec.ofInt k.bits a &&& BitVec.ofInt k.bits b).toNat)))
  | .or=>some (.d (.int k (k.wrap (BitVec.ofInt k.bits a ||| BitVec.ofInt k.bits b).toNat)))
  | .xor=>some (.d (.int k (k.wrap (BitVec.ofInt k.bits a ^^^ BitVec.ofInt k.bits b).toNat)))
  | .andNot=>some (.d (.int k (k.wrap (BitVec.ofInt k.bits a &&& ~~~ BitVec.ofInt k.bits b).toNat)))
  | .eql=>some (.d (.bool (decide (a=b))))
  | .neq=>some (.d (.bool (!decide (a=b))))
  | .lss=>some (.d (.bool (decide (a < b))))
  | .leq=>some (.d (.bool (decide (a≤b))))
  | .gtr=>some (.d (.bool (decide (b < a))))
  | .geq=>some (.d (.bool (decide (b≤a))))
  | _=>none
  else none
def DI (op:BinOp) (a b:List UInt8):Option V :=
 match op with
 | .add=>if a.length+b.length≤9223372036854775807 then some (.d (.str (a++b))) else none
 | .eql=>some (.d (.bool (decide (a=b))))
 | .neq=>some (.d (.bool (!decide (a=b))))
 | .lss=>some (.d (.bool (Op.bytesLess a b)))
 | .leq=>some (.d (.bool (Op.bytesLess a b || decide (a=b))))
 | .gtr=>some (.d (.bool (!(Op.bytesLess a b || decide (a=b)))))
 | .geq=>some (.d (.bool (!Op.bytesLess a b)))
 | _=>none
def ptrEq:V→V→Option Bool
 | .oU,.oU=>some true
 | .ptr _ _,.oU=>some false
 | .oU,.ptr _ _=>some false
 | .nc _ _,.oU=>some false
 | .oU,.nc _ _=>some false
 | _,_=>none
def Tc (P:Program) (op:BinOp) (t:TypeId) (x y:V):Option V :=
 match eT P t with
 | some ti=>match ti.d,op,ptrEq x y with
  | .pointer,.eql,some b=>some (.d (.bool b))
  | .pointer,.neq,some b=>some (.d (.bool (!b)))
  | _,_,_=>none
 | none=>none
def DJ (P:Program) (op:BinOp) (t:TypeId) (x y:V):Option V :=
 match x,y with
 | .d (.int k a),.d (.int k' b)=>tW op k k' a b
 | .d (.str a),.d (.str b)=>DI op a b
 | .d (.bool a),.d (.bool b)=>match eT P t with
  | some ti=>match ti.d,op with
   | .bool,.eql=>some (.d (.bool (a == b)))
   | .bool,.neq=>some (.d (.bool (!(a == b))))
   | _,_=>none
  | none=>none
 | x,y=>Tc P op t x y
def Qm (op:UnOp) (x:V):Option V :=
 match op,x with
 | .not,.d (.bool b)=>some (.d (.bool (!b)))
 | .neg,.d (.int k n)=>some (.d (.int k (k.wrap (0 - n))))
 | _,_=>none
def lX (b:UInt8):List D:=[.int .u8 (b.toNat:Int)]
def byteOf:List D→Option UInt8
 | [.int .u8 n]=>if 0≤n∧n≤255 then some (UInt8.ofNat n.toNat) else none
 | _=>none
def fromBytes (rows:List (List D)):Option (List UInt8):=rows.mapM byteOf
def zK (P:Program) (src dst:TypeId) (e:TypeId) (x:V):Option V :=
 match x with
 | .sl (r :: rows) .full=>if src=dst then (match eT P e with
  | some te=>match te.d with
   | .int .u8=>some (.sl (r :: rows) .full)
   | _=>none
  | none=>none) else none
 | _=>none
def HH (P:Program) (src dst:TypeId) (x:V):Option V :=
 match eT P src,eT P dst with
 | some si,some di=>match di.d,uw x with
  | .int k,some (.int _ n)=>some (.d (.int k (k.wrap n)))
  | .string,some (.str s)=>some (.d (.str s))
  | .string,some (.sl rows)=>match si.d with
   | .slice e=>match eT P e with
    | some te=>match te.d with
     | .int .u8=>(fromBytes rows).map fun s=>.d (.str s)
     | _=>none
    | none=>none
   | _=>none
  | .slice e,some (.str s)=>match eT P e with
   | some te=>match te.d with
    | .int .u8=>some (.d (.sl (s.map lX)))
    | _=>none
   | none=>none
  | .slice e,some (.sl _)=>zK P src dst e x
  | _,_=>none
 | _,_=>none
def HJ (P:Program) (us:TypeId) (te:zI) (x:V):Option (List (List D)) :=
 match eT P us,uw x with
 | some ui,some (.sl bU)=>match ui.d with
  | .slice _=>some bU
  | _=>none
 | some ui,some (.str s)=>match ui.d,te.d with
  | .string,.int .u8=>if te.size=1 then some (s.map lX) else none
  | _,_=>none
 | _,_=>none
def ux (P:Program) (ts us:TypeId) (S:Mem) (s x:V):Option (V × Mem) :=
 match eT P ts,s with
 | some ti,.sl rows (.own t)=>match ti.d with
  | .slice e=>match eT P e with
   | some te=>match S.dG[t]?,HJ P us te x with
    | some (n,sz),some bU=>if n=rows.length∧sz=te.size∧fE sz bU=true∧(rows.length+bU.length) * te.bytes≤140737488355328∧1≤te.bytes then
     some (.sl (rows++bU) (.own t),{ S with dG:=S.dG.set t (rows.length+bU.length,sz) }) else none
    | _,_=>none
   | none=>none
  | _=>none
 | _,_=>none
def Bx (P:Program) (ts us:TypeId) (S:Mem) (rows:List (List D)) (x:V):Option (V × Mem) :=
 match eT P ts with
 | some ti=>match ti.d with
  | .slice e=>match eT P e with
   | some te=>if 0 < te.size∧fE te.size rows=true then ux P ts us ⟨S.boxes,S.dG++[(rows.length,te.size)]⟩ (.sl rows (.own S.dG.length)) x else none
   | none=>none
  | _=>none
 | none=>none
def wj (P:Program) (ts us:TypeId) (S:Mem) (s x:V):Option (V × Mem) :=
 match s with
 | .sl rows .full=>Bx P ts us S rows x
 | s=>ux P ts us S s x
theorem Ce:∀ (rows:List (List D)) (s:List UInt8),rows.mapM byteOf=some s→rows=s.map lX
 | [],s,h=>by
  have:s=[]:=by simpa using h.symm
  subst this;rfl
 | r :: rows,s,h=>by
  rw [gQ] at h;cases hr:byteOf r with
  | none=>simp [hr] at h
  | some b =>
   cases hl:rows.mapM byteOf with
   | none=>simp [hr,hl] at h
   | some s0 =>
    have:b :: s0=s:=by simpa [hr,hl] using h
    subst this;rw [cw,← Ce rows s0 hl]
    congr 1
    unfold byteOf at hr
    split at hr
    ·rename_i n
     split at hr
     ·rename_i hn;obtain rfl:=ag hr;have h2:(UInt8.ofNat n.toNat).toNat=n.toNat:=by simp [UInt8.toNat_ofNat'];omega
      simp only [lX,h2];rw [Int.toNat_of_nonneg hn.1]
     ·cases hr
    ·cases hr
section
variable {P:Program} {c:Cx} {w:World} {S:Mem}
theorem W3 {t e:Nat} (h:P.underlying t=some (.slice e)):P.elem t=e:=by simp [Program.elem,h]
theorem HO {d n:Int} {o:Option V} {O:Option Value} (ho:o.isSome=O.isSome) (hr:∀ v x,o=some v→O=some x→VR c w v x) (h:ZS d o=some n):(O=none∧n=d)∨∃ k,O=some (.int k n):=by
 cases o with
 | none =>
  cases O with
  | none=>exact .inl ⟨rfl,(ag h).symm⟩
  | some x=>cases ho
 | some v =>
  cases O with
  | none=>cases ho
  | some x =>
   have:=hr v x rfl rfl;cases this with
   | d y _ hd =>
    cases hd with
    | int k m =>
     obtain rfl:=ag h;exact .inr ⟨k,rfl⟩
    | _=>cases h
   | _=>cases h
theorem Td {t:TypeId} {x v:V} {X:Value} {lo hi:Option V} {LO HI:Option Value} (hx:VR c w x X) (HU:lo.isSome=LO.isSome) (aeu:∀ v x,lo=some v→LO=some x→VR c w v x) (ZT:hi.isSome=HI.isSome) (aev:∀ v x,hi=some v→HI=some x→VR c w v x)
 (hv:Dc P t x lo hi=some v):∃ y,(Instr.sliceAt t X LO HI none).run P w = .ok y w∧VR c w v y:=by
 unfold Dc at hv
 split at hv
 case h_3=>cases hv
 ·rename_i ti rows ht hd
  split at hv
  case h_2=>cases hv
  rename_i e l h he hl hh
  split at hv
  case h_2=>cases hv
  rename_i te sq
  split at hv
  case isFalse=>cases hv
  rename_i vE;obtain ⟨c0,c1,c2,c3,c4⟩:=vE;obtain rfl:=ag hv;obtain ⟨fi,d,z,h1,h2,h3,h4,h5,h6,_⟩:=cQ ht;obtain ⟨gi,d2,z2,g1,g2,g3,g4,_⟩:=cQ sq;rw [he] at h6;obtain rfl:=fN h6;have uq:=W3 h2;have h2':P.underlying t=some (.slice (P.elem t)):=by rw [uq];exact h2
  have hD:=mV hx hd;have jS:=nj c3;cases hD with
  | sl _ sz a cap f SS ZQ Wm hm hs hdd =>
   have eI:(Instr.sliceAt t (.slice a rows.length cap) LO HI none).run P w = .ok (sliced a l.toNat h.toNat cap te.size) w:=by
    rw [run_sliceAt_slice w t _ _ _ _ h2'];have ZU:(sizeOf (P.elem t)).run P w = .ok te.size w:=by rw [uq,run_sizeOf g1,g4]
    rcases HO HU aeu hl with ⟨rfl,rfl⟩ | ⟨kl,rfl⟩<;>rcases HO ZT aev hh with ⟨rfl,rfl⟩ | ⟨kh,rfl⟩
    ·rw [run_slice_all w t a _ cap h2',ZU];simp
    ·rw [run_slice_h w t a _ cap h2' kh h ak ak,ZU];simp
    ·rw [run_slice_l w t a _ cap h2' kl l c0 c1,ZU];simp
    ·rw [run_slice_lh w t a _ cap h2' kl kh l h c0 c1 ak,ZU];simp
   refine ⟨_,eI,.d _ _ ?_⟩;have hlen:((rows.drop l.toNat).take (h.toNat - l.toNat)).length=h.toNat - l.toNat:=fk
   have CO:∀ j (hj:j < ((rows.drop l.toNat).take (h.toNat - l.toNat)).length),((rows.drop l.toNat).take (h.toNat - l.toNat))[j]=rows[l.toNat+j]'(by rw [hlen] at hj;omega):=by
    intro j hj;simp
   suffices key:DR c.M w (.sl ((rows.drop l.toNat).take (h.toNat - l.toNat))) (.slice (if cap=l.toNat then a else a.map (·.add (l.toNat * te.size))) ((rows.drop l.toNat).take (h.toNat - l.toNat)).length (cap - l.toNat)) by
    rw [hlen] at key;exact key
   refine DR.sl _ sz _ (cap - l.toNat) (fun j q=>f (l.toNat+j) q) SS (fun r hr=>ZQ r (List.mem_of_mem_drop (iL hr))) (by rw [hlen];omega) ak (fun gW=>?_) (fun j hj q hq=>?_)
   ·have bu:l.toNat < h.toNat:=by
     have:=jZ.2 gW;omega
    have aew:rows ≠ []:=by
     rintro rfl;simp at c2;omega
    obtain ⟨g,off,rfl,qW⟩:=hs aew
    have esz:sz=te.size:=by
     obtain ⟨r,rest,rfl⟩:=ni aew;rw [← ZQ r dM,jS r dM]
    subst esz;rw [aq ak];refine ⟨g,off+l.toNat * te.size,by simp [Addr.add_plain],fun j hj q hq=>?_⟩;have jT:l.toNat+j < rows.length:=by rw [hlen] at hj;omega
    have:=qW (l.toNat+j) jT q (by rw [CO j hj] at hq;exact hq);rw [ej,← fD] at this;exact this
   ·have jT:l.toNat+j < rows.length:=by rw [hlen] at hj;omega
    have:=hdd (l.toNat+j) jT q (by rw [CO j hj] at hq;exact hq);simp only [CO j hj];exact this
 ·rename_i ti s ht hd
  split at hv
  case h_2=>cases hv
  rename_i l h he hl hh
  split at hv
  case isFalse=>cases hv
  rename_i vE;obtain ⟨c0,c1,c2⟩:=vE;obtain rfl:=ag hv;obtain ⟨fi,d,z,h1,h2,h3,h4,h5,h6,_⟩:=cQ ht;rw [he] at h6;obtain rfl:=oJ h6;have hD:=mV hx hd;cases hD with
  | str _ yM =>
   have vD:(ByteArray.mk s.toArray).size=s.length:=by simp [ByteArray.size_mk']
   have eI:(Instr.sliceAt t (.string ⟨s.toArray⟩) LO HI none).run P w = .ok (.string ((ByteArray.mk s.toArray).extract l.toNat h.toNat)) w:=by
    rw [run_sliceAt_string w t _ _ _ _ h2];rcases HO HU aeu hl with ⟨rfl,rfl⟩ | ⟨kl,rfl⟩<;>rcases HO ZT aev hh with ⟨rfl,rfl⟩ | ⟨kh,rfl⟩
    ·have:=run_slice_string_all (P:=P) w t ⟨s.toArray⟩ h2;rw [this,vD,ByteArray.extract_mk,ByteArray.extract_mk];simp
    ·have:=run_slice_string_h (P:=P) w t ⟨s.toArray⟩ h2 kh h ak (by rw [vD];omega);rw [this];simp
    ·have:=run_slice_string_l (P:=P) w t ⟨s.toArray⟩ h2 kl l c0 (by rw [vD];omega);rw [this,vD];simp
    ·exact run_slice_string w t ⟨s.toArray⟩ kl kh l h h2 c0 c1 (by rw [vD];omega)
   refine ⟨_,eI,.d _ _ ?_⟩;rw [ByteArray.extract_mk];exact .str _ fk
theorem HY {t:TypeId} {vs:List V} {k:IntKind} {n:Int} {ti:zI} {v:V} {X I:Value} (hx:VR c w (.agg vs) X) (hi:VR c w (.d (.int k n)) I) (ht:eT P t=some ti) (hv:(match ti.d with
 | .array len e=>match eT P e with
  | some ei=>if 0≤n∧n < len then yj ei vs (n.toNat * ei.size) else none
  | none=>none
 | _=>none)=some v):∃ y,(Instr.index t X I).run P w = .ok y w∧VR c w v y:=by
 split at hv
 case h_2=>cases hv
 rename_i len e he
 split at hv
 case h_2=>cases hv
 rename_i ei hei
 split at hv
 case isFalse=>cases hv
 rename_i hn;obtain ⟨fi,d,z,h1,h2,h3,h4,h5,h6,_⟩:=cQ ht;rw [he] at h6;obtain rfl:=My h6;obtain ⟨fe,de,ze,g1,g2,g3,g4,g5,g6,g7,_⟩:=cQ hei;cases hi with
 | d _ _ hi =>
 cases hi;cases hx with
 | agg _ cs q1 q2 q3 =>
 have eI:(Instr.index t (.agg cs) (.int k n)).run P w=(part e cs (n.toNat * ei.size)).run P w:=by
  simp only [Instr.index,asIntOf,Sem.run_bind,Sem.run_pure,Result.andThen_ok,run_underlying h2,aD hn,run_sizeOf g1,g4]
 rw [eI];unfold yj at hv;unfold part;rw [Sem.run_bind,xq g2,g7];simp only [Result.andThen_ok];cases ha:ei.agg with
 | true =>
  rw [ha,aD rfl] at hv;simp only [gj]
  split at hv
  case isFalse=>cases hv
  rename_i hle;obtain rfl:=ag hv;refine ⟨_,by rw [Sem.run_bind,run_sizeOf g1];rfl,?_⟩;rw [g4];refine .agg _ _ fk (fun j hj=>?_) (fun j hj=>?_)
  all_goals
   have jT:j < ei.size:=by simp at hj;omega
   have e1:(cs.extract (n.toNat * ei.size) (n.toNat * ei.size+ei.size)).getD j undef=cs.getD (n.toNat * ei.size+j) undef:=by
    rw [fM fk,fM ak];simp
   rw [e1]
  ·have e2:((vs.drop (n.toNat * ei.size)).take ei.size)[j]=vs[n.toNat * ei.size+j]'ak:=dM;rw [e2];exact q2 _ _
  ·exact q3 _ ak
 | false =>
  rw [ha,aq bH] at hv;simp only [cS,iF];obtain ⟨bu,rfl⟩:=ai.1 hv;have rY:n.toNat * ei.size < cs.size:=ak;refine ⟨cs.getD (n.toNat * ei.size) undef,?_,q2 _ bu⟩;rw [kV rY,fM rY];rfl
theorem Te {t:TypeId} {x i v:V} {X I:Value} (hx:VR c w x X) (hi:VR c w i I) (hv:Dd P t x i=some v):∃ y,(Instr.index t X I).run P w = .ok y w∧VR c w v y:=by
 unfold Dd at hv
 split at hv
 case h_3=>cases hv
 case h_2 ti vs k n ht=>exact HY hx hi ht hv
 rename_i ti s k n ht
 split at hv
 case h_2=>cases hv
 rename_i b he hb
 split at hv
 case isFalse=>cases hv
 rename_i hn;obtain rfl:=ag hv;obtain ⟨fi,d,z,h1,h2,h3,h4,h5,h6,_⟩:=cQ ht;rw [he] at h6;obtain rfl:=oJ h6;obtain ⟨bu,rfl⟩:=ai.1 hb;cases hx with
 | d _ _ hx =>
  cases hx;cases hi with
  | d _ _ hi =>
   cases hi;refine ⟨_,?_,.d _ _ (.int _ _)⟩;rw [run_index_string w t _ k n h2,dif_pos ⟨hn,by simp [ByteArray.size_mk'];omega⟩];rfl
theorem W4 {op:BinOp} {t:TypeId} {k k':IntKind} {a b:Int} {v:V} (hv:tW op k k' a b=some v):∃ z,(binOp op t (.int k a) (.int k' b)).run P w = .ok z w∧VR c w v z:=by
 cases op<;>simp only [tW] at hv
 case add =>
  split at hv
  case isFalse=>cases hv
  rename_i hk;subst hk;obtain rfl:=ag hv;exact ⟨.int k (k.wrap (a+b)),by simp [binOp,Op.intArith],.d _ _ (.int _ _)⟩
 case sub =>
  split at hv
  case isFalse=>cases hv
  rename_i hk;subst hk;obtain rfl:=ag hv;exact ⟨.int k (k.wrap (a - b)),by simp [binOp,Op.intArith],.d _ _ (.int _ _)⟩
 case mul =>
  split at hv
  case isFalse=>cases hv
  rename_i hk;subst hk;obtain rfl:=ag hv;exact ⟨.int k (k.wrap (a * b)),by simp [binOp,Op.intArith],.d _ _ (.int _ _)⟩
 case quo =>
  split at hv
  case isFalse=>cases hv
  rename_i hk;subst hk
  split at hv
  case isTrue=>cases hv
  rename_i hb;obtain rfl:=ag hv;exact ⟨.int k (k.wrap (a.tdiv b)),by simp [binOp,Op.intDiv,hb],.d _ _ (.int _ _)⟩
 case rem =>
  split at hv
  case isFalse=>cases hv
  rename_i hk;subst hk
  split at hv
  case isTrue=>cases hv
  rename_i hb;obtain rfl:=ag hv;exact ⟨.int k (a.tmod b),by simp [binOp,Op.intDiv,hb],.d _ _ (.int _ _)⟩
 case and =>
  split at hv
  case isFalse=>cases hv
  rename_i hk;subst hk;obtain rfl:=ag hv;exact ⟨.int k (k.wrap (BitVec.ofInt k.bits a &&& BitVec.ofInt k.bits b).toNat),by simp only [binOp,ne_eq,pq,iF,Op.intBits,Sem.run_pure],.d _ _ (.int _ _)⟩
 case or =>
  split at hv
  case isFalse=>cases hv
  rename_i hk;subst hk;obtain rfl:=ag hv;exact ⟨.int k (k.wrap (BitVec.ofInt k.bits a ||| BitVec.ofInt k.bits b).toNat),by simp only [binOp,ne_eq,pq,iF,Op.intBits,Sem.run_pure],.d _ _ (.int _ _)⟩
 case xor =>
  split at hv
  case isFalse=>cases hv
  rename_i hk;subst hk;obtain rfl:=ag hv;exact ⟨.int k (k.wrap (BitVec.ofInt k.bits a ^^^ BitVec.ofInt k.bits b).toNat),by simp only [binOp,ne_eq,pq,iF,Op.intBits,Sem.run_pure],.d _ _ (.int _ _)⟩
 case andNot =>
  split at hv
  case isFalse=>cases hv
  rename_i hk;subst hk;obtain rfl:=ag hv;exact ⟨.int k (k.wrap (BitVec.ofInt k.bits a &&& ~~~ BitVec.ofInt k.bits b).toNat),by simp only [binOp,ne_eq,pq,iF,Op.intBits,Sem.run_pure],.d _ _ (.int _ _)⟩
 case eql =>
  split at hv
  case isFalse=>cases hv
  rename_i hk;subst hk;obtain rfl:=ag hv;refine ⟨.bool (decide (a=b)),?_,.d _ _ (.bool _)⟩;simp [binOp,Op.intCmp,jl]
 case neq =>
  split at hv
  case isFalse=>cases hv
  rename_i hk;subst hk;obtain rfl:=ag hv;refine ⟨.bool (!decide (a=b)),?_,.d _ _ (.bool _)⟩;simp [binOp,Op.intCmp,bne,jl]
 case lss =>
  split at hv
  case isFalse=>cases hv
  rename_i hk;subst hk;obtain rfl:=ag hv;refine ⟨.bool (decide (a < b)),?_,.d _ _ (.bool _)⟩;simp [binOp,Op.intCmp]
 case leq =>
  split at hv
  case isFalse=>cases hv
  rename_i hk;subst hk;obtain rfl:=ag hv;refine ⟨.bool (decide (a≤b)),?_,.d _ _ (.bool _)⟩;simp [binOp,Op.intCmp]
 case gtr =>
  split at hv
  case isFalse=>cases hv
  rename_i hk;subst hk;obtain rfl:=ag hv;refine ⟨.bool (decide (b < a)),?_,.d _ _ (.bool _)⟩;simp [binOp,Op.intCmp]
 case geq =>
  split at hv
  case isFalse=>cases hv
  rename_i hk;subst hk;obtain rfl:=ag hv;refine ⟨.bool (decide (b≤a)),?_,.d _ _ (.bool _)⟩;simp [binOp,Op.intCmp]
 case shl =>
  split at hv
  case isFalse=>cases hv
  rename_i hb;obtain rfl:=ag hv;have vG:¬ b < 0:=ak;exact ⟨.int k (k.wrap (a * 2 ^ (min b.toNat k.bits))),by simp [binOp,Op.shift,vG],.d _ _ (.int _ _)⟩
 case shr =>
  split at hv
  case isFalse=>cases hv
  rename_i hb;obtain rfl:=ag hv;have vG:¬ b < 0:=ak;exact ⟨.int k (a.fdiv (2 ^ (min b.toNat k.bits))),by simp [binOp,Op.shift,vG],.d _ _ (.int _ _)⟩
 all_goals (split at hv<;>cases hv)
theorem W6 {op:BinOp} {a b:List UInt8} {v:V} (hv:DI op a b=some v):∃ z,(Op.stringOp op ⟨a.toArray⟩ ⟨b.toArray⟩).run P w = .ok z w∧VR c w v z:=by
 cases op<;>simp only [DI] at hv
 case add =>
  split at hv
  case isFalse=>cases hv
  rename_i hle;obtain rfl:=ag hv;refine ⟨.string ⟨(a++b).toArray⟩,?_,.d _ _ (.str _ fk)⟩;rw [run_string_add_sum w _ _ (by simp [ByteArray.size_mk'];omega),ByteArray.mk_append_mk]
 case eql =>
  obtain rfl:=ag hv;refine ⟨.bool (decide (a=b)),?_,.d _ _ (.bool _)⟩;simp [Op.stringOp,ByteArray.toList_mk,jl]
 case neq =>
  obtain rfl:=ag hv;refine ⟨.bool (!decide (a=b)),?_,.d _ _ (.bool _)⟩;simp [Op.stringOp,ByteArray.toList_mk,jl]
 case lss =>
  obtain rfl:=ag hv;refine ⟨.bool (Op.bytesLess a b),?_,.d _ _ (.bool _)⟩;simp [Op.stringOp,ByteArray.toList_mk]
 case leq =>
  obtain rfl:=ag hv;refine ⟨.bool (Op.bytesLess a b || decide (a=b)),?_,.d _ _ (.bool _)⟩;simp [Op.stringOp,ByteArray.toList_mk,jl]
 case gtr =>
  obtain rfl:=ag hv;refine ⟨.bool (!(Op.bytesLess a b || decide (a=b))),?_,.d _ _ (.bool _)⟩;simp [Op.stringOp,ByteArray.toList_mk,jl]
 case geq =>
  obtain rfl:=ag hv;refine ⟨.bool (!Op.bytesLess a b),?_,.d _ _ (.bool _)⟩;simp [Op.stringOp,ByteArray.toList_mk]
 all_goals cases hv
theorem run_equalIn_bool (d:Nat) (t:TypeId) (h:P.underlying t=some .bool) (a b:Bool):(Op.equalIn (d+1) t (.bool a) (.bool b)).run P w = .ok (a == b) w:=by
 simp [Op.equalIn,run_underlying h]
theorem run_equal_bool (t:TypeId) (h:P.underlying t=some .bool) (a b:Bool):(Op.equal t (.bool a) (.bool b)).run P w = .ok (a == b) w:=by
 exact run_equalIn_bool 9999 t h a b
theorem CP (n:Nat) (t e:TypeId) (h:P.underlying t=some (.pointer e)) (a b:Option Addr) (hn:a=none∨b=none):(Op.equalIn (n+1) t (.pointer a) (.pointer b)).run P w = .ok (a.isNone && b.isNone) w:=by
 rcases hn with rfl | rfl
 ·cases b<;>simp [Op.equalIn,run_underlying h]
 ·cases a<;>simp [Op.equalIn,run_underlying h]
theorem FH (t e:TypeId) (h:P.underlying t=some (.pointer e)) (a b:Option Addr) (hn:a=none∨b=none):(Op.equal t (.pointer a) (.pointer b)).run P w = .ok (a.isNone && b.isNone) w :=
 CP 9999 t e h a b hn
theorem Tf {x y:V} {X Y:Value} (hx:VR c w x X) (hy:VR c w y Y) {b:Bool} (h:ptrEq x y=some b):∃ p q,X = .pointer p∧Y = .pointer q∧(p=none∨q=none)∧b=(p.isNone && q.isNone):=by
 unfold ptrEq at h
 split at h
 case h_6=>cases h
 all_goals
  obtain rfl:=ag h;cases hx;cases hy;exact ⟨_,_,rfl,rfl,dM,rfl⟩
theorem abb {op:BinOp} {t:TypeId} {x y v:V} {X Y:Value} (hx:VR c w x X) (hy:VR c w y Y) (hv:DJ P op t x y=some v) (ex ey:Operand):∃ z,(do eqGuard op t ex ey X Y;binOp op t X Y:Sem Value).run P w = .ok z w∧VR c w v z:=by
 unfold DJ at hv
 split at hv
 case h_4 =>
  unfold Tc at hv
  split at hv
  case h_2=>cases hv
  rename_i ti ht;obtain ⟨fi,d,z,h1,h2,h3,h4,h5,h6,_⟩:=cQ ht
  split at hv
  case h_3=>cases hv
  all_goals
   rename_i b hd hb;obtain rfl:=ag hv;obtain ⟨p,q,rfl,rfl,hn,rfl⟩:=Tf hx hy hb;rw [hd] at h6;obtain ⟨e,rfl⟩:=Hy h6;refine ⟨.bool _,?_,.d _ _ (.bool _)⟩
   have hg:∀ o,(eqGuard o t ex ey (.pointer p) (.pointer q)).run P w = .ok () w:=by
    intro o;unfold eqGuard;cases o<;>rfl
   rw [Sem.run_bind,hg];simp only [Result.andThen_ok,binOp,Sem.run_bind,FH t e h2 p q hn,Sem.run_pure]
 ·rename_i k a k' b;cases hx with
  | d _ _ hx=>cases hx with
   | int _ _=>cases hy with
    | d _ _ hy=>cases hy with
     | int _ _ =>
      have hg:(eqGuard op t ex ey (.int k a) (.int k' b)).run P w = .ok () w:=by
       unfold eqGuard;cases op<;>rfl
      rw [Sem.run_bind,hg];exact W4 hv
 ·rename_i a b;cases hx with
  | d _ _ hx=>cases hx with
   | str _ ha=>cases hy with
    | d _ _ hy=>cases hy with
     | str _ hb =>
      have hg:(eqGuard op t ex ey (.string ⟨a.toArray⟩) (.string ⟨b.toArray⟩)).run P w = .ok () w:=by
       unfold eqGuard;cases op<;>rfl
      rw [Sem.run_bind,hg];have air:binOp op t (.string ⟨a.toArray⟩) (.string ⟨b.toArray⟩)=Op.stringOp op ⟨a.toArray⟩ ⟨b.toArray⟩:=by cases op<;>rfl
      simp only [Result.andThen_ok,air];exact W6 hv
 ·rename_i a b;cases hx with
  | d _ _ hx=>cases hx with
   | bool _=>cases hy with
    | d _ _ hy=>cases hy with
     | bool _ =>
      split at hv
      case h_2=>cases hv
      rename_i ti ht;obtain ⟨fi,d,z,h1,h2,h3,h4,h5,h6,_⟩:=cQ ht
      have hg:(eqGuard op t ex ey (.bool a) (.bool b)).run P w = .ok () w:=by
       unfold eqGuard;cases op<;>rfl
      rw [Sem.run_bind,hg];simp only [Result.andThen_ok]
      split at hv
      case h_3=>cases hv
      all_goals
       rename_i he;rw [he] at h6;obtain rfl:=Ql h6;obtain rfl:=ag hv;refine ⟨.bool _,?_,.d _ _ (.bool _)⟩;simp only [binOp,Sem.run_bind,run_equal_bool t h2,Result.andThen_ok,Sem.run_pure]
theorem aex {op:UnOp} {x v:V} {X:Value} (hx:VR c w x X) (hv:Qm op x=some v):∃ z,(Op.unary op X).run P w = .ok z w∧VR c w v z:=by
 unfold Qm at hv
 split at hv
 case h_3=>cases hv
 ·obtain rfl:=ag hv;cases hx with
  | d _ _ hx=>cases hx with
   | bool b=>exact ⟨_,rfl,.d _ _ (.bool _)⟩
 ·obtain rfl:=ag hv;cases hx with
  | d _ _ hx=>cases hx with
   | int k n=>exact ⟨_,rfl,.d _ _ (.int _ _)⟩
end
section
variable {P:Program} {c:Cx} {w:World} {S:Mem}
theorem MB {M:Nat→Nat→Prop} {w:World} {s:List UInt8} {a:Option Addr} {n cap:Nat} (h:DR M w (.sl (s.map lX)) (.slice a n cap)):n=s.length∧(s ≠ []→∃ g off,a=some ⟨g,off,none⟩∧∀ j u,(bv s)[j]? = some u→w.cell? ⟨g,off+j,none⟩=some u):=by
 obtain ⟨hn,hc,hm,F,hs,hd⟩:=h.flat 1 (by intro r hr;obtain ⟨b,_,rfl⟩:=eu.1 hr;rfl);refine ⟨by simpa using hn,fun gW=>?_⟩;obtain ⟨_,g,off,ha,qW⟩:=hs (by simpa using gW);refine ⟨g,off,ha,fun j u hu=>?_⟩
 have hj:j < s.length:=by
  have:=(ai.1 hu).1
  simpa [bv] using this
 have h1:=(qW j (by simpa using hj)).2;have h2:=hd j (by simpa using hj) 0 (by simp [lX]);simp only [dy,lX,gm,tC,gZ] at h2;rw [h1];simp only [bv,aL,au hj,cJ,fX] at hu;subst hu;generalize F j=y at h2 ⊢;cases h2;rfl
theorem Gb (w:World) (g n b:Nat):(w.freeze ⟨g,n,none⟩ 1).heap[b]? = if g=b then (w.heap[b]?).map (fun
 | .cells c elem (lo,hi)=>.cells c elem (if lo == hi then (n,n+1) else (min lo n,max hi (n+1)))
 | o=>o) else w.heap[b]?:=by
 unfold World.freeze;rw [aq bH];simp only [Array.getElem?_modify]
 split<;>rfl
theorem ji.freeze (h:ji c w S) {g:Nat} (hg:c.B≤g) (hρ:g ∉ c.ρ) {cs:Array Value} {T:TypeId} {fz:Nat × Nat} (hh:w.heap[g]? = some (.cells cs T fz)):ji c (w.freeze ⟨g,cs.size,none⟩ 1) S∧Ext c w c (w.freeze ⟨g,cs.size,none⟩ 1):=by
 have hold:∀ b,b ≠ g→(w.freeze ⟨g,cs.size,none⟩ 1).heap[b]? = w.heap[b]?:=fun b hb=>by rw [Gb,aq (fun e=>hb e.symm)]
 have nV:(w.freeze ⟨g,cs.size,none⟩ 1).heap[g]? = some (.cells cs T (if fz.1 == fz.2 then (cs.size,cs.size+1) else (min fz.1 cs.size,max fz.2 (cs.size+1)))):=by
  rw [Gb,aD rfl,hh];rfl
 have vD:(w.freeze ⟨g,cs.size,none⟩ 1).heap.size=w.heap.size:=by
  unfold World.freeze;rw [aq bH];simp
 have l8:∀ b k,(w.freeze ⟨g,cs.size,none⟩ 1).cell? ⟨b,k,none⟩=w.cell? ⟨b,k,none⟩:=by
  intro b k
  by_cases hb:b=g
  ·subst hb;simp [World.cell?,nV,hh]
  ·simp only [World.cell?,hold b hb]
 have Hu:Below c.B w (w.freeze ⟨g,cs.size,none⟩ 1):=by
  refine ⟨?_,?_,?_,by rw [vD];exact aA _,fun k hk=>hold k ak⟩
  all_goals
   unfold World.freeze;rw [aq bH]
 have hk:oH c w c (w.freeze ⟨g,cs.size,none⟩ 1):=⟨fun b k v hm hv=>⟨hm,by rw [l8];exact hv⟩,fun _ _ h=>h,fun _ i h=>⟨i,h,rfl,aA _,fun _=>rfl⟩,rfl,fun b T' h=>by
  by_cases e:b=g
  ·subst e;obtain ⟨cs1,fz1,h⟩:=h;rw [hh] at h;obtain ⟨rfl,rfl,rfl⟩:cs=cs1∧T=T'∧fz=fz1:=Obj.cells.inj (ag h);exact ⟨_,_,nV⟩
  ·exact h.uu (hold b e)⟩
 refine ⟨⟨⟨h.hB.1,by rw [vD];exact h.hB.2⟩,h.len,fun i b hi=>?_,h.inj,h.dG,fun t i ht=>?_,h.yL,fun w' WW=>h.inv w' (Hu.trans WW)⟩,hk,rfl,rfl,rfl,Hu⟩
 ·obtain ⟨a,o1,WZ,vs,e1,e2⟩:=h.box i b hi;have gW:b ≠ g:=fun e=>hρ (ql.2 ⟨i,by rw [← e];exact hi⟩);exact ⟨a,o1,by rw [hold b gW];exact WZ,vs,e1,e2.jC hk⟩
 ·obtain ⟨a1,a2,a3,a4,a5⟩:=h.tok t i ht;refine ⟨a1,a2,a3,a4,fun hn g2 off ha=>?_⟩;obtain ⟨b1,b2,cur,T2,fz2,hh2,b3,b4⟩:=a5 hn g2 off ha
  by_cases gW:g2=g
  ·subst gW;rw [hh] at hh2
   obtain ⟨rfl,rfl,rfl⟩:cs=cur∧T=T2∧fz=fz2:=by
    have:=Obj.cells.inj (ag hh2);exact this
   refine ⟨b1,b2,cs,T,_,nV,b3,.inl ?_⟩
   split
   ·exact b3
   ·rename_i HU;rcases b4 with b4 | b4
    ·show _≤min fz.1 cs.size;omega
    ·exact absurd (by rw [b4];exact beq_self_eq_true _) HU
  ·exact ⟨b1,b2,cur,T2,fz2,by rw [hold g2 gW];exact hh2,b3,b4⟩
theorem W7 (h:ji c w S) {src dst:TypeId} {x v:V} {X:Value} (hx:VR c w x X) (hv:HH P src dst x=some v):∃ y w',(convert src dst X).run P w = .ok y w'∧ji c w' S∧Ext c w c w'∧VR c w' v y:=by
 unfold HH at hv
 split at hv
 case h_2=>cases hv
 rename_i si di hsi hdi;obtain ⟨fi,d,z,h1,h2,h3,h4,h5,h6,_⟩:=cQ hsi;obtain ⟨gi,d2,z2,g1,g2,g3,g4,g5,g6,_⟩:=cQ hdi
 split at hv
 case h_6=>cases hv
 case h_5 e rows0 hdd hd =>
  unfold zK at hv
  split at hv
  case h_2=>cases hv
  rename_i r rows
  split at hv
  case isFalse=>cases hv
  rename_i hsd;subst hsd
  split at hv
  case h_2=>cases hv
  rename_i te sq
  split at hv
  case h_2=>cases hv
  rename_i hu8;obtain rfl:=ag hv;rw [hdd] at g6;obtain rfl:=fN g6;obtain ⟨ei,d3,z3,e1,e2,e3,e4,e5,e6,_⟩:=cQ sq;rw [hu8] at e6;obtain rfl:=zJ e6;have hx':=hx;cases hx with
  | full _ a hD ha =>
   obtain ⟨g,off,rfl,hM,v,S7⟩:∃ g off,a=some ⟨g,off,none⟩∧¬ c.M g off∧∃ v,w.cell? ⟨g,off,none⟩=some v:=by
    cases hD with
    | sl _ sz _ cap f jS hr hc hm hs Bs =>
     obtain ⟨g,off,rfl,Wm⟩:=hs dM;have hr0:=hr r aI;have:=Wm 0 dM 0 fk;simp only [gk,gZ] at this;exact ⟨g,off,rfl,this.1,_,this.2⟩
   obtain ⟨_,hBg⟩:=ha _ rfl
   obtain ⟨cs,T,fz,hh⟩:∃ cs T fz,w.heap[g]? = some (.cells cs T fz):=by
    unfold World.cell? at S7;cases hb:w.heap[g]? with
    | none=>simp [hb] at S7
    | some o =>
     cases o with
     | cells cs T fz=>exact ⟨cs,T,fz,rfl⟩
     | _=>simp [hb] at S7
   have hρ:g ∉ c.ρ:=fun hm=>hM (.inl (.inr hm));obtain ⟨q1,q2⟩:=h.freeze hBg hρ hh;refine ⟨_,_,?_,q1,q2,hx'.ext q2⟩
   have By:w.shape? g=some (T,cs.size):=by
    unfold World.shape?;rw [hh]
   simp [convert,run_underlying g2,run_underlying e2,markStringish,By]
 ·rename_i k k' n hdd hd;obtain rfl:=ag hv;rw [hdd] at g6;obtain rfl:=zJ g6;have hD:=mV hx hd;cases hD;refine ⟨_,w,?_,h,.refl _ _,.d _ _ (.int _ _)⟩;simp only [convert,Sem.run_bind,run_underlying h2,run_underlying g2,Result.andThen_ok];rfl
 ·rename_i s hdd hd;obtain rfl:=ag hv;rw [hdd] at g6;obtain rfl:=oJ g6;have hD:=mV hx hd;cases hD with
  | str _ hl =>
   refine ⟨_,w,?_,h,.refl _ _,.d _ _ (.str _ hl)⟩;simp only [convert,Sem.run_bind,run_underlying h2,run_underlying g2,Result.andThen_ok];rfl
 ·rename_i rows hdd hd
  split at hv
  case h_2=>cases hv
  rename_i e he
  split at hv
  case h_2=>cases hv
  rename_i te sq
  split at hv
  case h_2=>cases hv
  rename_i hu8;obtain ⟨s,hs,rfl⟩:=aB.1 hv;obtain rfl:=Ce rows s hs;rw [hdd] at g6;obtain rfl:=oJ g6;rw [he] at h6;obtain rfl:=fN h6;obtain ⟨ei,d3,z3,e1,e2,e3,e4,e5,e6,_⟩:=cQ sq;rw [hu8] at e6;obtain rfl:=zJ e6;have hD:=mV hx hd;have sI:∃ a n cap,X = .slice a n cap:=by cases hD;exact ⟨_,_,_,rfl⟩
  obtain ⟨a,n,cap,rfl⟩:=sI;obtain ⟨hn,qW⟩:=MB hD
  have yM:n≤9223372036854775807:=by
   obtain ⟨x1,x2,x3,_⟩:=hD.flat 1 (by intro r hr;obtain ⟨b,_,rfl⟩:=eu.1 hr;rfl);omega
  refine ⟨.string ⟨s.toArray⟩,w,?_,h,.refl _ _,.d _ _ (.str _ ak)⟩
  by_cases SS:s=[]
  ·subst SS;have:n=0:=hn;subst this;cases a with
   | none=>exact run_convert_bytes_nil (P:=P) w src e h2 e2 0 cap dst g2
   | some p =>
    rw [run_convert_bytes_string w src dst e _ 0 cap h2 e2 g2];simp [Conv.bytesToString,loadCells,loadCellsFrom];rfl
  ·obtain ⟨g,off,rfl,hc⟩:=qW SS;exact yh src e dst h2 e2 g2 g off cap n s hn.symm hc
 ·rename_i e s hdd hd
  split at hv
  case h_2=>cases hv
  rename_i te sq
  split at hv
  case h_2=>cases hv
  rename_i hu8;obtain rfl:=ag hv;rw [hdd] at g6;obtain rfl:=fN g6;obtain ⟨ei,d3,z3,e1,e2,e3,e4,e5,e6,_⟩:=cQ sq;rw [hu8] at e6;obtain rfl:=zJ e6;have hD:=mV hx hd;cases hD with
  | str _ hl =>
   have jS:(ByteArray.mk s.toArray).size=s.length:=by simp [ByteArray.size_mk']
   have hb:=qj w w.heap.size e ⟨s.toArray⟩ (aA _);obtain ⟨r1,r2⟩:=h.under hb;refine ⟨_,_,Lib.run_convert_string_bytes (P:=P) w src dst e ⟨s.toArray⟩ h2 g2 e2,r1,r2,.d _ _ ?_⟩;have nU:=grownCap_ge w s.length 0 e;have hle:=grownCap_le_maxLen w s.length 0 e hl;rw [jS];have:s.length=(s.map lX).length:=dM;rw [this] at nU hle ⊢;refine .sl (s.map lX) 1 _ _ (fun j _=>.int .u8 (((ByteArray.mk s.toArray).data.toList.getD j 0).toNat:Int)) ak (by intro r hr;obtain ⟨b,_,rfl⟩:=eu.1 hr;rfl) nU hle (fun _=>⟨w.heap.size,0,rfl,fun j hj q hq=>?_⟩) (fun j hj q hq=>?_)
   ·have W8:q=0:=by simp [lX] at hq;exact hq
    subst W8;refine ⟨h.Dy (aA _),?_⟩;simp only [bf,tC,gZ];exact Lib.bytesWorld_cell w e ⟨s.toArray⟩ j (by rw [jS];simpa using hj)
   ·have W8:q=0:=by simp [lX] at hq;exact hq
    subst W8;have jT:j < s.length:=by simpa using hj
    simp only [dy,lX,gm];have:(ByteArray.mk s.toArray).data.toList.getD j 0=s[j]:=by simp [List.getD,jT]
    rw [this];exact .int _ _
theorem DK (h:ji c w S) {ts us ty:TypeId} {s x v:V} {S':Mem} {A X:Value} (hs:VR c w s A) (hx:VR c w x X) (hv:ux P ts us S s x=some (v,S')) :
 ∃ y w' c',(Builtin.append_ #[ts,us] ty #[A,X]).run P w = .ok y w'∧ji c' w' S'∧Ext c w c' w'∧VR c' w' v y:=by
 unfold ux at hv
 split at hv
 case h_2=>cases hv
 rename_i ti rows t o9
 split at hv
 case h_2=>cases hv
 rename_i e he
 split at hv
 case h_2=>cases hv
 rename_i te sq
 split at hv
 case h_2=>cases hv
 rename_i n sz bU Tg nV
 split at hv
 case isFalse=>cases hv
 rename_i vE;obtain ⟨rfl,rfl,c3,c4,c5⟩:=vE;obtain ⟨rfl,rfl⟩:=aR (ag hv);obtain ⟨fi,d,z,h1,h2,h3,h4,h5,h6,_⟩:=cQ o9;obtain ⟨gi,d2,z2,g1,g2,g3,g4,g5,g6,g7,g8,_⟩:=cQ sq;rw [he] at h6;obtain rfl:=fN h6;have T:Dx P ts e te.size te.bytes:=⟨h2,gi,z2,g1,g3,g4,g5,g8⟩;have jS:=nj c3;unfold HJ at nV
 split at nV
 case h_3=>cases nV
 ·rename_i ui aey HZ hd
  split at nV
  case h_2=>cases nV
  rename_i e2 Th;obtain rfl:=ag nV;obtain ⟨ui1,d3,z3,u1,u2,u3,u4,u5,u6,_⟩:=cQ HZ;rw [Th] at u6;obtain rfl:=fN u6;have hD:=mV hx hd;have sI:∃ a n cap,X = .slice a n cap:=by cases hD;exact ⟨_,_,_,rfl⟩
  obtain ⟨a,n,cap,rfl⟩:=sI;obtain ⟨hn,_,_,F,hF,hFd⟩:=hD.flat te.size jS;subst hn;exact h.app hs Tg T ⟨_,u2,dM⟩ jS F (fun W=>by simp [Builtin.lenOf]) (fun W hW=>qn rfl hF W hW) hFd c4 c5
 ·rename_i ui q HZ hd
  split at nV
  case h_2=>cases nV
  rename_i W9 hu8
  split at nV
  case isFalse=>cases nV
  rename_i aeB;obtain rfl:=ag nV;obtain ⟨ui1,d3,z3,u1,u2,u3,u4,u5,u6,_⟩:=cQ HZ;rw [W9] at u6;obtain rfl:=oJ u6;have hD:=mV hx hd;cases hD with
  | str _ hl =>
   refine h.app hs Tg T ⟨_,u2,dM⟩ jS (fun k=>.int .u8 ((q.getD k 0).toNat:Int)) (fun W=>by simp [Builtin.lenOf,ByteArray.size_mk']) (fun W _=>?_) (fun j hj r hr=>?_) c4 c5
   ·have:=Lib.run_firstCells_string (P:=P) W te.size ⟨q.toArray⟩;simp only [ByteArray.size_mk',pe] at this;simp only [aS];rw [this,aeB,tC]
    congr 2
    apply fW;intro j
    by_cases hj:j < q.length
    ·simp [hj,List.getD,Lib.strCells]
    ·simp [hj,Lib.strCells]
   ·have jT:j < q.length:=by simpa using hj
    have hr0:r=0:=by simp [lX] at hr;exact hr
    subst hr0;simp only [dy,lX,gm,aeB,tC,gZ];have:q.getD j 0=q[j]:=by simp [List.getD,jT]
    rw [this];exact .int _ _
theorem Qn (h:ji c w S) {ts us ty:TypeId} {s x v:V} {S':Mem} {A X:Value} (hs:VR c w s A) (hx:VR c w x X) (hv:wj P ts us S s x=some (v,S')) :
 ∃ y w' c',(Builtin.append_ #[ts,us] ty #[A,X]).run P w = .ok y w'∧ji c' w' S'∧Ext c w c' w'∧VR c' w' v y:=by
 unfold wj at hv
 split at hv
 ·rename_i rows;unfold Bx at hv
  split at hv
  case h_2=>cases hv
  split at hv
  case h_2=>cases hv
  split at hv
  case h_2=>cases hv
  rename_i te _
  split at hv
  case isFalse=>cases hv
  rename_i hc;obtain ⟨c1,r1,r2,r3⟩:=h.token hs te.size hc.1 (nj hc.2);obtain ⟨y,w',c',a1,a2,a3,a4⟩:=DK r1 (ty:=ty) r3 (hx.ext r2) hv;exact ⟨y,w',c',a1,a2,r2.trans a3,a4⟩
 ·exact DK h hs hx hv
end
def rI:List (List UInt8)→List UInt8→Option Nat
 | [],_=>none
 | k :: ks,s=>if k=s then some 0 else (rI ks s).map (· + 1)
def JT (ks:List (List UInt8)) (vs:List V) (s:List UInt8):Option V :=
 match rI ks s with
 | some j=>vs[j]?
 | none=>none
def H6 (ks:List (List UInt8)) (vs:List V) (s:List UInt8) (v:V):List V :=
 match rI ks s with
 | some j=>[.vY ks (vs.set j v)]
 | none=>[.vY (ks++[s]) (vs++[v])]
def Xa (ks:List (List UInt8)) (vs:List V) (s:List UInt8):List V :=
 match rI ks s with
 | some j=>[.vY (ks.eraseIdx j) (vs.eraseIdx j)]
 | none=>[.vY ks vs]
theorem xy:∀ {ks:List (List UInt8)} {s:List UInt8} {j:Nat},rI ks s=some j→ks[j]? = some s
 | [],_,_,h=>by cases h
 | k :: ks,s,j,h=>by
  rw [rI] at h
  split at h
  ·rename_i e;obtain rfl:=ag h;rw [e];rfl
  ·obtain ⟨i,hi,rfl⟩:=aB.1 h
   simpa using xy hi
def yo (P:Program) (t:TypeId):Option V :=
 match P.underlying t with
 | some (.map k e)=>match P.underlying k,P.info? e with
  | some .string,some i=>i.zero.map DE
  | _,_=>none
 | _=>none
def nr (z:V) (v:Option V) (ok:Bool):V :=
 match v with
 | some v=>if ok then .fZ [v,.d (.bool true)] else v
 | none=>if ok then .fZ [z,.d (.bool false)] else z
def jm (P:Program) (S:Mem) (t:TypeId) (m k:V) (ok:Bool):Option V :=
 match yo P t,m,k with
 | some z,.mp i,.d (.str s)=>match S.boxes[i]? with
  | some [.vY ks vs]=>some (nr z (JT ks vs s) ok)
  | _=>none
 | _,_,_=>none
def l9 (P:Program) (S:Mem) (t:TypeId) (m k v:V):Option (V × Mem) :=
 match yo P t,m,k with
 | some _,.mp i,.d (.str s)=>match S.boxes[i]? with
  | some [.vY ks vs]=>some (.undef,{ S with boxes:=S.boxes.set i (H6 ks vs s v) })
  | _=>none
 | _,_,_=>none
def wm (P:Program) (S:Mem) (t:TypeId) (m k:V):Option (V × Mem) :=
 match yo P t,m,k with
 | some _,.mp i,.d (.str s)=>match S.boxes[i]? with
  | some [.vY ks vs]=>some (.fZ [],{ S with boxes:=S.boxes.set i (Xa ks vs s) })
  | _=>none
 | _,_,_=>none
section
variable {P:Program} {c:Cx} {w:World} {S:Mem}
theorem DL {t:TypeId} {z:V} (h:yo P t=some z):∃ k e f x,P.underlying t=some (.map k e)∧P.underlying k=some .string∧P.info? e=some f∧f.zero=some x∧z=DE x:=by
 unfold yo at h
 split at h
 case h_2=>cases h
 rename_i k e ht
 split at h
 case h_2=>cases h
 rename_i f hk hf;obtain ⟨x,hx,rfl⟩:=aB.1 h;exact ⟨k,e,f,x,ht,hk,hf,hx,rfl⟩
theorem lz {k:TypeId} (hk:P.underlying k=some .string) (em:Bool) (x:Value):(Instr.checkKey em 10000 k x).run P w = .ok () w:=by
 rw [show (10000:Nat)=9999+1 from rfl,Instr.checkKey];simp [run_underlying hk]
def Keys (es:List MapEntry) (ks:List (List UInt8)):Prop:=es.length=ks.length∧∀ (j:Nat) (k:List UInt8),ks[j]? = some k→∃ e,es[j]? = some e∧e.key = .string ⟨k.toArray⟩
theorem Cf (s:List UInt8):∀ (es:List MapEntry) (ks:List (List UInt8)) (i:Nat),Keys es ks →
 Instr.findNow .string (.string ⟨s.toArray⟩) es i=some (match rI ks s with | some j=>(es[j]?).map fun e=>(i+j,e.val) | none=>none)
 | [],ks,i,h=>by
  obtain rfl:ks=[]:=aM h.1.symm;rfl
 | e :: es,[],i,h=>by cases h.1
 | e :: es,k :: ks,i,h=>by
  obtain ⟨e',he,hk⟩:=h.2 0 k rfl;obtain rfl:e=e':=by simpa using he
  have h':Keys es ks:=⟨by simpa using h.1,fun j k hj=>h.2 (j+1) k hj⟩;have ih:=Cf s es ks (i+1) h';rw [Instr.findNow,hk,rI]
  by_cases De:k=s
  ·subst De;have hb:((⟨k.toArray⟩:ByteArray) == ⟨k.toArray⟩)=true:=(MapKept.bytes_beq _ _).2 rfl;simp [Instr.sameNow,hb]
  ·have hb:((⟨s.toArray⟩:ByteArray) == ⟨k.toArray⟩)=false:=by
    rw [mZ];intro hb;have:=(MapKept.bytes_beq _ _).1 hb;injection this with this;exact De (by simpa using (congrArg Array.toList this).symm)
   simp only [Instr.sameNow,hb,aq De];rw [ih];cases rI ks s with
   | none=>rfl
   | some j=>simp [fD,nE 1 j]
theorem wo {k:TypeId} (hk:P.underlying k=some .string) {s:List UInt8} {es:List MapEntry} {ks:List (List UInt8)} (h:Keys es ks) :
 (Instr.findKey k (.string ⟨s.toArray⟩) es).run P w = .ok (match rI ks s with | some j=>(es[j]?).map fun e=>(j,e.val) | none=>none) w:=by
 unfold Instr.findKey;have:=Cf s es ks 0 h;simp only [bf] at this;simp [run_underlying hk,this]
theorem ji.map (h:ji c w S) {i b:Nat} (hi:c.ρ[i]? = some b) {ks:List (List UInt8)} {vs:List V} (hb:S.boxes[i]? = some [.vY ks vs]):∃ (es:Array MapEntry) (ck:Nat),w.heap[b]? = some (.map es ck)∧es.size=ks.length∧ks.length=vs.length ∧
 ∀ (j:Nat) (k:List UInt8) (v:V),ks[j]? = some k→vs[j]? = some v→∃ e,es[j]? = some e∧e.key = .string ⟨k.toArray⟩∧VR c w v e.val:=by
 obtain ⟨_,o,ho,us,e1,e2⟩:=h.box i b hi;rw [hb] at e1;obtain rfl:=ag e1;cases e2 with
 | cells cs T _ h1 h2 =>
  have:=(h2 0 dM).1;simp only [gm] at this;cases this
 | map es ck ks us h0 h1 h2=>exact ⟨es,ck,ho,h0,h1,h2⟩
theorem MC {s:List UInt8} {x:Value} (h:VR c w (.d (.str s)) x):x = .string ⟨s.toArray⟩:=by
 cases h with
 | d _ _ h=>cases h;rfl
theorem Qo (h:ji c w S) {t:TypeId} {m k v:V} {M K:Value} {ok:Bool} (hm:VR c w m M) (hk:VR c w k K) (hv:jm P S t m k ok=some v):∃ y,(Instr.lookup t M K ok).run P w = .ok y w∧VR c w v y:=by
 unfold jm at hv
 split at hv
 case h_2=>cases hv
 rename_i z i s hz
 split at hv
 case h_2=>cases hv
 rename_i ks vs hb;obtain rfl:=ag hv;obtain rfl:=MC hk;obtain ⟨kt,et,f,x,q1,q2,q3,q4,rfl⟩:=DL hz;cases hm with
 | mp _ b hi =>
  obtain ⟨es,ck,hh,h0,h1,h2⟩:=h.map hi hb
  have Cg:Keys es.toList ks:=⟨by simpa using h0,fun j k hj=>by
   have bu:=(ai.1 hj).1;obtain ⟨e,he,hk,_⟩:=h2 j k (vs[j]'ak) hj (au ak);exact ⟨e,by simpa using he,hk⟩⟩
  have hf:=wo (P:=P) (w:=w) (s:=s) q2 Cg;cases hj:rI ks s with
  | none =>
   rw [hj] at hf;have hg:JT ks vs s=none:=by simp [JT,hj]
   rw [hg];cases ok with
   | true=>exact ⟨.tuple #[x,.bool false],by simp [Instr.lookup,run_underlying q1,MapKept.run_getObj_map hh,lz q2,hf,zeroValue,typeInfo,q3,q4],.fZ _ _ rfl (fun j hj=>by
    match j,hj with
    | 0,_=>exact DF c w x
    | 1,_=>exact .d _ _ (.bool _))⟩
   | false=>exact ⟨x,by simp [Instr.lookup,run_underlying q1,MapKept.run_getObj_map hh,lz q2,hf,zeroValue,typeInfo,q3,q4],DF c w x⟩
  | some j =>
   have hk:=xy hj;have bu:=(ai.1 hk).1;obtain ⟨e,he,_,Xb⟩:=h2 j s (vs[j]'ak) hk (au ak);have Jz:es.toList[j]? = some e:=by simpa using he
   rw [hj] at hf;simp only [Jz,cJ] at hf;have hg:JT ks vs s=some (vs[j]'ak):=by simp [JT,hj]
   rw [hg];cases ok with
   | true=>exact ⟨.tuple #[e.val,.bool true],by simp [Instr.lookup,run_underlying q1,MapKept.run_getObj_map hh,lz q2,hf],.fZ _ _ rfl (fun j hj=>by
    match j,hj with
    | 0,_=>exact Xb
    | 1,_=>exact .d _ _ (.bool _))⟩
   | false=>exact ⟨e.val,by simp [Instr.lookup,run_underlying q1,MapKept.run_getObj_map hh,lz q2,hf],Xb⟩
theorem ji.H7 (h:ji c w S) {i b:Nat} (hi:c.ρ[i]? = some b) {es0:Array MapEntry} {ck0:Nat} (hh:w.heap[b]? = some (.map es0 ck0)) (es:Array MapEntry) (ck:Nat) (ks:List (List UInt8)) (vs:List V) (h0:es.size=ks.length) (h1:ks.length=vs.length)
 (h2:∀ (j:Nat) (k:List UInt8) (v:V),ks[j]? = some k→vs[j]? = some v→∃ e,es[j]? = some e∧e.key = .string ⟨k.toArray⟩∧VR c w v e.val) :
 ji c { w with heap:=w.heap.setIfInBounds b (.map es ck) } { S with boxes:=S.boxes.set i [.vY ks vs] }∧Ext c w c { w with heap:=w.heap.setIfInBounds b (.map es ck) }:=by
 have bu:=h.lt hi;have hB:=(h.box i b hi).1;refine h.setObj hi (.map es ck) _ (.map es ck ks vs h0 h1 h2) (by simp [bu]) (fun k hk=>by simp [hk.symm]) dM ⟨rfl,rfl,rfl,dM,fun k hk=>?_⟩ (fun T hT=>?_)
 ·have:b ≠ k:=ak;simp [this]
 ·obtain ⟨cs,fz,hT⟩:=hT;rw [hh] at hT;cases hT
theorem Qp (h:ji c w S) {t:TypeId} {m k v u:V} {M K X:Value} {S':Mem} (hm:VR c w m M) (hk:VR c w k K) (hx:VR c w v X) (hv:l9 P S t m k v=some (u,S')):∃ w',(Instr.mapUpdate t M K X).run P w = .ok () w'∧ji c w' S'∧Ext c w c w'∧u = .undef:=by
 unfold l9 at hv
 split at hv
 case h_2=>cases hv
 rename_i z i s hz
 split at hv
 case h_2=>cases hv
 rename_i ks vs hb;obtain ⟨rfl,rfl⟩:=aR (ag hv);obtain rfl:=MC hk;obtain ⟨kt,et,f,x,q1,q2,q3,q4,rfl⟩:=DL hz;cases hm with
 | mp _ b hi =>
  obtain ⟨es,ck,hh,h0,h1,h2⟩:=h.map hi hb
  have Cg:Keys es.toList ks:=⟨by simpa using h0,fun j k hj=>by
   have bu:=(ai.1 hj).1;obtain ⟨e,he,hk,_⟩:=h2 j k (vs[j]'ak) hj (au ak);exact ⟨e,by simpa using he,hk⟩⟩
  have hf:=wo (P:=P) (w:=w) (s:=s) q2 Cg;unfold H6;cases hj:rI ks s with
  | none =>
   rw [hj] at hf
   have hs:=h.H7 hi hh (es.push ⟨.string ⟨s.toArray⟩,X,ck⟩) (ck+1) (ks++[s]) (vs++[v]) (by simp [h0]) (by simp [h1]) (fun j k v' hj Mh=>by
    rcases nW hj with hj | ⟨rfl,rfl⟩
    ·have bu:=(ai.1 hj).1;rw [bk ak] at Mh;obtain ⟨e,he,r⟩:=h2 j k v' hj Mh;refine ⟨e,?_,r⟩;rw [Array.getElem?_push,aq ak];exact he
    ·rw [aN ak,h1] at Mh;simp at Mh;subst Mh;exact ⟨_,by rw [Array.getElem?_push,aD ak],rfl,hx⟩)
   refine ⟨_,?_,hs.1,hs.2,rfl⟩;simp [Instr.mapUpdate,run_underlying q1,MapKept.run_getObj_map hh,lz q2,hf,MapKept.run_setObj_map _ hh]
  | some j =>
   have hk:=xy hj;have bu:=(ai.1 hk).1;obtain ⟨e,he,hek,Xb⟩:=h2 j s (vs[j]'ak) hk (au ak);have Jz:es.toList[j]? = some e:=by simpa using he
   rw [hj] at hf;simp only [Jz,cJ] at hf
   have hs:=h.H7 hi hh (es.modify j fun e=>{ e with key:=.string ⟨s.toArray⟩,val:=X }) ck ks (vs.set j v) (by simp [h0]) (by simp [h1]) (fun q k v' hq Mh=>by
    rw [Array.getElem?_modify]
    by_cases hjq:j=q
    ·subst hjq;rw [hk] at hq;obtain rfl:=ag hq;rw [aC ak] at Mh;obtain rfl:=ag Mh;rw [aD rfl,he];exact ⟨_,rfl,rfl,hx⟩
    ·rw [aj hjq] at Mh;rw [aq hjq];exact h2 q k v' hq Mh)
   refine ⟨_,?_,hs.1,hs.2,rfl⟩
   have kz:(Instr.keyThatStays (.string ⟨s.toArray⟩) (.string ⟨s.toArray⟩)).run P w = .ok (.string ⟨s.toArray⟩) w:=by
    unfold Instr.keyThatStays
    have:Instr.sameBits 10000 (.string ⟨s.toArray⟩) (.string ⟨s.toArray⟩)=true:=by
     rw [show (10000:Nat)=9999+1 from rfl,Instr.sameBits];exact (MapKept.bytes_beq _ _).2 rfl
    rw [aD this];rfl
   simp [Instr.mapUpdate,run_underlying q1,MapKept.run_getObj_map hh,lz q2,hf,he,hek,kz,MapKept.run_setObj_map _ hh]
theorem Qq (h:ji c w S) {t t2 ty:TypeId} {m k u:V} {M K:Value} {S':Mem} (hm:VR c w m M) (hk:VR c w k K) (hv:wm P S t m k=some (u,S')):∃ x w',(Builtin.delete_ #[t,t2] ty #[M,K]).run P w = .ok x w'∧ji c w' S'∧Ext c w c w'∧VR c w' u x:=by
 unfold wm at hv
 split at hv
 case h_2=>cases hv
 rename_i z i s hz
 split at hv
 case h_2=>cases hv
 rename_i ks vs hb;obtain ⟨rfl,rfl⟩:=aR (ag hv);obtain rfl:=MC hk;obtain ⟨kt,et,f,x,q1,q2,q3,q4,rfl⟩:=DL hz;cases hm with
 | mp _ b hi =>
  obtain ⟨es,ck,hh,h0,h1,h2⟩:=h.map hi hb
  have Cg:Keys es.toList ks:=⟨by simpa using h0,fun j k hj=>by
   have bu:=(ai.1 hj).1;obtain ⟨e,he,hk,_⟩:=h2 j k (vs[j]'ak) hj (au ak);exact ⟨e,by simpa using he,hk⟩⟩
  have hf:=wo (P:=P) (w:=w) (s:=s) q2 Cg;have yO:∀ w':World,VR c w' (.fZ []) (.tuple #[]):=fun w'=>.fZ [] #[] rfl fun j h=>absurd h dM;unfold Xa;cases hj:rI ks s with
  | none =>
   rw [hj] at hf;have hs:=h.H7 hi hh es ck ks vs h0 h1 h2;refine ⟨_,_,?_,hs.1,hs.2,yO _⟩;simp [Builtin.delete_,run_underlying q1,MapKept.run_getObj_map hh,lz q2,hf,MapKept.run_setObj_map _ hh]
  | some j =>
   have hk:=xy hj;have bu:=(ai.1 hk).1;obtain ⟨e,he,hek,Xb⟩:=h2 j s (vs[j]'ak) hk (au ak);have Jz:es.toList[j]? = some e:=by simpa using he
   rw [hj] at hf;simp only [Jz,cJ] at hf;have hjs:j < es.size:=ak;have heq:es.eraseIdxIfInBounds j=es.eraseIdx j hjs:=by simp [Array.eraseIdxIfInBounds,hjs]
   have hs:=h.H7 hi hh (es.eraseIdxIfInBounds j) ck (ks.eraseIdx j) (vs.eraseIdx j) (by rw [heq];simp [List.length_eraseIdx,h0,bu]) (by simp [List.length_eraseIdx,h1]) (fun q k v' hq Mh=>by
    rw [heq,Array.getElem?_eraseIdx];rw [List.getElem?_eraseIdx] at hq Mh
    split at hq
    ·rename_i rY;rw [aD rY] at Mh;rw [aD rY];exact h2 q k v' hq Mh
    ·rename_i rY;rw [aq rY] at Mh;rw [aq rY];exact h2 (q+1) k v' hq Mh)
   refine ⟨_,_,?_,hs.1,hs.2,yO _⟩;simp [Builtin.delete_,run_underlying q1,MapKept.run_getObj_map hh,lz q2,hf,MapKept.run_setObj_map _ hh]
theorem MD (h:ji c w S) (t:TypeId):∃ x w' c',(Instr.makeMap t none).run P w = .ok x w'∧ji c' w' { S with boxes:=S.boxes++[[.vY [] []]] }∧Ext c w c' w'∧VR c' w' (.mp S.boxes.length) x:=by
 have hn:=h.OC (.map #[] 0) [.vY [] []] (.map #[] 0 [] [] rfl rfl (fun j k v hj=>by simp at hj));refine ⟨.map (some w.heap.size),_,_,?_,hn.1,hn.2,.mp _ _ ?_⟩
 ·simp [Instr.makeMap]
 ·show (c.ρ++[w.heap.size])[S.boxes.length]? = _;rw [h.len];simp
end
def JU (t:Bool) (a b:V):V :=
 match a,b with
 | .d (.bool x),.d (.bool y)=>.d (.bool (bif t then x else y))
 | a,b=>bif t then a else b
def oa (ev:Operand→V) (parts:Array (Nat × Operand)):List (Nat × V):=parts.toList.map fun p=>(p.1,ev p.2)
def still (S:Mem) (v:Option V):Option (V × Mem):=v.map fun v=>(v,S)
def uX (P:Program) (S:Mem) (t:TypeId) (a x:V):Option (V × Mem) :=
 match eT P t,a,kU x with
 | some ti,.ptr i k,some vs=>match S.boxes[i]? with
  | some us=>if vs.length=ti.size∧k+ti.size≤us.length then some (.undef,{ S with boxes:=S.boxes.set i (us.take k++vs++us.drop (k+vs.length)) }) else none
  | none=>none
 | _,_,_=>none
def OJ:V→V→Option V
 | .d (.int k a),.d (.int _ b)=>some (.d (.int k (if b < a then b else a)))
 | _,_=>none
def OK:V→V→Option V
 | .d (.int k a),.d (.int _ b)=>some (.d (.int k (if a < b then b else a)))
 | _,_=>none
def jV (P:Program) (ev:Operand→V) (S:Mem) (c:Call):Option (V × Mem) :=
 match c.callee,c.args.toList,c.argTypes.toList with
 | .builtin .len,[x],[t]=>still S (mM P t (ev x))
 | .builtin .append,[s,x],[t,u]=>wj P t u S (ev s) (ev x)
 | .builtin .min,[x,y],[_,_]=>still S (OJ (ev x) (ev y))
 | .builtin .max,[x,y],[_,_]=>still S (OK (ev x) (ev y))
 | .builtin .delete,[m,k],[t,_]=>wm P S t (ev m) (ev k)
 | _,_,_=>none
def H8 (P:Program) (s:TypeId) (f:Nat):Option (TypeId × Nat) :=
 match P.underlying s with
 | some (.struct fs)=>(fs[f]?).map fun d=>(d.type,d.offset)
 | _=>none
def wq (P:Program) (s:TypeId) (f:Nat) (a:V):Option V :=
 match H8 P s f,a with
 | some (t,off),.agg vs=>(match eT P t with
  | some ti=>yj ti vs off
  | none=>none)
 | _,_=>none
def jt (P:Program) (ev:Operand→V) (S:Mem):Op→Option (V × Mem)
 | .move x=>some (ev x,S)
 | .assign x=>some (ev x,S)
 | .pick c a b=>match ev c with
  | .d (.bool t)=>some (JU t (ev a) (ev b),S)
  | _=>none
 | .alloc t=>match eT P t with
  | some i=>some (.ptr S.boxes.length 0,{ S with boxes:=S.boxes++[i.zero] })
  | none=>none
 | .box _ x=>match kU (ev x) with
  | some vs=>some (.ptr S.boxes.length 0,{ S with boxes:=S.boxes++[vs] })
  | none=>none
 | .build t parts=>still S (xu P t (oa ev parts))
 | .buildSlice t len parts=>still S (r6 P t len (oa ev parts))
 | .load t a=>still S (jE P S t (ev a))
 | .store t a x=>uX P S t (ev a) (ev x)
 | .nilCheck x=>match ev x with
  | .ptr i k=>some (.ptr i k,S)
  | .nc r k=>some (.nc r k,S)
  | _=>none
 | .binOp op t x y _=>still S (DJ P op t (ev x) (ev y))
 | .unOp op _ x=>still S (Qm op (ev x))
 | .convert s d x=>still S (HH P s d (ev x))
 | .makeFunc (.func f) first caps=>some (.func f (first.toList.map ev) (caps.toList.map ev),S)
 | .slice t x lo hi none=>still S (Dc P t (ev x) (lo.map ev) (hi.map ev))
 | .fieldAddr s x f=>still S (Db P s f (ev x))
 | .field s x f=>still S (wq P s f (ev x))
 | .indexAddr t x i=>still S (oI P t (ev x) (ev i))
 | .index t x i=>still S (Dd P t (ev x) (ev i))
 | .extract x i=>match ev x with
  | .fZ vs=>still S vs[i]?
  | _=>none
 | .call c=>jV P ev S c
 | .makeMap _ none=>some (.mp S.boxes.length,{ S with boxes:=S.boxes++[[.vY [] []]] })
 | .lookup t m k ok=>still S (jm P S t (ev m) (ev k) ok)
 | .mapUpdate t m k x=>l9 P S t (ev m) (ev k) (ev x)
 | _=>none
section
variable {P:Program} {c:Cx} {w:World} {S:Mem}
theorem Xc {t:Bool} {a b:V} {A B:Value} (ha:VR c w a A) (hb:VR c w b B):VR c w (JU t a b) (if t then A else B):=by
 unfold JU
 split
 ·cases t
  ·simpa using hb
  ·simpa using ha
 ·cases t
  ·simpa using hb
  ·simpa using ha
theorem Qr {s:TypeId} {f:Nat} {a v:V} {x:Value} (ha:VR c w a x) (hv:wq P s f a=some v):∃ y,(Instr.field s x f).run P w = .ok y w∧VR c w v y:=by
 unfold wq at hv
 split at hv
 case h_2=>cases hv
 rename_i t off vs jU
 split at hv
 case h_2=>cases hv
 rename_i ti o9;unfold H8 at jU
 split at jU
 case h_2=>cases jU
 rename_i fs Mz;obtain ⟨F,hF,he⟩:=aB.1 jU;obtain ⟨rfl,rfl⟩:=aR he;obtain ⟨fi,d,z,h1,h2,h3,h4,h5,h6,h7,h8,h9,yN⟩:=cQ o9;cases ha with
 | agg _ cs jS hc ho =>
  unfold yj at hv;cases vQ:ti.agg with
  | true =>
   rw [vQ] at hv;simp only [gj] at hv
   split at hv
   case isFalse=>cases hv
   rename_i hle;obtain rfl:=ag hv;refine ⟨.agg (cs.extract F.offset (F.offset+fi.size)),?_,?_⟩
   ·simp [Instr.field,run_underlying Mz,hF,asAgg,part,xq h2,h7,vQ,run_sizeOf h1]
   ·refine .agg _ _ fk (fun j hj=>?_) (fun j hj=>?_)
    ·have jT:j < ti.size:=by simp at hj;omega
     have Gc:=hc (F.offset+j) ak
     have ME:(cs.extract F.offset (F.offset+fi.size)).getD j undef=cs.getD (F.offset+j) undef:=by
      rw [fM fk,fM ak];simp
     rw [ME]
     simpa using Gc
    ·have jT:j < ti.size:=by simp at hj;omega
     have Gc:=ho (F.offset+j) ak
     have ME:(cs.extract F.offset (F.offset+fi.size)).getD j undef=cs.getD (F.offset+j) undef:=by
      rw [fM fk,fM ak];simp
     rw [ME];exact Gc
  | false =>
   rw [vQ] at hv;simp only [cS,iF] at hv;obtain ⟨hk,rfl⟩:=ai.1 hv;have Mf:F.offset < cs.size:=ak;refine ⟨cs[F.offset],?_,?_⟩
   ·simp [Instr.field,run_underlying Mz,hF,asAgg,part,xq h2,h7,vQ,Mf]
   ·have Gc:=hc F.offset hk;rw [fM Mf] at Gc;exact Gc
theorem Ch {env:List V} {a:Act} (h0:ji c w S) (he:ij c w env a.tmps) (parts:Array (Nat × Operand)):(parts.map fun p=>(p.1,a.eval p.2)).size=(oa (bw c.I env) parts).length∧∀ (j i:Nat) (v:V),(oa (bw c.I env) parts)[j]? = some (i,v)→∃ x,(parts.map fun p=>(p.1,a.eval p.2))[j]? = some (i,x)∧VR c w v x:=by
 refine ⟨by simp [oa],fun j i v h=>?_⟩;unfold oa at h;rw [aL] at h;obtain ⟨p,hp,h2⟩:=aB.1 h;obtain ⟨rfl,rfl⟩:=aR h2;have hp':parts[j]? = some p:=by simpa using hp
 exact ⟨_,by simp [hp'],ij.eval h0 he _⟩
def OL (P:Program) (c:Cx) (w:World) (s:Sem Next) (v:V) (S':Mem):Prop :=
 ∃ x w' c',(s.run P w = .ok (.value x) w'∨(s.run P w = .ok .skip w'∧x=undef))∧ji c' w' S'∧Ext c w c' w'∧VR c' w' v x
theorem OL.still (h:ji c w S) {s:Sem Value} {r:Option V} {v:V} {S':Mem} (hr:Ab.still S r=some (v,S')) (hs:r=some v→∃ y,s.run P w = .ok y w∧VR c w v y):OL P c w (do pure (.value (← s))) v S':=by
 obtain ⟨v',hv,he⟩:=aB.1 hr;obtain ⟨rfl,rfl⟩:=aR he;obtain ⟨y,hy,Sz⟩:=hs hv;exact ⟨y,w,c,.inl (by simp [hy]),h,.refl _ _,Sz⟩
theorem H9 {env:List V} {a:Act} (h0:ji c w S) (he:ij c w env a.tmps) (o:Option Operand):(o.map (bw c.I env)).isSome=(o.map a.eval).isSome∧∀ v x,o.map (bw c.I env)=some v→o.map a.eval=some x→VR c w v x:=by
 cases o with
 | none=>exact ⟨rfl,fun v x h=>by cases h⟩
 | some p=>exact ⟨rfl,fun v x h h'=>by cases h;cases h';exact ij.eval h0 he p⟩
theorem abd {env:List V} {a:Act} (h:ji c w S) (he:ij c w env a.tmps) (o:Oper) {v:V} {S':Mem} (hv:jt P (bw c.I env) S o.op=some (v,S')):OL P c w (execOp a.eval o) v S':=by
 unfold execOp;cases ho:o.op<;>rw [ho] at hv<;>simp only [jt] at hv<;>try (cases hv;done)
 case move x =>
  obtain ⟨rfl,rfl⟩:=aR (ag hv);exact ⟨_,w,c,.inl rfl,h,.refl _ _,ij.eval h he x⟩
 case assign x =>
  obtain ⟨rfl,rfl⟩:=aR (ag hv);exact ⟨_,w,c,.inl rfl,h,.refl _ _,ij.eval h he x⟩
 case pick p x y =>
  split at hv
  case h_2=>cases hv
  rename_i t ht;obtain ⟨rfl,rfl⟩:=aR (ag hv);have hp:=ij.eval h he p;rw [ht] at hp;generalize hq:a.eval p=q at hp;cases hp with
  | d _ _ hp =>
   cases hp;refine ⟨_,w,c,.inl ?_,h,.refl _ _,Xc (t:=t) (ij.eval h he x) (ij.eval h he y)⟩;simp [asBool,hq]
 case alloc t =>
  split at hv
  case h_2=>cases hv
  rename_i i hi;obtain ⟨rfl,rfl⟩:=aR (ag hv);obtain ⟨x,w',c',h1,h2,h3,h4⟩:=SX h t hi;exact ⟨x,w',c',.inl (by simp [h1]),h2,h3,h4⟩
 case box t x =>
  split at hv
  case h_2=>cases hv
  rename_i vs xU;obtain ⟨rfl,rfl⟩:=aR (ag hv);obtain ⟨y,w',c',h1,h2,h3,h4⟩:=aa6 (P:=P) h t (ij.eval h he x) xU;exact ⟨y,w',c',.inl (by simp [h1]),h2,h3,h4⟩
 case build t parts =>
  obtain ⟨h1,h2⟩:=Ch h he parts;exact OL.still h hv fun hr=>S8 h1 h2 hr
 case buildSlice t len parts =>
  obtain ⟨v',Gd,JV⟩:=aB.1 hv;obtain ⟨rfl,rfl⟩:=aR JV;obtain ⟨h1,h2⟩:=Ch h he parts;obtain ⟨y,w',k1,k2,k3,k4⟩:=FG h h1 h2 Gd;exact ⟨y,w',c,.inl (by simp [k1]),k2,k3,k4⟩
 case load t x=>exact OL.still h hv fun hr=>OI h t (ij.eval h he x) hr
 case field s x f=>exact OL.still h hv fun hr=>Qr (ij.eval h he x) hr
 case store t x y =>
  unfold uX at hv
  split at hv
  case h_2=>cases hv
  rename_i ti i k vs o9 hx xU
  split at hv
  case h_2=>cases hv
  rename_i us hus
  split at hv
  case isFalse=>cases hv
  rename_i vE;obtain ⟨rfl,rfl⟩:=aR (ag hv);have hp:=ij.eval h he x;rw [hx] at hp;obtain ⟨w',k1,k2,k3⟩:=SY h t o9 hp (ij.eval h he y) hus xU vE.1 vE.2;exact ⟨undef,w',c,.inr ⟨by simp [k1],rfl⟩,k2,k3,.undef _⟩
 case nilCheck x =>
  have hp:=ij.eval h he x
  split at hv
  case h_3=>cases hv
  all_goals
   rename_i hx;rw [hx] at hp;obtain ⟨rfl,rfl⟩:=aR (ag hv);generalize hq:a.eval x=q at hp;have hp':=hp;cases hp;exact ⟨_,w,c,.inl (by simp [hq]),h,.refl _ _,hp'⟩
 case binOp op t x y u=>exact OL.still h hv fun hr=>abb (ij.eval h he x) (ij.eval h he y) hr x y
 case unOp op t x=>exact OL.still h hv fun hr=>aex (ij.eval h he x) hr
 case convert s d x =>
  obtain ⟨v',Gd,JV⟩:=aB.1 hv;obtain ⟨rfl,rfl⟩:=aR JV;obtain ⟨y,w',k1,k2,k3,k4⟩:=W7 h (ij.eval h he x) Gd;exact ⟨y,w',c,.inl (by simp [k1]),k2,k3,k4⟩
 case makeFunc fn first caps =>
  cases fn<;>dsimp only at hv<;>try (cases hv;done)
  rename_i f;obtain ⟨rfl,rfl⟩:=aR (ag hv);refine ⟨_,w,c,.inl rfl,h,.refl _ _,.func f _ _ _ _ dM dM (fun j hj=>?_) (fun j hj=>?_)⟩
  ·have jT:j < first.size:=by simpa using hj
   rw [fM (by simpa using jT)];simp only [dy,jD,Array.getElem_map];exact ij.eval h he _
  ·have jT:j < caps.size:=by simpa using hj
   rw [fM (by simpa using jT)];simp only [dy,jD,Array.getElem_map];exact ij.eval h he _
 case slice t x lo hi mx =>
  cases mx<;>dsimp only at hv<;>try (cases hv;done)
  exact OL.still h hv fun hr=>Td (ij.eval h he x) (H9 h he lo).1 (H9 h he lo).2 (H9 h he hi).1 (H9 h he hi).2 hr
 case fieldAddr s x f=>exact OL.still h hv fun hr=>SZ (ij.eval h he x) hr
 case indexAddr t x i=>exact OL.still h hv fun hr=>Hz (ij.eval h he x) (ij.eval h he i) hr
 case index t x i=>exact OL.still h hv fun hr=>Te (ij.eval h he x) (ij.eval h he i) hr
 case extract x i =>
  have hp:=ij.eval h he x
  split at hv
  case h_2=>cases hv
  rename_i vs hx;rw [hx] at hp;generalize hq:a.eval x=q at hp;refine OL.still h hv fun hr=>?_;cases hp with
  | fZ _ cs h1 h2 =>
   obtain ⟨bu,rfl⟩:=ai.1 hr;have dY:i < cs.size:=ak;have:=h2 i bu;rw [fM dY] at this;exact ⟨cs[i],by simp [hq,Instr.extract,dY],this⟩
 case makeMap t r =>
  cases r<;>dsimp only at hv<;>try (cases hv;done)
  obtain ⟨rfl,rfl⟩:=aR (ag hv);obtain ⟨x,w',c',h1,h2,h3,h4⟩:=MD (P:=P) h t;exact ⟨x,w',c',.inl (by simp [h1]),h2,h3,h4⟩
 case lookup t m k ok=>exact OL.still h hv fun hr=>Qo h (ij.eval h he m) (ij.eval h he k) hr
 case mapUpdate t m k x =>
  obtain ⟨w',h1,h2,h3,rfl⟩:=Qp h (ij.eval h he m) (ij.eval h he k) (ij.eval h he x) hv;exact ⟨undef,w',c,.inr ⟨by simp [h1],rfl⟩,h2,h3,.undef _⟩
 case call k =>
  obtain ⟨callee,args,argTypes⟩:=k;simp only [jV] at hv
  split at hv
  case h_6=>cases hv
  case h_5 x y t u hargs htys =>
   have e1:args = #[x,y]:=by apply fO.1;rw [hargs]
   have e2:argTypes = #[t,u]:=by apply fO.1;rw [htys]
   subst e1 e2;obtain ⟨y,w',h1,h2,h3,h4⟩:=Qq (P:=P) (t2:=u) (ty:=o.type) h (ij.eval h he x) (ij.eval h he y) hv;exact ⟨y,w',c,.inl (by simp [resolve,invoke,builtin,h1]),h2,h3,h4⟩
  case h_3 x y t u hargs htys =>
   have e1:args = #[x,y]:=by apply fO.1;rw [hargs]
   subst e1;obtain ⟨v',Gd,JV⟩:=aB.1 hv;obtain ⟨rfl,rfl⟩:=aR JV;have hx:=ij.eval h he x;have hy:=ij.eval h he y;unfold OJ at Gd
   split at Gd
   case h_2=>cases Gd
   rename_i k p k2 q ha hb;obtain rfl:=ag Gd;rw [ha] at hx;rw [hb] at hy;obtain ⟨X,hX⟩:=aV (a.eval x);obtain ⟨Y,hY⟩:=aV (a.eval y);rw [hX] at hx;rw [hY] at hy;cases hx with
   | d _ _ hx=>cases hx with
    | int _ _=>cases hy with
     | d _ _ hy=>cases hy with
      | int _ _=>exact ⟨_,w,c,.inl (by simp [resolve,invoke,builtin,Builtin.min_,Builtin.min2,hX,hY]),h,.refl _ _,.d _ _ (.int _ _)⟩
  case h_4 x y t u hargs htys =>
   have e1:args = #[x,y]:=by apply fO.1;rw [hargs]
   subst e1;obtain ⟨v',Gd,JV⟩:=aB.1 hv;obtain ⟨rfl,rfl⟩:=aR JV;have hx:=ij.eval h he x;have hy:=ij.eval h he y;unfold OK at Gd
   split at Gd
   case h_2=>cases Gd
   rename_i k p k2 q ha hb;obtain rfl:=ag Gd;rw [ha] at hx;rw [hb] at hy;obtain ⟨X,hX⟩:=aV (a.eval x);obtain ⟨Y,hY⟩:=aV (a.eval y);rw [hX] at hx;rw [hY] at hy;cases hx with
   | d _ _ hx=>cases hx with
    | int _ _=>cases hy with
     | d _ _ hy=>cases hy with
      | int _ _=>exact ⟨_,w,c,.inl (by simp [resolve,invoke,builtin,Builtin.max_,Builtin.max2,hX,hY]),h,.refl _ _,.d _ _ (.int _ _)⟩
  ·rename_i x t hargs htys;have e1:args = #[x]:=by apply fO.1;rw [hargs]
   have e2:argTypes = #[t]:=by apply fO.1;rw [htys]
   subst e1 e2;obtain ⟨v',Gd,JV⟩:=aB.1 hv;obtain ⟨rfl,rfl⟩:=aR JV;obtain ⟨y,h1,h2⟩:=aa8 (P:=P) (ty:=o.type) (ij.eval h he x) Gd;exact ⟨y,w,c,.inl (by simp [resolve,invoke,builtin,h1]),h,.refl _ _,h2⟩
  ·rename_i s x t u hargs htys;have e1:args = #[s,x]:=by apply fO.1;rw [hargs]
   have e2:argTypes = #[t,u]:=by apply fO.1;rw [htys]
   subst e1 e2;obtain ⟨y,w',c',h1,h2,h3,h4⟩:=Qn (P:=P) (ty:=o.type) h (ij.eval h he s) (ij.eval h he x) hv;exact ⟨y,w',c',.inl (by simp [resolve,invoke,builtin,h1]),h2,h3,h4⟩
end
def FI (P:Program) (b:Frame) (k:List Item) (a:Act) (w:World) (R:Ending→World→Prop):Prop :=
 ∀ cs,∃ e w' fr,R e w'∧Comes P (lone (b.at a k) cs w) (lone fr cs w') e∧fr.fn=b.fn∧fr.leaving P w' e
theorem FI.step {P:Program} {b:Frame} {k k':List Item} {a a':Act} {w w':World} {R:Ending→World→Prop} (hs:∀ cs,Go.step P (lone (b.at a k) cs w) = .next (lone (b.at a' k') cs w')) (h:FI P b k' a' w' R):FI P b k a w R:=by
 intro cs;obtain ⟨e,w2,fr,h1,h2,h3⟩:=h cs;exact ⟨e,w2,fr,h1,.of_steps (.one (hs cs)) h2,h3⟩
def AQ (c:Cx) (w:World) (R:V→Mem→Prop):Ending→World→Prop:=fun e w'=>∃ v x S' c',e = .returned x∧R v S'∧ji c' w' S'∧Ext c w c' w'∧VR c' w' v x
def az (P:Program) (I:Inv) (z:Nat × Nat) (fn:FuncId) (k:List Item) (env:List V) (S:Mem) (R:V→Mem→Prop):Prop :=
 ∀ (b:Frame) (a:Act) (c:Cx) (w:World) (c0:Cx) (w0:World),b.fn=fn→b.kind = .normal→a.defers=[]→ij c w env a.tmps→ji c w S→Ext c0 w0 c w→c.I=I∧c0.ρ.length=z.1∧c0.τ.length=z.2→FI P b k a w (AQ c0 w0 R)
def cy (P:Program) (I:Inv) (f:FuncId) (args:List V) (S:Mem) (R:V→Mem→Prop):Prop :=
 (∀ xs w,(callFunc f xs).run P w = .ok (.enter f xs) w) ∧
 ∀ (c:Cx) (w:World) (xs:Array Value),xs.size=args.length→(∀ j (h:j < args.length),VR c w args[j] (xs.getD j undef))→ji c w S→c.I=I→Calls P f xs w (AQ c w R)
theorem cy.mono {P:Program} {I:Inv} {f:FuncId} {args:List V} {S:Mem} {R R':V→Mem→Prop} (h:cy P I f args S R) (hr:∀ v S',R v S'→R' v S'):cy P I f args S R':=by
 refine ⟨h.1,fun c w xs h1 h2 h3 hI cs=>?_⟩;obtain ⟨e,w',fr,⟨v,x,S',c',a1,a2,a3⟩,h⟩:=h.2 c w xs h1 h2 h3 hI cs;exact ⟨e,w',fr,⟨v,x,S',c',a1,hr _ _ a2,a3⟩,h⟩
section rules
variable {P:Program} {I:Inv} {z:Nat × Nat} {fn:FuncId} {k:List Item} {env:List V} {S:Mem} {R:V→Mem→Prop}
theorem az.same {k':List Item} (hs:∀ (b:Frame) (a:Act) (w:World) cs,Go.step P (lone (b.at a k) cs w) = .next (lone (b.at a k') cs w)) (h:az P I z fn k' env S R):az P I z fn k env S R :=
 fun b a c w c0 w0 h1 h2 h3 h4 h5 h6 hI=>FI.step (fun cs=>hs b a w cs) (h b a c w c0 w0 h1 h2 h3 h4 h5 h6 hI)
theorem az.skip (h:az P I z fn k env S R):az P I z fn (.code .skip :: k) env S R:=h.same fun _ _ _ _=>step_skip
theorem az.label {l:Nat} (h:az P I z fn k env S R):az P I z fn (.code (.label l) :: k) env S R:=h.same fun _ _ _ _=>step_label
theorem az.inBlock {id:Nat} (h:az P I z fn k env S R):az P I z fn (.inBlock id :: k) env S R:=h.same fun _ _ _ _=>step_inBlock
theorem az.seq {x y:Code} (h:az P I z fn (.code x :: .code y :: k) env S R):az P I z fn (.code (.seq x y) :: k) env S R:=h.same fun _ _ _ _=>step_seq
theorem az.block {id:Nat} {x:Code} (h:az P I z fn (.code x :: .inBlock id :: k) env S R):az P I z fn (.code (.block id x) :: k) env S R:=h.same fun _ _ _ _=>step_block
theorem az.loop {x:Code} (h:az P I z fn (.code x :: .inLoop x :: k) env S R):az P I z fn (.code (.loop x) :: k) env S R:=h.same fun _ _ _ _=>step_loop
theorem az.inLoop {x:Code} (h:az P I z fn (.code x :: .inLoop x :: k) env S R):az P I z fn (.inLoop x :: k) env S R:=h.same fun _ _ _ _=>step_inLoop
theorem az.exit {id:Nat} {k':List Item} (he:exitTo id k=some k') (h:az P I z fn k' env S R):az P I z fn (.code (.exit id) :: k) env S R:=h.same fun _ _ _ _=>step_exit he
theorem az.region {id:Nat} {ops:Array Oper} (h:az P I z fn (.inRegion ops (List.range ops.size) :: k) env S R):az P I z fn (.code (.region id ops false) :: k) env S R:=h.same fun _ _ _ _=>step_region
theorem az.qp {ops:Array Oper} (h:az P I z fn k env S R):az P I z fn (.inRegion ops [] :: k) env S R:=h.same fun _ _ _ _=>step_region_end
theorem az.cond {x:Operand} {y y2:Code} {t:Bool} (hx:bw I env x = .d (.bool t)) (h:az P I z fn (.code (if t then y else y2) :: k) env S R):az P I z fn (.code (.cond x y y2) :: k) env S R:=by
 intro b a c w c0 w0 h1 h2 h3 h4 h5 h6 hI;have hv:=ij.eval h5 h4 x;rw [hI.1] at hv;rw [hx] at hv
 have he:a.eval x = .bool t:=by
  generalize a.eval x=q at hv;cases hv with
  | d _ _ hv=>cases hv;rfl
 exact FI.step (fun cs=>step_cond he) (h b a c w c0 w0 h1 h2 h3 h4 h5 h6 hI)
def dD (env:List V) (d:Option Tmp) (v:V):List V :=
 match d with
 | some t=>env.set t v
 | none=>env
def lJ (env:List V) (ops:Array Oper) (j:Nat):V :=
 match (ops[j]?).bind (·.dst) with
 | some t=>env.getD t .undef
 | none=>.undef
theorem JW {c:Cx} {w:World} {a:Act} (he:ij c w env a.tmps) {ops:Array Oper} {j:Nat} {t:Bool} (h:lJ env ops j = .d (.bool t)):yielded ops a.tmps j=some t:=by
 unfold lJ at h;unfold yielded;cases ho:(ops[j]?).bind (·.dst) with
 | none=>rw [ho] at h;cases h
 | some q =>
  rw [ho] at h;simp only at h;have hv:=he.get q;rw [h] at hv
  have hq:q < a.tmps.size:=by
   rcases ct q env.length with h' | h'
   ·rw [he.1];exact h'
   ·have:env.getD q .undef = .undef:=by simp [List.getD,h']
    rw [this] at h;cases h
  rw [fM hq] at hv;simp only [dg,kV hq];generalize a.tmps[q]=x at hv;cases hv with
  | d _ _ hv=>cases hv;rfl
theorem MF {c:Cx} {w:World} {a:Act} (he:ij c w env a.tmps) {ops:Array Oper} {j:Nat} (h:lJ env ops j = .fZ []):yielded ops a.tmps j=none:=by
 unfold lJ at h;unfold yielded;cases ho:(ops[j]?).bind (·.dst) with
 | none=>rw [ho] at h;cases h
 | some q =>
  rw [ho] at h;simp only at h;have hv:=he.get q;rw [h] at hv
  have hq:q < a.tmps.size:=by
   rcases ct q env.length with h' | h'
   ·rw [he.1];exact h'
   ·have:env.getD q .undef = .undef:=by simp [List.getD,h']
    rw [this] at h;cases h
  rw [fM hq] at hv;simp only [dg,kV hq];generalize a.tmps[q]=x at hv;cases hv;rfl
def wu (env:List V) (ops:Array Oper) (o:Oper):Prop:=∃ j want,o.guard=some (j,want)∧((∃ t,lJ env ops j = .d (.bool t)∧(t == want)=false)∨lJ env ops j = .fZ [])
theorem az.uY {ops:Array Oper} {i:Nat} {rest:List Nat} {o:Oper} (ho:ops[i]? = some o) (hk:wu env ops o)
 (h:az P I z fn (.inRegion ops rest :: k) (dD env o.dst (.fZ [])) S R):az P I z fn (.inRegion ops (i :: rest) :: k) env S R:=by
 intro b a c w c0 w0 h1 h2 h3 h4 h5 h6 hI
 have hs:∀ cs,Go.step P (lone (b.at a (.inRegion ops (i :: rest) :: k)) cs w) = .next (lone (b.at (a.put o.dst undef) (.inRegion ops rest :: k)) cs w):=by
  intro cs
  have:=step_op_skip (P:=P) (b:=b) (a:=a) (k:=k) (cs:=cs) (w:=w) (ops:=ops) (i:=i) (rest:=rest) (by
   obtain ⟨j,want,hg,⟨t,ht,gW⟩ | ht⟩:=hk
   ·have hy:=JW h4 ht;simp [ho,Region.wanted,hg,hy]
    simpa using gW
   ·have hy:=MF h4 ht;simp [ho,Region.wanted,hg,hy])
  simpa [ho] using this
 refine FI.step hs (h b (a.put o.dst undef) c w c0 w0 h1 h2 ?_ ?_ h5 h6 hI)
 ·cases o.dst<;>simpa [Act.put] using h3
 ·exact h4.put o.dst (.fZ [] #[] rfl fun j h=>absurd h dM)
def kQ (env:List V) (ops:Array Oper) (o:Oper):Prop:=o.guard=none∨∃ j t,o.guard=some (j,t)∧lJ env ops j = .d (.bool t)
theorem zL {c:Cx} {w:World} {a:Act} (he:ij c w env a.tmps) {ops:Array Oper} {o:Oper} (h:kQ env ops o):Region.wanted o (yielded ops a.tmps)=true:=by
 rcases h with h | ⟨j,t,h,hg⟩
 ·simp [Region.wanted,h]
 ·simp [Region.wanted,h,JW he hg]
theorem az.op {ops:Array Oper} {i:Nat} {rest:List Nat} {o:Oper} {v:V} {S':Mem} (ho:ops[i]? = some o) (hw:kQ env ops o) (uZ:jt P (bw I env) S o.op=some (v,S'))
 (h:az P I z fn (.inRegion ops rest :: k) (dD env o.dst v) S' R):az P I z fn (.inRegion ops (i :: rest) :: k) env S R:=by
 intro b a c w c0 w0 h1 h2 h3 h4 h5 h6 hI;obtain ⟨x,w',c',eI,Bw,DM,hv⟩:=abd h5 h4 o (by rw [hI.1];exact uZ);have hg:=fun cs=>stepG_op (P:=P) (b:=b) (k:=k) (cs:=cs) (w:=w) (rest:=rest) ho (zL h4 hw)
 have nQ:∀ v,(b.at a (.inRegion ops (i :: rest) :: k)).finish v=b.at (a.put o.dst v) (.inRegion ops rest :: k):=by
  intro v;rw [Frame.finish_at,ho];rfl
 have hs:∀ cs,Go.step P (lone (b.at a (.inRegion ops (i :: rest) :: k)) cs w) = .next (lone (b.at (a.put o.dst x) (.inRegion ops rest :: k)) cs w'):=by
  intro cs;refine step_lone_go ?_;rw [hg cs,← nQ];rcases eI with eI | ⟨eI,rfl⟩
  ·simp [stepG.apply,eI]
  ·simp [stepG.apply,eI]
 refine FI.step hs (h b (a.put o.dst x) c' w' c0 w0 h1 h2 ?_ ?_ Bw (h6.trans DM) ⟨DM.I.trans hI.1,hI.2⟩)
 ·cases o.dst<;>simpa [Act.put] using h3
 ·exact (h4.ext DM).put o.dst hv
theorem az.call {ops:Array Oper} {i:Nat} {rest:List Nat} {o:Oper} {q:Call} {f:Operand} {g:FuncId} {first caps:List V} (ho:ops[i]? = some o) (hw:kQ env ops o) (uZ:o.op = .call q) (hc:q.callee = .value f) (hf:bw I env f = .func g first caps)
 (h:cy P I g (first++q.args.toList.map (bw I env)++caps) S fun v S'=>az P I z fn (.inRegion ops rest :: k) (dD env o.dst v) S' R):az P I z fn (.inRegion ops (i :: rest) :: k) env S R:=by
 intro b a c w c0 w0 h1 h2 h3 h4 h5 h6 hI cs;have hv:=ij.eval h5 h4 f;rw [hI.1] at hv;rw [hf] at hv
 obtain ⟨cf,cc,hfe,q1,q2,q3,q4⟩:∃ cf cc,a.eval f = .func (.func g) cf cc∧cf.size=first.length∧cc.size=caps.length∧(∀ j (h:j < first.length),VR c w first[j] (cf.getD j undef))∧(∀ j (h:j < caps.length),VR c w caps[j] (cc.getD j undef)):=by
  generalize a.eval f=x at hv;cases hv with
  | func _ _ _ cf cc h1 h2 h3 h4=>exact ⟨cf,cc,rfl,h1,h2,h3,h4⟩
 have eI:(execOp a.eval o).run P w = .ok (.enter g (cf++q.args.map a.eval++cc)) w:=by
  unfold execOp;simp only [uZ,resolve,hc,hfe,Deferred.ofValue,Sem.run_bind,Sem.run_pure,Result.andThen_ok,invoke];exact h.1 _ _
 have hg:=stepG_op (P:=P) (b:=b) (k:=k) (cs:=cs) (w:=w) (rest:=rest) ho (zL h4 hw)
 have MG:Go.step P (lone (b.at a (.inRegion ops (i :: rest) :: k)) cs w) = .next (lone (Frame.enter P g (cf++q.args.map a.eval++cc) .normal) (b.at a (.inRegion ops (i :: rest) :: k) :: cs) w) :=
  step_lone_go (by rw [hg];simp [stepG.apply,eI,Frame.at])
 have nQ:∀ v,(b.at a (.inRegion ops (i :: rest) :: k)).finish v=b.at (a.put o.dst v) (.inRegion ops rest :: k):=by
  intro v;rw [Frame.finish_at,ho];rfl
 have hargs:∀ j (h:j < (first++q.args.toList.map (bw I env)++caps).length),VR c w (first++q.args.toList.map (bw I env)++caps)[j] ((cf++q.args.map a.eval++cc).getD j undef):=by
  intro j hj;rcases ct j first.length with bu | nU
  ·have e1:(first++q.args.toList.map (bw I env)++caps)[j]=first[j]:=by
    rw [cA fk,cA bu]
   have e2:(cf++q.args.map a.eval++cc).getD j undef=cf.getD j undef:=by
    rw [fM fk,fM ak,kW fk,kW ak]
   rw [e1,e2];exact q3 j bu
  ·rcases ct j (first.length+q.args.size) with rY | aim
   ·have e1:(first++q.args.toList.map (bw I env)++caps)[j]=bw I env (q.args[j - first.length]'ak):=by
     rw [cA fk,dZ nU];simp
    have e2:(cf++q.args.map a.eval++cc).getD j undef=a.eval (q.args[j - first.length]'ak):=by
     rw [fM fk,kW fk,sJ ak];simp [q1]
    rw [e1,e2];have:=ij.eval h5 h4 (q.args[j - first.length]'ak);rw [hI.1] at this;exact this
   ·have jT:j - (first.length+q.args.size) < caps.length:=by simp at hj;omega
    have e1:(first++q.args.toList.map (bw I env)++caps)[j]=caps[j - (first.length+q.args.size)]:=by
     rw [dZ fk]
     congr 1;simp
    have e2:(cf++q.args.map a.eval++cc).getD j undef=cc.getD (j - (first.length+q.args.size)) undef:=by
     rw [fM fk,fM ak,sJ fk]
     congr 1;simp [q1]
    rw [e1,e2];exact q4 _ jT
 obtain ⟨e,w',fr,⟨v,x,S',c',rfl,hR,Bw,DM,hvr⟩,abf,hfn,abg⟩:=h.2 c w (cf++q.args.map a.eval++cc) (by simp [q1,q2]) hargs h5 hI.1 (b.at a (.inRegion ops (i :: rest) :: k) :: cs);obtain ⟨e2,w2,JA,g1,g2,g3⟩:=hR b (a.put o.dst x) c' w' c0 w0 h1 h2 (by cases o.dst<;>simpa [Act.put] using h3) ((h4.ext DM).put o.dst hvr) Bw (h6.trans DM) ⟨DM.I.trans hI.1,hI.2⟩ cs;refine ⟨e2,w2,JA,g1,.of_steps (.head MG (Steps.trans abf (.one ?_))) g2,g3⟩;rw [← nQ];exact step_leave_returned abg
def yp (P:Program) (S:Mem) (env:List V):ResultVar→Option V
 | .tmp t=>some (env.getD t .undef)
 | .cell a t=>jE P S t (env.getD a .undef)
def DN (P:Program) (S:Mem) (env:List V):List ResultVar→Option V
 | []=>some (.fZ [])
 | [r]=>yp P S env r
 | [r,u]=>match yp P S env r,yp P S env u with
  | some a,some b=>some (.fZ [a,b])
  | _,_=>none
 | [r,u,s]=>match yp P S env r,yp P S env u,yp P S env s with
  | some a,some b,some d=>some (.fZ [a,b,d])
  | _,_,_=>none
 | _=>none
def MH (tmps:Array Value) (r:ResultVar):Sem Value :=
 match r with
 | .tmp t=>pure (tmps.getD t undef)
 | .cell a t=>do loadVar t (← asAddr (tmps.getD a undef))
theorem Qs (f:Func) (tmps:Array Value):results f tmps=(do
 let vs ← f.results.mapM (MH tmps)
 pure (if h:vs.size=1 then vs[0] else .tuple vs)):=by
 unfold results
 congr 1
theorem uy {c:Cx} {w:World} {tmps:Array Value} (h5:ji c w S) (he:ij c w env tmps) {r:ResultVar} {v:V} (hv:yp P S env r=some v):∃ x,(MH tmps r).run P w = .ok x w∧VR c w v x:=by
 cases r with
 | tmp t =>
  obtain rfl:=ag hv;exact ⟨_,rfl,he.get t⟩
 | cell a t =>
  have hv:jE P S t (env.getD a .undef)=some v:=hv;obtain ⟨y,hy,hr⟩:=OI (P:=P) h5 t (he.get a) hv;refine ⟨y,?_,hr⟩;rw [← hy]
  have hp:∃ p,tmps.getD a undef = .pointer (some p):=by
   have:=he.get a;unfold jE at hv
   split at hv
   ·rename_i heq;rw [heq] at this;generalize tmps.getD a undef=z at this;cases this;exact ⟨_,rfl⟩
   ·rename_i heq;rw [heq] at this;generalize tmps.getD a undef=z at this;cases this;exact ⟨_,rfl⟩
   ·cases hv
  obtain ⟨p,hp⟩:=hp;simp only [MH,Instr.loadAt,hp,asAddr,Instr.sureAddr]
theorem OM {c:Cx} {w:World} {tmps:Array Value} (h5:ji c w S) (he:ij c w env tmps) {f:Func} {v:V} (hv:DN P S env f.results.toList=some v):∃ x,(results f tmps).run P w = .ok x w∧VR c w v x:=by
 rw [Qs];unfold DN at hv
 split at hv
 case h_5=>cases hv
 ·rename_i ht;obtain rfl:=ag hv;have:f.results = #[]:=by apply fO.1;rw [ht]
  exact ⟨.tuple #[],by simp [this],.fZ _ _ rfl (fun j h=>by simp at h)⟩
 ·rename_i r ht;have:f.results = #[r]:=by apply fO.1;rw [ht]
  obtain ⟨x,hx,hr⟩:=uy h5 he hv;exact ⟨x,by simp [this,hx],hr⟩
 ·rename_i r u ht;have:f.results = #[r,u]:=by apply fO.1;rw [ht]
  split at hv
  case h_2=>cases hv
  rename_i a b ha hb;obtain rfl:=ag hv;obtain ⟨x,hx,hr⟩:=uy h5 he ha;obtain ⟨y,hy,hs⟩:=uy h5 he hb;refine ⟨.tuple #[x,y],by simp [this,hx,hy],.fZ _ _ rfl (fun j h=>?_)⟩
  match j,h with
  | 0,_=>exact hr
  | 1,_=>exact hs
 ·rename_i r u s ht;have:f.results = #[r,u,s]:=by apply fO.1;rw [ht]
  split at hv
  case h_2=>cases hv
  rename_i a b d ha hb hd;obtain rfl:=ag hv;obtain ⟨x,hx,hr⟩:=uy h5 he ha;obtain ⟨y,hy,hs⟩:=uy h5 he hb;obtain ⟨z,hz,hq⟩:=uy h5 he hd;refine ⟨.tuple #[x,y,z],by simp [this,hx,hy,hz],.fZ _ _ rfl (fun j h=>?_)⟩
  match j,h with
  | 0,_=>exact hr
  | 1,_=>exact hs
  | 2,_=>exact hq
theorem az.ret {f:Func} {v:V} (hf:P.funcs[fn]? = some f) (hv:DN P S env f.results.toList=some v) (hR:R v S):az P I z fn (.code .ret :: k) env S R:=by
 intro b a c w c0 w0 h1 h2 h3 h4 h5 h6 hI cs;obtain ⟨x,hx,hvr⟩:=OM (P:=P) h5 h4 hv;exact ⟨.returned x,w,{ b.at a (.code .ret :: k) with mode:=.returning },⟨v,x,S,c,rfl,hR,h5,h6,hvr⟩,.one step_ret,rfl,rfl,h3,h2,f,by show P.funcs[b.fn]? = some f;rw [h1];exact hf,hx⟩
theorem az.fin {f:Func} {v:V} (hf:P.funcs[fn]? = some f) (hv:DN P S env f.results.toList=some v) (hR:R v S):az P I z fn [] env S R:=by
 intro b a c w c0 w0 h1 h2 h3 h4 h5 h6 hI cs;obtain ⟨x,hx,hvr⟩:=OM (P:=P) h5 h4 hv;exact ⟨.returned x,w,{ b.at a [] with mode:=.returning },⟨v,x,S,c,rfl,hR,h5,h6,hvr⟩,.one step_end,rfl,rfl,h3,h2,f,by show P.funcs[b.fn]? = some f;rw [h1];exact hf,hx⟩
theorem cy.enter {f:Func} {body:Code} {args:List V} (hf:P.funcs[fn]? = some f) (hb:f.body=some body) (wv:(f.name == "runtime.NumGoroutine")=false)
 (h:az P I (S.boxes.length,S.dG.length) fn [.code body] (args++List.replicate (f.ntmps - args.length) .undef) S R):cy P I fn args S R:=by
 have hn:¬ f.name = "runtime.NumGoroutine":=by simpa using wv
 refine ⟨fun xs w=>by simp [callFunc,hf,hn,hb],fun c w xs h1 h2 h3 hI cs=>?_⟩
 let b:Frame:={ (default:Frame) with fn:=fn,kind:=.normal }
 have MG:Frame.enter P fn xs .normal=b.at { tmps:=xs++Array.replicate (f.ntmps - xs.size) undef,defers:=[] } [.code body]:=by
  simp [Frame.enter,Frame.at,hf,hb,b]
 rw [MG];refine h b _ c w c w rfl rfl rfl ⟨by simp [h1],fun t ht=>?_⟩ h3 (.refl _ _) ⟨hI,h3.len.symm,by rw [h3.dG];simp⟩ cs;rcases ct t args.length with bu | nU
 ·rw [cA bu];have:=h2 t bu;rw [fM ak] at this;rw [fM fk,kW ak];exact this
 ·rw [dZ nU];simp only [pE];exact .undef _
end rules
abbrev kA:=List Item→List V→Mem→Prop
def Ci (next:kA) (t:Bool) (k1:List Item) (e1:List V) (k2:List Item) (e2:List V) (S:Mem):Prop:=if t then next k1 e1 S else next k2 e2 S
def DO (next:kA) (r:Option (V × Mem)) (k:List Item) (d:Option Tmp) (env:List V):Prop :=
 match r with
 | some (v,S)=>next k (dD env d v) S
 | none=>False
def wA (P:Program) (I:Inv) (stop:kA) (f:V) (args:List V) (k:List Item) (d:Option Tmp) (env:List V) (S:Mem):Prop :=
 match f with
 | .func g first caps=>cy P I g (first++args++caps) S fun v S'=>stop k (dD env d v) S'
 | _=>False
def Ia (P:Program) (I:Inv) (next stop:kA) (ops:Array Oper) (rest:List Nat) (o:Oper) (k:List Item) (env:List V) (S:Mem):Prop :=
 match o.op with
 | .call q=>match q.callee with
  | .value f=>wA P I stop (bw I env f) (q.args.toList.map (bw I env)) (.inRegion ops rest :: k) o.dst env S
  | _=>DO next (jV P (bw I env) S q) (.inRegion ops rest :: k) o.dst env
 | op=>DO next (jt P (bw I env) S op) (.inRegion ops rest :: k) o.dst env
def rJ (P:Program) (I:Inv) (next stop:kA) (t:Bool) (want:Bool) (ops:Array Oper) (rest:List Nat) (o:Oper) (k:List Item) (env:List V) (S:Mem):Prop :=
 if (t == want)=true then Ia P I next stop ops rest o k env S else next (.inRegion ops rest :: k) (dD env o.dst (.fZ [])) S
theorem MI (P:Program) (I:Inv) (next stop:kA) (b:Bool) (ops:Array Oper) (rest:List Nat) (o:Oper) (k:List Item) (env:List V) (S:Mem):rJ P I next stop b b ops rest o k env S=Ia P I next stop ops rest o k env S:=by simp [rJ]
theorem Qt (P:Program) (I:Inv) (next stop:kA) (ops:Array Oper) (rest:List Nat) (o:Oper) (k:List Item) (env:List V) (S:Mem):rJ P I next stop true false ops rest o k env S=next (.inRegion ops rest :: k) (dD env o.dst (.fZ [])) S:=by simp [rJ]
theorem Qu (P:Program) (I:Inv) (next stop:kA) (ops:Array Oper) (rest:List Nat) (o:Oper) (k:List Item) (env:List V) (S:Mem):rJ P I next stop false true ops rest o k env S=next (.inRegion ops rest :: k) (dD env o.dst (.fZ [])) S:=by simp [rJ]
theorem cU {P:Program} {I:Inv} {next stop:kA} {t want:Bool} {ops:Array Oper} {rest:List Nat} {o:Oper} {k:List Item} {env:List V} {S:Mem} (h1:t=true→rJ P I next stop true want ops rest o k env S) (h2:t=false→rJ P I next stop false want ops rest o k env S):rJ P I next stop t want ops rest o k env S:=by
 cases t
 ·exact h2 rfl
 ·exact h1 rfl
def yP (P:Program) (I:Inv) (next stop:kA) (g:V) (want:Bool) (ops:Array Oper) (rest:List Nat) (o:Oper) (k:List Item) (env:List V) (S:Mem):Prop :=
 match g with
 | .d (.bool t)=>rJ P I next stop t want ops rest o k env S
 | .fZ []=>next (.inRegion ops rest :: k) (dD env o.dst (.fZ [])) S
 | _=>False
def JX (P:Program) (I:Inv) (next stop:kA) (ops:Array Oper) (i:Nat) (rest:List Nat) (k:List Item) (env:List V) (S:Mem):Prop :=
 match ops[i]? with
 | some o=>match o.guard with
  | none=>Ia P I next stop ops rest o k env S
  | some (j,want)=>yP P I next stop (lJ env ops j) want ops rest o k env S
 | none=>False
def Bz (i:Nat):List Oper→List Nat
 | []=>[]
 | _ :: l=>i :: Bz (i+1) l
theorem DP:∀ (l:List Oper) (i:Nat),Bz i l=List.range' i l.length
 | [],_=>rfl
 | _ :: l,i=>by rw [Bz,DP l];rfl
theorem DQ (ops:Array Oper):Bz 0 ops.toList=List.range ops.size:=by rw [DP,List.range_eq_range'];simp
def od (I:Inv) (next stop:kA) (c:Code) (k:List Item) (env:List V) (S:Mem):Prop :=
 match c with
 | .seq a b=>next (.code a :: .code b :: k) env S
 | .skip=>next k env S
 | .label _=>next k env S
 | .block id a=>next (.code a :: .inBlock id :: k) env S
 | .region _ ops false=>next (.inRegion ops (Bz 0 ops.toList) :: k) env S
 | .cond x a b=>match bw I env x with
  | .d (.bool t)=>Ci next t (.code a :: k) env (.code b :: k) env S
  | _=>False
 | .exit id=>match exitTo id k with
  | some k'=>next k' env S
  | none=>False
 | c=>stop (.code c :: k) env S
def wB (P:Program) (I:Inv) (next stop:kA) (k:List Item) (env:List V) (S:Mem):Prop :=
 match k with
 | .code c :: k=>od I next stop c k env S
 | .inBlock _ :: k=>next k env S
 | .inRegion _ [] :: k=>next k env S
 | .inRegion ops (i :: rest) :: k=>JX P I next stop ops i rest k env S
 | k=>stop k env S
def steps (P:Program) (I:Inv):Nat→kA→kA
 | 0,stop=>stop
 | n+1,stop=>wB P I (steps P I n stop) stop
theorem MJ (next:kA) (k1:List Item) (e1:List V) (k2:List Item) (e2:List V) (S:Mem):Ci next true k1 e1 k2 e2 S=next k1 e1 S:=rfl
theorem JY (next:kA) (k1:List Item) (e1:List V) (k2:List Item) (e2:List V) (S:Mem):Ci next false k1 e1 k2 e2 S=next k2 e2 S:=rfl
theorem cT {next:kA} {t:Bool} {k1:List Item} {e1:List V} {k2:List Item} {e2:List V} {S:Mem} (h1:t=true→next k1 e1 S) (h2:t=false→next k2 e2 S):Ci next t k1 e1 k2 e2 S:=by
 cases t
 ·exact h2 rfl
 ·exact h1 rfl
theorem MK (next:kA) (v:V) (S:Mem) (k:List Item) (d:Option Tmp) (env:List V):DO next (some (v,S)) k d env=next k (dD env d v) S:=rfl
theorem ML (P:Program) (I:Inv) (stop:kA) (k:List Item) (env:List V) (S:Mem):steps P I 0 stop k env S=stop k env S:=rfl
theorem MN (P:Program) (I:Inv) (n:Nat) (stop:kA) (k:List Item) (env:List V) (S:Mem):steps P I (n+1) stop k env S=wB P I (steps P I n stop) stop k env S:=rfl
theorem kG {P:Program} {I:Inv} {stop:kA} {g:FuncId} {args:List V} {k:List Item} {d:Option Tmp} {env:List V} {S:Mem} {Q:V→Mem→Prop} (h:cy P I g args S Q) (hk:∀ v S',Q v S'→stop k (dD env d v) S'):wA P I stop (.func g [] []) args k d env S:=by
 unfold wA;simp only [dO,aQ];exact h.mono hk
theorem cz {P:Program} {I:Inv} {stop:kA} {g:FuncId} {first args caps:List V} {k:List Item} {d:Option Tmp} {env:List V} {S:Mem} {Q:V→Mem→Prop} (h:cy P I g (first++args++caps) S Q) (hk:∀ v S',Q v S'→stop k (dD env d v) S'):wA P I stop (.func g first caps) args k d env S:=h.mono hk
theorem aX {P:Program} {I:Inv} {stop:kA} {g:FuncId} {args:List V} {k:List Item} {d:Option Tmp} {env:List V} {S S':Mem} {v:V} {Q:V→Mem→Prop} (h:cy P I g args S Q) (hk:stop k (dD env d v) S') (e:∀ u T,Q u T→u=v∧T=S':=by exact fun _ _ h=>h):wA P I stop (.func g [] []) args k d env S :=
 kG h fun u T hq=>by
  obtain ⟨rfl,rfl⟩:=e u T hq;exact hk
theorem rK {P:Program} {I:Inv} {stop:kA} {g:FuncId} {first args caps:List V} {k:List Item} {d:Option Tmp} {env:List V} {S S':Mem} {v:V} {Q:V→Mem→Prop} (h:cy P I g (first++args++caps) S Q) (hk:stop k (dD env d v) S') (e:∀ u T,Q u T→u=v∧T=S':=by exact fun _ _ h=>h):wA P I stop (.func g first caps) args k d env S :=
 cz h fun u T hq=>by
  obtain ⟨rfl,rfl⟩:=e u T hq;exact hk
section
variable {P:Program} {I:Inv} {z:Nat × Nat} {fn:FuncId} {R:V→Mem→Prop}
theorem Ti {next stop:kA} (hn:∀ k env S,next k env S→az P I z fn k env S R) (hs:∀ k env S,stop k env S→az P I z fn k env S R) (k:List Item) (env:List V) (S:Mem) (h:wB P I next stop k env S):az P I z fn k env S R:=by
 have hdo:∀ (ops:Array Oper) (i:Nat) (rest:List Nat) (o:Oper) (k:List Item) (env:List V) (S:Mem),ops[i]? = some o→kQ env ops o→Ia P I next stop ops rest o k env S→az P I z fn (.inRegion ops (i :: rest) :: k) env S R:=by
  intro ops i rest o k env S ho hw hd
  have hb:∀ r,jt P (bw I env) S o.op=r→DO next r (.inRegion ops rest :: k) o.dst env→az P I z fn (.inRegion ops (i :: rest) :: k) env S R:=by
   intro r hr hb;cases r with
   | none=>exact hb.elim
   | some p=>exact .op ho hw hr (hn _ _ _ hb)
  unfold Ia at hd
  split at hd
  ·rename_i q hq
   split at hd
   ·rename_i f hf;unfold wA at hd
    split at hd
    ·rename_i g first caps hg
     exact .call ho hw hq hf hg (hd.mono fun v S' h=>hs _ _ _ h)
    ·exact hd.elim
   ·exact hb _ (by rw [hq];rfl) hd
  ·exact hb _ rfl hd
 unfold wB at h
 split at h
 ·rename_i c k;unfold od at h
  split at h
  ·exact .seq (hn _ _ _ h)
  ·exact .skip (hn _ _ _ h)
  ·exact .label (hn _ _ _ h)
  ·exact .block (hn _ _ _ h)
  ·rw [DQ] at h;exact .region (hn _ _ _ h)
  ·rename_i x a b
   split at h
   ·rename_i t ht;refine .cond ht ?_;unfold Ci at h
    split at h
    ·rename_i zx;rw [zx];exact hn _ _ _ h
    ·rename_i zx;have:t=false:=by simpa using zx
     rw [this];exact hn _ _ _ h
   ·exact h.elim
  ·split at h
   ·rename_i k' hk;exact .exit hk (hn _ _ _ h)
   ·exact h.elim
  ·exact hs _ _ _ h
 ·exact .inBlock (hn _ _ _ h)
 ·exact .qp (hn _ _ _ h)
 ·rename_i ops i rest k;unfold JX at h
  split at h
  ·rename_i o ho
   split at h
   ·rename_i hg;exact hdo _ _ _ _ _ _ _ ho (.inl hg) h
   ·rename_i j want hg;unfold yP at h
    split at h
    ·rename_i t ht;unfold rJ at h
     split at h
     ·rename_i hw;have:t=want:=by simpa using hw
      subst this;exact hdo _ _ _ _ _ _ _ ho (.inr ⟨j,t,hg,ht⟩) h
     ·rename_i hw;exact .uY ho ⟨j,want,hg,.inl ⟨t,ht,by simpa using hw⟩⟩ (hn _ _ _ h)
    ·rename_i ht;exact .uY ho ⟨j,want,hg,.inr ht⟩ (hn _ _ _ h)
    ·exact h.elim
  ·exact h.elim
 ·exact hs _ _ _ h
theorem JZ {stop:kA} (hs:∀ k env S,stop k env S→az P I z fn k env S R):∀ (n:Nat) (k:List Item) (env:List V) (S:Mem),steps P I n stop k env S→az P I z fn k env S R
 | 0,_,_,_,h=>hs _ _ _ h
 | n+1,k,env,S,h=>Ti (JZ hs n) hs k env S h
theorem az.go (n:Nat) {k:List Item} {env:List V} {S:Mem} (h:steps P I n (fun k env S=>az P I z fn k env S R) k env S):az P I z fn k env S R:=JZ (fun _ _ _ h=>h) n k env S h
theorem goN {k:List Item} {env:List V} {S:Mem} (h:steps P I 200 (fun k env S=>az P I z fn k env S R) k env S):az P I z fn k env S R:=az.go 200 h
theorem az.token {k:List Item} {env:List V} {S:Mem} (q:Nat) (rows:List (List D)) (hq:env.getD q .undef = .sl rows .full) (sz:Nat) (h0:0 < sz) (jS:fE sz rows=true)
 (h:az P I z fn k (env.set q (.sl rows (.own S.dG.length))) { S with dG:=S.dG++[(rows.length,sz)] } R):az P I z fn k env S R:=by
 intro b a c w c0 w0 h1 h2 h3 h4 h5 h6 hI;have hv:=h4.get q;rw [hq] at hv;obtain ⟨c',r1,r2,r3⟩:=h5.token hv sz h0 (nj jS);refine h b a c' w c0 w0 h1 h2 h3 ?_ r1 (h6.trans r2) ⟨r2.I.trans hI.1,hI.2⟩;have he:=h4.ext r2;refine ⟨by simpa using he.1,fun t ht=>?_⟩;have nX:t < env.length:=by simpa using ht
 by_cases e:q=t
 ·subst e;simpa using r3
 ·have:=he.2 t nX
  simpa [e] using this
end
mutual
def wk (n m:Nat):V→V
 | .undef=>.undef
 | .d x=>.d x
 | .sl rows .full=>.d (.sl rows)
 | .sl rows (.own t)=>if t < m then .sl rows (.own t) else .d (.sl rows)
 | .ptr i k=>if i < n then .ptr i k else .undef
 | .nc r k=>.nc r k
 | .bx i k cap=>if i < n then .bx i k cap else .undef
 | .self i T=>if i < n then .self i T else .undef
 | .buf rows t T=>if t < m then .buf rows t T else .d (.sl rows)
 | .oU=>.oU
 | .func f a b=>.func f (u7 n m a) (u7 n m b)
 | .sF=>.sF
 | .agg vs=>.agg (u7 n m vs)
 | .fZ vs=>.fZ (u7 n m vs)
 | .mp i=>if i < n then .mp i else .undef
 | .vY ks vs=>.vY ks (u7 n m vs)
def u7 (n m:Nat):List V→List V
 | []=>[]
 | v :: vs=>wk n m v :: u7 n m vs
end
theorem pF (n m:Nat):∀ vs:List V,u7 n m vs=vs.map (wk n m)
 | []=>by simp [u7]
 | v :: vs=>by simp [u7,pF n m vs]
mutual
def fit (n m:Nat):V→Bool
 | .undef=>true
 | .d _=>true
 | .sl _ .full=>true
 | .sl _ (.own t)=>decide (t < m)
 | .ptr i _=>decide (i < n)
 | .nc _ _=>true
 | .bx i _ _=>decide (i < n)
 | .self i _=>decide (i < n)
 | .buf _ t _=>decide (t < m)
 | .oU=>true
 | .sF=>true
 | .func _ a b=>qq n m a && qq n m b
 | .agg vs=>qq n m vs
 | .fZ vs=>qq n m vs
 | .mp i=>decide (i < n)
 | .vY _ vs=>qq n m vs
def qq (n m:Nat):List V→Bool
 | []=>true
 | v :: vs=>fit n m v && qq n m vs
end
theorem kH (n m:Nat):∀ vs:List V,qq n m vs=true↔∀ (j:Nat) (h:j < vs.length),fit n m vs[j]=true
 | []=>by simp [qq]
 | v :: vs=>by
  simp only [qq,aF,kH n m vs];constructor
  ·rintro ⟨h1,h2⟩ j hj;cases j with
   | zero=>exact h1
   | succ j=>exact h2 j (by simpa using hj)
  ·intro h;exact ⟨h 0 dM,fun j hj=>h (j+1) (by simpa using hj)⟩
def Cx.cut (c:Cx) (n m:Nat):Cx:={ c with ρ:=c.ρ.take n,τ:=c.τ.take m }
theorem DS {c:Cx} {n m g k:Nat} (h:(c.cut n m).M g k):c.M g k:=by
 rcases h with (h | h) | ⟨t,i,off,ht,r⟩
 ·exact .inl (.inl h)
 ·exact .inl (.inr (iL h))
 ·have nX:(c.τ.take m)[t]? = some i:=ht;rw [bp] at nX
  split at nX
  ·exact .inr ⟨t,i,off,nX,r⟩
  ·cases nX
theorem DR.cut {c:Cx} {w:World} (n m:Nat) {x:D} {v:Value} (h:DR c.M w x v):DR (c.cut n m).M w x v:=h.mono fun _ _ _ hm hv=>⟨fun h=>hm (DS h),hv⟩
theorem iG {α:Type} {l:List α} {n i:Nat} {x:α} (h:l[i]? = some x) (hi:i < n):(l.take n)[i]? = some x:=by rw [bp,aD hi];exact h
theorem VR.cut {c:Cx} {w:World} (n m:Nat) {x:V} {v:Value} (h:VR c w x v):VR (c.cut n m) w (wk n m x) v:=by
 induction h with
 | undef v=>unfold wk;exact .undef v
 | d x v h=>unfold wk;exact .d x v (h.cut n m)
 | full rows a h ha=>unfold wk;exact .d _ _ (h.cut n m)
 | own rows t a cap i h ht hr hn hl =>
  unfold wk
  split
  ·rename_i bu;exact .own rows t a cap i (h.cut n m) (iG ht bu) hr hn hl
  ·exact .d _ _ (h.cut n m)
 | ptr i k b h hT =>
  unfold wk
  split
  ·rename_i bu;exact .ptr i k b (iG h bu) hT
  ·exact .undef _
 | nc row k g o f h =>
  unfold wk;refine .nc row k g o f fun q hq=>?_;obtain ⟨a,b,d⟩:=h q hq;exact ⟨fun h=>a (DS h),b,d.cut n m⟩
 | bx i k cap b h hn hm hT =>
  unfold wk
  split
  ·rename_i bu;exact .bx i k cap b (iG h bu) hn hm hT
  ·exact .undef _
 | mp i b h =>
  unfold wk
  split
  ·rename_i bu;exact .mp i b (iG h bu)
  ·exact .undef _
 | self i T b v h hT hv =>
  unfold wk
  split
  ·rename_i bu;exact .self i T b v (iG h bu) hT hv
  ·exact .undef _
 | buf rows t T v h hT ih =>
  unfold wk at ih ⊢
  split
  ·rename_i bu;rw [aD bu] at ih;exact .buf rows t T v ih hT
  ·rename_i bu;rw [aq bu] at ih;exact ih
 | oU=>unfold wk;exact .oU
 | func f first caps cf cc h1 h2 h3 h4 SQ o8 =>
  unfold wk;rw [pF,pF];exact .func f _ _ cf cc (by simpa using h1) (by simpa using h2) (fun j hj=>by simpa using SQ j (by simpa using hj)) (fun j hj=>by simpa using o8 j (by simpa using hj))
 | sF=>unfold wk;exact .sF
 | agg vs cs h1 h2 h3 ih =>
  unfold wk;rw [pF];exact .agg _ cs (by simpa using h1) (fun j hj=>by simpa using ih j (by simpa using hj)) (fun j hj=>h3 j (by simpa using hj))
 | fZ vs cs h1 h2 ih =>
  unfold wk;rw [pF];exact .fZ _ cs (by simpa using h1) (fun j hj=>by simpa using ih j (by simpa using hj))
theorem VR.xz {c:Cx} {w:World} (n m:Nat) {x:V} {v:Value} (h:VR c w x v) (hf:fit n m x=true):VR (c.cut n m) w x v:=by
 induction h with
 | undef v=>exact .undef v
 | d x v h=>exact .d x v (h.cut n m)
 | full rows a h ha=>exact .full rows a (h.cut n m) ha
 | own rows t a cap i h ht hr hn hl=>exact .own rows t a cap i (h.cut n m) (iG ht (by simpa [fit] using hf)) hr hn hl
 | ptr i k b h hT=>exact .ptr i k b (iG h (by simpa [fit] using hf)) hT
 | bx i k cap b h hn hm hT=>exact .bx i k cap b (iG h (by simpa [fit] using hf)) hn hm hT
 | mp i b h=>exact .mp i b (iG h (by simpa [fit] using hf))
 | self i T b v h hT hv=>exact .self i T b v (iG h (by simpa [fit] using hf)) hT hv
 | buf rows t T v h hT ih=>exact .buf rows t T v (ih (by simpa [fit] using hf)) hT
 | nc row k g o f h =>
  refine .nc row k g o f fun q hq=>?_;obtain ⟨a,b,d⟩:=h q hq;exact ⟨fun h=>a (DS h),b,d.cut n m⟩
 | oU=>exact .oU
 | sF=>exact .sF
 | func f first caps cf cc h1 h2 h3 h4 SQ o8 =>
  unfold fit at hf;rw [aF,kH,kH] at hf;exact .func f first caps cf cc h1 h2 (fun j hj=>SQ j hj (hf.1 j hj)) (fun j hj=>o8 j hj (hf.2 j hj))
 | agg vs cs h1 h2 h3 ih =>
  unfold fit at hf;rw [kH] at hf;exact .agg vs cs h1 (fun j hj=>ih j hj (hf j hj)) h3
 | fZ vs cs h1 h2 ih =>
  unfold fit at hf;rw [kH] at hf;exact .fZ vs cs h1 (fun j hj=>ih j hj (hf j hj))
theorem VR.fits {c:Cx} {w:World} {x:V} {v:Value} (h:VR c w x v):fit c.ρ.length c.τ.length x=true:=by
 induction h with
 | own rows t a cap i h ht hr hn hl=>simpa [fit] using (List.getElem?_eq_some_iff.1 ht).1
 | ptr i k b h hT=>simpa [fit] using (List.getElem?_eq_some_iff.1 h).1
 | bx i k cap b h hn hm hT=>simpa [fit] using (List.getElem?_eq_some_iff.1 h).1
 | mp i b h=>simpa [fit] using (List.getElem?_eq_some_iff.1 h).1
 | self i T b v h hT hv=>simpa [fit] using (List.getElem?_eq_some_iff.1 h).1
 | buf rows t T v h hT ih=>simpa [fit] using ih
 | func f first caps cf cc h1 h2 h3 h4 SQ o8=>unfold fit;rw [Bool.and_eq_true,kH,kH];exact ⟨SQ,o8⟩
 | agg vs cs h1 h2 h3 ih=>unfold fit;rw [kH];exact ih
 | fZ vs cs h1 h2 ih=>unfold fit;rw [kH];exact ih
 | _=>simp [fit]
theorem v8.xz {c:Cx} {w:World} (n m:Nat) {o:Obj} {vs:List V} (h:v8 c w o vs) (hf:∀ (j:Nat) (h:j < vs.length),fit n m vs[j]=true):v8 (c.cut n m) w o vs:=by
 cases h with
 | cells cs T vs h1 h2=>exact .cells cs T vs h1 fun j hj=>⟨(h2 j hj).1.xz n m (hf j hj),(h2 j hj).2⟩
 | map es ck ks us h0 h1 h2 =>
  have hf:=hf 0 dM;simp only [gm,fit] at hf;rw [kH] at hf;refine .map es ck ks us h0 h1 fun j k v hj hv=>(h2 j k v hj hv).imp fun e he=>⟨he.1,he.2.1,he.2.2.xz n m ?_⟩;obtain ⟨bu,rfl⟩:=ai.1 hv;exact hf j bu
theorem v8.fits {c:Cx} {w:World} {o:Obj} {vs:List V} (h:v8 c w o vs):∀ (j:Nat) (h:j < vs.length),fit c.ρ.length c.τ.length vs[j]=true:=by
 cases h with
 | cells cs T vs h1 h2=>exact fun j hj=>(h2 j hj).1.fits
 | map es ck ks us h0 h1 h2 =>
  intro j hj;obtain rfl:j=0:=by simpa using hj
  simp only [gm,fit];rw [kH];intro q hq;obtain ⟨e,_,_,hv⟩:=h2 q (ks[q]'ak) us[q] (by simp [show q < ks.length by omega]) (by simp [hq]);exact hv.fits
def Ib (n m:Nat) (B L:bQ):Prop:=∀ (i:Nat) (vs:List V),L[i]? = some vs→∀ v∈vs,(∃ us,B[i]? = some us∧v∈us)∨fit n m v=true
def yQ (n m:Nat) (B L:bQ):Prop:=∀ (i:Nat) (vs:List V),L[i]? = some vs→B[i]? = some vs∨vs.all (fit n m)=true
theorem yQ.cells {n m:Nat} {B L:bQ} (h:yQ n m B L):Ib n m B L:=fun i vs hi v hv=>(h i vs hi).elim (fun h=>.inl ⟨vs,h,hv⟩) fun h=>.inr (cC.1 h v hv)
theorem yQ.refl (n m:Nat) (B:bQ):yQ n m B B:=fun _ _ h=>.inl h
theorem yQ.set {n m:Nat} {B L:bQ} (h:yQ n m B L) (i:Nat) {vs:List V} (hv:vs.all (fit n m)=true):yQ n m B (L.set i vs):=by
 intro j us hj
 by_cases e:j=i
 ·subst e;rw [List.getElem?_set_self'] at hj;cases hl:L[j]? with
  | none=>rw [hl] at hj;cases hj
  | some _ =>
   rw [hl] at hj;obtain rfl:vs=us:=by simpa using hj
   exact .inr hv
 ·rw [aj (fun h=>e h.symm)] at hj;exact h j us hj
theorem J0 {c0 c:Cx} {w0 w:World} (hk:oH c0 w0 c w):c.ρ.take c0.ρ.length=c0.ρ:=by
 apply fW;intro i;rcases ct i c0.ρ.length with h | h
 ·rw [bp,aD h,au h];exact hk.ρ i _ (au h)
 ·rw [bp,aq ak,dP h]
theorem forget {c0 c:Cx} {w0 w:World} {S:Mem} {v:V} {x:Value} {L J:bQ} {T K:eg} (h0:ji c0 w0 S) (hx:Ext c0 w0 c w) (h:ji c w ⟨L++J,T++K⟩) (hv:VR c w v x) (hL:L.length=S.boxes.length) (hT:T.length=S.dG.length) (hf:Ib S.boxes.length S.dG.length S.boxes L) :
 ji (c.cut S.boxes.length S.dG.length) w ⟨L,T⟩∧Ext c0 w0 (c.cut S.boxes.length S.dG.length) w∧VR (c.cut S.boxes.length S.dG.length) w (wk S.boxes.length S.dG.length v) x:=by
 have e1:S.boxes.length=c0.ρ.length:=h0.len;have e2:S.dG.length=c0.τ.length:=by rw [h0.dG];simp
 have hp:=J0 hx.keeps
 have hn:c0.ρ.length≤c.ρ.length:=by
  have:=gR List.length hp;simp at this;omega
 refine ⟨⟨by rw [show (c.cut S.boxes.length S.dG.length).B=c.B from rfl];exact h.hB,?_,fun i b hi=>?_,fun i j b hi hj=>?_,?_,fun t i ht=>?_,fun t t' i i' g off Bq ht nX=>?_,h.inv⟩,⟨⟨fun g k v hm hv=>?_,fun i b hi=>?_,fun t i hi=>?_,hx.B,hx.keeps.ty⟩,hx.B,hx.I,hx.X,hx.below⟩,hv.cut _ _⟩
 ·show L.length=(c.ρ.take S.boxes.length).length;simp;omega
 ·have rE:(c.ρ.take S.boxes.length)[i]? = some b:=hi;rw [bp] at rE
  split at rE
  case isFalse=>cases rE
  rename_i bu;obtain ⟨a,o,hh,vs,g1,g2⟩:=h.box i b rE
  have g1':L[i]? = some vs:=by
   have:(L++J)[i]? = some vs:=g1
   rwa [bk ak] at this
  refine ⟨a,o,hh,vs,g1',g2.xz _ _ fun j hj=>?_⟩;rcases hf i vs g1' _ (aH hj) with ⟨us,hold,hm⟩ | FD
  ·obtain ⟨b0,p8⟩:∃ b0,c0.ρ[i]? = some b0:=⟨_,au ak⟩;obtain ⟨_,o0,_,vs0,k1,k3⟩:=h0.box i b0 p8;rw [hold] at k1;obtain rfl:=ag k1;obtain ⟨q,hq,e⟩:=ga.1 hm;have:=k3.fits q hq;rw [← e1,← e2,e] at this;exact this
  ·exact FD
 ·have rE:(c.ρ.take S.boxes.length)[i]? = some b:=hi;have jT:(c.ρ.take S.boxes.length)[j]? = some b:=hj;rw [bp] at rE jT
  split at rE
  case isFalse=>cases rE
  split at jT
  case isFalse=>cases jT
  exact h.inj i j b rE jT
 ·show T=(c.τ.take S.dG.length).map _;have:=h.dG;have h2:T++K=c.τ.map fun i=>(i.n,i.sz):=this;rw [og,← h2,← hT];simp
 ·have nX:(c.τ.take S.dG.length)[t]? = some i:=ht;rw [bp] at nX
  split at nX
  case isFalse=>cases nX
  obtain ⟨a1,a2,a3,a4,a5⟩:=h.tok t i nX;refine ⟨a1,a2,a3,a4,fun bu g off ha=>?_⟩;obtain ⟨b1,b2,b3⟩:=a5 bu g off ha;exact ⟨b1,fun hm=>b2 (iL hm),b3⟩
 ·have Cj:(c.τ.take S.dG.length)[t]? = some i:=ht;have zx:(c.τ.take S.dG.length)[t']? = some i':=nX;rw [bp] at Cj zx
  split at Cj
  case isFalse=>cases Cj
  split at zx
  case isFalse=>cases zx
  exact h.yL t t' i i' g off Bq Cj zx
 ·exact ⟨fun h=>(hx.keeps.cell g k v hm hv).1 (DS h),(hx.keeps.cell g k v hm hv).2⟩
 ·exact iG (hx.keeps.ρ i b hi) (by have:=(ai.1 hi).1;omega)
 ·obtain ⟨i',a1,a2⟩:=hx.keeps.τ t i hi;exact ⟨i',iG a1 (by have:=(ai.1 hi).1;omega),a2⟩
def Left (S:Mem) (R:V→Mem→Prop) (v:V) (S':Mem):Prop :=
 ∃ L J T K,S' = ⟨L++J,T++K⟩∧L.length=S.boxes.length∧T.length=S.dG.length∧Ib S.boxes.length S.dG.length S.boxes L∧R (wk S.boxes.length S.dG.length v) ⟨L,T⟩
theorem cy.left {P:Program} {I:Inv} {f:FuncId} {args:List V} {S:Mem} {R:V→Mem→Prop} (h:cy P I f args S (Left S R)):cy P I f args S R:=by
 refine ⟨h.1,fun c w xs h1 h2 h3 hI cs=>?_⟩;obtain ⟨e,w',fr,⟨v,x,S',c',a1,⟨L,J,T,K,rfl,b2,b3,b4,b5⟩,a3,a4,a5⟩,h⟩:=h.2 c w xs h1 h2 h3 hI cs;obtain ⟨r1,r2,r3⟩:=forget h3 a4 a3 a5 b2 b3 b4;exact ⟨e,w',fr,⟨_,x,_,_,a1,b5,r1,r2,r3⟩,h⟩
theorem Left.ofC {B L J:bQ} {T U K:eg} {R:V→Mem→Prop} {v:V} (h1:L.length=B.length) (h2:U.length=T.length) (h3:Ib B.length T.length B L) (h:R (wk B.length T.length v) ⟨L,U⟩):Left ⟨B,T⟩ R v ⟨L++J,U++K⟩:=⟨L,J,U,K,rfl,h1,h2,h3,h⟩
theorem Left.of {B L J:bQ} {T U K:eg} {R:V→Mem→Prop} {v:V} (h1:L.length=B.length) (h2:U.length=T.length) (h3:yQ B.length T.length B L) (h:R (wk B.length T.length v) ⟨L,U⟩):Left ⟨B,T⟩ R v ⟨L++J,U++K⟩:=Left.ofC h1 h2 h3.cells h
theorem Left.all {B J:bQ} {T K:eg} {R:V→Mem→Prop} {v:V} (h:R (wk B.length T.length v) ⟨B,T⟩):Left ⟨B,T⟩ R v ⟨B++J,T++K⟩:=.of rfl rfl (.refl _ _ _) h
theorem Left.box {B J:bQ} {T:eg} {R:V→Mem→Prop} {v:V} (h:R (wk B.length T.length v) ⟨B,T⟩):Left ⟨B,T⟩ R v ⟨B++J,T⟩:=by
 have:=Left.all (J:=J) (K:=[]) h
 rwa [aQ] at this
theorem Left.tok {B:bQ} {T K:eg} {R:V→Mem→Prop} {v:V} (h:R (wk B.length T.length v) ⟨B,T⟩):Left ⟨B,T⟩ R v ⟨B,T++K⟩:=by
 have:=Left.all (J:=[]) (K:=K) h
 rwa [aQ] at this
theorem Left.none {B:bQ} {T:eg} {R:V→Mem→Prop} {v:V} (h:R (wk B.length T.length v) ⟨B,T⟩):Left ⟨B,T⟩ R v ⟨B,T⟩:=by
 have:=Left.box (J:=[]) h
 rwa [aQ] at this
theorem Left.set {B J:bQ} {T:eg} {R:V→Mem→Prop} {v:V} {i:Nat} {vs:List V} (hf:vs.all (fit B.length T.length)=true) (h:R (wk B.length T.length v) ⟨B.set i vs,T⟩):Left ⟨B,T⟩ R v ⟨B.set i vs++J,T⟩:=by
 have:=Left.of (B:=B) (J:=J) (T:=T) (K:=[]) (L:=B.set i vs) dM rfl ((yQ.refl _ _ _).set i hf) h
 rwa [aQ] at this
theorem Left.aeE {B:bQ} {T:eg} {R:V→Mem→Prop} {v:V} {i:Nat} {vs:List V} (hf:vs.all (fit B.length T.length)=true) (h:R (wk B.length T.length v) ⟨B.set i vs,T⟩):Left ⟨B,T⟩ R v ⟨B.set i vs,T⟩:=by
 have:=Left.set (J:=[]) hf h
 rwa [aQ] at this
theorem Left.Bv {B J:bQ} {T K:eg} {R:V→Mem→Prop} {v:V} {i:Nat} {vs:List V} (hf:vs.all (fit B.length T.length)=true) (h:R (wk B.length T.length v) ⟨B.set i vs,T⟩):Left ⟨B,T⟩ R v ⟨B.set i vs++J,T++K⟩ :=
 Left.of dM rfl ((yQ.refl _ _ _).set i hf) h
theorem cy.body {P:Program} {I:Inv} {fn:FuncId} {f:Func} {body:Code} {args:List V} {S:Mem} {R:V→Mem→Prop} (hf:P.funcs[fn]? = some f) (hb:f.body=some body) (wv:(f.name == "runtime.NumGoroutine")=false)
 (h:az P I (S.boxes.length,S.dG.length) fn [.code body] (args++List.replicate (f.ntmps - args.length) .undef) S (Left S R)):cy P I fn args S R:=cy.left (cy.enter hf hb wv h)
theorem cy.DT {P:Program} {I:Inv} {f:FuncId} {args:List V} {S:Mem} {R:V→Mem→Prop} {fn:Func} (hf:P.funcs[f]? = some fn) (hb:fn.body.isSome=true) (wv:(fn.name == "runtime.NumGoroutine")=false)
 (h:∀ (c:Cx) (w:World) (xs:Array Value),xs.size=args.length→(∀ j (h:j < args.length),VR c w args[j] (xs.getD j undef))→ji c w S→I.holds w→Calls P f xs w fun e w'=>∃ v x,e = .returned x∧R v S∧Below w.heap.size w w'∧VR c w' v x):cy P I f args S R:=by
 have hn:¬ fn.name = "runtime.NumGoroutine":=by simpa using wv
 obtain ⟨body,hb⟩:=lI.1 hb;refine ⟨fun xs w=>by simp [callFunc,hf,hn,hb],fun c w xs h1 h2 h3 hI cs=>?_⟩;obtain ⟨e,w',fr,⟨v,x,a1,a2,a3,a4⟩,r⟩:=h c w xs h1 h2 h3 (by rw [← hI];exact h3.I) cs;obtain ⟨q1,q2⟩:=h3.under a3;exact ⟨e,w',fr,⟨v,x,S,c,a1,a2,q1,q2,a4⟩,r⟩
section
variable {α:Type} {L m:List α} {n k i:Nat} {x:α}
theorem gS (h:L.length=n):(L++m)[n+k]? = m[k]?:=by rw [← h,aN ak,jL]
theorem gp (h:L.length=n):(L++m)[n]? = m[0]?:=by have:=gS (m:=m) (k:=0) h;simpa using this
theorem bt (h:i < L.length):(L++m)[i]? = L[i]?:=bk h
theorem yR (h:L.length=n):(L++m).set (n+k) x=L++m.set k x:=by rw [← h,iz _ _ ak,jL]
theorem Ck (h:L.length=n):(L++m).set n x=L++m.set 0 x:=by have:=yR (m:=m) (k:=0) (x:=x) h;simpa using this
theorem oB (h:i < L.length):(L++m).set i x=L.set i x++m:=gT _ _ h
theorem lK (h:i < L.length):(L.set i x)[i]? = some x:=by simp [h]
end
section
variable {P:Program} {I:Inv} {ops:Array Oper} {S:Mem}
theorem xA {env:List V} {d:Tmp} {v:V} {x:Operand} (h:x ≠ .tmp d):bw I (env.set d v) x=bw I env x:=by
 cases x with
 | tmp t =>
  have gW:d ≠ t:=fun e=>h (e ▸ rfl);simp [bw,List.getD,gW]
 | _=>rfl
theorem wD {ev Wn:Operand→V} {ps:Array (Nat × Operand)} (h:∀ x∈(ps.toList.map (·.2)).toArray,ev x=Wn x):oa ev ps=oa Wn ps:=by
 unfold oa;refine List.map_congr_left fun p hp=>?_;rw [h p.2 (by simp only [List.mem_toArray,eu];exact ⟨p,hp,rfl⟩)]
theorem xB {ev Wn:Operand→V} (op:Op) (h:∀ x∈op.operands,ev x=Wn x):jt P ev S op=jt P Wn S op:=by
 have h0:=h;cases op<;>simp only [Op.operands,List.mem_toArray,bB,aT,sK,forall_eq_or_imp,forall_eq] at h<;>simp only [jt]
 case move x=>rw [h]
 case assign x=>rw [h]
 case pick c a b=>rw [h.1,h.2.1,h.2.2]
 case box t x=>rw [h]
 case build t ps=>rw [wD (by simpa using h)]
 case buildSlice t n ps=>rw [wD (by simpa using h)]
 case load t x=>rw [h]
 case field s x f=>rw [h]
 case store t x y=>rw [h.1,h.2]
 case nilCheck x=>rw [h]
 case binOp o t x y u=>rw [h.1,h.2]
 case unOp o t x=>rw [h]
 case convert s d x=>rw [h]
 case makeFunc fn first caps =>
  cases fn<;>try rfl
  have h1:first.toList.map ev=first.toList.map Wn:=List.map_congr_left fun x hx=>h x (by simp only [Array.mem_append];exact .inl (by simpa using hx))
  have h2:caps.toList.map ev=caps.toList.map Wn:=List.map_congr_left fun x hx=>h x (by simp only [Array.mem_append];exact .inr (by simpa using hx));simp only;rw [h1,h2]
 case slice t x lo hi mx =>
  cases mx<;>try rfl
  have h1:lo.map ev=lo.map Wn:=by
   cases lo with
   | none=>rfl
   | some a=>simp only [cJ];rw [h0 a (by simp [Op.operands])]
  have h2:hi.map ev=hi.map Wn:=by
   cases hi with
   | none=>rfl
   | some a=>simp only [cJ];rw [h0 a (by simp [Op.operands])]
  simp only;rw [h0 x (by simp [Op.operands]),h1,h2]
 case fieldAddr s x f=>rw [h]
 case indexAddr t x i=>rw [h.1,h.2]
 case index t x i=>rw [h.1,h.2]
 case extract x i=>rw [h]
 case call q =>
  unfold jV;have ha:∀ x∈q.args.toList,ev x=Wn x:=fun x hx=>h x (by unfold Call.operands;simp only [Array.mem_append];exact .inr (by simpa using hx))
  split
  ·rename_i x t _ h2 _;rw [ha x (by rw [h2];simp)]
  ·rename_i s x t u _ h2 _;rw [ha s (by rw [h2];simp),ha x (by rw [h2];simp)]
  ·rename_i s x t u _ h2 _;rw [ha s (by rw [h2];simp),ha x (by rw [h2];simp)]
  ·rename_i s x t u _ h2 _;rw [ha s (by rw [h2];simp),ha x (by rw [h2];simp)]
  ·rename_i s x t u _ h2 _;rw [ha s (by rw [h2];simp),ha x (by rw [h2];simp)]
  ·rfl
 case makeMap t r=>cases r<;>rfl
 case lookup t m k ok=>rw [h.1,h.2]
 case mapUpdate t m k x=>rw [h.1,h.2.1,h.2.2]
def QOp (P:Program) (I:Inv) (o:Oper) (env:List V) (S:Mem) (v:V):Prop :=
 jt P (bw I env) S o.op=some (v,S)∨∃ q f g first caps,o.op = .call q∧q.callee = .value f∧bw I env f = .func g first caps∧cy P I g (first++q.args.toList.map (bw I env)++caps) S fun r S'=>r=v∧S' = S
def YA (P:Program) (I:Inv) (ops:Array Oper) (o:Oper) (env:List V) (S:Mem) (v:V):Prop :=
 (kQ env ops o∧QOp P I o env S v)∨(wu env ops o∧v = .fZ [])
theorem lM {env:List V} {d:Tmp} {x:V} {j:Nat} (h:(ops[j]?).bind (·.dst) ≠ some d):lJ (env.set d x) ops j=lJ env ops j:=by
 unfold lJ;cases ho:(ops[j]?).bind (·.dst) with
 | none=>rfl
 | some t =>
  have gW:d ≠ t:=fun e=>h (by rw [ho,e]);simp [List.getD,gW]
theorem zN {o:Oper} {d:Tmp} (h:d ∉ o.looksAt ops):∀ x∈o.op.operands,x ≠ .tmp d:=by
 intro x hx e;subst e;refine h ?_;unfold Oper.looksAt;rw [dA];exact .inl (List.mem_filterMap.2 ⟨_,by simpa using hx,rfl⟩)
theorem kr {o:Oper} {d:Tmp} (h:d ∉ o.looksAt ops) {j:Nat} {t:Bool} (hg:o.guard=some (j,t)):(ops[j]?).bind (·.dst) ≠ some d:=by
 intro e;refine h ?_;unfold Oper.looksAt;rw [dA,hg];simp only;exact .inr (by rw [e];simp)
theorem wE {o:Oper} {env:List V} {d:Tmp} {x:V} (h:d ∉ o.looksAt ops):kQ (env.set d x) ops o↔kQ env ops o:=by
 unfold kQ;constructor
 ·rintro (h1 | ⟨j,t,h1,h2⟩)
  ·exact .inl h1
  ·exact .inr ⟨j,t,h1,by rw [← lM (kr h h1)];exact h2⟩
 ·rintro (h1 | ⟨j,t,h1,h2⟩)
  ·exact .inl h1
  ·exact .inr ⟨j,t,h1,by rw [lM (kr h h1)];exact h2⟩
theorem wF {o:Oper} {env:List V} {d:Tmp} {x:V} (h:d ∉ o.looksAt ops):wu (env.set d x) ops o↔wu env ops o:=by
 unfold wu;refine hU fun j=>hU fun want=>?_;constructor
 ·rintro ⟨h1,h2⟩;rw [lM (kr h h1)] at h2;exact ⟨h1,h2⟩
 ·rintro ⟨h1,h2⟩;rw [← lM (kr h h1)] at h2;exact ⟨h1,h2⟩
theorem Cm {o:Oper} {env:List V} (h:kQ env ops o) (h':wu env ops o):False:=by
 obtain ⟨j,want,h1,h2⟩:=h';rcases h with h | ⟨j',t,h3,h4⟩
 ·rw [h] at h1;cases h1
 ·rw [h3] at h1;obtain ⟨rfl,rfl⟩:=aR (ag h1);rcases h2 with ⟨t',h5,h6⟩ | h5
  ·rw [h4] at h5;cases h5;simp at h6
  ·rw [h4] at h5;cases h5
theorem YA.congr {o:Oper} {env:List V} {d:Tmp} {x v:V} (h:d ∉ o.looksAt ops):YA P I ops o (env.set d x) S v↔YA P I ops o env S v:=by
 have he:∀ y∈o.op.operands,bw I (env.set d x) y=bw I env y:=fun y hy=>xA (zN h y hy)
 have hw:kQ (env.set d x) ops o↔kQ env ops o:=by
  unfold kQ;constructor
  ·rintro (h1 | ⟨j,t,h1,h2⟩)
   ·exact .inl h1
   ·exact .inr ⟨j,t,h1,by rw [← lM (kr h h1)];exact h2⟩
  ·rintro (h1 | ⟨j,t,h1,h2⟩)
   ·exact .inl h1
   ·exact .inr ⟨j,t,h1,by rw [lM (kr h h1)];exact h2⟩
 have hq:QOp P I o (env.set d x) S v↔QOp P I o env S v:=by
  unfold QOp;rw [xB o.op he];refine uz pG ?_;refine hU fun q=>hU fun f=>hU fun g=>hU fun first=>hU fun caps=>?_
  constructor
  ·rintro ⟨h1,h2,h3,h4⟩;have uZ:∀ y∈q.operands,bw I (env.set d x) y=bw I env y:=fun y hy=>he y (by rw [h1];exact hy);have h5:q.args.toList.map (bw I (env.set d x))=q.args.toList.map (bw I env):=List.map_congr_left fun y hy=>uZ y (by unfold Call.operands;simp only [Array.mem_append];exact .inr (by simpa using hy));have h6:bw I (env.set d x) f=bw I env f:=uZ f (by unfold Call.operands;rw [h2];simp);exact ⟨h1,h2,by rw [← h6];exact h3,by rw [← h5];exact h4⟩
  ·rintro ⟨h1,h2,h3,h4⟩;have uZ:∀ y∈q.operands,bw I (env.set d x) y=bw I env y:=fun y hy=>he y (by rw [h1];exact hy);have h5:q.args.toList.map (bw I (env.set d x))=q.args.toList.map (bw I env):=List.map_congr_left fun y hy=>uZ y (by unfold Call.operands;simp only [Array.mem_append];exact .inr (by simpa using hy));have h6:bw I (env.set d x) f=bw I env f:=uZ f (by unfold Call.operands;rw [h2];simp);exact ⟨h1,h2,by rw [h6];exact h3,by rw [h5];exact h4⟩
 unfold YA;rw [hw,hq];refine uz pG (sr ?_ pG);unfold wu;refine hU fun j=>hU fun want=>?_;constructor
 ·rintro ⟨h1,h2⟩;rw [lM (kr h h1)] at h2;exact ⟨h1,h2⟩
 ·rintro ⟨h1,h2⟩;rw [← lM (kr h h1)] at h2;exact ⟨h1,h2⟩
theorem YA.Tj {o:Oper} {env:List V} {d:Option Tmp} {x v:V} (h:∀ t,d=some t→t ∉ o.looksAt ops):YA P I ops o (dD env d x) S v↔YA P I ops o env S v:=by
 cases d with
 | none=>rfl
 | some t=>exact YA.congr (h t rfl)
theorem oK (env:List V) {x y:Option Tmp} (v u:V) (h:∀ d,x=some d→y ≠ some d):dD (dD env x v) y u=dD (dD env y u) x v:=by
 cases x with
 | none=>rfl
 | some d =>
  cases y with
  | none=>rfl
  | some e =>
   have gW:d ≠ e:=fun he=>h d rfl (he ▸ rfl);simp only [dD];exact List.set_comm _ _ gW
def Tk (P:Program) (I:Inv) (ops:Array Oper) (S:Mem) (K:List V→Prop):Nat→Array Bool→List V→Prop
 | 0,listed,env=>Region.ready .any ops listed=[]∧K env
 | n+1,listed,env=>(Region.ready .any ops listed=[]→K env)∧∀ i∈Region.ready .any ops listed,∃ o v,ops[i]? = some o∧YA P I ops o env S v∧Tk P I ops S K n (listed.setIfInBounds i true) (dD env o.dst v)
theorem MO {K:List V→Prop} {i:Nat} {oi:Oper} {v:V} (hi:ops[i]? = some oi):∀ (n:Nat) (listed:Array Bool) (env:List V),
 (∀ j oj,ops[j]? = some oj→j ≠ i→listed.getD j true=false→(∀ e∈oj.after,Region.binds .any e=true→e.on ≠ i)→oi.apart ops oj=true) →
 i∈Region.ready .any ops listed→YA P I ops oi env S v→Tk P I ops S K n (listed.setIfInBounds i true) (dD env oi.dst v)→Tk P I ops S K (n+1) listed env:=by
 intro n
 induction n with
 | zero =>
  intro listed env _ hr hy H;refine ⟨fun h=>(by rw [h] at hr;cases hr),fun j hj=>?_⟩
  by_cases mB:j=i
  ·subst mB;exact ⟨oi,v,hi,hy,H⟩
  ·have:=ready_mono hj mB;rw [H.1] at this;cases this
 | succ n ih =>
  intro listed env m6 hr hy H;refine ⟨fun h=>(by rw [h] at hr;cases hr),fun j hj=>?_⟩
  by_cases mB:j=i
  ·subst mB;exact ⟨oi,v,hi,hy,H⟩
  ·obtain ⟨oj,u,qs,hyj,h1⟩:=H.2 j (ready_mono hj mB);obtain ⟨sL,oj',sM,j4⟩:=mem_ready.1 hj;rw [qs] at sM;obtain rfl:=ag sM
   have aiv:∀ e∈oj.after,Region.binds .any e=true→e.on ≠ i:=fun e he hb heq=>by
    have h1:=j4 e he hb;have h0:=(mem_ready.1 hr).1;rw [heq] at h1;rcases ct i listed.size with h' | h'
    ·simp [h'] at h0 h1;rw [h0] at h1;cases h1
    ·simp [fy h'] at h1
   obtain ⟨a1,a2,a3⟩:=Oper.apart_spec (m6 j oj qs mB sL aiv);have aiw:YA P I ops oj env S u:=(YA.Tj a1).1 hyj;have aix:YA P I ops oi (dD env oj.dst u) S v:=(YA.Tj a3).2 hy
   have abj:∀ k ok,ops[k]? = some ok→k ≠ i→(listed.setIfInBounds j true).getD k true=false →
    (∀ e∈ok.after,Region.binds .any e=true→e.on ≠ i)→oi.apart ops ok=true:=fun k ok hk uA tD Fx=>by
    refine m6 k ok hk uA ?_ Fx
    by_cases xC:j=k
    ·subst xC;exact sL
    ·rw [getD_set_ne true xC] at tD;exact tD
   refine ⟨oj,u,qs,aiw,ih (listed.setIfInBounds j true) (dD env oj.dst u) abj (ready_mono hr (jk mB)) aix ?_⟩;rw [gG _ _ mB,← oK env v u a2];exact h1
def J6 (P:Program) (I:Inv) (ops:Array Oper) (S:Mem) (K:List V→Prop):List Oper→List V→Prop
 | [],env=>K env
 | o :: l,env=>∃ v,YA P I ops o env S v∧J6 P I ops S K l (dD env o.dst v)
theorem J7 {K:List V→Prop}:∀ (l:List Oper) (k:Nat) (listed:Array Bool) (env:List V),(∀ j,l[j]? = ops[k+j]?) →
 Region.lexFrom .any ops l.length k listed=true→J6 P I ops S K l env→Tk P I ops S K l.length listed env
 | [],_,_,_,_,hB,h=>⟨by simpa [Region.lexFrom] using hB,h⟩
 | o :: l,k,listed,env,hl,hB,h=>by
  have h0:ops[k]? = some o:=by simpa using (hl 0).symm
  simp only [aP,Region.lexFrom,aF] at hB;obtain ⟨⟨hr,hf⟩,Wo⟩:=hB;obtain ⟨v,hy,hK⟩:=h
  exact MO h0 l.length listed env (Region.free_spec h0 hf) (by simpa using hr) hy
   (J7 l (k+1) _ _ (fun j=>by have:=hl (j+1);simpa [Nat.add_assoc,Nat.add_comm 1 j] using this) Wo hK)
theorem YA.step {z:Nat × Nat} {fn:FuncId} {k:List Item} {R:V→Mem→Prop} {i:Nat} {rest:List Nat} {o:Oper} {env:List V} {v:V} (ho:ops[i]? = some o) (hy:YA P I ops o env S v) (h:az P I z fn (.inRegion ops rest :: k) (dD env o.dst v) S R):az P I z fn (.inRegion ops (i :: rest) :: k) env S R:=by
 rcases hy with ⟨hw,hq | ⟨q,f,g,first,caps,h1,h2,h3,h4⟩⟩ | ⟨h1,rfl⟩
 ·exact .op ho hw hq h
 ·exact .call ho hw h1 h2 h3 (h4.mono fun r S' ⟨e1,e2⟩=>by subst e1 e2;exact h)
 ·exact .uY ho h1 h
theorem J8 {z:Nat × Nat} {fn:FuncId} {k:List Item} {R:V→Mem→Prop}:∀ (n t:Nat) (listed:Array Bool) (env:List V),Tk P I ops S (fun env=>az P I z fn k env S R) n listed env→az P I z fn (.inRegion ops (Region.linearise.go .any ops n t listed []) :: k) env S R
 | 0,t,listed,env,h=>by
  simp only [Region.linearise.go,List.reverse_nil];exact .qp h.2
 | n+1,t,listed,env,h=>by
  obtain ⟨h₀,h₁⟩:=h;simp only [Region.linearise.go]
  change az P I z fn (.inRegion ops (match (Region.ready .any ops listed)[t % (Region.ready .any ops listed).length]? with
   | some i=>Region.linearise.go .any ops n (t / (Region.ready .any ops listed).length) (listed.setIfInBounds i true) [i]
   | none=>[].reverse) :: k) env S R
  cases hi:(Region.ready .any ops listed)[t % (Region.ready .any ops listed).length]? with
  | none =>
   have yO:Region.ready .any ops listed=[]:=by
    cases hr:Region.ready .any ops listed with
    | nil=>rfl
    | cons x xs =>
     rw [hr] at hi;have bu:t % (x :: xs).length < (x :: xs).length:=qm _ dM;simp at hi;simp at bu;omega
   exact .qp (h₀ yO)
  | some i =>
   simp only [];rw [linearise_go_acc,pH,mW];obtain ⟨o,v,ho,hy,hn⟩:=h₁ i (eM hi);exact YA.step ho hy (J8 n _ _ _ hn)
theorem az.draw {z:Nat × Nat} {fn:FuncId} {k:List Item} {R:V→Mem→Prop} {id:Nat} {env:List V} (hm:P.follows .mixedOrders=true) (hB:Region.lexB .any ops=true) (h:J6 P I ops S (fun env=>az P I z fn k env S R) ops.toList env):az P I z fn (.code (.region id ops true) :: k) env S R:=by
 intro b a c w c0 w0 h1 h2 h3 h4 h5 h6 hI cs;have hd:Below w.heap.size w { w with drawn:=w.drawn+1 }:=⟨rfl,rfl,rfl,aA _,fun _ _=>rfl⟩;obtain ⟨r1,r2⟩:=h5.under hd;simp only [Region.lexB,aF] at hB;have zO:=J7 (P:=P) (I:=I) (S:=S) (K:=fun env=>az P I z fn k env S R) ops.toList 0 (Array.replicate ops.size false) env dM (by simpa using hB.2) h;have eI:=J8 (fn:=fn) (k:=k) (R:=R) ops.toList.length (w.tape w.drawn (.order b.fn id)) _ _ zO;obtain ⟨e,w',fr,g1,g2,g3⟩:=eI b a c _ c0 w0 h1 h2 h3 (h4.ext r2) r1 (h6.trans r2) ⟨r2.I.trans hI.1,hI.2⟩ cs;refine ⟨e,w',fr,g1,.of_steps (.one ?_) g2,g3⟩;have:=step_region_draw (P:=P) (b:=b) (a:=a) (k:=k) (cs:=cs) (w:=w) (ops:=ops) (id:=id);rw [this];simp only [Region.schedule,hm,gq,gj,Region.linearise,nP]
abbrev rS:=List Oper→List V→Prop
def DU (next:rS) (S:Mem) (r:Option (V × Mem)) (l:List Oper) (d:Option Tmp) (env:List V):Prop :=
 match r with
 | some (v,S')=>S' = S∧next l (dD env d v)
 | none=>False
def ON (P:Program) (I:Inv) (next:rS) (S:Mem) (q:Call) (f:V) (args:List V) (l:List Oper) (d:Option Tmp) (env:List V):Prop :=
 match q.callee,f with
 | .value _,.func g first caps=>∃ v,cy P I g (first++args++caps) S (fun r S'=>r=v∧S' = S)∧next l (dD env d v)
 | _,_=>False
def opQ (P:Program) (I:Inv) (next:rS) (S:Mem) (o:Oper) (l:List Oper) (env:List V):Prop :=
 match o.op with
 | .call q=>match q.callee with
  | .value f=>ON P I next S q (bw I env f) (q.args.toList.map (bw I env)) l o.dst env
  | _=>DU next S (jV P (bw I env) S q) l o.dst env
 | op=>DU next S (jt P (bw I env) S op) l o.dst env
def tX (P:Program) (I:Inv) (next:rS) (S:Mem) (t want:Bool) (o:Oper) (l:List Oper) (env:List V):Prop :=
 if (t == want)=true then opQ P I next S o l env else next l (dD env o.dst (.fZ []))
def zP (P:Program) (I:Inv) (ops:Array Oper) (next:rS) (S:Mem) (o:Oper) (l:List Oper) (env:List V):Prop :=
 match o.guard with
 | none=>opQ P I next S o l env
 | some (j,want)=>match lJ env ops j with
  | .d (.bool t)=>tX P I next S t want o l env
  | .fZ []=>next l (dD env o.dst (.fZ []))
  | _=>False
def J9 (P:Program) (I:Inv) (ops:Array Oper) (S:Mem) (K:List V→Prop):Nat→List Oper→List V→Prop
 | _,[],env=>K env
 | 0,_ :: _,_=>False
 | n+1,o :: l,env=>zP P I ops (J9 P I ops S K n) S o l env
theorem Tl (K:List V→Prop) (n:Nat) (env:List V):J9 P I ops S K n [] env=K env:=by cases n<;>rfl
theorem Qv (K:List V→Prop) (n:Nat) (o:Oper) (l:List Oper) (env:List V):J9 P I ops S K (n+1) (o :: l) env=zP P I ops (J9 P I ops S K n) S o l env:=rfl
theorem MP (next:rS) (v:V) (l:List Oper) (d:Option Tmp) (env:List V):DU next S (some (v,S)) l d env=next l (dD env d v):=by simp [DU]
theorem MQ (next:rS) (b:Bool) (o:Oper) (l:List Oper) (env:List V):tX P I next S b b o l env=opQ P I next S o l env:=by simp [tX]
theorem Qw (next:rS) (o:Oper) (l:List Oper) (env:List V):tX P I next S true false o l env=next l (dD env o.dst (.fZ [])):=by simp [tX]
theorem Qx (next:rS) (o:Oper) (l:List Oper) (env:List V):tX P I next S false true o l env=next l (dD env o.dst (.fZ [])):=by simp [tX]
theorem lA {K:List V→Prop}:∀ (n:Nat) (l:List Oper) (env:List V),J9 P I ops S K n l env→J6 P I ops S K l env:=by
 intro n
 induction n with
 | zero =>
  intro l env h;cases l with
  | nil=>exact h
  | cons o l=>exact h.elim
 | succ n ih =>
  intro l env h;cases l with
  | nil=>exact h
  | cons o l =>
   have uZ:kQ env ops o→opQ P I (J9 P I ops S K n) S o l env→J6 P I ops S K (o :: l) env:=by
    intro hw h
    have hb:∀ r,jt P (bw I env) S o.op=r→DU (J9 P I ops S K n) S r l o.dst env→J6 P I ops S K (o :: l) env:=by
     intro r hr hb;cases r with
     | none=>exact hb.elim
     | some p =>
      obtain ⟨v,S'⟩:=p;obtain ⟨rfl,hb⟩:=hb;exact ⟨v,.inl ⟨hw,.inl hr⟩,ih l _ hb⟩
    unfold opQ at h
    split at h
    ·rename_i q hq
     split at h
     ·rename_i f hf;unfold ON at h;rw [hf] at h
      split at h
      ·rename_i g first caps he hg
       obtain ⟨v,hv,hn⟩:=h;exact ⟨v,.inl ⟨hw,.inr ⟨q,f,g,first,caps,hq,hf,hg,hv⟩⟩,ih l _ hn⟩
      ·exact h.elim
     ·exact hb _ (by rw [hq];rfl) h
    ·exact hb _ rfl h
   have h':zP P I ops (J9 P I ops S K n) S o l env:=h;unfold zP at h'
   split at h'
   ·rename_i hg;exact uZ (.inl hg) h'
   ·rename_i j want hg
    split at h'
    ·rename_i t ht;unfold tX at h'
     split at h'
     ·rename_i hw;have:t=want:=by simpa using hw
      subst this;exact uZ (.inr ⟨j,t,hg,ht⟩) h'
     ·rename_i hw;exact ⟨.fZ [],.inr ⟨⟨j,want,hg,.inl ⟨t,ht,by simpa using hw⟩⟩,rfl⟩,ih l _ h'⟩
    ·rename_i ht;exact ⟨.fZ [],.inr ⟨⟨j,want,hg,.inr ht⟩,rfl⟩,ih l _ h'⟩
    ·exact h'.elim
end
def yq (n m:Nat):List V→List V→Prop
 | [],[]=>True
 | a :: aa,b :: bs=>(a = .undef∨(a=b∧fit n m b=true))∧yq n m aa bs
 | _,_=>False
theorem yq.get {n m:Nat}:∀ {aa bs:List V},yq n m aa bs→aa.length=bs.length∧∀ t (h:t < aa.length) (h':t < bs.length),aa[t] = .undef∨(aa[t]=bs[t]∧fit n m bs[t]=true)
 | [],[],_=>⟨rfl,fun t h=>by simp at h⟩
 | a :: aa,b :: bs,h=>by
  obtain ⟨h1,h2⟩:=h;obtain ⟨h3,h4⟩:=yq.get h2;refine ⟨by simp [h3],fun t ht nX=>?_⟩;cases t with
  | zero=>exact h1
  | succ t=>exact h4 t (by simpa using ht) (by simpa using nX)
 | [],_ :: _,h=>h.elim
 | _ :: _,[],h=>h.elim
def Fits (S:Mem):Prop:=∀ vs∈S.boxes,vs.all (fit S.boxes.length S.dG.length)=true
theorem Fits.abl {c:Cx} {w:World} {S:Mem} (h:ji c w S):Fits S:=by
 intro vs xU;obtain ⟨i,hi⟩:=List.mem_iff_getElem?.1 xU;have bu:=(ai.1 hi).1;obtain ⟨b,hb⟩:∃ b,c.ρ[i]? = some b:=⟨_,au (by rw [← h.len];exact bu)⟩;obtain ⟨_,o,_,rZ,e1,e3⟩:=h.box i b hb;rw [hi] at e1;obtain rfl:=ag e1;rw [cC];intro v hv;obtain ⟨j,hj,rfl⟩:=ga.1 hv;have:=e3.fits j hj;rw [h.len,h.dG,aS];exact this
mutual
theorem uB {n m n' m':Nat} (hn:n≤n') (hm:m≤m'):∀ v:V,fit n m v=true→fit n' m' v=true
 | .undef,_=>rfl
 | .d _,_=>rfl
 | .sl _ .full,_=>rfl
 | .sl _ (.own t),h=>by simp only [fit,bz] at h ⊢;omega
 | .ptr i _,h=>by simp only [fit,bz] at h ⊢;omega
 | .bx i _ _,h=>by simp only [fit,bz] at h ⊢;omega
 | .mp i,h=>by simp only [fit,bz] at h ⊢;omega
 | .vY _ vs,h=>by simp only [fit] at h ⊢;exact sw hn hm vs h
 | .self i _,h=>by simp only [fit,bz] at h ⊢;omega
 | .buf _ _ _,h=>by simp only [fit,bz] at h ⊢;omega
 | .nc _ _,_=>rfl
 | .oU,_=>rfl
 | .sF,_=>rfl
 | .func _ a b,h=>by
  simp only [fit,aF] at h ⊢;exact ⟨sw hn hm a h.1,sw hn hm b h.2⟩
 | .agg vs,h=>by simp only [fit] at h ⊢;exact sw hn hm vs h
 | .fZ vs,h=>by simp only [fit] at h ⊢;exact sw hn hm vs h
theorem sw {n m n' m':Nat} (hn:n≤n') (hm:m≤m'):∀ vs:List V,qq n m vs=true→qq n' m' vs=true
 | [],_=>rfl
 | v :: vs,h=>by
  simp only [qq,aF] at h ⊢;exact ⟨uB hn hm v h.1,sw hn hm vs h.2⟩
end
theorem Tm {n m n' m':Nat} (hn:n≤n') (hm:m≤m') {vs:List V} (h:vs.all (fit n m)=true):vs.all (fit n' m')=true:=by
 rw [cC] at h ⊢;exact fun v hv=>uB hn hm v (h v hv)
theorem Fits.more {B X:bQ} {T Y:eg} (h:Fits ⟨B,T⟩) (hx:∀ vs∈X,vs.all (fit (B++X).length (T++Y).length)=true):Fits ⟨B++X,T++Y⟩:=by
 intro vs xU;rcases dA.1 xU with h' | h'
 ·exact Tm dM dM (h vs h')
 ·exact hx vs h'
theorem Fits.set {B:bQ} {T:eg} (h:Fits ⟨B,T⟩) {i:Nat} {vs:List V} (hv:vs.all (fit B.length T.length)=true):Fits ⟨B.set i vs,T⟩:=by
 intro us hus;simp only [aG];rcases tj hus with h' | rfl
 ·exact h us h'
 ·exact hv
theorem Fits.dG {B:bQ} {T T':eg} (h:Fits ⟨B,T⟩) (he:T'.length=T.length):Fits ⟨B,T'⟩:=by
 intro us hus;rw [show (⟨B,T'⟩:Mem).dG.length=T.length from he];exact h us hus
section
variable {P:Program} {I:Inv} {z:Nat × Nat} {fn:FuncId} {R:V→Mem→Prop}
theorem az.at {k:List Item} {env iI:List V} {L J:bQ} {T K:eg} (hz:z.1≤L.length∧z.2≤T.length) (hf:Fits ⟨L,T⟩) (he:yq L.length T.length iI env) (h:az P I z fn k iI ⟨L,T⟩ R):az P I z fn k env ⟨L++J,T++K⟩ R:=by
 intro b a c w c0 w0 h1 h2 h3 h4 h5 h6 hI;have hn:c.ρ.length=L.length+J.length:=by rw [← h5.len];simp
 have hm:c.τ.length=T.length+K.length:=by
  have:=gR List.length h5.dG;simp at this;omega
 have Bw:ji (c.cut L.length T.length) w ⟨L,T⟩:=by
  refine ⟨h5.hB,by simp [Cx.cut];omega,fun i b hi=>?_,fun i j b hi hj=>?_,?_,fun t i ht=>?_,fun t t' i i' g off Bq ht nX=>?_,h5.inv⟩
  ·have rE:(c.ρ.take L.length)[i]? = some b:=hi;rw [bp] at rE
   split at rE
   case isFalse=>cases rE
   rename_i bu;obtain ⟨a,o,hh,vs,g1,g2⟩:=h5.box i b rE
   have g1':L[i]? = some vs:=by
    have:(L++J)[i]? = some vs:=g1
    rwa [bk bu] at this
   exact ⟨a,o,hh,vs,g1',g2.xz _ _ fun j hj=>cC.1 (hf vs (eM g1')) _ (aH hj)⟩
  ·have rE:(c.ρ.take L.length)[i]? = some b:=hi;have jT:(c.ρ.take L.length)[j]? = some b:=hj;rw [bp] at rE jT
   split at rE
   case isFalse=>cases rE
   split at jT
   case isFalse=>cases jT
   exact h5.inj i j b rE jT
  ·show T=(c.τ.take T.length).map _;have h2:T++K=c.τ.map fun i=>(i.n,i.sz):=h5.dG;rw [og,← h2];simp
  ·have nX:(c.τ.take T.length)[t]? = some i:=ht;rw [bp] at nX
   split at nX
   case isFalse=>cases nX
   obtain ⟨a1,a2,a3,a4,a5⟩:=h5.tok t i nX;refine ⟨a1,a2,a3,a4,fun bu g off ha=>?_⟩;obtain ⟨b1,b2,b3⟩:=a5 bu g off ha;exact ⟨b1,fun hm=>b2 (iL hm),b3⟩
  ·have Cj:(c.τ.take T.length)[t]? = some i:=ht;have zx:(c.τ.take T.length)[t']? = some i':=nX;rw [bp] at Cj zx
   split at Cj
   case isFalse=>cases Cj
   split at zx
   case isFalse=>cases zx
   exact h5.yL t t' i i' g off Bq Cj zx
 obtain ⟨l1,l2⟩:=he.get
 have Tn:ij (c.cut L.length T.length) w iI a.tmps:=by
  refine ⟨by rw [l1];exact h4.1,fun t ht=>?_⟩;rcases l2 t ht ak with hu | ⟨heq,FD⟩
  ·rw [hu];exact .undef _
  ·rw [heq];exact (h4.2 t ak).xz _ _ FD
 refine h b a (c.cut L.length T.length) w c0 w0 h1 h2 h3 Tn Bw ⟨⟨fun g k v hm hv=>?_,fun i b hi=>?_,fun t i hi=>?_,h6.B,h6.keeps.ty⟩,h6.B,h6.I,h6.X,h6.below⟩ ⟨hI.1,hI.2⟩
 ·exact ⟨fun h=>(h6.keeps.cell g k v hm hv).1 (DS h),(h6.keeps.cell g k v hm hv).2⟩
 ·have:=(ai.1 hi).1;exact iG (h6.keeps.ρ i b hi) ak
 ·obtain ⟨i',a1,a2⟩:=h6.keeps.τ t i hi;have:=(ai.1 hi).1;exact ⟨i',iG a1 ak,a2⟩
def nR:List V→List V→Prop
 | [],[]=>True
 | a :: aa,b :: bs=>(a = .undef∨a=b)∧nR aa bs
 | _,_=>False
theorem nR.get:∀ {aa bs:List V},nR aa bs→aa.length=bs.length∧∀ t (h:t < aa.length) (h':t < bs.length),aa[t] = .undef∨aa[t]=bs[t]
 | [],[],_=>⟨rfl,fun t h=>by simp at h⟩
 | a :: aa,b :: bs,h=>by
  obtain ⟨h1,h2⟩:=h;obtain ⟨h3,h4⟩:=nR.get h2;refine ⟨by simp [h3],fun t ht nX=>?_⟩;cases t with
  | zero=>exact h1
  | succ t=>exact h4 t (by simpa using ht) (by simpa using nX)
 | [],_ :: _,h=>h.elim
 | _ :: _,[],h=>h.elim
theorem az.ng {k:List Item} {env iI:List V} {S:Mem} (he:nR iI env) (h:az P I z fn k iI S R):az P I z fn k env S R:=by
 intro b a c w c0 w0 h1 h2 h3 h4 h5 h6 hI;obtain ⟨l1,l2⟩:=he.get;refine h b a c w c0 w0 h1 h2 h3 ⟨by rw [l1];exact h4.1,fun t ht=>?_⟩ h5 h6 hI;rcases l2 t ht ak with hu | heq
 ·rw [hu];exact .undef _
 ·rw [heq];exact h4.2 t ak
def lQ (n:Nat) (l:List (Nat × V)):List V:=l.foldl (fun e p=>e.set p.1 p.2) (List.replicate n .undef)
theorem az.fits {k:List Item} {env:List V} {S:Mem} (h:Fits S→az P I z fn k env S R):az P I z fn k env S R :=
 fun b a c w c0 w0 h1 h2 h3 h4 h5 h6 hI=>h (.abl h5) b a c w c0 w0 h1 h2 h3 h4 h5 h6 hI
theorem az.ZV {α:Type} (st:α→List V × Mem) (ok:α→Prop) (μ:α→Nat) {x:Code} {k:List Item} (hs:∀ a,ok a→(∀ b,ok b→μ b < μ a→az P I z fn (.inLoop x :: k) (st b).1 (st b).2 R)→az P I z fn (.code x :: .inLoop x :: k) (st a).1 (st a).2 R) (a:α) (ha:ok a):az P I z fn (.code (.loop x) :: k) (st a).1 (st a).2 R:=by
 have key:∀ n a,μ a=n→ok a→az P I z fn (.code x :: .inLoop x :: k) (st a).1 (st a).2 R:=by
  intro n
  induction n using Nat.strongRecOn with
  | _ n ih =>
   intro a hn ha;exact hs a ha fun b hb bu=>.inLoop (ih (μ b) ak b rfl hb)
 exact .loop (key _ a rfl ha)
theorem az.dL {α:Type} (st:α→List V × Mem) (ok:α→Prop) (μ:α→Nat) {x:Code} {k:List Item} {env:List V} {S:Mem} (a:α) (ha:ok a) (he:nR (st a).1 env) (hS:(st a).2=S)
 (hs:∀ a,ok a→(∀ b,ok b→μ b < μ a→∀ iI S',nR (st b).1 iI→(st b).2=S'→az P I z fn (.inLoop x :: k) iI S' R)→az P I z fn (.code x :: .inLoop x :: k) (st a).1 (st a).2 R):az P I z fn (.code (.loop x) :: k) env S R:=by
 refine az.ng he ?_;rw [← hS];refine az.ZV st ok μ (fun a ha ih=>hs a ha fun b hb bu iI S' Jz hS'=>?_) a ha;refine az.ng Jz ?_;rw [← hS'];exact ih b hb bu
theorem az.aeG {α:Type} (st:α→List V × Mem) (ok:α→Prop) (μ:α→Nat) {x:Code} {k:List Item} {env:List V} {S:Mem} (a:α) (ha:ok a) (he:nR (st a).1 env) (hS:(st a).2=S)
 (hs:∀ a,ok a→(∀ b,ok b→μ b < μ a→∀ iI L J T K,(st b).2=⟨L,T⟩→z.1≤L.length∧z.2≤T.length→Fits ⟨L,T⟩→yq L.length T.length (st b).1 iI→az P I z fn (.inLoop x :: k) iI ⟨L++J,T++K⟩ R)→az P I z fn (.code x :: .inLoop x :: k) (st a).1 (st a).2 R):az P I z fn (.code (.loop x) :: k) env S R:=by
 refine az.ng he ?_;rw [← hS];refine az.ZV st ok μ (fun a ha ih=>hs a ha fun b hb bu iI L J T K xV hz hf Jz=>?_) a ha;refine az.at hz hf Jz ?_;rw [← xV];exact ih b hb bu
end
theorem Left.fits {S S':Mem} {R:V→Mem→Prop} {v:V} (hf:Fits S') (h1:S'.boxes.length=S.boxes.length) (h2:S'.dG.length=S.dG.length) (h:R (wk S.boxes.length S.dG.length v) S'):Left S R v S':=by
 refine ⟨S'.boxes,[],S'.dG,[],dM,h1,h2,fun i vs hi v hv=>.inr ?_,h⟩;have:=cC.1 (hf vs (eM hi)) v hv;rw [h1,h2] at this;exact this
mutual
def sm:V→Bool
 | .d (.sl rows)=>decide (rows.length≤9223372036854775807)
 | .d (.str s)=>decide (s.length≤9223372036854775807)
 | .sl rows _=>decide (rows.length≤9223372036854775807)
 | .agg vs=>Ic vs
 | _=>true
def Ic:List V→Bool
 | []=>true
 | v :: vs=>sm v && Ic vs
end
theorem abm (k:IntKind) (n:Int):sm (.d (.int k n))=true:=rfl
theorem Xd (b:Bool):sm (.d (.bool b))=true:=rfl
theorem abn (i k:Nat):sm (.ptr i k)=true:=rfl
theorem aeH (i n c:Nat):sm (.bx i n c)=true:=rfl
theorem Xe:sm .oU=true:=rfl
theorem Xf:sm .sF=true:=rfl
theorem Xg (f:FuncId) (a b:List V):sm (.func f a b)=true:=rfl
theorem Xh (r:List D) (k:Nat):sm (.nc r k)=true:=rfl
theorem To:sm .undef=true:=rfl
theorem abo (vs:List V):sm (.fZ vs)=true:=rfl
theorem u9:∀ vs:List V,Ic vs=true↔∀ (j:Nat) (h:j < vs.length),sm vs[j]=true
 | []=>by simp [Ic]
 | v :: vs=>by
  simp only [Ic,aF,u9 vs];constructor
  ·rintro ⟨h1,h2⟩ j hj;cases j with
   | zero=>exact h1
   | succ j=>exact h2 j (by simpa using hj)
  ·exact fun h=>⟨h 0 dM,fun j hj=>h (j+1) (by simpa using hj)⟩
theorem DR.sm {M:Nat→Nat→Prop} {w:World} {x:D} {v:Value} (h:DR M w x v):sm (.d x)=true:=by
 cases h with
 | int k n=>rfl
 | bool b=>rfl
 | str s h=>simpa [Ab.sm] using h
 | sl rows sz a cap f jS hr hc hm hs hd=>simp only [Ab.sm,bz];omega
theorem VR.sm {c:Cx} {w:World} {x:V} {v:Value} (h:VR c w x v):sm x=true:=by
 induction h with
 | d x v h=>exact h.sm
 | full rows a h ha=>exact h.sm
 | own rows t a cap i h ht hr hn hl=>exact h.sm
 | agg vs cs h1 h2 h3 ih=>simp only [Ab.sm];exact (u9 vs).2 ih
 | _=>rfl
theorem az.small {P:Program} {I:Inv} {z:Nat × Nat} {fn:FuncId} {R:V→Mem→Prop} {k:List Item} {env:List V} {S:Mem} (h:Ic env=true→az P I z fn k env S R):az P I z fn k env S R :=
 fun b a c w c0 w0 h1 h2 h3 h4 h5 h6 hI=>h ((u9 env).2 fun j hj=>(h4.2 j hj).sm) b a c w c0 w0 h1 h2 h3 h4 h5 h6 hI
theorem Xi {aa bs:List V} (h:Ic (aa++bs)=true):Ic aa=true :=
 (u9 aa).2 fun j hj=>by
  have:=(u9 _).1 h j fk
  rwa [cA hj] at this
theorem cy.OO {P:Program} {I:Inv} {fn:FuncId} {f:Func} {body:Code} {args:List V} {S:Mem} {R:V→Mem→Prop} (hf:P.funcs[fn]? = some f) (hb:f.body=some body) (wv:(f.name == "runtime.NumGoroutine")=false)
 (h:Ic args=true→az P I (S.boxes.length,S.dG.length) fn [.code body] (args++List.replicate (f.ntmps - args.length) .undef) S (Left S R)):cy P I fn args S R:=cy.body hf hb wv (az.small fun h1=>h (Xi h1))
theorem az.m7 {P:Program} {I:Inv} {z:Nat × Nat} {fn:FuncId} {R:V→Mem→Prop} {α:Type} (st:α→List V × Mem) (ok:α→Prop) (μ:α→Nat) {x:Code} {k:List Item} {env:List V} {S:Mem} (a:α) (ha:ok a) (he:nR (st a).1 env) (hS:(st a).2=S)
 (hs:∀ a,ok a→(∀ b,ok b→μ b < μ a→∀ iI L J T,(st b).2=⟨L,T⟩→z.1≤L.length∧z.2≤T.length→Fits ⟨L,T⟩→yq L.length T.length (st b).1 iI→az P I z fn (.inLoop x :: k) iI ⟨L++J,T⟩ R)→az P I z fn (.code x :: .inLoop x :: k) (st a).1 (st a).2 R):az P I z fn (.code (.loop x) :: k) env S R:=by
 refine az.aeG st ok μ a ha he hS fun a ha ih=>hs a ha fun b hb bu iI L J T h1 h2 h3 h4=>?_;have:=ih b hb bu iI L J T [] h1 h2 h3 h4
 rwa [aQ] at this
theorem yS {id:Nat} {K:List Item}:∀ {k k':List Item},exitTo id k=some k'→exitTo id (k++K)=some (k'++K)
 | [],_,h=>by simp [exitTo] at h
 | i :: k,k',h=>by
  cases i with
  | inBlock id' =>
   simp only [gH,exitTo] at h ⊢
   split at h
   ·rename_i he;rw [aD he];obtain rfl:=ag h;rfl
   ·rename_i he;rw [aq he];exact yS h
  | _ =>
   simp only [gH,exitTo] at h ⊢;exact yS h
section
variable {P:Program} {I:Inv} {z:Nat × Nat} {fn:FuncId} {R:V→Mem→Prop}
theorem Tp (K:List Item) {next stop:kA} (hn:∀ k env S,next k env S→az P I z fn (k++K) env S R) (hs:∀ k env S,stop k env S→az P I z fn (k++K) env S R) (k:List Item) (env:List V) (S:Mem) (h:wB P I next stop k env S):az P I z fn (k++K) env S R:=by
 have hdo:∀ (ops:Array Oper) (i:Nat) (rest:List Nat) (o:Oper) (k:List Item) (env:List V) (S:Mem),ops[i]? = some o→kQ env ops o→Ia P I next stop ops rest o k env S→az P I z fn (.inRegion ops (i :: rest) :: (k++K)) env S R:=by
  intro ops i rest o k env S ho hw hd
  have hb:∀ r,jt P (bw I env) S o.op=r→DO next r (.inRegion ops rest :: k) o.dst env→az P I z fn (.inRegion ops (i :: rest) :: (k++K)) env S R:=by
   intro r hr hb;cases r with
   | none=>exact hb.elim
   | some p=>exact .op ho hw hr (hn _ _ _ hb)
  unfold Ia at hd
  split at hd
  ·rename_i q hq
   split at hd
   ·rename_i f hf;unfold wA at hd
    split at hd
    ·rename_i g first caps hg
     exact .call ho hw hq hf hg (hd.mono fun v S' h=>hs _ _ _ h)
    ·exact hd.elim
   ·exact hb _ (by rw [hq];rfl) hd
  ·exact hb _ rfl hd
 unfold wB at h
 split at h
 ·rename_i c k;unfold od at h
  split at h
  ·exact .seq (hn _ _ _ h)
  ·exact .skip (hn _ _ _ h)
  ·exact .label (hn _ _ _ h)
  ·exact .block (hn _ _ _ h)
  ·rw [DQ] at h;exact .region (hn _ _ _ h)
  ·rename_i x a b
   split at h
   ·rename_i t ht;refine .cond ht ?_;unfold Ci at h
    split at h
    ·rename_i zx;rw [zx];exact hn _ _ _ h
    ·rename_i zx;have:t=false:=by simpa using zx
     rw [this];exact hn _ _ _ h
   ·exact h.elim
  ·split at h
   ·rename_i k' hk;exact .exit (yS hk) (hn _ _ _ h)
   ·exact h.elim
  ·exact hs _ _ _ h
 ·exact .inBlock (hn _ _ _ h)
 ·exact .qp (hn _ _ _ h)
 ·rename_i ops i rest k;unfold JX at h
  split at h
  ·rename_i o ho
   split at h
   ·rename_i hg;exact hdo _ _ _ _ _ _ _ ho (.inl hg) h
   ·rename_i j want hg;unfold yP at h
    split at h
    ·rename_i t ht;unfold rJ at h
     split at h
     ·rename_i hw;have:t=want:=by simpa using hw
      subst this;exact hdo _ _ _ _ _ _ _ ho (.inr ⟨j,t,hg,ht⟩) h
     ·rename_i hw;exact .uY ho ⟨j,want,hg,.inl ⟨t,ht,by simpa using hw⟩⟩ (hn _ _ _ h)
    ·rename_i ht;exact .uY ho ⟨j,want,hg,.inr ht⟩ (hn _ _ _ h)
    ·exact h.elim
  ·exact h.elim
 ·exact hs _ _ _ h
theorem BA (K:List Item) {stop:kA} (hs:∀ k env S,stop k env S→az P I z fn (k++K) env S R):∀ (n:Nat) (k:List Item) (env:List V) (S:Mem),steps P I n stop k env S→az P I z fn (k++K) env S R
 | 0,_,_,_,h=>hs _ _ _ h
 | n+1,k,env,S,h=>Tp K (BA K hs n) hs k env S h
theorem az.Qy (n:Nat) {i:Item} {K:List Item} {env:List V} {S:Mem} (h:steps P I n (fun k env S=>az P I z fn (k++K) env S R) [i] env S):az P I z fn (i :: K) env S R:=BA K (fun _ _ _ h=>h) n [i] env S h
theorem az.oV (n:Nat) {k K:List Item} {env:List V} {S:Mem} (h:steps P I n (fun k env S=>az P I z fn (k++K) env S R) k env S):az P I z fn (k++K) env S R:=BA K (fun _ _ _ h=>h) n k env S h
theorem jJ {k K:List Item} {env:List V} {S:Mem} (h:steps P I 200 (fun k env S=>az P I z fn (k++K) env S R) k env S):az P I z fn (k++K) env S R:=az.oV 200 h
theorem nF {a b c:Item} {K:List Item} {env:List V} {S:Mem} (h:steps P I 200 (fun k env S=>az P I z fn (k++K) env S R) [a,b,c] env S):az P I z fn ([a,b,c]++K) env S R:=az.oV 200 h
theorem az.join {α:Type} (st:α→List V × Mem) (ok:α→Prop) {i:Item} {K:List Item} {env:List V} {S:Mem} (h1:∀ a,ok a→az P I z fn K (st a).1 (st a).2 R)
 (h2:∀ K':List Item,(∀ a,ok a→∀ iI S',nR (st a).1 iI→(st a).2=S'→az P I z fn K' iI S' R)→az P I z fn (i :: K') env S R):az P I z fn (i :: K) env S R :=
 h2 K fun a ha _ _ he hS=>az.ng he (hS ▸ h1 a ha)
end
end Go.Ab
