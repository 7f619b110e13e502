/- gotypeMore Part 1 of 6 of the proof. -/
import Derived.WalkKit
import Derived.Lib.ConvBytes
import Derived.Lib.AppendStr
import Derived.ProofKit
import Derived.MapKept
import Derived.Deep.Quiet
namespace Go.Av
open Go.RowKit
def bv (bs:List UInt8):List Value:=bs.map fun c=>Value.int .u8 (c.toNat:Int)
def Own (w:World) (B:Nat) (e:TypeId) (size:Nat) (v:Value) (n:Nat) (xs:List Value):Prop :=
 xs.length=n * size ∧
 ((v = .slice none 0 0∧n=0) ∨
  ∃ (g off cap:Nat) (cur:Array Value) (fz:Nat × Nat),v = .slice (some ⟨g,off,none⟩) n cap∧B≤g∧w.heap[g]? = some (.cells cur e fz)∧n≤cap∧cap≤maxLen∧off+cap * size≤cur.size ∧
   (off+cap * size≤fz.1∨fz.2≤fz.1)∧(cur.toList.drop off).take (n * size)=xs)
theorem Own.nil (w:World) (B:Nat) (e:TypeId) (size:Nat):Own w B e size (.slice none 0 0) 0 []:=⟨by simp,.inl ⟨rfl,rfl⟩⟩
theorem Own.lt {w:World} {B e size:Nat} {v:Value} {n:Nat} {xs:List Value} (h:Own w B e size v n xs):∀ k,v.ownBlock=some k→B≤k∧k < w.heap.size:=by
 intro k hk
 rcases h.2 with ⟨rfl,_⟩ | ⟨g,off,cap,cur,fz,rfl,hb,hg,_⟩
 ·simp [Value.ownBlock] at hk
 ·simp [Value.ownBlock] at hk
  subst hk
  exact ⟨hb,(Array.getElem?_eq_some_iff.1 hg).1⟩
theorem Own.kept {w w':World} {B e size:Nat} {v:Value} {n:Nat} {xs:List Value} (h:Own w B e size v n xs) (hk:∀ k,v.ownBlock=some k→w'.heap[k]? = w.heap[k]?):Own w' B e size v n xs:=by
 refine ⟨h.1,?_⟩
 rcases h.2 with hn | ⟨g,off,cap,cur,fz,rfl,hb,Zj,rest⟩
 ·exact .inl hn
 ·exact .inr ⟨g,off,cap,cur,fz,rfl,hb,by rw [hk g (by simp [Value.ownBlock])];exact Zj,rest⟩
theorem Own.alloc {w:World} {B e size:Nat} {v:Value} {n:Nat} {xs:List Value} (h:Own w B e size v n xs) (o:Obj):Own (w.alloc o) B e size v n xs :=
 h.kept fun k hk=>Below.heap_alloc w o k (h.lt k hk).2
theorem Own.drew {w:World} {B e size:Nat} {v:Value} {n:Nat} {xs:List Value} (h:Own w B e size v n xs):Own w.drew B e size v n xs :=
 h.kept fun _ _=>rfl
theorem Own.below {w w':World} {B e size:Nat} {v:Value} {n:Nat} {xs:List Value} (h:Own w B e size v n xs) (hb:Below w.heap.size w w'):Own w' B e size v n xs :=
 h.kept fun k hk=>hb.block k (h.lt k hk).2
theorem Own.grown {w w':World} {B e size:Nat} {v:Value} {n:Nat} {xs:List Value} (h:Own w B e size v n xs) {row:Option Nat} (hb:w.grownBy w' row) (cm:v.ownBlock=none∨v.ownBlock ≠ row):Own w' B e size v n xs :=
 h.kept fun k hk=>hb.block k (h.lt k hk).2 (by rcases cm with h' | h'<;>simp_all)
theorem Own.mono {w:World} {B B' e size:Nat} {v:Value} {n:Nat} {xs:List Value} (h:Own w B e size v n xs) (hB:B'≤B):Own w B' e size v n xs:=by
 refine ⟨h.1,?_⟩
 rcases h.2 with hn | ⟨g,off,cap,cur,fz,rfl,hb,rest⟩
 ·exact .inl hn
 ·exact .inr ⟨g,off,cap,cur,fz,rfl,by omega,rest⟩
theorem Own.cells {w:World} {B e size:Nat} {v:Value} {n:Nat} {xs:List Value} (h:Own w B e size v n xs) {g off cap:Nat} (hv:v = .slice (some ⟨g,off,none⟩) n cap):∀ j u,xs[j]? = some u→w.cell? ⟨g,off+j,none⟩=some u:=by
 intro j u hu
 rcases h.2 with ⟨rfl,_⟩ | ⟨g',th,cu,cur,fz,rfl,_,Zj,_,_,yt,_,Vw⟩
 ·simp at hv
 ·simp at hv
  obtain ⟨⟨rfl,rfl⟩,rfl⟩:=hv
  rw [← Vw,List.getElem?_take] at hu
  split at hu
  ·simpa [World.cell?,Zj] using hu
  ·cases hu
theorem Addr.add_plain (g off j:Nat):(⟨g,off,none⟩:Addr).add j=⟨g,off+j,none⟩:=by unfold Addr.add;split<;>simp_all
structure qO (w:World) (v:Value) (w':World) (v':Value):Prop where
 grown:w.grownBy w' v.ownBlock
 SB:v'.ownBlock=v.ownBlock∨∀ k,v'.ownBlock=some k→w.heap.size≤k
theorem tj {w w':World} (h:Below w.heap.size w w') (row:Option Nat):w.grownBy w' row :=
 ⟨h.os,h.tape,h.output,h.size,fun k hk _=>h.block k hk⟩
theorem yu {w w1 w2:World} {r r1:Option Nat} (h:w.grownBy w1 r) (h1:w1.grownBy w2 r1) (hr:r1=r∨∀ k,r1=some k→w.heap.size≤k):w.grownBy w2 r:=by
 refine ⟨h1.os.trans h.os,h1.tape.trans h.tape,h1.output.trans h.output,Nat.le_trans h.size h1.size,fun k hk cm=>?_⟩
 rw [h1.block k (Nat.lt_of_lt_of_le hk h.size) ?_,h.block k hk cm]
 intro e
 rcases hr with rfl | hr
 ·exact cm e
 ·have:=hr k e.symm
  omega
theorem qO.refl (w:World) (v:Value):qO w v w v:=⟨⟨rfl,rfl,rfl,Nat.le_refl _,fun _ _ _=>rfl⟩,.inl rfl⟩
theorem qO.trans {w w1 w2:World} {v v1 v2:Value} (h:qO w v w1 v1) (h1:qO w1 v1 w2 v2):qO w v w2 v2:=by
 refine ⟨yu h.grown h1.grown h.SB,?_⟩
 rcases h1.SB with e | e
 ·rw [e];exact h.SB
 ·exact .inr fun k hk=>Nat.le_trans h.grown.size (e k hk)
theorem qO.alloc {w w1:World} {v v1:Value} (h:qO w v w1 v1) (o:Obj):qO w v (w1.alloc o) v1 :=
 h.trans ⟨World.grownBy_alloc w1 o _,.inl rfl⟩
theorem qO.drew {w w1:World} {v v1:Value} (h:qO w v w1 v1):qO w v w1.drew v1 :=
 h.trans ⟨⟨rfl,rfl,rfl,Nat.le_refl _,fun _ _ _=>rfl⟩,.inl rfl⟩
theorem qO.below {w w1 w2:World} {v v1:Value} (h:qO w v w1 v1) (hb:Below w1.heap.size w1 w2):qO w v w2 v1 :=
 h.trans ⟨tj hb _,.inl rfl⟩
section
variable {P:Program}
theorem mb (g o:Nat) (t:TypeId) (fz:Nat × Nat):∀ (vs:List Value) (i:Nat) (cur:Array Value) (w:World),w.heap[g]? = some (.cells cur t fz)→o+i+vs.length≤cur.size →
 (o+i+vs.length≤fz.1∨fz.2≤fz.1)→(∀ v∈vs,v.oneCell' = true) →
 (storeCells ⟨g,o,none⟩ vs i).run P w = .ok () (w.setRow g (cur.toList.take (o+i)++vs++cur.toList.drop (o+i+vs.length)).toArray)
 | [],i,cur,w,hg,_,_,_=>by
  simp only [storeCells,List.append_nil,List.length_nil,Nat.add_zero,List.take_append_drop,Array.toArray_toList]
  rw [setRow_self w g cur t fz hg]
  rfl
 | v :: rest,i,cur,w,hg,hl,hf,h1=>by
  have hi:o+i < cur.size:=by simp at hl;omega
  have eZ:w.cell? ⟨g,o+i,none⟩=some cur[o+i]:=by simp [World.cell?,hg,hi]
  have Zk:w.frozen? ⟨g,o+i,none⟩=false:=by
   simp only [World.frozen?,hg]
   simp at hf ⊢
   omega
  have jW:(store ((⟨g,o,none⟩:Addr).add i) v).run P w = .ok () (w.setRow g (cur.setIfInBounds (o+i) v)):=by
   rw [Addr.add_plain,run_store P w _ v _ (h1 v (by simp)),eZ]
   simp [Zk,setCell_eq_setRow w g (o+i) cur t fz v hg]
  have ih:=mb g o t fz rest (i+1) (cur.setIfInBounds (o+i) v) (w.setRow g (cur.setIfInBounds (o+i) v)) (setRow_heap w g cur _ t _ hg) (by simp at hl ⊢;omega) (by simp at hf ⊢;omega) (fun x hx=>h1 x (by simp [hx]))
  simp only [storeCells,Sem.run_bind,jW,Result.andThen_ok,ih,setRow_setRow]
  congr 3
  have e:=list_seg_step cur.toList (o+i) v rest (by simp at hl ⊢;omega)
  simpa [Array.toList_setIfInBounds,Nat.add_assoc] using e
structure yw (P:Program) (t e size bytes:Nat) (z:Value):Prop where
 under:P.underlying t=some (.slice e)
 info:(P.info? e).map (fun i=>(i.zero,i.size,i.bytes))=some (some z,size,bytes)
 abV:z.cells.size=size
theorem Own.lenOf {w:World} {B e size:Nat} {y:Value} {m:Nat} {news:List Value} (h:Own w B e size y m news) (W:World):(Builtin.lenOf y).run P W = .ok m W:=by
 rcases h.2 with ⟨rfl,rfl⟩ | ⟨g,off,cap,cur,fz,rfl,_⟩<;>simp [Builtin.lenOf]
theorem Own.firstCells {w:World} {B e size:Nat} {y:Value} {m:Nat} {news:List Value} (h:Own w B e size y m news) (W:World) (hW:W.heap=w.heap):(Builtin.firstCells size m y).run P W = .ok news.toArray W:=by
 rcases h.2 with ⟨rfl,rfl⟩ | ⟨g,off,cap,cur,fz,rfl,_⟩
 ·have:news=[]:=List.eq_nil_of_length_eq_zero (by simpa using h.1)
  subst this
  exact run_firstCells_none (P:=P) W size 0 0 0
 ·exact run_firstCells_some (P:=P) W size m ⟨g,off,none⟩ m cap news h.1 (fun j u hu=>by
   rw [Addr.add_plain]
   have:=h.cells rfl j u hu
   simpa [World.cell?,hW] using this)
theorem Lw (w:World) (xs:List Value) (e:TypeId):∀ j u,xs[j]? = some u→(w.alloc (.cells xs.toArray e)).cell? ⟨w.heap.size,0+j,none⟩=some u:=by
 intro j u hu
 have:=heap_alloc_new w (.cells xs.toArray e)
 simp only [World.cell?,this]
 simpa using hu
theorem ox (w:World) (B e:Nat) (s:ByteArray) (hB:B≤w.heap.size) (hs:s.size≤maxLen) :
 Own (Lib.bytesWorld w e s) B e 1 (.slice (some ⟨w.heap.size,0,none⟩) s.size (grownCap w s.size 0 e)) s.size (bv s.data.toList):=by
 have mc:=grownCap_ge w s.size 0 e
 have dJ:(Lib.bytesCells w e s).size=grownCap w s.size 0 e:=by
  have:s.data.size=s.size:=rfl
  simp [Lib.bytesCells,this];omega
 refine ⟨by simp [bv],.inr ⟨w.heap.size,0,_,_,_,rfl,hB,Lib.bytesWorld_at_new w e s,mc,grownCap_le_maxLen w s.size 0 e hs,by omega,?_,?_⟩⟩
 ·left;simp only [];omega
 ·simp only [Lib.bytesCells,Array.toList_append,Array.toList_map,List.drop_zero,bv]
  have:(List.map (fun c:UInt8=>Value.int IntKind.u8 (c.toNat:Int)) s.data.toList).length=s.size * 1:=by simp
  rw [← this]
  exact List.take_left
theorem ji (w:World) (B e:Nat) (s:ByteArray) (hB:B≤w.heap.size):Below B w (Lib.bytesWorld w e s) :=
 ⟨rfl,rfl,rfl,by rw [Lib.bytesWorld_size];omega,fun k hk=>Lib.bytesWorld_at_old w e s k (by omega)⟩
theorem qv {w:World} (src e dst:Nat) (hs:P.underlying src=some (.slice e)) (he:P.underlying e=some (.int .u8)) (hd:P.underlying dst=some .string) (g off cap n:Nat) (bs:List UInt8) (hlen:bs.length=n)
 (hc:∀ j u,(bv bs)[j]? = some u→w.cell? ⟨g,off+j,none⟩=some u) :
 (convert src dst (.slice (some ⟨g,off,none⟩) n cap)).run P w = .ok (.string ⟨bs.toArray⟩) w:=by
 have h:=run_convert_bytes_arg (P:=P) w src e hs he g off n cap (bs.map fun c=>(c.toNat:Int)) (by simpa using hlen) (fun i hi=>by
  have:=hc i (.int .u8 ((bs.map fun c=>(c.toNat:Int)).getD i 0)) (by simp [bv,List.getD,List.getElem?_eq_getElem (show i < bs.length by omega)])
  exact this) dst hd
 rw [h]
 congr 2
 simp [strOfNums,Function.comp_def]
end
end Go.Av
namespace Go.Ab
open Go.RowKit Go.Av
inductive D where
 | int (k:IntKind) (n:Int)
 | bool (b:Bool)
 | str (s:List UInt8)
 | sl (rows:List (List D))
inductive Tok where
 | full
 | own (t:Nat)
inductive V where
 | undef
 | d (x:D)
 | sl (rows:List (List D)) (t:Tok)
 | ptr (i k:Nat)
 | gp (row:List D) (k:Nat)
 | bx (i n cap:Nat)
 | mp (i:Nat)
 | oy (ks:List (List UInt8)) (vs:List V)
 | self (i T:Nat)
 | buf (rows:List (List D)) (t T:Nat)
 | iG
 | func (f:FuncId) (first caps:List V)
 | kM
 | agg (vs:List V)
 | bY (vs:List V)
instance:Inhabited V:=⟨.undef⟩
structure TI where
 addr:Option (Nat × Nat)
 cap:Nat
 n:Nat
 sz:Nat
def Ck:D→Option Value
 | .int k n=>some (.int k n)
 | .bool b=>some (.bool b)
 | .str s=>if s.length≤9223372036854775807 then some (.string ⟨s.toArray⟩) else none
 | .sl _=>none
structure Inv where
 holds:World→Prop
 top:Nat
 E8:Nat→Option (List D)
 ok:∀ (w:World) (g:Nat) (row:List D),holds w→E8 g=some row→g < top∧∀ q (h:q < row.length),∃ v,Ck row[q]=some v∧w.cell? ⟨g,q,none⟩=some v
structure Cx where
 B:Nat
 ρ:List Nat
 τ:List TI
 I:Inv
 X:Nat→Nat→Prop
 hX:∀ g k,X g k→I.top≤g∧g < B
def Cx.M (c:Cx) (g k:Nat):Prop:=(c.X g k∨g∈c.ρ)∨∃ (t:Nat) (i:TI) (off:Nat),c.τ[t]? = some i∧i.addr=some (g,off)∧off+i.n * i.sz≤k∧k < off+i.cap * i.sz
inductive DR (M:Nat→Nat→Prop) (w:World):D→Value→Prop
 | int (k:IntKind) (n:Int):DR M w (.int k n) (.int k n)
 | bool (b:Bool):DR M w (.bool b) (.bool b)
 | str (s:List UInt8) (h:s.length≤9223372036854775807):DR M w (.str s) (.string ⟨s.toArray⟩)
 | sl (rows:List (List D)) (sz:Nat) (a:Option Addr) (cap:Nat) (f:Nat→Nat→Value) (dJ:0 < sz) (hr:∀ r∈rows,r.length=sz) (hc:rows.length≤cap) (hm:cap≤9223372036854775807)
  (hs:rows ≠ []→∃ g off,a=some ⟨g,off,none⟩∧∀ j (h:j < rows.length) q (_:q < (rows[j]).length),¬ M g (off+j * sz+q)∧w.cell? ⟨g,off+j * sz+q,none⟩=some (f j q))
  (hd:∀ j (h:j < rows.length) q (hq:q < (rows[j]).length),DR M w (rows[j])[q] (f j q)):DR M w (.sl rows) (.slice a rows.length cap)
theorem DR.mono {M M':Nat→Nat→Prop} {w w':World} (hk:∀ g k v,¬ M g k→w.cell? ⟨g,k,none⟩=some v→¬ M' g k∧w'.cell? ⟨g,k,none⟩=some v) {x:D} {v:Value} (h:DR M w x v):DR M' w' x v:=by
 induction h with
 | int k n=>exact .int k n
 | bool b=>exact .bool b
 | str s h=>exact .str s h
 | sl rows sz a cap f dJ hr hc hm hs hd ih =>
  refine .sl rows sz a cap f dJ hr hc hm (fun he=>?_) ih
  obtain ⟨g,off,ha,hc⟩:=hs he
  exact ⟨g,off,ha,fun j h q hq=>hk _ _ _ (hc j h q hq).1 (hc j h q hq).2⟩
theorem DR.one {M:Nat→Nat→Prop} {w:World} {x:D} {v:Value} (h:DR M w x v):v.oneCell' = true:=by cases h<;>rfl
theorem DR.cells {M:Nat→Nat→Prop} {w:World} {x:D} {v:Value} (h:DR M w x v):v.cells = #[v]:=by cases h<;>rfl
def iH (w:World) (b T:Nat):Prop:=∃ cs fz,w.heap[b]? = some (.cells cs T fz)
inductive VR (c:Cx) (w:World):V→Value→Prop
 | undef (v:Value):VR c w .undef v
 | d (x:D) (v:Value) (h:DR c.M w x v):VR c w (.d x) v
 | full (rows:List (List D)) (a:Option Addr) (h:DR c.M w (.sl rows) (.slice a rows.length rows.length)) (ha:∀ p,a=some p→p.spot=none∧c.B≤p.block):VR c w (.sl rows .full) (.slice a rows.length rows.length)
 | own (rows:List (List D)) (t:Nat) (a:Option Addr) (cap:Nat) (i:TI) (h:DR c.M w (.sl rows) (.slice a rows.length cap)) (ht:c.τ[t]? = some i) (hr:∀ r∈rows,r.length=i.sz) (hn:rows.length≤i.n)
  (hl:rows.length=i.n→cap=i.cap∧a=i.addr.map fun p=>⟨p.1,p.2,none⟩):VR c w (.sl rows (.own t)) (.slice a rows.length cap)
 | ptr (i k b:Nat) (h:c.ρ[i]? = some b) (hT:∃ T,iH w b T):VR c w (.ptr i k) (.pointer (some ⟨b,k,none⟩))
 | gp (row:List D) (k g o:Nat) (f:Nat→Value) (h:∀ q (h:q < row.length),¬ c.M g (o+q)∧w.cell? ⟨g,o+q,none⟩=some (f q)∧DR c.M w row[q] (f q)):VR c w (.gp row k) (.pointer (some ⟨g,o+k,none⟩))
 | bx (i n cap b:Nat) (h:c.ρ[i]? = some b) (hn:n≤cap) (hm:cap≤9223372036854775807) (hT:∃ T,iH w b T):VR c w (.bx i n cap) (.slice (some ⟨b,0,none⟩) n cap)
 | mp (i b:Nat) (h:c.ρ[i]? = some b):VR c w (.mp i) (.map (some b))
 | self (i T b:Nat) (v:Value) (h:c.ρ[i]? = some b) (hT:iH w b T) (hv:v = .pointer none∨v = .pointer (some ⟨b,0,none⟩)):VR c w (.self i T) v
 | buf (rows:List (List D)) (t T:Nat) (v:Value) (h:VR c w (.sl rows (.own t)) v) (hT:∀ g off n cap,cap ≠ 0→v = .slice (some ⟨g,off,none⟩) n cap→off=0∧c.B≤g∧iH w g T):VR c w (.buf rows t T) v
 | iG:VR c w .iG (.pointer none)
 | func (f:FuncId) (first caps:List V) (cf cc:Array Value) (h1:cf.size=first.length) (h2:cc.size=caps.length) (h3:∀ j (h:j < first.length),VR c w first[j] (cf.getD j undef)) (h4:∀ j (h:j < caps.length),VR c w caps[j] (cc.getD j undef)):VR c w (.func f first caps) (.func (.func f) cf cc)
 | kM:VR c w .kM .nilFunc
 | agg (vs:List V) (cs:Array Value) (h1:cs.size=vs.length) (h2:∀ j (h:j < vs.length),VR c w vs[j] (cs.getD j undef)) (h3:∀ j,j < vs.length→(cs.getD j undef).oneCell' = true):VR c w (.agg vs) (.agg cs)
 | bY (vs:List V) (cs:Array Value) (h1:cs.size=vs.length) (h2:∀ j (h:j < vs.length),VR c w vs[j] (cs.getD j undef)):VR c w (.bY vs) (.tuple cs)
structure iA (c:Cx) (w:World) (c':Cx) (w':World):Prop where
 cell:∀ g k v,¬ c.M g k→w.cell? ⟨g,k,none⟩=some v→¬ c'.M g k∧w'.cell? ⟨g,k,none⟩=some v
 ρ:∀ (i b:Nat),c.ρ[i]? = some b→c'.ρ[i]? = some b
 τ:∀ (t:Nat) (i:TI),c.τ[t]? = some i→∃ i',c'.τ[t]? = some i'∧i'.sz=i.sz∧i.n≤i'.n∧(i'.n=i.n→i' = i)
 B:c'.B=c.B
 ty:∀ b T,iH w b T→iH w' b T
theorem iA.refl (c:Cx) (w:World):iA c w c w:=⟨fun _ _ _ h h'=>⟨h,h'⟩,fun _ _ h=>h,fun _ i h=>⟨i,h,rfl,Nat.le_refl _,fun _=>rfl⟩,rfl,fun _ _ h=>h⟩
theorem iA.trans {c1 c2 c3:Cx} {w1 w2 w3:World} (h:iA c1 w1 c2 w2) (k:iA c2 w2 c3 w3):iA c1 w1 c3 w3:=by
 refine ⟨fun g q v hm hv=>?_,fun i b hb=>k.ρ _ _ (h.ρ _ _ hb),fun t i ht=>?_,k.B.trans h.B,fun b T hT=>k.ty b T (h.ty b T hT)⟩
 ·obtain ⟨a,b⟩:=h.cell g q v hm hv
  exact k.cell g q v a b
 ·obtain ⟨i1,a1,a2,a3,a4⟩:=h.τ t i ht
  obtain ⟨i2,b1,b2,b3,b4⟩:=k.τ t i1 a1
  refine ⟨i2,b1,b2.trans a2,Nat.le_trans a3 b3,fun e=>?_⟩
  have e1:i1.n=i.n:=by omega
  have e2:=a4 e1
  subst e2
  exact b4 e
theorem DR.eC {c c':Cx} {w w':World} (hk:iA c w c' w') {x:D} {v:Value} (h:DR c.M w x v):DR c'.M w' x v:=h.mono hk.cell
theorem VR.eC {c c':Cx} {w w':World} (hk:iA c w c' w') {x:V} {v:Value} (h:VR c w x v):VR c' w' x v:=by
 induction h with
 | undef v=>exact .undef v
 | d x v h=>exact .d x v (h.eC hk)
 | full rows a h ha=>exact .full rows a (h.eC hk) (fun p hp=>by rw [hk.B];exact ha p hp)
 | own rows t a cap i h ht hr hn hl =>
  obtain ⟨i',b1,b2,b3,b4⟩:=hk.τ t i ht
  refine .own rows t a cap i' (h.eC hk) b1 (by rw [b2];exact hr) (by omega) (fun e=>?_)
  have e1:i'.n=i.n:=by omega
  have e2:=b4 e1
  subst e2
  exact hl e
 | ptr i k b h hT=>exact .ptr i k b (hk.ρ _ _ h) (hT.imp fun T=>hk.ty b T)
 | gp row k g o f h =>
  refine .gp row k g o f fun q hq=>?_
  obtain ⟨a,b,d⟩:=h q hq
  obtain ⟨a',b'⟩:=hk.cell _ _ _ a b
  exact ⟨a',b',d.eC hk⟩
 | bx i n cap b h hn hm hT=>exact .bx i n cap b (hk.ρ _ _ h) hn hm (hT.imp fun T=>hk.ty b T)
 | mp i b h=>exact .mp i b (hk.ρ _ _ h)
 | self i T b v h hT hv=>exact .self i T b v (hk.ρ _ _ h) (hk.ty _ _ hT) hv
 | buf rows t T v h hT ih =>
  refine .buf rows t T v ih fun g off n cap hr hv=>?_
  obtain ⟨h1,h2,h3⟩:=hT g off n cap hr hv
  exact ⟨h1,by rw [hk.B];exact h2,hk.ty _ _ h3⟩
 | iG=>exact .iG
 | func f first caps cf cc h1 h2 h3 h4 Ly lM=>exact .func f first caps cf cc h1 h2 Ly lM
 | kM=>exact .kM
 | agg vs cs h1 h2 h3 ih=>exact .agg vs cs h1 ih h3
 | bY vs cs h1 h2 ih=>exact .bY vs cs h1 ih
structure Ext (c:Cx) (w:World) (c':Cx) (w':World):Prop where
 keeps:iA c w c' w'
 B:c'.B=c.B
 I:c'.I=c.I
 X:c'.X=c.X
 below:Below c.B w w'
theorem Ext.refl (c:Cx) (w:World):Ext c w c w:=⟨.refl c w,rfl,rfl,rfl,.refl _ w⟩
theorem Ext.trans {c1 c2 c3:Cx} {w1 w2 w3:World} (h:Ext c1 w1 c2 w2) (k:Ext c2 w2 c3 w3):Ext c1 w1 c3 w3 :=
 ⟨h.keeps.trans k.keeps,k.B.trans h.B,k.I.trans h.I,k.X.trans h.X,h.below.trans (h.B ▸ k.below)⟩
theorem VR.ext {c c':Cx} {w w':World} (hk:Ext c w c' w') {x:V} {v:Value} (h:VR c w x v):VR c' w' x v:=h.eC hk.keeps
inductive oz (c:Cx) (w:World):Obj→List V→Prop
 | cells (cs:Array Value) (T:TypeId) (vs:List V) (h1:cs.size=vs.length) (h2:∀ j (h:j < vs.length),VR c w vs[j] (cs.getD j undef)∧(cs.getD j undef).oneCell' = true):oz c w (.cells cs T (0,0)) vs
 | map (es:Array MapEntry) (ck:Nat) (ks:List (List UInt8)) (vs:List V) (h0:es.size=ks.length) (h1:ks.length=vs.length)
  (h2:∀ (j:Nat) (k:List UInt8) (v:V),ks[j]? = some k→vs[j]? = some v→∃ e,es[j]? = some e∧e.key = .string ⟨k.toArray⟩∧VR c w v e.val):oz c w (.map es ck) [.oy ks vs]
theorem oz.eC {c c':Cx} {w w':World} (hk:iA c w c' w') {o:Obj} {vs:List V} (h:oz c w o vs):oz c' w' o vs:=by
 cases h with
 | cells cs T vs h1 h2=>exact .cells cs T vs h1 fun j hj=>⟨(h2 j hj).1.eC hk,(h2 j hj).2⟩
 | map es ck ks us h0 h1 h2=>exact .map es ck ks us h0 h1 fun j k v hj hv=>(h2 j k v hj hv).imp fun e he=>⟨he.1,he.2.1,he.2.2.eC hk⟩
def OQ (vs:List V):Prop:=∀ ks us,vs ≠ [.oy ks us]
theorem oz.Vx {c:Cx} {w:World} {o:Obj} {vs:List V} (h:oz c w o vs) (hn:OQ vs):∃ (cs:Array Value) (T:TypeId),o = .cells cs T (0,0)∧cs.size=vs.length∧∀ j (h:j < vs.length),VR c w vs[j] (cs.getD j undef)∧(cs.getD j undef).oneCell' = true:=by
 cases h with
 | cells cs T vs h1 h2=>exact ⟨cs,T,rfl,h1,h2⟩
 | map es ck ks us h0 h1 h2=>exact absurd rfl (hn ks us)
theorem oz.GZ {c:Cx} {w:World} {b:Nat} {o:Obj} {vs:List V} (h:oz c w o vs) (ho:w.heap[b]? = some o) (hT:∃ T,iH w b T):∃ (cs:Array Value) (T:TypeId),w.heap[b]? = some (.cells cs T (0,0))∧cs.size=vs.length∧∀ j (h:j < vs.length),VR c w vs[j] (cs.getD j undef)∧(cs.getD j undef).oneCell' = true:=by
 cases h with
 | cells cs T vs h1 h2=>exact ⟨cs,T,ho,h1,h2⟩
 | map es ck ks us h0 h1 h2 =>
  obtain ⟨T,cs,fz,hT⟩:=hT
  rw [ho] at hT
  cases hT
structure Mem where
 boxes:List (List V)
 aL:List (Nat × Nat)
structure dz (c:Cx) (w:World) (S:Mem):Prop where
 hB:c.I.top≤c.B∧c.B≤w.heap.size
 len:S.boxes.length=c.ρ.length
 box:∀ (i b:Nat),c.ρ[i]? = some b→c.B≤b∧∃ o,w.heap[b]? = some o∧∃ vs,S.boxes[i]? = some vs∧oz c w o vs
 inj:∀ (i j b:Nat),c.ρ[i]? = some b→c.ρ[j]? = some b→i=j
 aL:S.aL=c.τ.map fun i=>(i.n,i.sz)
 tok:∀ (t:Nat) (i:TI),c.τ[t]? = some i→i.n≤i.cap∧i.cap≤9223372036854775807∧0 < i.sz∧(i.addr=none→i.cap=0) ∧
  (i.n < i.cap→∀ g off,i.addr=some (g,off)→c.B≤g∧g ∉ c.ρ∧∃ (cur:Array Value) (T:TypeId) (fz:Nat × Nat),w.heap[g]? = some (.cells cur T fz)∧off+i.cap * i.sz≤cur.size∧(off+i.cap * i.sz≤fz.1∨fz.2=fz.1))
 rG:∀ (t t':Nat) (i i':TI) (g off th:Nat),c.τ[t]? = some i→c.τ[t']? = some i'→i.addr=some (g,off)→i'.addr=some (g,th)→i.n < i.cap→i'.n < i'.cap→t=t'
 inv:∀ w',Below c.B w w'→c.I.holds w'
theorem dz.lt {c:Cx} {w:World} {S:Mem} (h:dz c w S) {i b:Nat} (hb:c.ρ[i]? = some b):b < w.heap.size:=by
 obtain ⟨_,o,hh,_⟩:=h.box i b hb
 exact (Array.getElem?_eq_some_iff.1 hh).1
theorem dz.I {c:Cx} {w:World} {S:Mem} (h:dz c w S):c.I.holds w:=h.inv w (.refl _ _)
theorem jj {l:List Nat} {b:Nat}:b∈l↔∃ i:Nat,l[i]? = some b:=List.mem_iff_getElem?
theorem dz.vD {c:Cx} {w:World} {S:Mem} (h:dz c w S) {g k:Nat} (hg:w.heap.size≤g):¬ c.M g k:=by
 rintro ((hm | hm) | ⟨t,i,off,ht,ha,h1,h2⟩)
 ·have:=(c.hX _ _ hm).2
  have:=h.hB.2
  omega
 ·obtain ⟨i,hi⟩:=jj.1 hm
  have:=h.lt hi
  omega
 ·obtain ⟨a1,a2,a3,a4,a5⟩:=h.tok t i ht
  have au:i.n < i.cap:=by
   rcases Nat.lt_or_ge i.n i.cap with h' | h'
   ·exact h'
   ·have:=Nat.mul_le_mul_right i.sz h'
    omega
  obtain ⟨_,_,cur,T,fz,hh,_⟩:=a5 au g off ha
  have:=(Array.getElem?_eq_some_iff.1 hh).1
  omega
theorem pL {w:World} {g k:Nat} {v:Value} (h:w.cell? ⟨g,k,none⟩=some v):g < w.heap.size:=by
 rcases Nat.lt_or_ge g w.heap.size with h' | h'
 ·exact h'
 ·simp [World.cell?,Array.getElem?_eq_none h'] at h
theorem OR {M:Nat→Nat→Prop} {w:World} {x:D} {v:Value} (h:Ck x=some v):DR M w x v:=by
 cases x with
 | int k n=>obtain rfl:=Option.some.inj h;exact .int _ _
 | bool b=>obtain rfl:=Option.some.inj h;exact .bool _
 | str s =>
  simp only [Ck] at h
  split at h
  ·rename_i hs;obtain rfl:=Option.some.inj h;exact .str _ hs
  ·cases h
 | sl rows=>cases h
theorem dz.E8 {c:Cx} {w:World} {S:Mem} (h:dz c w S) {g:Nat} {row:List D} (hg:c.I.E8 g=some row):VR c w (.gp row 0) (.pointer (some ⟨g,0,none⟩)):=by
 obtain ⟨au,hc⟩:=c.I.ok w g row h.I hg
 have hB:=h.hB.1
 have hM:∀ k,¬ c.M g k:=by
  rintro k ((hm | hm) | ⟨t,i,off,ht,ha,h1,h2⟩)
  ·have:=(c.hX _ _ hm).1
   omega
  ·obtain ⟨i,hi⟩:=jj.1 hm
   obtain ⟨hb,_⟩:=h.box i g hi
   omega
  ·obtain ⟨a1,a2,a3,a4,a5⟩:=h.tok t i ht
   have au:i.n < i.cap:=by
    rcases Nat.lt_or_ge i.n i.cap with h' | h'
    ·exact h'
    ·have:=Nat.mul_le_mul_right i.sz h'
     omega
   have:=(a5 au g off ha).1
   omega
 refine .gp row 0 g 0 (fun q=>(w.cell? ⟨g,q,none⟩).getD undef) fun q hq=>?_
 obtain ⟨v,h1,h2⟩:=hc q hq
 rw [Nat.zero_add]
 refine ⟨hM q,by rw [h2];rfl,?_⟩
 rw [h2]
 exact OR h1
theorem iH.lt {w:World} {b T:Nat} (h:iH w b T):b < w.heap.size:=by
 obtain ⟨cs,fz,h⟩:=h
 exact (Array.getElem?_eq_some_iff.1 h).1
theorem iH.mJ {w w':World} {b T:Nat} (h:iH w b T) (e:w'.heap[b]? = w.heap[b]?):iH w' b T:=by
 obtain ⟨cs,fz,h⟩:=h
 exact ⟨cs,fz,by rw [e];exact h⟩
theorem iH.alloc {w:World} {b T:Nat} (h:iH w b T) (o:Obj):iH (w.alloc o) b T:=h.mJ (Below.heap_alloc w o b h.lt)
theorem vE {w:World} {g k:Nat} (o:Obj) (h:g < w.heap.size):(w.alloc o).cell? ⟨g,k,none⟩=w.cell? ⟨g,k,none⟩ :=
 World.cell?_of_block (a:=⟨g,k,none⟩) (Below.heap_alloc w o g h)
theorem dz.Vy {c:Cx} {w:World} {S:Mem} (h:dz c w S) (o:Obj):dz c (w.alloc o) S∧Ext c w c (w.alloc o):=by
 have hk:iA c w c (w.alloc o):=⟨fun g k v hm hv=>⟨hm,by rw [vE o (pL hv)];exact hv⟩,fun _ _ h=>h,fun _ i h=>⟨i,h,rfl,Nat.le_refl _,fun _=>rfl⟩,rfl,fun _ _ h=>h.alloc o⟩
 have hb:Below c.B w (w.alloc o):=(Below.refl _ _).alloc h.hB.2 _
 refine ⟨⟨⟨h.hB.1,by have:=hb.size;have:=h.hB.2;omega⟩,h.len,fun i b hi=>?_,h.inj,h.aL,fun t i ht=>?_,h.rG,fun w' OS=>h.inv w' (hb.trans OS)⟩,hk,rfl,rfl,rfl,hb⟩
 ·obtain ⟨a,o,hh,vs,e1,e2⟩:=h.box i b hi
  exact ⟨a,o,by rw [Below.heap_alloc _ _ _ (h.lt hi)];exact hh,vs,e1,e2.eC hk⟩
 ·obtain ⟨a1,a2,a3,a4,a5⟩:=h.tok t i ht
  refine ⟨a1,a2,a3,a4,fun hn g off ha=>?_⟩
  obtain ⟨b1,b2,cur,T,fz,hh,r⟩:=a5 hn g off ha
  exact ⟨b1,b2,cur,T,fz,by rw [Below.heap_alloc _ _ _ (Array.getElem?_eq_some_iff.1 hh).1];exact hh,r⟩
theorem dz.G1 {c:Cx} {w:World} {S:Mem} (h:dz c w S) (o:Obj) (vs:List V) (hv:oz c w o vs) :
 dz { c with ρ:=c.ρ++[w.heap.size] } (w.alloc o) { S with boxes:=S.boxes++[vs] }∧Ext c w { c with ρ:=c.ρ++[w.heap.size] } (w.alloc o):=by
 obtain ⟨h1,hj⟩:=h.Vy o
 have hk:iA c w { c with ρ:=c.ρ++[w.heap.size] } (w.alloc o):=by
  refine ⟨fun g k v hm hv=>⟨?_,(hj.keeps.cell g k v hm hv).2⟩,fun i b hi=>?_,hj.keeps.τ,rfl,hj.keeps.ty⟩
  ·rintro ((h' | h') | h')
   ·exact hm (.inl (.inl h'))
   ·simp only [List.mem_append,List.mem_singleton] at h'
    rcases h' with h' | h'
    ·exact hm (.inl (.inr h'))
    ·have:=pL hv;omega
   ·exact hm (.inr h')
  ·show (c.ρ++[w.heap.size])[i]? = some b
   rw [List.getElem?_append_left (List.getElem?_eq_some_iff.1 hi).1]
   exact hi
 have iM:∀ i b:Nat,(c.ρ++[w.heap.size])[i]? = some b→c.ρ[i]? = some b∨(i=c.ρ.length∧b=w.heap.size):=by
  intro i b hi
  rcases Nat.lt_or_ge i c.ρ.length with h' | h'
  ·left;rwa [List.getElem?_append_left h'] at hi
  ·right
   rw [List.getElem?_append_right h'] at hi
   have:i - c.ρ.length=0:=by
    have:=(List.getElem?_eq_some_iff.1 hi).1
    simp at this;omega
   rw [this] at hi
   simp at hi
   exact ⟨by omega,hi.symm⟩
 refine ⟨⟨h1.hB,by simp [h.len],fun i b hi=>?_,fun i j b hi eS=>?_,h.aL,fun t i ht=>?_,h.rG,h1.inv⟩,hk,rfl,rfl,rfl,hj.below⟩
 ·rcases iM i b hi with hi | ⟨rfl,rfl⟩
  ·obtain ⟨a,o0,Yb,Vz,f1,f2⟩:=h.box i b hi
   have hold:(w.alloc o).heap[b]? = w.heap[b]?:=Below.heap_alloc _ _ _ (h.lt hi)
   refine ⟨a,o0,by rw [hold];exact Yb,Vz,?_,f2.eC hk⟩
   show (S.boxes++[vs])[i]? = _
   rw [List.getElem?_append_left (List.getElem?_eq_some_iff.1 f1).1];exact f1
  ·refine ⟨h.hB.2,o,heap_alloc_new w _,vs,?_,hv.eC hk⟩
   show (S.boxes++[vs])[c.ρ.length]? = _
   rw [← h.len];simp
 ·rcases iM i b hi with hi | ⟨rfl,rfl⟩<;>rcases iM j _ eS with eS | ⟨rfl,e⟩
  ·exact h.inj i j b hi eS
  ·have:=h.lt hi;omega
  ·have:=h.lt eS;omega
  ·rfl
 ·obtain ⟨a1,a2,a3,a4,a5⟩:=h1.tok t i ht
  refine ⟨a1,a2,a3,a4,fun hn g off ha=>?_⟩
  obtain ⟨b1,b2,r⟩:=a5 hn g off ha
  obtain ⟨_,_,cur,T',fz,hh,_⟩:=(h.tok t i ht).2.2.2.2 hn g off ha
  refine ⟨b1,?_,r⟩
  simp only [List.mem_append,List.mem_singleton,not_or]
  refine ⟨b2,fun e=>?_⟩
  have:=(Array.getElem?_eq_some_iff.1 hh).1
  omega
theorem dz.vi {c:Cx} {w:World} {S:Mem} (h:dz c w S) (cs:Array Value) (T:TypeId) (vs:List V) (dJ:cs.size=vs.length) (hv:∀ j (h:j < vs.length),VR c w vs[j] (cs.getD j undef)∧(cs.getD j undef).oneCell' = true) :
 dz { c with ρ:=c.ρ++[w.heap.size] } (w.alloc (.cells cs T)) { S with boxes:=S.boxes++[vs] }∧Ext c w { c with ρ:=c.ρ++[w.heap.size] } (w.alloc (.cells cs T)) :=
 h.G1 _ vs (.cells cs T vs dJ hv)
theorem iH.new {w:World} (cs:Array Value) (T:TypeId):iH (w.alloc (.cells cs T)) w.heap.size T:=⟨cs,(0,0),heap_alloc_new w _⟩
theorem Cm (w:World) (g:Nat) (cs:Array Value) {b k:Nat} (h:b ≠ g):(w.setRow g cs).cell? ⟨b,k,none⟩=w.cell? ⟨b,k,none⟩ :=
 World.cell?_of_block (a:=⟨b,k,none⟩) (setRow_other w g b cs h)
theorem iH.setRow {w:World} {b T:Nat} (h:iH w b T) (g:Nat) (cs:Array Value):iH (w.setRow g cs) b T:=by
 by_cases e:b=g
 ·subst e
  obtain ⟨Zl,fz,h⟩:=h
  exact ⟨cs,fz,setRow_heap w b Zl cs T fz h⟩
 ·exact h.mJ (setRow_other w g b cs e)
theorem setRow_size (w:World) (g:Nat) (cs:Array Value):(w.setRow g cs).heap.size=w.heap.size:=by simp [World.setRow]
theorem rH (B:Nat) (w:World) (g:Nat) (cs:Array Value) (h:B≤g):Below B w (w.setRow g cs) :=
 ⟨rfl,rfl,rfl,by rw [setRow_size];exact Nat.le_refl _,fun k hk=>setRow_other w g k cs (by omega)⟩
theorem dz.setObj {c:Cx} {w w':World} {S:Mem} (h:dz c w S) {i b:Nat} (hi:c.ρ[i]? = some b) (o:Obj) (vs:List V) (hv:oz c w o vs) (iM:w'.heap[b]? = some o) (OT:∀ k,k ≠ b→w'.heap[k]? = w.heap[k]?) (dJ:w'.heap.size=w.heap.size) (hb:Below c.B w w')
 (fD:∀ T,iH w b T→iH w' b T):dz c w' { S with boxes:=S.boxes.set i vs }∧Ext c w c w':=by
 obtain ⟨hBb,o0,Yb,Vz,f1,f2⟩:=h.box i b hi
 have hk:iA c w c w':=⟨fun g k v hm hv=>⟨hm,by rw [World.cell?_of_block (a:=⟨g,k,none⟩) (OT g (fun (e:g=b)=>hm (.inl (.inr (jj.2 ⟨i,by rw [e];exact hi⟩)))))];exact hv⟩,fun _ _ h=>h,fun _ i h=>⟨i,h,rfl,Nat.le_refl _,fun _=>rfl⟩,rfl,fun g T hT=>by
  by_cases e:g=b
  ·subst e;exact fD T hT
  ·exact hT.mJ (OT g e)⟩
 refine ⟨⟨⟨h.hB.1,by rw [dJ];exact h.hB.2⟩,by simp [h.len],fun i' b' jX=>?_,h.inj,h.aL,fun t i ht=>?_,h.rG,fun w' OS=>h.inv w' (hb.trans OS)⟩,hk,rfl,rfl,rfl,hb⟩
 ·obtain ⟨a,o1,OU,OV,e1,e2⟩:=h.box i' b' jX
  by_cases cm:i' = i
  ·subst cm
   rw [hi] at jX
   obtain rfl:=Option.some.inj jX
   refine ⟨a,o,iM,vs,?_,hv.eC hk⟩
   show (S.boxes.set i' vs)[i']? = some vs
   rw [List.getElem?_set_self (List.getElem?_eq_some_iff.1 f1).1]
  ·have E9:b' ≠ b:=fun e=>cm (h.inj i' i b (e ▸ jX) hi)
   refine ⟨a,o1,by rw [OT _ E9];exact OU,OV,?_,e2.eC hk⟩
   show (S.boxes.set i vs)[i']? = some OV
   rw [List.getElem?_set_ne (fun e=>cm e.symm)];exact e1
 ·obtain ⟨a1,a2,a3,a4,a5⟩:=h.tok t i ht
  refine ⟨a1,a2,a3,a4,fun hn g off ha=>?_⟩
  obtain ⟨b1,b2,cur,T,fz,hh,r⟩:=a5 hn g off ha
  refine ⟨b1,b2,cur,T,fz,?_,r⟩
  rw [OT _ (fun (e:g=b)=>b2 (jj.2 ⟨_,by rw [e];exact hi⟩))];exact hh
theorem dz.SC {c:Cx} {w:World} {S:Mem} (h:dz c w S) {i b:Nat} (hi:c.ρ[i]? = some b) (hT:∃ T,iH w b T) (cs:Array Value) (vs:List V) (dJ:cs.size=vs.length) (hv:∀ j (h:j < vs.length),VR c w vs[j] (cs.getD j undef)∧(cs.getD j undef).oneCell' = true) :
 dz c (w.setRow b cs) { S with boxes:=S.boxes.set i vs }∧Ext c w c (w.setRow b cs):=by
 obtain ⟨hBb,o0,Yb,Vz,f1,f2⟩:=h.box i b hi
 obtain ⟨Zl,T0,hh,_⟩:=f2.GZ Yb hT
 exact h.setObj hi _ vs (.cells cs T0 vs dJ hv) (setRow_heap w b Zl cs T0 _ hh) (fun k hk=>setRow_other w b k cs hk) (setRow_size _ _ _) (rH _ _ _ _ hBb) (fun T h=>h.setRow b cs)
theorem G2 {j q sz:Nat} (hq:q < sz):(j * sz+q) / sz=j∧(j * sz+q) % sz=q:=by
 have hs:0 < sz:=by omega
 rw [Nat.mul_comm]
 exact ⟨by rw [Nat.mul_add_div hs,Nat.div_eq_of_lt hq];omega,by rw [Nat.mul_add_mod,Nat.mod_eq_of_lt hq]⟩
theorem Fa {j n q sz:Nat} (hj:j < n) (hq:q < sz):j * sz+q < n * sz:=by
 have:=Nat.mul_le_mul_right sz (show j+1≤n by omega)
 rw [Nat.add_mul] at this
 omega
theorem DR.flat {M:Nat→Nat→Prop} {w:World} {rows:List (List D)} {a:Option Addr} {n cap:Nat} (h:DR M w (.sl rows) (.slice a n cap)) (sz:Nat) (dJ:∀ r∈rows,r.length=sz) :
 n=rows.length∧n≤cap∧cap≤9223372036854775807∧∃ F:Nat→Value,(rows ≠ []→0 < sz∧∃ g off,a=some ⟨g,off,none⟩∧∀ k,k < rows.length * sz→¬ M g (off+k)∧w.cell? ⟨g,off+k,none⟩=some (F k)) ∧
  ∀ j (h:j < rows.length) q (hq:q < (rows[j]).length),DR M w (rows[j])[q] (F (j * sz+q)):=by
 cases h with
 | sl _ RA _ _ f h0 hr hc hm hs hd =>
  refine ⟨rfl,hc,hm,fun k=>f (k / sz) (k % sz),fun cm=>?_,fun j hj q hq=>?_⟩
  ·obtain ⟨r,l,rfl⟩:=List.exists_cons_of_ne_nil cm
   have e:RA=sz:=by rw [← hr r (by simp),dJ r (by simp)]
   subst e
   obtain ⟨g,off,ha,jY⟩:=hs cm
   refine ⟨h0,g,off,ha,fun k hk=>?_⟩
   have hj:k / RA < (r :: l).length:=Nat.div_lt_of_lt_mul (by rw [Nat.mul_comm];exact hk)
   have hq:k % RA < ((r :: l)[k / RA]).length:=by rw [dJ _ (List.getElem_mem hj)];exact Nat.mod_lt _ h0
   have:=jY _ hj _ hq
   rw [Nat.add_assoc,show k / RA * RA+k % RA=k by rw [Nat.mul_comm];exact Nat.div_add_mod k RA] at this
   exact this
  ·have Ar:q < sz:=by rw [← dJ _ (List.getElem_mem hj)];exact hq
   simp only [(G2 Ar).1,(G2 Ar).2]
   exact hd j hj q hq
theorem DR.of_flat {M:Nat→Nat→Prop} {w:World} (rows:List (List D)) (sz:Nat) (h0:0 < sz) (dJ:∀ r∈rows,r.length=sz) (a:Option Addr) (cap:Nat) (hc:rows.length≤cap) (hm:cap≤9223372036854775807) (F:Nat→Value)
 (hs:rows ≠ []→∃ g off,a=some ⟨g,off,none⟩∧∀ k,k < rows.length * sz→¬ M g (off+k)∧w.cell? ⟨g,off+k,none⟩=some (F k))
 (hd:∀ j (h:j < rows.length) q (hq:q < (rows[j]).length),DR M w (rows[j])[q] (F (j * sz+q))):DR M w (.sl rows) (.slice a rows.length cap):=by
 refine .sl rows sz a cap (fun j q=>F (j * sz+q)) h0 dJ hc hm (fun cm=>?_) hd
 obtain ⟨g,off,ha,jY⟩:=hs cm
 refine ⟨g,off,ha,fun j hj q hq=>?_⟩
 have Ar:q < sz:=by rw [← dJ _ (List.getElem_mem hj)];exact hq
 have:=jY (j * sz+q) (Fa hj Ar)
 rw [← Nat.add_assoc] at this
 exact this
theorem kD {P:Program} {M:Nat→Nat→Prop} {w:World} {rows:List (List D)} {a:Option Addr} {n cap sz:Nat} {F:Nat→Value} (hn:n=rows.length)
 (hs:rows ≠ []→0 < sz∧∃ g off,a=some ⟨g,off,none⟩∧∀ k,k < rows.length * sz→¬ M g (off+k)∧w.cell? ⟨g,off+k,none⟩=some (F k)) (W:World) (hW:W.heap=w.heap) :
 (Builtin.firstCells sz n (.slice a n cap)).run P W = .ok ((List.range (n * sz)).map F).toArray W:=by
 subst hn
 by_cases he:rows=[]
 ·subst he
  cases a with
  | none=>simp [Builtin.firstCells]
  | some p =>
   have:=run_firstCells_some (P:=P) W sz 0 p 0 cap [] (by simp) (fun j v hv=>by simp at hv)
   simpa using this
 ·obtain ⟨h0,g,off,rfl,jY⟩:=hs he
  refine run_firstCells_some (P:=P) W sz rows.length ⟨g,off,none⟩ rows.length cap ((List.range (rows.length * sz)).map F) (by simp) (fun j v hv=>?_)
  rw [Addr.add_plain]
  have hj:j < rows.length * sz:=by
   have:=(List.getElem?_eq_some_iff.1 hv).1
   simpa using this
  rw [List.getElem?_map,List.getElem?_range hj] at hv
  obtain rfl:=Option.some.inj hv
  have:=(jY j hj).2
  simpa [World.cell?,hW] using this
theorem gQ {α:Type} {l:List α} {x y:α} {t:Nat} (h:(l++[x])[t]? = some y):l[t]? = some y∨(t=l.length∧y=x):=by
 rcases Nat.lt_or_ge t l.length with h' | h'
 ·left;rwa [List.getElem?_append_left h'] at h
 ·right
  rw [List.getElem?_append_right h'] at h
  have:t - l.length=0:=by
   have:=(List.getElem?_eq_some_iff.1 h).1
   simp at this;omega
  rw [this] at h
  simp at h
  exact ⟨by omega,h.symm⟩
theorem rI {α:Type} {l:List α} {x y:α} {t:Nat} (h:l[t]? = some y):(l++[x])[t]? = some y:=by
 rw [List.getElem?_append_left (List.getElem?_eq_some_iff.1 h).1];exact h
theorem dz.token {c:Cx} {w:World} {S:Mem} (h:dz c w S) {rows:List (List D)} {v:Value} (hv:VR c w (.sl rows .full) v) (sz:Nat) (h0:0 < sz) (dJ:∀ r∈rows,r.length=sz) :
 ∃ c',dz c' w { S with aL:=S.aL++[(rows.length,sz)] }∧Ext c w c' w∧VR c' w (.sl rows (.own S.aL.length)) v:=by
 cases hv with
 | full _ a hd ha =>
  let i:TI:=⟨a.map fun p=>(p.block,p.off),rows.length,rows.length,sz⟩
  let c':Cx:={ c with τ:=c.τ++[i] }
  have hM:∀ g k,c'.M g k↔c.M g k:=by
   intro g k
   constructor
   ·rintro (h' | ⟨t,j,off,ht,e1,e2,e3⟩)
    ·exact .inl h'
    ·rcases gQ ht with ht | ⟨_,rfl⟩
     ·exact .inr ⟨t,j,off,ht,e1,e2,e3⟩
     ·exact absurd e3 (by simp only [i] at e2 ⊢;omega)
   ·rintro (h' | ⟨t,j,off,ht,e⟩)
    ·exact .inl h'
    ·exact .inr ⟨t,j,off,rI ht,e⟩
  have hk:iA c w c' w:=⟨fun g k v hm hv=>⟨fun h'=>hm ((hM g k).1 h'),hv⟩,fun _ _ h=>h,fun t j h=>⟨j,rI h,rfl,Nat.le_refl _,fun _=>rfl⟩,rfl,fun _ _ h=>h⟩
  have qP:rows.length≤9223372036854775807:=(hd.flat sz dJ).2.2.1
  refine ⟨c',⟨h.hB,h.len,fun i b hi=>?_,h.inj,by simp [c',h.aL,i],fun t j ht=>?_,fun t t' j j' g off th ht gR a1 a2 a3 a4=>?_,h.inv⟩,⟨hk,rfl,rfl,rfl,.refl _ _⟩,?_⟩
  ·obtain ⟨a,o1,OU,OV,e1,e2⟩:=h.box i b hi
   exact ⟨a,o1,OU,OV,e1,e2.eC hk⟩
  ·rcases gQ ht with ht | ⟨_,rfl⟩
   ·exact h.tok t j ht
   ·refine ⟨Nat.le_refl _,qP,h0,fun e=>?_,fun au=>absurd au (Nat.lt_irrefl _)⟩
    have e0:a=none:=by simpa [i] using e
    subst e0
    by_cases hr:rows=[]
    ·subst hr;rfl
    ·obtain ⟨_,_,_,F,hs,_⟩:=hd.flat sz dJ
     obtain ⟨_,g,off,e,_⟩:=hs hr
     cases e
  ·rcases gQ ht with ht | ⟨_,rfl⟩
   ·rcases gQ gR with gR | ⟨_,rfl⟩
    ·exact h.rG t t' j j' g off th ht gR a1 a2 a3 a4
    ·exact absurd a4 (Nat.lt_irrefl _)
   ·exact absurd a3 (Nat.lt_irrefl _)
  ·have hlen:S.aL.length=c.τ.length:=by rw [h.aL];simp
   refine .own rows _ a rows.length i (hd.eC hk) (by rw [hlen];exact List.getElem?_concat_length) dJ (Nat.le_refl _) (fun _=>⟨rfl,?_⟩)
   cases a with
   | none=>rfl
   | some p =>
    obtain ⟨b,o,s⟩:=p
    have:s=none:=(ha ⟨b,o,s⟩ rfl).1
    subst this
    rfl
theorem ko {α:Type} {l:List α} {x y z:α} {t t':Nat} (h:l[t]? = some z) (h':(l.set t x)[t']? = some y):(t' = t∧y=x)∨(t' ≠ t∧l[t']? = some y):=by
 by_cases e:t' = t
 ·subst e
  rw [List.getElem?_set_self (List.getElem?_eq_some_iff.1 h).1] at h'
  exact .inl ⟨rfl,(Option.some.inj h').symm⟩
 ·rw [List.getElem?_set_ne (fun h=>e h.symm)] at h'
  exact .inr ⟨e,h'⟩
theorem rJ {α:Type} {l:List α} {x z:α} {t:Nat} (h:l[t]? = some z):(l.set t x)[t]? = some x:=List.getElem?_set_self (List.getElem?_eq_some_iff.1 h).1
theorem vF {α:Type} {l:List α} {x y:α} {t t':Nat} (e:t' ≠ t) (h:l[t']? = some y):(l.set t x)[t']? = some y:=by
 rw [List.getElem?_set_ne (fun h=>e h.symm)];exact h
theorem Cn {α β:Type} (f:α→β) (l:List α) (t:Nat) (x:α):(l.set t x).map f=(l.map f).set t (f x):=by
 rw [List.map_set]
section
variable {P:Program}
structure yw (P:Program) (t e sz bytes:Nat):Prop where
 under:P.underlying t=some (.slice e)
 info:∃ i z,P.info? e=some i∧i.zero=some z∧i.size=sz∧i.bytes=bytes∧z.cells.size=sz
theorem rK {w:World} {t u ty e sz bytes:Nat} (T:yw P t e sz bytes) (hu:∃ d,P.underlying u=some d∧∀ k,d ≠ .int k) (a:Option Addr) (n cap:Nat) (hn:n≤cap) (x:Value)
 (hlen:∀ W,(Builtin.lenOf x).run P W = .ok 0 W) (gu:∀ W:World,W.heap=w.heap→(Builtin.firstCells sz 0 x).run P W = .ok #[] W) :
 (Builtin.append_ #[t,u] ty #[.slice a n cap,x]).run P w = .ok (.slice a n cap) w:=by
 obtain ⟨i,z,hi,hz,rfl,rfl,qQ⟩:=T.info
 obtain ⟨d,UN,Yd⟩:=hu
 have Ye:=gu w rfl
 cases a with
 | none=>simp [Builtin.append_,run_underlying T.under,run_underlying UN,sizeOf,typeInfo,hi,hlen,Ye,hn]
 | some p=>simp [Builtin.append_,run_underlying T.under,run_underlying UN,sizeOf,typeInfo,hi,hlen,Ye,hn,storeCells]
theorem Fb {w w':World} {t u ty e sz bytes:Nat} (T:yw P t e sz bytes) (hu:∃ d,P.underlying u=some d∧∀ k,d ≠ .int k) (g off n cap m:Nat) (oA:n+m≤cap) (x:Value) (news:List Value)
 (hlen:∀ W,(Builtin.lenOf x).run P W = .ok m W) (gu:∀ W:World,W.heap=w.heap→(Builtin.firstCells sz m x).run P W = .ok news.toArray W)
 (jW:(storeCells ⟨g,off+n * sz,none⟩ news).run P w = .ok () w') :
 (Builtin.append_ #[t,u] ty #[.slice (some ⟨g,off,none⟩) n cap,x]).run P w = .ok (.slice (some ⟨g,off,none⟩) (n+m) cap) w':=by
 obtain ⟨i,z,hi,hz,rfl,rfl,qQ⟩:=T.info
 obtain ⟨d,UN,Yd⟩:=hu
 have Ye:=gu w rfl
 simp [Builtin.append_,run_underlying T.under,run_underlying UN,sizeOf,typeInfo,hi,hlen,oA,Ye,Addr.add_plain,jW]
def kN (w:World) (e n m cap:Nat) (xs news:List Value) (z:Value):World :=
 w.drew.alloc (.cells (xs.toArray++news.toArray++Builtin.zeroCells z.cells (grownCap w (n+m) cap e - (n+m))) e)
theorem nj {w:World} {t u ty e sz bytes:Nat} (T:yw P t e sz bytes) (hu:∃ d,P.underlying u=some d∧∀ k,d ≠ .int k) (a:Option Addr) (n cap m:Nat) (oA:¬ n+m≤cap) (x:Value) (xs news:List Value)
 (hlen:∀ W,(Builtin.lenOf x).run P W = .ok m W) (gu:∀ W:World,W.heap=w.heap→(Builtin.firstCells sz m x).run P W = .ok news.toArray W)
 (hold:∀ W:World,W.heap=w.heap→(Builtin.firstCells sz n (.slice a n cap)).run P W = .ok xs.toArray W)
 (h63:n+m≤9223372036854775807) (vG:(n+m) * bytes≤140737488355328) :
 ∃ (i:TypeInfo) (z:Value),P.info? e=some i∧i.zero=some z∧z.cells.size=sz∧(Builtin.append_ #[t,u] ty #[.slice a n cap,x]).run P w = .ok (.slice (some ⟨w.heap.size,0,none⟩) (n+m) (grownCap w (n+m) cap e)) (kN w e n m cap xs news z):=by
 obtain ⟨i,z,hi,hz,rfl,rfl,qQ⟩:=T.info
 obtain ⟨d,UN,Yd⟩:=hu
 refine ⟨i,z,hi,hz,qQ,?_⟩
 have UO:=gu w.drew rfl
 have hfo:=hold w.drew rfl
 have h48:=growslice_fits (need:=n+m) (old:=cap) (bytes:=i.bytes) (by omega) vG
 have Zm:¬ (9223372036854775807 < ((n:Int)+(m:Int))):=by omega
 have Zn:¬ (281474976710656 < Builtin.nextslicecap (n+m) cap * i.bytes):=by omega
 simp [Builtin.append_,run_underlying T.under,run_underlying UN,sizeOf,typeInfo,zeroValue,hi,hz,hlen,oA,Zm,Zn,Question.forced,hfo,UO,newRow,grownCap,kN]
 congr 2
 apply Array.ext'
 simp [List.append_assoc]
end
theorem DR.append {M:Nat→Nat→Prop} {w:World} (rows an:List (List D)) (sz:Nat) (h0:0 < sz) (h1:∀ r∈rows,r.length=sz) (h2:∀ r∈an,r.length=sz) (g off cap:Nat) (hc:rows.length+an.length≤cap) (hm:cap≤9223372036854775807) (F G:Nat→Value)
 (hs:∀ k,k < rows.length * sz→¬ M g (off+k)∧w.cell? ⟨g,off+k,none⟩=some (F k))
 (hn:∀ k,k < an.length * sz→¬ M g (off+rows.length * sz+k)∧w.cell? ⟨g,off+rows.length * sz+k,none⟩=some (G k))
 (hd:∀ j (h:j < rows.length) q (hq:q < (rows[j]).length),DR M w (rows[j])[q] (F (j * sz+q)))
 (he:∀ j (h:j < an.length) q (hq:q < (an[j]).length),DR M w (an[j])[q] (G (j * sz+q))):DR M w (.sl (rows++an)) (.slice (some ⟨g,off,none⟩) (rows.length+an.length) cap):=by
 rw [← List.length_append]
 refine DR.of_flat (rows++an) sz h0 (fun r hr=>?_) _ cap (by simpa using hc) hm (fun k=>if k < rows.length * sz then F k else G (k - rows.length * sz)) (fun _=>⟨g,off,rfl,fun k hk=>?_⟩) (fun j hj q hq=>?_)
 ·rcases List.mem_append.1 hr with h | h
  ·exact h1 r h
  ·exact h2 r h
 ·by_cases au:k < rows.length * sz
  ·simp only [if_pos au];exact hs k au
  ·simp only [if_neg au]
   have:=hn (k - rows.length * sz) (by rw [List.length_append,Nat.add_mul] at hk;omega)
   rw [show off+rows.length * sz+(k - rows.length * sz)=off+k by omega] at this
   exact this
 ·by_cases au:j < rows.length
  ·have hg:(rows++an)[j]=rows[j]:=List.getElem_append_left au
   have Ar:q < sz:=by rw [hg,h1 _ (List.getElem_mem au)] at hq;exact hq
   simp only [if_pos (Fa au Ar)]
   have:=hd j au q (by rw [hg] at hq;exact hq)
   simp only [hg]
   exact this
  ·have aC:j - rows.length < an.length:=by rw [List.length_append] at hj;omega
   have hg:(rows++an)[j]=an[j - rows.length]:=List.getElem_append_right (by omega)
   have Ar:q < sz:=by rw [hg,h2 _ (List.getElem_mem aC)] at hq;exact hq
   have mc:rows.length * sz≤j * sz:=Nat.mul_le_mul_right sz (by omega)
   simp only [if_neg (show ¬ j * sz+q < rows.length * sz by omega)]
   have:=he (j - rows.length) aC q (by rw [hg] at hq;exact hq)
   rw [show (j - rows.length) * sz+q=j * sz+q - rows.length * sz by rw [Nat.sub_mul];omega] at this
   simp only [hg]
   exact this
def Zo (B:Nat) (w':World) (e m:Nat) (v v':Value):Prop:=∀ a n cap,v = .slice a n cap→∃ a' cu,v' = .slice a' (n+m) cu∧((a' = a∧cu=cap)∨∃ g,a' = some ⟨g,0,none⟩∧B≤g∧iH w' g e)
theorem dz.Zp {P:Program} {c:Cx} {w:World} {S:Mem} (h:dz c w S) {rows an:List (List D)} {t sz bytes ts us ty e:Nat} {v x:Value} (hv:VR c w (.sl rows (.own t)) v) (ht:S.aL[t]? = some (rows.length,sz)) (T:yw P ts e sz bytes) (hu:∃ d,P.underlying us=some d∧∀ k,d ≠ .int k)
 (SD:∀ r∈an,r.length=sz) (F:Nat→Value) (hlen:∀ W,(Builtin.lenOf x).run P W = .ok an.length W)
 (gu:∀ W:World,W.heap=w.heap→(Builtin.firstCells sz an.length x).run P W = .ok ((List.range (an.length * sz)).map F).toArray W)
 (hd:∀ j (h:j < an.length) q (hq:q < (an[j]).length),DR c.M w (an[j])[q] (F (j * sz+q)))
 (vG:(rows.length+an.length) * bytes≤140737488355328) (me:1≤bytes) :
 ∃ v' w' c',(Builtin.append_ #[ts,us] ty #[v,x]).run P w = .ok v' w'∧dz c' w' { S with aL:=S.aL.set t (rows.length+an.length,sz) }∧Ext c w c' w'∧VR c' w' (.sl (rows++an) (.own t)) v'∧Zo c.B w' e an.length v v':=by
 cases hv with
 | own _ _ a cap i I0 jZ hr hn hl =>
  have VA:S.aL[t]? = some (i.n,i.sz):=by rw [h.aL,List.getElem?_map,jZ];rfl
  rw [ht] at VA
  obtain ⟨e1,e2⟩:=Prod.mk.inj (Option.some.inj VA)
  obtain ⟨fF,ha⟩:=hl e1
  obtain ⟨t1,t2,t3,t4,t5⟩:=h.tok t i jZ
  subst fF
  have OW:0 < sz:=by omega
  rw [← e2] at hr
  obtain ⟨_,_,abX,F0,Lz,UP⟩:=I0.flat sz hr
  have hmul:rows.length+an.length≤(rows.length+an.length) * bytes:=Nat.le_mul_of_pos_right _ (by omega)
  by_cases hz:an=[]
  ·subst hz
   refine ⟨_,w,c,rK T hu a rows.length i.cap (by omega) x hlen (by simpa using gu),?_,.refl _ _,?_,fun a0 n0 c0 h0=>by
    obtain ⟨rfl,rfl,rfl⟩:=Value.slice.inj h0
    exact ⟨_,_,rfl,.inl ⟨rfl,rfl⟩⟩⟩
   ·have:S.aL.set t (rows.length+([]:List (List D)).length,sz)=S.aL:=by
     apply List.ext_getElem?
     intro k
     by_cases hk:k=t
     ·subst hk;rw [rJ ht,ht];rfl
     ·rw [List.getElem?_set_ne (fun e=>hk e.symm)]
    rw [this];exact h
   ·rw [List.append_nil]
    exact .own rows t a i.cap i I0 jZ (by rw [← e2];exact hr) hn hl
  ·have SE:0 < an.length:=List.length_pos_iff.2 hz
   have adY:0 < an.length * sz:=Nat.mul_pos SE OW
   by_cases oA:rows.length+an.length≤i.cap
   ·have au:i.n < i.cap:=by omega
    cases oB:i.addr with
    | none=>have:=t4 oB;omega
    | some p =>
     obtain ⟨g,off⟩:=p
     rw [oB] at ha
     simp only [Option.map_some] at ha
     subst ha
     obtain ⟨Yf,SF,cur,T0,fz,hh,yt,Zq⟩:=t5 au g off oB
     have SG:(rows.length+an.length) * sz≤i.cap * sz:=Nat.mul_le_mul_right sz oA
     rw [Nat.add_mul] at SG
     rw [← e2] at yt Zq
     have jW:=mb (P:=P) g (off+rows.length * sz) T0 fz ((List.range (an.length * sz)).map F) 0 cur w hh (by simp;omega) (by simp;omega) (by
      intro u hu
      obtain ⟨k,hk,rfl⟩:=List.mem_map.1 hu
      have EZ:k < an.length * sz:=by simpa using hk
      have hj:k / sz < an.length:=Nat.div_lt_of_lt_mul (by rw [Nat.mul_comm];exact EZ)
      have hq:k % sz < (an[k / sz]).length:=by rw [SD _ (List.getElem_mem hj)];exact Nat.mod_lt _ OW
      have:=(hd _ hj _ hq).one
      rw [show k / sz * sz+k % sz=k by rw [Nat.mul_comm];exact Nat.div_add_mod k sz] at this
      exact this)
     have bp:=Fb (ty:=ty) T hu g off rows.length i.cap an.length oA x _ hlen gu jW
     generalize iM:(cur.toList.take (off+rows.length * sz+0)++(List.range (an.length * sz)).map F++cur.toList.drop (off+rows.length * sz+0+((List.range (an.length * sz)).map F).length)).toArray=tn at jW bp
     let i':TI:={ i with n:=rows.length+an.length }
     let c':Cx:={ c with τ:=c.τ.set t i' }
     have qw:tn.size=cur.size:=by rw [← iM];simp;omega
     have eZ:∀ k,k < off+rows.length * sz∨off+(rows.length+an.length) * sz≤k→tn[k]? = cur[k]?:=by
      intro k hk
      rw [← iM]
      rw [Nat.add_mul] at hk
      simp only [List.getElem?_toArray,List.append_assoc,Nat.add_zero,List.length_map,List.length_range]
      rcases hk with hk | hk
      ·rw [List.getElem?_append_left (by simp;omega),List.getElem?_take,if_pos hk,Array.getElem?_toList]
      ·rw [List.getElem?_append_right (by simp;omega),List.getElem?_append_right (by simp;omega),List.getElem?_drop,Array.getElem?_toList]
       congr 1
       simp;omega
     have SH:∀ k,k < an.length * sz→tn[off+rows.length * sz+k]? = some (F k):=by
      intro k hk
      rw [← iM]
      simp only [List.getElem?_toArray,List.append_assoc,Nat.add_zero]
      rw [List.getElem?_append_right (by simp;omega),List.getElem?_append_left (by simp;omega),List.getElem?_map,List.getElem?_range (by simp;omega)]
      simp;congr 1;omega
     have Co:∀ q,(w.setRow g tn).cell? ⟨g,q,none⟩=tn[q]?:=by
      intro q
      simp [World.cell?,setRow_heap w g cur tn T0 fz hh]
     have LA:∀ q,w.cell? ⟨g,q,none⟩=cur[q]?:=by
      intro q
      simp [World.cell?,hh]
     have SI:∀ b k,c'.M b k→c.M b k:=by
      rintro b k (h' | ⟨t',j,o,gR,a1,a2,a3⟩)
      ·exact .inl h'
      ·rcases ko jZ gR with ⟨rfl,rfl⟩ | ⟨_,gR⟩
       ·refine .inr ⟨t',i,o,jZ,a1,?_,a3⟩
        have:i.n * i.sz≤i'.n * i.sz:=Nat.mul_le_mul_right _ (by show i.n≤rows.length+an.length;omega)
        have Yg:o+i'.n * i.sz≤k:=a2
        omega
       ·exact .inr ⟨t',j,o,gR,a1,a2,a3⟩
     have hk:iA c w c' (w.setRow g tn):=by
      refine ⟨fun b k u hm hu=>⟨fun h'=>hm (SI b k h'),?_⟩,fun _ _ h=>h,fun t' j hj=>?_,rfl,fun _ _ h=>h.setRow g tn⟩
      ·by_cases hb:b=g
       ·subst hb
        rw [Co,eZ k ?_,← LA]
        ·exact hu
        ·rcases Nat.lt_or_ge k (off+rows.length * sz) with h1 | h1
         ·exact .inl h1
         ·rcases Nat.lt_or_ge k (off+(rows.length+an.length) * sz) with h2 | h2
          ·refine absurd (Or.inr ⟨t,i,off,jZ,oB,?_,?_⟩) hm
           ·rw [← e1,← e2];exact h1
           ·rw [← e2];rw [Nat.add_mul] at h2;omega
          ·exact .inr h2
       ·rw [Cm _ _ _ hb];exact hu
      ·by_cases cm:t' = t
       ·subst cm
        rw [jZ] at hj
        obtain rfl:=Option.some.inj hj
        exact ⟨i',rJ jZ,rfl,by show i.n≤rows.length+an.length;omega,fun e=>absurd e (by show rows.length+an.length ≠ i.n;omega)⟩
       ·exact ⟨j,vF cm hj,rfl,Nat.le_refl _,fun _=>rfl⟩
     have As:Below c.B w (w.setRow g tn):=rH _ _ _ _ Yf
     refine ⟨_,_,c',bp,⟨⟨h.hB.1,by rw [setRow_size];exact h.hB.2⟩,h.len,fun i2 b hi=>?_,h.inj,?_,fun t' j hj=>?_,fun t' Zr j j' b o o' hj eS a1 a2 a3 a4=>?_,fun w' OS=>h.inv w' (As.trans OS)⟩,⟨hk,rfl,rfl,rfl,As⟩,?_,fun a0 n0 c0 h0=>by
      obtain ⟨rfl,rfl,rfl⟩:=Value.slice.inj h0
      exact ⟨_,_,rfl,.inl ⟨rfl,rfl⟩⟩⟩
     ·obtain ⟨a,o1,OU,OV,f1,f2⟩:=h.box i2 b hi
      refine ⟨a,o1,?_,OV,f1,f2.eC hk⟩
      rw [setRow_other _ _ _ _ (fun (e:b=g)=>SF (jj.2 ⟨_,by rw [← e];exact hi⟩))];exact OU
     ·show S.aL.set t _=(c.τ.set t i').map _
      rw [Cn,h.aL]
      show _=List.set _ t (rows.length+an.length,i.sz)
      rw [e2]
     ·rcases ko jZ hj with ⟨rfl,rfl⟩ | ⟨cm,hj⟩
      ·refine ⟨oA,t2,t3,t4,fun mK g2 o2 OX=>?_⟩
       have:some (g2,o2)=some (g,off):=by rw [← oB];exact OX.symm
       obtain ⟨rfl,rfl⟩:=Prod.mk.inj (Option.some.inj this)
       exact ⟨Yf,SF,tn,T0,fz,setRow_heap w g2 cur tn T0 fz hh,by rw [qw,← e2];exact yt,by rw [← e2];exact Zq⟩
      ·obtain ⟨u1,u2,u3,u4,u5⟩:=h.tok t' j hj
       refine ⟨u1,u2,u3,u4,fun mK g2 o2 OX=>?_⟩
       obtain ⟨x1,x2,SJ,T2,UQ,SK,x3⟩:=u5 mK g2 o2 OX
       refine ⟨x1,x2,SJ,T2,UQ,?_,x3⟩
       rw [setRow_other _ _ _ _ (fun (e:g2=g)=>cm (h.rG t' t j i g o2 off hj jZ (by rw [← e];exact OX) oB mK au))];exact SK
     ·have q1:∀ {t':Nat} {j:TI},(c.τ.set t i')[t']? = some j→j.n < j.cap→∃ j0,c.τ[t']? = some j0∧j0.addr=j.addr∧j0.n < j0.cap:=by
       intro t' j hj mK
       rcases ko jZ hj with ⟨rfl,rfl⟩ | ⟨_,hj⟩
       ·exact ⟨i,jZ,rfl,au⟩
       ·exact ⟨j,hj,rfl,mK⟩
      obtain ⟨j0,r1,r2,r3⟩:=q1 hj a3
      obtain ⟨j1,s1,s2,s3⟩:=q1 eS a4
      exact h.rG t' Zr j0 j1 b o o' r1 s1 (r2.trans a1) (s2.trans a2) r3 s3
     ·have hold:rows ≠ []→∀ k,k < rows.length * sz→¬ c.M g (off+k)∧w.cell? ⟨g,off+k,none⟩=some (F0 k):=by
       intro cm k hk
       obtain ⟨_,g',th,e,jY⟩:=Lz cm
       obtain ⟨rfl,rfl,_⟩:=Addr.mk.inj (Option.some.inj e)
       exact jY k hk
      have Zs:DR c'.M (w.setRow g tn) (.sl (rows++an)) (.slice (some ⟨g,off,none⟩) (rows.length+an.length) i.cap):=by
       refine DR.append rows an sz OW hr SD g off i.cap oA t2 F0 F (fun k RB=>?_) (fun k RB=>⟨?_,?_⟩) (fun j hj q hq=>(UP j hj q hq).eC hk) (fun j hj q hq=>(hd j hj q hq).eC hk)
       ·have cm:rows ≠ []:=by rintro rfl;simp at RB
        obtain ⟨x1,x2⟩:=hold cm k RB
        exact hk.cell _ _ _ x1 x2
       ·rintro ((h' | h') | ⟨t',j,o,gR,a1,a2,a3⟩)
        ·have:=(c.hX _ _ h').2
         omega
        ·exact SF h'
        ·rcases ko jZ gR with ⟨rfl,rfl⟩ | ⟨cm,gR⟩
         ·have:some (g,o)=some (g,off):=by rw [← oB];exact a1.symm
          obtain ⟨_,rfl⟩:=Prod.mk.inj (Option.some.inj this)
          have Yg:o+(rows.length+an.length) * i.sz≤o+rows.length * sz+k:=a2
          rw [← e2,Nat.add_mul] at Yg
          omega
         ·have:j.n < j.cap:=by
           rcases Nat.lt_or_ge j.n j.cap with h' | h'
           ·exact h'
           ·have:=Nat.mul_le_mul_right j.sz h'
            omega
          exact cm (h.rG t' t j i g o off gR jZ a1 oB this au)
       ·rw [Co,SH k RB]
      have:=VR.own (c:=c') (w:=w.setRow g tn) (rows++an) t (some ⟨g,off,none⟩) i.cap i' (by rw [List.length_append];exact Zs) (rJ jZ) (fun r RC=>by
       show r.length=i.sz
       rw [← e2]
       rcases List.mem_append.1 RC with h | h
       ·exact hr r h
       ·exact SD r h) (by rw [List.length_append];exact Nat.le_refl _) (fun _=>⟨rfl,by show _=i.addr.map _;rw [oB];rfl⟩)
      rw [List.length_append] at this
      exact this
   ·obtain ⟨_,z,_,_,qQ,bp⟩:=nj (P:=P) (w:=w) (ty:=ty) T hu a rows.length i.cap an.length oA x ((List.range (rows.length * sz)).map F0) ((List.range (an.length * sz)).map F) hlen gu
     (fun W hW=>kD rfl Lz W hW) (by omega) vG
    have mc:=grownCap_ge w (rows.length+an.length) i.cap e
    have yx:grownCap w (rows.length+an.length) i.cap e≤9223372036854775807:=grownCap_le_maxLen w (rows.length+an.length) i.cap e (by unfold maxLen;omega)
    unfold kN at bp
    generalize grownCap w (rows.length+an.length) i.cap e=cu at bp mc yx
    generalize Fc:((List.range (rows.length * sz)).map F0).toArray++((List.range (an.length * sz)).map F).toArray++Builtin.zeroCells z.cells (cu - (rows.length+an.length))=arr at bp
    have nM:arr.size=cu * sz:=by
     rw [← Fc]
     simp only [Array.size_append,List.size_toArray,List.length_map,List.length_range,size_zeroCells,qQ,← Nat.add_mul]
     congr 1;omega
    have Zt:(rows.length+an.length) * sz≤cu * sz:=Nat.mul_le_mul_right sz mc
    have Lc:∀ k,k < rows.length * sz→arr[k]? = some (F0 k):=by
     intro k hk
     rw [← Fc,Array.getElem?_append_left (by simp;omega),Array.getElem?_append_left (by simpa using hk)]
     simp only [List.getElem?_toArray,List.getElem?_map,List.getElem?_range hk,Option.map_some]
    have zb:∀ k,k < an.length * sz→arr[rows.length * sz+k]? = some (F k):=by
     intro k hk
     rw [← Fc,Array.getElem?_append_left (by simp;omega),Array.getElem?_append_right (by simp)]
     simp only [List.size_toArray,List.length_map,List.length_range,Nat.add_sub_cancel_left,List.getElem?_toArray,List.getElem?_map,List.getElem?_range hk,Option.map_some]
    let i':TI:=⟨some (w.heap.size,0),cu,rows.length+an.length,i.sz⟩
    let c':Cx:={ c with τ:=c.τ.set t i' }
    let w':World:=w.drew.alloc (.cells arr e)
    have LB:w'.heap[w.heap.size]? = some (.cells arr e (0,0)):=heap_alloc_new w.drew _
    have G3:∀ b,b < w.heap.size→w'.heap[b]? = w.heap[b]?:=fun b hb=>Below.heap_alloc w.drew _ b hb
    have As:Below c.B w w':=((Below.refl _ _).drew).alloc h.hB.2 _
    have SI:∀ b k,b < w.heap.size→c'.M b k→c.M b k:=by
     rintro b k hb (h' | ⟨t',j,o,gR,a1,a2,a3⟩)
     ·exact .inl h'
     ·rcases ko jZ gR with ⟨rfl,rfl⟩ | ⟨_,gR⟩
      ·have:some (w.heap.size,0)=some (b,o):=a1
       obtain ⟨rfl,_⟩:=Prod.mk.inj (Option.some.inj this)
       omega
      ·exact .inr ⟨t',j,o,gR,a1,a2,a3⟩
    have hk:iA c w c' w':=by
     refine ⟨fun b k u hm hu=>⟨fun h'=>hm (SI b k (pL hu) h'),?_⟩,fun _ _ h=>h,fun t' j hj=>?_,rfl,fun b _ h=>h.mJ (G3 b h.lt)⟩
     ·have:=World.cell?_of_block (w:=w) (w':=w') (a:=⟨b,k,none⟩) (G3 b (pL hu))
      rw [this];exact hu
     ·by_cases cm:t' = t
      ·subst cm
       rw [jZ] at hj
       obtain rfl:=Option.some.inj hj
       exact ⟨i',rJ jZ,rfl,by show i.n≤rows.length+an.length;omega,fun e=>absurd e (by show rows.length+an.length ≠ i.n;omega)⟩
      ·exact ⟨j,vF cm hj,rfl,Nat.le_refl _,fun _=>rfl⟩
    have OY:∀ (t':Nat) (j:TI) (g o:Nat),c.τ[t']? = some j→j.addr=some (g,o)→j.n < j.cap→g < w.heap.size:=by
     intro t' j g o hj ha au
     obtain ⟨_,_,cur,T0,fz,hh,_⟩:=(h.tok t' j hj).2.2.2.2 au g o ha
     exact (Array.getElem?_eq_some_iff.1 hh).1
    refine ⟨_,w',c',bp,⟨⟨h.hB.1,Nat.le_trans h.hB.2 As.size⟩,h.len,fun i2 b hi=>?_,h.inj,?_,fun t' j hj=>?_,fun t' Zr j j' b o o' hj eS a1 a2 a3 a4=>?_,fun w2 OS=>h.inv w2 (As.trans OS)⟩,⟨hk,rfl,rfl,rfl,As⟩,?_,fun a0 n0 c0 h0=>by
     obtain ⟨rfl,rfl,rfl⟩:=Value.slice.inj h0
     exact ⟨_,_,rfl,.inr ⟨_,rfl,h.hB.2,_,_,LB⟩⟩⟩
    ·obtain ⟨a,o1,OU,OV,f1,f2⟩:=h.box i2 b hi
     exact ⟨a,o1,by rw [G3 b (h.lt hi)];exact OU,OV,f1,f2.eC hk⟩
    ·show S.aL.set t _=(c.τ.set t i').map _
     rw [Cn,h.aL]
     show _=List.set _ t (rows.length+an.length,i.sz)
     rw [e2]
    ·rcases ko jZ hj with ⟨rfl,rfl⟩ | ⟨cm,hj⟩
     ·refine ⟨mc,yx,t3,(fun e=>by cases e),fun mK g2 o2 OX=>?_⟩
      have:some (w.heap.size,0)=some (g2,o2):=OX
      obtain ⟨rfl,rfl⟩:=Prod.mk.inj (Option.some.inj this)
      refine ⟨h.hB.2,fun hm=>?_,arr,e,(0,0),LB,?_,.inr rfl⟩
      ·obtain ⟨q,hq⟩:=jj.1 hm
       have:=h.lt hq;omega
      ·show 0+cu * i.sz≤arr.size
       rw [nM,← e2];omega
     ·obtain ⟨u1,u2,u3,u4,u5⟩:=h.tok t' j hj
      refine ⟨u1,u2,u3,u4,fun mK g2 o2 OX=>?_⟩
      obtain ⟨x1,x2,SJ,T2,UQ,SK,x3⟩:=u5 mK g2 o2 OX
      exact ⟨x1,x2,SJ,T2,UQ,by rw [G3 g2 (OY t' j g2 o2 hj OX mK)];exact SK,x3⟩
    ·rcases ko jZ hj with ⟨rfl,rfl⟩ | ⟨cm,VB⟩<;>rcases ko jZ eS with ⟨rfl,rfl⟩ | ⟨adZ,qR⟩
     ·rfl
     ·have:some (w.heap.size,0)=some (b,o):=a1
      obtain ⟨rfl,_⟩:=Prod.mk.inj (Option.some.inj this)
      have:=OY _ _ _ _ qR a2 a4;omega
     ·have:some (w.heap.size,0)=some (b,o'):=a2
      obtain ⟨rfl,_⟩:=Prod.mk.inj (Option.some.inj this)
      have:=OY _ _ _ _ VB a1 a3;omega
     ·exact h.rG t' Zr j j' b o o' VB qR a1 a2 a3 a4
    ·have Yh:∀ q,w'.cell? ⟨w.heap.size,q,none⟩=arr[q]?:=by
      intro q
      simp [World.cell?,LB]
     have UR:∀ q,q < (rows.length+an.length) * sz→¬ c'.M w.heap.size q:=by
      rintro q hq ((h' | h') | ⟨t',j,o,gR,a1,a2,a3⟩)
      ·have:=(c.hX _ _ h').2
       have:=h.hB.2
       omega
      ·obtain ⟨p,hp⟩:=jj.1 h'
       have:=h.lt hp;omega
      ·rcases ko jZ gR with ⟨rfl,rfl⟩ | ⟨cm,gR⟩
       ·have:some (w.heap.size,0)=some (w.heap.size,o):=a1
        obtain ⟨_,rfl⟩:=Prod.mk.inj (Option.some.inj this)
        have Yg:0+(rows.length+an.length) * i.sz≤q:=a2
        rw [← e2] at Yg
        omega
       ·have:j.n < j.cap:=by
         rcases Nat.lt_or_ge j.n j.cap with h' | h'
         ·exact h'
         ·have:=Nat.mul_le_mul_right j.sz h'
          omega
        have:=OY _ _ _ _ gR a1 this;omega
     have Zs:DR c'.M w' (.sl (rows++an)) (.slice (some ⟨w.heap.size,0,none⟩) (rows.length+an.length) cu):=by
      refine DR.append rows an sz OW hr SD w.heap.size 0 cu mc yx F0 F (fun k RB=>?_) (fun k RB=>?_) (fun j hj q hq=>(UP j hj q hq).eC hk) (fun j hj q hq=>(hd j hj q hq).eC hk)
      ·rw [Nat.zero_add]
       exact ⟨UR k (by rw [Nat.add_mul];omega),by rw [Yh,Lc k RB]⟩
      ·rw [Nat.zero_add]
       exact ⟨UR _ (by rw [Nat.add_mul];omega),by rw [Yh,zb k RB]⟩
     have:=VR.own (c:=c') (w:=w') (rows++an) t (some ⟨w.heap.size,0,none⟩) cu i' (by rw [List.length_append];exact Zs) (rJ jZ) (fun r RC=>by
      show r.length=i.sz
      rw [← e2]
      rcases List.mem_append.1 RC with h | h
      ·exact hr r h
      ·exact SD r h) (by rw [List.length_append];exact Nat.le_refl _) (fun _=>⟨rfl,rfl⟩)
     rw [List.length_append] at this
     exact this
theorem dz.app {P:Program} {c:Cx} {w:World} {S:Mem} (h:dz c w S) {rows an:List (List D)} {t sz bytes ts us ty e:Nat} {v x:Value} (hv:VR c w (.sl rows (.own t)) v) (ht:S.aL[t]? = some (rows.length,sz)) (T:yw P ts e sz bytes) (hu:∃ d,P.underlying us=some d∧∀ k,d ≠ .int k)
 (SD:∀ r∈an,r.length=sz) (F:Nat→Value) (hlen:∀ W,(Builtin.lenOf x).run P W = .ok an.length W)
 (gu:∀ W:World,W.heap=w.heap→(Builtin.firstCells sz an.length x).run P W = .ok ((List.range (an.length * sz)).map F).toArray W)
 (hd:∀ j (h:j < an.length) q (hq:q < (an[j]).length),DR c.M w (an[j])[q] (F (j * sz+q)))
 (vG:(rows.length+an.length) * bytes≤140737488355328) (me:1≤bytes) :
 ∃ v' w' c',(Builtin.append_ #[ts,us] ty #[v,x]).run P w = .ok v' w'∧dz c' w' { S with aL:=S.aL.set t (rows.length+an.length,sz) }∧Ext c w c' w'∧VR c' w' (.sl (rows++an) (.own t)) v':=by
 obtain ⟨v',w',c',h1,h2,h3,h4,_⟩:=h.Zp hv ht T hu SD F hlen gu hd vG me
 exact ⟨v',w',c',h1,h2,h3,h4⟩
inductive TD where
 | int (k:IntKind)
 | bool
 | string
 | slice (e:Nat)
 | struct (fs:List (Nat × Nat))
 | array (n e:Nat)
 | pointer
 | map (k e:Nat)
 | other
structure tq where
 d:TD
 size:Nat
 bytes:Nat
 agg:Bool
 zero:List V
def jk:Value→V
 | .int k n=>.d (.int k n)
 | .bool b=>.d (.bool b)
 | .string s=>if s.data.toList.length≤9223372036854775807 then .d (.str s.data.toList) else .undef
 | .slice none 0 0=>.sl [] .full
 | .pointer none=>.iG
 | .nilFunc=>.kM
 | _=>.undef
def vH:Value→V
 | .agg cs=>if cs.toList.all Value.oneCell' then .agg (cs.toList.map jk) else .undef
 | v=>jk v
def oC (P:Program) (t:TypeId):Nat:=match P.info? t with | some i=>i.size | none=>0
def qm (P:Program):TypeDesc→TD
 | .int k=>.int k
 | .bool=>.bool
 | .string=>.string
 | .slice e=>.slice e
 | .struct fs=>if fs.toList.all (fun f=>(P.info? f.type).isSome) then .struct (fs.toList.map fun f=>(f.offset,oC P f.type)) else .other
 | .array n e=>.array n e
 | .pointer _=>.pointer
 | .map k e=>.map k e
 | _=>.other
def Au:TypeDesc→Bool
 | .struct _ | .array _ _=>true
 | _=>false
def bD (P:Program) (t:TypeId):Option tq :=
 match P.info? t,P.underlying t with
 | some i,some d=>match i.zero with
  | some z=>if z.cells.size=i.size∧z.cells.toList.all Value.oneCell' = true then some ⟨qm P d,i.size,i.bytes,Au d,z.cells.toList.map jk⟩ else none
  | none=>none
 | _,_=>none
theorem Cp (c:Cx) (w:World):VR c w (.sl [] .full) (.slice none 0 0) :=
 .full [] none (.sl [] 1 none 0 (fun _ _=>undef) (by omega) (by simp) (by simp) (by omega) (fun h=>absurd rfl h) (fun j h=>by simp at h)) (fun p h=>by cases h)
theorem pM (c:Cx) (w:World) (v:Value):VR c w (jk v) v:=by
 unfold jk
 split
 ·exact .d _ _ (.int _ _)
 ·exact .d _ _ (.bool _)
 ·rename_i s
  split
  ·rename_i h
   have:=DR.str (M:=c.M) (w:=w) s.data.toList h
   exact .d _ _ this
  ·exact .undef _
 ·exact Cp c w
 ·exact .iG
 ·exact .kM
 ·exact .undef _
theorem vI (c:Cx) (w:World) (v:Value):VR c w (vH v) v:=by
 unfold vH
 split
 ·rename_i cs
  split
  ·rename_i h
   refine .agg _ _ (by simp) (fun j hj=>?_) (fun j hj=>?_)
   ·have eS:j < cs.size:=by simpa using hj
    simp only [List.getElem_map,Array.getElem_toList]
    have:cs.getD j undef=cs[j]:=by simp [Array.getD,eS]
    rw [this]
    exact pM c w _
   ·have eS:j < cs.size:=by simpa using hj
    have:cs.getD j undef=cs[j]:=by simp [Array.getD,eS]
    rw [this]
    rw [List.all_eq_true] at h
    exact h _ (by simp)
  ·exact .undef _
 ·exact pM c w v
def cw (c:Cx) (w:World) (env:List V) (tmps:Array Value):Prop:=tmps.size=env.length∧∀ t (h:t < env.length),VR c w env[t] (tmps.getD t undef)
theorem cw.ext {c c':Cx} {w w':World} (hk:Ext c w c' w') {env:List V} {tmps:Array Value} (h:cw c w env tmps):cw c' w' env tmps:=⟨h.1,fun t ht=>(h.2 t ht).ext hk⟩
theorem cw.get {c:Cx} {w:World} {env:List V} {tmps:Array Value} (h:cw c w env tmps) (t:Nat):VR c w (env.getD t .undef) (tmps.getD t undef):=by
 by_cases ht:t < env.length
 ·have:env.getD t .undef=env[t]:=by simp [List.getD,ht]
  rw [this];exact h.2 t ht
 ·have:env.getD t .undef = .undef:=by simp [List.getD,ht]
  rw [this];exact .undef _
def G4:Option (List D)→V
 | some row=>.gp row 0
 | none=>.undef
def ai (I:Inv) (env:List V):Operand→V
 | .tmp t=>env.getD t .undef
 | .const v=>vH v
 | .global g=>G4 (I.E8 g)
 | .func f=>.func f [] []
theorem cw.eval {c:Cx} {w:World} {S:Mem} {env:List V} {a:Act} (hr:dz c w S) (h:cw c w env a.tmps) (x:Operand):VR c w (ai c.I env x) (a.eval x):=by
 cases x with
 | tmp t=>exact h.get t
 | const v=>exact vI c w v
 | global g =>
  show VR c w (G4 (c.I.E8 g)) (.pointer (some ⟨g,0,none⟩))
  cases hg:c.I.E8 g with
  | none=>exact .undef _
  | some row=>exact hr.E8 hg
 | func f=>exact .func f [] [] #[] #[] rfl rfl (fun j h=>by simp at h) (fun j h=>by simp at h)
theorem cw.put {c:Cx} {w:World} {env:List V} {a:Act} (h:cw c w env a.tmps) (d:Option Tmp) {v:V} {x:Value} (hv:VR c w v x):cw c w (match d with | some t=>env.set t v | none=>env) (a.put d x).tmps:=by
 cases d with
 | none=>exact h
 | some t =>
  refine ⟨by simp [Act.put,h.1],fun q hq=>?_⟩
  have Ar:q < env.length:=by simpa using hq
  have hs:q < a.tmps.size:=by rw [h.1];exact Ar
  have:=h.2 q Ar
  by_cases e:t=q
  ·subst e
   have e2:((a.put (some t) x).tmps.getD t undef)=x:=by simp [Act.put,Array.getD,hs]
   rw [e2]
   simpa using hv
  ·have e2:((a.put (some t) x).tmps.getD q undef)=a.tmps.getD q undef:=by simp [Act.put,Array.getD,hs,e]
   rw [e2]
   simpa [e] using this
def fG:V→Option (List V)
 | .agg vs=>some vs
 | .bY _=>none
 | .undef=>none
 | v=>some [v]
theorem vJ {c:Cx} {w:World} {v:V} {x:Value} (h:VR c w v x) {vs:List V} (hv:fG v=some vs):x.cells.size=vs.length∧∀ j (h:j < vs.length),VR c w vs[j] (x.cells.getD j undef)∧(x.cells.getD j undef).oneCell' = true:=by
 have one:∀ (v:V) (x:Value),VR c w v x→x.cells = #[x]→x.oneCell' = true→([v]:List V)=vs→x.cells.size=vs.length∧∀ j (h:j < vs.length),VR c w vs[j] (x.cells.getD j undef)∧(x.cells.getD j undef).oneCell' = true:=by
  rintro v x h hc h1 rfl
  rw [hc]
  refine ⟨rfl,fun j hj=>?_⟩
  have:j=0:=by simp at hj;exact hj
  subst this
  exact ⟨h,h1⟩
 have h':=h
 cases h with
 | undef v=>cases hv
 | d x v h=>exact one _ _ h' h.cells h.one (Option.some.inj hv)
 | full rows a h ha=>exact one _ _ h' rfl rfl (Option.some.inj hv)
 | own rows t a cap i h ht hr hn hl=>exact one _ _ h' rfl rfl (Option.some.inj hv)
 | ptr i k b h hT=>exact one _ _ h' rfl rfl (Option.some.inj hv)
 | gp row k g o f h=>exact one _ _ h' rfl rfl (Option.some.inj hv)
 | bx i n cap b h hn hm hT=>exact one _ _ h' rfl rfl (Option.some.inj hv)
 | mp i b h=>exact one _ _ h' rfl rfl (Option.some.inj hv)
 | buf rows t T v h hT =>
  have h1:x.cells = #[x]∧x.oneCell' = true:=by cases h with | own=>exact ⟨rfl,rfl⟩
  exact one _ _ h' h1.1 h1.2 (Option.some.inj hv)
 | self i T b v h hT hq=>exact one _ _ h' (by rcases hq with rfl | rfl<;>rfl) (by rcases hq with rfl | rfl<;>rfl) (Option.some.inj hv)
 | iG=>exact one _ _ h' rfl rfl (Option.some.inj hv)
 | func f first caps cf cc h1 h2 h3 h4=>exact one _ _ h' rfl rfl (Option.some.inj hv)
 | kM=>exact one _ _ h' rfl rfl (Option.some.inj hv)
 | agg us cs h1 h2 h3 =>
  obtain rfl:=Option.some.inj hv
  exact ⟨h1,fun j hj=>⟨h2 j hj,h3 j hj⟩⟩
 | bY us cs h1 h2=>cases hv
def mL:V→Option D
 | .d x=>some x
 | .sl rows _=>some (.sl rows)
 | .buf rows _ _=>some (.sl rows)
 | _=>none
theorem fU {c:Cx} {w:World} {v:V} {x:Value} (h:VR c w v x) {d:D} (hd:mL v=some d):DR c.M w d x:=by
 cases h with
 | d x v h=>obtain rfl:=Option.some.inj hd;exact h
 | full rows a h ha=>obtain rfl:=Option.some.inj hd;exact h
 | own rows t a cap i h ht hr hn hl=>obtain rfl:=Option.some.inj hd;exact h
 | buf rows t T v h hT =>
  obtain rfl:=Option.some.inj hd
  cases h with
  | own _ _ a cap i h ht hr hn hl=>exact h
 | _=>cases hd
section
variable {P:Program}
theorem aI {t:TypeId} {i:tq} (h:bD P t=some i):∃ (f:TypeInfo) (d:TypeDesc) (z:Value),P.info? t=some f∧P.underlying t=some d∧f.zero=some z∧f.size=i.size∧f.bytes=i.bytes∧qm P d=i.d∧Au d=i.agg∧z.cells.size=i.size∧i.zero=z.cells.toList.map jk∧(∀ u∈z.cells.toList,u.oneCell' = true):=by
 unfold bD at h
 cases hf:P.info? t with
 | none=>simp [hf] at h
 | some f =>
  cases hd:P.underlying t with
  | none=>simp [hf,hd] at h
  | some d =>
   cases hz:f.zero with
   | none=>simp [hf,hd,hz] at h
   | some z =>
    simp only [hf,hd,hz] at h
    split at h
    ·rename_i hc
     obtain rfl:=Option.some.inj h
     exact ⟨f,d,z,rfl,rfl,hz,rfl,rfl,rfl,rfl,hc.1,rfl,fun u hu=>List.all_eq_true.1 hc.2 u hu⟩
    ·cases h
theorem pN {t:TypeId} {d:TypeDesc} (h:P.underlying t=some d) (w:World):(isAgg t).run P w = .ok (Au d) w:=by
 unfold isAgg
 rw [Sem.run_bind,run_underlying h w]
 cases d<;>rfl
theorem run_sizeOf {t:TypeId} {i:TypeInfo} (h:P.info? t=some i) (w:World):(sizeOf t).run P w = .ok i.size w:=by simp [sizeOf,typeInfo,h]
theorem lN {t:TypeId} {i:tq} (ht:bD P t=some i) (w:World) (g o:Nat) (cs:Nat→Value) (hc:∀ j,j < (if i.agg then i.size else 1)→w.cell? ⟨g,o+j,none⟩=some (cs j)) :
 (Instr.loadAt t (.pointer (some ⟨g,o,none⟩))).run P w = .ok (if i.agg then .agg ((List.range i.size).map cs).toArray else cs 0) w:=by
 obtain ⟨f,d,z,h1,h2,h3,h4,h5,h6,h7,h8,h9,_⟩:=aI ht
 rw [← h7] at hc ⊢
 simp only [Instr.loadAt,Instr.sureAddr,loadVar,Sem.run_bind,Sem.run_pure,Result.andThen_ok,pN h2]
 cases hd:Au d with
 | true =>
  simp only [hd,if_true] at hc ⊢
  rw [← h4] at hc ⊢
  have:=run_loadCells (P:=P) w ⟨g,o,none⟩ f.size cs (fun j hj=>by rw [Addr.add_plain];exact hc j hj)
  simp only [Sem.run_bind,run_sizeOf h1,Result.andThen_ok,this,Sem.run_pure]
 | false =>
  simp only [hd,Bool.false_eq_true,if_false] at hc ⊢
  have:=hc 0 (by omega)
  rw [Nat.add_zero] at this
  simp [run_load,this]
end
def Yi (P:Program):List (Nat × Option tq)→Prop
 | []=>True
 | x :: l=>bD P x.1=x.2∧Yi P l
theorem G5 (P:Program):∀ l:List Nat,Yi P (l.map fun k=>(k,bD P k))
 | []=>trivial
 | _ :: l=>⟨rfl,G5 P l⟩
theorem SL (P:Program) (l:List Nat) {t:List (Nat × Option tq)} (h:(l.map fun k=>(k,bD P k))=t):Yi P t:=h ▸ G5 P l
def VC (P:Program) (c:Cx) (w:World) (s:Sem Next) (r:Option (V × Mem)):Prop :=
 ∀ v S',r=some (v,S')→∃ x w' c',(s.run P w = .ok (.value x) w'∨(s.run P w = .ok .skip w'∧v = .undef))∧dz c' w' S'∧Ext c w c' w'∧VR c' w' v x
theorem VC.pure {P:Program} {c:Cx} {w:World} {S:Mem} (h:dz c w S) {s:Sem Value} {r:Option V} (hs:∀ v,r=some v→∃ x,s.run P w = .ok x w∧VR c w v x) :
 VC P c w (do Pure.pure (.value (← s))) (r.map fun v=>(v,S)):=by
 intro v S' hr
 cases r with
 | none=>cases hr
 | some v0 =>
  obtain ⟨rfl,rfl⟩:=Prod.mk.inj (Option.some.inj hr)
  obtain ⟨x,hx,hv⟩:=hs v0 rfl
  exact ⟨x,w,c,.inl (by simp [hx]),h,.refl _ _,hv⟩
def oD (i:tq) (vs:List V) (k:Nat):Option V:=if i.agg then (if k+i.size≤vs.length then some (.agg ((vs.drop k).take i.size)) else none) else vs[k]?
def LC (i:tq) (row:List D) (k:Nat):Option V:=if i.agg then (if k+i.size≤row.length then some (.agg (((row.drop k).take i.size).map .d)) else none) else (row[k]?).map .d
def ff (P:Program) (S:Mem) (t:TypeId):V→Option V
 | .ptr i k=>match bD P t,S.boxes[i]? with
  | some ti,some vs=>oD ti vs k
  | _,_=>none
 | .gp row k=>match bD P t with
  | some ti=>LC ti row k
  | none=>none
 | _=>none
theorem bN {cs:Array Value} {j:Nat} (h:j < cs.size):cs.getD j undef=cs[j]:=by simp [Array.getD,h]
theorem fT {l:List Value} {j:Nat} (h:j < l.length):l.toArray.getD j undef=l[j]:=by simp [Array.getD,h]
theorem dz.rL {c:Cx} {w:World} {S:Mem} (h:dz c w S) {i b:Nat} (hi:c.ρ[i]? = some b) (hT:∃ T,iH w b T) {vs:List V} (hv:S.boxes[i]? = some vs):∃ (cs:Array Value) (T:TypeId),w.heap[b]? = some (.cells cs T (0,0))∧cs.size=vs.length ∧
 ∀ j (h:j < vs.length),w.cell? ⟨b,j,none⟩=some (cs.getD j undef)∧VR c w vs[j] (cs.getD j undef)∧(cs.getD j undef).oneCell' = true:=by
 obtain ⟨_,o,ho,oE,e1,e2⟩:=h.box i b hi
 rw [hv] at e1
 obtain rfl:=Option.some.inj e1
 obtain ⟨cs,T,hh,e2,e3⟩:=e2.GZ ho hT
 refine ⟨cs,T,hh,e2,fun j hj=>⟨?_,e3 j hj⟩⟩
 have:j < cs.size:=by omega
 simp [World.cell?,hh,Array.getD,this]
theorem dz.Aw {c:Cx} {w:World} {S:Mem} (h:dz c w S) {i b:Nat} (hi:c.ρ[i]? = some b) {vs:List V} (hv:S.boxes[i]? = some vs) (hn:OQ vs):∃ T,iH w b T:=by
 obtain ⟨_,o,ho,oE,e1,e2⟩:=h.box i b hi
 rw [hv] at e1
 obtain rfl:=Option.some.inj e1
 obtain ⟨cs,T,rfl,_⟩:=e2.Vx hn
 exact ⟨T,cs,_,ho⟩
section
variable {P:Program} {c:Cx} {w:World} {S:Mem}
theorem G6 (h:dz c w S) (t:TypeId) {a:V} {x:Value} (ha:VR c w a x) {v:V} (hv:ff P S t a=some v):∃ y,(Instr.loadAt t x).run P w = .ok y w∧VR c w v y:=by
 unfold ff at hv
 cases ha with
 | ptr i k b hi hT =>
  cases ht:bD P t with
  | none=>simp [ht] at hv
  | some ti =>
   cases hb:S.boxes[i]? with
   | none=>simp [ht,hb] at hv
   | some vs =>
    simp only [ht,hb,oD] at hv
    obtain ⟨cs,T,hh,dJ,hc⟩:=h.rL hi hT hb
    cases od:ti.agg with
    | true =>
     simp only [od,if_true] at hv
     split at hv
     ·rename_i hle
      obtain rfl:=Option.some.inj hv
      refine ⟨_,lN ht w b k (fun j=>cs.getD (k+j) undef) (fun j hj=>(hc (k+j) (by rw [od] at hj;simp at hj;omega)).1),?_⟩
      simp only [od,if_true]
      refine .agg _ _ (by simp;omega) (fun j hj=>?_) (fun j hj=>?_)
      ·have eS:j < ti.size:=by simp at hj;omega
       simp only [List.getElem_take,List.getElem_drop]
       rw [fT (by simpa using eS)]
       simp only [List.getElem_map,List.getElem_range]
       exact (hc (k+j) (by omega)).2.1
      ·have eS:j < ti.size:=by simp at hj;omega
       rw [fT (by simpa using eS)]
       simp only [List.getElem_map,List.getElem_range]
       exact (hc (k+j) (by omega)).2.2
     ·cases hv
    | false =>
     simp only [od,Bool.false_eq_true,if_false] at hv
     obtain ⟨hk,rfl⟩:=List.getElem?_eq_some_iff.1 hv
     refine ⟨_,lN ht w b k (fun j=>cs.getD (k+j) undef) (fun j hj=>?_),?_⟩
     ·have:j=0:=by rw [od] at hj;simpa using hj
      subst this
      exact (hc (k+0) hk).1
     ·simp only [od,Bool.false_eq_true,if_false]
      exact (hc (k+0) hk).2.1
 | gp row k g o f hc =>
  cases ht:bD P t with
  | none=>simp [ht] at hv
  | some ti =>
   simp only [ht,LC] at hv
   cases od:ti.agg with
   | true =>
    simp only [od,if_true] at hv
    split at hv
    ·rename_i hle
     obtain rfl:=Option.some.inj hv
     refine ⟨_,lN ht w g (o+k) (fun j=>f (k+j)) (fun j hj=>?_),?_⟩
     ·rw [Nat.add_assoc];exact (hc (k+j) (by rw [od] at hj;simp at hj;omega)).2.1
     ·simp only [od,if_true]
      refine .agg _ _ (by simp;omega) (fun j hj=>?_) (fun j hj=>?_)
      ·have eS:j < ti.size:=by simp at hj;omega
       simp only [List.getElem_map,List.getElem_take,List.getElem_drop]
       rw [fT (by simpa using eS)]
       simp only [List.getElem_map,List.getElem_range]
       exact .d _ _ (hc (k+j) (by omega)).2.2
      ·have eS:j < ti.size:=by simp at hj;omega
       rw [fT (by simpa using eS)]
       simp only [List.getElem_map,List.getElem_range]
       exact (hc (k+j) (by omega)).2.2.one
    ·cases hv
   | false =>
    simp only [od,Bool.false_eq_true,if_false] at hv
    obtain ⟨d,hd,rfl⟩:=Option.map_eq_some_iff.1 hv
    obtain ⟨hk,rfl⟩:=List.getElem?_eq_some_iff.1 hd
    refine ⟨_,lN ht w g (o+k) (fun j=>f (k+j)) (fun j hj=>?_),?_⟩
    ·have:j=0:=by rw [od] at hj;simpa using hj
     subst this
     rw [Nat.add_assoc];exact (hc (k+0) hk).2.1
    ·simp only [od,Bool.false_eq_true,if_false]
     exact .d _ _ (hc (k+0) hk).2.2
 | _=>cases hv
theorem LD (h:dz c w S) (t:TypeId) {i:tq} (ht:bD P t=some i):∃ x w' c',(Instr.alloc t true (.tuple #[])).run P w = .ok x w'∧dz c' w' { S with boxes:=S.boxes++[i.zero] }∧Ext c w c' w'∧VR c' w' (.ptr S.boxes.length 0) x:=by
 obtain ⟨f,d,z,h1,h2,h3,h4,h5,h6,h7,h8,h9,B8⟩:=aI ht
 have hn:=h.vi z.cells t i.zero (by rw [h9];simp) (fun j hj=>by
  have eS:j < z.cells.size:=by rw [h9] at hj;simpa using hj
  rw [bN eS]
  refine ⟨?_,B8 _ (by simp)⟩
  simp only [h9,List.getElem_map,Array.getElem_toList]
  exact pM c w _)
 refine ⟨_,_,_,?_,hn.1,hn.2,.ptr _ 0 w.heap.size ?_ ⟨_,iH.new _ _⟩⟩
 ·simp [Instr.alloc,zeroValue,typeInfo,h1,h3,newVar,newRow]
 ·show (c.ρ++[w.heap.size])[S.boxes.length]? = _
  rw [h.len];simp
theorem SM (h:dz c w S) (t:TypeId) {v:V} {x:Value} (hv:VR c w v x) {vs:List V} (hc:fG v=some vs):∃ y w' c',(Instr.box t x).run P w = .ok y w'∧dz c' w' { S with boxes:=S.boxes++[vs] }∧Ext c w c' w'∧VR c' w' (.ptr S.boxes.length 0) y:=by
 obtain ⟨h1,h2⟩:=vJ hv hc
 have hn:=h.vi x.cells t vs h1 h2
 refine ⟨_,_,_,?_,hn.1,hn.2,.ptr _ 0 w.heap.size ?_ ⟨_,iH.new _ _⟩⟩
 ·simp [Instr.box,newVar,newRow]
 ·show (c.ρ++[w.heap.size])[S.boxes.length]? = _
  rw [h.len];simp
theorem LF (h:dz c w S) (t:TypeId) {ti:tq} (ht:bD P t=some ti) {i k:Nat} {p x:Value} (hp:VR c w (.ptr i k) p) {v:V} (hv:VR c w v x) {us vs:List V} (hu:S.boxes[i]? = some us) (hc:fG v=some vs) (hs:vs.length=ti.size) (yt:k+ti.size≤us.length) :
 ∃ w' ,(Instr.storeAt t p x).run P w = .ok () w'∧dz c w' { S with boxes:=S.boxes.set i (us.take k++vs++us.drop (k+vs.length)) }∧Ext c w c w':=by
 obtain ⟨h1,h2⟩:=vJ hv hc
 obtain ⟨f,d,z,g1,g2,g3,g4,g5,g6,g7,g8,g9,US⟩:=aI ht
 cases hp with
 | ptr _ _ b hi hT =>
  obtain ⟨cs,T,hh,dJ,qw⟩:=h.rL hi hT hu
  have jW:=mb (P:=P) b k T (0,0) x.cells.toList 0 cs w hh (by simp;omega) (by simp) (fun u hu=>by
   obtain ⟨j,hj,rfl⟩:=List.mem_iff_getElem.1 hu
   have eS:j < x.cells.size:=by simpa using hj
   have:=(h2 j (by omega)).2
   rw [bN eS] at this
   simpa using this)
  have nM:x.cells.size=f.size:=by omega
  refine ⟨_,?_,h.SC hi hT (cs.toList.take (k+0)++x.cells.toList++cs.toList.drop (k+0+x.cells.toList.length)).toArray _ ?_ (fun j hj=>?_)⟩
  ·simp only [Instr.storeAt,Instr.sureAddr,Sem.run_bind,Sem.run_pure,Result.andThen_ok,storeVar,run_sizeOf g1,Sem.run_ite]
   rw [if_neg (by simp [nM])]
   exact jW
  ·simp only [Nat.add_zero,List.size_toArray,List.length_append,List.length_take,List.length_drop,Array.length_toList,dJ,h1]
  ·simp only [Nat.add_zero]
   rw [fT (by simp at hj ⊢;omega)]
   rcases Nat.lt_or_ge j k with au | mc
   ·have e1:(us.take k++vs++us.drop (k+vs.length))[j]=us[j]'(by omega):=by
     rw [List.getElem_append_left (by simp;omega),List.getElem_append_left (by simp;omega)];simp
    have e2:(cs.toList.take k++x.cells.toList++cs.toList.drop (k+x.cells.toList.length))[j]'(by simp at hj ⊢;omega)=cs[j]'(by omega):=by
     rw [List.getElem_append_left (by simp;omega),List.getElem_append_left (by simp;omega)];simp
    rw [e1,e2,← bN]
    exact (qw j (by omega)).2
   ·rcases Nat.lt_or_ge j (k+vs.length) with mK | Zu
    ·have e1:(us.take k++vs++us.drop (k+vs.length))[j]=vs[j - k]'(by omega):=by
      rw [List.getElem_append_left (by simp;omega),List.getElem_append_right (by simp;omega)]
      congr 1;simp;omega
     have e2:(cs.toList.take k++x.cells.toList++cs.toList.drop (k+x.cells.toList.length))[j]'(by simp at hj ⊢;omega)=x.cells[j - k]'(by omega):=by
      rw [List.getElem_append_left (by simp;omega),List.getElem_append_right (by simp;omega)]
      simp only [Array.getElem_toList]
      congr 1;simp;omega
     rw [e1,e2,← bN]
     exact h2 (j - k) (by omega)
    ·have eS:j < us.length:=by simp at hj;omega
     have e1:(us.take k++vs++us.drop (k+vs.length))[j]=us[j]'eS:=by
      rw [List.getElem_append_right (by simp;omega)]
      simp only [List.getElem_drop]
      congr 1;simp;omega
     have e2:(cs.toList.take k++x.cells.toList++cs.toList.drop (k+x.cells.toList.length))[j]'(by simp at hj ⊢;omega)=cs[j]'(by omega):=by
      rw [List.getElem_append_right (by simp;omega)]
      simp only [List.getElem_drop,Array.getElem_toList]
      congr 1;simp;omega
     rw [e1,e2,← bN]
     exact (qw j (by omega)).2
end
def Cq (off:Nat):V→Option V
 | .ptr i k=>some (.ptr i (k+off))
 | .gp row k=>some (.gp row (k+off))
 | _=>none
def vj (P:Program) (s:TypeId) (f:Nat) (a:V):Option V :=
 match bD P s with
 | some i=>match i.d with
  | .struct fs=>match fs[f]? with
   | some (off,sz)=>if sz=0 then none else Cq off a
   | none=>none
  | _=>none
 | none=>none
def Ax (P:Program) (ti:tq) (x:V) (n:Int):Option V :=
 match x with
 | .bx b len _=>match ti.d with
  | .slice e=>match bD P e with
   | some te=>if 0≤n∧n < (len:Int) then some (.ptr b (n.toNat * te.size)) else none
   | none=>none
  | _=>none
 | _=>none
def iB (P:Program) (t:TypeId) (x i:V):Option V :=
 match bD P t,mL x,i with
 | some ti,some (.sl rows),.d (.int _ n)=>match ti.d with
  | .slice e=>match bD P e,rows[n.toNat]? with
   | some te,some r=>if 0≤n∧r.length=te.size then some (.gp r 0) else none
   | _,_=>none
  | _=>none
 | some ti,none,.d (.int _ n)=>Ax P ti x n
 | _,_,_=>none
def tu (ti:tq) (x:V):Option V :=
 match x with
 | .bx _ len _=>match ti.d with
  | .slice _=>some (.d (.int .i64 (len:Int)))
  | _=>none
 | _=>none
def fP (P:Program) (t:TypeId) (x:V):Option V :=
 match bD P t,mL x with
 | some ti,none=>tu ti x
 | some ti,some (.sl rows)=>match ti.d with
  | .slice _=>some (.d (.int .i64 (rows.length:Int)))
  | _=>none
 | some ti,some (.str s)=>match ti.d with
  | .string=>some (.d (.int .i64 (s.length:Int)))
  | _=>none
 | _,_=>none
def qx (place:Nat→Option (Nat × Nat)) (cells:List V):List (Nat × V)→Option (List V)
 | []=>some cells
 | (i,v) :: rest=>match place i,fG v with
  | some (off,size),some vs=>if vs.length=size∧off+size≤cells.length then qx place (cells.take off++vs++cells.drop (off+size)) rest else none
  | _,_=>none
def pO (P:Program) (t:TypeId) (parts:List (Nat × V)):Option V :=
 match bD P t with
 | some i=>match i.d with
  | .struct fs=>(qx (fun k=>fs[k]?) i.zero parts).map .agg
  | _=>none
 | none=>none
def rep:Nat→List V→List V
 | 0,_=>[]
 | n+1,z=>z++rep n z
def chunk:Nat→Nat→List V→Option (List (List D))
 | 0,_,_=>some []
 | n+1,s,l=>match (l.take s).mapM mL,chunk n s (l.drop s) with
  | some r,some rs=>some (r :: rs)
  | _,_=>none
def fH (P:Program) (t:TypeId) (len:Nat) (parts:List (Nat × V)):Option V :=
 match bD P t with
 | some i=>match i.d with
  | .slice e=>match bD P e with
   | some te=>if 0 < te.size∧len * te.size≤16777216 then
    match qx (fun k=>some (k * te.size,te.size)) (rep len te.zero) parts with
    | some flat=>(chunk len te.size flat).map fun rows=>.sl rows .full
    | none=>none
    else none
   | none=>none
  | _=>none
 | none=>none
section
variable {P:Program} {c:Cx} {w:World} {S:Mem}
theorem ue {d:TypeDesc} {fs:List (Nat × Nat)} (h:qm P d = .struct fs):∃ Fs:Array Field,d = .struct Fs∧(∀ f∈Fs.toList,∃ i,P.info? f.type=some i)∧fs=Fs.toList.map fun f=>(f.offset,oC P f.type):=by
 cases d<;>simp only [qm] at h<;>try cases h
 rename_i Fs
 split at h
 ·rename_i jb
  refine ⟨Fs,rfl,fun f hf=>?_,(TD.struct.inj h).symm⟩
  rw [List.all_eq_true] at jb
  exact Option.isSome_iff_exists.1 (jb f hf)
 ·cases h
theorem bW {d:TypeDesc} {e:Nat} (h:qm P d = .slice e):d = .slice e:=by
 cases d<;>simp only [qm] at h<;>try cases h
 ·rfl
 ·split at h<;>cases h
theorem Fe {d:TypeDesc} {n e:Nat} (h:qm P d = .array n e):d = .array n e:=by
 cases d<;>simp only [qm] at h<;>try cases h
 all_goals first
  | rfl
  | (split at h<;>cases h)
theorem Ay {d:TypeDesc} (h:qm P d = .pointer):∃ e,d = .pointer e:=by
 cases d<;>simp only [qm] at h<;>try cases h
 all_goals first
  | exact ⟨_,rfl⟩
  | (split at h<;>cases h)
theorem iC {d:TypeDesc} (h:qm P d = .string):d = .string:=by
 cases d<;>simp only [qm] at h<;>try cases h
 ·rfl
 ·split at h<;>cases h
theorem rM {d:TypeDesc} {k:IntKind} (h:qm P d = .int k):d = .int k:=by
 cases d<;>simp only [qm] at h<;>try cases h
 ·rfl
 ·split at h<;>cases h
theorem I1 {d:TypeDesc} (h:qm P d = .bool):d = .bool:=by
 cases d<;>simp only [qm] at h<;>try cases h
 ·rfl
 ·split at h<;>cases h
theorem OZ {off:Nat} {a v:V} {x:Value} (ha:VR c w a x) (hv:Cq off a=some v):∃ g o,x = .pointer (some ⟨g,o,none⟩)∧VR c w v (.pointer (some ⟨g,o+off,none⟩)):=by
 cases ha with
 | ptr i k b hi hT =>
  obtain rfl:=Option.some.inj hv
  exact ⟨b,k,rfl,.ptr i _ b hi hT⟩
 | gp row k g o f hc =>
  obtain rfl:=Option.some.inj hv
  refine ⟨g,o+k,rfl,?_⟩
  rw [Nat.add_assoc]
  exact .gp row _ g o f hc
 | _=>cases hv
theorem LG {s:TypeId} {f:Nat} {a v:V} {x:Value} (ha:VR c w a x) (hv:vj P s f a=some v):∃ y,(Instr.fieldAt s x f).run P w = .ok y w∧VR c w v y:=by
 unfold vj at hv
 split at hv
 case h_2=>cases hv
 rename_i i hi
 obtain ⟨fi,d,z,h1,h2,h3,h4,h5,h6,h7,h8,h9,B8⟩:=aI hi
 split at hv
 case h_2=>cases hv
 rename_i fs Ff
 rw [Ff] at h6
 obtain ⟨Fs,rfl,jb,rfl⟩:=ue h6
 split at hv
 case h_2=>cases hv
 rename_i off sz hf
 rw [List.getElem?_map] at hf
 obtain ⟨F,hF,he⟩:=Option.map_eq_some_iff.1 hf
 obtain ⟨fi2,VD⟩:=jb F (List.mem_of_getElem? hF)
 obtain ⟨rfl,rfl⟩:=Prod.mk.inj he
 have hsa:oC P F.type=fi2.size:=by simp [oC,VD]
 by_cases dJ:fi2.size=0
 ·rw [if_pos (by rw [hsa];exact dJ)] at hv;cases hv
 rw [if_neg (by rw [hsa];exact dJ)] at hv
 obtain ⟨g,o,rfl,hr⟩:=OZ ha hv
 refine ⟨_,?_,hr⟩
 have hF':Fs[f]? = some F:=by simpa using hF
 simp [Instr.fieldAt,run_underlying h2,hF',Instr.sureAddr,fieldPlace,run_sizeOf VD,dJ,Addr.add_plain]
theorem Az {t:TypeId} {x i v:V} {X I:Value} (hx:VR c w x X) (hi:VR c w i I) (hv:iB P t x i=some v):∃ y,(Instr.indexAt t X I).run P w = .ok y w∧VR c w v y:=by
 unfold iB at hv
 split at hv
 case h_3=>cases hv
 case h_2 =>
  rename_i ti k n ht hd
  unfold Ax at hv
  split at hv
  case h_2=>cases hv
  rename_i bb len cap
  split at hv
  case h_2=>cases hv
  rename_i e he
  split at hv
  case h_2=>cases hv
  rename_i te nN
  split at hv
  case isFalse=>cases hv
  rename_i VE
  obtain ⟨LH,gS⟩:=VE
  obtain rfl:=Option.some.inj hv
  obtain ⟨fi,d,z,h1,h2,h3,h4,h5,h6,h7,h8,h9,B8⟩:=aI ht
  obtain ⟨gi,d2,z2,g1,g2,g3,g4,_⟩:=aI nN
  rw [he] at h6
  obtain rfl:=bW h6
  cases hi with
  | d _ _ hi=>cases hi with
   | int _ _ =>
    cases hx with
    | bx _ _ _ b hb _ _ hT =>
     refine ⟨.pointer (some ⟨b,0+n.toNat * te.size,none⟩),?_,?_⟩
     ·simp [Instr.indexAt,asIntOf,run_underlying h2,LH,gS,run_sizeOf g1,g4,Addr.add_plain]
     ·rw [Nat.zero_add];exact .ptr _ _ b hb hT
 rename_i ti rows k n ht hd
 split at hv
 case h_2=>cases hv
 rename_i e he
 split at hv
 case h_2=>cases hv
 rename_i te r nN hr
 split at hv
 case isFalse=>cases hv
 rename_i VE
 obtain ⟨LH,Zv⟩:=VE
 obtain rfl:=Option.some.inj hv
 obtain ⟨fi,d,z,h1,h2,h3,h4,h5,h6,h7,h8,h9,B8⟩:=aI ht
 obtain ⟨gi,d2,z2,g1,g2,g3,g4,_⟩:=aI nN
 rw [he] at h6
 obtain rfl:=bW h6
 cases hi with
 | d _ _ hi=>cases hi with
  | int _ _ =>
   have hD:=fU hx hd
   obtain ⟨au,rfl⟩:=List.getElem?_eq_some_iff.1 hr
   cases hD with
   | sl _ sz a cap f dJ VF Ld hm hs hdd =>
    have Zw:sz=te.size:=by rw [← Zv];exact (VF _ (List.getElem_mem au)).symm
    subst Zw
    obtain ⟨g,off,rfl,jY⟩:=hs (by intro h0;rw [h0] at au;simp at au)
    have aC:n < (rows.length:Int):=by omega
    refine ⟨.pointer (some ⟨g,off+n.toNat * te.size+0,none⟩),?_,.gp _ 0 g (off+n.toNat * te.size) (fun q=>f n.toNat q) (fun q hq=>⟨(jY _ au q hq).1,(jY _ au q hq).2,hdd _ au q hq⟩)⟩
    simp [Instr.indexAt,asIntOf,run_underlying h2,LH,aC,run_sizeOf g1,g4,Addr.add_plain]
theorem SN {t ty:TypeId} {x v:V} {X:Value} (hx:VR c w x X) (hv:fP P t x=some v):∃ y,(Builtin.len_ #[t] ty #[X]).run P w = .ok y w∧VR c w v y:=by
 unfold fP at hv
 split at hv
 case h_4=>cases hv
 ·rename_i ti ht hd
  unfold tu at hv
  split at hv
  case h_2=>cases hv
  rename_i bb len cap
  split at hv
  case h_2=>cases hv
  rename_i e he
  obtain rfl:=Option.some.inj hv
  obtain ⟨fi,d,z,h1,h2,h3,h4,h5,h6,_⟩:=aI ht
  rw [he] at h6
  obtain rfl:=bW h6
  cases hx with
  | bx _ _ _ b hb _ _ hT =>
   refine ⟨.int .i64 len,?_,.d _ _ (.int _ _)⟩
   simp [Builtin.len_,run_underlying h2,goInt]
 ·rename_i ti rows ht hd
  split at hv
  case h_2=>cases hv
  rename_i e he
  obtain rfl:=Option.some.inj hv
  obtain ⟨fi,d,z,h1,h2,h3,h4,h5,h6,_⟩:=aI ht
  rw [he] at h6
  obtain rfl:=bW h6
  have hD:=fU hx hd
  cases hD with
  | sl _ sz a cap f dJ VF Ld hm hs hdd =>
   refine ⟨.int .i64 rows.length,?_,.d _ _ (.int _ _)⟩
   simp [Builtin.len_,run_underlying h2,goInt]
 ·rename_i ti s ht hd
  split at hv
  case h_2=>cases hv
  rename_i he
  obtain rfl:=Option.some.inj hv
  obtain ⟨fi,d,z,h1,h2,h3,h4,h5,h6,_⟩:=aI ht
  rw [he] at h6
  obtain rfl:=iC h6
  have hD:=fU hx hd
  cases hD with
  | str _ hl =>
   refine ⟨.int .i64 s.length,?_,.d _ _ (.int _ _)⟩
   exact run_len_string w t ty ⟨s.toArray⟩ h2
def kO (c:Cx) (w:World) (vs:List V) (cs:Array Value):Prop:=cs.size=vs.length∧∀ (j:Nat) (v:V),vs[j]? = some v→∃ x,cs[j]? = some x∧VR c w v x∧x.oneCell' = true
theorem kO.agg {vs:List V} {cs:Array Value} (h:kO c w vs cs):VR c w (.agg vs) (.agg cs):=by
 refine .agg vs cs h.1 (fun j hj=>?_) (fun j hj=>?_)
 ·obtain ⟨x,hx,hv,_⟩:=h.2 j vs[j] (List.getElem?_eq_getElem hj)
  rw [show cs.getD j undef=x by simp [Array.getD_eq_getD_getElem?,hx]]
  exact hv
 ·obtain ⟨x,hx,_,ho⟩:=h.2 j vs[j] (List.getElem?_eq_getElem hj)
  rw [show cs.getD j undef=x by simp [Array.getD_eq_getD_getElem?,hx]]
  exact ho
theorem kO.of {v:V} {x:Value} (h:VR c w v x) {vs:List V} (hv:fG v=some vs):kO c w vs x.cells:=by
 obtain ⟨h1,h2⟩:=vJ h hv
 refine ⟨h1,fun j u hu=>?_⟩
 obtain ⟨hj,rfl⟩:=List.getElem?_eq_some_iff.1 hu
 refine ⟨x.cells[j]'(by omega),by simp,?_⟩
 have:=h2 j hj
 rw [bN (by omega)] at this
 exact this
theorem tv (off:Nat):∀ (l:List Value) (s:Nat) (cs:Array Value),off+s+l.length≤cs.size →
 ((l.zipIdx s).foldl (fun cs (p:Value × Nat)=>cs.setIfInBounds (off+p.2) p.1) cs).size=cs.size∧∀ k,((l.zipIdx s).foldl (fun cs (p:Value × Nat)=>cs.setIfInBounds (off+p.2) p.1) cs)[k]? = if off+s≤k∧k < off+s+l.length then l[k - (off+s)]? else cs[k]?
 | [],s,cs,_=>⟨rfl,fun k=>by simp;intro h1 h2;omega⟩
 | x :: l,s,cs,h=>by
  have ih:=tv off l (s+1) (cs.setIfInBounds (off+s) x) (by simp at h ⊢;omega)
  simp only [List.zipIdx_cons,List.foldl_cons]
  refine ⟨by rw [ih.1];simp,fun k=>?_⟩
  rw [ih.2 k]
  simp only [List.length_cons] at h ⊢
  by_cases h1:off+(s+1)≤k∧k < off+(s+1)+l.length
  ·rw [if_pos h1,if_pos (by omega),show k - (off+s)=(k - (off+(s+1)))+1 by omega]
   simp
  ·rw [if_neg h1]
   by_cases h2:k=off+s
   ·subst h2
    rw [if_pos (by omega),Nat.sub_self]
    rw [Array.getElem?_setIfInBounds_self_of_lt (by omega)]
    rfl
   ·rw [if_neg (by omega)]
    rw [Array.getElem?_setIfInBounds,if_neg (by omega)]
theorem AB (place:Nat→Option (Nat × Nat)):∀ (parts:List (Nat × V)) (ps:List (Nat × Value)) (vs:List V) (cs:Array Value) (us:List V),kO c w vs cs→ps.length=parts.length→(∀ (j i:Nat) (v:V),parts[j]? = some (i,v)→∃ x,ps[j]? = some (i,x)∧VR c w v x)→qx place vs parts=some us→∃ ds,Instr.fill place cs ps=some ds∧kO c w us ds
 | [],ps,vs,cs,us,hc,hl,_,hf=>by
  have:ps=[]:=List.eq_nil_of_length_eq_zero hl
  subst this
  obtain rfl:=Option.some.inj hf
  exact ⟨cs,rfl,hc⟩
 | (i,v) :: parts,ps,vs,cs,us,hc,hl,hr,hf=>by
  cases ps with
  | nil=>cases hl
  | cons p ps =>
   obtain ⟨x,hp,hx⟩:=hr 0 i v rfl
   obtain rfl:=Option.some.inj hp
   simp only [qx] at hf
   split at hf
   case h_2=>cases hf
   rename_i off size ys G7 O0
   split at hf
   case isFalse=>cases hf
   rename_i nO
   obtain ⟨rfl,hle⟩:=nO
   have UT:=kO.of hx O0
   obtain ⟨s1,s2⟩:=tv off x.cells.toList 0 cs (by simp [UT.1];rw [hc.1];exact hle)
   have iM:kO c w (vs.take off++ys++vs.drop (off+ys.length)) ((x.cells.toList.zipIdx 0).foldl (fun cs (p:Value × Nat)=>cs.setIfInBounds (off+p.2) p.1) cs):=by
    refine ⟨by rw [s1,hc.1];simp;omega,fun j u hu=>?_⟩
    rw [s2 j]
    simp only [Nat.add_zero,Array.length_toList,UT.1]
    by_cases VG:off≤j∧j < off+ys.length
    ·rw [if_pos VG]
     rw [List.append_assoc,List.getElem?_append_right (by simp;omega),List.getElem?_append_left (by simp;omega)] at hu
     have e:j - (vs.take off).length=j - off:=by simp;omega
     rw [e] at hu
     obtain ⟨y,h1,h2⟩:=UT.2 _ _ hu
     exact ⟨y,by simpa using h1,h2⟩
    ·rw [if_neg VG]
     rcases Nat.lt_or_ge j off with h1 | h1
     ·rw [List.append_assoc,List.getElem?_append_left (by simp;omega),List.getElem?_take,if_pos h1] at hu
      exact hc.2 _ _ hu
     ·rw [List.getElem?_append_right (by simp;omega),List.getElem?_drop] at hu
      have e:off+ys.length+(j - (vs.take off++ys).length)=j:=by simp;omega
      rw [e] at hu
      exact hc.2 _ _ hu
   have ih:=AB place parts ps _ _ us iM (by simpa using hl) (fun j i v hj=>by
    obtain ⟨x,h1,h2⟩:=hr (j+1) i v hj
    exact ⟨x,h1,h2⟩) hf
   obtain ⟨ds,h1,h2⟩:=ih
   refine ⟨ds,?_,h2⟩
   simp only [Instr.fill,G7]
   rw [if_neg (by simp [UT.1];rw [hc.1];omega)]
   rw [← Array.foldl_toList,Array.toList_zipIdx]
   exact h1
theorem vK {t:TypeId} {i:tq} (h:bD P t=some i):∃ (f:TypeInfo) (z:Value),P.info? t=some f∧f.zero=some z∧kO c w i.zero z.cells:=by
 obtain ⟨f,d,z,h1,h2,h3,h4,h5,h6,h7,h8,h9,B8⟩:=aI h
 refine ⟨f,z,h1,h3,by rw [h9];simp,fun j v hv=>?_⟩
 rw [h9,List.getElem?_map] at hv
 obtain ⟨x,hx,rfl⟩:=Option.map_eq_some_iff.1 hv
 exact ⟨x,by simpa using hx,pM c w x,B8 x (List.mem_of_getElem? hx)⟩
theorem run_places:∀ (l:List Field),(∀ f∈l,∃ i,P.info? f.type=some i)→∀ w:World,(l.mapM (fun f=>Prod.mk f.offset <$> sizeOf f.type):Sem (List (Nat × Nat))).run P w = .ok (l.map fun f=>(f.offset,oC P f.type)) w
 | [],_,w=>by simp
 | f :: l,h,w=>by
  obtain ⟨i,hi⟩:=h f (by simp)
  have ih:=run_places l (fun g hg=>h g (by simp [hg])) w
  have hs:oC P f.type=i.size:=by simp [oC,hi]
  simp [List.mapM_cons,run_sizeOf hi,ih,hs]
theorem LI {t:TypeId} {parts:List (Nat × V)} {ps:Array (Nat × Value)} (hl:ps.size=parts.length) (hr:∀ (j i:Nat) (v:V),parts[j]? = some (i,v)→∃ x,ps[j]? = some (i,x)∧VR c w v x) {v:V} (hv:pO P t parts=some v):∃ y,(Instr.build t ps).run P w = .ok y w∧VR c w v y:=by
 unfold pO at hv
 split at hv
 case h_2=>cases hv
 rename_i i hi
 split at hv
 case h_2=>cases hv
 rename_i fs Ff
 obtain ⟨us,hf,rfl⟩:=Option.map_eq_some_iff.1 hv
 obtain ⟨f,d,z,h1,h2,h3,h4,h5,h6,h7,h8,h9,B8⟩:=aI hi
 obtain ⟨f',z',k1,k2,hz⟩:=vK (c:=c) (w:=w) hi
 rw [h1] at k1
 obtain rfl:=Option.some.inj k1
 rw [h3] at k2
 obtain rfl:=Option.some.inj k2
 rw [Ff] at h6
 obtain ⟨Fs,rfl,jb,rfl⟩:=ue h6
 obtain ⟨ds,e1,e2⟩:=AB _ parts ps.toList _ _ us hz (by simpa using hl) (fun j i v hj=>by
  obtain ⟨x,h1,h2⟩:=hr j i v hj
  exact ⟨x,by simpa using h1,h2⟩) hf
 refine ⟨.agg ds,?_,e2.agg⟩
 have hp:=run_places (P:=P) Fs.toList jb w
 simp [Instr.build,zeroValue,typeInfo,h1,h3,run_underlying h2]
 rw [Array.mapM_eq_mapM_toList]
 simp [hp]
 have VH:Instr.fill (fun x=>Option.map (fun f=>(f.offset,oC P f.type)) Fs[x]?) z.cells ps.toList=some ds:=by
  rw [← e1]
  congr 1
  funext x
  simp
 rw [VH]
 rfl
theorem Cr:∀ (l:List V) (r:List D),l.mapM mL=some r→r.length=l.length∧∀ (q:Nat) (d:D),r[q]? = some d→∃ v,l[q]? = some v∧mL v=some d
 | [],r,h=>by
  have:r=[]:=by simpa using h.symm
  subst this
  exact ⟨rfl,fun q d h=>by simp at h⟩
 | v :: l,r,h=>by
  rw [List.mapM_cons] at h
  cases hv:mL v with
  | none=>simp [hv] at h
  | some d0 =>
   cases hl:l.mapM mL with
   | none=>simp [hv,hl] at h
   | some r0 =>
    have hr:d0 :: r0=r:=by simpa [hv,hl] using h
    subst hr
    obtain ⟨h1,h2⟩:=Cr l r0 hl
    refine ⟨by simp [h1],fun q d hq=>?_⟩
    cases q with
    | zero=>exact ⟨v,rfl,by rw [hv];simpa using hq⟩
    | succ q=>exact h2 q d (by simpa using hq)
theorem Cs:∀ (n s:Nat) (l:List V) (rows:List (List D)),chunk n s l=some rows→l.length=n * s→rows.length=n∧(∀ r∈rows,r.length=s)∧∀ (j q:Nat) (r:List D) (d:D),rows[j]? = some r→r[q]? = some d→∃ v,l[j * s+q]? = some v∧mL v=some d
 | 0,s,l,rows,h,hl=>by
  obtain rfl:=Option.some.inj h
  exact ⟨rfl,by simp,fun j q r d h=>by simp at h⟩
 | n+1,s,l,rows,h,hl=>by
  simp only [chunk] at h
  split at h
  case h_2=>cases h
  rename_i r rs h1 h2
  obtain rfl:=Option.some.inj h
  obtain ⟨a1,a2⟩:=Cr _ _ h1
  have lO:(l.drop s).length=n * s:=by rw [List.length_drop,hl,Nat.add_mul];omega
  obtain ⟨b1,b2,b3⟩:=Cs n s _ rs h2 lO
  have hs:s≤l.length:=by rw [hl,Nat.add_mul];omega
  have hr:r.length=s:=by rw [a1];simp;omega
  refine ⟨by simp [b1],fun x hx=>?_,fun j q x d hj hq=>?_⟩
  ·rcases List.mem_cons.1 hx with rfl | hx
   ·exact hr
   ·exact b2 x hx
  ·cases j with
   | zero =>
    have:r=x:=by simpa using hj
    subst this
    obtain ⟨v,h3,h4⟩:=a2 q d hq
    refine ⟨v,?_,h4⟩
    rw [Nat.zero_mul,Nat.zero_add]
    rw [List.getElem?_take] at h3
    split at h3
    ·exact h3
    ·cases h3
   | succ j =>
    obtain ⟨v,h3,h4⟩:=b3 j q x d (by simpa using hj) hq
    refine ⟨v,?_,h4⟩
    rw [List.getElem?_drop] at h3
    rw [Nat.add_mul,Nat.one_mul,show j * s+s+q=s+(j * s+q) by omega]
    exact h3
theorem SO (z:List V) (zc:Array Value) (hz:kO c w z zc):∀ n,kO c w (rep n z) ((Array.range (n * z.length)).map (zc[· % zc.size]!)):=by
 have hlen:∀ n,(rep n z).length=n * z.length:=by
  intro n
  induction n with
  | zero=>simp [rep]
  | succ n ih=>simp [rep,ih,Nat.add_mul];omega
 have uT:∀ n (j:Nat) (v:V),(rep n z)[j]? = some v→z[j % z.length]? = some v:=by
  intro n
  induction n with
  | zero=>intro j v h;simp [rep] at h
  | succ n ih =>
   intro j v h
   simp only [rep] at h
   rcases Nat.lt_or_ge j z.length with h1 | h1
   ·rw [List.getElem?_append_left h1] at h
    rw [Nat.mod_eq_of_lt h1];exact h
   ·rw [List.getElem?_append_right h1] at h
    have:=ih _ _ h
    rw [Nat.mod_eq_sub_mod h1];exact this
 intro n
 refine ⟨by simp [hlen],fun j v hv=>?_⟩
 have hj:j < n * z.length:=by rw [← hlen];exact (List.getElem?_eq_some_iff.1 hv).1
 obtain ⟨x,hx,h2⟩:=hz.2 _ _ (uT n j v hv)
 refine ⟨x,?_,h2⟩
 obtain ⟨au,Zx⟩:=Array.getElem?_eq_some_iff.1 hx
 rw [Array.getElem?_map]
 rw [Array.getElem?_range,if_pos hj]
 simp only [Option.map_some,hz.1]
 rw [getElem!_pos zc (j % z.length) au,Zx]
theorem LJ (h:dz c w S) (rows:List (List D)) (sz:Nat) (h0:0 < sz) (hr:∀ r∈rows,r.length=sz) (qP:rows.length≤9223372036854775807) (e:TypeId) (cs:Array Value)
 (hd:∀ (j q:Nat) (r:List D) (d:D),rows[j]? = some r→r[q]? = some d→∃ x,cs[j * sz+q]? = some x∧DR c.M w d x) :
 dz c (w.alloc (.cells cs e)) S∧Ext c w c (w.alloc (.cells cs e))∧VR c (w.alloc (.cells cs e)) (.sl rows .full) (.slice (some ⟨w.heap.size,0,none⟩) rows.length rows.length):=by
 obtain ⟨h1,h2⟩:=h.Vy (.cells cs e)
 refine ⟨h1,h2,.full rows _ ?_ (fun p hp=>by obtain rfl:=Option.some.inj hp;exact ⟨rfl,h.hB.2⟩)⟩
 have eZ:∀ k,(w.alloc (.cells cs e)).cell? ⟨w.heap.size,k,none⟩=cs[k]?:=by
  intro k
  have hb:=heap_alloc_new w (.cells cs e)
  simp only [World.cell?,hb]
  rfl
 refine .sl rows sz _ rows.length (fun j q=>cs.getD (j * sz+q) undef) h0 hr (Nat.le_refl _) qP (fun _=>⟨w.heap.size,0,rfl,fun j hj q hq=>⟨h.vD (Nat.le_refl _),?_⟩⟩) (fun j hj q hq=>?_)
 ·obtain ⟨x,hx,_⟩:=hd j q _ _ (List.getElem?_eq_getElem hj) (List.getElem?_eq_getElem hq)
  rw [Nat.zero_add,eZ,hx]
  simp [Array.getD_eq_getD_getElem?,hx]
 ·obtain ⟨x,hx,I0⟩:=hd j q _ _ (List.getElem?_eq_getElem hj) (List.getElem?_eq_getElem hq)
  rw [show cs.getD (j * sz+q) undef=x by simp [Array.getD_eq_getD_getElem?,hx]]
  exact I0.eC h2.keeps
theorem yz (h:dz c w S) {t:TypeId} {len:Nat} {parts:List (Nat × V)} {ps:Array (Nat × Value)} (hl:ps.size=parts.length) (hr:∀ (j i:Nat) (v:V),parts[j]? = some (i,v)→∃ x,ps[j]? = some (i,x)∧VR c w v x) {v:V} (hv:fH P t len parts=some v) :
 ∃ y w',(Instr.buildSlice t len ps).run P w = .ok y w'∧dz c w' S∧Ext c w c w'∧VR c w' v y:=by
 unfold fH at hv
 split at hv
 case h_2=>cases hv
 rename_i i hi
 split at hv
 case h_2=>cases hv
 rename_i e he
 split at hv
 case h_2=>cases hv
 rename_i te nN
 split at hv
 case isFalse=>cases hv
 rename_i nO
 obtain ⟨Lz,O1⟩:=nO
 split at hv
 case h_2=>cases hv
 rename_i flat RD
 obtain ⟨rows,nP,rfl⟩:=Option.map_eq_some_iff.1 hv
 obtain ⟨fi,d,z,h1,h2,h3,h4,h5,h6,h7,h8,h9,B8⟩:=aI hi
 rw [he] at h6
 obtain rfl:=bW h6
 obtain ⟨gi,d2,z2,g1,g2,g3,g4,g5,g6,g7,g8,g9,US⟩:=aI nN
 obtain ⟨f',z',k1,k2,hz⟩:=vK (c:=c) (w:=w) nN
 rw [g1] at k1
 obtain rfl:=Option.some.inj k1
 rw [g3] at k2
 obtain rfl:=Option.some.inj k2
 have Zy:te.zero.length=te.size:=by rw [g9];simp [g8]
 have tA:=SO (c:=c) (w:=w) te.zero z2.cells hz len
 rw [Zy] at tA
 obtain ⟨ds,e1,e2⟩:=AB _ parts ps.toList _ _ flat tA (by simpa using hl) (fun j i v hj=>by
  obtain ⟨x,h1,h2⟩:=hr j i v hj
  exact ⟨x,by simpa using h1,h2⟩) RD
 have VI:ds.size=flat.length:=e2.1
 have VJ:flat.length=len * te.size:=by
  have:∀ (parts:List (Nat × V)) (vs us:List V),qx (fun k=>some (k * te.size,te.size)) vs parts=some us→us.length=vs.length:=by
   intro parts
   induction parts with
   | nil=>intro vs us h;obtain rfl:=Option.some.inj h;rfl
   | cons p parts ih =>
    intro vs us h
    obtain ⟨i,v⟩:=p
    simp only [qx] at h
    split at h
    case h_2=>cases h
    rename_i off size ys hp O0
    obtain ⟨rfl,rfl⟩:=Prod.mk.inj (Option.some.inj hp)
    split at h
    case isFalse=>cases h
    rename_i hc
    rw [ih _ _ h]
    simp;omega
  rw [this _ _ _ RD,← tA.1]
  simp
 obtain ⟨b1,b2,b3⟩:=Cs len te.size flat rows nP VJ
 have iM:=LJ h rows te.size Lz b2 (by
  rw [b1]
  have:len≤len * te.size:=Nat.le_mul_of_pos_right _ Lz
  omega) e ds (fun j q r d hj hq=>by
  obtain ⟨v,h3,h4⟩:=b3 j q r d hj hq
  obtain ⟨x,h5,h6,_⟩:=e2.2 _ _ h3
  exact ⟨x,h5,fU h6 h4⟩)
 refine ⟨_,_,?_,iM⟩
 rw [b1]
 have LH:¬ (16777216 < len * te.size):=by omega
 by_cases hlen:len=0
 ·subst hlen
  have VK:∀ f:Nat→Value,(Array.range 0).map f = #[]:=fun f=>by simp
  rw [Nat.zero_mul,VK] at e1
  simp [Instr.buildSlice,run_underlying h2,run_sizeOf g1,g4,e1,VK,newRow]
 ·have cm:¬ (len * te.size=0):=by
   have:=Nat.mul_pos (Nat.pos_of_ne_zero hlen) Lz
   omega
  simp [Instr.buildSlice,run_underlying h2,run_sizeOf g1,g4,LH,cm,zeroValue,typeInfo,g1,g3,newRow,e1]
end
theorem dz.under {c:Cx} {w w':World} {S:Mem} (h:dz c w S) (hb:Below w.heap.size w w'):dz c w' S∧Ext c w c w':=by
 have hk:iA c w c w':=⟨fun g k v hm hv=>⟨hm,by rw [hb.cell (p:=⟨g,k,none⟩) (pL hv)];exact hv⟩,fun _ _ h=>h,fun _ i h=>⟨i,h,rfl,Nat.le_refl _,fun _=>rfl⟩,rfl,fun b _ h=>h.mJ (hb.block b h.lt)⟩
 have hbB:Below c.B w w':=hb.mono h.hB.2
 refine ⟨⟨⟨h.hB.1,Nat.le_trans h.hB.2 hb.size⟩,h.len,fun i b hi=>?_,h.inj,h.aL,fun t i ht=>?_,h.rG,fun w2 hw=>h.inv w2 (hbB.trans hw)⟩,hk,rfl,rfl,rfl,hbB⟩
 ·obtain ⟨a,o,hh,vs,e1,e2⟩:=h.box i b hi
  exact ⟨a,o,by rw [hb.block b (h.lt hi)];exact hh,vs,e1,e2.eC hk⟩
 ·obtain ⟨a1,a2,a3,a4,a5⟩:=h.tok t i ht
  refine ⟨a1,a2,a3,a4,fun hn g off ha=>?_⟩
  obtain ⟨b1,b2,cur,T,fz,hh,r⟩:=a5 hn g off ha
  exact ⟨b1,b2,cur,T,fz,by rw [hb.block g (Array.getElem?_eq_some_iff.1 hh).1];exact hh,r⟩
def cy (sz:Nat) (rows:List (List D)):Bool:=rows.all fun r=>r.length == sz
theorem gv {sz:Nat} {rows:List (List D)} (h:cy sz rows=true):∀ r∈rows,r.length=sz:=by
 intro r hr
 have:=List.all_eq_true.1 h r hr
 simpa using this
theorem gw {α:Type} {sz:Nat} (f:α→List D) (h:∀ x,(f x).length=sz) (l:List α):cy sz (l.map f)=true:=by
 simp [cy,h]
def RE (d:Int):Option V→Option Int
 | none=>some d
 | some (.d (.int _ n))=>some n
 | _=>none
def vk (P:Program) (t:TypeId) (x:V) (lo hi:Option V):Option V :=
 match bD P t,mL x with
 | some ti,some (.sl rows)=>match ti.d,RE 0 lo,RE rows.length hi with
  | .slice e,some l,some h=>match bD P e with
   | some te=>if 0≤l∧l≤h∧h≤(rows.length:Int)∧cy te.size rows=true∧0 < te.size then some (.d (.sl ((rows.drop l.toNat).take (h.toNat - l.toNat)))) else none
   | none=>none
  | _,_,_=>none
 | some ti,some (.str s)=>match ti.d,RE 0 lo,RE s.length hi with
  | .string,some l,some h=>if 0≤l∧l≤h∧h≤(s.length:Int) then some (.d (.str ((s.drop l.toNat).take (h.toNat - l.toNat)))) else none
  | _,_,_=>none
 | _,_=>none
def vl (P:Program) (t:TypeId) (x i:V):Option V :=
 match bD P t,x,i with
 | some ti,.d (.str s),.d (.int _ n)=>match ti.d,s[n.toNat]? with
  | .string,some b=>if 0≤n then some (.d (.int .u8 (b.toNat:Int))) else none
  | _,_=>none
 | some ti,.agg vs,.d (.int _ n)=>match ti.d with
  | .array len e=>match bD P e with
   | some ei=>if 0≤n∧n < len then oD ei vs (n.toNat * ei.size) else none
   | none=>none
  | _=>none
 | _,_,_=>none
def mg (op:BinOp) (k k':IntKind) (a b:Int):Option V :=
 match op with
 | .shl=>if 0≤b then some (.d (.int k (k.wrap (a * 2 ^ (min b.toNat k.bits))))) else none
 | .shr=>if 0≤b then some (.d (.int k (a.fdiv (2 ^ (min b.toNat k.bits))))) else none
 | op=>if k=k' then match op with
  | .add=>some (.d (.int k (k.wrap (a+b))))
  | .sub=>some (.d (.int k (k.wrap (a - b))))
  | .mul=>some (.d (.int k (k.wrap (a * b))))
  | .quo=>if b=0 then none else some (.d (.int k (k.wrap (a.tdiv b))))
  | .rem=>if b=0 then none else some (.d (.int k (a.tmod b)))
  | .and=>some (.d (.int k (k.wrap (BitVec.ofInt k.bits a &&& BitVec.ofInt k.bits b).toNat)))
  | .or=>some (.d (.int k (k.wrap (BitVec.ofInt k.bits a ||| BitVec.ofInt k.bits b).toNat)))
  | .xor=>some (.d (.int k (k.wrap (BitVec.ofInt k.bits a ^^^ BitVec.ofInt k.bits b).toNat)))
  | .andNot=>some (.d (.int k (k.wrap (BitVec.ofInt k.bits a &&& ~~~ BitVec.ofInt k.bits b).toNat)))
  | .eql=>some (.d (.bool (decide (a=b))))
  | .neq=>some (.d (.bool (!decide (a=b))))
  | .lss=>some (.d (.bool (decide (a < b))))
  | .leq=>some (.d (.bool (decide (a≤b))))
  | .gtr=>some (.d (.bool (decide (b < a))))
  | .geq=>some (.d (.bool (decide (b≤a))))
  | _=>none
  else none
def vL (op:BinOp) (a b:List UInt8):Option V :=
 match op with
 | .add=>if a.length+b.length≤9223372036854775807 then some (.d (.str (a++b))) else none
 | .eql=>some (.d (.bool (decide (a=b))))
 | .neq=>some (.d (.bool (!decide (a=b))))
 | .lss=>some (.d (.bool (Op.bytesLess a b)))
 | .leq=>some (.d (.bool (Op.bytesLess a b || decide (a=b))))
 | .gtr=>some (.d (.bool (!(Op.bytesLess a b || decide (a=b)))))
 | .geq=>some (.d (.bool (!Op.bytesLess a b)))
 | _=>none
def ptrEq:V→V→Option Bool
 | .iG,.iG=>some true
 | .ptr _ _,.iG=>some false
 | .iG,.ptr _ _=>some false
 | .gp _ _,.iG=>some false
 | .iG,.gp _ _=>some false
 | _,_=>none
def LK (P:Program) (op:BinOp) (t:TypeId) (x y:V):Option V :=
 match bD P t with
 | some ti=>match ti.d,op,ptrEq x y with
  | .pointer,.eql,some b=>some (.d (.bool b))
  | .pointer,.neq,some b=>some (.d (.bool (!b)))
  | _,_,_=>none
 | none=>none
def vM (P:Program) (op:BinOp) (t:TypeId) (x y:V):Option V :=
 match x,y with
 | .d (.int k a),.d (.int k' b)=>mg op k k' a b
 | .d (.str a),.d (.str b)=>vL op a b
 | .d (.bool a),.d (.bool b)=>match bD P t with
  | some ti=>match ti.d,op with
   | .bool,.eql=>some (.d (.bool (a == b)))
   | .bool,.neq=>some (.d (.bool (!(a == b))))
   | _,_=>none
  | none=>none
 | x,y=>LK P op t x y
def I2 (op:UnOp) (x:V):Option V :=
 match op,x with
 | .not,.d (.bool b)=>some (.d (.bool (!b)))
 | .neg,.d (.int k n)=>some (.d (.int k (k.wrap (0 - n))))
 | _,_=>none
def eX (b:UInt8):List D:=[.int .u8 (b.toNat:Int)]
def byteOf:List D→Option UInt8
 | [.int .u8 n]=>if 0≤n∧n≤255 then some (UInt8.ofNat n.toNat) else none
 | _=>none
def fromBytes (rows:List (List D)):Option (List UInt8):=rows.mapM byteOf
def rN (P:Program) (src dst:TypeId) (e:TypeId) (x:V):Option V :=
 match x with
 | .sl (r :: rows) .full=>if src=dst then (match bD P e with
  | some te=>match te.d with
   | .int .u8=>some (.sl (r :: rows) .full)
   | _=>none
  | none=>none) else none
 | _=>none
def AD (P:Program) (src dst:TypeId) (x:V):Option V :=
 match bD P src,bD P dst with
 | some si,some di=>match di.d,mL x with
  | .int k,some (.int _ n)=>some (.d (.int k (k.wrap n)))
  | .string,some (.str s)=>some (.d (.str s))
  | .string,some (.sl rows)=>match si.d with
   | .slice e=>match bD P e with
    | some te=>match te.d with
     | .int .u8=>(fromBytes rows).map fun s=>.d (.str s)
     | _=>none
    | none=>none
   | _=>none
  | .slice e,some (.str s)=>match bD P e with
   | some te=>match te.d with
    | .int .u8=>some (.d (.sl (s.map eX)))
    | _=>none
   | none=>none
  | .slice e,some (.sl _)=>rN P src dst e x
  | _,_=>none
 | _,_=>none
def rO (P:Program) (us:TypeId) (te:tq) (x:V):Option (List (List D)) :=
 match bD P us,mL x with
 | some ui,some (.sl an)=>match ui.d with
  | .slice _=>some an
  | _=>none
 | some ui,some (.str s)=>match ui.d,te.d with
  | .string,.int .u8=>if te.size=1 then some (s.map eX) else none
  | _,_=>none
 | _,_=>none
def jl (P:Program) (ts us:TypeId) (S:Mem) (s x:V):Option (V × Mem) :=
 match bD P ts,s with
 | some ti,.sl rows (.own t)=>match ti.d with
  | .slice e=>match bD P e with
   | some te=>match S.aL[t]?,rO P us te x with
    | some (n,sz),some an=>if n=rows.length∧sz=te.size∧cy sz an=true∧(rows.length+an.length) * te.bytes≤140737488355328∧1≤te.bytes then
     some (.sl (rows++an) (.own t),{ S with aL:=S.aL.set t (rows.length+an.length,sz) }) else none
    | _,_=>none
   | none=>none
  | _=>none
 | _,_=>none
def pP (P:Program) (ts us:TypeId) (S:Mem) (rows:List (List D)) (x:V):Option (V × Mem) :=
 match bD P ts with
 | some ti=>match ti.d with
  | .slice e=>match bD P e with
   | some te=>if 0 < te.size∧cy te.size rows=true then jl P ts us ⟨S.boxes,S.aL++[(rows.length,te.size)]⟩ (.sl rows (.own S.aL.length)) x else none
   | none=>none
  | _=>none
 | none=>none
def iN (P:Program) (ts us:TypeId) (S:Mem) (s x:V):Option (V × Mem) :=
 match s with
 | .sl rows .full=>pP P ts us S rows x
 | s=>jl P ts us S s x
theorem uf:∀ (rows:List (List D)) (s:List UInt8),rows.mapM byteOf=some s→rows=s.map eX
 | [],s,h=>by
  have:s=[]:=by simpa using h.symm
  subst this;rfl
 | r :: rows,s,h=>by
  rw [List.mapM_cons] at h
  cases hr:byteOf r with
  | none=>simp [hr] at h
  | some b =>
   cases hl:rows.mapM byteOf with
   | none=>simp [hr,hl] at h
   | some s0 =>
    have:b :: s0=s:=by simpa [hr,hl] using h
    subst this
    rw [List.map_cons,← uf rows s0 hl]
    congr 1
    unfold byteOf at hr
    split at hr
    ·rename_i n
     split at hr
     ·rename_i hn
      obtain rfl:=Option.some.inj hr
      have h2:(UInt8.ofNat n.toNat).toNat=n.toNat:=by simp [UInt8.toNat_ofNat'];omega
      simp only [eX,h2]
      rw [Int.toNat_of_nonneg hn.1]
     ·cases hr
    ·cases hr
section
variable {P:Program} {c:Cx} {w:World} {S:Mem}
theorem O2 {t e:Nat} (h:P.underlying t=some (.slice e)):P.elem t=e:=by simp [Program.elem,h]
theorem AE {d n:Int} {o:Option V} {O:Option Value} (ho:o.isSome=O.isSome) (hr:∀ v x,o=some v→O=some x→VR c w v x) (h:RE d o=some n):(O=none∧n=d)∨∃ k,O=some (.int k n):=by
 cases o with
 | none =>
  cases O with
  | none=>exact .inl ⟨rfl,(Option.some.inj h).symm⟩
  | some x=>cases ho
 | some v =>
  cases O with
  | none=>cases ho
  | some x =>
   have:=hr v x rfl rfl
   cases this with
   | d y _ hd =>
    cases hd with
    | int k m =>
     obtain rfl:=Option.some.inj h
     exact .inr ⟨k,rfl⟩
    | _=>cases h
   | _=>cases h
theorem LL {t:TypeId} {x v:V} {X:Value} {lo hi:Option V} {LO HI:Option Value} (hx:VR c w x X) (Ct:lo.isSome=LO.isSome) (VL:∀ v x,lo=some v→LO=some x→VR c w v x) (RF:hi.isSome=HI.isSome) (VM:∀ v x,hi=some v→HI=some x→VR c w v x)
 (hv:vk P t x lo hi=some v):∃ y,(Instr.sliceAt t X LO HI none).run P w = .ok y w∧VR c w v y:=by
 unfold vk at hv
 split at hv
 case h_3=>cases hv
 ·rename_i ti rows ht hd
  split at hv
  case h_2=>cases hv
  rename_i e l h he hl hh
  split at hv
  case h_2=>cases hv
  rename_i te nN
  split at hv
  case isFalse=>cases hv
  rename_i nO
  obtain ⟨c0,c1,c2,c3,c4⟩:=nO
  obtain rfl:=Option.some.inj hv
  obtain ⟨fi,d,z,h1,h2,h3,h4,h5,h6,_⟩:=aI ht
  obtain ⟨gi,d2,z2,g1,g2,g3,g4,_⟩:=aI nN
  rw [he] at h6
  obtain rfl:=bW h6
  have Fg:=O2 h2
  have SQ:P.underlying t=some (.slice (P.elem t)):=by rw [Fg];exact h2
  have hD:=fU hx hd
  have dJ:=gv c3
  cases hD with
  | sl _ sz a cap f Lz VF Ld hm hs hdd =>
   have bp:(Instr.sliceAt t (.slice a rows.length cap) LO HI none).run P w = .ok (sliced a l.toNat h.toNat cap te.size) w:=by
    rw [run_sliceAt_slice w t _ _ _ _ SQ]
    have RG:(sizeOf (P.elem t)).run P w = .ok te.size w:=by rw [Fg,run_sizeOf g1,g4]
    rcases AE Ct VL hl with ⟨rfl,rfl⟩ | ⟨kl,rfl⟩<;>rcases AE RF VM hh with ⟨rfl,rfl⟩ | ⟨kh,rfl⟩
    ·rw [run_slice_all w t a _ cap SQ,RG];simp
    ·rw [run_slice_h w t a _ cap SQ kh h (by omega) (by omega),RG];simp
    ·rw [run_slice_l w t a _ cap SQ kl l c0 c1,RG];simp
    ·rw [run_slice_lh w t a _ cap SQ kl kh l h c0 c1 (by omega),RG];simp
   refine ⟨_,bp,.d _ _ ?_⟩
   have hlen:((rows.drop l.toNat).take (h.toNat - l.toNat)).length=h.toNat - l.toNat:=by simp;omega
   have uT:∀ j (hj:j < ((rows.drop l.toNat).take (h.toNat - l.toNat)).length),((rows.drop l.toNat).take (h.toNat - l.toNat))[j]=rows[l.toNat+j]'(by rw [hlen] at hj;omega):=by
    intro j hj
    simp
   suffices key:DR c.M w (.sl ((rows.drop l.toNat).take (h.toNat - l.toNat))) (.slice (if cap=l.toNat then a else a.map (·.add (l.toNat * te.size))) ((rows.drop l.toNat).take (h.toNat - l.toNat)).length (cap - l.toNat)) by
    rw [hlen] at key;exact key
   refine DR.sl _ sz _ (cap - l.toNat) (fun j q=>f (l.toNat+j) q) Lz (fun r hr=>VF r (List.mem_of_mem_drop (List.mem_of_mem_take hr))) (by rw [hlen];omega) (by omega) (fun cm=>?_) (fun j hj q hq=>?_)
   ·have au:l.toNat < h.toNat:=by
     have:=List.length_pos_iff.2 cm
     omega
    have VN:rows ≠ []:=by
     rintro rfl
     simp at c2;omega
    obtain ⟨g,off,rfl,jY⟩:=hs VN
    have Zw:sz=te.size:=by
     obtain ⟨r,rest,rfl⟩:=List.exists_cons_of_ne_nil VN
     rw [← VF r (by simp),dJ r (by simp)]
    subst Zw
    rw [if_neg (by omega)]
    refine ⟨g,off+l.toNat * te.size,by simp [Addr.add_plain],fun j hj q hq=>?_⟩
    have eS:l.toNat+j < rows.length:=by rw [hlen] at hj;omega
    have:=jY (l.toNat+j) eS q (by rw [uT j hj] at hq;exact hq)
    rw [Nat.add_mul,← Nat.add_assoc] at this
    exact this
   ·have eS:l.toNat+j < rows.length:=by rw [hlen] at hj;omega
    have:=hdd (l.toNat+j) eS q (by rw [uT j hj] at hq;exact hq)
    simp only [uT j hj]
    exact this
 ·rename_i ti s ht hd
  split at hv
  case h_2=>cases hv
  rename_i l h he hl hh
  split at hv
  case isFalse=>cases hv
  rename_i nO
  obtain ⟨c0,c1,c2⟩:=nO
  obtain rfl:=Option.some.inj hv
  obtain ⟨fi,d,z,h1,h2,h3,h4,h5,h6,_⟩:=aI ht
  rw [he] at h6
  obtain rfl:=iC h6
  have hD:=fU hx hd
  cases hD with
  | str _ qP =>
   have nM:(ByteArray.mk s.toArray).size=s.length:=by simp [ByteArray.size_mk']
   have bp:(Instr.sliceAt t (.string ⟨s.toArray⟩) LO HI none).run P w = .ok (.string ((ByteArray.mk s.toArray).extract l.toNat h.toNat)) w:=by
    rw [run_sliceAt_string w t _ _ _ _ h2]
    rcases AE Ct VL hl with ⟨rfl,rfl⟩ | ⟨kl,rfl⟩<;>rcases AE RF VM hh with ⟨rfl,rfl⟩ | ⟨kh,rfl⟩
    ·have:=run_slice_string_all (P:=P) w t ⟨s.toArray⟩ h2
     rw [this,nM,ByteArray.extract_mk,ByteArray.extract_mk];simp
    ·have:=run_slice_string_h (P:=P) w t ⟨s.toArray⟩ h2 kh h (by omega) (by rw [nM];omega)
     rw [this];simp
    ·have:=run_slice_string_l (P:=P) w t ⟨s.toArray⟩ h2 kl l c0 (by rw [nM];omega)
     rw [this,nM];simp
    ·exact run_slice_string w t ⟨s.toArray⟩ kl kh l h h2 c0 c1 (by rw [nM];omega)
   refine ⟨_,bp,.d _ _ ?_⟩
   rw [ByteArray.extract_mk]
   exact .str _ (by simp;omega)
theorem AF {t:TypeId} {vs:List V} {k:IntKind} {n:Int} {ti:tq} {v:V} {X I:Value} (hx:VR c w (.agg vs) X) (hi:VR c w (.d (.int k n)) I) (ht:bD P t=some ti) (hv:(match ti.d with
 | .array len e=>match bD P e with
  | some ei=>if 0≤n∧n < len then oD ei vs (n.toNat * ei.size) else none
  | none=>none
 | _=>none)=some v):∃ y,(Instr.index t X I).run P w = .ok y w∧VR c w v y:=by
 split at hv
 case h_2=>cases hv
 rename_i len e he
 split at hv
 case h_2=>cases hv
 rename_i ei hei
 split at hv
 case isFalse=>cases hv
 rename_i hn
 obtain ⟨fi,d,z,h1,h2,h3,h4,h5,h6,_⟩:=aI ht
 rw [he] at h6
 obtain rfl:=Fe h6
 obtain ⟨fe,de,ze,g1,g2,g3,g4,g5,g6,g7,_⟩:=aI hei
 cases hi with
 | d _ _ hi =>
 cases hi
 cases hx with
 | agg _ cs q1 q2 q3 =>
 have bp:(Instr.index t (.agg cs) (.int k n)).run P w=(part e cs (n.toNat * ei.size)).run P w:=by
  simp only [Instr.index,asIntOf,Sem.run_bind,Sem.run_pure,Result.andThen_ok,run_underlying h2,if_pos hn,run_sizeOf g1,g4]
 rw [bp]
 unfold oD at hv
 unfold part
 rw [Sem.run_bind,pN g2,g7]
 simp only [Result.andThen_ok]
 cases ha:ei.agg with
 | true =>
  rw [ha,if_pos rfl] at hv
  simp only [if_true]
  split at hv
  case isFalse=>cases hv
  rename_i hle
  obtain rfl:=Option.some.inj hv
  refine ⟨_,by rw [Sem.run_bind,run_sizeOf g1];rfl,?_⟩
  rw [g4]
  refine .agg _ _ (by simp;omega) (fun j hj=>?_) (fun j hj=>?_)
  all_goals
   have eS:j < ei.size:=by simp at hj;omega
   have e1:(cs.extract (n.toNat * ei.size) (n.toNat * ei.size+ei.size)).getD j undef=cs.getD (n.toNat * ei.size+j) undef:=by
    rw [bN (by simp;omega),bN (by omega)]
    simp
   rw [e1]
  ·have e2:((vs.drop (n.toNat * ei.size)).take ei.size)[j]=vs[n.toNat * ei.size+j]'(by omega):=by simp
   rw [e2]
   exact q2 _ _
  ·exact q3 _ (by omega)
 | false =>
  rw [ha,if_neg (by decide)] at hv
  simp only [Bool.false_eq_true,if_false]
  obtain ⟨au,rfl⟩:=List.getElem?_eq_some_iff.1 hv
  have mK:n.toNat * ei.size < cs.size:=by omega
  refine ⟨cs.getD (n.toNat * ei.size) undef,?_,q2 _ au⟩
  rw [Array.getElem?_eq_getElem mK,bN mK]
  rfl
theorem LM {t:TypeId} {x i v:V} {X I:Value} (hx:VR c w x X) (hi:VR c w i I) (hv:vl P t x i=some v):∃ y,(Instr.index t X I).run P w = .ok y w∧VR c w v y:=by
 unfold vl at hv
 split at hv
 case h_3=>cases hv
 case h_2 ti vs k n ht=>exact AF hx hi ht hv
 rename_i ti s k n ht
 split at hv
 case h_2=>cases hv
 rename_i b he hb
 split at hv
 case isFalse=>cases hv
 rename_i hn
 obtain rfl:=Option.some.inj hv
 obtain ⟨fi,d,z,h1,h2,h3,h4,h5,h6,_⟩:=aI ht
 rw [he] at h6
 obtain rfl:=iC h6
 obtain ⟨au,rfl⟩:=List.getElem?_eq_some_iff.1 hb
 cases hx with
 | d _ _ hx =>
  cases hx
  cases hi with
  | d _ _ hi =>
   cases hi
   refine ⟨_,?_,.d _ _ (.int _ _)⟩
   rw [run_index_string w t _ k n h2,dif_pos ⟨hn,by simp [ByteArray.size_mk'];omega⟩]
   rfl
theorem O3 {op:BinOp} {t:TypeId} {k k':IntKind} {a b:Int} {v:V} (hv:mg op k k' a b=some v):∃ z,(binOp op t (.int k a) (.int k' b)).run P w = .ok z w∧VR c w v z:=by
 cases op<;>simp only [mg] at hv
 case add =>
  split at hv
  case isFalse=>cases hv
  rename_i hk
  subst hk
  obtain rfl:=Option.some.inj hv
  exact ⟨.int k (k.wrap (a+b)),by simp [binOp,Op.intArith],.d _ _ (.int _ _)⟩
 case sub =>
  split at hv
  case isFalse=>cases hv
  rename_i hk
  subst hk
  obtain rfl:=Option.some.inj hv
  exact ⟨.int k (k.wrap (a - b)),by simp [binOp,Op.intArith],.d _ _ (.int _ _)⟩
 case mul =>
  split at hv
  case isFalse=>cases hv
  rename_i hk
  subst hk
  obtain rfl:=Option.some.inj hv
  exact ⟨.int k (k.wrap (a * b)),by simp [binOp,Op.intArith],.d _ _ (.int _ _)⟩
 case quo =>
  split at hv
  case isFalse=>cases hv
  rename_i hk
  subst hk
  split at hv
  case isTrue=>cases hv
  rename_i hb
  obtain rfl:=Option.some.inj hv
  exact ⟨.int k (k.wrap (a.tdiv b)),by simp [binOp,Op.intDiv,hb],.d _ _ (.int _ _)⟩
 case rem =>
  split at hv
  case isFalse=>cases hv
  rename_i hk
  subst hk
  split at hv
  case isTrue=>cases hv
  rename_i hb
  obtain rfl:=Option.some.inj hv
  exact ⟨.int k (a.tmod b),by simp [binOp,Op.intDiv,hb],.d _ _ (.int _ _)⟩
 case and =>
  split at hv
  case isFalse=>cases hv
  rename_i hk
  subst hk
  obtain rfl:=Option.some.inj hv
  exact ⟨.int k (k.wrap (BitVec.ofInt k.bits a &&& BitVec.ofInt k.bits b).toNat),by simp only [binOp,ne_eq,not_true_eq_false,if_false,Op.intBits,Sem.run_pure],.d _ _ (.int _ _)⟩
 case or =>
  split at hv
  case isFalse=>cases hv
  rename_i hk
  subst hk
  obtain rfl:=Option.some.inj hv
  exact ⟨.int k (k.wrap (BitVec.ofInt k.bits a ||| BitVec.ofInt k.bits b).toNat),by simp only [binOp,ne_eq,not_true_eq_false,if_false,Op.intBits,Sem.run_pure],.d _ _ (.int _ _)⟩
 case xor =>
  split at hv
  case isFalse=>cases hv
  rename_i hk
  subst hk
  obtain rfl:=Option.some.inj hv
  exact ⟨.int k (k.wrap (BitVec.ofInt k.bits a ^^^ BitVec.ofInt k.bits b).toNat),by simp only [binOp,ne_eq,not_true_eq_false,if_false,Op.intBits,Sem.run_pure],.d _ _ (.int _ _)⟩
 case andNot =>
  split at hv
  case isFalse=>cases hv
  rename_i hk
  subst hk
  obtain rfl:=Option.some.inj hv
  exact ⟨.int k (k.wrap (BitVec.ofInt k.bits a &&& ~~~ BitVec.ofInt k.bits b).toNat),by simp only [binOp,ne_eq,not_true_eq_false,if_false,Op.intBits,Sem.run_pure],.d _ _ (.int _ _)⟩
 case eql =>
  split at hv
  case isFalse=>cases hv
  rename_i hk
  subst hk
  obtain rfl:=Option.some.inj hv
  refine ⟨.bool (decide (a=b)),?_,.d _ _ (.bool _)⟩
  simp [binOp,Op.intCmp,Bool.beq_eq_decide_eq]
 case neq =>
  split at hv
  case isFalse=>cases hv
  rename_i hk
  subst hk
  obtain rfl:=Option.some.inj hv
  refine ⟨.bool (!decide (a=b)),?_,.d _ _ (.bool _)⟩
  simp [binOp,Op.intCmp,bne,Bool.beq_eq_decide_eq]
 case lss =>
  split at hv
  case isFalse=>cases hv
  rename_i hk
  subst hk
  obtain rfl:=Option.some.inj hv
  refine ⟨.bool (decide (a < b)),?_,.d _ _ (.bool _)⟩
  simp [binOp,Op.intCmp]
 case leq =>
  split at hv
  case isFalse=>cases hv
  rename_i hk
  subst hk
  obtain rfl:=Option.some.inj hv
  refine ⟨.bool (decide (a≤b)),?_,.d _ _ (.bool _)⟩
  simp [binOp,Op.intCmp]
 case gtr =>
  split at hv
  case isFalse=>cases hv
  rename_i hk
  subst hk
  obtain rfl:=Option.some.inj hv
  refine ⟨.bool (decide (b < a)),?_,.d _ _ (.bool _)⟩
  simp [binOp,Op.intCmp]
 case geq =>
  split at hv
  case isFalse=>cases hv
  rename_i hk
  subst hk
  obtain rfl:=Option.some.inj hv
  refine ⟨.bool (decide (b≤a)),?_,.d _ _ (.bool _)⟩
  simp [binOp,Op.intCmp]
 case shl =>
  split at hv
  case isFalse=>cases hv
  rename_i hb
  obtain rfl:=Option.some.inj hv
  have RH:¬ b < 0:=by omega
  exact ⟨.int k (k.wrap (a * 2 ^ (min b.toNat k.bits))),by simp [binOp,Op.shift,RH],.d _ _ (.int _ _)⟩
 case shr =>
  split at hv
  case isFalse=>cases hv
  rename_i hb
  obtain rfl:=Option.some.inj hv
  have RH:¬ b < 0:=by omega
  exact ⟨.int k (a.fdiv (2 ^ (min b.toNat k.bits))),by simp [binOp,Op.shift,RH],.d _ _ (.int _ _)⟩
 all_goals (split at hv<;>cases hv)
theorem O4 {op:BinOp} {a b:List UInt8} {v:V} (hv:vL op a b=some v):∃ z,(Op.stringOp op ⟨a.toArray⟩ ⟨b.toArray⟩).run P w = .ok z w∧VR c w v z:=by
 cases op<;>simp only [vL] at hv
 case add =>
  split at hv
  case isFalse=>cases hv
  rename_i hle
  obtain rfl:=Option.some.inj hv
  refine ⟨.string ⟨(a++b).toArray⟩,?_,.d _ _ (.str _ (by simp;omega))⟩
  rw [run_string_add_sum w _ _ (by simp [ByteArray.size_mk'];omega),ByteArray.mk_append_mk]
 case eql =>
  obtain rfl:=Option.some.inj hv
  refine ⟨.bool (decide (a=b)),?_,.d _ _ (.bool _)⟩
  simp [Op.stringOp,ByteArray.toList_mk,Bool.beq_eq_decide_eq]
 case neq =>
  obtain rfl:=Option.some.inj hv
  refine ⟨.bool (!decide (a=b)),?_,.d _ _ (.bool _)⟩
  simp [Op.stringOp,ByteArray.toList_mk,Bool.beq_eq_decide_eq]
 case lss =>
  obtain rfl:=Option.some.inj hv
  refine ⟨.bool (Op.bytesLess a b),?_,.d _ _ (.bool _)⟩
  simp [Op.stringOp,ByteArray.toList_mk]
 case leq =>
  obtain rfl:=Option.some.inj hv
  refine ⟨.bool (Op.bytesLess a b || decide (a=b)),?_,.d _ _ (.bool _)⟩
  simp [Op.stringOp,ByteArray.toList_mk,Bool.beq_eq_decide_eq]
 case gtr =>
  obtain rfl:=Option.some.inj hv
  refine ⟨.bool (!(Op.bytesLess a b || decide (a=b))),?_,.d _ _ (.bool _)⟩
  simp [Op.stringOp,ByteArray.toList_mk,Bool.beq_eq_decide_eq]
 case geq =>
  obtain rfl:=Option.some.inj hv
  refine ⟨.bool (!Op.bytesLess a b),?_,.d _ _ (.bool _)⟩
  simp [Op.stringOp,ByteArray.toList_mk]
 all_goals cases hv
theorem run_equalIn_bool (d:Nat) (t:TypeId) (h:P.underlying t=some .bool) (a b:Bool):(Op.equalIn (d+1) t (.bool a) (.bool b)).run P w = .ok (a == b) w:=by
 simp [Op.equalIn,run_underlying h]
theorem run_equal_bool (t:TypeId) (h:P.underlying t=some .bool) (a b:Bool):(Op.equal t (.bool a) (.bool b)).run P w = .ok (a == b) w:=by
 exact run_equalIn_bool 9999 t h a b
theorem uU (n:Nat) (t e:TypeId) (h:P.underlying t=some (.pointer e)) (a b:Option Addr) (hn:a=none∨b=none):(Op.equalIn (n+1) t (.pointer a) (.pointer b)).run P w = .ok (a.isNone && b.isNone) w:=by
 rcases hn with rfl | rfl
 ·cases b<;>simp [Op.equalIn,run_underlying h]
 ·cases a<;>simp [Op.equalIn,run_underlying h]
theorem yA (t e:TypeId) (h:P.underlying t=some (.pointer e)) (a b:Option Addr) (hn:a=none∨b=none):(Op.equal t (.pointer a) (.pointer b)).run P w = .ok (a.isNone && b.isNone) w :=
 uU 9999 t e h a b hn
theorem LN {x y:V} {X Y:Value} (hx:VR c w x X) (hy:VR c w y Y) {b:Bool} (h:ptrEq x y=some b):∃ p q,X = .pointer p∧Y = .pointer q∧(p=none∨q=none)∧b=(p.isNone && q.isNone):=by
 unfold ptrEq at h
 split at h
 case h_6=>cases h
 all_goals
  obtain rfl:=Option.some.inj h
  cases hx
  cases hy
  exact ⟨_,_,rfl,rfl,by simp,rfl⟩
theorem SR {op:BinOp} {t:TypeId} {x y v:V} {X Y:Value} (hx:VR c w x X) (hy:VR c w y Y) (hv:vM P op t x y=some v) (ex ey:Operand):∃ z,(do eqGuard op t ex ey X Y;binOp op t X Y:Sem Value).run P w = .ok z w∧VR c w v z:=by
 unfold vM at hv
 split at hv
 case h_4 =>
  unfold LK at hv
  split at hv
  case h_2=>cases hv
  rename_i ti ht
  obtain ⟨fi,d,z,h1,h2,h3,h4,h5,h6,_⟩:=aI ht
  split at hv
  case h_3=>cases hv
  all_goals
   rename_i b hd hb
   obtain rfl:=Option.some.inj hv
   obtain ⟨p,q,rfl,rfl,hn,rfl⟩:=LN hx hy hb
   rw [hd] at h6
   obtain ⟨e,rfl⟩:=Ay h6
   refine ⟨.bool _,?_,.d _ _ (.bool _)⟩
   have hg:∀ o,(eqGuard o t ex ey (.pointer p) (.pointer q)).run P w = .ok () w:=by
    intro o
    unfold eqGuard
    cases o<;>rfl
   rw [Sem.run_bind,hg]
   simp only [Result.andThen_ok,binOp,Sem.run_bind,yA t e h2 p q hn,Sem.run_pure]
 ·rename_i k a k' b
  cases hx with
  | d _ _ hx=>cases hx with
   | int _ _=>cases hy with
    | d _ _ hy=>cases hy with
     | int _ _ =>
      have hg:(eqGuard op t ex ey (.int k a) (.int k' b)).run P w = .ok () w:=by
       unfold eqGuard
       cases op<;>rfl
      rw [Sem.run_bind,hg]
      exact O3 hv
 ·rename_i a b
  cases hx with
  | d _ _ hx=>cases hx with
   | str _ ha=>cases hy with
    | d _ _ hy=>cases hy with
     | str _ hb =>
      have hg:(eqGuard op t ex ey (.string ⟨a.toArray⟩) (.string ⟨b.toArray⟩)).run P w = .ok () w:=by
       unfold eqGuard
       cases op<;>rfl
      rw [Sem.run_bind,hg]
      have Zz:binOp op t (.string ⟨a.toArray⟩) (.string ⟨b.toArray⟩)=Op.stringOp op ⟨a.toArray⟩ ⟨b.toArray⟩:=by cases op<;>rfl
      simp only [Result.andThen_ok,Zz]
      exact O4 hv
 ·rename_i a b
  cases hx with
  | d _ _ hx=>cases hx with
   | bool _=>cases hy with
    | d _ _ hy=>cases hy with
     | bool _ =>
      split at hv
      case h_2=>cases hv
      rename_i ti ht
      obtain ⟨fi,d,z,h1,h2,h3,h4,h5,h6,_⟩:=aI ht
      have hg:(eqGuard op t ex ey (.bool a) (.bool b)).run P w = .ok () w:=by
       unfold eqGuard
       cases op<;>rfl
      rw [Sem.run_bind,hg]
      simp only [Result.andThen_ok]
      split at hv
      case h_3=>cases hv
      all_goals
       rename_i he
       rw [he] at h6
       obtain rfl:=I1 h6
       obtain rfl:=Option.some.inj hv
       refine ⟨.bool _,?_,.d _ _ (.bool _)⟩
       simp only [binOp,Sem.run_bind,run_equal_bool t h2,Result.andThen_ok,Sem.run_pure]
theorem VO {op:UnOp} {x v:V} {X:Value} (hx:VR c w x X) (hv:I2 op x=some v):∃ z,(Op.unary op X).run P w = .ok z w∧VR c w v z:=by
 unfold I2 at hv
 split at hv
 case h_3=>cases hv
 ·obtain rfl:=Option.some.inj hv
  cases hx with
  | d _ _ hx=>cases hx with
   | bool b=>exact ⟨_,rfl,.d _ _ (.bool _)⟩
 ·obtain rfl:=Option.some.inj hv
  cases hx with
  | d _ _ hx=>cases hx with
   | int k n=>exact ⟨_,rfl,.d _ _ (.int _ _)⟩
end
section
variable {P:Program} {c:Cx} {w:World} {S:Mem}
theorem Fh {M:Nat→Nat→Prop} {w:World} {s:List UInt8} {a:Option Addr} {n cap:Nat} (h:DR M w (.sl (s.map eX)) (.slice a n cap)):n=s.length∧(s ≠ []→∃ g off,a=some ⟨g,off,none⟩∧∀ j u,(bv s)[j]? = some u→w.cell? ⟨g,off+j,none⟩=some u):=by
 obtain ⟨hn,hc,hm,F,hs,hd⟩:=h.flat 1 (by intro r hr;obtain ⟨b,_,rfl⟩:=List.mem_map.1 hr;rfl)
 refine ⟨by simpa using hn,fun cm=>?_⟩
 obtain ⟨_,g,off,ha,jY⟩:=hs (by simpa using cm)
 refine ⟨g,off,ha,fun j u hu=>?_⟩
 have hj:j < s.length:=by
  have:=(List.getElem?_eq_some_iff.1 hu).1
  simpa [bv] using this
 have h1:=(jY j (by simpa using hj)).2
 have h2:=hd j (by simpa using hj) 0 (by simp [eX])
 simp only [List.getElem_map,eX,List.getElem_cons_zero,Nat.mul_one,Nat.add_zero] at h2
 rw [h1]
 simp only [bv,List.getElem?_map,List.getElem?_eq_getElem hj,Option.map_some,Option.some.injEq] at hu
 subst hu
 generalize F j=y at h2 ⊢
 cases h2
 rfl
theorem zf (w:World) (g n b:Nat):(w.freeze ⟨g,n,none⟩ 1).heap[b]? = if g=b then (w.heap[b]?).map (fun
 | .cells c elem (lo,hi)=>.cells c elem (if lo == hi then (n,n+1) else (min lo n,max hi (n+1)))
 | o=>o) else w.heap[b]?:=by
 unfold World.freeze
 rw [if_neg (by decide)]
 simp only [Array.getElem?_modify]
 split<;>rfl
theorem dz.freeze (h:dz c w S) {g:Nat} (hg:c.B≤g) (hρ:g ∉ c.ρ) {cs:Array Value} {T:TypeId} {fz:Nat × Nat} (hh:w.heap[g]? = some (.cells cs T fz)):dz c (w.freeze ⟨g,cs.size,none⟩ 1) S∧Ext c w c (w.freeze ⟨g,cs.size,none⟩ 1):=by
 have hold:∀ b,b ≠ g→(w.freeze ⟨g,cs.size,none⟩ 1).heap[b]? = w.heap[b]?:=fun b hb=>by rw [zf,if_neg (fun e=>hb e.symm)]
 have iM:(w.freeze ⟨g,cs.size,none⟩ 1).heap[g]? = some (.cells cs T (if fz.1 == fz.2 then (cs.size,cs.size+1) else (min fz.1 cs.size,max fz.2 (cs.size+1)))):=by
  rw [zf,if_pos rfl,hh]
  rfl
 have nM:(w.freeze ⟨g,cs.size,none⟩ 1).heap.size=w.heap.size:=by
  unfold World.freeze
  rw [if_neg (by decide)]
  simp
 have eZ:∀ b k,(w.freeze ⟨g,cs.size,none⟩ 1).cell? ⟨b,k,none⟩=w.cell? ⟨b,k,none⟩:=by
  intro b k
  by_cases hb:b=g
  ·subst hb
   simp [World.cell?,iM,hh]
  ·simp only [World.cell?,hold b hb]
 have As:Below c.B w (w.freeze ⟨g,cs.size,none⟩ 1):=by
  refine ⟨?_,?_,?_,by rw [nM];exact Nat.le_refl _,fun k hk=>hold k (by omega)⟩
  all_goals
   unfold World.freeze
   rw [if_neg (by decide)]
 have hk:iA c w c (w.freeze ⟨g,cs.size,none⟩ 1):=⟨fun b k v hm hv=>⟨hm,by rw [eZ];exact hv⟩,fun _ _ h=>h,fun _ i h=>⟨i,h,rfl,Nat.le_refl _,fun _=>rfl⟩,rfl,fun b T' h=>by
  by_cases e:b=g
  ·subst e
   obtain ⟨cs1,fz1,h⟩:=h
   rw [hh] at h
   obtain ⟨rfl,rfl,rfl⟩:cs=cs1∧T=T'∧fz=fz1:=Obj.cells.inj (Option.some.inj h)
   exact ⟨_,_,iM⟩
  ·exact h.mJ (hold b e)⟩
 refine ⟨⟨⟨h.hB.1,by rw [nM];exact h.hB.2⟩,h.len,fun i b hi=>?_,h.inj,h.aL,fun t i ht=>?_,h.rG,fun w' OS=>h.inv w' (As.trans OS)⟩,hk,rfl,rfl,rfl,As⟩
 ·obtain ⟨a,o1,OU,vs,e1,e2⟩:=h.box i b hi
  have cm:b ≠ g:=fun e=>hρ (jj.2 ⟨i,by rw [← e];exact hi⟩)
  exact ⟨a,o1,by rw [hold b cm];exact OU,vs,e1,e2.eC hk⟩
 ·obtain ⟨a1,a2,a3,a4,a5⟩:=h.tok t i ht
  refine ⟨a1,a2,a3,a4,fun hn g2 off ha=>?_⟩
  obtain ⟨b1,b2,cur,T2,UQ,SK,b3,b4⟩:=a5 hn g2 off ha
  by_cases cm:g2=g
  ·subst cm
   rw [hh] at SK
   obtain ⟨rfl,rfl,rfl⟩:cs=cur∧T=T2∧fz=UQ:=by
    have:=Obj.cells.inj (Option.some.inj SK)
    exact this
   refine ⟨b1,b2,cs,T,_,iM,b3,.inl ?_⟩
   split
   ·exact b3
   ·rename_i Ct
    rcases b4 with b4 | b4
    ·show _≤min fz.1 cs.size
     omega
    ·exact absurd (by rw [b4];exact beq_self_eq_true _) Ct
  ·exact ⟨b1,b2,cur,T2,UQ,by rw [hold g2 cm];exact SK,b3,b4⟩
theorem O5 (h:dz c w S) {src dst:TypeId} {x v:V} {X:Value} (hx:VR c w x X) (hv:AD P src dst x=some v):∃ y w',(convert src dst X).run P w = .ok y w'∧dz c w' S∧Ext c w c w'∧VR c w' v y:=by
 unfold AD at hv
 split at hv
 case h_2=>cases hv
 rename_i si di hsi Yd
 obtain ⟨fi,d,z,h1,h2,h3,h4,h5,h6,_⟩:=aI hsi
 obtain ⟨gi,d2,z2,g1,g2,g3,g4,g5,g6,_⟩:=aI Yd
 split at hv
 case h_6=>cases hv
 case h_5 e rows0 hdd hd =>
  unfold rN at hv
  split at hv
  case h_2=>cases hv
  rename_i r rows
  split at hv
  case isFalse=>cases hv
  rename_i hsd
  subst hsd
  split at hv
  case h_2=>cases hv
  rename_i te nN
  split at hv
  case h_2=>cases hv
  rename_i UU
  obtain rfl:=Option.some.inj hv
  rw [hdd] at g6
  obtain rfl:=bW g6
  obtain ⟨ei,d3,z3,e1,e2,e3,e4,e5,e6,_⟩:=aI nN
  rw [UU] at e6
  obtain rfl:=rM e6
  have Yj:=hx
  cases hx with
  | full _ a hD ha =>
   obtain ⟨g,off,rfl,hM,v,O0⟩:∃ g off,a=some ⟨g,off,none⟩∧¬ c.M g off∧∃ v,w.cell? ⟨g,off,none⟩=some v:=by
    cases hD with
    | sl _ sz _ cap f dJ hr hc hm hs UP =>
     obtain ⟨g,off,rfl,Ld⟩:=hs (by simp)
     have VK:=hr r List.mem_cons_self
     have:=Ld 0 (by simp) 0 (by simp;omega)
     simp only [Nat.zero_mul,Nat.add_zero] at this
     exact ⟨g,off,rfl,this.1,_,this.2⟩
   obtain ⟨_,Yf⟩:=ha _ rfl
   obtain ⟨cs,T,fz,hh⟩:∃ cs T fz,w.heap[g]? = some (.cells cs T fz):=by
    unfold World.cell? at O0
    cases hb:w.heap[g]? with
    | none=>simp [hb] at O0
    | some o =>
     cases o with
     | cells cs T fz=>exact ⟨cs,T,fz,rfl⟩
     | _=>simp [hb] at O0
   have hρ:g ∉ c.ρ:=fun hm=>hM (.inl (.inr hm))
   obtain ⟨q1,q2⟩:=h.freeze Yf hρ hh
   refine ⟨_,_,?_,q1,q2,Yj.ext q2⟩
   have ye:w.shape? g=some (T,cs.size):=by
    unfold World.shape?
    rw [hh]
   simp [convert,run_underlying g2,run_underlying e2,markStringish,ye]
 ·rename_i k k' n hdd hd
  obtain rfl:=Option.some.inj hv
  rw [hdd] at g6
  obtain rfl:=rM g6
  have hD:=fU hx hd
  cases hD
  refine ⟨_,w,?_,h,.refl _ _,.d _ _ (.int _ _)⟩
  simp only [convert,Sem.run_bind,run_underlying h2,run_underlying g2,Result.andThen_ok]
  rfl
 ·rename_i s hdd hd
  obtain rfl:=Option.some.inj hv
  rw [hdd] at g6
  obtain rfl:=iC g6
  have hD:=fU hx hd
  cases hD with
  | str _ hl =>
   refine ⟨_,w,?_,h,.refl _ _,.d _ _ (.str _ hl)⟩
   simp only [convert,Sem.run_bind,run_underlying h2,run_underlying g2,Result.andThen_ok]
   rfl
 ·rename_i rows hdd hd
  split at hv
  case h_2=>cases hv
  rename_i e he
  split at hv
  case h_2=>cases hv
  rename_i te nN
  split at hv
  case h_2=>cases hv
  rename_i UU
  obtain ⟨s,hs,rfl⟩:=Option.map_eq_some_iff.1 hv
  obtain rfl:=uf rows s hs
  rw [hdd] at g6
  obtain rfl:=iC g6
  rw [he] at h6
  obtain rfl:=bW h6
  obtain ⟨ei,d3,z3,e1,e2,e3,e4,e5,e6,_⟩:=aI nN
  rw [UU] at e6
  obtain rfl:=rM e6
  have hD:=fU hx hd
  have m8:∃ a n cap,X = .slice a n cap:=by cases hD;exact ⟨_,_,_,rfl⟩
  obtain ⟨a,n,cap,rfl⟩:=m8
  obtain ⟨hn,jY⟩:=Fh hD
  have qP:n≤9223372036854775807:=by
   obtain ⟨x1,x2,x3,_⟩:=hD.flat 1 (by intro r hr;obtain ⟨b,_,rfl⟩:=List.mem_map.1 hr;rfl)
   omega
  refine ⟨.string ⟨s.toArray⟩,w,?_,h,.refl _ _,.d _ _ (.str _ (by omega))⟩
  by_cases Lz:s=[]
  ·subst Lz
   have:n=0:=hn
   subst this
   cases a with
   | none=>exact run_convert_bytes_nil (P:=P) w src e h2 e2 0 cap dst g2
   | some p =>
    rw [run_convert_bytes_string w src dst e _ 0 cap h2 e2 g2]
    simp [Conv.bytesToString,loadCells,loadCellsFrom]
    rfl
  ·obtain ⟨g,off,rfl,hc⟩:=jY Lz
   exact qv src e dst h2 e2 g2 g off cap n s hn.symm hc
 ·rename_i e s hdd hd
  split at hv
  case h_2=>cases hv
  rename_i te nN
  split at hv
  case h_2=>cases hv
  rename_i UU
  obtain rfl:=Option.some.inj hv
  rw [hdd] at g6
  obtain rfl:=bW g6
  obtain ⟨ei,d3,z3,e1,e2,e3,e4,e5,e6,_⟩:=aI nN
  rw [UU] at e6
  obtain rfl:=rM e6
  have hD:=fU hx hd
  cases hD with
  | str _ hl =>
   have dJ:(ByteArray.mk s.toArray).size=s.length:=by simp [ByteArray.size_mk']
   have hb:=ji w w.heap.size e ⟨s.toArray⟩ (Nat.le_refl _)
   obtain ⟨r1,r2⟩:=h.under hb
   refine ⟨_,_,Lib.run_convert_string_bytes (P:=P) w src dst e ⟨s.toArray⟩ h2 g2 e2,r1,r2,.d _ _ ?_⟩
   have mc:=grownCap_ge w s.length 0 e
   have hle:=grownCap_le_maxLen w s.length 0 e hl
   rw [dJ]
   have:s.length=(s.map eX).length:=by simp
   rw [this] at mc hle ⊢
   refine .sl (s.map eX) 1 _ _ (fun j _=>.int .u8 (((ByteArray.mk s.toArray).data.toList.getD j 0).toNat:Int)) (by omega) (by intro r hr;obtain ⟨b,_,rfl⟩:=List.mem_map.1 hr;rfl) mc hle (fun _=>⟨w.heap.size,0,rfl,fun j hj q hq=>?_⟩) (fun j hj q hq=>?_)
   ·have SS:q=0:=by simp [eX] at hq;exact hq
    subst SS
    refine ⟨h.vD (Nat.le_refl _),?_⟩
    simp only [Nat.zero_add,Nat.mul_one,Nat.add_zero]
    exact Lib.bytesWorld_cell w e ⟨s.toArray⟩ j (by rw [dJ];simpa using hj)
   ·have SS:q=0:=by simp [eX] at hq;exact hq
    subst SS
    have eS:j < s.length:=by simpa using hj
    simp only [List.getElem_map,eX,List.getElem_cons_zero]
    have:(ByteArray.mk s.toArray).data.toList.getD j 0=s[j]:=by simp [List.getD,eS]
    rw [this]
    exact .int _ _
theorem vN (h:dz c w S) {ts us ty:TypeId} {s x v:V} {S':Mem} {A X:Value} (hs:VR c w s A) (hx:VR c w x X) (hv:jl P ts us S s x=some (v,S')) :
 ∃ y w' c',(Builtin.append_ #[ts,us] ty #[A,X]).run P w = .ok y w'∧dz c' w' S'∧Ext c w c' w'∧VR c' w' v y:=by
 unfold jl at hv
 split at hv
 case h_2=>cases hv
 rename_i ti rows t jZ
 split at hv
 case h_2=>cases hv
 rename_i e he
 split at hv
 case h_2=>cases hv
 rename_i te nN
 split at hv
 case h_2=>cases hv
 rename_i n sz an LP iM
 split at hv
 case isFalse=>cases hv
 rename_i nO
 obtain ⟨rfl,rfl,c3,c4,c5⟩:=nO
 obtain ⟨rfl,rfl⟩:=Prod.mk.inj (Option.some.inj hv)
 obtain ⟨fi,d,z,h1,h2,h3,h4,h5,h6,_⟩:=aI jZ
 obtain ⟨gi,d2,z2,g1,g2,g3,g4,g5,g6,g7,g8,_⟩:=aI nN
 rw [he] at h6
 obtain rfl:=bW h6
 have T:yw P ts e te.size te.bytes:=⟨h2,gi,z2,g1,g3,g4,g5,g8⟩
 have dJ:=gv c3
 unfold rO at iM
 split at iM
 case h_3=>cases iM
 ·rename_i ui VP LQ hd
  split at iM
  case h_2=>cases iM
  rename_i e2 LR
  obtain rfl:=Option.some.inj iM
  obtain ⟨Yk,d3,z3,u1,u2,u3,u4,u5,u6,_⟩:=aI LQ
  rw [LR] at u6
  obtain rfl:=bW u6
  have hD:=fU hx hd
  have m8:∃ a n cap,X = .slice a n cap:=by cases hD;exact ⟨_,_,_,rfl⟩
  obtain ⟨a,n,cap,rfl⟩:=m8
  obtain ⟨hn,_,_,F,hF,VQ⟩:=hD.flat te.size dJ
  subst hn
  exact h.app hs LP T ⟨_,u2,by simp⟩ dJ F (fun W=>by simp [Builtin.lenOf]) (fun W hW=>kD rfl hF W hW) VQ c4 c5
 ·rename_i ui q LQ hd
  split at iM
  case h_2=>cases iM
  rename_i O6 UU
  split at iM
  case isFalse=>cases iM
  rename_i VS
  obtain rfl:=Option.some.inj iM
  obtain ⟨Yk,d3,z3,u1,u2,u3,u4,u5,u6,_⟩:=aI LQ
  rw [O6] at u6
  obtain rfl:=iC u6
  have hD:=fU hx hd
  cases hD with
  | str _ hl =>
   refine h.app hs LP T ⟨_,u2,by simp⟩ dJ (fun k=>.int .u8 ((q.getD k 0).toNat:Int)) (fun W=>by simp [Builtin.lenOf,ByteArray.size_mk']) (fun W _=>?_) (fun j hj r hr=>?_) c4 c5
   ·have:=Lib.run_firstCells_string (P:=P) W te.size ⟨q.toArray⟩
    simp only [ByteArray.size_mk',List.size_toArray] at this
    simp only [List.length_map]
    rw [this,VS,Nat.mul_one]
    congr 2
    apply List.ext_getElem?
    intro j
    by_cases hj:j < q.length
    ·simp [hj,List.getD,Lib.strCells]
    ·simp [hj,Lib.strCells]
   ·have eS:j < q.length:=by simpa using hj
    have VK:r=0:=by simp [eX] at hr;exact hr
    subst VK
    simp only [List.getElem_map,eX,List.getElem_cons_zero,VS,Nat.mul_one,Nat.add_zero]
    have:q.getD j 0=q[j]:=by simp [List.getD,eS]
    rw [this]
    exact .int _ _
theorem I3 (h:dz c w S) {ts us ty:TypeId} {s x v:V} {S':Mem} {A X:Value} (hs:VR c w s A) (hx:VR c w x X) (hv:iN P ts us S s x=some (v,S')) :
 ∃ y w' c',(Builtin.append_ #[ts,us] ty #[A,X]).run P w = .ok y w'∧dz c' w' S'∧Ext c w c' w'∧VR c' w' v y:=by
 unfold iN at hv
 split at hv
 ·rename_i rows
  unfold pP at hv
  split at hv
  case h_2=>cases hv
  split at hv
  case h_2=>cases hv
  split at hv
  case h_2=>cases hv
  rename_i te _
  split at hv
  case isFalse=>cases hv
  rename_i hc
  obtain ⟨c1,r1,r2,r3⟩:=h.token hs te.size hc.1 (gv hc.2)
  obtain ⟨y,w',c',a1,a2,a3,a4⟩:=vN r1 (ty:=ty) r3 (hx.ext r2) hv
  exact ⟨y,w',c',a1,a2,r2.trans a3,a4⟩
 ·exact vN h hs hx hv
end
def j4:List (List UInt8)→List UInt8→Option Nat
 | [],_=>none
 | k :: ks,s=>if k=s then some 0 else (j4 ks s).map (· + 1)
def Cu (ks:List (List UInt8)) (vs:List V) (s:List UInt8):Option V :=
 match j4 ks s with
 | some j=>vs[j]?
 | none=>none
def AG (ks:List (List UInt8)) (vs:List V) (s:List UInt8) (v:V):List V :=
 match j4 ks s with
 | some j=>[.oy ks (vs.set j v)]
 | none=>[.oy (ks++[s]) (vs++[v])]
def O7 (ks:List (List UInt8)) (vs:List V) (s:List UInt8):List V :=
 match j4 ks s with
 | some j=>[.oy (ks.eraseIdx j) (vs.eraseIdx j)]
 | none=>[.oy ks vs]
theorem pQ:∀ {ks:List (List UInt8)} {s:List UInt8} {j:Nat},j4 ks s=some j→ks[j]? = some s
 | [],_,_,h=>by cases h
 | k :: ks,s,j,h=>by
  rw [j4] at h
  split at h
  ·rename_i e
   obtain rfl:=Option.some.inj h
   rw [e];rfl
  ·obtain ⟨i,hi,rfl⟩:=Option.map_eq_some_iff.1 h
   simpa using pQ hi
def qy (P:Program) (t:TypeId):Option V :=
 match P.underlying t with
 | some (.map k e)=>match P.underlying k,P.info? e with
  | some .string,some i=>i.zero.map vH
  | _,_=>none
 | _=>none
def gy (z:V) (v:Option V) (ok:Bool):V :=
 match v with
 | some v=>if ok then .bY [v,.d (.bool true)] else v
 | none=>if ok then .bY [z,.d (.bool false)] else z
def cZ (P:Program) (S:Mem) (t:TypeId) (m k:V) (ok:Bool):Option V :=
 match qy P t,m,k with
 | some z,.mp i,.d (.str s)=>match S.boxes[i]? with
  | some [.oy ks vs]=>some (gy z (Cu ks vs s) ok)
  | _=>none
 | _,_,_=>none
def fh (P:Program) (S:Mem) (t:TypeId) (m k v:V):Option (V × Mem) :=
 match qy P t,m,k with
 | some _,.mp i,.d (.str s)=>match S.boxes[i]? with
  | some [.oy ks vs]=>some (.undef,{ S with boxes:=S.boxes.set i (AG ks vs s v) })
  | _=>none
 | _,_,_=>none
def oF (P:Program) (S:Mem) (t:TypeId) (m k:V):Option (V × Mem) :=
 match qy P t,m,k with
 | some _,.mp i,.d (.str s)=>match S.boxes[i]? with
  | some [.oy ks vs]=>some (.bY [],{ S with boxes:=S.boxes.set i (O7 ks vs s) })
  | _=>none
 | _,_,_=>none
section
variable {P:Program} {c:Cx} {w:World} {S:Mem}
theorem vO {t:TypeId} {z:V} (h:qy P t=some z):∃ k e f x,P.underlying t=some (.map k e)∧P.underlying k=some .string∧P.info? e=some f∧f.zero=some x∧z=vH x:=by
 unfold qy at h
 split at h
 case h_2=>cases h
 rename_i k e ht
 split at h
 case h_2=>cases h
 rename_i f hk hf
 obtain ⟨x,hx,rfl⟩:=Option.map_eq_some_iff.1 h
 exact ⟨k,e,f,x,ht,hk,hf,hx,rfl⟩
theorem eF {k:TypeId} (hk:P.underlying k=some .string) (em:Bool) (x:Value):(Instr.checkKey em 10000 k x).run P w = .ok () w:=by
 rw [show (10000:Nat)=9999+1 from rfl,Instr.checkKey]
 simp [run_underlying hk]
def Keys (es:List MapEntry) (ks:List (List UInt8)):Prop:=es.length=ks.length∧∀ (j:Nat) (k:List UInt8),ks[j]? = some k→∃ e,es[j]? = some e∧e.key = .string ⟨k.toArray⟩
theorem ug (s:List UInt8):∀ (es:List MapEntry) (ks:List (List UInt8)) (i:Nat),Keys es ks →
 Instr.findNow .string (.string ⟨s.toArray⟩) es i=some (match j4 ks s with | some j=>(es[j]?).map fun e=>(i+j,e.val) | none=>none)
 | [],ks,i,h=>by
  obtain rfl:ks=[]:=List.eq_nil_of_length_eq_zero h.1.symm
  rfl
 | e :: es,[],i,h=>by cases h.1
 | e :: es,k :: ks,i,h=>by
  obtain ⟨e',he,hk⟩:=h.2 0 k rfl
  obtain rfl:e=e':=by simpa using he
  have h':Keys es ks:=⟨by simpa using h.1,fun j k hj=>h.2 (j+1) k hj⟩
  have ih:=ug s es ks (i+1) h'
  rw [Instr.findNow,hk,j4]
  by_cases yf:k=s
  ·subst yf
   have hb:((⟨k.toArray⟩:ByteArray) == ⟨k.toArray⟩)=true:=(MapKept.bytes_beq _ _).2 rfl
   simp [Instr.sameNow,hb]
  ·have hb:((⟨s.toArray⟩:ByteArray) == ⟨k.toArray⟩)=false:=by
    rw [Bool.eq_false_iff]
    intro hb
    have:=(MapKept.bytes_beq _ _).1 hb
    injection this with this
    exact yf (by simpa using (congrArg Array.toList this).symm)
   simp only [Instr.sameNow,hb,if_neg yf]
   rw [ih]
   cases j4 ks s with
   | none=>rfl
   | some j=>simp [Nat.add_assoc,Nat.add_comm 1 j]
theorem oG {k:TypeId} (hk:P.underlying k=some .string) {s:List UInt8} {es:List MapEntry} {ks:List (List UInt8)} (h:Keys es ks) :
 (Instr.findKey k (.string ⟨s.toArray⟩) es).run P w = .ok (match j4 ks s with | some j=>(es[j]?).map fun e=>(j,e.val) | none=>none) w:=by
 unfold Instr.findKey
 have:=ug s es ks 0 h
 simp only [Nat.zero_add] at this
 simp [run_underlying hk,this]
theorem dz.map (h:dz c w S) {i b:Nat} (hi:c.ρ[i]? = some b) {ks:List (List UInt8)} {vs:List V} (hb:S.boxes[i]? = some [.oy ks vs]):∃ (es:Array MapEntry) (ck:Nat),w.heap[b]? = some (.map es ck)∧es.size=ks.length∧ks.length=vs.length ∧
 ∀ (j:Nat) (k:List UInt8) (v:V),ks[j]? = some k→vs[j]? = some v→∃ e,es[j]? = some e∧e.key = .string ⟨k.toArray⟩∧VR c w v e.val:=by
 obtain ⟨_,o,ho,us,e1,e2⟩:=h.box i b hi
 rw [hb] at e1
 obtain rfl:=Option.some.inj e1
 cases e2 with
 | cells cs T _ h1 h2 =>
  have:=(h2 0 (by simp)).1
  simp only [List.getElem_cons_zero] at this
  cases this
 | map es ck ks us h0 h1 h2=>exact ⟨es,ck,ho,h0,h1,h2⟩
theorem Fi {s:List UInt8} {x:Value} (h:VR c w (.d (.str s)) x):x = .string ⟨s.toArray⟩:=by
 cases h with
 | d _ _ h=>cases h;rfl
theorem I4 (h:dz c w S) {t:TypeId} {m k v:V} {M K:Value} {ok:Bool} (hm:VR c w m M) (hk:VR c w k K) (hv:cZ P S t m k ok=some v):∃ y,(Instr.lookup t M K ok).run P w = .ok y w∧VR c w v y:=by
 unfold cZ at hv
 split at hv
 case h_2=>cases hv
 rename_i z i s hz
 split at hv
 case h_2=>cases hv
 rename_i ks vs hb
 obtain rfl:=Option.some.inj hv
 obtain rfl:=Fi hk
 obtain ⟨kt,et,f,x,q1,q2,q3,q4,rfl⟩:=vO hz
 cases hm with
 | mp _ b hi =>
  obtain ⟨es,ck,hh,h0,h1,h2⟩:=h.map hi hb
  have uh:Keys es.toList ks:=⟨by simpa using h0,fun j k hj=>by
   have au:=(List.getElem?_eq_some_iff.1 hj).1
   obtain ⟨e,he,hk,_⟩:=h2 j k (vs[j]'(by omega)) hj (List.getElem?_eq_getElem (by omega))
   exact ⟨e,by simpa using he,hk⟩⟩
  have hf:=oG (P:=P) (w:=w) (s:=s) q2 uh
  cases hj:j4 ks s with
  | none =>
   rw [hj] at hf
   have hg:Cu ks vs s=none:=by simp [Cu,hj]
   rw [hg]
   cases ok with
   | true=>exact ⟨.tuple #[x,.bool false],by simp [Instr.lookup,run_underlying q1,MapKept.run_getObj_map hh,eF q2,hf,zeroValue,typeInfo,q3,q4],.bY _ _ rfl (fun j hj=>by
    match j,hj with
    | 0,_=>exact vI c w x
    | 1,_=>exact .d _ _ (.bool _))⟩
   | false=>exact ⟨x,by simp [Instr.lookup,run_underlying q1,MapKept.run_getObj_map hh,eF q2,hf,zeroValue,typeInfo,q3,q4],vI c w x⟩
  | some j =>
   have hk:=pQ hj
   have au:=(List.getElem?_eq_some_iff.1 hk).1
   obtain ⟨e,he,_,Yl⟩:=h2 j s (vs[j]'(by omega)) hk (List.getElem?_eq_getElem (by omega))
   have zg:es.toList[j]? = some e:=by simpa using he
   rw [hj] at hf
   simp only [zg,Option.map_some] at hf
   have hg:Cu ks vs s=some (vs[j]'(by omega)):=by simp [Cu,hj]
   rw [hg]
   cases ok with
   | true=>exact ⟨.tuple #[e.val,.bool true],by simp [Instr.lookup,run_underlying q1,MapKept.run_getObj_map hh,eF q2,hf],.bY _ _ rfl (fun j hj=>by
    match j,hj with
    | 0,_=>exact Yl
    | 1,_=>exact .d _ _ (.bool _))⟩
   | false=>exact ⟨e.val,by simp [Instr.lookup,run_underlying q1,MapKept.run_getObj_map hh,eF q2,hf],Yl⟩
theorem dz.AH (h:dz c w S) {i b:Nat} (hi:c.ρ[i]? = some b) {es0:Array MapEntry} {ck0:Nat} (hh:w.heap[b]? = some (.map es0 ck0)) (es:Array MapEntry) (ck:Nat) (ks:List (List UInt8)) (vs:List V) (h0:es.size=ks.length) (h1:ks.length=vs.length)
 (h2:∀ (j:Nat) (k:List UInt8) (v:V),ks[j]? = some k→vs[j]? = some v→∃ e,es[j]? = some e∧e.key = .string ⟨k.toArray⟩∧VR c w v e.val) :
 dz c { w with heap:=w.heap.setIfInBounds b (.map es ck) } { S with boxes:=S.boxes.set i [.oy ks vs] }∧Ext c w c { w with heap:=w.heap.setIfInBounds b (.map es ck) }:=by
 have au:=h.lt hi
 have hB:=(h.box i b hi).1
 refine h.setObj hi (.map es ck) _ (.map es ck ks vs h0 h1 h2) (by simp [au]) (fun k hk=>by simp [hk.symm]) (by simp) ⟨rfl,rfl,rfl,by simp,fun k hk=>?_⟩ (fun T hT=>?_)
 ·have:b ≠ k:=by omega
  simp [this]
 ·obtain ⟨cs,fz,hT⟩:=hT
  rw [hh] at hT
  cases hT
theorem I5 (h:dz c w S) {t:TypeId} {m k v u:V} {M K X:Value} {S':Mem} (hm:VR c w m M) (hk:VR c w k K) (hx:VR c w v X) (hv:fh P S t m k v=some (u,S')):∃ w',(Instr.mapUpdate t M K X).run P w = .ok () w'∧dz c w' S'∧Ext c w c w'∧u = .undef:=by
 unfold fh at hv
 split at hv
 case h_2=>cases hv
 rename_i z i s hz
 split at hv
 case h_2=>cases hv
 rename_i ks vs hb
 obtain ⟨rfl,rfl⟩:=Prod.mk.inj (Option.some.inj hv)
 obtain rfl:=Fi hk
 obtain ⟨kt,et,f,x,q1,q2,q3,q4,rfl⟩:=vO hz
 cases hm with
 | mp _ b hi =>
  obtain ⟨es,ck,hh,h0,h1,h2⟩:=h.map hi hb
  have uh:Keys es.toList ks:=⟨by simpa using h0,fun j k hj=>by
   have au:=(List.getElem?_eq_some_iff.1 hj).1
   obtain ⟨e,he,hk,_⟩:=h2 j k (vs[j]'(by omega)) hj (List.getElem?_eq_getElem (by omega))
   exact ⟨e,by simpa using he,hk⟩⟩
  have hf:=oG (P:=P) (w:=w) (s:=s) q2 uh
  unfold AG
  cases hj:j4 ks s with
  | none =>
   rw [hj] at hf
   have hs:=h.AH hi hh (es.push ⟨.string ⟨s.toArray⟩,X,ck⟩) (ck+1) (ks++[s]) (vs++[v]) (by simp [h0]) (by simp [h1]) (fun j k v' hj E0=>by
    rcases gQ hj with hj | ⟨rfl,rfl⟩
    ·have au:=(List.getElem?_eq_some_iff.1 hj).1
     rw [List.getElem?_append_left (by omega)] at E0
     obtain ⟨e,he,r⟩:=h2 j k v' hj E0
     refine ⟨e,?_,r⟩
     rw [Array.getElem?_push,if_neg (by omega)]
     exact he
    ·rw [List.getElem?_append_right (by omega),h1] at E0
     simp at E0
     subst E0
     exact ⟨_,by rw [Array.getElem?_push,if_pos (by omega)],rfl,hx⟩)
   refine ⟨_,?_,hs.1,hs.2,rfl⟩
   simp [Instr.mapUpdate,run_underlying q1,MapKept.run_getObj_map hh,eF q2,hf,MapKept.run_setObj_map _ hh]
  | some j =>
   have hk:=pQ hj
   have au:=(List.getElem?_eq_some_iff.1 hk).1
   obtain ⟨e,he,ZA,Yl⟩:=h2 j s (vs[j]'(by omega)) hk (List.getElem?_eq_getElem (by omega))
   have zg:es.toList[j]? = some e:=by simpa using he
   rw [hj] at hf
   simp only [zg,Option.map_some] at hf
   have hs:=h.AH hi hh (es.modify j fun e=>{ e with key:=.string ⟨s.toArray⟩,val:=X }) ck ks (vs.set j v) (by simp [h0]) (by simp [h1]) (fun q k v' hq E0=>by
    rw [Array.getElem?_modify]
    by_cases ZB:j=q
    ·subst ZB
     rw [hk] at hq
     obtain rfl:=Option.some.inj hq
     rw [List.getElem?_set_self (by omega)] at E0
     obtain rfl:=Option.some.inj E0
     rw [if_pos rfl,he]
     exact ⟨_,rfl,rfl,hx⟩
    ·rw [List.getElem?_set_ne ZB] at E0
     rw [if_neg ZB]
     exact h2 q k v' hq E0)
   refine ⟨_,?_,hs.1,hs.2,rfl⟩
   have jW:(Instr.keyThatStays (.string ⟨s.toArray⟩) (.string ⟨s.toArray⟩)).run P w = .ok (.string ⟨s.toArray⟩) w:=by
    unfold Instr.keyThatStays
    have:Instr.sameBits 10000 (.string ⟨s.toArray⟩) (.string ⟨s.toArray⟩)=true:=by
     rw [show (10000:Nat)=9999+1 from rfl,Instr.sameBits]
     exact (MapKept.bytes_beq _ _).2 rfl
    rw [if_pos this]
    rfl
   simp [Instr.mapUpdate,run_underlying q1,MapKept.run_getObj_map hh,eF q2,hf,he,ZA,jW,MapKept.run_setObj_map _ hh]
theorem I6 (h:dz c w S) {t t2 ty:TypeId} {m k u:V} {M K:Value} {S':Mem} (hm:VR c w m M) (hk:VR c w k K) (hv:oF P S t m k=some (u,S')):∃ x w',(Builtin.delete_ #[t,t2] ty #[M,K]).run P w = .ok x w'∧dz c w' S'∧Ext c w c w'∧VR c w' u x:=by
 unfold oF at hv
 split at hv
 case h_2=>cases hv
 rename_i z i s hz
 split at hv
 case h_2=>cases hv
 rename_i ks vs hb
 obtain ⟨rfl,rfl⟩:=Prod.mk.inj (Option.some.inj hv)
 obtain rfl:=Fi hk
 obtain ⟨kt,et,f,x,q1,q2,q3,q4,rfl⟩:=vO hz
 cases hm with
 | mp _ b hi =>
  obtain ⟨es,ck,hh,h0,h1,h2⟩:=h.map hi hb
  have uh:Keys es.toList ks:=⟨by simpa using h0,fun j k hj=>by
   have au:=(List.getElem?_eq_some_iff.1 hj).1
   obtain ⟨e,he,hk,_⟩:=h2 j k (vs[j]'(by omega)) hj (List.getElem?_eq_getElem (by omega))
   exact ⟨e,by simpa using he,hk⟩⟩
  have hf:=oG (P:=P) (w:=w) (s:=s) q2 uh
  have qS:∀ w':World,VR c w' (.bY []) (.tuple #[]):=fun w'=>.bY [] #[] rfl fun j h=>absurd h (by simp)
  unfold O7
  cases hj:j4 ks s with
  | none =>
   rw [hj] at hf
   have hs:=h.AH hi hh es ck ks vs h0 h1 h2
   refine ⟨_,_,?_,hs.1,hs.2,qS _⟩
   simp [Builtin.delete_,run_underlying q1,MapKept.run_getObj_map hh,eF q2,hf,MapKept.run_setObj_map _ hh]
  | some j =>
   have hk:=pQ hj
   have au:=(List.getElem?_eq_some_iff.1 hk).1
   obtain ⟨e,he,ZA,Yl⟩:=h2 j s (vs[j]'(by omega)) hk (List.getElem?_eq_getElem (by omega))
   have zg:es.toList[j]? = some e:=by simpa using he
   rw [hj] at hf
   simp only [zg,Option.map_some] at hf
   have SU:j < es.size:=by omega
   have heq:es.eraseIdxIfInBounds j=es.eraseIdx j SU:=by simp [Array.eraseIdxIfInBounds,SU]
   have hs:=h.AH hi hh (es.eraseIdxIfInBounds j) ck (ks.eraseIdx j) (vs.eraseIdx j) (by rw [heq];simp [List.length_eraseIdx,h0,au]) (by simp [List.length_eraseIdx,h1]) (fun q k v' hq E0=>by
    rw [heq,Array.getElem?_eraseIdx]
    rw [List.getElem?_eraseIdx] at hq E0
    split at hq
    ·rename_i mK
     rw [if_pos mK] at E0
     rw [if_pos mK]
     exact h2 q k v' hq E0
    ·rename_i mK
     rw [if_neg mK] at E0
     rw [if_neg mK]
     exact h2 (q+1) k v' hq E0)
   refine ⟨_,_,?_,hs.1,hs.2,qS _⟩
   simp [Builtin.delete_,run_underlying q1,MapKept.run_getObj_map hh,eF q2,hf,MapKept.run_setObj_map _ hh]
theorem Fj (h:dz c w S) (t:TypeId):∃ x w' c',(Instr.makeMap t none).run P w = .ok x w'∧dz c' w' { S with boxes:=S.boxes++[[.oy [] []]] }∧Ext c w c' w'∧VR c' w' (.mp S.boxes.length) x:=by
 have hn:=h.G1 (.map #[] 0) [.oy [] []] (.map #[] 0 [] [] rfl rfl (fun j k v hj=>by simp at hj))
 refine ⟨.map (some w.heap.size),_,_,?_,hn.1,hn.2,.mp _ _ ?_⟩
 ·simp [Instr.makeMap]
 ·show (c.ρ++[w.heap.size])[S.boxes.length]? = _
  rw [h.len];simp
end
def Cv (t:Bool) (a b:V):V :=
 match a,b with
 | .d (.bool x),.d (.bool y)=>.d (.bool (bif t then x else y))
 | a,b=>bif t then a else b
def gT (ev:Operand→V) (parts:Array (Nat × Operand)):List (Nat × V):=parts.toList.map fun p=>(p.1,ev p.2)
def still (S:Mem) (v:Option V):Option (V × Mem):=v.map fun v=>(v,S)
def nk (P:Program) (S:Mem) (t:TypeId) (a x:V):Option (V × Mem) :=
 match bD P t,a,fG x with
 | some ti,.ptr i k,some vs=>match S.boxes[i]? with
  | some us=>if vs.length=ti.size∧k+ti.size≤us.length then some (.undef,{ S with boxes:=S.boxes.set i (us.take k++vs++us.drop (k+vs.length)) }) else none
  | none=>none
 | _,_,_=>none
def G8:V→V→Option V
 | .d (.int k a),.d (.int _ b)=>some (.d (.int k (if b < a then b else a)))
 | _,_=>none
def G9:V→V→Option V
 | .d (.int k a),.d (.int _ b)=>some (.d (.int k (if a < b then b else a)))
 | _,_=>none
def dD (P:Program) (ev:Operand→V) (S:Mem) (c:Call):Option (V × Mem) :=
 match c.callee,c.args.toList,c.argTypes.toList with
 | .builtin .len,[x],[t]=>still S (fP P t (ev x))
 | .builtin .append,[s,x],[t,u]=>iN P t u S (ev s) (ev x)
 | .builtin .min,[x,y],[_,_]=>still S (G8 (ev x) (ev y))
 | .builtin .max,[x,y],[_,_]=>still S (G9 (ev x) (ev y))
 | .builtin .delete,[m,k],[t,_]=>oF P S t (ev m) (ev k)
 | _,_,_=>none
def AI (P:Program) (s:TypeId) (f:Nat):Option (TypeId × Nat) :=
 match P.underlying s with
 | some (.struct fs)=>(fs[f]?).map fun d=>(d.type,d.offset)
 | _=>none
def oH (P:Program) (s:TypeId) (f:Nat) (a:V):Option V :=
 match AI P s f,a with
 | some (t,off),.agg vs=>(match bD P t with
  | some ti=>oD ti vs off
  | none=>none)
 | _,_=>none
def cU (P:Program) (ev:Operand→V) (S:Mem):Op→Option (V × Mem)
 | .move x=>some (ev x,S)
 | .assign x=>some (ev x,S)
 | .pick c a b=>match ev c with
  | .d (.bool t)=>some (Cv t (ev a) (ev b),S)
  | _=>none
 | .alloc t=>match bD P t with
  | some i=>some (.ptr S.boxes.length 0,{ S with boxes:=S.boxes++[i.zero] })
  | none=>none
 | .box _ x=>match fG (ev x) with
  | some vs=>some (.ptr S.boxes.length 0,{ S with boxes:=S.boxes++[vs] })
  | none=>none
 | .build t parts=>still S (pO P t (gT ev parts))
 | .buildSlice t len parts=>still S (fH P t len (gT ev parts))
 | .load t a=>still S (ff P S t (ev a))
 | .store t a x=>nk P S t (ev a) (ev x)
 | .nilCheck x=>match ev x with
  | .ptr i k=>some (.ptr i k,S)
  | .gp r k=>some (.gp r k,S)
  | _=>none
 | .binOp op t x y _=>still S (vM P op t (ev x) (ev y))
 | .unOp op _ x=>still S (I2 op (ev x))
 | .convert s d x=>still S (AD P s d (ev x))
 | .makeFunc (.func f) first caps=>some (.func f (first.toList.map ev) (caps.toList.map ev),S)
 | .slice t x lo hi none=>still S (vk P t (ev x) (lo.map ev) (hi.map ev))
 | .fieldAddr s x f=>still S (vj P s f (ev x))
 | .field s x f=>still S (oH P s f (ev x))
 | .indexAddr t x i=>still S (iB P t (ev x) (ev i))
 | .index t x i=>still S (vl P t (ev x) (ev i))
 | .extract x i=>match ev x with
  | .bY vs=>still S vs[i]?
  | _=>none
 | .call c=>dD P ev S c
 | .makeMap _ none=>some (.mp S.boxes.length,{ S with boxes:=S.boxes++[[.oy [] []]] })
 | .lookup t m k ok=>still S (cZ P S t (ev m) (ev k) ok)
 | .mapUpdate t m k x=>fh P S t (ev m) (ev k) (ev x)
 | _=>none
section
variable {P:Program} {c:Cx} {w:World} {S:Mem}
theorem O8 {t:Bool} {a b:V} {A B:Value} (ha:VR c w a A) (hb:VR c w b B):VR c w (Cv t a b) (if t then A else B):=by
 unfold Cv
 split
 ·cases t
  ·simpa using hb
  ·simpa using ha
 ·cases t
  ·simpa using hb
  ·simpa using ha
theorem I7 {s:TypeId} {f:Nat} {a v:V} {x:Value} (ha:VR c w a x) (hv:oH P s f a=some v):∃ y,(Instr.field s x f).run P w = .ok y w∧VR c w v y:=by
 unfold oH at hv
 split at hv
 case h_2=>cases hv
 rename_i t off vs fD
 split at hv
 case h_2=>cases hv
 rename_i ti jZ
 unfold AI at fD
 split at fD
 case h_2=>cases fD
 rename_i fs Ff
 obtain ⟨F,hF,he⟩:=Option.map_eq_some_iff.1 fD
 obtain ⟨rfl,rfl⟩:=Prod.mk.inj he
 obtain ⟨fi,d,z,h1,h2,h3,h4,h5,h6,h7,h8,h9,B8⟩:=aI jZ
 cases ha with
 | agg _ cs dJ hc ho =>
  unfold oD at hv
  cases od:ti.agg with
  | true =>
   rw [od] at hv
   simp only [if_true] at hv
   split at hv
   case isFalse=>cases hv
   rename_i hle
   obtain rfl:=Option.some.inj hv
   refine ⟨.agg (cs.extract F.offset (F.offset+fi.size)),?_,?_⟩
   ·simp [Instr.field,run_underlying Ff,hF,asAgg,part,pN h2,h7,od,run_sizeOf h1]
   ·refine .agg _ _ (by simp;omega) (fun j hj=>?_) (fun j hj=>?_)
    ·have eS:j < ti.size:=by simp at hj;omega
     have B9:=hc (F.offset+j) (by omega)
     have VT:(cs.extract F.offset (F.offset+fi.size)).getD j undef=cs.getD (F.offset+j) undef:=by
      rw [bN (by simp;omega),bN (by omega)]
      simp
     rw [VT]
     simpa using B9
    ·have eS:j < ti.size:=by simp at hj;omega
     have B9:=ho (F.offset+j) (by omega)
     have VT:(cs.extract F.offset (F.offset+fi.size)).getD j undef=cs.getD (F.offset+j) undef:=by
      rw [bN (by simp;omega),bN (by omega)]
      simp
     rw [VT]
     exact B9
  | false =>
   rw [od] at hv
   simp only [Bool.false_eq_true,if_false] at hv
   obtain ⟨hk,rfl⟩:=List.getElem?_eq_some_iff.1 hv
   have EZ:F.offset < cs.size:=by omega
   refine ⟨cs[F.offset],?_,?_⟩
   ·simp [Instr.field,run_underlying Ff,hF,asAgg,part,pN h2,h7,od,EZ]
   ·have B9:=hc F.offset hk
    rw [bN EZ] at B9
    exact B9
theorem uj {env:List V} {a:Act} (h0:dz c w S) (he:cw c w env a.tmps) (parts:Array (Nat × Operand)):(parts.map fun p=>(p.1,a.eval p.2)).size=(gT (ai c.I env) parts).length∧∀ (j i:Nat) (v:V),(gT (ai c.I env) parts)[j]? = some (i,v)→∃ x,(parts.map fun p=>(p.1,a.eval p.2))[j]? = some (i,x)∧VR c w v x:=by
 refine ⟨by simp [gT],fun j i v h=>?_⟩
 unfold gT at h
 rw [List.getElem?_map] at h
 obtain ⟨p,hp,h2⟩:=Option.map_eq_some_iff.1 h
 obtain ⟨rfl,rfl⟩:=Prod.mk.inj h2
 have Ym:parts[j]? = some p:=by simpa using hp
 exact ⟨_,by simp [Ym],cw.eval h0 he _⟩
def He (P:Program) (c:Cx) (w:World) (s:Sem Next) (v:V) (S':Mem):Prop :=
 ∃ x w' c',(s.run P w = .ok (.value x) w'∨(s.run P w = .ok .skip w'∧x=undef))∧dz c' w' S'∧Ext c w c' w'∧VR c' w' v x
theorem He.still (h:dz c w S) {s:Sem Value} {r:Option V} {v:V} {S':Mem} (hr:Ab.still S r=some (v,S')) (hs:r=some v→∃ y,s.run P w = .ok y w∧VR c w v y):He P c w (do pure (.value (← s))) v S':=by
 obtain ⟨v',hv,he⟩:=Option.map_eq_some_iff.1 hr
 obtain ⟨rfl,rfl⟩:=Prod.mk.inj he
 obtain ⟨y,hy,Le⟩:=hs hv
 exact ⟨y,w,c,.inl (by simp [hy]),h,.refl _ _,Le⟩
theorem AJ {env:List V} {a:Act} (h0:dz c w S) (he:cw c w env a.tmps) (o:Option Operand):(o.map (ai c.I env)).isSome=(o.map a.eval).isSome∧∀ v x,o.map (ai c.I env)=some v→o.map a.eval=some x→VR c w v x:=by
 cases o with
 | none=>exact ⟨rfl,fun v x h=>by cases h⟩
 | some p=>exact ⟨rfl,fun v x h h'=>by cases h;cases h';exact cw.eval h0 he p⟩
theorem SV {env:List V} {a:Act} (h:dz c w S) (he:cw c w env a.tmps) (o:Oper) {v:V} {S':Mem} (hv:cU P (ai c.I env) S o.op=some (v,S')):He P c w (execOp a.eval o) v S':=by
 unfold execOp
 cases ho:o.op<;>rw [ho] at hv<;>simp only [cU] at hv<;>try (cases hv;done)
 case move x =>
  obtain ⟨rfl,rfl⟩:=Prod.mk.inj (Option.some.inj hv)
  exact ⟨_,w,c,.inl rfl,h,.refl _ _,cw.eval h he x⟩
 case assign x =>
  obtain ⟨rfl,rfl⟩:=Prod.mk.inj (Option.some.inj hv)
  exact ⟨_,w,c,.inl rfl,h,.refl _ _,cw.eval h he x⟩
 case pick p x y =>
  split at hv
  case h_2=>cases hv
  rename_i t ht
  obtain ⟨rfl,rfl⟩:=Prod.mk.inj (Option.some.inj hv)
  have hp:=cw.eval h he p
  rw [ht] at hp
  generalize hq:a.eval p=q at hp
  cases hp with
  | d _ _ hp =>
   cases hp
   refine ⟨_,w,c,.inl ?_,h,.refl _ _,O8 (t:=t) (cw.eval h he x) (cw.eval h he y)⟩
   simp [asBool,hq]
 case alloc t =>
  split at hv
  case h_2=>cases hv
  rename_i i hi
  obtain ⟨rfl,rfl⟩:=Prod.mk.inj (Option.some.inj hv)
  obtain ⟨x,w',c',h1,h2,h3,h4⟩:=LD h t hi
  exact ⟨x,w',c',.inl (by simp [h1]),h2,h3,h4⟩
 case box t x =>
  split at hv
  case h_2=>cases hv
  rename_i vs nr
  obtain ⟨rfl,rfl⟩:=Prod.mk.inj (Option.some.inj hv)
  obtain ⟨y,w',c',h1,h2,h3,h4⟩:=SM (P:=P) h t (cw.eval h he x) nr
  exact ⟨y,w',c',.inl (by simp [h1]),h2,h3,h4⟩
 case build t parts =>
  obtain ⟨h1,h2⟩:=uj h he parts
  exact He.still h hv fun hr=>LI h1 h2 hr
 case buildSlice t len parts =>
  obtain ⟨v',zh,O9⟩:=Option.map_eq_some_iff.1 hv
  obtain ⟨rfl,rfl⟩:=Prod.mk.inj O9
  obtain ⟨h1,h2⟩:=uj h he parts
  obtain ⟨y,w',k1,k2,k3,k4⟩:=yz h h1 h2 zh
  exact ⟨y,w',c,.inl (by simp [k1]),k2,k3,k4⟩
 case load t x=>exact He.still h hv fun hr=>G6 h t (cw.eval h he x) hr
 case field s x f=>exact He.still h hv fun hr=>I7 (cw.eval h he x) hr
 case store t x y =>
  unfold nk at hv
  split at hv
  case h_2=>cases hv
  rename_i ti i k vs jZ hx nr
  split at hv
  case h_2=>cases hv
  rename_i us VU
  split at hv
  case isFalse=>cases hv
  rename_i nO
  obtain ⟨rfl,rfl⟩:=Prod.mk.inj (Option.some.inj hv)
  have hp:=cw.eval h he x
  rw [hx] at hp
  obtain ⟨w',k1,k2,k3⟩:=LF h t jZ hp (cw.eval h he y) VU nr nO.1 nO.2
  exact ⟨undef,w',c,.inr ⟨by simp [k1],rfl⟩,k2,k3,.undef _⟩
 case nilCheck x =>
  have hp:=cw.eval h he x
  split at hv
  case h_3=>cases hv
  all_goals
   rename_i hx
   rw [hx] at hp
   obtain ⟨rfl,rfl⟩:=Prod.mk.inj (Option.some.inj hv)
   generalize hq:a.eval x=q at hp
   have Ym:=hp
   cases hp
   exact ⟨_,w,c,.inl (by simp [hq]),h,.refl _ _,Ym⟩
 case binOp op t x y u=>exact He.still h hv fun hr=>SR (cw.eval h he x) (cw.eval h he y) hr x y
 case unOp op t x=>exact He.still h hv fun hr=>VO (cw.eval h he x) hr
 case convert s d x =>
  obtain ⟨v',zh,O9⟩:=Option.map_eq_some_iff.1 hv
  obtain ⟨rfl,rfl⟩:=Prod.mk.inj O9
  obtain ⟨y,w',k1,k2,k3,k4⟩:=O5 h (cw.eval h he x) zh
  exact ⟨y,w',c,.inl (by simp [k1]),k2,k3,k4⟩
 case makeFunc fn first caps =>
  cases fn<;>dsimp only at hv<;>try (cases hv;done)
  rename_i f
  obtain ⟨rfl,rfl⟩:=Prod.mk.inj (Option.some.inj hv)
  refine ⟨_,w,c,.inl rfl,h,.refl _ _,.func f _ _ _ _ (by simp) (by simp) (fun j hj=>?_) (fun j hj=>?_)⟩
  ·have eS:j < first.size:=by simpa using hj
   rw [bN (by simpa using eS)]
   simp only [List.getElem_map,Array.getElem_toList,Array.getElem_map]
   exact cw.eval h he _
  ·have eS:j < caps.size:=by simpa using hj
   rw [bN (by simpa using eS)]
   simp only [List.getElem_map,Array.getElem_toList,Array.getElem_map]
   exact cw.eval h he _
 case slice t x lo hi mx =>
  cases mx<;>dsimp only at hv<;>try (cases hv;done)
  exact He.still h hv fun hr=>LL (cw.eval h he x) (AJ h he lo).1 (AJ h he lo).2 (AJ h he hi).1 (AJ h he hi).2 hr
 case fieldAddr s x f=>exact He.still h hv fun hr=>LG (cw.eval h he x) hr
 case indexAddr t x i=>exact He.still h hv fun hr=>Az (cw.eval h he x) (cw.eval h he i) hr
 case index t x i=>exact He.still h hv fun hr=>LM (cw.eval h he x) (cw.eval h he i) hr
 case extract x i =>
  have hp:=cw.eval h he x
  split at hv
  case h_2=>cases hv
  rename_i vs hx
  rw [hx] at hp
  generalize hq:a.eval x=q at hp
  refine He.still h hv fun hr=>?_
  cases hp with
  | bY _ cs h1 h2 =>
   obtain ⟨au,rfl⟩:=List.getElem?_eq_some_iff.1 hr
   have aC:i < cs.size:=by omega
   have:=h2 i au
   rw [bN aC] at this
   exact ⟨cs[i],by simp [hq,Instr.extract,aC],this⟩
 case makeMap t r =>
  cases r<;>dsimp only at hv<;>try (cases hv;done)
  obtain ⟨rfl,rfl⟩:=Prod.mk.inj (Option.some.inj hv)
  obtain ⟨x,w',c',h1,h2,h3,h4⟩:=Fj (P:=P) h t
  exact ⟨x,w',c',.inl (by simp [h1]),h2,h3,h4⟩
 case lookup t m k ok=>exact He.still h hv fun hr=>I4 h (cw.eval h he m) (cw.eval h he k) hr
 case mapUpdate t m k x =>
  obtain ⟨w',h1,h2,h3,rfl⟩:=I5 h (cw.eval h he m) (cw.eval h he k) (cw.eval h he x) hv
  exact ⟨undef,w',c,.inr ⟨by simp [h1],rfl⟩,h2,h3,.undef _⟩
 case call k =>
  obtain ⟨callee,args,argTypes⟩:=k
  simp only [dD] at hv
  split at hv
  case h_6=>cases hv
  case h_5 x y t u hargs htys =>
   have e1:args = #[x,y]:=by apply Array.toList_inj.1;rw [hargs]
   have e2:argTypes = #[t,u]:=by apply Array.toList_inj.1;rw [htys]
   subst e1 e2
   obtain ⟨y,w',h1,h2,h3,h4⟩:=I6 (P:=P) (t2:=u) (ty:=o.type) h (cw.eval h he x) (cw.eval h he y) hv
   exact ⟨y,w',c,.inl (by simp [resolve,invoke,builtin,h1]),h2,h3,h4⟩
  case h_3 x y t u hargs htys =>
   have e1:args = #[x,y]:=by apply Array.toList_inj.1;rw [hargs]
   subst e1
   obtain ⟨v',zh,O9⟩:=Option.map_eq_some_iff.1 hv
   obtain ⟨rfl,rfl⟩:=Prod.mk.inj O9
   have hx:=cw.eval h he x
   have hy:=cw.eval h he y
   unfold G8 at zh
   split at zh
   case h_2=>cases zh
   rename_i k p k2 q ha hb
   obtain rfl:=Option.some.inj zh
   rw [ha] at hx
   rw [hb] at hy
   obtain ⟨X,hX⟩:∃ X,a.eval x=X:=⟨_,rfl⟩
   obtain ⟨Y,hY⟩:∃ Y,a.eval y=Y:=⟨_,rfl⟩
   rw [hX] at hx
   rw [hY] at hy
   cases hx with
   | d _ _ hx=>cases hx with
    | int _ _=>cases hy with
     | d _ _ hy=>cases hy with
      | int _ _=>exact ⟨_,w,c,.inl (by simp [resolve,invoke,builtin,Builtin.min_,Builtin.min2,hX,hY]),h,.refl _ _,.d _ _ (.int _ _)⟩
  case h_4 x y t u hargs htys =>
   have e1:args = #[x,y]:=by apply Array.toList_inj.1;rw [hargs]
   subst e1
   obtain ⟨v',zh,O9⟩:=Option.map_eq_some_iff.1 hv
   obtain ⟨rfl,rfl⟩:=Prod.mk.inj O9
   have hx:=cw.eval h he x
   have hy:=cw.eval h he y
   unfold G9 at zh
   split at zh
   case h_2=>cases zh
   rename_i k p k2 q ha hb
   obtain rfl:=Option.some.inj zh
   rw [ha] at hx
   rw [hb] at hy
   obtain ⟨X,hX⟩:∃ X,a.eval x=X:=⟨_,rfl⟩
   obtain ⟨Y,hY⟩:∃ Y,a.eval y=Y:=⟨_,rfl⟩
   rw [hX] at hx
   rw [hY] at hy
   cases hx with
   | d _ _ hx=>cases hx with
    | int _ _=>cases hy with
     | d _ _ hy=>cases hy with
      | int _ _=>exact ⟨_,w,c,.inl (by simp [resolve,invoke,builtin,Builtin.max_,Builtin.max2,hX,hY]),h,.refl _ _,.d _ _ (.int _ _)⟩
  ·rename_i x t hargs htys
   have e1:args = #[x]:=by apply Array.toList_inj.1;rw [hargs]
   have e2:argTypes = #[t]:=by apply Array.toList_inj.1;rw [htys]
   subst e1 e2
   obtain ⟨v',zh,O9⟩:=Option.map_eq_some_iff.1 hv
   obtain ⟨rfl,rfl⟩:=Prod.mk.inj O9
   obtain ⟨y,h1,h2⟩:=SN (P:=P) (ty:=o.type) (cw.eval h he x) zh
   exact ⟨y,w,c,.inl (by simp [resolve,invoke,builtin,h1]),h,.refl _ _,h2⟩
  ·rename_i s x t u hargs htys
   have e1:args = #[s,x]:=by apply Array.toList_inj.1;rw [hargs]
   have e2:argTypes = #[t,u]:=by apply Array.toList_inj.1;rw [htys]
   subst e1 e2
   obtain ⟨y,w',c',h1,h2,h3,h4⟩:=I3 (P:=P) (ty:=o.type) h (cw.eval h he s) (cw.eval h he x) hv
   exact ⟨y,w',c',.inl (by simp [resolve,invoke,builtin,h1]),h2,h3,h4⟩
end
def yB (P:Program) (b:Frame) (k:List Item) (a:Act) (w:World) (R:Ending→World→Prop):Prop :=
 ∀ cs,∃ e w' fr,R e w'∧Comes P (lone (b.at a k) cs w) (lone fr cs w') e∧fr.fn=b.fn∧fr.leaving P w' e
theorem yB.step {P:Program} {b:Frame} {k k':List Item} {a a':Act} {w w':World} {R:Ending→World→Prop} (hs:∀ cs,Go.step P (lone (b.at a k) cs w) = .next (lone (b.at a' k') cs w')) (h:yB P b k' a' w' R):yB P b k a w R:=by
 intro cs
 obtain ⟨e,w2,fr,h1,h2,h3⟩:=h cs
 exact ⟨e,w2,fr,h1,.of_steps (.one (hs cs)) h2,h3⟩
def AQ (c:Cx) (w:World) (R:V→Mem→Prop):Ending→World→Prop:=fun e w'=>∃ v x S' c',e = .returned x∧R v S'∧dz c' w' S'∧Ext c w c' w'∧VR c' w' v x
def af (P:Program) (I:Inv) (z:Nat × Nat) (fn:FuncId) (k:List Item) (env:List V) (S:Mem) (R:V→Mem→Prop):Prop :=
 ∀ (b:Frame) (a:Act) (c:Cx) (w:World) (c0:Cx) (w0:World),b.fn=fn→b.kind = .normal→a.defers=[]→cw c w env a.tmps→dz c w S→Ext c0 w0 c w→c.I=I∧c0.ρ.length=z.1∧c0.τ.length=z.2→yB P b k a w (AQ c0 w0 R)
def aF (P:Program) (I:Inv) (f:FuncId) (args:List V) (S:Mem) (R:V→Mem→Prop):Prop :=
 (∀ xs w,(callFunc f xs).run P w = .ok (.enter f xs) w) ∧
 ∀ (c:Cx) (w:World) (xs:Array Value),xs.size=args.length→(∀ j (h:j < args.length),VR c w args[j] (xs.getD j undef))→dz c w S→c.I=I→Calls P f xs w (AQ c w R)
theorem aF.mono {P:Program} {I:Inv} {f:FuncId} {args:List V} {S:Mem} {R R':V→Mem→Prop} (h:aF P I f args S R) (hr:∀ v S',R v S'→R' v S'):aF P I f args S R':=by
 refine ⟨h.1,fun c w xs h1 h2 h3 hI cs=>?_⟩
 obtain ⟨e,w',fr,⟨v,x,S',c',a1,a2,a3⟩,h⟩:=h.2 c w xs h1 h2 h3 hI cs
 exact ⟨e,w',fr,⟨v,x,S',c',a1,hr _ _ a2,a3⟩,h⟩
section rules
variable {P:Program} {I:Inv} {z:Nat × Nat} {fn:FuncId} {k:List Item} {env:List V} {S:Mem} {R:V→Mem→Prop}
theorem af.same {k':List Item} (hs:∀ (b:Frame) (a:Act) (w:World) cs,Go.step P (lone (b.at a k) cs w) = .next (lone (b.at a k') cs w)) (h:af P I z fn k' env S R):af P I z fn k env S R :=
 fun b a c w c0 w0 h1 h2 h3 h4 h5 h6 hI=>yB.step (fun cs=>hs b a w cs) (h b a c w c0 w0 h1 h2 h3 h4 h5 h6 hI)
theorem af.skip (h:af P I z fn k env S R):af P I z fn (.code .skip :: k) env S R:=h.same fun _ _ _ _=>step_skip
theorem af.label {l:Nat} (h:af P I z fn k env S R):af P I z fn (.code (.label l) :: k) env S R:=h.same fun _ _ _ _=>step_label
theorem af.inBlock {id:Nat} (h:af P I z fn k env S R):af P I z fn (.inBlock id :: k) env S R:=h.same fun _ _ _ _=>step_inBlock
theorem af.seq {x y:Code} (h:af P I z fn (.code x :: .code y :: k) env S R):af P I z fn (.code (.seq x y) :: k) env S R:=h.same fun _ _ _ _=>step_seq
theorem af.block {id:Nat} {x:Code} (h:af P I z fn (.code x :: .inBlock id :: k) env S R):af P I z fn (.code (.block id x) :: k) env S R:=h.same fun _ _ _ _=>step_block
theorem af.loop {x:Code} (h:af P I z fn (.code x :: .inLoop x :: k) env S R):af P I z fn (.code (.loop x) :: k) env S R:=h.same fun _ _ _ _=>step_loop
theorem af.inLoop {x:Code} (h:af P I z fn (.code x :: .inLoop x :: k) env S R):af P I z fn (.inLoop x :: k) env S R:=h.same fun _ _ _ _=>step_inLoop
theorem af.exit {id:Nat} {k':List Item} (he:exitTo id k=some k') (h:af P I z fn k' env S R):af P I z fn (.code (.exit id) :: k) env S R:=h.same fun _ _ _ _=>step_exit he
theorem af.region {id:Nat} {ops:Array Oper} (h:af P I z fn (.inRegion ops (List.range ops.size) :: k) env S R):af P I z fn (.code (.region id ops false) :: k) env S R:=h.same fun _ _ _ _=>step_region
theorem af.jm {ops:Array Oper} (h:af P I z fn k env S R):af P I z fn (.inRegion ops [] :: k) env S R:=h.same fun _ _ _ _=>step_region_end
theorem af.cond {x:Operand} {y y2:Code} {t:Bool} (hx:ai I env x = .d (.bool t)) (h:af P I z fn (.code (if t then y else y2) :: k) env S R):af P I z fn (.code (.cond x y y2) :: k) env S R:=by
 intro b a c w c0 w0 h1 h2 h3 h4 h5 h6 hI
 have hv:=cw.eval h5 h4 x
 rw [hI.1] at hv
 rw [hx] at hv
 have he:a.eval x = .bool t:=by
  generalize a.eval x=q at hv
  cases hv with
  | d _ _ hv=>cases hv;rfl
 exact yB.step (fun cs=>step_cond he) (h b a c w c0 w0 h1 h2 h3 h4 h5 h6 hI)
def aO (env:List V) (d:Option Tmp) (v:V):List V :=
 match d with
 | some t=>env.set t v
 | none=>env
def eO (env:List V) (ops:Array Oper) (j:Nat):V :=
 match (ops[j]?).bind (·.dst) with
 | some t=>env.getD t .undef
 | none=>.undef
theorem Cw {c:Cx} {w:World} {a:Act} (he:cw c w env a.tmps) {ops:Array Oper} {j:Nat} {t:Bool} (h:eO env ops j = .d (.bool t)):yielded ops a.tmps j=some t:=by
 unfold eO at h
 unfold yielded
 cases ho:(ops[j]?).bind (·.dst) with
 | none=>rw [ho] at h;cases h
 | some q =>
  rw [ho] at h
  simp only at h
  have hv:=he.get q
  rw [h] at hv
  have hq:q < a.tmps.size:=by
   rcases Nat.lt_or_ge q env.length with h' | h'
   ·rw [he.1];exact h'
   ·have:env.getD q .undef = .undef:=by simp [List.getD,h']
    rw [this] at h;cases h
  rw [bN hq] at hv
  simp only [Option.bind_some,Array.getElem?_eq_getElem hq]
  generalize a.tmps[q]=x at hv
  cases hv with
  | d _ _ hv=>cases hv;rfl
theorem Fk {c:Cx} {w:World} {a:Act} (he:cw c w env a.tmps) {ops:Array Oper} {j:Nat} (h:eO env ops j = .bY []):yielded ops a.tmps j=none:=by
 unfold eO at h
 unfold yielded
 cases ho:(ops[j]?).bind (·.dst) with
 | none=>rw [ho] at h;cases h
 | some q =>
  rw [ho] at h
  simp only at h
  have hv:=he.get q
  rw [h] at hv
  have hq:q < a.tmps.size:=by
   rcases Nat.lt_or_ge q env.length with h' | h'
   ·rw [he.1];exact h'
   ·have:env.getD q .undef = .undef:=by simp [List.getD,h']
    rw [this] at h;cases h
  rw [bN hq] at hv
  simp only [Option.bind_some,Array.getElem?_eq_getElem hq]
  generalize a.tmps[q]=x at hv
  cases hv
  rfl
def oI (env:List V) (ops:Array Oper) (o:Oper):Prop:=∃ j want,o.guard=some (j,want)∧((∃ t,eO env ops j = .d (.bool t)∧(t == want)=false)∨eO env ops j = .bY [])
theorem af.nt {ops:Array Oper} {i:Nat} {rest:List Nat} {o:Oper} (ho:ops[i]? = some o) (hk:oI env ops o)
 (h:af P I z fn (.inRegion ops rest :: k) (aO env o.dst (.bY [])) S R):af P I z fn (.inRegion ops (i :: rest) :: k) env S R:=by
 intro b a c w c0 w0 h1 h2 h3 h4 h5 h6 hI
 have hs:∀ cs,Go.step P (lone (b.at a (.inRegion ops (i :: rest) :: k)) cs w) = .next (lone (b.at (a.put o.dst undef) (.inRegion ops rest :: k)) cs w):=by
  intro cs
  have:=step_op_skip (P:=P) (b:=b) (a:=a) (k:=k) (cs:=cs) (w:=w) (ops:=ops) (i:=i) (rest:=rest) (by
   obtain ⟨j,want,hg,⟨t,ht,cm⟩ | ht⟩:=hk
   ·have hy:=Cw h4 ht
    simp [ho,Region.wanted,hg,hy]
    simpa using cm
   ·have hy:=Fk h4 ht
    simp [ho,Region.wanted,hg,hy])
  simpa [ho] using this
 refine yB.step hs (h b (a.put o.dst undef) c w c0 w0 h1 h2 ?_ ?_ h5 h6 hI)
 ·cases o.dst<;>simpa [Act.put] using h3
 ·exact h4.put o.dst (.bY [] #[] rfl fun j h=>absurd h (by simp))
def ek (env:List V) (ops:Array Oper) (o:Oper):Prop:=o.guard=none∨∃ j t,o.guard=some (j,t)∧eO env ops j = .d (.bool t)
theorem rP {c:Cx} {w:World} {a:Act} (he:cw c w env a.tmps) {ops:Array Oper} {o:Oper} (h:ek env ops o):Region.wanted o (yielded ops a.tmps)=true:=by
 rcases h with h | ⟨j,t,h,hg⟩
 ·simp [Region.wanted,h]
 ·simp [Region.wanted,h,Cw he hg]
theorem af.op {ops:Array Oper} {i:Nat} {rest:List Nat} {o:Oper} {v:V} {S':Mem} (ho:ops[i]? = some o) (hw:ek env ops o) (lP:cU P (ai I env) S o.op=some (v,S'))
 (h:af P I z fn (.inRegion ops rest :: k) (aO env o.dst v) S' R):af P I z fn (.inRegion ops (i :: rest) :: k) env S R:=by
 intro b a c w c0 w0 h1 h2 h3 h4 h5 h6 hI
 obtain ⟨x,w',c',bp,tA,vP,hv⟩:=SV h5 h4 o (by rw [hI.1];exact lP)
 have hg:=fun cs=>stepG_op (P:=P) (b:=b) (k:=k) (cs:=cs) (w:=w) (rest:=rest) ho (rP h4 hw)
 have ir:∀ v,(b.at a (.inRegion ops (i :: rest) :: k)).finish v=b.at (a.put o.dst v) (.inRegion ops rest :: k):=by
  intro v;rw [Frame.finish_at,ho];rfl
 have hs:∀ cs,Go.step P (lone (b.at a (.inRegion ops (i :: rest) :: k)) cs w) = .next (lone (b.at (a.put o.dst x) (.inRegion ops rest :: k)) cs w'):=by
  intro cs
  refine step_lone_go ?_
  rw [hg cs,← ir]
  rcases bp with bp | ⟨bp,rfl⟩
  ·simp [stepG.apply,bp]
  ·simp [stepG.apply,bp]
 refine yB.step hs (h b (a.put o.dst x) c' w' c0 w0 h1 h2 ?_ ?_ tA (h6.trans vP) ⟨vP.I.trans hI.1,hI.2⟩)
 ·cases o.dst<;>simpa [Act.put] using h3
 ·exact (h4.ext vP).put o.dst hv
theorem af.call {ops:Array Oper} {i:Nat} {rest:List Nat} {o:Oper} {q:Call} {f:Operand} {g:FuncId} {first caps:List V} (ho:ops[i]? = some o) (hw:ek env ops o) (lP:o.op = .call q) (hc:q.callee = .value f) (hf:ai I env f = .func g first caps)
 (h:aF P I g (first++q.args.toList.map (ai I env)++caps) S fun v S'=>af P I z fn (.inRegion ops rest :: k) (aO env o.dst v) S' R):af P I z fn (.inRegion ops (i :: rest) :: k) env S R:=by
 intro b a c w c0 w0 h1 h2 h3 h4 h5 h6 hI cs
 have hv:=cw.eval h5 h4 f
 rw [hI.1] at hv
 rw [hf] at hv
 obtain ⟨cf,cc,yg,q1,q2,q3,q4⟩:∃ cf cc,a.eval f = .func (.func g) cf cc∧cf.size=first.length∧cc.size=caps.length∧(∀ j (h:j < first.length),VR c w first[j] (cf.getD j undef))∧(∀ j (h:j < caps.length),VR c w caps[j] (cc.getD j undef)):=by
  generalize a.eval f=x at hv
  cases hv with
  | func _ _ _ cf cc h1 h2 h3 h4=>exact ⟨cf,cc,rfl,h1,h2,h3,h4⟩
 have bp:(execOp a.eval o).run P w = .ok (.enter g (cf++q.args.map a.eval++cc)) w:=by
  unfold execOp
  simp only [lP,resolve,hc,yg,Deferred.ofValue,Sem.run_bind,Sem.run_pure,Result.andThen_ok,invoke]
  exact h.1 _ _
 have hg:=stepG_op (P:=P) (b:=b) (k:=k) (cs:=cs) (w:=w) (rest:=rest) ho (rP h4 hw)
 have Fl:Go.step P (lone (b.at a (.inRegion ops (i :: rest) :: k)) cs w) = .next (lone (Frame.enter P g (cf++q.args.map a.eval++cc) .normal) (b.at a (.inRegion ops (i :: rest) :: k) :: cs) w) :=
  step_lone_go (by rw [hg];simp [stepG.apply,bp,Frame.at])
 have ir:∀ v,(b.at a (.inRegion ops (i :: rest) :: k)).finish v=b.at (a.put o.dst v) (.inRegion ops rest :: k):=by
  intro v;rw [Frame.finish_at,ho];rfl
 have hargs:∀ j (h:j < (first++q.args.toList.map (ai I env)++caps).length),VR c w (first++q.args.toList.map (ai I env)++caps)[j] ((cf++q.args.map a.eval++cc).getD j undef):=by
  intro j hj
  rcases Nat.lt_or_ge j first.length with au | mc
  ·have e1:(first++q.args.toList.map (ai I env)++caps)[j]=first[j]:=by
    rw [List.getElem_append_left (by simp;omega),List.getElem_append_left au]
   have e2:(cf++q.args.map a.eval++cc).getD j undef=cf.getD j undef:=by
    rw [bN (by simp;omega),bN (by omega),Array.getElem_append_left (by simp;omega),Array.getElem_append_left (by omega)]
   rw [e1,e2]
   exact q3 j au
  ·rcases Nat.lt_or_ge j (first.length+q.args.size) with mK | Zu
   ·have e1:(first++q.args.toList.map (ai I env)++caps)[j]=ai I env (q.args[j - first.length]'(by omega)):=by
     rw [List.getElem_append_left (by simp;omega),List.getElem_append_right mc]
     simp
    have e2:(cf++q.args.map a.eval++cc).getD j undef=a.eval (q.args[j - first.length]'(by omega)):=by
     rw [bN (by simp;omega),Array.getElem_append_left (by simp;omega),Array.getElem_append_right (by omega)]
     simp [q1]
    rw [e1,e2]
    have:=cw.eval h5 h4 (q.args[j - first.length]'(by omega))
    rw [hI.1] at this
    exact this
   ·have eS:j - (first.length+q.args.size) < caps.length:=by simp at hj;omega
    have e1:(first++q.args.toList.map (ai I env)++caps)[j]=caps[j - (first.length+q.args.size)]:=by
     rw [List.getElem_append_right (by simp;omega)]
     congr 1;simp
    have e2:(cf++q.args.map a.eval++cc).getD j undef=cc.getD (j - (first.length+q.args.size)) undef:=by
     rw [bN (by simp;omega),bN (by omega),Array.getElem_append_right (by simp;omega)]
     congr 1;simp [q1]
    rw [e1,e2]
    exact q4 _ eS
 obtain ⟨e,w',fr,⟨v,x,S',c',rfl,hR,tA,vP,SW⟩,SX,UW,SY⟩:=h.2 c w (cf++q.args.map a.eval++cc) (by simp [q1,q2]) hargs h5 hI.1 (b.at a (.inRegion ops (i :: rest) :: k) :: cs)
 obtain ⟨e2,w2,Ca,g1,g2,g3⟩:=hR b (a.put o.dst x) c' w' c0 w0 h1 h2 (by cases o.dst<;>simpa [Act.put] using h3) ((h4.ext vP).put o.dst SW) tA (h6.trans vP) ⟨vP.I.trans hI.1,hI.2⟩ cs
 refine ⟨e2,w2,Ca,g1,.of_steps (.head Fl (Steps.trans SX (.one ?_))) g2,g3⟩
 rw [← ir];exact step_leave_returned SY
def uk (P:Program) (S:Mem) (env:List V):ResultVar→Option V
 | .tmp t=>some (env.getD t .undef)
 | .cell a t=>ff P S t (env.getD a .undef)
def Cy (P:Program) (S:Mem) (env:List V):List ResultVar→Option V
 | []=>some (.bY [])
 | [r]=>uk P S env r
 | [r,u]=>match uk P S env r,uk P S env u with
  | some a,some b=>some (.bY [a,b])
  | _,_=>none
 | [r,u,s]=>match uk P S env r,uk P S env u,uk P S env s with
  | some a,some b,some d=>some (.bY [a,b,d])
  | _,_,_=>none
 | _=>none
def Fm (tmps:Array Value) (r:ResultVar):Sem Value :=
 match r with
 | .tmp t=>pure (tmps.getD t undef)
 | .cell a t=>do loadVar t (← asAddr (tmps.getD a undef))
theorem I8 (f:Func) (tmps:Array Value):results f tmps=(do
 let vs ← f.results.mapM (Fm tmps)
 pure (if h:vs.size=1 then vs[0] else .tuple vs)):=by
 unfold results
 congr 1
theorem mM {c:Cx} {w:World} {tmps:Array Value} (h5:dz c w S) (he:cw c w env tmps) {r:ResultVar} {v:V} (hv:uk P S env r=some v):∃ x,(Fm tmps r).run P w = .ok x w∧VR c w v x:=by
 cases r with
 | tmp t =>
  obtain rfl:=Option.some.inj hv
  exact ⟨_,rfl,he.get t⟩
 | cell a t =>
  have hv:ff P S t (env.getD a .undef)=some v:=hv
  obtain ⟨y,hy,hr⟩:=G6 (P:=P) h5 t (he.get a) hv
  refine ⟨y,?_,hr⟩
  rw [← hy]
  have hp:∃ p,tmps.getD a undef = .pointer (some p):=by
   have:=he.get a
   unfold ff at hv
   split at hv
   ·rename_i heq;rw [heq] at this;generalize tmps.getD a undef=z at this;cases this;exact ⟨_,rfl⟩
   ·rename_i heq;rw [heq] at this;generalize tmps.getD a undef=z at this;cases this;exact ⟨_,rfl⟩
   ·cases hv
  obtain ⟨p,hp⟩:=hp
  simp only [Fm,Instr.loadAt,hp,asAddr,Instr.sureAddr]
theorem Hf {c:Cx} {w:World} {tmps:Array Value} (h5:dz c w S) (he:cw c w env tmps) {f:Func} {v:V} (hv:Cy P S env f.results.toList=some v):∃ x,(results f tmps).run P w = .ok x w∧VR c w v x:=by
 rw [I8]
 unfold Cy at hv
 split at hv
 case h_5=>cases hv
 ·rename_i ht
  obtain rfl:=Option.some.inj hv
  have:f.results = #[]:=by apply Array.toList_inj.1;rw [ht]
  exact ⟨.tuple #[],by simp [this],.bY _ _ rfl (fun j h=>by simp at h)⟩
 ·rename_i r ht
  have:f.results = #[r]:=by apply Array.toList_inj.1;rw [ht]
  obtain ⟨x,hx,hr⟩:=mM h5 he hv
  exact ⟨x,by simp [this,hx],hr⟩
 ·rename_i r u ht
  have:f.results = #[r,u]:=by apply Array.toList_inj.1;rw [ht]
  split at hv
  case h_2=>cases hv
  rename_i a b ha hb
  obtain rfl:=Option.some.inj hv
  obtain ⟨x,hx,hr⟩:=mM h5 he ha
  obtain ⟨y,hy,hs⟩:=mM h5 he hb
  refine ⟨.tuple #[x,y],by simp [this,hx,hy],.bY _ _ rfl (fun j h=>?_)⟩
  match j,h with
  | 0,_=>exact hr
  | 1,_=>exact hs
 ·rename_i r u s ht
  have:f.results = #[r,u,s]:=by apply Array.toList_inj.1;rw [ht]
  split at hv
  case h_2=>cases hv
  rename_i a b d ha hb hd
  obtain rfl:=Option.some.inj hv
  obtain ⟨x,hx,hr⟩:=mM h5 he ha
  obtain ⟨y,hy,hs⟩:=mM h5 he hb
  obtain ⟨z,hz,hq⟩:=mM h5 he hd
  refine ⟨.tuple #[x,y,z],by simp [this,hx,hy,hz],.bY _ _ rfl (fun j h=>?_)⟩
  match j,h with
  | 0,_=>exact hr
  | 1,_=>exact hs
  | 2,_=>exact hq
theorem af.ret {f:Func} {v:V} (hf:P.funcs[fn]? = some f) (hv:Cy P S env f.results.toList=some v) (hR:R v S):af P I z fn (.code .ret :: k) env S R:=by
 intro b a c w c0 w0 h1 h2 h3 h4 h5 h6 hI cs
 obtain ⟨x,hx,SW⟩:=Hf (P:=P) h5 h4 hv
 exact ⟨.returned x,w,{ b.at a (.code .ret :: k) with mode:=.returning },⟨v,x,S,c,rfl,hR,h5,h6,SW⟩,.one step_ret,rfl,rfl,h3,h2,f,by show P.funcs[b.fn]? = some f;rw [h1];exact hf,hx⟩
theorem af.fin {f:Func} {v:V} (hf:P.funcs[fn]? = some f) (hv:Cy P S env f.results.toList=some v) (hR:R v S):af P I z fn [] env S R:=by
 intro b a c w c0 w0 h1 h2 h3 h4 h5 h6 hI cs
 obtain ⟨x,hx,SW⟩:=Hf (P:=P) h5 h4 hv
 exact ⟨.returned x,w,{ b.at a [] with mode:=.returning },⟨v,x,S,c,rfl,hR,h5,h6,SW⟩,.one step_end,rfl,rfl,h3,h2,f,by show P.funcs[b.fn]? = some f;rw [h1];exact hf,hx⟩
theorem aF.enter {f:Func} {body:Code} {args:List V} (hf:P.funcs[fn]? = some f) (hb:f.body=some body) (oJ:(f.name == "runtime.NumGoroutine")=false)
 (h:af P I (S.boxes.length,S.aL.length) fn [.code body] (args++List.replicate (f.ntmps - args.length) .undef) S R):aF P I fn args S R:=by
 have hn:¬ f.name = "runtime.NumGoroutine" := by simpa using oJ
 refine ⟨fun xs w=>by simp [callFunc,hf,hn,hb],fun c w xs h1 h2 h3 hI cs=>?_⟩
 let b:Frame:={ (default:Frame) with fn:=fn,kind:=.normal }
 have Fl:Frame.enter P fn xs .normal=b.at { tmps:=xs++Array.replicate (f.ntmps - xs.size) undef,defers:=[] } [.code body]:=by
  simp [Frame.enter,Frame.at,hf,hb,b]
 rw [Fl]
 refine h b _ c w c w rfl rfl rfl ⟨by simp [h1],fun t ht=>?_⟩ h3 (.refl _ _) ⟨hI,h3.len.symm,by rw [h3.aL];simp⟩ cs
 rcases Nat.lt_or_ge t args.length with au | mc
 ·rw [List.getElem_append_left au]
  have:=h2 t au
  rw [bN (by omega)] at this
  rw [bN (by simp;omega),Array.getElem_append_left (by omega)]
  exact this
 ·rw [List.getElem_append_right mc]
  simp only [List.getElem_replicate]
  exact .undef _
end rules
abbrev dY:=List Item→List V→Mem→Prop
def um (next:dY) (t:Bool) (k1:List Item) (e1:List V) (k2:List Item) (e2:List V) (S:Mem):Prop:=if t then next k1 e1 S else next k2 e2 S
def vQ (next:dY) (r:Option (V × Mem)) (k:List Item) (d:Option Tmp) (env:List V):Prop :=
 match r with
 | some (v,S)=>next k (aO env d v) S
 | none=>False
def rQ (P:Program) (I:Inv) (stop:dY) (f:V) (args:List V) (k:List Item) (d:Option Tmp) (env:List V) (S:Mem):Prop :=
 match f with
 | .func g first caps=>aF P I g (first++args++caps) S fun v S'=>stop k (aO env d v) S'
 | _=>False
def AK (P:Program) (I:Inv) (next stop:dY) (ops:Array Oper) (rest:List Nat) (o:Oper) (k:List Item) (env:List V) (S:Mem):Prop :=
 match o.op with
 | .call q=>match q.callee with
  | .value f=>rQ P I stop (ai I env f) (q.args.toList.map (ai I env)) (.inRegion ops rest :: k) o.dst env S
  | _=>vQ next (dD P (ai I env) S q) (.inRegion ops rest :: k) o.dst env
 | op=>vQ next (cU P (ai I env) S op) (.inRegion ops rest :: k) o.dst env
def j6 (P:Program) (I:Inv) (next stop:dY) (t:Bool) (want:Bool) (ops:Array Oper) (rest:List Nat) (o:Oper) (k:List Item) (env:List V) (S:Mem):Prop :=
 if (t == want)=true then AK P I next stop ops rest o k env S else next (.inRegion ops rest :: k) (aO env o.dst (.bY [])) S
theorem Fo (P:Program) (I:Inv) (next stop:dY) (b:Bool) (ops:Array Oper) (rest:List Nat) (o:Oper) (k:List Item) (env:List V) (S:Mem):j6 P I next stop b b ops rest o k env S=AK P I next stop ops rest o k env S:=by simp [j6]
theorem I9 (P:Program) (I:Inv) (next stop:dY) (ops:Array Oper) (rest:List Nat) (o:Oper) (k:List Item) (env:List V) (S:Mem):j6 P I next stop true false ops rest o k env S=next (.inRegion ops rest :: k) (aO env o.dst (.bY [])) S:=by simp [j6]
theorem Ja (P:Program) (I:Inv) (next stop:dY) (ops:Array Oper) (rest:List Nat) (o:Oper) (k:List Item) (env:List V) (S:Mem):j6 P I next stop false true ops rest o k env S=next (.inRegion ops rest :: k) (aO env o.dst (.bY [])) S:=by simp [j6]
theorem bu {P:Program} {I:Inv} {next stop:dY} {t want:Bool} {ops:Array Oper} {rest:List Nat} {o:Oper} {k:List Item} {env:List V} {S:Mem} (h1:t=true→j6 P I next stop true want ops rest o k env S) (h2:t=false→j6 P I next stop false want ops rest o k env S):j6 P I next stop t want ops rest o k env S:=by
 cases t
 ·exact h2 rfl
 ·exact h1 rfl
def qT (P:Program) (I:Inv) (next stop:dY) (g:V) (want:Bool) (ops:Array Oper) (rest:List Nat) (o:Oper) (k:List Item) (env:List V) (S:Mem):Prop :=
 match g with
 | .d (.bool t)=>j6 P I next stop t want ops rest o k env S
 | .bY []=>next (.inRegion ops rest :: k) (aO env o.dst (.bY [])) S
 | _=>False
def Cz (P:Program) (I:Inv) (next stop:dY) (ops:Array Oper) (i:Nat) (rest:List Nat) (k:List Item) (env:List V) (S:Mem):Prop :=
 match ops[i]? with
 | some o=>match o.guard with
  | none=>AK P I next stop ops rest o k env S
  | some (j,want)=>qT P I next stop (eO env ops j) want ops rest o k env S
 | none=>False
def tB (i:Nat):List Oper→List Nat
 | []=>[]
 | _ :: l=>i :: tB (i+1) l
theorem vR:∀ (l:List Oper) (i:Nat),tB i l=List.range' i l.length
 | [],_=>rfl
 | _ :: l,i=>by rw [tB,vR l];rfl
theorem vS (ops:Array Oper):tB 0 ops.toList=List.range ops.size:=by rw [vR,List.range_eq_range'];simp
def gU (I:Inv) (next stop:dY) (c:Code) (k:List Item) (env:List V) (S:Mem):Prop :=
 match c with
 | .seq a b=>next (.code a :: .code b :: k) env S
 | .skip=>next k env S
 | .label _=>next k env S
 | .block id a=>next (.code a :: .inBlock id :: k) env S
 | .region _ ops false=>next (.inRegion ops (tB 0 ops.toList) :: k) env S
 | .cond x a b=>match ai I env x with
  | .d (.bool t)=>um next t (.code a :: k) env (.code b :: k) env S
  | _=>False
 | .exit id=>match exitTo id k with
  | some k'=>next k' env S
  | none=>False
 | c=>stop (.code c :: k) env S
def oK (P:Program) (I:Inv) (next stop:dY) (k:List Item) (env:List V) (S:Mem):Prop :=
 match k with
 | .code c :: k=>gU I next stop c k env S
 | .inBlock _ :: k=>next k env S
 | .inRegion _ [] :: k=>next k env S
 | .inRegion ops (i :: rest) :: k=>Cz P I next stop ops i rest k env S
 | k=>stop k env S
def steps (P:Program) (I:Inv):Nat→dY→dY
 | 0,stop=>stop
 | n+1,stop=>oK P I (steps P I n stop) stop
theorem Fp (next:dY) (k1:List Item) (e1:List V) (k2:List Item) (e2:List V) (S:Mem):um next true k1 e1 k2 e2 S=next k1 e1 S:=rfl
theorem CA (next:dY) (k1:List Item) (e1:List V) (k2:List Item) (e2:List V) (S:Mem):um next false k1 e1 k2 e2 S=next k2 e2 S:=rfl
theorem aW {next:dY} {t:Bool} {k1:List Item} {e1:List V} {k2:List Item} {e2:List V} {S:Mem} (h1:t=true→next k1 e1 S) (h2:t=false→next k2 e2 S):um next t k1 e1 k2 e2 S:=by
 cases t
 ·exact h2 rfl
 ·exact h1 rfl
theorem Fq (next:dY) (v:V) (S:Mem) (k:List Item) (d:Option Tmp) (env:List V):vQ next (some (v,S)) k d env=next k (aO env d v) S:=rfl
theorem Ft (P:Program) (I:Inv) (stop:dY) (k:List Item) (env:List V) (S:Mem):steps P I 0 stop k env S=stop k env S:=rfl
theorem Fu (P:Program) (I:Inv) (n:Nat) (stop:dY) (k:List Item) (env:List V) (S:Mem):steps P I (n+1) stop k env S=oK P I (steps P I n stop) stop k env S:=rfl
theorem ag {P:Program} {I:Inv} {stop:dY} {g:FuncId} {args:List V} {k:List Item} {d:Option Tmp} {env:List V} {S:Mem} {Q:V→Mem→Prop} (h:aF P I g args S Q) (hk:∀ v S',Q v S'→stop k (aO env d v) S'):rQ P I stop (.func g [] []) args k d env S:=by
 unfold rQ
 simp only [List.nil_append,List.append_nil]
 exact h.mono hk
theorem aU {P:Program} {I:Inv} {stop:dY} {g:FuncId} {first args caps:List V} {k:List Item} {d:Option Tmp} {env:List V} {S:Mem} {Q:V→Mem→Prop} (h:aF P I g (first++args++caps) S Q) (hk:∀ v S',Q v S'→stop k (aO env d v) S'):rQ P I stop (.func g first caps) args k d env S:=h.mono hk
section
variable {P:Program} {I:Inv} {z:Nat × Nat} {fn:FuncId} {R:V→Mem→Prop}
theorem LS {next stop:dY} (hn:∀ k env S,next k env S→af P I z fn k env S R) (hs:∀ k env S,stop k env S→af P I z fn k env S R) (k:List Item) (env:List V) (S:Mem) (h:oK P I next stop k env S):af P I z fn k env S R:=by
 have VV:∀ (ops:Array Oper) (i:Nat) (rest:List Nat) (o:Oper) (k:List Item) (env:List V) (S:Mem),ops[i]? = some o→ek env ops o→AK P I next stop ops rest o k env S→af P I z fn (.inRegion ops (i :: rest) :: k) env S R:=by
  intro ops i rest o k env S ho hw hd
  have hb:∀ r,cU P (ai I env) S o.op=r→vQ next r (.inRegion ops rest :: k) o.dst env→af P I z fn (.inRegion ops (i :: rest) :: k) env S R:=by
   intro r hr hb
   cases r with
   | none=>exact hb.elim
   | some p=>exact .op ho hw hr (hn _ _ _ hb)
  unfold AK at hd
  split at hd
  ·rename_i q hq
   split at hd
   ·rename_i f hf
    unfold rQ at hd
    split at hd
    ·rename_i g first caps hg
     exact .call ho hw hq hf hg (hd.mono fun v S' h=>hs _ _ _ h)
    ·exact hd.elim
   ·exact hb _ (by rw [hq];rfl) hd
  ·exact hb _ rfl hd
 unfold oK at h
 split at h
 ·rename_i c k
  unfold gU at h
  split at h
  ·exact .seq (hn _ _ _ h)
  ·exact .skip (hn _ _ _ h)
  ·exact .label (hn _ _ _ h)
  ·exact .block (hn _ _ _ h)
  ·rw [vS] at h
   exact .region (hn _ _ _ h)
  ·rename_i x a b
   split at h
   ·rename_i t ht
    refine .cond ht ?_
    unfold um at h
    split at h
    ·rename_i uV;rw [uV];exact hn _ _ _ h
    ·rename_i uV
     have:t=false:=by simpa using uV
     rw [this];exact hn _ _ _ h
   ·exact h.elim
  ·split at h
   ·rename_i k' hk
    exact .exit hk (hn _ _ _ h)
   ·exact h.elim
  ·exact hs _ _ _ h
 ·exact .inBlock (hn _ _ _ h)
 ·exact .jm (hn _ _ _ h)
 ·rename_i ops i rest k
  unfold Cz at h
  split at h
  ·rename_i o ho
   split at h
   ·rename_i hg
    exact VV _ _ _ _ _ _ _ ho (.inl hg) h
   ·rename_i j want hg
    unfold qT at h
    split at h
    ·rename_i t ht
     unfold j6 at h
     split at h
     ·rename_i hw
      have:t=want:=by simpa using hw
      subst this
      exact VV _ _ _ _ _ _ _ ho (.inr ⟨j,t,hg,ht⟩) h
     ·rename_i hw
      exact .nt ho ⟨j,want,hg,.inl ⟨t,ht,by simpa using hw⟩⟩ (hn _ _ _ h)
    ·rename_i ht
     exact .nt ho ⟨j,want,hg,.inr ht⟩ (hn _ _ _ h)
    ·exact h.elim
  ·exact h.elim
 ·exact hs _ _ _ h
theorem CB {stop:dY} (hs:∀ k env S,stop k env S→af P I z fn k env S R):∀ (n:Nat) (k:List Item) (env:List V) (S:Mem),steps P I n stop k env S→af P I z fn k env S R
 | 0,_,_,_,h=>hs _ _ _ h
 | n+1,k,env,S,h=>LS (CB hs n) hs k env S h
theorem af.go (n:Nat) {k:List Item} {env:List V} {S:Mem} (h:steps P I n (fun k env S=>af P I z fn k env S R) k env S):af P I z fn k env S R:=CB (fun _ _ _ h=>h) n k env S h
theorem af.token {k:List Item} {env:List V} {S:Mem} (q:Nat) (rows:List (List D)) (hq:env.getD q .undef = .sl rows .full) (sz:Nat) (h0:0 < sz) (dJ:cy sz rows=true)
 (h:af P I z fn k (env.set q (.sl rows (.own S.aL.length))) { S with aL:=S.aL++[(rows.length,sz)] } R):af P I z fn k env S R:=by
 intro b a c w c0 w0 h1 h2 h3 h4 h5 h6 hI
 have hv:=h4.get q
 rw [hq] at hv
 obtain ⟨c',r1,r2,r3⟩:=h5.token hv sz h0 (gv dJ)
 refine h b a c' w c0 w0 h1 h2 h3 ?_ r1 (h6.trans r2) ⟨r2.I.trans hI.1,hI.2⟩
 have he:=h4.ext r2
 refine ⟨by simpa using he.1,fun t ht=>?_⟩
 have gR:t < env.length:=by simpa using ht
 by_cases e:q=t
 ·subst e;simpa using r3
 ·have:=he.2 t gR
  simpa [e] using this
end
mutual
def wk (n m:Nat):V→V
 | .undef=>.undef
 | .d x=>.d x
 | .sl rows .full=>.d (.sl rows)
 | .sl rows (.own t)=>if t < m then .sl rows (.own t) else .d (.sl rows)
 | .ptr i k=>if i < n then .ptr i k else .undef
 | .gp r k=>.gp r k
 | .bx i k cap=>if i < n then .bx i k cap else .undef
 | .self i T=>if i < n then .self i T else .undef
 | .buf rows t T=>if t < m then .buf rows t T else .d (.sl rows)
 | .iG=>.iG
 | .func f a b=>.func f (uW n m a) (uW n m b)
 | .kM=>.kM
 | .agg vs=>.agg (uW n m vs)
 | .bY vs=>.bY (uW n m vs)
 | .mp i=>if i < n then .mp i else .undef
 | .oy ks vs=>.oy ks (uW n m vs)
def uW (n m:Nat):List V→List V
 | []=>[]
 | v :: vs=>wk n m v :: uW n m vs
end
theorem iO (n m:Nat):∀ vs:List V,uW n m vs=vs.map (wk n m)
 | []=>by simp [uW]
 | v :: vs=>by simp [uW,iO n m vs]
mutual
def fit (n m:Nat):V→Bool
 | .undef=>true
 | .d _=>true
 | .sl _ .full=>true
 | .sl _ (.own t)=>decide (t < m)
 | .ptr i _=>decide (i < n)
 | .gp _ _=>true
 | .bx i _ _=>decide (i < n)
 | .self i _=>decide (i < n)
 | .buf _ t _=>decide (t < m)
 | .iG=>true
 | .kM=>true
 | .func _ a b=>jn n m a && jn n m b
 | .agg vs=>jn n m vs
 | .bY vs=>jn n m vs
 | .mp i=>decide (i < n)
 | .oy _ vs=>jn n m vs
def jn (n m:Nat):List V→Bool
 | []=>true
 | v :: vs=>fit n m v && jn n m vs
end
theorem dS (n m:Nat):∀ vs:List V,jn n m vs=true↔∀ (j:Nat) (h:j < vs.length),fit n m vs[j]=true
 | []=>by simp [jn]
 | v :: vs=>by
  simp only [jn,Bool.and_eq_true,dS n m vs]
  constructor
  ·rintro ⟨h1,h2⟩ j hj
   cases j with
   | zero=>exact h1
   | succ j=>exact h2 j (by simpa using hj)
  ·intro h
   exact ⟨h 0 (by simp),fun j hj=>h (j+1) (by simpa using hj)⟩
def Cx.cut (c:Cx) (n m:Nat):Cx:={ c with ρ:=c.ρ.take n,τ:=c.τ.take m }
theorem vT {c:Cx} {n m g k:Nat} (h:(c.cut n m).M g k):c.M g k:=by
 rcases h with (h | h) | ⟨t,i,off,ht,r⟩
 ·exact .inl (.inl h)
 ·exact .inl (.inr (List.mem_of_mem_take h))
 ·have gR:(c.τ.take m)[t]? = some i:=ht
  rw [List.getElem?_take] at gR
  split at gR
  ·exact .inr ⟨t,i,off,gR,r⟩
  ·cases gR
theorem DR.cut {c:Cx} {w:World} (n m:Nat) {x:D} {v:Value} (h:DR c.M w x v):DR (c.cut n m).M w x v:=h.mono fun _ _ _ hm hv=>⟨fun h=>hm (vT h),hv⟩
theorem cz {α:Type} {l:List α} {n i:Nat} {x:α} (h:l[i]? = some x) (hi:i < n):(l.take n)[i]? = some x:=by rw [List.getElem?_take,if_pos hi];exact h
theorem VR.cut {c:Cx} {w:World} (n m:Nat) {x:V} {v:Value} (h:VR c w x v):VR (c.cut n m) w (wk n m x) v:=by
 induction h with
 | undef v=>unfold wk;exact .undef v
 | d x v h=>unfold wk;exact .d x v (h.cut n m)
 | full rows a h ha=>unfold wk;exact .d _ _ (h.cut n m)
 | own rows t a cap i h ht hr hn hl =>
  unfold wk
  split
  ·rename_i au
   exact .own rows t a cap i (h.cut n m) (cz ht au) hr hn hl
  ·exact .d _ _ (h.cut n m)
 | ptr i k b h hT =>
  unfold wk
  split
  ·rename_i au
   exact .ptr i k b (cz h au) hT
  ·exact .undef _
 | gp row k g o f h =>
  unfold wk
  refine .gp row k g o f fun q hq=>?_
  obtain ⟨a,b,d⟩:=h q hq
  exact ⟨fun h=>a (vT h),b,d.cut n m⟩
 | bx i k cap b h hn hm hT =>
  unfold wk
  split
  ·rename_i au
   exact .bx i k cap b (cz h au) hn hm hT
  ·exact .undef _
 | mp i b h =>
  unfold wk
  split
  ·rename_i au
   exact .mp i b (cz h au)
  ·exact .undef _
 | self i T b v h hT hv =>
  unfold wk
  split
  ·rename_i au
   exact .self i T b v (cz h au) hT hv
  ·exact .undef _
 | buf rows t T v h hT ih =>
  unfold wk at ih ⊢
  split
  ·rename_i au
   rw [if_pos au] at ih
   exact .buf rows t T v ih hT
  ·rename_i au
   rw [if_neg au] at ih
   exact ih
 | iG=>unfold wk;exact .iG
 | func f first caps cf cc h1 h2 h3 h4 Ly lM =>
  unfold wk
  rw [iO,iO]
  exact .func f _ _ cf cc (by simpa using h1) (by simpa using h2) (fun j hj=>by simpa using Ly j (by simpa using hj)) (fun j hj=>by simpa using lM j (by simpa using hj))
 | kM=>unfold wk;exact .kM
 | agg vs cs h1 h2 h3 ih =>
  unfold wk
  rw [iO]
  exact .agg _ cs (by simpa using h1) (fun j hj=>by simpa using ih j (by simpa using hj)) (fun j hj=>h3 j (by simpa using hj))
 | bY vs cs h1 h2 ih =>
  unfold wk
  rw [iO]
  exact .bY _ cs (by simpa using h1) (fun j hj=>by simpa using ih j (by simpa using hj))
theorem VR.pR {c:Cx} {w:World} (n m:Nat) {x:V} {v:Value} (h:VR c w x v) (hf:fit n m x=true):VR (c.cut n m) w x v:=by
 induction h with
 | undef v=>exact .undef v
 | d x v h=>exact .d x v (h.cut n m)
 | full rows a h ha=>exact .full rows a (h.cut n m) ha
 | own rows t a cap i h ht hr hn hl=>exact .own rows t a cap i (h.cut n m) (cz ht (by simpa [fit] using hf)) hr hn hl
 | ptr i k b h hT=>exact .ptr i k b (cz h (by simpa [fit] using hf)) hT
 | bx i k cap b h hn hm hT=>exact .bx i k cap b (cz h (by simpa [fit] using hf)) hn hm hT
 | mp i b h=>exact .mp i b (cz h (by simpa [fit] using hf))
 | self i T b v h hT hv=>exact .self i T b v (cz h (by simpa [fit] using hf)) hT hv
 | buf rows t T v h hT ih=>exact .buf rows t T v (ih (by simpa [fit] using hf)) hT
 | gp row k g o f h =>
  refine .gp row k g o f fun q hq=>?_
  obtain ⟨a,b,d⟩:=h q hq
  exact ⟨fun h=>a (vT h),b,d.cut n m⟩
 | iG=>exact .iG
 | kM=>exact .kM
 | func f first caps cf cc h1 h2 h3 h4 Ly lM =>
  unfold fit at hf
  rw [Bool.and_eq_true,dS,dS] at hf
  exact .func f first caps cf cc h1 h2 (fun j hj=>Ly j hj (hf.1 j hj)) (fun j hj=>lM j hj (hf.2 j hj))
 | agg vs cs h1 h2 h3 ih =>
  unfold fit at hf
  rw [dS] at hf
  exact .agg vs cs h1 (fun j hj=>ih j hj (hf j hj)) h3
 | bY vs cs h1 h2 ih =>
  unfold fit at hf
  rw [dS] at hf
  exact .bY vs cs h1 (fun j hj=>ih j hj (hf j hj))
theorem VR.fits {c:Cx} {w:World} {x:V} {v:Value} (h:VR c w x v):fit c.ρ.length c.τ.length x=true:=by
 induction h with
 | own rows t a cap i h ht hr hn hl=>simpa [fit] using (List.getElem?_eq_some_iff.1 ht).1
 | ptr i k b h hT=>simpa [fit] using (List.getElem?_eq_some_iff.1 h).1
 | bx i k cap b h hn hm hT=>simpa [fit] using (List.getElem?_eq_some_iff.1 h).1
 | mp i b h=>simpa [fit] using (List.getElem?_eq_some_iff.1 h).1
 | self i T b v h hT hv=>simpa [fit] using (List.getElem?_eq_some_iff.1 h).1
 | buf rows t T v h hT ih=>simpa [fit] using ih
 | func f first caps cf cc h1 h2 h3 h4 Ly lM=>unfold fit;rw [Bool.and_eq_true,dS,dS];exact ⟨Ly,lM⟩
 | agg vs cs h1 h2 h3 ih=>unfold fit;rw [dS];exact ih
 | bY vs cs h1 h2 ih=>unfold fit;rw [dS];exact ih
 | _=>simp [fit]
theorem oz.pR {c:Cx} {w:World} (n m:Nat) {o:Obj} {vs:List V} (h:oz c w o vs) (hf:∀ (j:Nat) (h:j < vs.length),fit n m vs[j]=true):oz (c.cut n m) w o vs:=by
 cases h with
 | cells cs T vs h1 h2=>exact .cells cs T vs h1 fun j hj=>⟨(h2 j hj).1.pR n m (hf j hj),(h2 j hj).2⟩
 | map es ck ks us h0 h1 h2 =>
  have hf:=hf 0 (by simp)
  simp only [List.getElem_cons_zero,fit] at hf
  rw [dS] at hf
  refine .map es ck ks us h0 h1 fun j k v hj hv=>(h2 j k v hj hv).imp fun e he=>⟨he.1,he.2.1,he.2.2.pR n m ?_⟩
  obtain ⟨au,rfl⟩:=List.getElem?_eq_some_iff.1 hv
  exact hf j au
theorem oz.fits {c:Cx} {w:World} {o:Obj} {vs:List V} (h:oz c w o vs):∀ (j:Nat) (h:j < vs.length),fit c.ρ.length c.τ.length vs[j]=true:=by
 cases h with
 | cells cs T vs h1 h2=>exact fun j hj=>(h2 j hj).1.fits
 | map es ck ks us h0 h1 h2 =>
  intro j hj
  obtain rfl:j=0:=by simpa using hj
  simp only [List.getElem_cons_zero,fit]
  rw [dS]
  intro q hq
  obtain ⟨e,_,_,hv⟩:=h2 q (ks[q]'(by omega)) us[q] (by simp [show q < ks.length by omega]) (by simp [hq])
  exact hv.fits
def AL (n m:Nat) (B L:List (List V)):Prop:=∀ (i:Nat) (vs:List V),L[i]? = some vs→∀ v∈vs,(∃ us,B[i]? = some us∧v∈us)∨fit n m v=true
def qU (n m:Nat) (B L:List (List V)):Prop:=∀ (i:Nat) (vs:List V),L[i]? = some vs→B[i]? = some vs∨vs.all (fit n m)=true
theorem qU.cells {n m:Nat} {B L:List (List V)} (h:qU n m B L):AL n m B L:=fun i vs hi v hv=>(h i vs hi).elim (fun h=>.inl ⟨vs,h,hv⟩) fun h=>.inr (List.all_eq_true.1 h v hv)
theorem qU.refl (n m:Nat) (B:List (List V)):qU n m B B:=fun _ _ h=>.inl h
theorem qU.set {n m:Nat} {B L:List (List V)} (h:qU n m B L) (i:Nat) {vs:List V} (hv:vs.all (fit n m)=true):qU n m B (L.set i vs):=by
 intro j us hj
 by_cases e:j=i
 ·subst e
  rw [List.getElem?_set_self'] at hj
  cases hl:L[j]? with
  | none=>rw [hl] at hj;cases hj
  | some _ =>
   rw [hl] at hj
   obtain rfl:vs=us:=by simpa using hj
   exact .inr hv
 ·rw [List.getElem?_set_ne (fun h=>e h.symm)] at hj
  exact h j us hj
theorem CC {c0 c:Cx} {w0 w:World} (hk:iA c0 w0 c w):c.ρ.take c0.ρ.length=c0.ρ:=by
 apply List.ext_getElem?
 intro i
 rcases Nat.lt_or_ge i c0.ρ.length with h | h
 ·rw [List.getElem?_take,if_pos h,List.getElem?_eq_getElem h]
  exact hk.ρ i _ (List.getElem?_eq_getElem h)
 ·rw [List.getElem?_take,if_neg (by omega),List.getElem?_eq_none h]
theorem forget {c0 c:Cx} {w0 w:World} {S:Mem} {v:V} {x:Value} {L J:List (List V)} {T K:List (Nat × Nat)} (h0:dz c0 w0 S) (hx:Ext c0 w0 c w) (h:dz c w ⟨L++J,T++K⟩) (hv:VR c w v x) (hL:L.length=S.boxes.length) (hT:T.length=S.aL.length) (hf:AL S.boxes.length S.aL.length S.boxes L) :
 dz (c.cut S.boxes.length S.aL.length) w ⟨L,T⟩∧Ext c0 w0 (c.cut S.boxes.length S.aL.length) w∧VR (c.cut S.boxes.length S.aL.length) w (wk S.boxes.length S.aL.length v) x:=by
 have e1:S.boxes.length=c0.ρ.length:=h0.len
 have e2:S.aL.length=c0.τ.length:=by rw [h0.aL];simp
 have hp:=CC hx.keeps
 have hn:c0.ρ.length≤c.ρ.length:=by
  have:=congrArg List.length hp
  simp at this;omega
 refine ⟨⟨by rw [show (c.cut S.boxes.length S.aL.length).B=c.B from rfl];exact h.hB,?_,fun i b hi=>?_,fun i j b hi hj=>?_,?_,fun t i ht=>?_,fun t t' i i' g off th ht gR=>?_,h.inv⟩,⟨⟨fun g k v hm hv=>?_,fun i b hi=>?_,fun t i hi=>?_,hx.B,hx.keeps.ty⟩,hx.B,hx.I,hx.X,hx.below⟩,hv.cut _ _⟩
 ·show L.length=(c.ρ.take S.boxes.length).length
  simp;omega
 ·have jX:(c.ρ.take S.boxes.length)[i]? = some b:=hi
  rw [List.getElem?_take] at jX
  split at jX
  case isFalse=>cases jX
  rename_i au
  obtain ⟨a,o,hh,vs,g1,g2⟩:=h.box i b jX
  have SZ:L[i]? = some vs:=by
   have:(L++J)[i]? = some vs:=g1
   rwa [List.getElem?_append_left (by omega)] at this
  refine ⟨a,o,hh,vs,SZ,g2.pR _ _ fun j hj=>?_⟩
  rcases hf i vs SZ _ (List.getElem_mem hj) with ⟨us,hold,hm⟩ | yt
  ·obtain ⟨b0,jc⟩:∃ b0,c0.ρ[i]? = some b0:=⟨_,List.getElem?_eq_getElem (by omega)⟩
   obtain ⟨_,o0,_,Vz,k1,k3⟩:=h0.box i b0 jc
   rw [hold] at k1
   obtain rfl:=Option.some.inj k1
   obtain ⟨q,hq,e⟩:=List.mem_iff_getElem.1 hm
   have:=k3.fits q hq
   rw [← e1,← e2,e] at this
   exact this
  ·exact yt
 ·have jX:(c.ρ.take S.boxes.length)[i]? = some b:=hi
  have eS:(c.ρ.take S.boxes.length)[j]? = some b:=hj
  rw [List.getElem?_take] at jX eS
  split at jX
  case isFalse=>cases jX
  split at eS
  case isFalse=>cases eS
  exact h.inj i j b jX eS
 ·show T=(c.τ.take S.aL.length).map _
  have:=h.aL
  have h2:T++K=c.τ.map fun i=>(i.n,i.sz):=this
  rw [List.map_take,← h2,← hT]
  simp
 ·have gR:(c.τ.take S.aL.length)[t]? = some i:=ht
  rw [List.getElem?_take] at gR
  split at gR
  case isFalse=>cases gR
  obtain ⟨a1,a2,a3,a4,a5⟩:=h.tok t i gR
  refine ⟨a1,a2,a3,a4,fun au g off ha=>?_⟩
  obtain ⟨b1,b2,b3⟩:=a5 au g off ha
  exact ⟨b1,fun hm=>b2 (List.mem_of_mem_take hm),b3⟩
 ·have yC:(c.τ.take S.aL.length)[t]? = some i:=ht
  have uV:(c.τ.take S.aL.length)[t']? = some i':=gR
  rw [List.getElem?_take] at yC uV
  split at yC
  case isFalse=>cases yC
  split at uV
  case isFalse=>cases uV
  exact h.rG t t' i i' g off th yC uV
 ·exact ⟨fun h=>(hx.keeps.cell g k v hm hv).1 (vT h),(hx.keeps.cell g k v hm hv).2⟩
 ·exact cz (hx.keeps.ρ i b hi) (by have:=(List.getElem?_eq_some_iff.1 hi).1;omega)
 ·obtain ⟨i',a1,a2⟩:=hx.keeps.τ t i hi
  exact ⟨i',cz a1 (by have:=(List.getElem?_eq_some_iff.1 hi).1;omega),a2⟩
def Left (S:Mem) (R:V→Mem→Prop) (v:V) (S':Mem):Prop :=
 ∃ L J T K,S' = ⟨L++J,T++K⟩∧L.length=S.boxes.length∧T.length=S.aL.length∧AL S.boxes.length S.aL.length S.boxes L∧R (wk S.boxes.length S.aL.length v) ⟨L,T⟩
theorem aF.left {P:Program} {I:Inv} {f:FuncId} {args:List V} {S:Mem} {R:V→Mem→Prop} (h:aF P I f args S (Left S R)):aF P I f args S R:=by
 refine ⟨h.1,fun c w xs h1 h2 h3 hI cs=>?_⟩
 obtain ⟨e,w',fr,⟨v,x,S',c',a1,⟨L,J,T,K,rfl,b2,b3,b4,b5⟩,a3,a4,a5⟩,h⟩:=h.2 c w xs h1 h2 h3 hI cs
 obtain ⟨r1,r2,r3⟩:=forget h3 a4 a3 a5 b2 b3 b4
 exact ⟨e,w',fr,⟨_,x,_,_,a1,b5,r1,r2,r3⟩,h⟩
theorem Left.ZC {B L J:List (List V)} {T U K:List (Nat × Nat)} {R:V→Mem→Prop} {v:V} (h1:L.length=B.length) (h2:U.length=T.length) (h3:AL B.length T.length B L) (h:R (wk B.length T.length v) ⟨L,U⟩):Left ⟨B,T⟩ R v ⟨L++J,U++K⟩:=⟨L,J,U,K,rfl,h1,h2,h3,h⟩
theorem Left.of {B L J:List (List V)} {T U K:List (Nat × Nat)} {R:V→Mem→Prop} {v:V} (h1:L.length=B.length) (h2:U.length=T.length) (h3:qU B.length T.length B L) (h:R (wk B.length T.length v) ⟨L,U⟩):Left ⟨B,T⟩ R v ⟨L++J,U++K⟩:=Left.ZC h1 h2 h3.cells h
theorem Left.all {B J:List (List V)} {T K:List (Nat × Nat)} {R:V→Mem→Prop} {v:V} (h:R (wk B.length T.length v) ⟨B,T⟩):Left ⟨B,T⟩ R v ⟨B++J,T++K⟩:=.of rfl rfl (.refl _ _ _) h
theorem Left.box {B J:List (List V)} {T:List (Nat × Nat)} {R:V→Mem→Prop} {v:V} (h:R (wk B.length T.length v) ⟨B,T⟩):Left ⟨B,T⟩ R v ⟨B++J,T⟩:=by
 have:=Left.all (J:=J) (K:=[]) h
 rwa [List.append_nil] at this
theorem Left.tok {B:List (List V)} {T K:List (Nat × Nat)} {R:V→Mem→Prop} {v:V} (h:R (wk B.length T.length v) ⟨B,T⟩):Left ⟨B,T⟩ R v ⟨B,T++K⟩:=by
 have:=Left.all (J:=[]) (K:=K) h
 rwa [List.append_nil] at this
theorem Left.none {B:List (List V)} {T:List (Nat × Nat)} {R:V→Mem→Prop} {v:V} (h:R (wk B.length T.length v) ⟨B,T⟩):Left ⟨B,T⟩ R v ⟨B,T⟩:=by
 have:=Left.box (J:=[]) h
 rwa [List.append_nil] at this
theorem Left.set {B J:List (List V)} {T:List (Nat × Nat)} {R:V→Mem→Prop} {v:V} {i:Nat} {vs:List V} (hf:vs.all (fit B.length T.length)=true) (h:R (wk B.length T.length v) ⟨B.set i vs,T⟩):Left ⟨B,T⟩ R v ⟨B.set i vs++J,T⟩:=by
 have:=Left.of (B:=B) (J:=J) (T:=T) (K:=[]) (L:=B.set i vs) (by simp) rfl ((qU.refl _ _ _).set i hf) h
 rwa [List.append_nil] at this
theorem Left.yD {B:List (List V)} {T:List (Nat × Nat)} {R:V→Mem→Prop} {v:V} {i:Nat} {vs:List V} (hf:vs.all (fit B.length T.length)=true) (h:R (wk B.length T.length v) ⟨B.set i vs,T⟩):Left ⟨B,T⟩ R v ⟨B.set i vs,T⟩:=by
 have:=Left.set (J:=[]) hf h
 rwa [List.append_nil] at this
theorem Left.tv {B J:List (List V)} {T K:List (Nat × Nat)} {R:V→Mem→Prop} {v:V} {i:Nat} {vs:List V} (hf:vs.all (fit B.length T.length)=true) (h:R (wk B.length T.length v) ⟨B.set i vs,T⟩):Left ⟨B,T⟩ R v ⟨B.set i vs++J,T++K⟩ :=
 Left.of (by simp) rfl ((qU.refl _ _ _).set i hf) h
theorem aF.body {P:Program} {I:Inv} {fn:FuncId} {f:Func} {body:Code} {args:List V} {S:Mem} {R:V→Mem→Prop} (hf:P.funcs[fn]? = some f) (hb:f.body=some body) (oJ:(f.name == "runtime.NumGoroutine")=false)
 (h:af P I (S.boxes.length,S.aL.length) fn [.code body] (args++List.replicate (f.ntmps - args.length) .undef) S (Left S R)):aF P I fn args S R:=aF.left (aF.enter hf hb oJ h)
theorem aF.CD {P:Program} {I:Inv} {f:FuncId} {args:List V} {S:Mem} {R:V→Mem→Prop} {fn:Func} (hf:P.funcs[f]? = some fn) (hb:fn.body.isSome=true) (oJ:(fn.name == "runtime.NumGoroutine")=false)
 (h:∀ (c:Cx) (w:World) (xs:Array Value),xs.size=args.length→(∀ j (h:j < args.length),VR c w args[j] (xs.getD j undef))→dz c w S→I.holds w→Calls P f xs w fun e w'=>∃ v x,e = .returned x∧R v S∧Below w.heap.size w w'∧VR c w' v x):aF P I f args S R:=by
 have hn:¬ fn.name = "runtime.NumGoroutine" := by simpa using oJ
 obtain ⟨body,hb⟩:=Option.isSome_iff_exists.1 hb
 refine ⟨fun xs w=>by simp [callFunc,hf,hn,hb],fun c w xs h1 h2 h3 hI cs=>?_⟩
 obtain ⟨e,w',fr,⟨v,x,a1,a2,a3,a4⟩,r⟩:=h c w xs h1 h2 h3 (by rw [← hI];exact h3.I) cs
 obtain ⟨q1,q2⟩:=h3.under a3
 exact ⟨e,w',fr,⟨v,x,S,c,a1,a2,q1,q2,a4⟩,r⟩
section
variable {α:Type} {L m:List α} {n k i:Nat} {x:α}
theorem dF (h:L.length=n):(L++m)[n+k]? = m[k]?:=by rw [← h,List.getElem?_append_right (by omega),Nat.add_sub_cancel_left]
theorem cL (h:L.length=n):(L++m)[n]? = m[0]?:=by have:=dF (m:=m) (k:=0) h;simpa using this
theorem ah (h:i < L.length):(L++m)[i]? = L[i]?:=List.getElem?_append_left h
theorem vU (h:L.length=n):(L++m).set (n+k) x=L++m.set k x:=by rw [← h,List.set_append_right _ _ (by omega),Nat.add_sub_cancel_left]
theorem uo (h:L.length=n):(L++m).set n x=L++m.set 0 x:=by have:=vU (m:=m) (k:=0) (x:=x) h;simpa using this
theorem fI (h:i < L.length):(L++m).set i x=L.set i x++m:=List.set_append_left _ _ h
theorem bG (h:i < L.length):(L.set i x)[i]? = some x:=by simp [h]
end
section
variable {P:Program} {I:Inv} {ops:Array Oper} {S:Mem}
theorem pS {env:List V} {d:Tmp} {v:V} {x:Operand} (h:x ≠ .tmp d):ai I (env.set d v) x=ai I env x:=by
 cases x with
 | tmp t =>
  have cm:d ≠ t:=fun e=>h (e ▸ rfl)
  simp [ai,List.getD,cm]
 | _=>rfl
theorem oL {ev Oz:Operand→V} {ps:Array (Nat × Operand)} (h:∀ x∈(ps.toList.map (·.2)).toArray,ev x=Oz x):gT ev ps=gT Oz ps:=by
 unfold gT
 refine List.map_congr_left fun p hp=>?_
 rw [h p.2 (by simp only [List.mem_toArray,List.mem_map];exact ⟨p,hp,rfl⟩)]
theorem pT {ev Oz:Operand→V} (op:Op) (h:∀ x∈op.operands,ev x=Oz x):cU P ev S op=cU P Oz S op:=by
 have h0:=h
 cases op<;>simp only [Op.operands,List.mem_toArray,List.mem_cons,List.not_mem_nil,or_false,forall_eq_or_imp,forall_eq] at h<;>simp only [cU]
 case move x=>rw [h]
 case assign x=>rw [h]
 case pick c a b=>rw [h.1,h.2.1,h.2.2]
 case box t x=>rw [h]
 case build t ps=>rw [oL (by simpa using h)]
 case buildSlice t n ps=>rw [oL (by simpa using h)]
 case load t x=>rw [h]
 case field s x f=>rw [h]
 case store t x y=>rw [h.1,h.2]
 case nilCheck x=>rw [h]
 case binOp o t x y u=>rw [h.1,h.2]
 case unOp o t x=>rw [h]
 case convert s d x=>rw [h]
 case makeFunc fn first caps =>
  cases fn<;>try rfl
  have h1:first.toList.map ev=first.toList.map Oz:=List.map_congr_left fun x hx=>h x (by simp only [Array.mem_append];exact .inl (by simpa using hx))
  have h2:caps.toList.map ev=caps.toList.map Oz:=List.map_congr_left fun x hx=>h x (by simp only [Array.mem_append];exact .inr (by simpa using hx))
  simp only
  rw [h1,h2]
 case slice t x lo hi mx =>
  cases mx<;>try rfl
  have h1:lo.map ev=lo.map Oz:=by
   cases lo with
   | none=>rfl
   | some a=>simp only [Option.map_some];rw [h0 a (by simp [Op.operands])]
  have h2:hi.map ev=hi.map Oz:=by
   cases hi with
   | none=>rfl
   | some a=>simp only [Option.map_some];rw [h0 a (by simp [Op.operands])]
  simp only
  rw [h0 x (by simp [Op.operands]),h1,h2]
 case fieldAddr s x f=>rw [h]
 case indexAddr t x i=>rw [h.1,h.2]
 case index t x i=>rw [h.1,h.2]
 case extract x i=>rw [h]
 case call q =>
  unfold dD
  have ha:∀ x∈q.args.toList,ev x=Oz x:=fun x hx=>h x (by unfold Call.operands;simp only [Array.mem_append];exact .inr (by simpa using hx))
  split
  ·rename_i x t _ h2 _
   rw [ha x (by rw [h2];simp)]
  ·rename_i s x t u _ h2 _
   rw [ha s (by rw [h2];simp),ha x (by rw [h2];simp)]
  ·rename_i s x t u _ h2 _
   rw [ha s (by rw [h2];simp),ha x (by rw [h2];simp)]
  ·rename_i s x t u _ h2 _
   rw [ha s (by rw [h2];simp),ha x (by rw [h2];simp)]
  ·rename_i s x t u _ h2 _
   rw [ha s (by rw [h2];simp),ha x (by rw [h2];simp)]
  ·rfl
 case makeMap t r=>cases r<;>rfl
 case lookup t m k ok=>rw [h.1,h.2]
 case mapUpdate t m k x=>rw [h.1,h.2.1,h.2.2]
def VW (P:Program) (I:Inv) (o:Oper) (env:List V) (S:Mem) (v:V):Prop :=
 cU P (ai I env) S o.op=some (v,S)∨∃ q f g first caps,o.op = .call q∧q.callee = .value f∧ai I env f = .func g first caps∧aF P I g (first++q.args.toList.map (ai I env)++caps) S fun r S'=>r=v∧S' = S
def YA (P:Program) (I:Inv) (ops:Array Oper) (o:Oper) (env:List V) (S:Mem) (v:V):Prop :=
 (ek env ops o∧VW P I o env S v)∨(oI env ops o∧v = .bY [])
theorem eP {env:List V} {d:Tmp} {x:V} {j:Nat} (h:(ops[j]?).bind (·.dst) ≠ some d):eO (env.set d x) ops j=eO env ops j:=by
 unfold eO
 cases ho:(ops[j]?).bind (·.dst) with
 | none=>rfl
 | some t =>
  have cm:d ≠ t:=fun e=>h (by rw [ho,e])
  simp [List.getD,cm]
theorem rR {o:Oper} {d:Tmp} (h:d ∉ o.looksAt ops):∀ x∈o.op.operands,x ≠ .tmp d:=by
 intro x hx e
 subst e
 refine h ?_
 unfold Oper.looksAt
 rw [List.mem_append]
 exact .inl (List.mem_filterMap.2 ⟨_,by simpa using hx,rfl⟩)
theorem dO {o:Oper} {d:Tmp} (h:d ∉ o.looksAt ops) {j:Nat} {t:Bool} (hg:o.guard=some (j,t)):(ops[j]?).bind (·.dst) ≠ some d:=by
 intro e
 refine h ?_
 unfold Oper.looksAt
 rw [List.mem_append,hg]
 simp only
 exact .inr (by rw [e];simp)
theorem oM {o:Oper} {env:List V} {d:Tmp} {x:V} (h:d ∉ o.looksAt ops):ek (env.set d x) ops o↔ek env ops o:=by
 unfold ek
 constructor
 ·rintro (h1 | ⟨j,t,h1,h2⟩)
  ·exact .inl h1
  ·exact .inr ⟨j,t,h1,by rw [← eP (dO h h1)];exact h2⟩
 ·rintro (h1 | ⟨j,t,h1,h2⟩)
  ·exact .inl h1
  ·exact .inr ⟨j,t,h1,by rw [eP (dO h h1)];exact h2⟩
theorem oN {o:Oper} {env:List V} {d:Tmp} {x:V} (h:d ∉ o.looksAt ops):oI (env.set d x) ops o↔oI env ops o:=by
 unfold oI
 refine exists_congr fun j=>exists_congr fun want=>?_
 constructor
 ·rintro ⟨h1,h2⟩
  rw [eP (dO h h1)] at h2
  exact ⟨h1,h2⟩
 ·rintro ⟨h1,h2⟩
  rw [← eP (dO h h1)] at h2
  exact ⟨h1,h2⟩
theorem uq {o:Oper} {env:List V} (h:ek env ops o) (h':oI env ops o):False:=by
 obtain ⟨j,want,h1,h2⟩:=h'
 rcases h with h | ⟨j',t,h3,h4⟩
 ·rw [h] at h1;cases h1
 ·rw [h3] at h1
  obtain ⟨rfl,rfl⟩:=Prod.mk.inj (Option.some.inj h1)
  rcases h2 with ⟨t',h5,h6⟩ | h5
  ·rw [h4] at h5
   cases h5
   simp at h6
  ·rw [h4] at h5;cases h5
theorem YA.congr {o:Oper} {env:List V} {d:Tmp} {x v:V} (h:d ∉ o.looksAt ops):YA P I ops o (env.set d x) S v↔YA P I ops o env S v:=by
 have he:∀ y∈o.op.operands,ai I (env.set d x) y=ai I env y:=fun y hy=>pS (rR h y hy)
 have hw:ek (env.set d x) ops o↔ek env ops o:=by
  unfold ek
  constructor
  ·rintro (h1 | ⟨j,t,h1,h2⟩)
   ·exact .inl h1
   ·exact .inr ⟨j,t,h1,by rw [← eP (dO h h1)];exact h2⟩
  ·rintro (h1 | ⟨j,t,h1,h2⟩)
   ·exact .inl h1
   ·exact .inr ⟨j,t,h1,by rw [eP (dO h h1)];exact h2⟩
 have hq:VW P I o (env.set d x) S v↔VW P I o env S v:=by
  unfold VW
  rw [pT o.op he]
  refine or_congr Iff.rfl ?_
  refine exists_congr fun q=>exists_congr fun f=>exists_congr fun g=>exists_congr fun first=>exists_congr fun caps=>?_
  constructor
  ·rintro ⟨h1,h2,h3,h4⟩
   have lP:∀ y∈q.operands,ai I (env.set d x) y=ai I env y:=fun y hy=>he y (by rw [h1];exact hy)
   have h5:q.args.toList.map (ai I (env.set d x))=q.args.toList.map (ai I env):=List.map_congr_left fun y hy=>lP y (by unfold Call.operands;simp only [Array.mem_append];exact .inr (by simpa using hy))
   have h6:ai I (env.set d x) f=ai I env f:=lP f (by unfold Call.operands;rw [h2];simp)
   exact ⟨h1,h2,by rw [← h6];exact h3,by rw [← h5];exact h4⟩
  ·rintro ⟨h1,h2,h3,h4⟩
   have lP:∀ y∈q.operands,ai I (env.set d x) y=ai I env y:=fun y hy=>he y (by rw [h1];exact hy)
   have h5:q.args.toList.map (ai I (env.set d x))=q.args.toList.map (ai I env):=List.map_congr_left fun y hy=>lP y (by unfold Call.operands;simp only [Array.mem_append];exact .inr (by simpa using hy))
   have h6:ai I (env.set d x) f=ai I env f:=lP f (by unfold Call.operands;rw [h2];simp)
   exact ⟨h1,h2,by rw [h6];exact h3,by rw [h5];exact h4⟩
 unfold YA
 rw [hw,hq]
 refine or_congr Iff.rfl (and_congr ?_ Iff.rfl)
 unfold oI
 refine exists_congr fun j=>exists_congr fun want=>?_
 constructor
 ·rintro ⟨h1,h2⟩
  rw [eP (dO h h1)] at h2
  exact ⟨h1,h2⟩
 ·rintro ⟨h1,h2⟩
  rw [← eP (dO h h1)] at h2
  exact ⟨h1,h2⟩
theorem YA.LU {o:Oper} {env:List V} {d:Option Tmp} {x v:V} (h:∀ t,d=some t→t ∉ o.looksAt ops):YA P I ops o (aO env d x) S v↔YA P I ops o env S v:=by
 cases d with
 | none=>rfl
 | some t=>exact YA.congr (h t rfl)
theorem iD (env:List V) {x y:Option Tmp} (v u:V) (h:∀ d,x=some d→y ≠ some d):aO (aO env x v) y u=aO (aO env y u) x v:=by
 cases x with
 | none=>rfl
 | some d =>
  cases y with
  | none=>rfl
  | some e =>
   have cm:d ≠ e:=fun he=>h d rfl (he ▸ rfl)
   simp only [aO]
   exact List.set_comm _ _ cm
def LV (P:Program) (I:Inv) (ops:Array Oper) (S:Mem) (K:List V→Prop):Nat→Array Bool→List V→Prop
 | 0,listed,env=>Region.ready .any ops listed=[]∧K env
 | n+1,listed,env=>(Region.ready .any ops listed=[]→K env)∧∀ i∈Region.ready .any ops listed,∃ o v,ops[i]? = some o∧YA P I ops o env S v∧LV P I ops S K n (listed.setIfInBounds i true) (aO env o.dst v)
theorem Fv {K:List V→Prop} {i:Nat} {oi:Oper} {v:V} (hi:ops[i]? = some oi):∀ (n:Nat) (listed:Array Bool) (env:List V),
 (∀ j oj,ops[j]? = some oj→j ≠ i→listed.getD j true=false→(∀ e∈oj.after,Region.binds .any e=true→e.on ≠ i)→oi.apart ops oj=true) →
 i∈Region.ready .any ops listed→YA P I ops oi env S v→LV P I ops S K n (listed.setIfInBounds i true) (aO env oi.dst v)→LV P I ops S K (n+1) listed env:=by
 intro n
 induction n with
 | zero =>
  intro listed env _ hr hy H
  refine ⟨fun h=>(by rw [h] at hr;cases hr),fun j hj=>?_⟩
  by_cases fC:j=i
  ·subst fC;exact ⟨oi,v,hi,hy,H⟩
  ·have:=ready_mono hj fC
   rw [H.1] at this
   cases this
 | succ n ih =>
  intro listed env fZ hr hy H
  refine ⟨fun h=>(by rw [h] at hr;cases hr),fun j hj=>?_⟩
  by_cases fC:j=i
  ·subst fC;exact ⟨oi,v,hi,hy,H⟩
  ·obtain ⟨oj,u,jq,hyj,h1⟩:=H.2 j (ready_mono hj fC)
   obtain ⟨kP,S7,kQ,jb⟩:=mem_ready.1 hj
   rw [jq] at kQ
   obtain rfl:=Option.some.inj kQ
   have ZD:∀ e∈oj.after,Region.binds .any e=true→e.on ≠ i:=fun e he hb heq=>by
    have h1:=jb e he hb
    have h0:=(mem_ready.1 hr).1
    rw [heq] at h1
    rcases Nat.lt_or_ge i listed.size with h' | h'
    ·simp [h'] at h0 h1;rw [h0] at h1;cases h1
    ·simp [Array.getElem?_eq_none h'] at h1
   obtain ⟨a1,a2,a3⟩:=Oper.apart_spec (fZ j oj jq fC kP ZD)
   have ZE:YA P I ops oj env S u:=(YA.LU a1).1 hyj
   have ZF:YA P I ops oi (aO env oj.dst u) S v:=(YA.LU a3).2 hy
   have S8:∀ k ok,ops[k]? = some ok→k ≠ i→(listed.setIfInBounds j true).getD k true=false →
    (∀ e∈ok.after,Region.binds .any e=true→e.on ≠ i)→oi.apart ops ok=true:=fun k ok hk mO lQ AM=>by
    refine fZ k ok hk mO ?_ AM
    by_cases pU:j=k
    ·subst pU;exact kP
    ·rw [getD_set_ne true pU] at lQ;exact lQ
   refine ⟨oj,u,jq,ZE,ih (listed.setIfInBounds j true) (aO env oj.dst u) S8 (ready_mono hr (Ne.symm fC)) ZF ?_⟩
   rw [Array.setIfInBounds_comm _ _ fC,← iD env v u a2]
   exact h1
def CE (P:Program) (I:Inv) (ops:Array Oper) (S:Mem) (K:List V→Prop):List Oper→List V→Prop
 | [],env=>K env
 | o :: l,env=>∃ v,YA P I ops o env S v∧CE P I ops S K l (aO env o.dst v)
theorem CF {K:List V→Prop}:∀ (l:List Oper) (k:Nat) (listed:Array Bool) (env:List V),(∀ j,l[j]? = ops[k+j]?) →
 Region.lexFrom .any ops l.length k listed=true→CE P I ops S K l env→LV P I ops S K l.length listed env
 | [],_,_,_,_,hB,h=>⟨by simpa [Region.lexFrom] using hB,h⟩
 | o :: l,k,listed,env,hl,hB,h=>by
  have h0:ops[k]? = some o:=by simpa using (hl 0).symm
  simp only [List.length_cons,Region.lexFrom,Bool.and_eq_true] at hB
  obtain ⟨⟨hr,hf⟩,OA⟩:=hB
  obtain ⟨v,hy,hK⟩:=h
  exact Fv h0 l.length listed env (Region.free_spec h0 hf) (by simpa using hr) hy
   (CF l (k+1) _ _ (fun j=>by have:=hl (j+1);simpa [Nat.add_assoc,Nat.add_comm 1 j] using this) OA hK)
theorem YA.step {z:Nat × Nat} {fn:FuncId} {k:List Item} {R:V→Mem→Prop} {i:Nat} {rest:List Nat} {o:Oper} {env:List V} {v:V} (ho:ops[i]? = some o) (hy:YA P I ops o env S v) (h:af P I z fn (.inRegion ops rest :: k) (aO env o.dst v) S R):af P I z fn (.inRegion ops (i :: rest) :: k) env S R:=by
 rcases hy with ⟨hw,hq | ⟨q,f,g,first,caps,h1,h2,h3,h4⟩⟩ | ⟨h1,rfl⟩
 ·exact .op ho hw hq h
 ·exact .call ho hw h1 h2 h3 (h4.mono fun r S' ⟨e1,e2⟩=>by subst e1 e2;exact h)
 ·exact .nt ho h1 h
theorem CG {z:Nat × Nat} {fn:FuncId} {k:List Item} {R:V→Mem→Prop}:∀ (n t:Nat) (listed:Array Bool) (env:List V),LV P I ops S (fun env=>af P I z fn k env S R) n listed env→af P I z fn (.inRegion ops (Region.linearise.go .any ops n t listed []) :: k) env S R
 | 0,t,listed,env,h=>by
  simp only [Region.linearise.go,List.reverse_nil]
  exact .jm h.2
 | n+1,t,listed,env,h=>by
  obtain ⟨h₀,h₁⟩:=h
  simp only [Region.linearise.go]
  change af P I z fn (.inRegion ops (match (Region.ready .any ops listed)[t % (Region.ready .any ops listed).length]? with
   | some i=>Region.linearise.go .any ops n (t / (Region.ready .any ops listed).length) (listed.setIfInBounds i true) [i]
   | none=>[].reverse) :: k) env S R
  cases hi:(Region.ready .any ops listed)[t % (Region.ready .any ops listed).length]? with
  | none =>
   have qS:Region.ready .any ops listed=[]:=by
    cases hr:Region.ready .any ops listed with
    | nil=>rfl
    | cons x xs =>
     rw [hr] at hi
     have au:t % (x :: xs).length < (x :: xs).length:=Nat.mod_lt _ (by simp)
     simp at hi
     simp at au
     omega
   exact .jm (h₀ qS)
  | some i =>
   simp only []
   rw [linearise_go_acc,List.reverse_singleton,List.singleton_append]
   obtain ⟨o,v,ho,hy,hn⟩:=h₁ i (List.mem_of_getElem? hi)
   exact YA.step ho hy (CG n _ _ _ hn)
theorem af.draw {z:Nat × Nat} {fn:FuncId} {k:List Item} {R:V→Mem→Prop} {id:Nat} {env:List V} (hm:P.follows .mixedOrders=true) (hB:Region.lexB .any ops=true) (h:CE P I ops S (fun env=>af P I z fn k env S R) ops.toList env):af P I z fn (.code (.region id ops true) :: k) env S R:=by
 intro b a c w c0 w0 h1 h2 h3 h4 h5 h6 hI cs
 have hd:Below w.heap.size w { w with drawn:=w.drawn+1 }:=⟨rfl,rfl,rfl,Nat.le_refl _,fun _ _=>rfl⟩
 obtain ⟨r1,r2⟩:=h5.under hd
 simp only [Region.lexB,Bool.and_eq_true] at hB
 have rS:=CF (P:=P) (I:=I) (S:=S) (K:=fun env=>af P I z fn k env S R) ops.toList 0 (Array.replicate ops.size false) env (by simp) (by simpa using hB.2) h
 have bp:=CG (fn:=fn) (k:=k) (R:=R) ops.toList.length (w.tape w.drawn (.order b.fn id)) _ _ rS
 obtain ⟨e,w',fr,g1,g2,g3⟩:=bp b a c _ c0 w0 h1 h2 h3 (h4.ext r2) r1 (h6.trans r2) ⟨r2.I.trans hI.1,hI.2⟩ cs
 refine ⟨e,w',fr,g1,.of_steps (.one ?_) g2,g3⟩
 have:=step_region_draw (P:=P) (b:=b) (a:=a) (k:=k) (cs:=cs) (w:=w) (ops:=ops) (id:=id)
 rw [this]
 simp only [Region.schedule,hm,Bool.true_or,if_true,Region.linearise,Array.length_toList]
abbrev kg:=List Oper→List V→Prop
def vV (next:kg) (S:Mem) (r:Option (V × Mem)) (l:List Oper) (d:Option Tmp) (env:List V):Prop :=
 match r with
 | some (v,S')=>S' = S∧next l (aO env d v)
 | none=>False
def Hg (P:Program) (I:Inv) (next:kg) (S:Mem) (q:Call) (f:V) (args:List V) (l:List Oper) (d:Option Tmp) (env:List V):Prop :=
 match q.callee,f with
 | .value _,.func g first caps=>∃ v,aF P I g (first++args++caps) S (fun r S'=>r=v∧S' = S)∧next l (aO env d v)
 | _,_=>False
def S9 (P:Program) (I:Inv) (next:kg) (S:Mem) (o:Oper) (l:List Oper) (env:List V):Prop :=
 match o.op with
 | .call q=>match q.callee with
  | .value f=>Hg P I next S q (ai I env f) (q.args.toList.map (ai I env)) l o.dst env
  | _=>vV next S (dD P (ai I env) S q) l o.dst env
 | op=>vV next S (cU P (ai I env) S op) l o.dst env
def mh (P:Program) (I:Inv) (next:kg) (S:Mem) (t want:Bool) (o:Oper) (l:List Oper) (env:List V):Prop :=
 if (t == want)=true then S9 P I next S o l env else next l (aO env o.dst (.bY []))
def rT (P:Program) (I:Inv) (ops:Array Oper) (next:kg) (S:Mem) (o:Oper) (l:List Oper) (env:List V):Prop :=
 match o.guard with
 | none=>S9 P I next S o l env
 | some (j,want)=>match eO env ops j with
  | .d (.bool t)=>mh P I next S t want o l env
  | .bY []=>next l (aO env o.dst (.bY []))
  | _=>False
def CH (P:Program) (I:Inv) (ops:Array Oper) (S:Mem) (K:List V→Prop):Nat→List Oper→List V→Prop
 | _,[],env=>K env
 | 0,_ :: _,_=>False
 | n+1,o :: l,env=>rT P I ops (CH P I ops S K n) S o l env
theorem LW (K:List V→Prop) (n:Nat) (env:List V):CH P I ops S K n [] env=K env:=by cases n<;>rfl
theorem Jb (K:List V→Prop) (n:Nat) (o:Oper) (l:List Oper) (env:List V):CH P I ops S K (n+1) (o :: l) env=rT P I ops (CH P I ops S K n) S o l env:=rfl
theorem Fw (next:kg) (v:V) (l:List Oper) (d:Option Tmp) (env:List V):vV next S (some (v,S)) l d env=next l (aO env d v):=by simp [vV]
theorem Fx (next:kg) (b:Bool) (o:Oper) (l:List Oper) (env:List V):mh P I next S b b o l env=S9 P I next S o l env:=by simp [mh]
theorem Jc (next:kg) (o:Oper) (l:List Oper) (env:List V):mh P I next S true false o l env=next l (aO env o.dst (.bY [])):=by simp [mh]
theorem Jd (next:kg) (o:Oper) (l:List Oper) (env:List V):mh P I next S false true o l env=next l (aO env o.dst (.bY [])):=by simp [mh]
theorem pV {K:List V→Prop}:∀ (n:Nat) (l:List Oper) (env:List V),CH P I ops S K n l env→CE P I ops S K l env:=by
 intro n
 induction n with
 | zero =>
  intro l env h
  cases l with
  | nil=>exact h
  | cons o l=>exact h.elim
 | succ n ih =>
  intro l env h
  cases l with
  | nil=>exact h
  | cons o l =>
   have lP:ek env ops o→S9 P I (CH P I ops S K n) S o l env→CE P I ops S K (o :: l) env:=by
    intro hw h
    have hb:∀ r,cU P (ai I env) S o.op=r→vV (CH P I ops S K n) S r l o.dst env→CE P I ops S K (o :: l) env:=by
     intro r hr hb
     cases r with
     | none=>exact hb.elim
     | some p =>
      obtain ⟨v,S'⟩:=p
      obtain ⟨rfl,hb⟩:=hb
      exact ⟨v,.inl ⟨hw,.inl hr⟩,ih l _ hb⟩
    unfold S9 at h
    split at h
    ·rename_i q hq
     split at h
     ·rename_i f hf
      unfold Hg at h
      rw [hf] at h
      split at h
      ·rename_i g first caps he hg
       obtain ⟨v,hv,hn⟩:=h
       exact ⟨v,.inl ⟨hw,.inr ⟨q,f,g,first,caps,hq,hf,hg,hv⟩⟩,ih l _ hn⟩
      ·exact h.elim
     ·exact hb _ (by rw [hq];rfl) h
    ·exact hb _ rfl h
   have h':rT P I ops (CH P I ops S K n) S o l env:=h
   unfold rT at h'
   split at h'
   ·rename_i hg
    exact lP (.inl hg) h'
   ·rename_i j want hg
    split at h'
    ·rename_i t ht
     unfold mh at h'
     split at h'
     ·rename_i hw
      have:t=want:=by simpa using hw
      subst this
      exact lP (.inr ⟨j,t,hg,ht⟩) h'
     ·rename_i hw
      exact ⟨.bY [],.inr ⟨⟨j,want,hg,.inl ⟨t,ht,by simpa using hw⟩⟩,rfl⟩,ih l _ h'⟩
    ·rename_i ht
     exact ⟨.bY [],.inr ⟨⟨j,want,hg,.inr ht⟩,rfl⟩,ih l _ h'⟩
    ·exact h'.elim
end
def qz (n m:Nat):List V→List V→Prop
 | [],[]=>True
 | a :: aa,b :: bs=>(a = .undef∨(a=b∧fit n m b=true))∧qz n m aa bs
 | _,_=>False
theorem qz.get {n m:Nat}:∀ {aa bs:List V},qz n m aa bs→aa.length=bs.length∧∀ t (h:t < aa.length) (h':t < bs.length),aa[t] = .undef∨(aa[t]=bs[t]∧fit n m bs[t]=true)
 | [],[],_=>⟨rfl,fun t h=>by simp at h⟩
 | a :: aa,b :: bs,h=>by
  obtain ⟨h1,h2⟩:=h
  obtain ⟨h3,h4⟩:=qz.get h2
  refine ⟨by simp [h3],fun t ht gR=>?_⟩
  cases t with
  | zero=>exact h1
  | succ t=>exact h4 t (by simpa using ht) (by simpa using gR)
 | [],_ :: _,h=>h.elim
 | _ :: _,[],h=>h.elim
def Fits (S:Mem):Prop:=∀ vs∈S.boxes,vs.all (fit S.boxes.length S.aL.length)=true
theorem Fits.Ta {c:Cx} {w:World} {S:Mem} (h:dz c w S):Fits S:=by
 intro vs nr
 obtain ⟨i,hi⟩:=List.mem_iff_getElem?.1 nr
 have au:=(List.getElem?_eq_some_iff.1 hi).1
 obtain ⟨b,hb⟩:∃ b,c.ρ[i]? = some b:=⟨_,List.getElem?_eq_getElem (by rw [← h.len];exact au)⟩
 obtain ⟨_,o,_,oE,e1,e3⟩:=h.box i b hb
 rw [hi] at e1
 obtain rfl:=Option.some.inj e1
 rw [List.all_eq_true]
 intro v hv
 obtain ⟨j,hj,rfl⟩:=List.mem_iff_getElem.1 hv
 have:=e3.fits j hj
 rw [h.len,h.aL,List.length_map]
 exact this
mutual
theorem mP {n m n' m':Nat} (hn:n≤n') (hm:m≤m'):∀ v:V,fit n m v=true→fit n' m' v=true
 | .undef,_=>rfl
 | .d _,_=>rfl
 | .sl _ .full,_=>rfl
 | .sl _ (.own t),h=>by simp only [fit,decide_eq_true_iff] at h ⊢;omega
 | .ptr i _,h=>by simp only [fit,decide_eq_true_iff] at h ⊢;omega
 | .bx i _ _,h=>by simp only [fit,decide_eq_true_iff] at h ⊢;omega
 | .mp i,h=>by simp only [fit,decide_eq_true_iff] at h ⊢;omega
 | .oy _ vs,h=>by simp only [fit] at h ⊢;exact kE hn hm vs h
 | .self i _,h=>by simp only [fit,decide_eq_true_iff] at h ⊢;omega
 | .buf _ _ _,h=>by simp only [fit,decide_eq_true_iff] at h ⊢;omega
 | .gp _ _,_=>rfl
 | .iG,_=>rfl
 | .kM,_=>rfl
 | .func _ a b,h=>by
  simp only [fit,Bool.and_eq_true] at h ⊢
  exact ⟨kE hn hm a h.1,kE hn hm b h.2⟩
 | .agg vs,h=>by simp only [fit] at h ⊢;exact kE hn hm vs h
 | .bY vs,h=>by simp only [fit] at h ⊢;exact kE hn hm vs h
theorem kE {n m n' m':Nat} (hn:n≤n') (hm:m≤m'):∀ vs:List V,jn n m vs=true→jn n' m' vs=true
 | [],_=>rfl
 | v :: vs,h=>by
  simp only [jn,Bool.and_eq_true] at h ⊢
  exact ⟨mP hn hm v h.1,kE hn hm vs h.2⟩
end
theorem LX {n m n' m':Nat} (hn:n≤n') (hm:m≤m') {vs:List V} (h:vs.all (fit n m)=true):vs.all (fit n' m')=true:=by
 rw [List.all_eq_true] at h ⊢
 exact fun v hv=>mP hn hm v (h v hv)
theorem Fits.more {B X:List (List V)} {T Y:List (Nat × Nat)} (h:Fits ⟨B,T⟩) (hx:∀ vs∈X,vs.all (fit (B++X).length (T++Y).length)=true):Fits ⟨B++X,T++Y⟩:=by
 intro vs nr
 rcases List.mem_append.1 nr with h' | h'
 ·exact LX (by simp) (by simp) (h vs h')
 ·exact hx vs h'
theorem Fits.set {B:List (List V)} {T:List (Nat × Nat)} (h:Fits ⟨B,T⟩) {i:Nat} {vs:List V} (hv:vs.all (fit B.length T.length)=true):Fits ⟨B.set i vs,T⟩:=by
 intro us VU
 simp only [List.length_set]
 rcases List.mem_or_eq_of_mem_set VU with h' | rfl
 ·exact h us h'
 ·exact hv
theorem Fits.aL {B:List (List V)} {T T':List (Nat × Nat)} (h:Fits ⟨B,T⟩) (he:T'.length=T.length):Fits ⟨B,T'⟩:=by
 intro us VU
 rw [show (⟨B,T'⟩:Mem).aL.length=T.length from he]
 exact h us VU
section
variable {P:Program} {I:Inv} {z:Nat × Nat} {fn:FuncId} {R:V→Mem→Prop}
theorem af.at {k:List Item} {env cF:List V} {L J:List (List V)} {T K:List (Nat × Nat)} (hz:z.1≤L.length∧z.2≤T.length) (hf:Fits ⟨L,T⟩) (he:qz L.length T.length cF env) (h:af P I z fn k cF ⟨L,T⟩ R):af P I z fn k env ⟨L++J,T++K⟩ R:=by
 intro b a c w c0 w0 h1 h2 h3 h4 h5 h6 hI
 have hn:c.ρ.length=L.length+J.length:=by rw [← h5.len];simp
 have hm:c.τ.length=T.length+K.length:=by
  have:=congrArg List.length h5.aL
  simp at this;omega
 have tA:dz (c.cut L.length T.length) w ⟨L,T⟩:=by
  refine ⟨h5.hB,by simp [Cx.cut];omega,fun i b hi=>?_,fun i j b hi hj=>?_,?_,fun t i ht=>?_,fun t t' i i' g off th ht gR=>?_,h5.inv⟩
  ·have jX:(c.ρ.take L.length)[i]? = some b:=hi
   rw [List.getElem?_take] at jX
   split at jX
   case isFalse=>cases jX
   rename_i au
   obtain ⟨a,o,hh,vs,g1,g2⟩:=h5.box i b jX
   have SZ:L[i]? = some vs:=by
    have:(L++J)[i]? = some vs:=g1
    rwa [List.getElem?_append_left au] at this
   exact ⟨a,o,hh,vs,SZ,g2.pR _ _ fun j hj=>List.all_eq_true.1 (hf vs (List.mem_of_getElem? SZ)) _ (List.getElem_mem hj)⟩
  ·have jX:(c.ρ.take L.length)[i]? = some b:=hi
   have eS:(c.ρ.take L.length)[j]? = some b:=hj
   rw [List.getElem?_take] at jX eS
   split at jX
   case isFalse=>cases jX
   split at eS
   case isFalse=>cases eS
   exact h5.inj i j b jX eS
  ·show T=(c.τ.take T.length).map _
   have h2:T++K=c.τ.map fun i=>(i.n,i.sz):=h5.aL
   rw [List.map_take,← h2]
   simp
  ·have gR:(c.τ.take T.length)[t]? = some i:=ht
   rw [List.getElem?_take] at gR
   split at gR
   case isFalse=>cases gR
   obtain ⟨a1,a2,a3,a4,a5⟩:=h5.tok t i gR
   refine ⟨a1,a2,a3,a4,fun au g off ha=>?_⟩
   obtain ⟨b1,b2,b3⟩:=a5 au g off ha
   exact ⟨b1,fun hm=>b2 (List.mem_of_mem_take hm),b3⟩
  ·have yC:(c.τ.take T.length)[t]? = some i:=ht
   have uV:(c.τ.take T.length)[t']? = some i':=gR
   rw [List.getElem?_take] at yC uV
   split at yC
   case isFalse=>cases yC
   split at uV
   case isFalse=>cases uV
   exact h5.rG t t' i i' g off th yC uV
 obtain ⟨l1,l2⟩:=he.get
 have LY:cw (c.cut L.length T.length) w cF a.tmps:=by
  refine ⟨by rw [l1];exact h4.1,fun t ht=>?_⟩
  rcases l2 t ht (by omega) with hu | ⟨heq,yt⟩
  ·rw [hu];exact .undef _
  ·rw [heq];exact (h4.2 t (by omega)).pR _ _ yt
 refine h b a (c.cut L.length T.length) w c0 w0 h1 h2 h3 LY tA ⟨⟨fun g k v hm hv=>?_,fun i b hi=>?_,fun t i hi=>?_,h6.B,h6.keeps.ty⟩,h6.B,h6.I,h6.X,h6.below⟩ ⟨hI.1,hI.2⟩
 ·exact ⟨fun h=>(h6.keeps.cell g k v hm hv).1 (vT h),(h6.keeps.cell g k v hm hv).2⟩
 ·have:=(List.getElem?_eq_some_iff.1 hi).1
  exact cz (h6.keeps.ρ i b hi) (by omega)
 ·obtain ⟨i',a1,a2⟩:=h6.keeps.τ t i hi
  have:=(List.getElem?_eq_some_iff.1 hi).1
  exact ⟨i',cz a1 (by omega),a2⟩
def gO:List V→List V→Prop
 | [],[]=>True
 | a :: aa,b :: bs=>(a = .undef∨a=b)∧gO aa bs
 | _,_=>False
theorem gO.get:∀ {aa bs:List V},gO aa bs→aa.length=bs.length∧∀ t (h:t < aa.length) (h':t < bs.length),aa[t] = .undef∨aa[t]=bs[t]
 | [],[],_=>⟨rfl,fun t h=>by simp at h⟩
 | a :: aa,b :: bs,h=>by
  obtain ⟨h1,h2⟩:=h
  obtain ⟨h3,h4⟩:=gO.get h2
  refine ⟨by simp [h3],fun t ht gR=>?_⟩
  cases t with
  | zero=>exact h1
  | succ t=>exact h4 t (by simpa using ht) (by simpa using gR)
 | [],_ :: _,h=>h.elim
 | _ :: _,[],h=>h.elim
theorem af.fV {k:List Item} {env cF:List V} {S:Mem} (he:gO cF env) (h:af P I z fn k cF S R):af P I z fn k env S R:=by
 intro b a c w c0 w0 h1 h2 h3 h4 h5 h6 hI
 obtain ⟨l1,l2⟩:=he.get
 refine h b a c w c0 w0 h1 h2 h3 ⟨by rw [l1];exact h4.1,fun t ht=>?_⟩ h5 h6 hI
 rcases l2 t ht (by omega) with hu | heq
 ·rw [hu];exact .undef _
 ·rw [heq];exact h4.2 t (by omega)
def eT (n:Nat) (l:List (Nat × V)):List V:=l.foldl (fun e p=>e.set p.1 p.2) (List.replicate n .undef)
theorem af.fits {k:List Item} {env:List V} {S:Mem} (h:Fits S→af P I z fn k env S R):af P I z fn k env S R :=
 fun b a c w c0 w0 h1 h2 h3 h4 h5 h6 hI=>h (.Ta h5) b a c w c0 w0 h1 h2 h3 h4 h5 h6 hI
theorem af.RI {α:Type} (st:α→List V × Mem) (ok:α→Prop) (μ:α→Nat) {x:Code} {k:List Item} (hs:∀ a,ok a→(∀ b,ok b→μ b < μ a→af P I z fn (.inLoop x :: k) (st b).1 (st b).2 R)→af P I z fn (.code x :: .inLoop x :: k) (st a).1 (st a).2 R) (a:α) (ha:ok a):af P I z fn (.code (.loop x) :: k) (st a).1 (st a).2 R:=by
 have key:∀ n a,μ a=n→ok a→af P I z fn (.code x :: .inLoop x :: k) (st a).1 (st a).2 R:=by
  intro n
  induction n using Nat.strongRecOn with
  | _ n ih =>
   intro a hn ha
   exact hs a ha fun b hb au=>.inLoop (ih (μ b) (by omega) b rfl hb)
 exact .loop (key _ a rfl ha)
theorem af.cV {α:Type} (st:α→List V × Mem) (ok:α→Prop) (μ:α→Nat) {x:Code} {k:List Item} {env:List V} {S:Mem} (a:α) (ha:ok a) (he:gO (st a).1 env) (hS:(st a).2=S)
 (hs:∀ a,ok a→(∀ b,ok b→μ b < μ a→∀ cF S',gO (st b).1 cF→(st b).2=S'→af P I z fn (.inLoop x :: k) cF S' R)→af P I z fn (.code x :: .inLoop x :: k) (st a).1 (st a).2 R):af P I z fn (.code (.loop x) :: k) env S R:=by
 refine af.fV he ?_
 rw [← hS]
 refine af.RI st ok μ (fun a ha ih=>hs a ha fun b hb au cF S' zg hS'=>?_) a ha
 refine af.fV zg ?_
 rw [← hS']
 exact ih b hb au
theorem af.VX {α:Type} (st:α→List V × Mem) (ok:α→Prop) (μ:α→Nat) {x:Code} {k:List Item} {env:List V} {S:Mem} (a:α) (ha:ok a) (he:gO (st a).1 env) (hS:(st a).2=S)
 (hs:∀ a,ok a→(∀ b,ok b→μ b < μ a→∀ cF L J T K,(st b).2=⟨L,T⟩→z.1≤L.length∧z.2≤T.length→Fits ⟨L,T⟩→qz L.length T.length (st b).1 cF→af P I z fn (.inLoop x :: k) cF ⟨L++J,T++K⟩ R)→af P I z fn (.code x :: .inLoop x :: k) (st a).1 (st a).2 R):af P I z fn (.code (.loop x) :: k) env S R:=by
 refine af.fV he ?_
 rw [← hS]
 refine af.RI st ok μ (fun a ha ih=>hs a ha fun b hb au cF L J T K ou hz hf zg=>?_) a ha
 refine af.at hz hf zg ?_
 rw [← ou]
 exact ih b hb au
end
theorem Left.fits {S S':Mem} {R:V→Mem→Prop} {v:V} (hf:Fits S') (h1:S'.boxes.length=S.boxes.length) (h2:S'.aL.length=S.aL.length) (h:R (wk S.boxes.length S.aL.length v) S'):Left S R v S':=by
 refine ⟨S'.boxes,[],S'.aL,[],by simp,h1,h2,fun i vs hi v hv=>.inr ?_,h⟩
 have:=List.all_eq_true.1 (hf vs (List.mem_of_getElem? hi)) v hv
 rw [h1,h2] at this
 exact this
mutual
def sm:V→Bool
 | .d (.sl rows)=>decide (rows.length≤9223372036854775807)
 | .d (.str s)=>decide (s.length≤9223372036854775807)
 | .sl rows _=>decide (rows.length≤9223372036854775807)
 | .agg vs=>CI vs
 | _=>true
def CI:List V→Bool
 | []=>true
 | v :: vs=>sm v && CI vs
end
theorem Tb (k:IntKind) (n:Int):sm (.d (.int k n))=true:=rfl
theorem Pa (b:Bool):sm (.d (.bool b))=true:=rfl
theorem Tc (i k:Nat):sm (.ptr i k)=true:=rfl
theorem VY (i n c:Nat):sm (.bx i n c)=true:=rfl
theorem Pb:sm .iG=true:=rfl
theorem Pc:sm .kM=true:=rfl
theorem Pd (f:FuncId) (a b:List V):sm (.func f a b)=true:=rfl
theorem Pe (r:List D) (k:Nat):sm (.gp r k)=true:=rfl
theorem LZ:sm .undef=true:=rfl
theorem Td (vs:List V):sm (.bY vs)=true:=rfl
theorem ga:∀ vs:List V,CI vs=true↔∀ (j:Nat) (h:j < vs.length),sm vs[j]=true
 | []=>by simp [CI]
 | v :: vs=>by
  simp only [CI,Bool.and_eq_true,ga vs]
  constructor
  ·rintro ⟨h1,h2⟩ j hj
   cases j with
   | zero=>exact h1
   | succ j=>exact h2 j (by simpa using hj)
  ·exact fun h=>⟨h 0 (by simp),fun j hj=>h (j+1) (by simpa using hj)⟩
theorem DR.sm {M:Nat→Nat→Prop} {w:World} {x:D} {v:Value} (h:DR M w x v):sm (.d x)=true:=by
 cases h with
 | int k n=>rfl
 | bool b=>rfl
 | str s h=>simpa [Ab.sm] using h
 | sl rows sz a cap f dJ hr hc hm hs hd=>simp only [Ab.sm,decide_eq_true_iff];omega
theorem VR.sm {c:Cx} {w:World} {x:V} {v:Value} (h:VR c w x v):sm x=true:=by
 induction h with
 | d x v h=>exact h.sm
 | full rows a h ha=>exact h.sm
 | own rows t a cap i h ht hr hn hl=>exact h.sm
 | agg vs cs h1 h2 h3 ih=>simp only [Ab.sm];exact (ga vs).2 ih
 | _=>rfl
theorem af.small {P:Program} {I:Inv} {z:Nat × Nat} {fn:FuncId} {R:V→Mem→Prop} {k:List Item} {env:List V} {S:Mem} (h:CI env=true→af P I z fn k env S R):af P I z fn k env S R :=
 fun b a c w c0 w0 h1 h2 h3 h4 h5 h6 hI=>h ((ga env).2 fun j hj=>(h4.2 j hj).sm) b a c w c0 w0 h1 h2 h3 h4 h5 h6 hI
theorem Pf {aa bs:List V} (h:CI (aa++bs)=true):CI aa=true :=
 (ga aa).2 fun j hj=>by
  have:=(ga _).1 h j (by simp;omega)
  rwa [List.getElem_append_left hj] at this
theorem aF.Hh {P:Program} {I:Inv} {fn:FuncId} {f:Func} {body:Code} {args:List V} {S:Mem} {R:V→Mem→Prop} (hf:P.funcs[fn]? = some f) (hb:f.body=some body) (oJ:(f.name == "runtime.NumGoroutine")=false)
 (h:CI args=true→af P I (S.boxes.length,S.aL.length) fn [.code body] (args++List.replicate (f.ntmps - args.length) .undef) S (Left S R)):aF P I fn args S R:=aF.body hf hb oJ (af.small fun h1=>h (Pf h1))
theorem af.dc {P:Program} {I:Inv} {z:Nat × Nat} {fn:FuncId} {R:V→Mem→Prop} {α:Type} (st:α→List V × Mem) (ok:α→Prop) (μ:α→Nat) {x:Code} {k:List Item} {env:List V} {S:Mem} (a:α) (ha:ok a) (he:gO (st a).1 env) (hS:(st a).2=S)
 (hs:∀ a,ok a→(∀ b,ok b→μ b < μ a→∀ cF L J T,(st b).2=⟨L,T⟩→z.1≤L.length∧z.2≤T.length→Fits ⟨L,T⟩→qz L.length T.length (st b).1 cF→af P I z fn (.inLoop x :: k) cF ⟨L++J,T⟩ R)→af P I z fn (.code x :: .inLoop x :: k) (st a).1 (st a).2 R):af P I z fn (.code (.loop x) :: k) env S R:=by
 refine af.VX st ok μ a ha he hS fun a ha ih=>hs a ha fun b hb au cF L J T h1 h2 h3 h4=>?_
 have:=ih b hb au cF L J T [] h1 h2 h3 h4
 rwa [List.append_nil] at this
theorem qV {id:Nat} {K:List Item}:∀ {k k':List Item},exitTo id k=some k'→exitTo id (k++K)=some (k'++K)
 | [],_,h=>by simp [exitTo] at h
 | i :: k,k',h=>by
  cases i with
  | inBlock id' =>
   simp only [List.cons_append,exitTo] at h ⊢
   split at h
   ·rename_i he
    rw [if_pos he]
    obtain rfl:=Option.some.inj h
    rfl
   ·rename_i he
    rw [if_neg he]
    exact qV h
  | _ =>
   simp only [List.cons_append,exitTo] at h ⊢
   exact qV h
section
variable {P:Program} {I:Inv} {z:Nat × Nat} {fn:FuncId} {R:V→Mem→Prop}
theorem L0 (K:List Item) {next stop:dY} (hn:∀ k env S,next k env S→af P I z fn (k++K) env S R) (hs:∀ k env S,stop k env S→af P I z fn (k++K) env S R) (k:List Item) (env:List V) (S:Mem) (h:oK P I next stop k env S):af P I z fn (k++K) env S R:=by
 have VV:∀ (ops:Array Oper) (i:Nat) (rest:List Nat) (o:Oper) (k:List Item) (env:List V) (S:Mem),ops[i]? = some o→ek env ops o→AK P I next stop ops rest o k env S→af P I z fn (.inRegion ops (i :: rest) :: (k++K)) env S R:=by
  intro ops i rest o k env S ho hw hd
  have hb:∀ r,cU P (ai I env) S o.op=r→vQ next r (.inRegion ops rest :: k) o.dst env→af P I z fn (.inRegion ops (i :: rest) :: (k++K)) env S R:=by
   intro r hr hb
   cases r with
   | none=>exact hb.elim
   | some p=>exact .op ho hw hr (hn _ _ _ hb)
  unfold AK at hd
  split at hd
  ·rename_i q hq
   split at hd
   ·rename_i f hf
    unfold rQ at hd
    split at hd
    ·rename_i g first caps hg
     exact .call ho hw hq hf hg (hd.mono fun v S' h=>hs _ _ _ h)
    ·exact hd.elim
   ·exact hb _ (by rw [hq];rfl) hd
  ·exact hb _ rfl hd
 unfold oK at h
 split at h
 ·rename_i c k
  unfold gU at h
  split at h
  ·exact .seq (hn _ _ _ h)
  ·exact .skip (hn _ _ _ h)
  ·exact .label (hn _ _ _ h)
  ·exact .block (hn _ _ _ h)
  ·rw [vS] at h
   exact .region (hn _ _ _ h)
  ·rename_i x a b
   split at h
   ·rename_i t ht
    refine .cond ht ?_
    unfold um at h
    split at h
    ·rename_i uV;rw [uV];exact hn _ _ _ h
    ·rename_i uV
     have:t=false:=by simpa using uV
     rw [this];exact hn _ _ _ h
   ·exact h.elim
  ·split at h
   ·rename_i k' hk
    exact .exit (qV hk) (hn _ _ _ h)
   ·exact h.elim
  ·exact hs _ _ _ h
 ·exact .inBlock (hn _ _ _ h)
 ·exact .jm (hn _ _ _ h)
 ·rename_i ops i rest k
  unfold Cz at h
  split at h
  ·rename_i o ho
   split at h
   ·rename_i hg
    exact VV _ _ _ _ _ _ _ ho (.inl hg) h
   ·rename_i j want hg
    unfold qT at h
    split at h
    ·rename_i t ht
     unfold j6 at h
     split at h
     ·rename_i hw
      have:t=want:=by simpa using hw
      subst this
      exact VV _ _ _ _ _ _ _ ho (.inr ⟨j,t,hg,ht⟩) h
     ·rename_i hw
      exact .nt ho ⟨j,want,hg,.inl ⟨t,ht,by simpa using hw⟩⟩ (hn _ _ _ h)
    ·rename_i ht
     exact .nt ho ⟨j,want,hg,.inr ht⟩ (hn _ _ _ h)
    ·exact h.elim
  ·exact h.elim
 ·exact hs _ _ _ h
theorem tC (K:List Item) {stop:dY} (hs:∀ k env S,stop k env S→af P I z fn (k++K) env S R):∀ (n:Nat) (k:List Item) (env:List V) (S:Mem),steps P I n stop k env S→af P I z fn (k++K) env S R
 | 0,_,_,_,h=>hs _ _ _ h
 | n+1,k,env,S,h=>L0 K (tC K hs n) hs k env S h
theorem af.Je (n:Nat) {i:Item} {K:List Item} {env:List V} {S:Mem} (h:steps P I n (fun k env S=>af P I z fn (k++K) env S R) [i] env S):af P I z fn (i :: K) env S R:=tC K (fun _ _ _ h=>h) n [i] env S h
theorem af.OB (n:Nat) {k K:List Item} {env:List V} {S:Mem} (h:steps P I n (fun k env S=>af P I z fn (k++K) env S R) k env S):af P I z fn (k++K) env S R:=tC K (fun _ _ _ h=>h) n k env S h
theorem af.join {α:Type} (st:α→List V × Mem) (ok:α→Prop) {i:Item} {K:List Item} {env:List V} {S:Mem} (h1:∀ a,ok a→af P I z fn K (st a).1 (st a).2 R)
 (h2:∀ K':List Item,(∀ a,ok a→∀ cF S',gO (st a).1 cF→(st a).2=S'→af P I z fn K' cF S' R)→af P I z fn (i :: K') env S R):af P I z fn (i :: K) env S R :=
 h2 K fun a ha _ _ he hS=>af.fV he (hS ▸ h1 a ha)
end
end Go.Ab
