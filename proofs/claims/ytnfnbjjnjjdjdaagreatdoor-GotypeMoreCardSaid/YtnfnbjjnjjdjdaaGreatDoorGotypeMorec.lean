/- gotypeMore Part 3 of 6 of the proof. -/
import Derived.Test.YtnfnbjjnjjdjdaaGreatDoorGotypeMoreb
import Derived.Test.YtnfnbjjnjjdjdaaGreatDoorRows
import Derived.ProofKit
namespace Go.Proofs.YtnfnbjjnjjdjdaaGreatDoor
open Go.RowKit Go.Av
theorem Ge (bs:List UInt8) (w:World) (hl:bs.length≤1099511627):∃ (cap:Nat) (wb:World),
 (convert 9 57 (.string ⟨bs.toArray⟩)).run Tryz.prog w = .ok (.slice (some ⟨w.heap.size,0,none⟩) bs.length cap) wb∧Below w.heap.size w wb∧w.heap.size < wb.heap.size∧bs.length≤cap∧cap≤9223372036854775807 ∧
 (∀ j u,(bv bs)[j]? = some u→wb.cell? ⟨w.heap.size,0+j,none⟩=some u):=by
 have dJ:(ByteArray.mk bs.toArray).size=bs.length:=by simp [ByteArray.size]
 have hd:(ByteArray.mk bs.toArray).data.toList=bs:=by simp
 have kc:=Lib.run_convert_string_bytes (P:=Tryz.prog) w 9 57 5 ⟨bs.toArray⟩ Tryz.underlying9 Tryz.underlying57 Tryz.underlying5
 rw [dJ] at kc
 have ho:=ox w w.heap.size 5 ⟨bs.toArray⟩ (Nat.le_refl _) (by rw [dJ];unfold maxLen;omega)
 rw [dJ,hd] at ho
 have hb:=ji w w.heap.size 5 ⟨bs.toArray⟩ (Nat.le_refl _)
 exact ⟨_,_,kc,hb,by rw [Lib.bytesWorld_size];omega,grownCap_ge w bs.length 0 5,grownCap_le_maxLen w bs.length 0 5 (by unfold maxLen;omega),ho.cells rfl⟩
def ak (s:List UInt8):Bool:=decide (s.length≤300) && decide ((fk s 0).2=0) && decide ((fk s 0).1.kind=1) && ((fk s 0).1.text == s)
set_option maxRecDepth 100000 in
set_option maxHeartbeats 1000000 in
theorem TF (s:List UInt8) (w:World) (ht:qo w) (hs:s.length≤9223372036854775807) :
 Calls Tryz.prog 91 #[.string ⟨s.toArray⟩] w fun e w'=>e = .returned (.bool (ak s))∧Below w.heap.size w w':=by
 have dJ:(ByteArray.mk s.toArray).size=s.length:=by simp [ByteArray.size]
 by_cases h3:s.length≤300
 ·obtain ⟨cap,wb,kc,hb,hws,mc,hle,Ld⟩:=Ge s w (by omega)
  have HG:=Lib.hid (RX (w.heap.size+1) (.slice (some ⟨w.heap.size,0,none⟩) s.length cap) s 0 wb (ht.below hb) (.inr ⟨_,0,cap,rfl,by omega,mc,hle,Ld⟩) (by omega))
  have hI:ak s=(decide ((fk s 0).2=0) && decide ((fk s 0).1.kind=1) && ((fk s 0).1.text == s)):=by
   unfold ak
   rw [decide_eq_true h3]
   rfl
  have HI:=Lib.hid hI
  generalize fk s 0=r at *
  obtain ⟨⟨k,t,n,a,x⟩,er⟩:=r
  clear Ld ht hI
  by_cases her:er=0
  ·subst her
   by_cases hk:k=1
   ·subst hk
    cases RY:(t == s)
    all_goals
     have ir:ak s=(t == s):=HI.out
     have HF:=Lib.hid ir
     clear ir HI
     go_enter Tryz.func91,Tryz.ntmps91
     go_wp2_with fail
     refine HG.out.mono ?_
     rintro e w1 ⟨rfl,me⟩
     have ou:=hb.trans (me.mono hb.size)
     have ME:=ou.size
     simp only [bJ.cells]
     go_wp2_with fail
     go_ret
     exact ⟨by rw [HF.out,RY];rfl,ou.alloc ME _⟩
   ·have EZ:((k:Int) == 1)=false:=beq_eq_false_iff_ne.2 (by omega)
    have ir:ak s=false:=by rw [HI.out];simp [hk]
    have HF:=Lib.hid ir
    clear ir HI
    go_enter Tryz.func91,Tryz.ntmps91
    go_wp2_with fail
    refine HG.out.mono ?_
    rintro e w1 ⟨rfl,me⟩
    have ou:=hb.trans (me.mono hb.size)
    have ME:=ou.size
    simp only [bJ.cells]
    go_wp2_with fail
    go_ret
    exact ⟨by rw [HF.out];rfl,ou.alloc ME _⟩
  ·have aeG:((er:Int) == 0)=false:=beq_eq_false_iff_ne.2 (by omega)
   have ir:ak s=false:=by rw [HI.out];simp [her]
   have HF:=Lib.hid ir
   clear ir HI
   go_enter Tryz.func91,Tryz.ntmps91
   go_wp2_with fail
   refine HG.out.mono ?_
   rintro e w1 ⟨rfl,me⟩
   have ou:=hb.trans (me.mono hb.size)
   have ME:=ou.size
   simp only [bJ.cells]
   go_wp2_with fail
   go_ret
   exact ⟨by rw [HF.out];rfl,ou.alloc ME _⟩
 ·have hI:ak s=false:=by
   unfold ak
   rw [decide_eq_false h3]
   rfl
  rw [hI]
  go_enter Tryz.func91,Tryz.ntmps91
  go_wp2_with fail
  go_ret
  exact ⟨rfl,Below.refl _ _⟩
inductive aA where
 | mk (kind:Int) (name:List UInt8) (elem:List aA)
def aA.kind:aA→Int | .mk k _ _=>k
def aA.name:aA→List UInt8 | .mk _ n _=>n
def aA.elem:aA→List aA | .mk _ _ es=>es
inductive aj where
 | mk (kind:Int) (text:List UInt8) (int:Int) (type:aA) (names:List (List UInt8)) (kids:List aj)
def aj.kind:aj→Int | .mk k _ _ _ _ _=>k
def aj.text:aj→List UInt8 | .mk _ t _ _ _ _=>t
def aj.int:aj→Int | .mk _ _ i _ _ _=>i
def aj.type:aj→aA | .mk _ _ _ t _ _=>t
def aj.names:aj→List (List UInt8) | .mk _ _ _ _ n _=>n
def aj.kids:aj→List aj | .mk _ _ _ _ _ k=>k
def bA (d p:Int):Bool:=decide (p+1≤60000) && decide (d≤60)
def eK (nR:List UInt8→Bool):aA→Int→Int→Bool × Int
 | .mk k n es,d,p =>
  if bA d p=false then (false,p+1)
  else if 1≤k∧k≤6 then (decide (n=[]) && decide (es.length=0),p+1)
  else if k=7 then (nR n && decide (es.length=0),p+1)
  else match es with
   | [e]=>if k=8∧n=[] then eK nR e (d+1) (p+1) else (false,p+1)
   | _=>(false,p+1)
def mm (nR:List UInt8→Bool) (k:Int) (n:List UInt8) (d p:Int):List aA→Bool × Int
 | [e]=>if k=8∧n=[] then eK nR e (d+1) (p+1) else (false,p+1)
 | _=>(false,p+1)
theorem tL (nR:List UInt8→Bool) (k:Int) (n:List UInt8) (es:List aA) (d p:Int) (hk:¬ bA d p=false):eK nR (.mk k n es) d p=(if 1≤k∧k≤6 then (decide (n=[]) && decide (es.length=0),p+1)
 else if k=7 then (nR n && decide (es.length=0),p+1) else mm nR k n d p es):=by
 match es with
 | []=>conv=>lhs;unfold eK
       rw [if_neg hk];rfl
 | [e]=>conv=>lhs;unfold eK
        rw [if_neg hk];rfl
 | e :: f :: l=>conv=>lhs;unfold eK
                rw [if_neg hk];rfl
theorem JL (nR:List UInt8→Bool) (k:Int) (n:List UInt8) (d p:Int) (es:List aA) (h:¬ (k=8∧n=[])∨es.length ≠ 1):mm nR k n d p es=(false,p+1):=by
 match es with
 | []=>rfl
 | [e]=>rcases h with h | h
        ·exact if_neg h
        ·exact absurd rfl h
 | e :: f :: l=>rfl
def dB (t:aA):Bool:=decide (t.kind=0) && decide (t.name=[]) && decide (t.elem.length=0)
def fm (k:Int):Int:=if k=1∨k=2∨k=3 then 0 else if k=4∨k=5∨k=8∨k=9∨k=12 then 1 else if k=6∨k=10∨k=13 then 2 else if k=11 then 3 else if k=7∨k=14∨k=15 then -1 else -2
def TG (l:List (List UInt8)) (s:List UInt8):Bool:=l.contains s
def gK:Nat→List (List UInt8)→Bool
 | 0,_=>true
 | n+1,l=>gK n l && ak (l.getD n []) && !TG (l.take n) (l.getD n [])
theorem Dq (l:List (List UInt8)) (j:Nat) (h:gK j l=false):∀ m,j≤m→gK m l=false:=by
 intro m
 induction m with
 | zero=>intro hm;obtain rfl:j=0:=by omega
         exact h
 | succ m ih =>
  intro hm
  rcases Nat.lt_or_ge j (m+1) with h' | h'
  ·show (gK m l && ak (l.getD m []) && !TG (l.take m) (l.getD m []))=false
   rw [ih (by omega)]
   rfl
  ·obtain rfl:j=m+1:=by omega
   exact h
def wE:List (List UInt8 × Int):=[([42],5),([47],5),([37],5),([60,60],5),([62,62],5),([38],5),([43],4),([45],4),([124],4),([94],4),([61,61],3),([33,61],3),([60],3),([60,61],3),([62],3),([62,61],3),([38,38],2),([124,124],1)]
def ki (s:List UInt8):Int:=((wE.find? fun x=>x.1 == s).map (·.2)).getD 0
theorem PV (s:List UInt8):(∃ x∈wE,s=x.1)∨∀ x∈wE,(s == x.1)=false:=by
 by_cases h:∃ x∈wE,s=x.1
 ·exact .inl h
 ·exact .inr fun x hx=>beq_eq_false_iff_ne.2 fun e=>h ⟨x,hx,e⟩
def jf (x:aj) (d p:Int):Bool × Int :=
 if x.kind=8 then (if 2≤x.type.kind∧x.type.kind≤6 then eK ak x.type (d+1) p else (false,p))
 else if x.kind=14 then (if x.type.kind=7 then (if (eK ak x.type (d+1) p).1=true then (decide (x.names.length=x.kids.length) && gK x.names.length x.names,(eK ak x.type (d+1) p).2) else (false,(eK ak x.type (d+1) p).2)) else (false,p))
 else if x.kind=15 then (if x.type.kind=8 then eK ak x.type (d+1) p else (false,p))
 else (if x.kind=1∨x.kind=7∨x.kind=9 then ak x.text else if x.kind=6 then decide (0 < ki x.text) else if x.kind=3 then decide (x.int≤1) else true,p)
def dw (x:aj) (d p:Int):Bool × Int :=
 ((jf x d p).1 && !(if x.kind=1∨x.kind=7∨x.kind=9∨x.kind=6 then false else !(x.text == [])) && !(if x.kind=2∨x.kind=3 then false else (x.int != 0)) &&
   !(if x.kind=8∨x.kind=14∨x.kind=15 then false else !(dB x.type)) && !(if x.kind=14 then false else decide (0 < x.names.length)),(jf x d p).2)
theorem q9 (nR:List UInt8→Bool):∀ (t:aA) (d p:Int),(eK nR t d p).1=true→p+1≤(eK nR t d p).2∧(eK nR t d p).2≤60000
 | .mk k n es,d,p,h=>by
  by_cases hk:bA d p=false
  ·exfalso
   unfold eK at h
   rw [if_pos hk] at h
   cases h
  ·have hp:p+1≤60000:=by
    have h2:bA d p=true:=by simpa using hk
    unfold bA at h2
    rw [Bool.and_eq_true,decide_eq_true_iff,decide_eq_true_iff] at h2
    exact h2.1
   rw [tL nR k n es d p hk] at h ⊢
   by_cases h1:1≤k∧k≤6
   ·rw [if_pos h1]
    exact ⟨Int.le_refl _,hp⟩
   ·rw [if_neg h1] at h ⊢
    by_cases h7:k=7
    ·rw [if_pos h7]
     exact ⟨Int.le_refl _,hp⟩
    ·rw [if_neg h7] at h ⊢
     match es with
     | []=>cases h
     | e :: f :: l=>cases h
     | [e] =>
      by_cases h8:k=8∧n=[]
      ·have he:mm nR k n d p [e]=eK nR e (d+1) (p+1):=if_pos h8
       rw [he] at h ⊢
       have:=q9 nR e (d+1) (p+1) h
       omega
      ·have he:mm nR k n d p [e]=(false,p+1):=if_neg h8
       rw [he] at h
       cases h
theorem Dr (x:aj) (d p:Int) (hp:p≤60000) (h:(dw x d p).1=true):p≤(dw x d p).2∧(dw x d p).2≤60000:=by
 have ht:(jf x d p).1=true:=by
  unfold dw at h
  simp only [Bool.and_eq_true] at h
  exact h.1.1.1.1
 show p≤(jf x d p).2∧(jf x d p).2≤60000
 revert ht
 unfold jf
 intro ht
 have fD:=q9 ak x.type (d+1) p
 by_cases h8:x.kind=8
 ·rw [if_pos h8] at ht ⊢
  by_cases hq:2≤x.type.kind∧x.type.kind≤6
  ·rw [if_pos hq] at ht ⊢
   have:=fD ht
   omega
  ·rw [if_neg hq] at ht
   cases ht
 ·rw [if_neg h8] at ht ⊢
  by_cases JM:x.kind=14
  ·rw [if_pos JM] at ht ⊢
   by_cases hq:x.type.kind=7
   ·rw [if_pos hq] at ht ⊢
    by_cases hr:(eK ak x.type (d+1) p).1=true
    ·rw [if_pos hr]
     have:=fD hr
     simp only
     omega
    ·rw [if_neg hr] at ht
     cases ht
   ·rw [if_neg hq] at ht
    cases ht
  ·rw [if_neg JM] at ht ⊢
   by_cases HU:x.kind=15
   ·rw [if_pos HU] at ht ⊢
    by_cases hq:x.type.kind=8
    ·rw [if_pos hq] at ht ⊢
     have:=fD ht
     omega
    ·rw [if_neg hq] at ht
     cases ht
   ·rw [if_neg HU]
    simp only
    omega
def nS (k:Int):Int:=if k=15 then 30000 else 40
mutual
def p8:aj→Int→Int→Bool × Int
 | .mk k t i ty ns ks,d,p =>
  if bA d p=false then (false,p+1)
  else if nS k < (ks.length:Int)∨fm k = -2∨(0≤fm k∧(ks.length:Int) ≠ fm k) then (false,p+1)
  else if (dw (.mk k t i ty ns ks) d (p+1)).1=false then (false,(dw (.mk k t i ty ns ks) d (p+1)).2)
  else eR ks (d+1) (dw (.mk k t i ty ns ks) d (p+1)).2
def eR:List aj→Int→Int→Bool × Int
 | [],_,p=>(true,p)
 | x :: l,d,p=>if (p8 x d p).1=false then (false,(p8 x d p).2) else eR l d (p8 x d p).2
end
mutual
theorem Gf:∀ (x:aj) (d p:Int),(p8 x d p).1=true→p+1≤(p8 x d p).2∧(p8 x d p).2≤60000
 | .mk k t i ty ns ks,d,p,h=>by
  unfold p8 at h ⊢
  by_cases hk:bA d p=false
  ·rw [if_pos hk] at h;cases h
  ·have hp:p+1≤60000:=by
    have h2:bA d p=true:=by simpa using hk
    unfold bA at h2
    rw [Bool.and_eq_true,decide_eq_true_iff,decide_eq_true_iff] at h2
    exact h2.1
   rw [if_neg hk] at h ⊢
   by_cases h1:nS k < (ks.length:Int)∨fm k = -2∨(0≤fm k∧(ks.length:Int) ≠ fm k)
   ·rw [if_pos h1] at h;cases h
   ·rw [if_neg h1] at h ⊢
    by_cases h2:(dw (.mk k t i ty ns ks) d (p+1)).1=false
    ·rw [if_pos h2] at h;cases h
    ·rw [if_neg h2] at h ⊢
     have hb:=Dr (.mk k t i ty ns ks) d (p+1) hp (by simpa using h2)
     have:=vp ks (d+1) _ hb.2 h
     omega
theorem vp:∀ (l:List aj) (d p:Int),p≤60000→(eR l d p).1=true→p≤(eR l d p).2∧(eR l d p).2≤60000
 | [],d,p,hp,_=>⟨Int.le_refl _,hp⟩
 | x :: l,d,p,hp,h=>by
  unfold eR at h ⊢
  by_cases h1:(p8 x d p).1=false
  ·rw [if_pos h1] at h;cases h
  ·rw [if_neg h1] at h ⊢
   have hx:=Gf x d p (by simpa using h1)
   have:=vp l d _ hx.2 h
   omega
end
theorem JN (ks:List aj) (j:Nat) (h:j < ks.length) (d p:Int):eR (ks.drop j) d p=if (p8 ks[j] d p).1=false then (false,(p8 ks[j] d p).2) else eR (ks.drop (j+1)) d (p8 ks[j] d p).2:=by
 rw [List.drop_eq_getElem_cons h]
 conv=>lhs;unfold eR
mutual
def qF:aA→aA→Bool
 | .mk k n es,u=>decide (k=u.kind) && (n == u.name) && fK es u.elem
def fK:List aA→List aA→Bool
 | [],l=>decide (l.length=0)
 | t :: ts,l=>match l with
  | []=>false
  | u :: us=>qF t u && fK ts us
end
mutual
def iZ:aA→Int
 | .mk _ _ es=>1+wF es
def wF:List aA→Int
 | []=>0
 | e :: es=>iZ e+wF es
end
mutual
def TH:aj→Int
 | .mk _ _ _ ty _ ks=>1+(if dB ty=true then 0 else iZ ty)+gq ks
def gq:List aj→Int
 | []=>0
 | x :: l=>TH x+gq l
end
theorem vq (nR:List UInt8→Bool):∀ (t:aA) (d p:Int),(eK nR t d p).1=true→(eK nR t d p).2=p+iZ t∧dB t=false
 | .mk k n es,d,p,h=>by
  have hz:k ≠ 0→dB (.mk k n es)=false:=fun hk=>by
   unfold dB
   rw [show (aA.mk k n es).kind=k from rfl,decide_eq_false hk]
   rfl
  by_cases hk:bA d p=false
  ·exfalso
   unfold eK at h
   rw [if_pos hk] at h
   cases h
  ·rw [tL nR k n es d p hk] at h ⊢
   have qS:es.length=0→iZ (.mk k n es)=1:=fun e=>by
    obtain rfl:=List.eq_nil_of_length_eq_zero e
    unfold iZ wF
    rfl
   by_cases h1:1≤k∧k≤6
   ·rw [if_pos h1] at h ⊢
    simp only [Bool.and_eq_true,decide_eq_true_eq] at h
    rw [qS h.2]
    exact ⟨rfl,hz (by omega)⟩
   ·rw [if_neg h1] at h ⊢
    by_cases h7:k=7
    ·rw [if_pos h7] at h ⊢
     simp only [Bool.and_eq_true,decide_eq_true_eq] at h
     rw [qS h.2]
     exact ⟨rfl,hz (by omega)⟩
    ·rw [if_neg h7] at h ⊢
     match es with
     | []=>cases h
     | e :: f :: l=>cases h
     | [e] =>
      by_cases h8:k=8∧n=[]
      ·have he:mm nR k n d p [e]=eK nR e (d+1) (p+1):=if_pos h8
       rw [he] at h ⊢
       have:=(vq nR e (d+1) (p+1) h).1
       have hc:iZ (.mk k n [e])=1+(iZ e+0):=by
        conv=>lhs;unfold iZ wF wF
       exact ⟨by omega,hz (by omega)⟩
      ·have he:mm nR k n d p [e]=(false,p+1):=if_neg h8
       rw [he] at h
       cases h
theorem tM (x:aj) (d p:Int) (h:(dw x d p).1=true):(dw x d p).2=p+(if dB x.type=true then 0 else iZ x.type):=by
 have fD:=vq ak x.type (d+1) p
 have hp:(dw x d p).2=(jf x d p).2:=rfl
 rw [hp]
 unfold dw at h
 simp only [Bool.and_eq_true] at h
 obtain ⟨⟨⟨⟨ht,_⟩,_⟩,hz⟩,_⟩:=h
 revert ht
 unfold jf
 intro ht
 by_cases h8:x.kind=8
 ·rw [if_pos h8] at ht ⊢
  by_cases hq:2≤x.type.kind∧x.type.kind≤6
  ·rw [if_pos hq] at ht ⊢
   obtain ⟨e1,e2⟩:=fD ht
   rw [e1,e2]
   rfl
  ·rw [if_neg hq] at ht
   cases ht
 ·rw [if_neg h8] at ht ⊢
  by_cases JM:x.kind=14
  ·rw [if_pos JM] at ht ⊢
   by_cases hq:x.type.kind=7
   ·rw [if_pos hq] at ht ⊢
    by_cases hr:(eK ak x.type (d+1) p).1=true
    ·obtain ⟨e1,e2⟩:=fD hr
     rw [if_pos hr,e1,e2]
     rfl
    ·rw [if_neg hr] at ht
     cases ht
   ·rw [if_neg hq] at ht
    cases ht
  ·rw [if_neg JM] at ht ⊢
   by_cases HU:x.kind=15
   ·rw [if_pos HU] at ht ⊢
    by_cases hq:x.type.kind=8
    ·rw [if_pos hq] at ht ⊢
     obtain ⟨e1,e2⟩:=fD ht
     rw [e1,e2]
     rfl
    ·rw [if_neg hq] at ht
     cases ht
   ·rw [if_neg HU]
    rw [if_neg (by rintro (h | h | h);exact h8 h;exact JM h;exact HU h)] at hz
    have Gg:dB x.type=true:=by simpa using hz
    rw [if_pos Gg]
    simp
mutual
theorem Ba:∀ (x:aj) (d p:Int),(p8 x d p).1=true→(p8 x d p).2=p+TH x
 | .mk k t i ty ns ks,d,p,h=>by
  unfold p8 at h ⊢
  unfold TH
  by_cases hk:bA d p=false
  ·rw [if_pos hk] at h;cases h
  ·rw [if_neg hk] at h ⊢
   by_cases h1:nS k < (ks.length:Int)∨fm k = -2∨(0≤fm k∧(ks.length:Int) ≠ fm k)
   ·rw [if_pos h1] at h;cases h
   ·rw [if_neg h1] at h ⊢
    by_cases h2:(dw (.mk k t i ty ns ks) d (p+1)).1=false
    ·rw [if_pos h2] at h;cases h
    ·rw [if_neg h2] at h ⊢
     have hb:(dw (.mk k t i ty ns ks) d (p+1)).2=(p+1)+(if dB ty=true then 0 else iZ ty):=tM (.mk k t i ty ns ks) d (p+1) (by simpa using h2)
     have:=wG ks (d+1) _ h
     omega
theorem wG:∀ (l:List aj) (d p:Int),(eR l d p).1=true→(eR l d p).2=p+gq l
 | [],d,p,_=>by unfold eR gq;simp
 | x :: l,d,p,h=>by
  unfold eR at h ⊢
  unfold gq
  by_cases h1:(p8 x d p).1=false
  ·rw [if_pos h1] at h;cases h
  ·rw [if_neg h1] at h ⊢
   have hx:=Ba x d p (by simpa using h1)
   have:=wG l d _ h
   omega
end
mutual
theorem wH:∀ t:aA,qF t t=true
 | .mk k n es=>by
  unfold qF
  rw [show (aA.mk k n es).kind=k from rfl,show (aA.mk k n es).name=n from rfl,show (aA.mk k n es).elem=es from rfl,uz es,decide_eq_true rfl,beq_self_eq_true]
  rfl
theorem uz:∀ l:List aA,fK l l=true
 | []=>by unfold fK;rfl
 | t :: l=>by unfold fK;simp only;rw [wH t,uz l];rfl
end
theorem oW {d p d' p':Int} (h:bA d p=true) (hd:d'≤d) (hp:p'≤p):bA d' p' = true:=by
 unfold bA at h ⊢
 rw [Bool.and_eq_true,decide_eq_true_iff,decide_eq_true_iff] at h ⊢
 omega
theorem wI (nR:List UInt8→Bool):∀ (t:aA) (d p d' p':Int),(eK nR t d p).1=true→d'≤d→p'≤p→(eK nR t d' p').1=true
 | .mk k n es,d,p,d',p',h,hd,hp=>by
  by_cases hk:bA d p=false
  ·exfalso
   unfold eK at h
   rw [if_pos hk] at h
   cases h
  ·have EZ:¬ bA d' p' = false:=by rw [oW (by simpa using hk) hd hp];decide
   rw [tL nR k n es d p hk] at h
   rw [tL nR k n es d' p' EZ]
   by_cases h1:1≤k∧k≤6
   ·rw [if_pos h1] at h ⊢
    exact h
   ·rw [if_neg h1] at h ⊢
    by_cases h7:k=7
    ·rw [if_pos h7] at h ⊢
     exact h
    ·rw [if_neg h7] at h ⊢
     match es with
     | []=>cases h
     | e :: f :: l=>cases h
     | [e] =>
      by_cases h8:k=8∧n=[]
      ·have he:mm nR k n d p [e]=eK nR e (d+1) (p+1):=if_pos h8
       have zg:mm nR k n d' p' [e]=eK nR e (d' + 1) (p' + 1):=if_pos h8
       rw [he] at h
       rw [zg]
       exact wI nR e _ _ _ _ h (by omega) (by omega)
      ·have he:mm nR k n d p [e]=(false,p+1):=if_neg h8
       rw [he] at h
       cases h
theorem Gh (x:aj) (d p d' p':Int) (h:(jf x d p).1=true) (hd:d'≤d) (hp:p'≤p):(jf x d' p').1=true:=by
 have fD:=fun hh=>wI ak x.type (d+1) p (d' + 1) p' hh (by omega) hp
 unfold jf at h ⊢
 by_cases h8:x.kind=8
 ·rw [if_pos h8] at h ⊢
  by_cases hq:2≤x.type.kind∧x.type.kind≤6
  ·rw [if_pos hq] at h ⊢
   exact fD h
  ·rw [if_neg hq] at h
   cases h
 ·rw [if_neg h8] at h ⊢
  by_cases JM:x.kind=14
  ·rw [if_pos JM] at h ⊢
   by_cases hq:x.type.kind=7
   ·rw [if_pos hq] at h ⊢
    by_cases hr:(eK ak x.type (d+1) p).1=true
    ·rw [if_pos hr] at h
     rw [if_pos (fD hr)]
     exact h
    ·rw [if_neg hr] at h
     cases h
   ·rw [if_neg hq] at h
    cases h
  ·rw [if_neg JM] at h ⊢
   by_cases HU:x.kind=15
   ·rw [if_pos HU] at h ⊢
    by_cases hq:x.type.kind=8
    ·rw [if_pos hq] at h ⊢
     exact fD h
    ·rw [if_neg hq] at h
     cases h
   ·rw [if_neg HU] at h ⊢
    exact h
theorem Gi (x:aj) (d p d' p':Int) (h:(dw x d p).1=true) (hd:d'≤d) (hp:p'≤p):(dw x d' p').1=true:=by
 unfold dw at h ⊢
 simp only [Bool.and_eq_true] at h ⊢
 exact ⟨⟨⟨⟨Gh x d p d' p' h.1.1.1.1 hd hp,h.1.1.1.2⟩,h.1.1.2⟩,h.1.2⟩,h.2⟩
mutual
theorem MF:∀ (x:aj) (d p d' p':Int),(p8 x d p).1=true→d'≤d→p'≤p→(p8 x d' p').1=true
 | .mk k t i ty ns ks,d,p,d',p',h,hd,hp=>by
  unfold p8 at h ⊢
  by_cases hk:bA d p=false
  ·rw [if_pos hk] at h;cases h
  ·have EZ:¬ bA d' p' = false:=by rw [oW (by simpa using hk) hd hp];decide
   rw [if_neg hk] at h
   rw [if_neg EZ]
   by_cases h1:nS k < (ks.length:Int)∨fm k = -2∨(0≤fm k∧(ks.length:Int) ≠ fm k)
   ·rw [if_pos h1] at h;cases h
   ·rw [if_neg h1] at h ⊢
    by_cases h2:(dw (.mk k t i ty ns ks) d (p+1)).1=false
    ·rw [if_pos h2] at h;cases h
    ·have hb:(dw (.mk k t i ty ns ks) d (p+1)).1=true:=by simpa using h2
     have RH:=Gi _ d (p+1) d' (p' + 1) hb hd (by omega)
     rw [if_neg h2] at h
     rw [if_neg (by rw [RH];decide)]
     have c1:=tM _ _ _ hb
     have c2:=tM _ _ _ RH
     exact tN ks _ _ _ _ h (by omega) (by omega)
theorem tN:∀ (l:List aj) (d p d' p':Int),(eR l d p).1=true→d'≤d→p'≤p→(eR l d' p').1=true
 | [],d,p,d',p',_,_,_=>by unfold eR;rfl
 | x :: l,d,p,d',p',h,hd,hp=>by
  unfold eR at h ⊢
  by_cases h1:(p8 x d p).1=false
  ·rw [if_pos h1] at h;cases h
  ·have hx:(p8 x d p).1=true:=by simpa using h1
   have Yj:=MF x d p d' p' hx hd hp
   rw [if_neg h1] at h
   rw [if_neg (by rw [Yj];decide)]
   have c1:=Ba x d p hx
   have c2:=Ba x d' p' Yj
   exact tN l _ _ _ _ h hd (by omega)
end
mutual
inductive aH where
 | mk (kind:Int) (names:List (List UInt8)) (type:aA) (aG exprs:List aj) (body dh:List aH) (cases:List cJ)
inductive cJ where
 | mk (int:Int) (body:List aH)
end
def aH.kind:aH→Int | .mk k _ _ _ _ _ _ _=>k
def aH.names:aH→List (List UInt8) | .mk _ n _ _ _ _ _ _=>n
def aH.type:aH→aA | .mk _ _ t _ _ _ _ _=>t
def aH.aG:aH→List aj | .mk _ _ _ l _ _ _ _=>l
def aH.exprs:aH→List aj | .mk _ _ _ _ e _ _ _=>e
def aH.body:aH→List aH | .mk _ _ _ _ _ b _ _=>b
def aH.dh:aH→List aH | .mk _ _ _ _ _ _ b _=>b
def aH.cases:aH→List cJ | .mk _ _ _ _ _ _ _ c=>c
def cJ.int:cJ→Int | .mk i _=>i
def cJ.body:cJ→List aH | .mk _ b=>b
structure bH where
 name:List UInt8
 type:aA
structure cG where
 name:List UInt8
 fields:List bH
structure cn where
 name:List UInt8
 params:List bH
 results:List aA
 body:List aH
structure kW where
 structs:List cG
 funcs:List cn
structure aK (f:Int→Bool × Int) (n:Int):Prop where
 wJ:∀ p,(f p).1=true→(f p).2=p+n
 up:∀ p,(f p).1=true→p≤(f p).2
 mono:∀ p p',(f p).1=true→p'≤p→(f p').1=true
def aP (f g:Int→Bool × Int) (p:Int):Bool × Int:=if (f p).1=false then (false,(f p).2) else g (f p).2
def cA (b:Bool) (p:Int):Bool × Int:=(b,p)
def cr (d p:Int):Bool × Int:=(bA d p,p+1)
def cq {α:Type} (f:α→Int→Bool × Int):List α→Int→Bool × Int
 | [],p=>(true,p)
 | x :: l,p=>aP (f x) (cq f l) p
def aZ {α:Type} (c:α→Int):List α→Int
 | []=>0
 | x :: l=>c x+aZ c l
theorem aK.and {f g:Int→Bool × Int} {n m:Int} (hf:aK f n) (hg:aK g m):aK (aP f g) (n+m):=by
 have op:∀ p,(aP f g p).1=true→(f p).1=true∧aP f g p=g (f p).2:=by
  intro p h
  unfold aP at h ⊢
  by_cases h1:(f p).1=false
  ·rw [if_pos h1] at h;cases h
  ·rw [if_neg h1]
   exact ⟨by simpa using h1,rfl⟩
 refine ⟨fun p h=>?_,fun p h=>?_,fun p p' h hp=>?_⟩
 ·obtain ⟨h1,h2⟩:=op p h
  rw [h2] at h ⊢
  rw [hg.wJ _ h,hf.wJ _ h1]
  omega
 ·obtain ⟨h1,h2⟩:=op p h
  rw [h2] at h ⊢
  exact Int.le_trans (hf.up _ h1) (hg.up _ h)
 ·obtain ⟨h1,h2⟩:=op p h
  have h3:=hf.mono p p' h1 hp
  rw [h2] at h
  have h4:aP f g p' = g (f p').2:=by
   unfold aP
   rw [if_neg (by rw [h3];decide)]
  rw [h4]
  exact hg.mono _ _ h (by rw [hf.wJ _ h1,hf.wJ _ h3];omega)
theorem aK.allow (b:Bool):aK (cA b) 0:=⟨fun p _=>by simp [cA],fun p _=>Int.le_refl _,fun p p' h _=>h⟩
theorem aK.part (d:Int):aK (cr d) 1:=⟨fun p _=>rfl,fun p _=>by show p≤p+1;omega,fun p p' h hp=>oW h (Int.le_refl _) hp⟩
theorem aK.row {α:Type} {f:α→Int→Bool × Int} {c:α→Int}:∀ (l:List α),(∀ x∈l,aK (f x) (c x))→aK (cq f l) (aZ c l)
 | [],_=>⟨fun p _=>by simp [cq,aZ],fun p _=>Int.le_refl _,fun p p' h _=>rfl⟩
 | x :: l,h=>by
  have hr:=aK.row l fun y hy=>h y (List.mem_cons_of_mem _ hy)
  have:=(h x List.mem_cons_self).and hr
  exact this
theorem aK.ty (t:aA) (d:Int):aK (fun p=>eK ak t d p) (iZ t) :=
 ⟨fun p h=>(vq ak t d p h).1,fun p h=>by have:=q9 ak t d p h;show p≤(eK ak t d p).2;omega,fun p p' h hp=>wI ak t d p d p' h (Int.le_refl _) hp⟩
theorem PW:∀ (l:List aj) (d p:Int),(eR l d p).1=true→p≤(eR l d p).2
 | [],d,p,_=>by unfold eR;exact Int.le_refl _
 | x :: l,d,p,h=>by
  unfold eR at h ⊢
  by_cases h1:(p8 x d p).1=false
  ·rw [if_pos h1] at h;cases h
  ·rw [if_neg h1] at h ⊢
   have hx:=Gf x d p (by simpa using h1)
   have:=(vp l d _ hx.2 h).1
   omega
theorem aK.U5 (l:List aj) (d:Int):aK (fun p=>eR l d p) (gq l) :=
 ⟨fun p h=>wG l d p h,fun p h=>PW l d p h,fun p p' h hp=>tN l d p d p' h (Int.le_refl _) hp⟩
mutual
def jg:aj→Bool
 | .mk k _ _ _ _ ks=>decide (k ≠ 14) && decide (k ≠ 15) && wK ks
def wK:List aj→Bool
 | []=>true
 | x :: l=>jg x && wK l
end
def dU:aj→Bool
 | .mk k _ _ _ _ ks=>match ks with
  | [y]=>if k=9 then dU y else decide (k=1)
  | _=>decide (k=1)
def fW (s:aH):Bool :=
 let plain:=decide (s.names=[]) && dB s.type
 let aG:=decide (s.aG=[])
 let body:=decide (s.body.length=0)
 let other:=decide (s.dh.length=0)
 let cases:=decide (s.cases.length=0)
 if s.kind=1 then decide (s.exprs.length=0) && (match s.names with | [x]=>ak x | _=>false) && aG && body && other && cases
 else if s.kind=2 then decide (0 < s.aG.length) && (decide (s.exprs.length=s.aG.length) || (match s.exprs with | [x]=>decide (x.kind=7) | _=>false)) && s.aG.all dU && plain && body && other && cases
 else if s.kind=3 then plain && aG && (match s.exprs with | [x]=>jg x | _=>false) && cases
 else if s.kind=4 then plain && aG && (match s.exprs with | [x]=>jg x | _=>false) && other && cases
 else if s.kind=5 then plain && aG && (match s.exprs with | [x]=>jg x | _=>false) && body
 else if s.kind=6 then plain && aG && decide (0 < s.exprs.length) && body && other && cases
 else false
def ep (l:List aj) (d:Int):Int→Bool × Int:=aP (fun p=>eR l d p) (cA (decide (l.length≤40)))
def ri (R:aH→Int→Int→Bool × Int) (d:Int):List Int→List cJ→Int→Bool × Int
 | _,[],p=>(true,p)
 | seen,c :: l,p=>aP (cr (d+1)) (aP (cA (!seen.contains c.int)) (aP (cq (fun s=>R s (d+2)) c.body) (ri R d (seen++[c.int]) l))) p
def ia:Nat→aH→Int→Int→Bool × Int
 | 0,_,_=>cA false
 | n+1,s,d=>aP (cr d) (aP (cA (fW s && decide (s.cases.length≤40))) (aP (if s.kind=1 then fun p=>eK ak s.type (d+1) p else cA true)
  (aP (ri (ia n) d [] s.cases) (aP (ep s.aG (d+1)) (aP (ep s.exprs (d+1)) (aP (cq (fun x=>ia n x (d+1)) s.body) (cq (fun x=>ia n x (d+1)) s.dh)))))))
def yh:Nat→aH→Int
 | 0,_=>0
 | n+1,s=>1+(if s.kind=1 then iZ s.type else 0)+aZ (fun c:cJ=>1+aZ (yh n) c.body) s.cases+gq s.aG+gq s.exprs+aZ (yh n) s.body+aZ (yh n) s.dh
theorem aK.eq {f:Int→Bool × Int} {n m:Int} (h:aK f n) (e:n=m):aK f m:=e ▸ h
theorem aK.ep (l:List aj) (d:Int):aK (ep l d) (gq l):=((aK.U5 l d).and (aK.allow _)).eq (by omega)
theorem aK.TJ {R:aH→Int→Int→Bool × Int} {c:aH→Int} (hR:∀ s d,aK (R s d) (c s)) (d:Int):∀ (l:List cJ) (seen:List Int),aK (ri R d seen l) (aZ (fun k:cJ=>1+aZ c k.body) l)
 | [],_=>⟨fun p _=>by simp [ri,aZ],fun p _=>Int.le_refl _,fun p p' h _=>rfl⟩
 | k :: l,seen=>by
  have h:=(aK.part (d+1)).and ((aK.allow (!seen.contains k.int)).and ((aK.row (f:=fun s=>R s (d+2)) (c:=c) k.body fun s _=>hR s (d+2)).and (aK.TJ hR d l (seen++[k.int]))))
  exact aK.eq (f:=ri R d seen (k :: l)) h (by simp only [aZ];omega)
theorem aK.st:∀ (n:Nat) (s:aH) (d:Int),aK (ia n s d) (yh n s)
 | 0,s,d=>⟨fun p h=>(by cases h),fun p h=>(by cases h),fun p p' h _=>(by cases h)⟩
 | n+1,s,d=>by
  have ih:=aK.st n
  have hb:=aK.row (f:=fun x=>ia n x (d+1)) (c:=yh n) s.body fun x _=>ih x (d+1)
  have he:=aK.row (f:=fun x=>ia n x (d+1)) (c:=yh n) s.dh fun x _=>ih x (d+1)
  have fD:aK (if s.kind=1 then fun p=>eK ak s.type (d+1) p else cA true) (if s.kind=1 then iZ s.type else 0):=by
   by_cases hk:s.kind=1
   ·rw [if_pos hk,if_pos hk];exact aK.ty s.type (d+1)
   ·rw [if_neg hk,if_neg hk];exact aK.allow true
  have h:=(aK.part d).and ((aK.allow (fW s && decide (s.cases.length≤40))).and (fD.and ((aK.TJ (fun s d=>ih s d) d s.cases []).and ((aK.ep s.aG (d+1)).and ((aK.ep s.exprs (d+1)).and (hb.and he))))))
  exact aK.eq (f:=ia (n+1) s d) h (by simp only [yh];omega)
def Ds (jR:Nat) (l:List bH):Int→Bool × Int :=
 aP (cq (fun x:bH=>aP (cr 0) (fun p=>eK ak x.type 0 p)) l) (cA (decide (l.length≤jR) && gK l.length (l.map bH.name)))
def Bb (l:List bH):Int:=aZ (fun x:bH=>1+iZ x.type) l
def Dt (s:cG):Int→Bool × Int:=aP (cr 0) (aP (cA (ak s.name)) (Ds 60 s.fields))
def TK (s:cG):Int:=1+Bb s.fields
def uZ (n:Nat) (f:cn):Int→Bool × Int :=
 aP (cr 0) (aP (cA (ak f.name)) (aP (Ds 20 f.params) (aP (cA (decide (1≤f.results.length) && decide (f.results.length≤20))) (aP (cq (fun t p=>eK ak t 0 p) f.results) (cq (fun s=>ia n s 0) f.body)))))
def U6 (n:Nat) (f:cn):Int:=1+Bb f.params+aZ iZ f.results+aZ (yh n) f.body
def nT (n:Nat) (p:kW):Int→Bool × Int:=aP (cq Dt p.structs) (cq (uZ n) p.funcs)
def prC (n:Nat) (p:kW):Int:=aZ TK p.structs+aZ (U6 n) p.funcs
theorem aK.pa (jR:Nat) (l:List bH):aK (Ds jR l) (Bb l) :=
 ((aK.row (f:=fun x:bH=>aP (cr 0) (fun p=>eK ak x.type 0 p)) (c:=fun x:bH=>1+iZ x.type) l fun x _=>(aK.part 0).and (aK.ty x.type 0)).and (aK.allow _)).eq (by unfold Bb;omega)
theorem aK.su (s:cG):aK (Dt s) (TK s) :=
 ((aK.part 0).and ((aK.allow (ak s.name)).and (aK.pa 60 s.fields))).eq (by unfold TK;omega)
theorem aK.fu (n:Nat) (f:cn):aK (uZ n f) (U6 n f) :=
 ((aK.part 0).and ((aK.allow (ak f.name)).and ((aK.pa 20 f.params).and ((aK.allow (decide (1≤f.results.length) && decide (f.results.length≤20))).and ((aK.row (f:=fun t p=>eK ak t 0 p) (c:=iZ) f.results fun t _=>aK.ty t 0).and
   (aK.row (f:=fun s=>ia n s 0) (c:=yh n) f.body fun s _=>aK.st n s 0)))))).eq (by unfold U6;omega)
theorem aK.pr (n:Nat) (p:kW):aK (nT n p) (prC n p) :=
 (aK.row (f:=Dt) (c:=TK) p.structs fun s _=>aK.su s).and (aK.row (f:=uZ n) (c:=U6 n) p.funcs fun f _=>aK.fu n f)
theorem aK.TL {f:Int→Bool × Int} {c:Int} (h:aK f c) {p:Int} (ht:(f p).1=true):0≤c:=by
 have h1:=h.wJ p ht
 have h2:=h.up p ht
 omega
theorem aJ {f g:Int→Bool × Int} {p:Int} (h:(aP f g p).1=true):(f p).1=true∧(g (f p).2).1=true:=by
 unfold aP at h
 by_cases h1:(f p).1=false
 ·rw [if_pos h1] at h;cases h
 ·rw [if_neg h1] at h
  exact ⟨by simpa using h1,h⟩
theorem fo {α:Type} {f:α→Int→Bool × Int}:∀ (l:List α) (p:Int),(cq f l p).1=true→∀ x∈l,∃ q,(f x q).1=true
 | y :: l,p,h,x,hx=>by
  obtain ⟨h1,h2⟩:=aJ (f:=f y) (g:=cq f l) h
  rcases List.mem_cons.1 hx with rfl | hx
  ·exact ⟨p,h1⟩
  ·exact fo l _ h2 x hx
def nc:Nat→aH→Int
 | 0,_=>0
 | n+1,s=>1+(if dB s.type=true then 0 else iZ s.type)+gq s.aG+gq s.exprs+aZ (nc n) s.body+aZ (nc n) s.dh+aZ (fun c:cJ=>1+aZ (nc n) c.body) s.cases
theorem gC {α:Type} {c c':α→Int}:∀ l:List α,(∀ x∈l,c x=c' x)→aZ c l=aZ c' l
 | [],_=>rfl
 | x :: l,h=>by
  show c x+aZ c l=c' x+aZ c' l
  rw [h x List.mem_cons_self,gC l fun y hy=>h y (List.mem_cons_of_mem _ hy)]
theorem wL {R:aH→Int→Int→Bool × Int} {d:Int}:∀ (l:List cJ) (seen:List Int) (p:Int),(ri R d seen l p).1=true→∀ c∈l,∀ s∈c.body,∃ q,(R s (d+2) q).1=true
 | k :: l,seen,p,h,c,hc,s,hs=>by
  obtain ⟨_,h2⟩:=aJ (f:=cr (d+1)) h
  obtain ⟨_,h3⟩:=aJ h2
  obtain ⟨h4,h5⟩:=aJ h3
  rcases List.mem_cons.1 hc with rfl | hc
  ·exact fo (f:=fun s=>R s (d+2)) _ _ h4 s hs
  ·exact wL l _ _ h5 c hc s hs
theorem Gj (s:aH) (h:fW s=true) (hk:s.kind ≠ 1):dB s.type=true:=by
 unfold fW at h
 simp only [if_neg hk] at h
 by_cases h2:s.kind=2
 ·rw [if_pos h2] at h;simp only [Bool.and_eq_true] at h;exact h.1.1.1.2.2
 ·rw [if_neg h2] at h
  by_cases h3:s.kind=3
  ·rw [if_pos h3] at h;simp only [Bool.and_eq_true] at h;exact h.1.1.1.2
  ·rw [if_neg h3] at h
   by_cases h4:s.kind=4
   ·rw [if_pos h4] at h;simp only [Bool.and_eq_true] at h;exact h.1.1.1.1.2
   ·rw [if_neg h4] at h
    by_cases h5:s.kind=5
    ·rw [if_pos h5] at h;simp only [Bool.and_eq_true] at h;exact h.1.1.1.2
    ·rw [if_neg h5] at h
     by_cases h6:s.kind=6
     ·rw [if_pos h6] at h;simp only [Bool.and_eq_true] at h;exact h.1.1.1.1.1.2
     ·rw [if_neg h6] at h;cases h
theorem MG:∀ (n:Nat) (s:aH) (d p:Int),(ia n s d p).1=true→nc n s=yh n s
 | 0,_,_,_,h=>by cases h
 | n+1,s,d,p,h=>by
  have ih:=MG n
  obtain ⟨_,h⟩:=aJ (f:=cr d) h
  obtain ⟨hz,h⟩:=aJ h
  obtain ⟨ht,h⟩:=aJ h
  obtain ⟨hc,h⟩:=aJ h
  obtain ⟨_,h⟩:=aJ h
  obtain ⟨_,h⟩:=aJ h
  obtain ⟨hb,he⟩:=aJ h
  have e1:aZ (nc n) s.body=aZ (yh n) s.body:=gC _ fun x hx=>by
   obtain ⟨q,hq⟩:=fo (f:=fun x=>ia n x (d+1)) _ _ hb x hx
   exact ih x _ q hq
  have e2:aZ (nc n) s.dh=aZ (yh n) s.dh:=gC _ fun x hx=>by
   obtain ⟨q,hq⟩:=fo (f:=fun x=>ia n x (d+1)) _ _ he x hx
   exact ih x _ q hq
  have e3:aZ (fun c:cJ=>1+aZ (nc n) c.body) s.cases=aZ (fun c:cJ=>1+aZ (yh n) c.body) s.cases:=gC _ fun c yx=>by
   have:aZ (nc n) c.body=aZ (yh n) c.body:=gC _ fun x hx=>by
    obtain ⟨q,hq⟩:=wL _ _ _ hc c yx x hx
    exact ih x _ q hq
   rw [this]
  have e4:(if dB s.type=true then 0 else iZ s.type)=(if s.kind=1 then iZ s.type else 0):=by
   by_cases hk:s.kind=1
   ·rw [if_pos hk] at ht
    have hz1:=(vq ak s.type (d+1) _ ht).2
    rw [if_pos hk,if_neg (by rw [hz1];decide)]
   ·have hs:fW s=true:=by
     have:(fW s && decide (s.cases.length≤40))=true:=hz
     rw [Bool.and_eq_true] at this
     exact this.1
    rw [if_neg hk,if_pos (Gj s hs hk)]
  unfold nc yh
  rw [e1,e2,e3,e4]
  omega
def Wz (n:Nat) (f:cn):Int:=1+Bb f.params+aZ iZ f.results+aZ (nc n) f.body
def JO (n:Nat) (p:kW):Int:=aZ TK p.structs+aZ (Wz n) p.funcs
theorem TM (n:Nat) (f:cn) (p:Int) (h:(uZ n f p).1=true):Wz n f=U6 n f:=by
 obtain ⟨_,h⟩:=aJ (f:=cr 0) h
 obtain ⟨_,h⟩:=aJ h
 obtain ⟨_,h⟩:=aJ h
 obtain ⟨_,h⟩:=aJ h
 obtain ⟨_,h⟩:=aJ h
 unfold Wz U6
 rw [gC f.body fun s hs=>by
  obtain ⟨q,hq⟩:=fo (f:=fun s=>ia n s 0) _ _ h s hs
  exact MG n s 0 q hq]
theorem MH (n:Nat) (p:kW) (q:Int) (h:(nT n p q).1=true):JO n p=prC n p:=by
 obtain ⟨_,h⟩:=aJ (f:=cq Dt p.structs) h
 unfold JO prC
 rw [gC p.funcs fun f hf=>by
  obtain ⟨q,hq⟩:=fo (f:=uZ n) _ _ h f hf
  exact TM n f q hq]
def bL (f:Int→Bool × Int):Prop:=∀ p,p≤60000→(f p).1=true→(f p).2≤60000
theorem bL.and {f g:Int→Bool × Int} (hf:bL f) (hg:bL g):bL (aP f g):=by
 intro p hp h
 obtain ⟨h1,h2⟩:=aJ h
 unfold aP
 rw [if_neg (by rw [h1];decide)]
 exact hg _ (hf p hp h1) h2
theorem bL.allow (b:Bool):bL (cA b):=fun _ hp _=>hp
theorem bL.part (d:Int):bL (cr d):=fun p _ h=>by
 have h':bA d p=true:=h
 unfold bA at h'
 rw [Bool.and_eq_true,decide_eq_true_iff] at h'
 exact h'.1
theorem bL.row {α:Type} {f:α→Int→Bool × Int} (hf:∀ x,bL (f x)):∀ l:List α,bL (cq f l)
 | []=>fun _ hp _=>hp
 | x :: l=>(hf x).and (bL.row hf l)
theorem bL.ty (t:aA) (d:Int):bL (fun p=>eK ak t d p):=fun p _ h=>(q9 ak t d p h).2
theorem bL.U5 (l:List aj) (d:Int):bL (fun p=>eR l d p):=fun p hp h=>(vp l d p hp h).2
theorem bL.ep (l:List aj) (d:Int):bL (ep l d):=(bL.U5 l d).and (bL.allow _)
theorem bL.TJ {R:aH→Int→Int→Bool × Int} (hR:∀ s d,bL (R s d)) (d:Int):∀ (l:List cJ) (seen:List Int),bL (ri R d seen l)
 | [],_=>fun _ hp _=>hp
 | k :: l,seen=>(bL.part (d+1)).and ((bL.allow (!seen.contains k.int)).and ((bL.row (f:=fun s=>R s (d+2)) (fun s=>hR s (d+2)) k.body).and (bL.TJ hR d l (seen++[k.int]))))
theorem bL.st:∀ (n:Nat) (s:aH) (d:Int),bL (ia n s d)
 | 0,_,_=>fun _ _ h=>(by cases h)
 | n+1,s,d=>by
  have ih:=bL.st n
  have fD:bL (if s.kind=1 then fun p=>eK ak s.type (d+1) p else cA true):=by
   by_cases hk:s.kind=1
   ·rw [if_pos hk];exact bL.ty s.type (d+1)
   ·rw [if_neg hk];exact bL.allow true
  exact (bL.part d).and ((bL.allow (fW s && decide (s.cases.length≤40))).and (fD.and ((bL.TJ (fun s d=>ih s d) d s.cases []).and ((bL.ep s.aG (d+1)).and ((bL.ep s.exprs (d+1)).and
   ((bL.row (f:=fun x=>ia n x (d+1)) (fun x=>ih x (d+1)) s.body).and (bL.row (f:=fun x=>ia n x (d+1)) (fun x=>ih x (d+1)) s.dh)))))))
theorem bL.pa (jR:Nat) (l:List bH):bL (Ds jR l) :=
 (bL.row (f:=fun x:bH=>aP (cr 0) (fun p=>eK ak x.type 0 p)) (fun x=>(bL.part 0).and (bL.ty x.type 0)) l).and (bL.allow _)
theorem bL.su (s:cG):bL (Dt s):=(bL.part 0).and ((bL.allow (ak s.name)).and (bL.pa 60 s.fields))
theorem bL.fu (n:Nat) (f:cn):bL (uZ n f) :=
 (bL.part 0).and ((bL.allow (ak f.name)).and ((bL.pa 20 f.params).and ((bL.allow (decide (1≤f.results.length) && decide (f.results.length≤20))).and
  ((bL.row (f:=fun t p=>eK ak t 0 p) (fun t=>bL.ty t 0) f.results).and (bL.row (f:=fun s=>ia n s 0) (fun s=>bL.st n s 0) f.body)))))
theorem bL.pr (n:Nat) (p:kW):bL (nT n p):=(bL.row bL.su p.structs).and (bL.row (bL.fu n) p.funcs)
theorem Du (n:Nat) (p:kW) (h:(nT n p 0).1=true):0≤JO n p∧JO n p≤60000:=by
 have h1:=(aK.pr n p).wJ 0 h
 have h2:=bL.pr n p 0 (by omega) h
 have h3:=(aK.pr n p).TL h
 rw [MH n p 0 h]
 omega
structure Ps where
 ws:List bJ
 e:Int
 o:Int
 h:Bool
def Ps.w (s:Ps):bJ:=s.ws.headD .zero
def mu (s:Ps):Nat:=if s.e=0 then s.ws.length else 0
def sj (s:Ps) (e:Int):Ps:=if s.e=0 then ⟨s.ws,e,s.o,s.h⟩ else s
def eu (s:Ps):Ps:=if s.e=0 then (if (s.ws.tail.headD .zero).kind=9 then ⟨s.ws,50,s.o,s.h⟩ else ⟨s.ws.tail,0,s.o,s.h⟩) else s
def Cc (s:Ps) (t:List UInt8):Bool:=decide (s.e=0) && (decide (s.w.kind=3) || decide (s.w.kind=4)) && decide (s.w.text=t)
def WD (t:List UInt8):Bool:=decide (t=[40]) || decide (t=[91]) || decide (t=[123])
def WE (t:List UInt8):Bool:=decide (t=[41]) || decide (t=[93]) || decide (t=[125])
def jh (s:Ps) (t:List UInt8):Ps :=
 if WD t=true then (if 100 < IntKind.i64.wrap (s.o+1) then sj ⟨s.ws,s.e,IntKind.i64.wrap (s.o+1),s.h⟩ 51 else ⟨s.ws,s.e,IntKind.i64.wrap (s.o+1),s.h⟩)
 else if WE t=true then ⟨s.ws,s.e,IntKind.i64.wrap (s.o - 1),s.h⟩ else s
def jS (s:Ps) (t:List UInt8):Bool × Ps:=if Cc s t=true then (true,eu (jh s t)) else (false,s)
def uA (s:Ps) (t:List UInt8):Ps:=match jS s t with
 | (true,s1)=>s1
 | (false,s1)=>sj s1 51
def zF (s:Ps):List UInt8 × Ps:=if s.e=0∧s.w.kind=1 then (s.w.text,eu s) else ([],sj s 51)
def WH (s:Ps):Int × Ps:=if s.e=0∧s.w.kind=2 then ((s.w.int:Int),eu s) else (0,sj s 51)
def WI:List (List UInt8 × Int):=[([98,111,111,108],1),([98,121,116,101],2),([105,110,116,51,50],3),([105,110,116],4),([117,105,110,116,51,50],5),([117,105,110,116,54,52],6)]
def RZ (t:List UInt8):Int:=((WI.find? fun x=>x.1 == t).map (·.2)).getD 0
def aQ:aA:=.mk 0 [] []
abbrev EP:=Ps→aj × Ps
def WJ (s:Ps):Bool:=Cc s [116,114,117,101] || Cc s [102,97,108,115,101] || Cc s [108,101,110] || Cc s [97,112,112,101,110,100] || (decide (s.w.kind=4) && decide (1 < RZ s.w.text))
def Bc (E:EP):Nat→aj→Ps→aj × Ps
 | 0,x,s=>(x,s)
 | m+1,x,s=>if ¬ s.e=0 then (x,s) else match jS s [46] with
  | (true,s1)=>(match zF s1 with
   | (t,s2)=>Bc E m (.mk 9 t 0 aQ [] [x]) s2)
  | (false,_)=>match jS s [91] with
   | (false,_)=>(x,s)
   | (true,s1)=>match E s1 with
    | (y,s2)=>match jS s2 [58] with
     | (false,s3)=>Bc E m (.mk 10 [] 0 aQ [] [x,y]) (uA s3 [93])
     | (true,s3)=>match E s3 with
      | (z,s4)=>Bc E m (.mk 11 [] 0 aQ [] [x,y,z]) (uA s4 [93])
abbrev SP:=Ps→aH × Ps
structure Dn (s s':Ps):Prop where
 le:mu s'≤mu s
 e:¬ s.e=0→s'.e=s.e
 sub:∀ w∈s'.ws,w∈s.ws
theorem Dn.refl (s:Ps):Dn s s:=⟨Nat.le_refl _,fun _=>rfl,fun _ h=>h⟩
theorem Dn.trans {a b c:Ps} (h:Dn a b) (k:Dn b c):Dn a c:=⟨Nat.le_trans k.le h.le,fun he=>by
 have h1:=h.e he
 rw [k.e (by rw [h1];exact he),h1],fun w hw=>h.sub w (k.sub w hw)⟩
theorem HY {s:Ps} (h:¬ s.e=0):mu s=0:=if_neg h
theorem vr {s:Ps} (h:s.e=0):mu s=s.ws.length:=if_pos h
theorem PX (s:Ps) (e:Int):Dn s (sj s e):=by
 unfold sj
 split
 ·rename_i h
  refine ⟨?_,fun he=>absurd h he,fun _ h=>h⟩
  unfold mu
  rw [if_pos h]
  split<;>simp
 ·exact .refl _
theorem HZ (s:Ps):Dn s (eu s):=by
 unfold eu
 split
 ·rename_i h
  refine ⟨?_,fun he=>absurd h he,fun w hw=>?_⟩
  case refine_2 =>
   split at hw
   ·exact hw
   ·exact List.mem_of_mem_tail hw
  unfold mu
  rw [if_pos h]
  split<;>simp
 ·exact .refl _
theorem PY (s:Ps) (h:s.e=0) (hk:¬ s.w.kind=0):mu (eu s) < mu s:=by
 have hn:s.ws ≠ []:=by
  intro hw
  unfold Ps.w at hk
  rw [hw] at hk
  exact hk rfl
 have hl:=List.length_pos_iff.2 hn
 rw [vr h]
 unfold eu
 rw [if_pos h]
 split
 ·rw [HY (by show ¬ (50:Int)=0;omega)]
  exact hl
 ·rw [vr rfl]
  simp
  omega
theorem H6 (s:Ps) (t:List UInt8):Dn s (jh s t):=by
 have h1:∀ o:Int,Dn s ⟨s.ws,s.e,o,s.h⟩:=fun _=>⟨Nat.le_refl _,fun _=>rfl,fun _ h=>h⟩
 unfold jh
 split
 ·split
  ·exact (h1 _).trans (PX _ _)
  ·exact h1 _
 ·split
  ·exact h1 _
  ·exact .refl _
theorem TN (s:Ps) (t:List UInt8):(jh s t).ws=s.ws:=by
 unfold jh sj
 split
 ·split
  ·split<;>rfl
  ·rfl
 ·split<;>rfl
theorem PZ {s:Ps} {t:List UInt8} (h:Cc s t=true):s.e=0∧(s.w.kind=3∨s.w.kind=4)∧s.w.text=t:=by
 unfold Cc at h
 simp only [Bool.and_eq_true,Bool.or_eq_true,decide_eq_true_eq] at h
 exact ⟨h.1.1,h.1.2,h.2⟩
theorem P0 (s:Ps) (t:List UInt8):Dn s (jS s t).2∧((jS s t).1=true→mu (jS s t).2 < mu s)∧((jS s t).1=false→(jS s t).2=s∧Cc s t=false):=by
 unfold jS
 split
 ·rename_i h
  obtain ⟨h1,h2,h3⟩:=PZ h
  refine ⟨(H6 s t).trans (HZ _),fun _=>?_,fun h=>absurd h (by simp)⟩
  by_cases hb:(jh s t).e=0
  ·refine Nat.lt_of_lt_of_le (PY _ hb ?_) (H6 s t).le
   unfold Ps.w
   rw [TN]
   change ¬ s.w.kind=0
   omega
  ·have h4:=(HZ (jh s t)).le
   rw [HY hb] at h4
   show mu (eu (jh s t)) < mu s
   have hl:0 < mu s:=by
    rw [vr h1]
    refine List.length_pos_iff.2 fun hw=>?_
    unfold Ps.w at h2
    rw [hw] at h2
    rcases h2 with h2 | h2<;>exact absurd h2 (by decide)
   omega
 ·rename_i h
  exact ⟨.refl _,fun h=>absurd h (by simp),fun _=>⟨rfl,by simpa using h⟩⟩
theorem MI {s s1:Ps} {t:List UInt8} (h:jS s t=(false,s1)):s1=s:=by
 have:=(P0 s t).2.2
 rw [h] at this
 exact (this rfl).1
def YI {α:Type} (E:Ps→α × Ps):Prop:=∀ s,Dn s (E s).2
theorem YI.at {α:Type} {E:Ps→α × Ps} (h:YI E) {s s1:Ps} {x:α} (e:E s=(x,s1)):Dn s s1:=by
 have:=h s
 rw [e] at this
 exact this
theorem YI.of {α:Type} {E:Ps→α × Ps} (h:∀ {s s1:Ps} {x:α},E s=(x,s1)→Dn s s1):YI E:=fun s=>h (x:=(E s).1) rfl
def w9:bJ:=⟨9,[],0,0,0⟩
def MJ (bs:List UInt8):Nat→Nat→List bJ
 | 0,_=>[w9]
 | f+1,i=>if (fk bs i).2=0 then (if (fk bs i).1.kind=0 then [(fk bs i).1] else (fk bs i).1 :: MJ bs f (fk bs i).1.next) else [w9]
def P1 (bs:List UInt8) (i:Nat):List bJ:=MJ bs (bs.length+1) i
def WK (bs:List UInt8) (s:Ps):Prop:=s.e=0→s.w.kind≤4∧s.w.next≤bs.length∧s.ws=s.w :: (if s.w.kind=0 then [] else P1 bs s.w.next)
end Go.Proofs.YtnfnbjjnjjdjdaaGreatDoor
namespace Go.Proofs.YtnfnbjjnjjdjdaaGreatDoor
open Go.RowKit Go.Av Go.Ab
theorem ty1:bD Tryz.prog 1=some ⟨.other,1,8,false,[.kM]⟩:=by kernel_rfl
set_option maxRecDepth 100000
set_option linter.defProp false
def tys:=by
 have c:=SL Tryz.prog [1,2,3,4,5,6,7,8,9,10,11,12,13,14,15,16,17,18,19,21,22,23,24,25,26,27,28,30,32,33,34,35,36,37,38,39,40,41,42,43,44,45,46,47,48,49,50,51,52,53,54,55,56,57,58,59,60,61,62,63,64,65,66,67,68,69,70,71,72,73,74,75,77,78,79,80,81,82,83,84,85,86,87,88,89,90,91,92,93,94,95,96,97,98,99,100,101,102,103,104,105,106,107,108,109,110,111,112,113,114,115,116,117,118,119,120,121,122,123,124,125,126,127,128,129,130,131,133,134,135,136,137,138,139,140,141,142,143,144,145,146,147,148,151,152,154,155,156,157,158,159,160,161,163,165,167,168,169,170,171,172,174,175,176,177,179,180,181,182,184,185,186,188,190,191,192,193,194,195,196,197,199,200,201,202,203,204,205,206,207,208,209,210,211,212,213,214,215,216,217,219,220,221,222,223,224,225,226,227,228,229,230] (by conv=>lhs;cbv)
 dsimp only [Yi] at c
 exact c
end Go.Proofs.YtnfnbjjnjjdjdaaGreatDoor
namespace Go.Ab
open Go.RowKit Go.Av
set_option maxRecDepth 100000
set_option linter.defProp false
def awC:=And.intro @Go.Ab.Fu (And.intro @Go.Ab.Ft (And.intro @Go.Ab.oK.eq_1 (And.intro @Go.Ab.oK.eq_2 (And.intro @Go.Ab.oK.eq_3 (And.intro @Go.Ab.oK.eq_4 (And.intro @Go.Ab.oK.eq_5 (And.intro @Go.Ab.qT.eq_1 (And.intro @Go.Ab.qT.eq_2 (And.intro @Go.Ab.qT.eq_3 (And.intro @Go.Ab.eO.eq_1 (And.intro @Go.Ab.Fo (And.intro @Go.Ab.I9 (And.intro @Go.Ab.Ja (And.intro @Go.Ab.Fp (And.intro @Go.Ab.CA (And.intro @Go.Ab.Fq (And.intro @Go.Ab.cU.eq_1 (And.intro @Go.Ab.cU.eq_2 (And.intro @Go.Ab.cU.eq_3 (And.intro @Go.Ab.cU.eq_4 (And.intro @Go.Ab.cU.eq_5 (And.intro @Go.Ab.cU.eq_6 (And.intro @Go.Ab.cU.eq_7 (And.intro @Go.Ab.cU.eq_8 (And.intro @Go.Ab.cU.eq_9 (And.intro @Go.Ab.cU.eq_10 (And.intro @Go.Ab.cU.eq_11 (And.intro @Go.Ab.cU.eq_12 (And.intro @Go.Ab.cU.eq_13 (And.intro @Go.Ab.cU.eq_14 (And.intro @Go.Ab.cU.eq_15 (And.intro @Go.Ab.cU.eq_16 (And.intro @Go.Ab.cU.eq_17 (And.intro @Go.Ab.cU.eq_18 (And.intro @Go.Ab.cU.eq_19 (And.intro @Go.Ab.cU.eq_20 (And.intro @Go.Ab.cU.eq_21 (And.intro @Go.Ab.dD.eq_1 (And.intro @Go.Ab.nk.eq_def (And.intro @Go.Ab.ff.eq_1 (And.intro @Go.Ab.ff.eq_2 (And.intro @Go.Ab.ff.eq_3 (And.intro @Go.Ab.oD.eq_1 (And.intro @Go.Ab.LC.eq_1 (And.intro @Go.Ab.vj.eq_1 (And.intro @Go.Ab.Cq.eq_1 (And.intro @Go.Ab.Cq.eq_2 (And.intro @Go.Ab.Cq.eq_3 (And.intro @Go.Ab.iB.eq_def (And.intro @Go.Ab.fP.eq_1 (And.intro @Go.Ab.pO.eq_1 (And.intro @Go.Ab.qx.eq_1 (And.intro @Go.Ab.qx.eq_2 (And.intro @Go.Ab.fH.eq_1 (And.intro @Go.Ab.rep.eq_1 (And.intro @Go.Ab.rep.eq_2 (And.intro @Go.Ab.chunk.eq_1 (And.intro @Go.Ab.chunk.eq_2 (And.intro @Go.Ab.vk.eq_1 (And.intro @Go.Ab.RE.eq_1 (And.intro @Go.Ab.RE.eq_2 (And.intro @Go.Ab.RE.eq_3 (And.intro @Go.Ab.vl.eq_def (And.intro @Go.Ab.mg.eq_1 (And.intro @Go.Ab.mg.eq_2 (And.intro @Go.Ab.mg.eq_3 (And.intro @Go.Ab.mg.eq_4 (And.intro @Go.Ab.mg.eq_5 (And.intro @Go.Ab.mg.eq_6 (And.intro @Go.Ab.mg.eq_7 (And.intro @Go.Ab.mg.eq_8 (And.intro @Go.Ab.mg.eq_9 (And.intro @Go.Ab.mg.eq_10 (And.intro @Go.Ab.mg.eq_11 (And.intro @Go.Ab.mg.eq_12 (And.intro @Go.Ab.mg.eq_13 (And.intro @Go.Ab.mg.eq_14 (And.intro @Go.Ab.mg.eq_15 (And.intro @Go.Ab.mg.eq_16 (And.intro @Go.Ab.mg.eq_17 (And.intro @Go.Ab.mg.eq_18 (And.intro @Go.Ab.vL.eq_1 (And.intro @Go.Ab.vL.eq_2 (And.intro @Go.Ab.vL.eq_3 (And.intro @Go.Ab.vL.eq_4 (And.intro @Go.Ab.vL.eq_5 (And.intro @Go.Ab.vL.eq_6 (And.intro @Go.Ab.vL.eq_7 (And.intro @Go.Ab.vL.eq_8 (And.intro @Go.Ab.vM.eq_1 (And.intro @Go.Ab.vM.eq_2 (And.intro @Go.Ab.vM.eq_3 (And.intro @Go.Ab.vM.eq_4 (And.intro @Go.Ab.I2.eq_1 (And.intro @Go.Ab.I2.eq_2 (And.intro @Go.Ab.I2.eq_3 (And.intro @Go.Ab.AD.eq_1 (And.intro @Go.Ab.rO.eq_1 (And.intro @Go.Ab.iN.eq_1 (And.intro @Go.Ab.iN.eq_2 (And.intro @Go.Ab.jl.eq_def (And.intro @Go.Ab.pP.eq_1 (And.intro @Go.Ab.Cv.eq_1 (And.intro @Go.Ab.Cv.eq_2 (And.intro @Go.Ab.gT.eq_1 (And.intro @Go.Ab.still.eq_1 (And.intro @Go.Ab.fG.eq_1 (And.intro @Go.Ab.fG.eq_2 (And.intro @Go.Ab.fG.eq_3 (And.intro @Go.Ab.fG.eq_4 (And.intro @Go.Ab.mL.eq_1 (And.intro @Go.Ab.mL.eq_2 (And.intro @Go.Ab.mL.eq_3 (And.intro @Go.Ab.mL.eq_4 (And.intro @Go.Ab.ai.eq_1 (And.intro @Go.Ab.ai.eq_2 (And.intro @Go.Ab.ai.eq_3 (And.intro @Go.Ab.ai.eq_4 (And.intro @Go.Ab.vH.eq_1 (And.intro @Go.Ab.vH.eq_2 (And.intro @Go.Ab.jk.eq_1 (And.intro @Go.Ab.jk.eq_2 (And.intro @Go.Ab.jk.eq_3 (And.intro @Go.Ab.jk.eq_4 (And.intro @Go.Ab.jk.eq_5 (And.intro @Go.Ab.jk.eq_6 (And.intro @Go.Ab.jk.eq_7 (And.intro @Go.Ab.aO.eq_1 (And.intro @Go.Ab.aO.eq_2 (And.intro @Go.Ab.tB.eq_1 (And.intro @Go.Ab.tB.eq_2 (And.intro @Go.exitTo.eq_1 (And.intro @Go.exitTo.eq_2 (And.intro @Go.exitTo.eq_3 (And.intro @List.getElem?_toArray.{0} (And.intro @List.getElem?_cons_zero.{0} (And.intro @List.getElem?_cons_succ.{0} (And.intro @List.set_cons_zero.{0} (And.intro @List.set_cons_succ.{0} (And.intro @Option.map_some.{0,0} (And.intro @Option.map_none.{0,0} (And.intro @Option.bind_some.{0,0} (And.intro @if_true.{1} (And.intro @if_false.{1} (And.intro @ite_true.{1} (And.intro @ite_false.{1} (And.intro @Bool.false_eq_true (And.intro @eq_self.{1} (And.intro @beq_self_eq_true.{0} (And.intro @List.size_toArray.{0} (And.intro @List.length_cons.{0} (And.intro @List.length_nil.{0} (And.intro @List.length_append.{0} (And.intro @List.length_set.{0} (And.intro @List.length_map.{0,0} (And.intro @List.take_succ_cons.{0} (And.intro @List.take_zero.{0} (And.intro @List.drop_succ_cons.{0} (And.intro @List.drop_zero.{0} (And.intro @List.nil_append.{0} (And.intro @List.cons_append.{0} (And.intro @List.append_nil.{0} (And.intro @List.append_assoc.{0} (And.intro @Nat.zero_add (And.intro @Nat.add_zero (And.intro @List.map_cons.{0,0} (And.intro @List.map_nil.{0,0} (And.intro @List.toList_toArray.{0} (And.intro @Array.toList_map.{0,0} (And.intro @true_and (And.intro @and_true (And.intro @cond_true.{1} (And.intro @cond_false.{1} (And.intro @Go.Ab.dF (And.intro @Go.Ab.cL (And.intro @Go.Ab.ah (And.intro @Go.Ab.vU (And.intro @Go.Ab.uo (And.intro @Go.Ab.fI (And.intro @Go.Ab.bG (And.intro @List.set_set.{0} (And.intro @List.all_cons.{0} (And.intro @List.all_nil.{0} (And.intro @Bool.and_true (And.intro @Bool.true_and (And.intro @Int.natCast_one (And.intro @Int.natCast_zero (And.intro @Int.cast_ofNat_Int (And.intro @Int.toNat_natCast (And.intro @Int.natCast_nonneg (And.intro @decide_true (And.intro @decide_false (And.intro @Nat.le_refl (And.intro @Int.le_refl (And.intro @Int.natCast_add (And.intro @Int.toNat_zero (And.intro @Nat.sub_zero (And.intro @Go.Ab.Jb (And.intro @Go.Ab.LW (And.intro @Go.Ab.Fw (And.intro @Go.Ab.Fx (And.intro @Go.Ab.Jc (And.intro @Go.Ab.Jd (And.intro @Go.Ab.Hg.eq_def (And.intro @Bool.not_false (And.intro @Bool.not_true (And.intro @Go.Ab.G8.eq_1 (And.intro @Go.Ab.G8.eq_2 (And.intro @Go.Ab.G9.eq_1 (And.intro @Go.Ab.G9.eq_2 (And.intro @Go.Ab.LK.eq_1 (And.intro @Go.Ab.ptrEq.eq_1 (And.intro @Go.Ab.ptrEq.eq_2 (And.intro @Go.Ab.ptrEq.eq_3 (And.intro @Go.Ab.ptrEq.eq_4 (And.intro @Go.Ab.ptrEq.eq_5 (And.intro @Go.Ab.ptrEq.eq_6 (And.intro @Go.Ab.rN.eq_1 (And.intro @Go.Ab.rN.eq_2 (And.intro @Go.Ab.G4.eq_1 @Go.Ab.G4.eq_2))))))))))))))))))))))))))))))))))))))))))))))))))))))))))))))))))))))))))))))))))))))))))))))))))))))))))))))))))))))))))))))))))))))))))))))))))))))))))))))))))))))))))))))))))))))))))))))))))))))))))))))))))))))))))))
def awO:=And.intro @Go.Ab.gU.eq_1 (And.intro @Go.Ab.gU.eq_2 (And.intro @Go.Ab.gU.eq_3 (And.intro @Go.Ab.gU.eq_4 (And.intro @Go.Ab.gU.eq_5 (And.intro @Go.Ab.gU.eq_6 (And.intro @Go.Ab.gU.eq_7 (And.intro @Go.Ab.gU.eq_8 (And.intro @Go.Ab.Cz.eq_1 (And.intro @Go.Ab.AK.eq_1 (And.intro @List.getD_cons_zero.{0} (And.intro @List.getD_cons_succ.{0} (And.intro @List.replicate_succ.{0} (And.intro @List.replicate_zero.{0} (And.intro @Go.Ab.eT.eq_1 (And.intro @List.foldl_cons.{0,0} (And.intro @List.foldl_nil.{0,0} (And.intro @Go.Ab.rT.eq_1 @Go.Ab.S9.eq_1)))))))))))))))))
def awN:=And.intro @Go.Ab.FA (And.intro @Go.Ab.zi (And.intro @Go.Ab.gV (And.intro @Go.Ab.rU (And.intro @Go.Ab.L1 (And.intro @Go.Ab.Pg (And.intro @Go.Ab.kr (And.intro @Go.Ab.nu (And.intro @Go.Ab.gz.eq_1 (And.intro @Go.Ab.gz.eq_2 (And.intro @Go.Ab.Ph (And.intro @Go.Ab.Pj @Go.Ab.Pk)))))))))))
end Go.Ab
namespace Go.Proofs.YtnfnbjjnjjdjdaaGreatDoor
open Go.RowKit Go.Av Go.Ab
set_option linter.unusedSimpArgs false
set_option maxRecDepth 100000
mutual
def dR:aA→List D
 | .mk k n es=>[.int .i64 k,.str n,.sl (MK es)]
def MK:List aA→List (List D)
 | []=>[]
 | t :: l=>dR t :: MK l
end
theorem Dv:∀ l:List aA,MK l=l.map dR
 | []=>by simp [MK]
 | t :: l=>by simp [MK,Dv l]
theorem cB (t:aA):dR t=[.int .i64 t.kind,.str t.name,.sl (t.elem.map dR)]:=by
 cases t
 rw [dR,Dv]
 rfl
def ij (l:List (List UInt8)):List (List D):=l.map fun s=>[.str s]
mutual
def fO:aj→List D
 | .mk k t i ty ns ks=>[.int .i64 k,.str t,.int .u64 i,.int .i64 ty.kind,.str ty.name,.sl (ty.elem.map dR),.sl (ij ns),.sl (ML ks)]
def ML:List aj→List (List D)
 | []=>[]
 | x :: l=>fO x :: ML l
end
theorem Dw:∀ l:List aj,ML l=l.map fO
 | []=>by simp [ML]
 | t :: l=>by simp [ML,Dw l]
theorem cQ (x:aj):fO x=[.int .i64 x.kind,.str x.text,.int .u64 x.int,.int .i64 x.type.kind,.str x.type.name,.sl (x.type.elem.map dR),.sl (ij x.names),.sl (x.kids.map fO)]:=by
 cases x
 rw [fO,Dw]
 rfl
mutual
def dZ:aH→List D
 | .mk k ns ty ls es b e cs=>[.int .i64 k,.sl (ij ns),.int .i64 ty.kind,.str ty.name,.sl (ty.elem.map dR),.sl (ls.map fO),.sl (es.map fO),.sl (Gk b),.sl (Gk e),.sl (MN cs)]
def Gk:List aH→List (List D)
 | []=>[]
 | x :: l=>dZ x :: Gk l
def lK:cJ→List D
 | .mk i b=>[.int .u64 i,.sl (Gk b)]
def MN:List cJ→List (List D)
 | []=>[]
 | x :: l=>lK x :: MN l
end
theorem sk:∀ l:List aH,Gk l=l.map dZ
 | []=>by simp [Gk]
 | t :: l=>by simp [Gk,sk l]
theorem Dx:∀ l:List cJ,MN l=l.map lK
 | []=>by simp [MN]
 | t :: l=>by simp [MN,Dx l]
theorem iS (c:cJ):lK c=[.int .u64 c.int,.sl (c.body.map dZ)]:=by
 cases c
 rw [lK,sk]
 rfl
theorem cX (s:aH):dZ s=[.int .i64 s.kind,.sl (ij s.names),.int .i64 s.type.kind,.str s.type.name,.sl (s.type.elem.map dR),.sl (s.aG.map fO),.sl (s.exprs.map fO),.sl (s.body.map dZ),.sl (s.dh.map dZ),.sl (s.cases.map lK)]:=by
 cases s
 rw [dZ,sk,sk,Dx]
 rfl
def gf (p:bH):List D:=[.str p.name,.int .i64 p.type.kind,.str p.type.name,.sl (p.type.elem.map dR)]
def ef (s:cG):List D:=[.str s.name,.sl (s.fields.map gf)]
def cT (f:cn):List D:=[.str f.name,.sl (f.params.map gf),.sl (f.results.map dR),.sl (f.body.map dZ)]
theorem mq (p:bH):gf p=[.str p.name,.int .i64 p.type.kind,.str p.type.name,.sl (p.type.elem.map dR)]:=rfl
theorem wM (s:cG):ef s=[.str s.name,.sl (s.fields.map gf)]:=rfl
theorem mw (f:cn):cT f=[.str f.name,.sl (f.params.map gf),.sl (f.results.map dR),.sl (f.body.map dZ)]:=rfl
def aY (t:aA):V:=.agg [.d (.int .i64 t.kind),.d (.str t.name),.d (.sl (t.elem.map dR))]
def sn (x:aj):V:=.agg [.d (.int .i64 x.kind),.d (.str x.text),.d (.int .u64 x.int),.d (.int .i64 x.type.kind),.d (.str x.type.name),.d (.sl (x.type.elem.map dR)),.d (.sl (ij x.names)),.d (.sl (x.kids.map fO))]
def Bd (s:aH):V:=.agg [.d (.int .i64 s.kind),.d (.sl (ij s.names)),.d (.int .i64 s.type.kind),.d (.str s.type.name),.d (.sl (s.type.elem.map dR)),.d (.sl (s.aG.map fO)),.d (.sl (s.exprs.map fO)),.d (.sl (s.body.map dZ)),.d (.sl (s.dh.map dZ)),.d (.sl (s.cases.map lK))]
def H7 (c:cJ):V:=.agg [.d (.int .u64 c.int),.d (.sl (c.body.map dZ))]
def Cd (p:bH):V:=.agg [.d (.str p.name),.d (.int .i64 p.type.kind),.d (.str p.type.name),.d (.sl (p.type.elem.map dR))]
def yL (s:cG):V:=.agg [.d (.str s.name),.d (.sl (s.fields.map gf))]
def yM (f:cn):V:=.agg [.d (.str f.name),.d (.sl (f.params.map gf)),.d (.sl (f.results.map dR)),.d (.sl (f.body.map dZ))]
def ju (p:kW):V:=.agg [.d (.sl (p.structs.map ef)),.d (.sl (p.funcs.map cT))]
theorem JP (l:List (List UInt8)):cy 1 (ij l)=true:=gw (fun s:List UInt8=>[D.str s]) (fun _=>rfl) l
theorem JQ (l:List aA):cy 3 (l.map dR)=true:=gw _ (fun x=>by rw [cB];rfl) l
theorem JR (l:List aj):cy 8 (l.map fO)=true:=gw _ (fun x=>by rw [cQ];rfl) l
theorem JS (l:List aH):cy 10 (l.map dZ)=true:=gw _ (fun x=>by rw [cX];rfl) l
theorem JT (l:List cJ):cy 2 (l.map lK)=true:=gw _ (fun x=>by rw [iS];rfl) l
theorem JU (l:List bH):cy 4 (l.map gf)=true:=gw gf (fun _=>rfl) l
theorem JV (l:List cG):cy 2 (l.map ef)=true:=gw ef (fun _=>rfl) l
theorem JW (l:List cn):cy 4 (l.map cT)=true:=gw cT (fun _=>rfl) l
theorem fL (l:List (List UInt8)):(ij l).length=l.length:=by simp [ij]
theorem H8 (l:List (List UInt8)) (i:Nat):(ij l)[i]? = (l[i]?).map fun s=>[.str s]:=by simp [ij]
theorem MO (l:List (List UInt8)) (n:Nat):(ij l).take n=ij (l.take n):=by simp [ij,List.map_take]
theorem MP (l:List (List UInt8)) (n:Nat):(ij l).drop n=ij (l.drop n):=by simp [ij,List.map_drop]
set_option linter.defProp false in
def awT:=And.intro @JP ( And.intro @JQ ( And.intro @JR ( And.intro @JS ( And.intro @JT ( And.intro @JU ( And.intro @JV ( And.intro @JW ( And.intro @fL ( And.intro @H8 ( And.intro @MO (@MP)))))))))))
set_option linter.defProp false
def W:=And.intro awC (And.intro awN (And.intro awT tys))
def WO:=And.intro awC (And.intro awO (And.intro awT tys))
def agb:=And.intro @and_self (And.intro @true_and (And.intro @and_true (And.intro @eq_self.{1} (And.intro @Int.natCast_add (And.intro @Int.natCast_one (And.intro @Int.natCast_zero (And.intro @gV (And.intro @zi (And.intro @kr (And.intro @nu (And.intro @cond_true.{1} (@cond_false.{1}))))))))))))
def cD:=And.intro @Fy (And.intro @Jf agb)
def nU:=And.intro @CK (And.intro @Fz (And.intro @Bool.and_true (And.intro @Bool.true_and (And.intro @Bool.and_self (And.intro @decide_true (And.intro @List.length_set.{0} (And.intro @fit.eq_1 (And.intro @fit.eq_2 (And.intro @fit.eq_3 (And.intro @fit.eq_4 (And.intro @fit.eq_5 (And.intro @fit.eq_6 (And.intro @fit.eq_7 (And.intro @fit.eq_8 (And.intro @fit.eq_9 (And.intro @fit.eq_10 (And.intro @fit.eq_11 (And.intro @fit.eq_12 (And.intro @jn.eq_1 (And.intro @jn.eq_2 (And.intro @fit.eq_15 (And.intro @fit.eq_16 (agb)))))))))))))))))))))))
def jv:=And.intro @List.getD_cons_zero.{0} (And.intro @List.getD_cons_succ.{0} (And.intro @wk.eq_1 (And.intro @wk.eq_2 (And.intro @wk.eq_3 (And.intro @wk.eq_4 (And.intro @wk.eq_5 (And.intro @wk.eq_6 (And.intro @wk.eq_7 (And.intro @wk.eq_8 (And.intro @wk.eq_9 (And.intro @wk.eq_10 (And.intro @wk.eq_11 (And.intro @wk.eq_12 (And.intro @wk.eq_15 (And.intro @wk.eq_16 (agb))))))))))))))))
def jw:=And.intro @decide_eq_true_eq (And.intro @decide_eq_false_iff_not (And.intro @Bool.not_eq_true' @Bool.not_eq_false'))
def dP:=And.intro @CI.eq_1 (And.intro @CI.eq_2 (And.intro @sm.eq_1 (And.intro @sm.eq_2 (And.intro @sm.eq_3 (And.intro @sm.eq_4 (And.intro @Tb (And.intro @Pa (And.intro @Tc (And.intro @VY (And.intro @Pb (And.intro @Pc (And.intro @Pd (And.intro @Pe (And.intro @LZ (And.intro @Td (And.intro @sn.eq_1 (And.intro @Bd.eq_1 (And.intro @aY.eq_1 (And.intro @H7.eq_1 (And.intro @Cd.eq_1 (And.intro @yL.eq_1 (And.intro @yM.eq_1 (And.intro @ju.eq_1 (And.intro @Bool.and_eq_true (And.intro @decide_eq_true_eq (And.intro @and_true (And.intro @true_and (And.intro @List.length_map.{0,0} (@fL)))))))))))))))))))))))))))))
theorem az (n:Int) (h:-9223372036854775808≤n∧n≤9223372036854775807):IntKind.i64.wrap n=n:=IntWalk.i64_in _ h
theorem lV (c:Nat) (d p:Int) (B:List (List V)) (T:List (Nat × Nat)) (h:B[c]? = some [.d (.int .i64 p)]) (hp:0≤p∧p≤60000) :
 aF Tryz.prog av 90 [.ptr c 0,.d (.int .i64 d)] ⟨B,T⟩ (aB (.d (.bool (bA d p))) ⟨B.set c [.d (.int .i64 (p+1))],T⟩):=by
 have hi:=(List.getElem?_eq_some_iff.1 h).1
 have hw:=az (p+1) (by omega)
 unfold bA
 refine aF.body Tryz.func90 rfl (by kernel_rfl) ?_
 refine af.go 100 ?_
 simp only [Tryz.f90,WO,seval,h,hi,hw]
 refine bu (fun h1=>?_) (fun h1=>?_)
 all_goals
  simp only [WO,seval,h1]
  refine af.ret Tryz.func90 rfl (Left.yD rfl ?_)
  exact ⟨rfl,rfl⟩
theorem kX (s:List UInt8) (S:Mem):aF Tryz.prog av 91 [.d (.str s)] S (aB (.d (.bool (ak s))) S):=by
 refine aF.CD Tryz.func91 rfl (by kernel_rfl) fun c w xs h1 h2 h3 hI=>?_
 have hv:=h2 0 (by simp)
 obtain ⟨x,rfl⟩:∃ x,xs = #[x]:=⟨xs[0]'(by simp at h1;omega),by apply Array.ext<;>simp_all⟩
 simp at hv
 cases hv with
 | d _ _ hv=>cases hv with
  | str _ hl =>
   refine (TF s w hI hl).mono ?_
   rintro e w' ⟨rfl,hb⟩
   exact ⟨_,_,rfl,⟨rfl,rfl⟩,hb,.d _ _ (.bool _)⟩
theorem p9 (t:aA) (B:List (List V)) (T:List (Nat × Nat)):aF Tryz.prog av 96 [aY t] ⟨B,T⟩ (aB (.d (.bool (dB t))) ⟨B,T⟩):=by
 obtain ⟨n,hn⟩:∃ n,B.length=n:=⟨_,rfl⟩
 unfold aY
 refine aF.body Tryz.func96 rfl (by kernel_rfl) ?_
 refine af.go 100 ?_
 simp only [Tryz.f96,WO,seval,hn]
 repeat' ((first | refine bu (fun h=>?_) (fun h=>?_) | refine aW (fun h=>?_) (fun h=>?_))<;>simp only [WO,seval,h,hn])
 all_goals
  refine af.ret Tryz.func96 rfl (Left.box ?_)
  exact ⟨by simp [wk,dB, *],rfl⟩
def PF (bx:Ps→Nat→List V) (ok:Ps→Nat→Prop) (f:FuncId) (ar:List V) (s:Ps) (v:V) (s':Ps):Prop :=
 ∀ (c:Nat) (B:List (List V)) (T:List (Nat × Nat)) (i:Nat),c < B.length→ok s i→aF Tryz.prog av f (.ptr c 0 :: ar) ⟨B.set c (bx s i),T⟩ fun v' m=>v' = v∧∃ i',ok s' i'∧m=⟨B.set c (bx s' i'),T⟩
section
variable {bx:Ps→Nat→List V} {ok:Ps→Nat→Prop} {f:FuncId} {ar:List V} {s s':Ps} {v:V} {c i:Nat} {B J:List (List V)} {T K:List (Nat × Nat)}
theorem PF.fn (h:PF bx ok f ar s v s') (hc:c < B.length) (hi:ok s i):aF Tryz.prog av f (.ptr c 0 :: ar) ⟨B.set c (bx s i)++J,T⟩ fun v' m=>v' = v∧∃ i',ok s' i'∧m=⟨B.set c (bx s' i')++J,T⟩:=by
 have:=h c (B++J) T i (by simp;omega) hi
 rw [List.set_append_left _ _ hc] at this
 refine this.mono ?_
 rintro v' m ⟨rfl,i',h1,rfl⟩
 exact ⟨rfl,i',h1,by rw [List.set_append_left _ _ hc]⟩
theorem PF.call {stop:dY} {k:List Item} {d:Option Tmp} {env:List V} (h:PF bx ok f ar s v s') (hc:c < B.length) (hi:ok s i) (hk:∀ i',ok s' i'→stop k (aO env d v) ⟨B.set c (bx s' i')++J,T⟩):rQ Tryz.prog av stop (.func f [] []) (.ptr c 0 :: ar) k d env ⟨B.set c (bx s i)++J,T⟩ :=
 ag (h.fn hc hi) fun _ _ ⟨e1,i',h1,e2⟩=>by rw [e1,e2];exact hk i' h1
end
section
variable {B J:List (List V)} {T K:List (Nat × Nat)} {c:Nat} {x y:List V} {R:V→Mem→Prop} {v:V}
theorem PF.ret (hy:∀ n m,y.all (fit n m)=true) (h:R (wk (B.set c x).length T.length v) ⟨B.set c y,T⟩):Ab.Left ⟨B.set c x,T⟩ R v ⟨B.set c y++J,T++K⟩:=by
 refine Ab.Left.of (by simp) rfl ?_ h
 have:=(qU.refl (B.set c x).length T.length (B.set c x)).set c (hy _ _)
 rwa [List.set_set] at this
end
end Go.Proofs.YtnfnbjjnjjdjdaaGreatDoor
namespace Go.Ab
open Go.RowKit Go.Av
abbrev JX:=FuncId→List Item→List V→Mem→Option (V × Mem)
def R1 (P:Program) (fn:FuncId) (env:List V) (S:Mem):Option (V × Mem) :=
 match P.funcs[fn]? with
 | some f=>match Cy P S env f.results.toList with
  | some v=>some (v,S)
  | none=>none
 | none=>none
def TO (S:Mem) (v:V) (S':Mem):V × Mem :=
 match fit S.boxes.length S'.aL.length v && (S'.boxes.take S.boxes.length).all (fun vs=>vs.all (fit S.boxes.length S.aL.length)) && Nat.ble S.boxes.length S'.boxes.length && Nat.ble S.aL.length S'.aL.length with
 | true=>(wk S.boxes.length S.aL.length v,⟨S'.boxes.take S.boxes.length,S'.aL.take S.aL.length⟩)
 | false=>(v,S')
def aaj (run:JX) (g:FuncId) (body:Code) (init:List V) (S:Mem):Option (V × Mem) :=
 match run g [.code body] init S with
 | some (v,S')=>some (TO S v S')
 | none=>none
def MQ (P:Program) (dQ:FuncId→List V→Option V) (run:JX) (g:FuncId) (args:List V):Option V :=
 match P.funcs[g]? with
 | some f=>match f.body with
  | some body=>match dQ g args with
   | some v=>some (wk 0 0 v)
   | none=>match run g [.code body] (args++List.replicate (f.ntmps - args.length) .undef) ⟨[],[]⟩ with
    | some (v,S0)=>match fit 0 S0.aL.length v with
     | true=>some (wk 0 0 v)
     | false=>none
    | none=>none
  | none=>none
 | none=>none
def R2 (P:Program) (run:JX) (g:FuncId) (args:List V) (S:Mem):Option (V × Mem) :=
 match P.funcs[g]? with
 | some f=>match f.body with
  | some body=>aaj run g body (args++List.replicate (f.ntmps - args.length) .undef) S
  | none=>none
 | none=>none
def aak (P:Program) (dQ:FuncId→List V→Option V) (run:JX) (g:FuncId) (args:List V) (S:Mem):Option (V × Mem) :=
 match jn 0 0 args with
 | true=>match MQ P dQ run g (uW 0 0 args) with
  | some v=>some (v,S)
  | none=>R2 P run g args S
 | false=>R2 P run g args S
def Be (run:JX) (fn:FuncId) (r:Option (V × Mem)) (k:List Item) (d:Option Tmp) (env:List V):Option (V × Mem) :=
 match r with
 | some (v,S)=>run fn k (aO env d v) S
 | none=>none
def WL (P:Program) (env:List V) (S:Mem) (s:Operand) (t:TypeId):List V × Mem :=
 match s with
 | .tmp q=>match env.getD q .undef with
  | .sl rows .full=>match bD P t with
   | some ti=>match ti.d with
    | .slice e=>match bD P e with
     | some te=>match decide (0 < te.size) && cy te.size rows with
      | true=>(env.set q (.sl rows (.own S.aL.length)),{ S with aL:=S.aL++[(rows.length,te.size)] })
      | false=>(env,S)
     | none=>(env,S)
    | _=>(env,S)
   | none=>(env,S)
  | _=>(env,S)
 | _=>(env,S)
def WM (P:Program) (I:Inv) (dQ:FuncId→List V→Option V) (run:JX) (fn:FuncId) (ops:Array Oper) (rest:List Nat) (o:Oper) (k:List Item) (env:List V) (S:Mem):Option (V × Mem) :=
 match o.op with
 | .call q=>match q.callee with
  | .value f=>match ai I env f with
   | .func g first caps=>Be run fn (aak P dQ run g (first++q.args.toList.map (ai I env)++caps) S) (.inRegion ops rest :: k) o.dst env
   | _=>none
  | .builtin .append=>match q.args.toList,q.argTypes.toList with
   | [s,_],[t,_]=>match WL P env S s t with
    | (cF,S')=>Be run fn (dD P (ai I cF) S' q) (.inRegion ops rest :: k) o.dst cF
   | _,_=>none
  | _=>Be run fn (dD P (ai I env) S q) (.inRegion ops rest :: k) o.dst env
 | op=>Be run fn (cU P (ai I env) S op) (.inRegion ops rest :: k) o.dst env
def WN (P:Program) (I:Inv) (dQ:FuncId→List V→Option V) (run:JX) (fn:FuncId) (ops:Array Oper) (i:Nat) (rest:List Nat) (k:List Item) (env:List V) (S:Mem):Option (V × Mem) :=
 match ops[i]? with
 | some o=>match o.guard with
  | none=>WM P I dQ run fn ops rest o k env S
  | some (j,want)=>match eO env ops j with
   | .d (.bool t)=>match t == want with
    | true=>WM P I dQ run fn ops rest o k env S
    | false=>run fn (.inRegion ops rest :: k) (aO env o.dst (.bY [])) S
   | .bY []=>run fn (.inRegion ops rest :: k) (aO env o.dst (.bY [])) S
   | _=>none
 | none=>none
def P2:Op→Bool
 | .move _=>true
 | .assign _=>true
 | .pick ..=>true
 | .build ..=>true
 | .load ..=>true
 | .nilCheck _=>true
 | .binOp ..=>true
 | .unOp ..=>true
 | .makeFunc ..=>true
 | .slice ..=>true
 | .fieldAddr ..=>true
 | .indexAddr ..=>true
 | .index ..=>true
 | .extract ..=>true
 | _=>false
def R3 (r:Option (V × Mem)):Option V :=
 match r with
 | some (v,_)=>some v
 | none=>none
def R4 (P:Program) (I:Inv) (dQ:FuncId→List V→Option V) (run:JX) (o:Oper) (env:List V) (S:Mem):Option V :=
 match o.op with
 | .call q=>match q.callee with
  | .value f=>match ai I env f with
   | .func g first caps=>match jn 0 0 (first++q.args.toList.map (ai I env)++caps) with
    | true=>MQ P dQ run g (uW 0 0 (first++q.args.toList.map (ai I env)++caps))
    | false=>none
   | _=>none
  | .builtin .len=>R3 (dD P (ai I env) S q)
  | _=>none
 | op=>match P2 op with
  | true=>R3 (cU P (ai I env) S op)
  | false=>none
def Dy (P:Program) (I:Inv) (dQ:FuncId→List V→Option V) (run:JX) (ops:Array Oper) (S:Mem):List Oper→List V→Option (List V)
 | [],env=>some env
 | o :: l,env=>match o.guard with
  | none=>match R4 P I dQ run o env S with
   | some v=>Dy P I dQ run ops S l (aO env o.dst v)
   | none=>none
  | some (j,want)=>match eO env ops j with
   | .d (.bool t)=>match t == want with
    | true=>match R4 P I dQ run o env S with
     | some v=>Dy P I dQ run ops S l (aO env o.dst v)
     | none=>none
    | false=>Dy P I dQ run ops S l (aO env o.dst (.bY []))
   | .bY []=>Dy P I dQ run ops S l (aO env o.dst (.bY []))
   | _=>none
def TP (P:Program) (I:Inv) (dQ:FuncId→List V→Option V) (run:JX) (fn:FuncId) (c:Code) (k:List Item) (env:List V) (S:Mem):Option (V × Mem) :=
 match c with
 | .seq a b=>run fn (.code a :: .code b :: k) env S
 | .skip=>run fn k env S
 | .label _=>run fn k env S
 | .block id a=>run fn (.code a :: .inBlock id :: k) env S
 | .region _ ops false=>run fn (.inRegion ops (tB 0 ops.toList) :: k) env S
 | .region _ ops true=>match P.follows .mixedOrders && Region.lexB .any ops with
  | true=>match Dy P I dQ run ops S ops.toList env with
   | some cF=>run fn k cF S
   | none=>none
  | false=>none
 | .cond x a b=>match ai I env x with
  | .d (.bool t)=>match t with
   | true=>run fn (.code a :: k) env S
   | false=>run fn (.code b :: k) env S
  | _=>none
 | .exit id=>match exitTo id k with
  | some k'=>run fn k' env S
  | none=>none
 | .loop x=>run fn (.code x :: .inLoop x :: k) env S
 | .ret=>R1 P fn env S
 | _=>none
def TQ (P:Program) (I:Inv) (dQ:FuncId→List V→Option V) (run:JX):JX:=fun fn k env S =>
 match k with
 | []=>R1 P fn env S
 | .code c :: k=>TP P I dQ run fn c k env S
 | .inBlock _ :: k=>run fn k env S
 | .inLoop x :: k=>run fn (.code x :: .inLoop x :: k) env S
 | .inRegion _ [] :: k=>run fn k env S
 | .inRegion ops (i :: rest) :: k=>WN P I dQ run fn ops i rest k env S
 | _=>none
noncomputable def ev (P:Program) (I:Inv) (dQ:FuncId→List V→Option V) (n:Nat):JX:=Nat.rec (fun _ _ _ _=>none) (fun _ run=>TQ P I dQ run) n
section
variable {P:Program} {I:Inv} {dQ:FuncId→List V→Option V}
end
end Go.Ab
namespace Go.Ab
open Go.RowKit Go.Av
theorem aF.H9 {P:Program} {I:Inv} {f:FuncId} {args R5:List V} {v:V} (h:aF P I f R5 ⟨[],[]⟩ (fun v' _=>v' = v)) (hd:uW 0 0 args=R5) (hv:wk 0 0 v=v) (S:Mem):aF P I f args S (aB v S) :=
 aF.mono (aF.frame (R:=fun v' _=>v' = v) (by rw [hd];exact h) S) fun v' S' h=>by
  obtain ⟨h1,v0,S0,h2,h3⟩:=h
  exact ⟨by rw [h3,h2,hv],h1⟩
theorem aF.only {P:Program} {I:Inv} {f:FuncId} {args:List V} {v:V} {S:Mem} (h:aF P I f args S (aB v S)):aF P I f args S (fun v' _=>v' = v):=h.mono fun _ _ h=>h.1
end Go.Ab
namespace Go.Proofs.YtnfnbjjnjjdjdaaGreatDoor
open Go.RowKit Go.Av Go.Ab
set_option maxRecDepth 100000
end Go.Proofs.YtnfnbjjnjjdjdaaGreatDoor
namespace Go.Proofs.YtnfnbjjnjjdjdaaGreatDoor
open Go.RowKit Go.Av Go.Ab
set_option linter.unusedSimpArgs false
set_option maxRecDepth 100000
set_option linter.defProp false
def Dz (bs:List UInt8):List (List D):=bs.map eX
def YJ (x:bJ):List V:=[.d (.int .i64 x.kind),.d (.str x.text),.d (.int .u64 x.int),.d (.int .i64 x.at'),.d (.int .i64 x.next)]
theorem MR (bs:List UInt8) (i:Int):(fk bs i).1.text.length≤bs.length+9:=by
 unfold fk
 split
 ·simp [bJ.zero]
 ·unfold gP
  split
  ·simp
  ·split
   ·simp only [tK,List.length_take,List.length_drop];omega
   ·split
    ·split
     ·simp only [kz,gZ,List.length_take,List.length_drop];omega
     ·simp [bJ.zero]
    ·split
     ·rename_i s hs
      have h3:∀ s∈eE,s.length≤9:=by decide
      have:=h3 s (List.mem_of_find?_eq_some hs)
      simp only
      omega
     ·simp [bJ.zero]
def WQ (bs:List UInt8) (s:Ps):List V:=[.d (.sl (Dz bs)),.d (.int .i64 s.w.kind),.d (.str s.w.text),.d (.int .u64 s.w.int),.d (.int .i64 s.w.at'),.d (.int .i64 s.w.next),.d (.int .i64 s.e),.d (.int .i64 s.o),.d (.bool s.h)]
abbrev PP (bs:List UInt8) (f:FuncId) (ar:List V) (s:Ps) (v:V) (s':Ps):Prop:=PF (fun s _=>WQ bs s) (fun s _=>WK bs s) f ar s v s'
theorem PP.of {bs:List UInt8} {f:FuncId} {ar:List V} {s s':Ps} {v:V} (h:∀ (c:Nat) (B:List (List V)) (T:List (Nat × Nat)),c < B.length→WK bs s→WK bs s'∧aF Tryz.prog av f (.ptr c 0 :: ar) ⟨B.set c (WQ bs s),T⟩ (aB v ⟨B.set c (WQ bs s'),T⟩)):PP bs f ar s v s' :=
 fun c B T i hc hi=>(h c B T hc hi).2.mono fun _ _ ⟨e1,e2⟩=>⟨e1,i,(h c B T hc hi).1,e2⟩
def tO {α:Type} (p:α→Bool):List α→Int→Int
 | [],_=>-1
 | x :: l,i=>if p x then i else tO p l (i+1)
theorem DA {α:Type} (p:α→Bool):∀ (l:List α) (i:Int),0≤i→decide (0≤tO p l i)=l.any p
 | [],i,_=>by simp [tO]
 | x :: l,i,hi=>by
  unfold tO
  cases hp:p x
  ·simp [hp,DA p l (i+1) (by omega)]
  ·simp [hp,hi]
theorem aX {α:Type} {l:List α} {i:Nat} (h:i < l.length):l.drop i=l[i] :: l.drop (i+1):=List.drop_eq_getElem_cons h
set_option maxHeartbeats 1000000 in
theorem Bg (l:List (List UInt8)) (s:List UInt8) (hl:l.length≤9223372036854775807) (S:Mem):aF Tryz.prog av 181 [.d (.sl (ij l)),.d (.str s)] S (aB (.d (.int .i64 (tO (· == s) l 0))) S):=by
 refine aF.body Tryz.func181 rfl (by kernel_rfl) ?_
 refine af.go 100 ?_
 simp only [Tryz.f181,WO,seval]
 refine af.cV (fun i:Nat=>(eT 19 [(0,.d (.sl (ij l))),(1,.d (.str s)),(6,.d (.sl (ij l))),(7,.d (.int .i64 l.length)),(8,.d (.int .i64 i))],S)) (fun i=>i≤l.length∧tO (· == s) l 0=tO (· == s) (l.drop i) i) (fun i=>l.length - i) 0 ⟨by omega,rfl⟩ ?_ rfl ?_
 ·simp only [eT,List.replicate_succ,List.replicate_zero,List.foldl_cons,List.foldl_nil,List.set_cons_zero,List.set_cons_succ,gO,eq_self,or_true,true_or,and_self,Int.natCast_add,Int.natCast_one,Int.natCast_zero]
 rintro i ⟨h1,h2⟩ ih
 by_cases au:i < l.length
 ·have hw:=az ((i:Int)+1) (by omega)
  have hg:=List.getElem?_eq_getElem au
  rw [aX au] at h2
  have aC:decide ((i:Int) < (l.length:Int))=true:=decide_eq_true (by omega)
  refine af.go 100 ?_
  simp only [WO,seval,hg,aC,hw]
  refine aW (fun h=>?_) (fun h=>?_)
  ·have hb:(l[i] == s)=true:=by rw [beq_iff_eq];exact (of_decide_eq_true h).symm
   simp only [WO,seval,h]
   refine af.ret Tryz.func181 rfl (Left.none ?_)
   have e:tO (· == s) (l[i] :: l.drop (i+1)) (i:Int)=i:=by simp [tO,hb]
   rw [h2,e]
   exact ⟨rfl,rfl⟩
  ·have hb:(l[i] == s)=false:=by rw [beq_eq_false_iff_ne];exact fun e=>of_decide_eq_false h e.symm
   simp only [WO,seval,h,hw]
   have e:tO (· == s) (l[i] :: l.drop (i+1)) (i:Int)=tO (· == s) (l.drop (i+1)) ((i+1:Nat):Int):=by simp [tO,hb]
   refine ih (i+1) ⟨by omega,by rw [h2,e]⟩ (by omega) _ _ ?_ rfl
   simp only [eT,List.replicate_succ,List.replicate_zero,List.foldl_cons,List.foldl_nil,List.set_cons_zero,List.set_cons_succ,gO,eq_self,or_true,true_or,and_self,Int.natCast_add,Int.natCast_one,Int.natCast_zero]
 ·have aC:decide ((i:Int) < (l.length:Int))=false:=decide_eq_false (by omega)
  refine af.go 100 ?_
  simp only [WO,seval,aC]
  refine af.ret Tryz.func181 rfl (Left.none ?_)
  rw [h2,List.drop_eq_nil_of_le (by omega)]
  exact ⟨rfl,rfl⟩
theorem contains_eq (l:List (List UInt8)) (s:List UInt8):decide (0≤tO (· == s) l 0)=l.contains s:=by
 rw [DA _ _ _ (Int.le_refl 0),Bool.eq_iff_iff,List.any_eq_true,List.contains_iff_exists_mem_beq]
 constructor<;>rintro ⟨x,hx,h⟩<;>exact ⟨x,hx,by rw [beq_iff_eq] at h ⊢;exact h.symm⟩
theorem u7 (l:List (List UInt8)) (s:List UInt8) (hl:l.length≤9223372036854775807) (S:Mem):aF Tryz.prog av 161 [.d (.sl (ij l)),.d (.str s)] S (aB (.d (.bool (l.contains s))) S):=by
 refine aF.body Tryz.func161 rfl (by kernel_rfl) ?_
 refine af.go 100 ?_
 simp only [Tryz.f161,WO,seval]
 refine ag (Bg l s hl _) ?_
 rintro _ _ ⟨rfl,rfl⟩
 refine af.go 100 ?_
 simp only [WO,seval,contains_eq]
 refine af.ret Tryz.func161 rfl (Left.none ?_)
 exact ⟨rfl,rfl⟩
def bB {α σ:Type} (f:α→σ→Bool × σ):List α→Int→σ→Int × σ
 | [],_,s=>(-1,s)
 | x :: l,i,s=>if (f x s).1=true then (i,(f x s).2) else bB f l (i+1) (f x s).2
def mz {α σ:Type} (f:α→σ→Bool × σ):List α→σ→Bool × σ
 | [],s=>(false,s)
 | x :: l,s=>if (f x s).1=true then (true,(f x s).2) else mz f l (f x s).2
theorem jx {α σ:Type} (f:α→σ→Bool × σ):∀ (l:List α) (i:Int) (s:σ),0≤i→decide (0≤(bB f l i s).1)=(mz f l s).1∧(bB f l i s).2=(mz f l s).2
 | [],i,s,_=>⟨by simp [bB,mz],rfl⟩
 | x :: l,i,s,hi=>by
  unfold bB mz
  cases h:(f x s).1
  ·simpa using jx f l (i+1) (f x s).2 (by omega)
  ·simpa using hi
def Good (P:Program) (I:Inv) {α σ:Type} (g:FuncId) (first caps:List V) (DB:α→V) (mem:σ→Mem) (f:α→σ→Bool × σ):List α→σ→Prop
 | [],_=>True
 | x :: l,s=>aF P I g (first++[DB x]++caps) (mem s) (aB (.d (.bool (f x s).1)) (mem (f x s).2))∧((f x s).1=false→Good P I g first caps DB mem f l (f x s).2)
set_option maxHeartbeats 1000000 in
theorem wN {σ:Type} (g:FuncId) (first caps:List V) (mem:σ→Mem) (f:aA→σ→Bool × σ) (hm:∀ s s',(mem s).boxes.length=(mem s').boxes.length∧(mem s).aL.length=(mem s').aL.length) (l:List aA) (hl:l.length≤9223372036854775807) (s0:σ) (hg:Good Tryz.prog av g first caps aY mem f l s0) :
 aF Tryz.prog av 107 [.d (.sl (l.map dR)),.func g first caps] (mem s0) (aB (.d (.int .i64 (bB f l 0 s0).1)) (mem (bB f l 0 s0).2)):=by
 refine aF.body Tryz.func107 rfl (by kernel_rfl) ?_
 refine af.go 100 ?_
 simp only [Tryz.f107,WO,seval]
 refine af.cV (fun p:Nat × σ=>(eT 19 [(0,.d (.sl (l.map dR))),(1,.func g first caps),(6,.d (.sl (l.map dR))),(7,.d (.int .i64 l.length)),(8,.d (.int .i64 p.1))],mem p.2)) (fun p=>p.1≤l.length∧bB f l 0 s0=bB f (l.drop p.1) p.1 p.2∧Good Tryz.prog av g first caps aY mem f (l.drop p.1) p.2) (fun p=>l.length - p.1) (0,s0) ⟨by omega,rfl,hg⟩ ?_ rfl ?_
 ·simp only [eT,List.replicate_succ,List.replicate_zero,List.foldl_cons,List.foldl_nil,List.set_cons_zero,List.set_cons_succ,gO,eq_self,or_true,true_or,and_self,Int.natCast_add,Int.natCast_one,Int.natCast_zero]
 rintro ⟨i,s⟩ ⟨h1,h2,h3⟩ ih
 dsimp only at h1 h2 h3 ih ⊢
 by_cases au:i < l.length
 ·have hw:=az ((i:Int)+1) (by omega)
  have mc:=List.getElem?_eq_getElem au
  rw [aX au] at h2 h3
  obtain ⟨h4,h5⟩:=h3
  have aC:decide ((i:Int) < (l.length:Int))=true:=decide_eq_true (by omega)
  refine af.go 100 ?_
  simp only [WO,seval,List.getElem?_map,mc,aC,hw,cB]
  refine aU h4 ?_
  rintro _ _ ⟨rfl,rfl⟩
  refine af.go 100 ?_
  simp only [WO,seval,hw]
  refine aW (fun h=>?_) (fun h=>?_)
  ·simp only [WO,seval,h]
   refine af.fits fun hf=>?_
   refine af.ret Tryz.func107 rfl (Left.fits hf (hm _ _).1 (hm _ _).2 ?_)
   have e:bB f (l[i] :: l.drop (i+1)) (i:Int) s=((i:Int),(f l[i] s).2):=by simp [bB,h]
   rw [h2,e]
   exact ⟨rfl,rfl⟩
  ·simp only [WO,seval,h,hw]
   have e:bB f (l[i] :: l.drop (i+1)) (i:Int) s=bB f (l.drop (i+1)) ((i+1:Nat):Int) (f l[i] s).2:=by simp [bB,h]
   refine ih (i+1,(f l[i] s).2) ⟨au,h2.trans e,h5 h⟩ (by simp only;omega) _ _ ?_ rfl
   simp only [eT,List.replicate_succ,List.replicate_zero,List.foldl_cons,List.foldl_nil,List.set_cons_zero,List.set_cons_succ,gO,eq_self,or_true,true_or,and_self,Int.natCast_add,Int.natCast_one,Int.natCast_zero]
 ·have aC:decide ((i:Int) < (l.length:Int))=false:=decide_eq_false (by omega)
  refine af.go 100 ?_
  simp only [WO,seval,aC]
  refine af.fits fun hf=>?_
  refine af.ret Tryz.func107 rfl (Left.fits hf (hm _ _).1 (hm _ _).2 ?_)
  rw [h2,List.drop_eq_nil_of_le (by omega)]
  exact ⟨rfl,rfl⟩
theorem lW {σ:Type} (g:FuncId) (first caps:List V) (mem:σ→Mem) (f:aA→σ→Bool × σ) (hm:∀ s s',(mem s).boxes.length=(mem s').boxes.length∧(mem s).aL.length=(mem s').aL.length) (l:List aA) (hl:l.length≤9223372036854775807) (s0:σ) (hg:Good Tryz.prog av g first caps aY mem f l s0) :
 aF Tryz.prog av 70 [.d (.sl (l.map dR)),.func g first caps] (mem s0) (aB (.d (.bool (mz f l s0).1)) (mem (mz f l s0).2)):=by
 obtain ⟨e1,e2⟩:=jx f l 0 s0 (Int.le_refl 0)
 refine aF.body Tryz.func70 rfl (by kernel_rfl) ?_
 refine af.go 100 ?_
 simp only [Tryz.f70,WO,seval]
 refine ag (wN g first caps mem f hm l hl s0 hg) ?_
 rintro _ _ ⟨rfl,rfl⟩
 refine af.go 100 ?_
 simp only [WO,seval,e1]
 refine af.fits fun hf=>?_
 refine af.ret Tryz.func70 rfl (Left.fits hf (hm _ _).1 (hm _ _).2 ?_)
 rw [e2]
 exact ⟨rfl,rfl⟩
set_option maxHeartbeats 1000000 in
theorem wO {σ:Type} (g:FuncId) (first caps:List V) (mem:σ→Mem) (f:aH→σ→Bool × σ) (hm:∀ s s',(mem s).boxes.length=(mem s').boxes.length∧(mem s).aL.length=(mem s').aL.length) (l:List aH) (hl:l.length≤9223372036854775807) (s0:σ) (hg:Good Tryz.prog av g first caps Bd mem f l s0) :
 aF Tryz.prog av 162 [.d (.sl (l.map dZ)),.func g first caps] (mem s0) (aB (.d (.int .i64 (bB f l 0 s0).1)) (mem (bB f l 0 s0).2)):=by
 refine aF.body Tryz.func162 rfl (by kernel_rfl) ?_
 refine af.go 100 ?_
 simp only [Tryz.f162,WO,seval]
 refine af.cV (fun p:Nat × σ=>(eT 19 [(0,.d (.sl (l.map dZ))),(1,.func g first caps),(6,.d (.sl (l.map dZ))),(7,.d (.int .i64 l.length)),(8,.d (.int .i64 p.1))],mem p.2)) (fun p=>p.1≤l.length∧bB f l 0 s0=bB f (l.drop p.1) p.1 p.2∧Good Tryz.prog av g first caps Bd mem f (l.drop p.1) p.2) (fun p=>l.length - p.1) (0,s0) ⟨by omega,rfl,hg⟩ ?_ rfl ?_
 ·simp only [eT,List.replicate_succ,List.replicate_zero,List.foldl_cons,List.foldl_nil,List.set_cons_zero,List.set_cons_succ,gO,eq_self,or_true,true_or,and_self,Int.natCast_add,Int.natCast_one,Int.natCast_zero]
 rintro ⟨i,s⟩ ⟨h1,h2,h3⟩ ih
 dsimp only at h1 h2 h3 ih ⊢
 by_cases au:i < l.length
 ·have hw:=az ((i:Int)+1) (by omega)
  have mc:=List.getElem?_eq_getElem au
  rw [aX au] at h2 h3
  obtain ⟨h4,h5⟩:=h3
  have aC:decide ((i:Int) < (l.length:Int))=true:=decide_eq_true (by omega)
  refine af.go 100 ?_
  simp only [WO,seval,List.getElem?_map,mc,aC,hw,cX]
  refine aU h4 ?_
  rintro _ _ ⟨rfl,rfl⟩
  refine af.go 100 ?_
  simp only [WO,seval,hw]
  refine aW (fun h=>?_) (fun h=>?_)
  ·simp only [WO,seval,h]
   refine af.fits fun hf=>?_
   refine af.ret Tryz.func162 rfl (Left.fits hf (hm _ _).1 (hm _ _).2 ?_)
   have e:bB f (l[i] :: l.drop (i+1)) (i:Int) s=((i:Int),(f l[i] s).2):=by simp [bB,h]
   rw [h2,e]
   exact ⟨rfl,rfl⟩
  ·simp only [WO,seval,h,hw]
   have e:bB f (l[i] :: l.drop (i+1)) (i:Int) s=bB f (l.drop (i+1)) ((i+1:Nat):Int) (f l[i] s).2:=by simp [bB,h]
   refine ih (i+1,(f l[i] s).2) ⟨au,h2.trans e,h5 h⟩ (by simp only;omega) _ _ ?_ rfl
   simp only [eT,List.replicate_succ,List.replicate_zero,List.foldl_cons,List.foldl_nil,List.set_cons_zero,List.set_cons_succ,gO,eq_self,or_true,true_or,and_self,Int.natCast_add,Int.natCast_one,Int.natCast_zero]
 ·have aC:decide ((i:Int) < (l.length:Int))=false:=decide_eq_false (by omega)
  refine af.go 100 ?_
  simp only [WO,seval,aC]
  refine af.fits fun hf=>?_
  refine af.ret Tryz.func162 rfl (Left.fits hf (hm _ _).1 (hm _ _).2 ?_)
  rw [h2,List.drop_eq_nil_of_le (by omega)]
  exact ⟨rfl,rfl⟩
theorem sq {σ:Type} (g:FuncId) (first caps:List V) (mem:σ→Mem) (f:aH→σ→Bool × σ) (hm:∀ s s',(mem s).boxes.length=(mem s').boxes.length∧(mem s).aL.length=(mem s').aL.length) (l:List aH) (hl:l.length≤9223372036854775807) (s0:σ) (hg:Good Tryz.prog av g first caps Bd mem f l s0) :
 aF Tryz.prog av 130 [.d (.sl (l.map dZ)),.func g first caps] (mem s0) (aB (.d (.bool (mz f l s0).1)) (mem (mz f l s0).2)):=by
 obtain ⟨e1,e2⟩:=jx f l 0 s0 (Int.le_refl 0)
 refine aF.body Tryz.func130 rfl (by kernel_rfl) ?_
 refine af.go 100 ?_
 simp only [Tryz.f130,WO,seval]
 refine ag (wO g first caps mem f hm l hl s0 hg) ?_
 rintro _ _ ⟨rfl,rfl⟩
 refine af.go 100 ?_
 simp only [WO,seval,e1]
 refine af.fits fun hf=>?_
 refine af.ret Tryz.func130 rfl (Left.fits hf (hm _ _).1 (hm _ _).2 ?_)
 rw [e2]
 exact ⟨rfl,rfl⟩
set_option maxHeartbeats 1000000 in
theorem wP {σ:Type} (g:FuncId) (first caps:List V) (mem:σ→Mem) (f:cJ→σ→Bool × σ) (hm:∀ s s',(mem s).boxes.length=(mem s').boxes.length∧(mem s).aL.length=(mem s').aL.length) (l:List cJ) (hl:l.length≤9223372036854775807) (s0:σ) (hg:Good Tryz.prog av g first caps H7 mem f l s0) :
 aF Tryz.prog av 114 [.d (.sl (l.map lK)),.func g first caps] (mem s0) (aB (.d (.int .i64 (bB f l 0 s0).1)) (mem (bB f l 0 s0).2)):=by
 refine aF.body Tryz.func114 rfl (by kernel_rfl) ?_
 refine af.go 100 ?_
 simp only [Tryz.f114,WO,seval]
 refine af.cV (fun p:Nat × σ=>(eT 19 [(0,.d (.sl (l.map lK))),(1,.func g first caps),(6,.d (.sl (l.map lK))),(7,.d (.int .i64 l.length)),(8,.d (.int .i64 p.1))],mem p.2)) (fun p=>p.1≤l.length∧bB f l 0 s0=bB f (l.drop p.1) p.1 p.2∧Good Tryz.prog av g first caps H7 mem f (l.drop p.1) p.2) (fun p=>l.length - p.1) (0,s0) ⟨by omega,rfl,hg⟩ ?_ rfl ?_
 ·simp only [eT,List.replicate_succ,List.replicate_zero,List.foldl_cons,List.foldl_nil,List.set_cons_zero,List.set_cons_succ,gO,eq_self,or_true,true_or,and_self,Int.natCast_add,Int.natCast_one,Int.natCast_zero]
 rintro ⟨i,s⟩ ⟨h1,h2,h3⟩ ih
 dsimp only at h1 h2 h3 ih ⊢
 by_cases au:i < l.length
 ·have hw:=az ((i:Int)+1) (by omega)
  have mc:=List.getElem?_eq_getElem au
  rw [aX au] at h2 h3
  obtain ⟨h4,h5⟩:=h3
  have aC:decide ((i:Int) < (l.length:Int))=true:=decide_eq_true (by omega)
  refine af.go 100 ?_
  simp only [WO,seval,List.getElem?_map,mc,aC,hw,iS]
  refine aU h4 ?_
  rintro _ _ ⟨rfl,rfl⟩
  refine af.go 100 ?_
  simp only [WO,seval,hw]
  refine aW (fun h=>?_) (fun h=>?_)
  ·simp only [WO,seval,h]
   refine af.fits fun hf=>?_
   refine af.ret Tryz.func114 rfl (Left.fits hf (hm _ _).1 (hm _ _).2 ?_)
   have e:bB f (l[i] :: l.drop (i+1)) (i:Int) s=((i:Int),(f l[i] s).2):=by simp [bB,h]
   rw [h2,e]
   exact ⟨rfl,rfl⟩
  ·simp only [WO,seval,h,hw]
   have e:bB f (l[i] :: l.drop (i+1)) (i:Int) s=bB f (l.drop (i+1)) ((i+1:Nat):Int) (f l[i] s).2:=by simp [bB,h]
   refine ih (i+1,(f l[i] s).2) ⟨au,h2.trans e,h5 h⟩ (by simp only;omega) _ _ ?_ rfl
   simp only [eT,List.replicate_succ,List.replicate_zero,List.foldl_cons,List.foldl_nil,List.set_cons_zero,List.set_cons_succ,gO,eq_self,or_true,true_or,and_self,Int.natCast_add,Int.natCast_one,Int.natCast_zero]
 ·have aC:decide ((i:Int) < (l.length:Int))=false:=decide_eq_false (by omega)
  refine af.go 100 ?_
  simp only [WO,seval,aC]
  refine af.fits fun hf=>?_
  refine af.ret Tryz.func114 rfl (Left.fits hf (hm _ _).1 (hm _ _).2 ?_)
  rw [h2,List.drop_eq_nil_of_le (by omega)]
  exact ⟨rfl,rfl⟩
theorem sr {σ:Type} (g:FuncId) (first caps:List V) (mem:σ→Mem) (f:cJ→σ→Bool × σ) (hm:∀ s s',(mem s).boxes.length=(mem s').boxes.length∧(mem s).aL.length=(mem s').aL.length) (l:List cJ) (hl:l.length≤9223372036854775807) (s0:σ) (hg:Good Tryz.prog av g first caps H7 mem f l s0) :
 aF Tryz.prog av 76 [.d (.sl (l.map lK)),.func g first caps] (mem s0) (aB (.d (.bool (mz f l s0).1)) (mem (mz f l s0).2)):=by
 obtain ⟨e1,e2⟩:=jx f l 0 s0 (Int.le_refl 0)
 refine aF.body Tryz.func76 rfl (by kernel_rfl) ?_
 refine af.go 100 ?_
 simp only [Tryz.f76,WO,seval]
 refine ag (wP g first caps mem f hm l hl s0 hg) ?_
 rintro _ _ ⟨rfl,rfl⟩
 refine af.go 100 ?_
 simp only [WO,seval,e1]
 refine af.fits fun hf=>?_
 refine af.ret Tryz.func76 rfl (Left.fits hf (hm _ _).1 (hm _ _).2 ?_)
 rw [e2]
 exact ⟨rfl,rfl⟩
set_option maxHeartbeats 1000000 in
theorem wQ {σ:Type} (g:FuncId) (first caps:List V) (mem:σ→Mem) (f:aj→σ→Bool × σ) (hm:∀ s s',(mem s).boxes.length=(mem s').boxes.length∧(mem s).aL.length=(mem s').aL.length) (l:List aj) (hl:l.length≤9223372036854775807) (s0:σ) (hg:Good Tryz.prog av g first caps sn mem f l s0) :
 aF Tryz.prog av 199 [.d (.sl (l.map fO)),.func g first caps] (mem s0) (aB (.d (.int .i64 (bB f l 0 s0).1)) (mem (bB f l 0 s0).2)):=by
 refine aF.body Tryz.func199 rfl (by kernel_rfl) ?_
 refine af.go 100 ?_
 simp only [Tryz.f199,WO,seval]
 refine af.cV (fun p:Nat × σ=>(eT 19 [(0,.d (.sl (l.map fO))),(1,.func g first caps),(6,.d (.sl (l.map fO))),(7,.d (.int .i64 l.length)),(8,.d (.int .i64 p.1))],mem p.2)) (fun p=>p.1≤l.length∧bB f l 0 s0=bB f (l.drop p.1) p.1 p.2∧Good Tryz.prog av g first caps sn mem f (l.drop p.1) p.2) (fun p=>l.length - p.1) (0,s0) ⟨by omega,rfl,hg⟩ ?_ rfl ?_
 ·simp only [eT,List.replicate_succ,List.replicate_zero,List.foldl_cons,List.foldl_nil,List.set_cons_zero,List.set_cons_succ,gO,eq_self,or_true,true_or,and_self,Int.natCast_add,Int.natCast_one,Int.natCast_zero]
 rintro ⟨i,s⟩ ⟨h1,h2,h3⟩ ih
 dsimp only at h1 h2 h3 ih ⊢
 by_cases au:i < l.length
 ·have hw:=az ((i:Int)+1) (by omega)
  have mc:=List.getElem?_eq_getElem au
  rw [aX au] at h2 h3
  obtain ⟨h4,h5⟩:=h3
  have aC:decide ((i:Int) < (l.length:Int))=true:=decide_eq_true (by omega)
  refine af.go 100 ?_
  simp only [WO,seval,List.getElem?_map,mc,aC,hw,cQ]
  refine aU h4 ?_
  rintro _ _ ⟨rfl,rfl⟩
  refine af.go 100 ?_
  simp only [WO,seval,hw]
  refine aW (fun h=>?_) (fun h=>?_)
  ·simp only [WO,seval,h]
   refine af.fits fun hf=>?_
   refine af.ret Tryz.func199 rfl (Left.fits hf (hm _ _).1 (hm _ _).2 ?_)
   have e:bB f (l[i] :: l.drop (i+1)) (i:Int) s=((i:Int),(f l[i] s).2):=by simp [bB,h]
   rw [h2,e]
   exact ⟨rfl,rfl⟩
  ·simp only [WO,seval,h,hw]
   have e:bB f (l[i] :: l.drop (i+1)) (i:Int) s=bB f (l.drop (i+1)) ((i+1:Nat):Int) (f l[i] s).2:=by simp [bB,h]
   refine ih (i+1,(f l[i] s).2) ⟨au,h2.trans e,h5 h⟩ (by simp only;omega) _ _ ?_ rfl
   simp only [eT,List.replicate_succ,List.replicate_zero,List.foldl_cons,List.foldl_nil,List.set_cons_zero,List.set_cons_succ,gO,eq_self,or_true,true_or,and_self,Int.natCast_add,Int.natCast_one,Int.natCast_zero]
 ·have aC:decide ((i:Int) < (l.length:Int))=false:=decide_eq_false (by omega)
  refine af.go 100 ?_
  simp only [WO,seval,aC]
  refine af.fits fun hf=>?_
  refine af.ret Tryz.func199 rfl (Left.fits hf (hm _ _).1 (hm _ _).2 ?_)
  rw [h2,List.drop_eq_nil_of_le (by omega)]
  exact ⟨rfl,rfl⟩
theorem iT {σ:Type} (g:FuncId) (first caps:List V) (mem:σ→Mem) (f:aj→σ→Bool × σ) (hm:∀ s s',(mem s).boxes.length=(mem s').boxes.length∧(mem s).aL.length=(mem s').aL.length) (l:List aj) (hl:l.length≤9223372036854775807) (s0:σ) (hg:Good Tryz.prog av g first caps sn mem f l s0) :
 aF Tryz.prog av 182 [.d (.sl (l.map fO)),.func g first caps] (mem s0) (aB (.d (.bool (mz f l s0).1)) (mem (mz f l s0).2)):=by
 obtain ⟨e1,e2⟩:=jx f l 0 s0 (Int.le_refl 0)
 refine aF.body Tryz.func182 rfl (by kernel_rfl) ?_
 refine af.go 100 ?_
 simp only [Tryz.f182,WO,seval]
 refine ag (wQ g first caps mem f hm l hl s0 hg) ?_
 rintro _ _ ⟨rfl,rfl⟩
 refine af.go 100 ?_
 simp only [WO,seval,e1]
 refine af.fits fun hf=>?_
 refine af.ret Tryz.func182 rfl (Left.fits hf (hm _ _).1 (hm _ _).2 ?_)
 rw [e2]
 exact ⟨rfl,rfl⟩
set_option maxHeartbeats 1000000 in
theorem P3 (k:Int) (B:List (List V)) (T:List (Nat × Nat)):aF Tryz.prog av 201 [.d (.int .i64 k)] ⟨B,T⟩ (aB (.d (.int .i64 (fm k))) ⟨B,T⟩):=by
 refine aF.body Tryz.func201 rfl (by kernel_rfl) ?_
 refine af.go 300 ?_
 simp only [Tryz.f201,WO,seval]
 repeat' ((first | refine bu (fun h=>?_) (fun h=>?_) | refine aW (fun h=>?_) (fun h=>?_))<;>simp only [WO,seval,h])
 all_goals
  refine af.ret Tryz.func201 rfl (Left.none ?_)
  first
   | (obtain rfl:=of_decide_eq_true h
      exact ⟨rfl,rfl⟩)
   | (simp only [decide_eq_false_iff_not] at *
      refine ⟨?_,rfl⟩
      have:fm k = -2:=by simp [fm, *]
      rw [this]
      rfl)
theorem P4 (s:List UInt8) (h:∀ x∈wE,¬ s=x.1):ki s=0:=by
 unfold ki
 rw [List.find?_eq_none.2 fun x hx=>by simpa using fun e=>h x hx e.symm]
 rfl
set_option maxHeartbeats 2000000 in
theorem P5 (s:List UInt8) (B:List (List V)) (T:List (Nat × Nat)):aF Tryz.prog av 206 [.d (.str s)] ⟨B,T⟩ (aB (.d (.int .i64 (ki s))) ⟨B,T⟩):=by
 refine aF.body Tryz.func206 rfl (by kernel_rfl) ?_
 refine af.go 400 ?_
 simp only [Tryz.f206,WO,seval]
 repeat' ((first | refine bu (fun h=>?_) (fun h=>?_) | refine aW (fun h=>?_) (fun h=>?_))<;>simp only [WO,seval,h])
 all_goals
  refine af.ret Tryz.func206 rfl (Left.none ?_)
  first
   | (obtain rfl:=of_decide_eq_true h
      exact ⟨rfl,rfl⟩)
   | (simp only [decide_eq_false_iff_not] at *
      refine ⟨?_,rfl⟩
      have:ki s=0:=P4 s (by simp [wE, *])
      rw [this]
      rfl)
theorem wR (n:Nat) (l:List (List UInt8)) (h:n < l.length):gK (n+1) l=(gK n l && ak l[n] && !(l.take n).contains l[n]):=by
 have:l.getD n []=l[n]:=by simp [List.getD,h]
 simp only [gK,this,TG]
set_option maxHeartbeats 1000000 in
theorem sw (l:List (List UInt8)) (hl:l.length≤9223372036854775807) (B:List (List V)) (T:List (Nat × Nat)):aF Tryz.prog av 129 [.d (.sl (ij l))] ⟨B,T⟩ (aB (.d (.bool (gK l.length l))) ⟨B,T⟩):=by
 refine aF.body Tryz.func129 rfl (by kernel_rfl) ?_
 refine af.go 100 ?_
 simp only [Tryz.f129,WO,seval]
 refine af.cV (fun i:Nat=>(eT 23 [(0,.d (.sl (ij l))),(5,.d (.sl (ij l))),(6,.d (.int .i64 l.length)),(7,.d (.int .i64 i))],⟨B,T⟩)) (fun i=>i≤l.length∧gK i l=true) (fun i=>l.length - i) 0 ⟨by omega,rfl⟩ ?_ rfl ?_
 ·simp only [eT,List.replicate_succ,List.replicate_zero,List.foldl_cons,List.foldl_nil,List.set_cons_zero,List.set_cons_succ,gO,eq_self,or_true,true_or,and_self,Int.natCast_add,Int.natCast_one,Int.natCast_zero]
 rintro i ⟨h1,h2⟩ ih
 by_cases au:i < l.length
 ·have hw:=az ((i:Int)+1) (by omega)
  have hg:=List.getElem?_eq_getElem au
  have hs:=wR i l au
  rw [h2,Bool.true_and] at hs
  have hle:(i:Int)≤(l.length:Int):=by omega
  have aC:decide ((i:Int) < (l.length:Int))=true:=decide_eq_true (by omega)
  refine af.go 100 ?_
  simp only [WO,seval,hg,aC,hw]
  refine ag (kX _ _) ?_
  rintro _ _ ⟨rfl,rfl⟩
  refine af.go 100 ?_
  simp only [WO,seval,hw]
  cases hI:ak l[i]
  ·simp only [WO,seval,hI,Bool.not_false]
   refine af.ret Tryz.func129 rfl (Left.none ?_)
   have:gK l.length l=false:=Dq l (i+1) (by rw [hs,hI];rfl) _ (by omega)
   rw [this]
   exact ⟨rfl,rfl⟩
  ·simp only [WO,seval,hI,Bool.not_true,hle]
   refine ag (u7 _ _ (by simp;omega) _) ?_
   rintro _ _ ⟨rfl,rfl⟩
   refine af.go 100 ?_
   simp only [WO,seval,hw]
   refine aW (fun h=>?_) (fun h=>?_)
   ·simp only [WO,seval,h]
    refine af.ret Tryz.func129 rfl (Left.none ?_)
    have:gK l.length l=false:=Dq l (i+1) (by rw [hs,hI,h];rfl) _ (by omega)
    rw [this]
    exact ⟨rfl,rfl⟩
   ·simp only [WO,seval,h,hw]
    refine ih (i+1) ⟨au,by rw [hs,hI,h];rfl⟩ (by omega) _ _ ?_ rfl
    simp only [eT,List.replicate_succ,List.replicate_zero,List.foldl_cons,List.foldl_nil,List.set_cons_zero,List.set_cons_succ,gO,eq_self,or_true,true_or,and_self,Int.natCast_add,Int.natCast_one,Int.natCast_zero]
 ·have aC:decide ((i:Int) < (l.length:Int))=false:=decide_eq_false (by omega)
  refine af.go 100 ?_
  simp only [WO,seval,aC]
  refine af.ret Tryz.func129 rfl (Left.none ?_)
  obtain rfl:i=l.length:=by omega
  rw [h2]
  exact ⟨rfl,rfl⟩
theorem lX {P:Program} {I:Inv} {α:Type} {g:FuncId} {first caps:List V} {DB:α→V} {S:Mem} {f:α→Bool}:∀ (l:List α),(∀ x∈l,aF P I g (first++[DB x]++caps) S (aB (.d (.bool (f x))) S))→Good P I g first caps DB (fun _:Unit=>S) (fun x s=>(f x,s)) l ()
 | [],_=>trivial
 | x :: l,h=>⟨h x List.mem_cons_self,fun _=>lX l fun y hy=>h y (List.mem_cons_of_mem _ hy)⟩
theorem jy {α:Type} (f:α→Bool):∀ l:List α,(mz (fun x (s:Unit)=>(f x,s)) l ()).1=l.any f
 | []=>rfl
 | x :: l=>by
  unfold mz
  cases h:f x
  ·simp [h,jy f l]
  ·simp [h]
theorem wS:∀ l:List aj,wK l=l.all jg
 | []=>by rw [wK];rfl
 | x :: l=>by rw [wK,wS l];rfl
theorem Bh {α:Type} (f:α→Bool) (l:List α):l.any (fun x=>!f x) = !l.all f:=by
 induction l with
 | nil=>rfl
 | cons x l ih=>simp [ih,Bool.not_and]
def wT (x:aj):Prop:=∀ (B:List (List V)) (T:List (Nat × Nat)),aF Tryz.prog av 185 [sn x] ⟨B,T⟩ (aB (.d (.bool (jg x))) ⟨B,T⟩)
set_option maxHeartbeats 1000000 in
theorem MS (x:aj) (h:wT x) (B:List (List V)) (T:List (Nat × Nat)):aF Tryz.prog av 200 [sn x] ⟨B,T⟩ (aB (.d (.bool (!jg x))) ⟨B,T⟩):=by
 obtain ⟨N,hn⟩:∃ N,B.length=N:=⟨_,rfl⟩
 have h:=h (B++[[.d (.int .i64 x.kind),.d (.str x.text),.d (.int .u64 x.int),.d (.int .i64 x.type.kind),.d (.str x.type.name),.d (.sl (x.type.elem.map dR)),.d (.sl (ij x.names)),.d (.sl (x.kids.map fO))]]) T
 unfold sn at h ⊢
 refine aF.body Tryz.func200 rfl (by kernel_rfl) ?_
 refine af.go 100 ?_
 simp only [Tryz.f200,WO,seval,hn]
 refine ag (h) ?_
 rintro _ _ ⟨rfl,rfl⟩
 refine af.go 100 ?_
 simp only [WO,seval,hn]
 refine af.ret Tryz.func200 rfl (Left.box ?_)
 exact ⟨rfl,rfl⟩
set_option maxHeartbeats 2000000 in
theorem JY (k:Int) (t:List UInt8) (i:Int) (ty:aA) (ns:List (List UInt8)) (ks:List aj) (hx:∀ x∈ks,wT x):wT (.mk k t i ty ns ks):=by
 intro B T
 obtain ⟨N,hn⟩:∃ N,B.length=N:=⟨_,rfl⟩
 have hS:jg (.mk k t i ty ns ks)=(decide (k ≠ 14) && decide (k ≠ 15) && ks.all jg):=by rw [jg,wS]
 simp only [sn,aj.kind,aj.text,aj.int,aj.type,aj.names,aj.kids]
 refine aF.Hh Tryz.func185 rfl (by kernel_rfl) fun bk=>?_
 simp only [CI,sm,sn,Bd,aY,H7,Cd,yL,yM,ju,Bool.and_eq_true,decide_eq_true_eq,and_true,true_and,List.length_map,fL] at bk
 refine af.go 100 ?_
 simp only [Tryz.f185,WO,seval,hn]
 obtain ⟨-,-,-,-,hl⟩:=bk
 repeat' ((first | refine bu (fun h=>?_) (fun h=>?_) | refine aW (fun h=>?_) (fun h=>?_))<;>simp only [WO,seval,h,hn])
 all_goals first
  | (refine af.ret Tryz.func185 rfl (Left.box ?_)
     rw [hS]
     (try clear ih)
     (try simp only [jw] at *)
     simp only [jv,seval,aB]<;>simp [*]
     skip)
  | (refine ag (iT 200 [] [] (fun _:Unit=>_) (fun x s=>(!jg x,s)) (fun _ _=>⟨rfl,rfl⟩) ks hl () (lX ks fun x hm=>MS x (hx x hm) _ T)) ?_
     rintro _ _ ⟨rfl,rfl⟩
     rw [jy,Bh]
     refine af.go 100 ?_
     simp only [WO,seval,hn]
     refine af.ret Tryz.func185 rfl (Left.box ?_)
     rw [hS]
     (try clear ih)
     (try simp only [jw] at *)
     simp only [jv,seval,aB]<;>simp [*]
     skip)
mutual
theorem Ia:∀ x:aj,wT x
 | .mk k t i ty ns ks=>JY k t i ty ns ks (DC ks)
theorem DC:∀ (ks:List aj),∀ x∈ks,wT x
 | [],_,h=>absurd h List.not_mem_nil
 | y :: l,x,h=>by
  rcases List.mem_cons.1 h with e | e
  ·rw [e];exact Ia y
  ·exact DC l x e
end
def exB (x:aj):List V:=[.d (.int .i64 x.kind),.d (.str x.text),.d (.int .u64 x.int),.d (.int .i64 x.type.kind),.d (.str x.type.name),.d (.sl (x.type.elem.map dR)),.d (.sl (ij x.names)),.d (.sl (x.kids.map fO))]
theorem kI (k:Int) (t:List UInt8) (i:Int) (ty:aA) (ns:List (List UInt8)) (ks:List aj):dU (.mk k t i ty ns ks)=match ks with | [y]=>if k=9 then dU y else decide (k=1) | _=>decide (k=1):=by
 rcases ks with _ | ⟨z,_ | ⟨z2,l⟩⟩<;>simp [dU]
set_option maxHeartbeats 2000000 in
theorem MT (x:aj) (B:List (List V)) (T:List (Nat × Nat)):aF Tryz.prog av 184 [sn x] ⟨B,T⟩ (aB (.d (.bool (dU x))) ⟨B,T⟩):=by
 obtain ⟨N,hn⟩:∃ N,B.length=N:=⟨_,rfl⟩
 unfold sn
 refine aF.body Tryz.func184 rfl (by kernel_rfl) ?_
 refine af.go 100 ?_
 simp only [Tryz.f184,WO,seval,hn]
 refine af.cV (fun y:aj=>(eT 19 [(1,.ptr N 0)],⟨B++[exB y],T⟩)) (fun y=>dU y=dU x) (fun y=>SizeOf.sizeOf y) x rfl ?_ rfl ?_
 ·simp only [eT,List.replicate_succ,List.replicate_zero,List.foldl_cons,List.foldl_nil,List.set_cons_zero,List.set_cons_succ,gO,eq_self,or_true,true_or,and_self,Int.natCast_add,Int.natCast_one,Int.natCast_zero]
 rintro y hy ih
 cases y with
 | mk k t i ty ns ks =>
 have hp:=kI k t i ty ns ks
 dsimp only [exB] at ih ⊢
 dsimp only [aj.kind,aj.text,aj.int,aj.type,aj.names,aj.kids] at ⊢
 rw [hp] at hy
 rcases ks with _ | ⟨z,_ | ⟨z2,l⟩⟩
 ·dsimp only at hy
  refine af.go 100 ?_
  simp only [WO,seval,hn,cQ]
  repeat' ((first | refine bu (fun h=>?_) (fun h=>?_) | refine aW (fun h=>?_) (fun h=>?_))<;>simp only [WO,seval,h,hn,cQ])
  all_goals
   refine af.ret Tryz.func184 rfl (Left.box ?_)
   rw [← hy]
   (try clear ih)
   (try simp only [jw] at *)
   simp only [jv,seval,aB]<;>simp [*]
   skip
 ·dsimp only at hy
  refine af.go 100 ?_
  simp only [WO,seval,hn,cQ]
  repeat' ((first | refine bu (fun h=>?_) (fun h=>?_) | refine aW (fun h=>?_) (fun h=>?_))<;>simp only [WO,seval,h,hn,cQ])
  all_goals first
   | (refine af.ret Tryz.func184 rfl (Left.box ?_)
      rw [← hy]
      (try clear ih)
      (try simp only [jw] at *)
      simp only [jv,seval,aB]<;>simp [*]
      skip)
   | (refine ih z ?_ (by simp only [aj.mk.sizeOf_spec,List.cons.sizeOf_spec];omega) _ _ ?_ ?_
      ·rw [← hy,if_pos (of_decide_eq_true (by assumption))]
      ·skip
       simp only [eT,List.replicate_succ,List.replicate_zero,List.foldl_cons,List.foldl_nil,List.set_cons_zero,List.set_cons_succ,gO,eq_self,or_true,true_or,and_self,Int.natCast_add,Int.natCast_one,Int.natCast_zero]
       skip
      ·rfl)
 ·have iK:decide ((l.length:Int)+1+1=1)=false:=decide_eq_false (by omega)
  dsimp only at hy
  refine af.go 100 ?_
  simp only [WO,seval,hn,cQ,iK]
  repeat' ((first | refine bu (fun h=>?_) (fun h=>?_) | refine aW (fun h=>?_) (fun h=>?_))<;>simp only [WO,seval,h,hn,cQ,iK])
  all_goals
   refine af.ret Tryz.func184 rfl (Left.box ?_)
   rw [← hy]
   (try clear ih)
   (try simp only [jw] at *)
   simp only [jv,seval,aB]<;>simp [*]
   skip
def WR:=by
 have c:=aM Tryz.f183 (by conv=>lhs;cbv)
 dsimp only [KK,eN,eG,eH,List.map_cons,List.map_nil,List.toList_toArray] at c
 exact c
theorem aal:bI Tryz.prog 183 Tryz.f183 6:=⟨Tryz.func183,by kernel_rfl⟩
def j8:=by
 have c:=aM Tryz.f163 (by conv=>lhs;cbv)
 dsimp only [KK,eN,eG,eH,List.map_cons,List.map_nil,List.toList_toArray] at c
 exact c
theorem aam:bI Tryz.prog 163 Tryz.f163 149:=⟨Tryz.func163,by kernel_rfl⟩
set_option maxHeartbeats 1000000 in
theorem zG (x:aj) (B:List (List V)) (T:List (Nat × Nat)):aF Tryz.prog av 183 [sn x] ⟨B,T⟩ (aB (.d (.bool (!dU x))) ⟨B,T⟩):=by
 obtain ⟨N,hn⟩:∃ N,B.length=N:=⟨_,rfl⟩
 have h:=MT x (B++[[.d (.int .i64 x.kind),.d (.str x.text),.d (.int .u64 x.int),.d (.int .i64 x.type.kind),.d (.str x.type.name),.d (.sl (x.type.elem.map dR)),.d (.sl (ij x.names)),.d (.sl (x.kids.map fO))]]) T
 unfold sn at h ⊢
 refine aal.go 100 rfl fun _=>?_
 simp only [W,seval,WR,hn]
 refine ag (h) ?_
 rintro _ _ ⟨rfl,rfl⟩
 refine af.go 100 ?_
 simp only [W,seval,WR,hn]
 refine af.ret Tryz.func183 rfl (Left.box ?_)
 (try clear ih)
 (try simp only [jw] at *)
 simp only [jv,seval,aB]<;>simp [*]
 skip
def oX (s:aH):List V:=[.d (.int .i64 s.kind),.d (.sl (ij s.names)),.d (.int .i64 s.type.kind),.d (.str s.type.name),.d (.sl (s.type.elem.map dR)),.d (.sl (s.aG.map fO)),.d (.sl (s.exprs.map fO)),.d (.sl (s.body.map dZ)),.d (.sl (s.dh.map dZ)),.d (.sl (s.cases.map lK))]
def iw:List aj→Bool | [x]=>jg x | _=>false
def Bk:List aj→Bool | [x]=>decide (x.kind=7) | _=>false
def nameOf:List (List UInt8)→Bool | [x]=>ak x | _=>false
def sizedB (k:Int) (ns:List (List UInt8)) (ls es:List aj) (b3 b4 b5 b6 b7 b8:Bool):Bool :=
 if k=1 then decide (es.length=0) && nameOf ns && !b5 && !b6 && !b7 && !b8
 else if k=2 then decide (0 < ls.length) && (decide (es.length=ls.length) || Bk es) && ls.all dU && (!b3 && !b4) && !b6 && !b7 && !b8
 else if k=3 then (!b3 && !b4) && !b5 && iw es && !b8
 else if k=4 then (!b3 && !b4) && !b5 && iw es && !b7 && !b8
 else if k=5 then (!b3 && !b4) && !b5 && iw es && !b6
 else if k=6 then (!b3 && !b4) && !b5 && decide (0 < es.length) && !b6 && !b7 && !b8
 else false
theorem JZ (s:aH):fW s=sizedB s.kind s.names s.aG s.exprs (decide ((0:Int) < (s.names.length:Int))) (!dB s.type) (decide ((0:Int) < (s.aG.length:Int))) (decide ((0:Int) < (s.body.length:Int))) (decide ((0:Int) < (s.dh.length:Int))) (decide ((0:Int) < (s.cases.length:Int))):=by
 have e (n:Nat):(!decide ((0:Int) < (n:Int)))=decide (n=0):=by
  rw [Bool.eq_iff_iff,Bool.not_eq_true',decide_eq_false_iff_not,decide_eq_true_iff];omega
 have e2 {α:Type} (l:List α) (q:Decidable (l=[])):decide (l.length=0) = @decide (l=[]) q:=decide_eq_decide.2 List.length_eq_zero_iff
 unfold fW sizedB
 simp only [e,Bool.not_not]
 rw [e2 s.names,e2 s.aG]
 rfl
def lY (k:Int) (es:List aj) (b3 b4 b5 b6 b7 b8 b9:Bool):Bool :=
 (if k=3∨k=4∨k=5 then b9 && iw es else b9) && !b3 && !b4 && !b5 && !b6 && !b7 && !b8
set_option maxHeartbeats 4000000 in
theorem MU (s:aH) (B:List (List V)) (T:List (Nat × Nat)):aF Tryz.prog av 163 [Bd s] ⟨B,T⟩ (aB (.d (.bool (fW s))) ⟨B,T⟩):=by
 obtain ⟨N,hn⟩:∃ N,B.length=N:=⟨_,rfl⟩
 have hs:=JZ s
 unfold Bd
 refine aam.go 100 rfl fun bk=>?_
 simp only [dP] at bk
 simp only [W,seval,j8,hn]
 obtain ⟨-,-,-,U7,-⟩:=bk
 refine af.draw (by kernel_rfl) (by kernel_rfl) (pV 60 _ _ ?_)
 simp only [W,seval,j8,hn]
 refine ⟨_,p9 s.type _ _,?_⟩
 simp only [W,seval,j8,hn]
 generalize decide ((0:Int) < (s.names.length:Int))=b3 at hs ⊢
 generalize (!dB s.type)=b4 at hs ⊢
 generalize wD:decide ((0:Int) < (s.aG.length:Int))=b5 at hs ⊢
 generalize decide ((0:Int) < (s.body.length:Int))=b6 at hs ⊢
 generalize decide ((0:Int) < (s.dh.length:Int))=b7 at hs ⊢
 generalize decide ((0:Int) < (s.cases.length:Int))=b8 at hs ⊢
 generalize fW s=res at hs ⊢
 refine af.go 9 ?_
 simp only [W,seval,j8,hn]
 refine af.join (fun c:Bool × Bool × Bool × Bool × Bool × Bool × Bool=>(aR 149 [(1,.ptr N 0),(3,.d (.bool c.1)),(4,.d (.bool c.2.1)),(5,.d (.bool c.2.2.1)),(6,.d (.bool c.2.2.2.1)),(7,.d (.bool c.2.2.2.2.1)),(8,.d (.bool c.2.2.2.2.2.1)),(9,.d (.bool c.2.2.2.2.2.2))],⟨B++[oX s],T⟩)) (fun c=>(s.kind=3∨s.kind=4∨s.kind=5→c.2.2.2.2.2.2=decide (s.exprs.length=1))∧lY s.kind s.exprs c.1 c.2.1 c.2.2.1 c.2.2.2.1 c.2.2.2.2.1 c.2.2.2.2.2.1 c.2.2.2.2.2.2=res) ?_ ?_
 ·rintro ⟨c3,c4,c5,c6,c7,c8,c9⟩ ⟨hc,hr⟩
  dsimp only [oX] at hc hr ⊢
  rw [← hr]
  clear hs hr
  have wg:(s.kind=3∨s.kind=4∨s.kind=5)→(∃ x,s.exprs[0]? = some x∧c9=true∧iw s.exprs=jg x)∨c9=false:=by
   intro h
   rw [hc h]
   rcases s.exprs with _ | ⟨x,_ | ⟨y,l⟩⟩
   ·exact .inr rfl
   ·exact .inl ⟨x,rfl,rfl,rfl⟩
   ·exact .inr (decide_eq_false (by simp))
  clear hc
  by_cases DD:s.kind=3∨s.kind=4∨s.kind=5
  ·have hl:lY s.kind s.exprs c3 c4 c5 c6 c7 c8 c9=((c9 && iw s.exprs) && !c3 && !c4 && !c5 && !c6 && !c7 && !c8):=by rw [lY,if_pos DD]
   rw [hl]
   rcases wg DD with ⟨x,hg,rfl,hh⟩ | rfl
   ·rw [hh]
    have hd:=Ia x
    rcases DD with k | k | k
    all_goals
     refine af.go 200 ?_
     simp only [W,seval,j8,hn,k]
     simp only [W,seval,j8,hg,List.getElem?_map,cQ,k]
     refine ag (hd _ _) ?_
     rintro _ _ ⟨rfl,rfl⟩
     generalize jg x=q
     refine af.go 200 ?_
     simp only [W,seval,j8,hn,k]
     repeat' ((first | refine bu (fun h=>?_) (fun h=>?_) | refine aW (fun h=>?_) (fun h=>?_))<;>simp only [W,seval,j8,h,hn,k])
     all_goals
      refine af.ret Tryz.func163 rfl (Left.box ?_)
      (try clear ih)
      (try simp only [jw] at *)
      simp only [jv,seval,aB]<;>simp [*]
      skip
   ·rcases DD with k | k | k
    all_goals
     refine af.go 200 ?_
     simp only [W,seval,j8,hn,k]
     refine af.ret Tryz.func163 rfl (Left.box ?_)
     (try clear ih)
     (try simp only [jw] at *)
     simp only [jv,seval,aB]<;>simp [*]
     skip
  ·have hl:lY s.kind s.exprs c3 c4 c5 c6 c7 c8 c9=(c9 && !c3 && !c4 && !c5 && !c6 && !c7 && !c8):=by rw [lY,if_neg DD]
   rw [hl]
   have k3:decide (s.kind=3)=false:=decide_eq_false fun h=>DD (.inl h)
   have k4:decide (s.kind=4)=false:=decide_eq_false fun h=>DD (.inr (.inl h))
   have k5:decide (s.kind=5)=false:=decide_eq_false fun h=>DD (.inr (.inr h))
   refine af.go 200 ?_
   simp only [W,seval,j8,hn,k3,k4,k5]
   repeat' ((first | refine bu (fun h=>?_) (fun h=>?_) | refine aW (fun h=>?_) (fun h=>?_))<;>simp only [W,seval,j8,h,hn,k3,k4,k5])
   all_goals
    refine af.ret Tryz.func163 rfl (Left.box ?_)
    (try clear ih)
    (try simp only [jw] at *)
    simp only [jv,seval,aB]<;>simp [*]
    skip
 ·intro K' hK
  have P6:decide ((s.exprs.length:Int)=1)=decide (s.exprs.length=1):=decide_eq_decide.2 (by omega)
  have he6:decide ((0:Int) < (s.exprs.length:Int))=decide (0 < s.exprs.length):=decide_eq_decide.2 (by omega)
  have he0:decide ((s.exprs.length:Int)=0)=decide (s.exprs.length=0):=decide_eq_decide.2 (by omega)
  have hh:(decide (s.exprs.length=1) && iw s.exprs)=iw s.exprs:=by rcases s.exprs with _ | ⟨x,_ | ⟨y,l⟩⟩<;>simp [iw]
  by_cases k1:s.kind=1
  ·have hz:∀ v:Bool,lY s.kind s.exprs false false b5 b6 b7 b8 v=(v && !b5 && !b6 && !b7 && !b8):=fun v=>by simp [lY,k1]
   have hs:res=(decide (s.exprs.length=0) && nameOf s.names && !b5 && !b6 && !b7 && !b8):=by rw [hs,sizedB,if_pos k1]
   rcases hN:s.names with _ | ⟨x,_ | ⟨y,l⟩⟩
   all_goals
    have iK:∀ n:Nat,decide ((n:Int)+1+1=1)=false:=fun n=>decide_eq_false (by omega)
    rw [hN] at hs
    refine af.Je 400 ?_
    simp only [W,seval,j8,hn,k1,hN,he0,iK]
    repeat' ((first | refine bu (fun h=>?_) (fun h=>?_) | refine aW (fun h=>?_) (fun h=>?_))<;>simp only [W,seval,j8,h,hn,k1,hN,he0,iK])
    all_goals first
     | (refine hK (false,false,b5,b6,b7,b8,false) ⟨fun h=>absurd h (by omega),?_⟩ _ _ ?_ ?_
        ·rw [hz,hs]
         simp only [nameOf,h,Bool.and_false,Bool.false_and]
        ·skip
         refine ay.env _ ?_
         simp only [cD,seval]
         skip
        ·simp only [oX,k1,hN])
     | (skip
        refine ag (kX _ _) ?_
        rintro _ _ ⟨rfl,rfl⟩
        refine af.OB 200 ?_
        simp only [W,seval,j8,hn,k1,hN,he0,iK]
        refine hK (false,false,b5,b6,b7,b8,ak x) ⟨fun h=>absurd h (by omega),?_⟩ _ _ ?_ ?_
        ·rw [hz,hs]
         simp only [nameOf,h,Bool.true_and]
        ·skip
         refine ay.env _ ?_
         simp only [cD,seval]
         skip
        ·simp only [oX,k1,hN])
     | (refine hK (false,false,b5,b6,b7,b8,false) ⟨fun h=>absurd h (by omega),?_⟩ _ _ ?_ ?_
        ·fail
        ·skip
         refine ay.env _ ?_
         simp only [cD,seval]
         skip
        ·simp only [oX,k1,hN])
  by_cases k2:s.kind=2
  ·have hz:∀ v:Bool,lY s.kind s.exprs b3 b4 false b6 b7 b8 v=(v && !b3 && !b4 && !b6 && !b7 && !b8):=fun v=>by simp [lY,k2]
   have hs:res=(decide (0 < s.aG.length) && (decide (s.exprs.length=s.aG.length) || Bk s.exprs) && s.aG.all dU && (!b3 && !b4) && !b6 && !b7 && !b8):=by rw [hs,sizedB,if_neg k1,if_pos k2]
   have aao:decide (0 < s.aG.length)=b5:=wD ▸ decide_eq_decide.2 (by omega)
   obtain ⟨be,R6⟩:∃ b,decide ((s.exprs.length:Int)=(s.aG.length:Int))=b:=⟨_,rfl⟩
   have aap:decide (s.exprs.length=s.aG.length)=be:=R6 ▸ decide_eq_decide.2 (by omega)
   obtain ⟨YK,TC⟩:∃ b,Bk s.exprs=b:=⟨_,rfl⟩
   rw [aao,aap,TC] at hs
   have hw:∀ v:Bool,v=(b5 && (be || YK) && s.aG.all dU)→lY s.kind s.exprs b3 b4 false b6 b7 b8 v=res:=fun v hv=>by
    rw [hz,hs,hv]
    generalize s.aG.all dU=q
    cases b3<;>cases b4<;>cases b5<;>cases be<;>cases YK<;>cases q<;>cases b6<;>cases b7<;>cases b8<;>rfl
   clear hz hs
   have wg:(∃ x,s.exprs[0]? = some x∧decide ((s.exprs.length:Int)=1)=true∧decide (x.kind=7)=YK)∨(decide ((s.exprs.length:Int)=1)=false∧YK=false):=by
    rw [← TC]
    rcases s.exprs with _ | ⟨x,_ | ⟨y,l⟩⟩
    ·exact .inr ⟨by decide,rfl⟩
    ·exact .inl ⟨x,rfl,by simp,rfl⟩
    ·exact .inr ⟨decide_eq_false (by simp;omega),rfl⟩
   rcases wg with ⟨x,hg,WS,WT⟩ | ⟨WS,WT⟩
   ·refine af.Je 400 ?_
    simp only [W,seval,j8,hn,k2,wD,R6,hg,WS,WT,List.getElem?_map,cQ]
    repeat' ((first | refine bu (fun h=>?_) (fun h=>?_) | refine aW (fun h=>?_) (fun h=>?_))<;>simp only [W,seval,j8,h,hn,k2,wD,R6,hg,WS,WT,List.getElem?_map,cQ])
    all_goals first
     | (refine hK (b3,b4,false,b6,b7,b8,false) ⟨fun h=>absurd h (by omega),hw _ (by simp [*])⟩ _ _ ?_ ?_
        ·skip
         refine ay.env _ ?_
         simp only [cD,seval]
         skip
        ·simp only [oX,k2])
     | (refine ag (iT 183 [] [] (fun _:Unit=>_) (fun x s=>(!dU x,s)) (fun _ _=>⟨rfl,rfl⟩) s.aG U7 () (lX s.aG fun x hm=>zG x _ T)) ?_
        rintro _ _ ⟨rfl,rfl⟩
        rw [jy,Bh]
        refine af.OB 200 ?_
        simp only [W,seval,j8,hn,k2,Bool.not_not]
        refine hK (b3,b4,false,b6,b7,b8,s.aG.all dU) ⟨fun h=>absurd h (by omega),hw _ (by simp [*])⟩ _ _ ?_ ?_
        ·skip
         refine ay.env _ ?_
         simp only [cD,seval]
         skip
        ·simp only [oX,k2])
     | fail
   ·refine af.Je 400 ?_
    simp only [W,seval,j8,hn,k2,wD,R6,WS]
    repeat' ((first | refine bu (fun h=>?_) (fun h=>?_) | refine aW (fun h=>?_) (fun h=>?_))<;>simp only [W,seval,j8,h,hn,k2,wD,R6,WS])
    all_goals first
     | (refine hK (b3,b4,false,b6,b7,b8,false) ⟨fun h=>absurd h (by omega),hw _ (by simp [*])⟩ _ _ ?_ ?_
        ·skip
         refine ay.env _ ?_
         simp only [cD,seval]
         skip
        ·simp only [oX,k2])
     | (refine ag (iT 183 [] [] (fun _:Unit=>_) (fun x s=>(!dU x,s)) (fun _ _=>⟨rfl,rfl⟩) s.aG U7 () (lX s.aG fun x hm=>zG x _ T)) ?_
        rintro _ _ ⟨rfl,rfl⟩
        rw [jy,Bh]
        refine af.OB 200 ?_
        simp only [W,seval,j8,hn,k2,Bool.not_not]
        refine hK (b3,b4,false,b6,b7,b8,s.aG.all dU) ⟨fun h=>absurd h (by omega),hw _ (by simp [*])⟩ _ _ ?_ ?_
        ·skip
         refine ay.env _ ?_
         simp only [cD,seval]
         skip
        ·simp only [oX,k2])
     | fail
  by_cases k3:s.kind=3
  ·have hs:res=((!b3 && !b4) && !b5 && iw s.exprs && !b8):=by rw [hs,sizedB,if_neg k1,if_neg k2,if_pos k3]
   refine af.Je 400 ?_
   simp only [W,seval,j8,hn,k3,P6]
   refine hK (b3,b4,b5,false,false,b8,decide (s.exprs.length=1)) ⟨fun _=>rfl,?_⟩ _ _ ?_ ?_
   ·rw [hs,lY,if_pos (.inl k3),hh]
    generalize iw s.exprs=hd
    cases b3<;>cases b4<;>cases b5<;>cases b8<;>cases hd<;>rfl
   ·skip
    refine ay.env _ ?_
    simp only [cD,seval]
    skip
   ·simp only [oX,k3]
  by_cases k4:s.kind=4
  ·have hs:res=((!b3 && !b4) && !b5 && iw s.exprs && !b7 && !b8):=by rw [hs,sizedB,if_neg k1,if_neg k2,if_neg k3,if_pos k4]
   refine af.Je 400 ?_
   simp only [W,seval,j8,hn,k4,P6]
   refine hK (b3,b4,b5,false,b7,b8,decide (s.exprs.length=1)) ⟨fun _=>rfl,?_⟩ _ _ ?_ ?_
   ·rw [hs,lY,if_pos (.inr (.inl k4)),hh]
    generalize iw s.exprs=hd
    cases b3<;>cases b4<;>cases b5<;>cases b7<;>cases b8<;>cases hd<;>rfl
   ·skip
    refine ay.env _ ?_
    simp only [cD,seval]
    skip
   ·simp only [oX,k4]
  by_cases k5:s.kind=5
  ·have hs:res=((!b3 && !b4) && !b5 && iw s.exprs && !b6):=by rw [hs,sizedB,if_neg k1,if_neg k2,if_neg k3,if_neg k4,if_pos k5]
   refine af.Je 400 ?_
   simp only [W,seval,j8,hn,k5,P6]
   refine hK (b3,b4,b5,b6,false,false,decide (s.exprs.length=1)) ⟨fun _=>rfl,?_⟩ _ _ ?_ ?_
   ·rw [hs,lY,if_pos (.inr (.inr k5)),hh]
    generalize iw s.exprs=hd
    cases b3<;>cases b4<;>cases b5<;>cases b6<;>cases hd<;>rfl
   ·skip
    refine ay.env _ ?_
    simp only [cD,seval]
    skip
   ·simp only [oX,k5]
  by_cases k6:s.kind=6
  ·have hs:res=((!b3 && !b4) && !b5 && decide (0 < s.exprs.length) && !b6 && !b7 && !b8):=by rw [hs,sizedB,if_neg k1,if_neg k2,if_neg k3,if_neg k4,if_neg k5,if_pos k6]
   refine af.Je 400 ?_
   simp only [W,seval,j8,hn,k6,he6]
   refine hK (b3,b4,b5,b6,b7,b8,decide (0 < s.exprs.length)) ⟨fun h=>absurd h (by omega),?_⟩ _ _ ?_ ?_
   ·rw [hs,lY,if_neg (by omega)]
    generalize decide (0 < s.exprs.length)=hd
    cases b3<;>cases b4<;>cases b5<;>cases b6<;>cases b7<;>cases b8<;>cases hd<;>rfl
   ·skip
    refine ay.env _ ?_
    simp only [cD,seval]
    skip
   ·simp only [oX,k6]
  have hs:res=false:=by rw [hs,sizedB,if_neg k1,if_neg k2,if_neg k3,if_neg k4,if_neg k5,if_neg k6]
  have e1:=decide_eq_false k1
  have e2:=decide_eq_false k2
  have e3:=decide_eq_false k3
  have e4:=decide_eq_false k4
  have e5:=decide_eq_false k5
  have e6:=decide_eq_false k6
  refine af.Je 400 ?_
  simp only [W,seval,j8,hn,e1,e2,e3,e4,e5,e6]
  refine af.ret Tryz.func163 rfl (Left.box ?_)
  rw [hs]
  (try clear ih)
  (try simp only [jw] at *)
  simp only [jv,seval,aB]<;>simp [*]
  skip
set_option maxHeartbeats 1000000 in
theorem Ib (k:Int) (n:List UInt8) (es:List aA) (he:es.length ≠ 1) (c:Nat) (d p:Int) (B:List (List V)) (T:List (Nat × Nat)) (h:B[c]? = some [.d (.int .i64 p)]) (hp:0≤p∧p≤60000) :
 aF Tryz.prog av 94 [.ptr c 0,aY (.mk k n es),.d (.int .i64 d)] ⟨B,T⟩ (aB (.d (.bool (eK ak (.mk k n es) d p).1)) ⟨B.set c [.d (.int .i64 (eK ak (.mk k n es) d p).2)],T⟩):=by
 obtain ⟨N,hn⟩:∃ N,B.length=N:=⟨_,rfl⟩
 have hc:=(List.getElem?_eq_some_iff.1 h).1
 have hi:c < N:=by omega
 have zg:decide ((es.length:Int)=1)=false:=decide_eq_false (by omega)
 have hr:=JL ak k n d p es (.inr he)
 have cm:es ≠ []∨es=[]:=by by_cases h:es=[]<;>simp [h]
 simp only [aY,aA.kind,aA.name,aA.elem]
 refine aF.body Tryz.func94 rfl (by kernel_rfl) ?_
 refine af.go 200 ?_
 simp only [Tryz.f94,WO,seval,hn,hi]
 refine ag (lV c d p _ _ (by rw [ah hc];exact h) hp) ?_
 rintro _ _ ⟨rfl,rfl⟩
 refine af.go 200 ?_
 simp only [WO,seval,hn,hi,zg]
 cases hk:bA d p
 ·simp only [WO,seval,hn,hi,hk,Bool.not_false]
  refine af.ret Tryz.func94 rfl (Left.set (by rfl) ?_)
  have hS:eK ak (.mk k n es) d p=(false,p+1):=by unfold eK;rw [if_pos hk]
  rw [hS]
  exact ⟨rfl,rfl⟩
 ·have hS:=tL ak k n es d p (by rw [hk];decide)
  rw [hr] at hS
  rw [hS]
  simp only [WO,seval,hn,hi,hk,Bool.not_true,zg]
  repeat' ((first | refine bu (fun h=>?_) (fun h=>?_) | refine aW (fun h=>?_) (fun h=>?_))<;>simp only [WO,seval,h,hn,hi,zg])
  all_goals first
   | (refine af.ret Tryz.func94 rfl (Left.set (by rfl) ?_)
      (try clear ih)
      (try simp only [jw] at *)
      simp only [jv,seval,aB]<;>simp [*]
      skip)
   | (skip
      refine ag (kX n _) ?_
      rintro _ _ ⟨rfl,rfl⟩
      refine af.go 200 ?_
      simp only [WO,seval,hn,hi]
      repeat' ((first | refine bu (fun h=>?_) (fun h=>?_) | refine aW (fun h=>?_) (fun h=>?_))<;>simp only [WO,seval,h,hn,hi])
      all_goals
       refine af.ret Tryz.func94 rfl (Left.set (by rfl) ?_)
       (try clear ih)
       (try simp only [jw] at *)
       simp only [jv,seval,aB]<;>simp [*]
       skip)
set_option maxHeartbeats 2000000 in
theorem wU:∀ (t:aA) (c:Nat) (d p:Int) (B:List (List V)) (T:List (Nat × Nat)),B[c]? = some [.d (.int .i64 p)]→0≤p∧p≤60000→0≤d∧d≤61 →
 aF Tryz.prog av 94 [.ptr c 0,aY t,.d (.int .i64 d)] ⟨B,T⟩ (aB (.d (.bool (eK ak t d p).1)) ⟨B.set c [.d (.int .i64 (eK ak t d p).2)],T⟩)
 | .mk k n [],c,d,p,B,T,h,hp,hd=>Ib k n [] (by simp) c d p B T h hp
 | .mk k n (e :: e2 :: es),c,d,p,B,T,h,hp,hd=>Ib k n _ (by simp) c d p B T h hp
 | .mk k n [e],c,d,p,B,T,h,hp,hd=>by
  obtain ⟨N,hn⟩:∃ N,B.length=N:=⟨_,rfl⟩
  have hc:=(List.getElem?_eq_some_iff.1 h).1
  have hi:c < N:=by omega
  have hw:=az (d+1) (by omega)
  have ih:=wU e c (d+1) (p+1)
  simp only [aY,aA.kind,aA.name,aA.elem]
  refine aF.body Tryz.func94 rfl (by kernel_rfl) ?_
  refine af.go 200 ?_
  simp only [Tryz.f94,WO,seval,hn,hi,cB]
  refine ag (lV c d p _ _ (by rw [ah hc];exact h) hp) ?_
  rintro _ _ ⟨rfl,rfl⟩
  refine af.go 200 ?_
  simp only [WO,seval,hn,hi,hw,cB]
  cases hk:bA d p
  ·simp only [WO,seval,hn,hi,hk,Bool.not_false]
   refine af.ret Tryz.func94 rfl (Left.set (by rfl) ?_)
   have hS:eK ak (.mk k n [e]) d p=(false,p+1):=by unfold eK;rw [if_pos hk]
   rw [hS]
   exact ⟨rfl,rfl⟩
  ·have hS:=tL ak k n [e] d p (by rw [hk];decide)
   have J0:p+1≤60000∧d≤60:=by
    unfold bA at hk
    rw [Bool.and_eq_true,decide_eq_true_iff,decide_eq_true_iff] at hk
    exact hk
   simp only [mm] at hS
   rw [hS]
   simp only [WO,seval,hn,hi,hk,Bool.not_true,hw,cB]
   repeat' ((first | refine bu (fun h=>?_) (fun h=>?_) | refine aW (fun h=>?_) (fun h=>?_))<;>simp only [WO,seval,h,hn,hi,hw,cB])
   all_goals first
    | (refine af.ret Tryz.func94 rfl (Left.set (by rfl) ?_)
       (try clear ih)
       (try simp only [jw] at *)
       simp only [jv,seval,aB]<;>simp [*]
       skip)
    | (skip
       refine ag (kX n _) ?_
       rintro _ _ ⟨rfl,rfl⟩
       refine af.go 200 ?_
       simp only [WO,seval,hn,hi]
       repeat' ((first | refine bu (fun h=>?_) (fun h=>?_) | refine aW (fun h=>?_) (fun h=>?_))<;>simp only [WO,seval,h,hn,hi])
       all_goals
        refine af.ret Tryz.func94 rfl (Left.set (by rfl) ?_)
        (try clear ih)
        (try simp only [jw] at *)
        simp only [jv,seval,aB]<;>simp [*]
        skip)
    | (skip
       refine ag (ih _ T ?_ (by omega) (by omega)) ?_
       ·rw [ah (by simp;omega)];exact bG hc
       rintro _ _ ⟨rfl,rfl⟩
       refine af.go 200 ?_
       simp only [WO,seval,hn,hi]
       repeat' ((first | refine bu (fun h=>?_) (fun h=>?_) | refine aW (fun h=>?_) (fun h=>?_))<;>simp only [WO,seval,h,hn,hi])
       all_goals
        refine af.ret Tryz.func94 rfl (Left.set (by rfl) ?_)
        (try clear ih)
        (try simp only [jw] at *)
        simp only [jv,seval,aB]<;>simp [*]
        skip)
set_option maxHeartbeats 4000000 in
theorem P7 (x:aj) (c:Nat) (d p:Int) (B:List (List V)) (T:List (Nat × Nat)) (hB:B[c]? = some [.d (.int .i64 p)]) (hp:0≤p∧p≤60000) (hd:0≤d∧d≤60) :
 aF Tryz.prog av 202 [.ptr c 0,sn x,.d (.int .i64 d)] ⟨B,T⟩ (aB (.d (.bool (dw x d p).1)) ⟨B.set c [.d (.int .i64 (dw x d p).2)],T⟩):=by
 obtain ⟨N,hn⟩:∃ N,B.length=N:=⟨_,rfl⟩
 have hc:=(List.getElem?_eq_some_iff.1 hB).1
 have hi:c < N:=by omega
 have hw:=az (d+1) (by omega)
 cases x with
 | mk k t i ty ns ks =>
 simp only [sn,aj.kind,aj.text,aj.int,aj.type,aj.names,aj.kids]
 refine aF.Hh Tryz.func202 rfl (by kernel_rfl) fun bk=>?_
 simp only [CI,sm,sn,Bd,aY,H7,Cd,yL,yM,ju,Bool.and_eq_true,decide_eq_true_eq,and_true,true_and,List.length_map,fL] at bk
 refine af.go 200 ?_
 simp only [Tryz.f202,WO,seval,hn,hi]
 obtain ⟨bn,Gg⟩:∃ b,∀ q:Decidable (0 < ns.length),@decide (0 < ns.length) q=b:=⟨decide (0 < ns.length),fun _=>decide_eq_decide.2 Iff.rfl⟩
 have hz:decide ((0:Int) < (ns.length:Int))=bn:=(decide_eq_decide.2 (by omega)).trans (Gg inferInstance)
 obtain ⟨-,-,-,hs4,-⟩:=bk
 obtain ⟨bl,U8⟩:∃ b,∀ q:Decidable (ns.length=ks.length),@decide (ns.length=ks.length) q=b:=⟨decide (ns.length=ks.length),fun _=>decide_eq_decide.2 Iff.rfl⟩
 have YL:decide ((ns.length:Int)=(ks.length:Int))=bl:=(decide_eq_decide.2 (by omega)).trans (U8 inferInstance)
 refine af.draw (by kernel_rfl) (by kernel_rfl) (pV 60 _ _ ?_)
 simp only [WO,seval,hn,hi,hz]
 refine ⟨_,p9 ty _ _,?_⟩
 simp only [WO,seval,hn,hi,hz]
 have u9:B.set c [.d (.int .i64 p)]=B:=by
  obtain ⟨_,h⟩:=List.getElem?_eq_some_iff.1 hB
  rw [← h,List.set_getElem_self]
 refine af.go 400 ?_
 simp only [WO,seval,hn,hi,hw,hz]
 repeat' ((first | refine bu (fun h=>?_) (fun h=>?_) | refine aW (fun h=>?_) (fun h=>?_))<;>simp only [WO,seval,h,hn,hi,hw])
 all_goals first
  | (skip
     refine ag (kX _ _) ?_
     rintro _ _ ⟨rfl,rfl⟩
     refine af.go 200 ?_
     simp only [WO,seval,hn,hi]
     repeat' ((first | refine bu (fun h=>?_) (fun h=>?_) | refine aW (fun h=>?_) (fun h=>?_))<;>simp only [WO,seval,h,hn,hi])
     all_goals
      refine af.ret Tryz.func202 rfl (Left.box ?_)
      simp only [dw,jf,aj.kind,aj.text,aj.int,aj.type,aj.names,aj.kids,Gg]
      (try clear ih)
      (try simp only [jw] at *)
      simp only [jv,seval,aB]<;>simp [*]
      (try exact (Gg _).symm)
      skip)
  | (skip
     refine ag (P5 _ _ _) ?_
     rintro _ _ ⟨rfl,rfl⟩
     refine af.go 200 ?_
     simp only [WO,seval,hn,hi]
     repeat' ((first | refine bu (fun h=>?_) (fun h=>?_) | refine aW (fun h=>?_) (fun h=>?_))<;>simp only [WO,seval,h,hn,hi])
     all_goals
      refine af.ret Tryz.func202 rfl (Left.box ?_)
      simp only [dw,jf,aj.kind,aj.text,aj.int,aj.type,aj.names,aj.kids,Gg]
      (try clear ih)
      (try simp only [jw] at *)
      simp only [jv,seval,aB]<;>simp [*]
      (try exact (Gg _).symm)
      skip)
  | (skip
     refine af.draw (by kernel_rfl) (by kernel_rfl) (pV 60 _ _ ?_)
     simp only [WO,seval,hn,hi]
     refine af.go 200 ?_
     simp only [WO,seval,hn,hi]
     repeat' ((first | refine bu (fun h=>?_) (fun h=>?_) | refine aW (fun h=>?_) (fun h=>?_))<;>simp only [WO,seval,h,hn,hi])
     all_goals
      refine af.ret Tryz.func202 rfl (Left.box ?_)
      simp only [dw,jf,aj.kind,aj.text,aj.int,aj.type,aj.names,aj.kids,Gg]
      (try clear ih)
      (try simp only [jw] at *)
      simp only [jv,seval,aB]<;>simp [*]
      (try exact (Gg _).symm)
      skip)
  | (refine af.ret Tryz.func202 rfl (Left.box ?_)
     simp only [dw,jf,aj.kind,aj.text,aj.int,aj.type,aj.names,aj.kids,Gg]
     (try clear ih)
     (try simp only [jw] at *)
     simp only [jv,seval,aB]<;>simp [*]
     (try exact (Gg _).symm)
     skip)
  | (refine ag (wU ty c (d+1) p _ T (by rw [ah (by omega)];exact hB) hp (by omega)) ?_
     rintro _ _ ⟨rfl,rfl⟩
     obtain ⟨⟨b,q⟩,fD⟩:∃ r,eK ak ty (d+1) p=r:=⟨_,rfl⟩
     simp only [WO,seval,fD]
     refine af.go 300 ?_
     simp only [WO,seval,hn,hi,YL]
     repeat' ((first | refine bu (fun h=>?_) (fun h=>?_) | refine aW (fun h=>?_) (fun h=>?_))<;>simp only [WO,seval,h,hn,hi,YL])
     all_goals first
      | (refine af.ret Tryz.func202 rfl (Left.set (by rfl) ?_)
         simp only [dw,jf,aj.kind,aj.text,aj.int,aj.type,aj.names,aj.kids,Gg,U8,fD]
         (try clear ih)
         (try simp only [jw] at *)
         simp only [jv,seval,aB]<;>simp [*]
         (try exact (Gg _).symm)
         (try (intro e;have e2:=(U8 _).symm.trans e;simp_all))
         skip)
      | (skip
         refine ag (sw ns hs4 _ _) ?_
         rintro _ _ ⟨rfl,rfl⟩
         refine af.go 300 ?_
         simp only [WO,seval,hn,hi,YL]
         repeat' ((first | refine bu (fun h=>?_) (fun h=>?_) | refine aW (fun h=>?_) (fun h=>?_))<;>simp only [WO,seval,h,hn,hi,YL])
         all_goals
          refine af.ret Tryz.func202 rfl (Left.set (by rfl) ?_)
          simp only [dw,jf,aj.kind,aj.text,aj.int,aj.type,aj.names,aj.kids,Gg,U8,fD]
          (try clear ih)
          (try simp only [jw] at *)
          simp only [jv,seval,aB]<;>simp [*]
          (try exact (Gg _).symm)
          (try exact (U8 _).trans (by assumption))
          (try (intro e;have e2:=(U8 _).symm.trans e;simp_all))
          skip))
def wV (x:aj):Prop:=∀ (c:Nat) (d p:Int) (B:List (List V)) (T:List (Nat × Nat)),B[c]? = some [.d (.int .i64 p)]→0≤p∧p≤60000→0≤d∧d≤61 →
 aF Tryz.prog av 186 [.ptr c 0,sn x,.d (.int .i64 d)] ⟨B,T⟩ (aB (.d (.bool (p8 x d p).1)) ⟨B.set c [.d (.int .i64 (p8 x d p).2)],T⟩)
set_option maxHeartbeats 2000000 in
theorem wW (l:List aj) (hx:∀ x∈l,wV x) (c:Nat) (d m p:Int) (B:List (List V)) (T:List (Nat × Nat)) (hB:B[c]? = some [.d (.int .i64 p)]) (hp:0≤p∧p≤60000) (hd:0≤d∧d≤61) :
 aF Tryz.prog av 165 [.ptr c 0,.d (.sl (l.map fO)),.d (.int .i64 d),.d (.int .i64 m)] ⟨B,T⟩ (aB (.d (.bool ((eR l d p).1 && decide ((l.length:Int)≤m)))) ⟨B.set c [.d (.int .i64 (eR l d p).2)],T⟩):=by
 obtain ⟨N,hn⟩:∃ N,B.length=N:=⟨_,rfl⟩
 have hc:=(List.getElem?_eq_some_iff.1 hB).1
 have hi:c < N:=by omega
 have u9:B.set c [.d (.int .i64 p)]=B:=by
  obtain ⟨_,h⟩:=List.getElem?_eq_some_iff.1 hB
  rw [← h,List.set_getElem_self]
 refine aF.Hh Tryz.func165 rfl (by kernel_rfl) fun bk=>?_
 simp only [CI,sm,sn,Bd,aY,H7,Cd,yL,yM,ju,Bool.and_eq_true,decide_eq_true_eq,and_true,true_and,List.length_map,fL] at bk
 refine af.go 100 ?_
 simp only [Tryz.f165,WO,seval,hn,hi]
 refine af.fits fun hf=>?_
 refine af.dc (fun a:Nat × Int=>(eT 30 [(0,.ptr c 0),(1,.d (.sl (l.map fO))),(2,.d (.int .i64 d)),(3,.d (.int .i64 m)),(8,.d (.bool false)),(9,.func 186 [.ptr c 0] []),(14,.d (.sl (l.map fO))),(15,.d (.int .i64 l.length)),(16,.d (.int .i64 a.1))],⟨B.set c [.d (.int .i64 a.2)],T⟩)) (fun a=>a.1≤l.length∧(0≤a.2∧a.2≤60000)∧eR l d p=eR (l.drop a.1) d a.2) (fun a=>l.length - a.1) (0,p) ⟨by omega,hp,rfl⟩ ?_ (by rw [u9]) ?_
 ·simp only [eT,List.replicate_succ,List.replicate_zero,List.foldl_cons,List.foldl_nil,List.set_cons_zero,List.set_cons_succ,gO,eq_self,or_true,true_or,and_self,Int.natCast_add,Int.natCast_one,Int.natCast_zero]
 rintro ⟨i,q⟩ ⟨h1,h2,h3⟩ ih
 dsimp only at h1 h2 h3 ih ⊢
 by_cases au:i < l.length
 ·have hw:=az ((i:Int)+1) (by omega)
  have hg:=List.getElem?_eq_getElem au
  rw [JN l i au] at h3
  have aC:decide ((i:Int) < (l.length:Int))=true:=decide_eq_true (by omega)
  refine af.go 100 ?_
  simp only [WO,seval,hn,hi,List.getElem?_map,hg,aC,cQ]
  refine aU (hx l[i] (List.getElem_mem au) c d q _ T (by rw [ah (by simp;omega)];exact bG hc) h2 hd) ?_
  rintro _ _ ⟨rfl,rfl⟩
  have zH:=Gf l[i] d q
  obtain ⟨⟨b,r⟩,he⟩:∃ r,p8 l[i] d q=r:=⟨_,rfl⟩
  rw [he] at h3 zH
  dsimp only at zH
  refine af.go 100 ?_
  simp only [WO,seval,hn,hi,he]
  cases b
  ·simp only [WO,seval,hn,hi]
   refine af.ret Tryz.func165 rfl (Left.set (by rfl) ?_)
   rw [h3,if_pos rfl]
   exact ⟨rfl,rfl⟩
  ·have zH:=zH rfl
   simp only [WO,seval,hn,hi,hw]
   refine ih (i+1,r) ⟨au,by dsimp only;omega,by rw [h3];rfl⟩ (by dsimp only;omega) _ _ _ _ rfl ⟨by simp;omega,Nat.le_refl _⟩ (hf.set rfl) ?_
   simp only [eT,List.replicate_succ,List.replicate_zero,List.foldl_cons,List.foldl_nil,List.set_cons_zero,List.set_cons_succ,qz,fit,jn,eq_self,or_true,true_or,and_self,true_and,and_true,Bool.and_true,Bool.true_and,Bool.and_self,decide_true,List.length_set,Int.natCast_add,Int.natCast_one,Int.natCast_zero,hn,hi]
 ·have aC:decide ((i:Int) < (l.length:Int))=false:=decide_eq_false (by omega)
  refine af.go 100 ?_
  simp only [WO,seval,aC]
  refine af.ret Tryz.func165 rfl (Left.yD rfl ?_)
  rw [List.drop_eq_nil_of_le (by omega),eR] at h3
  rw [h3]
  exact ⟨rfl,rfl⟩
theorem jz {d p:Int} (h:bA d p=true):p+1≤60000∧d≤60:=by
 unfold bA at h
 rw [Bool.and_eq_true,decide_eq_true_iff,decide_eq_true_iff] at h
 exact h
set_option maxHeartbeats 4000000 in
theorem J6 (k:Int) (t:List UInt8) (i:Int) (ty:aA) (ns:List (List UInt8)) (ks:List aj) (hx:∀ x∈ks,wV x):wV (.mk k t i ty ns ks):=by
 intro c d p B T hB hp hd
 obtain ⟨N,hn⟩:∃ N,B.length=N:=⟨_,rfl⟩
 have hc:=(List.getElem?_eq_some_iff.1 hB).1
 have hi:c < N:=by omega
 have hw:=az (d+1) (by omega)
 obtain ⟨mo,Lj⟩:∃ m,fm k=m:=⟨_,rfl⟩
 have hS:p8 (.mk k t i ty ns ks) d p=if bA d p=false then (false,p+1)
  else if nS k < (ks.length:Int)∨mo = -2∨(0≤mo∧(ks.length:Int) ≠ mo) then (false,p+1)
  else if (dw (.mk k t i ty ns ks) d (p+1)).1=false then (false,(dw (.mk k t i ty ns ks) d (p+1)).2)
  else eR ks (d+1) (dw (.mk k t i ty ns ks) d (p+1)).2:=by rw [p8,Lj]
 have wX:=lV c d p (B++[[.d (.int .i64 k),.d (.str t),.d (.int .u64 i),.d (.int .i64 ty.kind),.d (.str ty.name),.d (.sl (ty.elem.map dR)),.d (.sl (ij ns)),.d (.sl (ks.map fO))]]) T (by rw [ah hc];exact hB) hp
 have zI:=P7 (.mk k t i ty ns ks) c d (p+1)
 simp only [sn,aj.kind,aj.text,aj.int,aj.type,aj.names,aj.kids] at zI ⊢
 refine aF.body Tryz.func186 rfl (by kernel_rfl) ?_
 refine af.go 100 ?_
 simp only [Tryz.f186,WO,seval,hn,hi]
 refine ag (P3 k _ _) ?_
 rintro _ _ ⟨rfl,rfl⟩
 refine af.go 100 ?_
 simp only [WO,seval,hn,hi,Lj]
 refine aW (fun HU=>?_) (fun HU=>?_)
 all_goals
  have acC:nS k=if k=15 then 30000 else 40:=rfl
  simp only [WO,seval,HU,hn,hi,Lj]
  refine ag wX ?_
  rintro _ _ ⟨rfl,rfl⟩
  first
   | have hm:nS k=30000:=if_pos (of_decide_eq_true HU)
   | have hm:nS k=40:=if_neg (of_decide_eq_false HU)
  cases hk:bA d p
  ·rw [if_pos hk] at hS
   refine af.go 200 ?_
   simp only [WO,seval,hn,hi,Lj,hw,hk]
   refine af.ret Tryz.func186 rfl (Left.set (by rfl) ?_)
   rw [hS]
   exact ⟨rfl,rfl⟩
  ·rw [if_neg (by rw [hk];decide),hm] at hS
   have J0:=jz hk
   have zI:=zI (B.set c [.d (.int .i64 (p+1))]++[[.d (.int .i64 k),.d (.str t),.d (.int .u64 i),.d (.int .i64 ty.kind),.d (.str ty.name),.d (.sl (ty.elem.map dR)),.d (.sl (ij ns)),.d (.sl (ks.map fO))]]) T (by rw [ah (by simp;omega)];exact bG hc) ⟨by omega,by omega⟩ ⟨by omega,by omega⟩
   have Bl:=Dr (.mk k t i ty ns ks) d (p+1) J0.1
   obtain ⟨⟨bb,bq⟩,hb⟩:∃ r,dw (.mk k t i ty ns ks) d (p+1)=r:=⟨_,rfl⟩
   rw [hb] at zI hS Bl
   dsimp only at Bl
   refine af.go 200 ?_
   simp only [WO,seval,hn,hi,Lj,hw,hk]
   repeat' ((first | refine bu (fun h=>?_) (fun h=>?_) | refine aW (fun h=>?_) (fun h=>?_))<;>simp only [WO,seval,h,hn,hi,Lj,hw])
   all_goals first
    | (refine af.ret Tryz.func186 rfl (Left.set (by rfl) ?_)
       rw [hS]
       clear hS zI
       (try clear ih)
       (try simp only [jw] at *)
       simp only [jv,seval,aB]<;>simp [*]
       skip)
    | (rw [if_neg (by (simp only [decide_eq_true_eq,decide_eq_false_iff_not,Bool.not_eq_false',Bool.not_eq_true'] at *);omega)] at hS
       refine ag zI ?_
       rintro _ _ ⟨rfl,rfl⟩
       refine af.go 200 ?_
       simp only [WO,seval,hn,hi,Lj,hw]
       cases bb
       ·simp only [WO,seval,hn,hi,Lj,hw]
        refine af.ret Tryz.func186 rfl (Left.set (by rfl) ?_)
        rw [hS,if_pos rfl]
        exact ⟨rfl,rfl⟩
       ·have Bl:=Bl rfl
        simp only [WO,seval,hn,hi,Lj,hw]
        refine ag (wW ks hx c (d+1) _ bq _ T (by rw [ah (by simp;omega)];exact bG hc) (by omega) (by omega)) ?_
        rintro _ _ ⟨rfl,rfl⟩
        refine af.go 200 ?_
        simp only [WO,seval,hn,hi,Lj,hw]
        refine af.ret Tryz.func186 rfl (Left.set (by rfl) ?_)
        rw [hS,if_neg (by simp)]
        refine ⟨?_,rfl⟩
        have hlen:∀ m:Int,decide (m < (ks.length:Int))=false→decide ((ks.length:Int)≤m)=true:=fun m h=>decide_eq_true (by have:=of_decide_eq_false h;omega)
        have bg:=hlen _ (by assumption)
        show V.d (D.bool ((eR ks (d+1) bq).1 && decide _))=_
        rw [bg,Bool.and_true])
mutual
theorem Bm:∀ x:aj,wV x
 | .mk k t i ty ns ks=>J6 k t i ty ns ks (DE ks)
theorem DE:∀ (ks:List aj),∀ x∈ks,wV x
 | [],_,h=>absurd h List.not_mem_nil
 | y :: l,x,h=>by
  rcases List.mem_cons.1 h with e | e
  ·rw [e];exact Bm y
  ·exact DE l x e
end
def WU:=by
 have c:=aM Tryz.f131 (by conv=>lhs;cbv)
 dsimp only [KK,eN,eG,eH,List.map_cons,List.map_nil,List.toList_toArray] at c
 exact c
theorem aaq:bI Tryz.prog 131 Tryz.f131 10:=⟨Tryz.func131,by kernel_rfl⟩
def c95:=by
 have c:=aM Tryz.f95 (by conv=>lhs;cbv)
 dsimp only [KK,eN,eG,eH,List.map_cons,List.map_nil,List.toList_toArray] at c
 exact c
theorem b95:bI Tryz.prog 95 Tryz.f95 11:=⟨Tryz.func95,by kernel_rfl⟩
def aar:=by
 have c:=aM Tryz.f164 (by conv=>lhs;cbv)
 dsimp only [KK,eN,eG,eH,List.map_cons,List.map_nil,List.toList_toArray] at c
 exact c
theorem aas:bI Tryz.prog 164 Tryz.f164 9:=⟨Tryz.func164,by kernel_rfl⟩
def mA (n:Nat) (s:aH):Prop:=∀ (c:Nat) (d p:Int) (B:List (List V)) (T:List (Nat × Nat)),B[c]? = some [.d (.int .i64 p)]→0≤p∧p≤60000→0≤d∧d≤62 →
 aF Tryz.prog av 132 [.ptr c 0,Bd s,.d (.int .i64 d)] ⟨B,T⟩ (aB (.d (.bool (ia n s d p).1)) ⟨B.set c [.d (.int .i64 (ia n s d p).2)],T⟩)
set_option maxHeartbeats 1000000 in
theorem J7 (n:Nat) (x:aH) (h:mA n x) (a b c:Nat) (d p:Int) (B:List (List V)) (T:List (Nat × Nat)) (hB:B[c]? = some [.d (.int .i64 p)]) (ha:B[a]? = some [.ptr c 0]) (hb:B[b]? = some [.d (.int .i64 d)]) (hp:0≤p∧p≤60000) (hd:0≤d∧d≤62) :
 aF Tryz.prog av 131 [Bd x,.ptr a 0,.ptr b 0] ⟨B,T⟩ (aB (.d (.bool (!(ia n x d p).1))) ⟨B.set c [.d (.int .i64 (ia n x d p).2)],T⟩):=by
 obtain ⟨N,hn⟩:∃ N,B.length=N:=⟨_,rfl⟩
 have hc:=(List.getElem?_eq_some_iff.1 hB).1
 have hi:c < N:=by omega
 have we:a < N:=by have:=(List.getElem?_eq_some_iff.1 ha).1;omega
 have YM:b < N:=by have:=(List.getElem?_eq_some_iff.1 hb).1;omega
 have h:=h c d p (B++[oX x]) T (by rw [ah hc];exact hB) hp hd
 unfold Bd at h ⊢
 simp only [oX] at h
 refine aaq.go 100 rfl fun bk=>?_
 simp only [dP] at bk
 simp only [W,seval,WU,hn,hi,we,YM,ha,hb]
 refine ag (h) ?_
 rintro _ _ ⟨rfl,rfl⟩
 refine af.go 100 ?_
 simp only [W,seval,WU,hn,hi,we,YM,ha,hb]
 refine af.ret Tryz.func131 rfl (Left.set (by rfl) ?_)
 (try clear ih)
 (try simp only [jw] at *)
 simp only [jv,seval,aB]<;>simp [*]
 skip
theorem wY {α:Type} (g:α→Int→Bool × Int):∀ (l:List α) (p:Int),mz (fun x q=>(!(g x q).1,(g x q).2)) l p=(!(cq g l p).1,(cq g l p).2)
 | [],p=>rfl
 | x :: l,p=>by
  rw [mz]
  show _=(!(aP (g x) (cq g l) p).1,(aP (g x) (cq g l) p).2)
  unfold aP
  cases h:(g x p).1
  ·simp
  ·simp [wY g l]
theorem Ic (n:Nat) (a b c:Nat) (d:Int) (B X:List (List V)) (T:List (Nat × Nat)) (hd:0≤d∧d≤62) (hc:c < B.length) (ha:∀ q:Int,(B.set c [.d (.int .i64 q)]++X)[a]? = some [.ptr c 0]) (hb:∀ q:Int,(B.set c [.d (.int .i64 q)]++X)[b]? = some [.d (.int .i64 d)]) :
 ∀ (l:List aH) (q:Int),(∀ x∈l,mA n x)→0≤q∧q≤60000→Good Tryz.prog av 131 [] [.ptr a 0,.ptr b 0] Bd (fun q:Int=>⟨B.set c [.d (.int .i64 q)]++X,T⟩) (fun x q=>(!(ia n x d q).1,(ia n x d q).2)) l q
 | [],_,_,_=>trivial
 | x :: l,q,hl,hq=>by
  have hx:=hl x List.mem_cons_self
  have oU:c < (B.set c [.d (.int .i64 q)]).length:=by simpa using hc
  refine ⟨?_,fun h=>?_⟩
  ·have:=J7 n x hx a b c d q (B.set c [.d (.int .i64 q)]++X) T (by rw [ah oU];exact bG hc) (ha q) (hb q) hq hd
   rw [fI oU,List.set_set] at this
   exact this
  ·have h:(ia n x d q).1=true:=by simpa using h
   have h1:=(aK.st n x d).up q h
   have h2:=bL.st n x d q hq.2 h
   exact Ic n a b c d B X T hd hc ha hb l _ (fun y hy=>hl y (List.mem_cons_of_mem _ hy)) ⟨Int.le_trans hq.1 h1,h2⟩
set_option maxHeartbeats 1000000 in
theorem sx (n:Nat) (l:List aH) (hl:∀ x∈l,mA n x) (c:Nat) (d p:Int) (B:List (List V)) (T:List (Nat × Nat)) (hB:B[c]? = some [.d (.int .i64 p)]) (hp:0≤p∧p≤60000) (hd:0≤d∧d≤62) :
 aF Tryz.prog av 95 [.ptr c 0,.d (.sl (l.map dZ)),.d (.int .i64 d)] ⟨B,T⟩ (aB (.d (.bool (cq (fun s=>ia n s d) l p).1)) ⟨B.set c [.d (.int .i64 (cq (fun s=>ia n s d) l p).2)],T⟩):=by
 obtain ⟨N,hn⟩:∃ N,B.length=N:=⟨_,rfl⟩
 have hc:=(List.getElem?_eq_some_iff.1 hB).1
 have hi:c < N:=by omega
 have u9:B.set c [.d (.int .i64 p)]=B:=by
  obtain ⟨_,h⟩:=List.getElem?_eq_some_iff.1 hB
  rw [← h,List.set_getElem_self]
 refine b95.go 100 rfl fun bk=>?_
 simp only [dP] at bk
 simp only [W,seval,c95,hn,hi]
 have hg:=Ic n N (N+1) c d B [[.ptr c 0],[.d (.int .i64 d)]] T hd hc (fun q=>by rw [cL (by simpa using hn)];rfl) (fun q=>by rw [dF (by simpa using hn)];rfl) l p hl hp
 have Ce:=sq 131 [] [.ptr N 0,.ptr (N+1) 0] (fun q:Int=>⟨B.set c [.d (.int .i64 q)]++[[.ptr c 0],[.d (.int .i64 d)]],T⟩) (fun x q=>(!(ia n x d q).1,(ia n x d q).2)) (fun _ _=>⟨by simp,rfl⟩) l (by first | exact bk | exact bk.1) p hg
 rw [wY (fun x=>ia n x d),u9] at Ce
 refine ag Ce ?_
 rintro _ _ ⟨rfl,rfl⟩
 refine af.go 100 ?_
 simp only [W,seval,c95,hn,hi,Bool.not_not]
 refine af.ret Tryz.func95 rfl (Left.set (by rfl) ?_)
 (try clear ih)
 (try simp only [jw] at *)
 simp only [jv,seval,aB]<;>simp [*]
 skip
set_option maxHeartbeats 1000000 in
theorem MV (x y:cJ) (b:Nat) (bv:V) (B:List (List V)) (T:List (Nat × Nat)) (hb:B[b]? = some [.d (.int .u64 x.int),bv]) :
 aF Tryz.prog av 164 [H7 y,.ptr b 0] ⟨B,T⟩ (aB (.d (.bool (decide (y.int=x.int)))) ⟨B,T⟩):=by
 obtain ⟨N,hn⟩:∃ N,B.length=N:=⟨_,rfl⟩
 have YM:b < N:=by have:=(List.getElem?_eq_some_iff.1 hb).1;omega
 unfold H7
 refine aas.go 100 rfl fun bk=>?_
 simp only [dP] at bk
 simp only [W,seval,aar,hn,YM,hb]
 refine af.ret Tryz.func164 rfl (Left.box ?_)
 (try clear ih)
 (try simp only [jw] at *)
 simp only [jv,seval,aB]<;>simp [*]
 skip
theorem zJ (x:cJ):∀ l:List cJ,l.any (fun y=>decide (y.int=x.int))=(l.map cJ.int).contains x.int
 | []=>rfl
 | y :: l=>by
  rw [List.any_cons,zJ x l,List.map_cons,List.contains_cons]
  congr 1
  rw [Bool.eq_iff_iff,decide_eq_true_iff,beq_iff_eq]
  exact eq_comm
def fQ:=by
 have c:=aM Tryz.f132 (by conv=>lhs;cbv)
 dsimp only [KK,eN,eG,eH,List.map_cons,List.map_nil,List.toList_toArray] at c
 exact c
theorem aat:bI Tryz.prog 132 Tryz.f132 97:=⟨Tryz.func132,by kernel_rfl⟩
theorem ct {f g:Int→Bool × Int} {p:Int} (h:(f p).1=false):aP f g p=(false,(f p).2):=if_pos h
theorem aN {f g:Int→Bool × Int} {p:Int} (h:(f p).1=true):aP f g p=g (f p).2:=if_neg (by rw [h];simp)
theorem dj (f g k:Int→Bool × Int) (p:Int):aP (aP f g) k p=aP f (aP g k) p:=by
 cases h:(f p).1
 ·have e:aP f g p=(false,(f p).2):=ct h
  rw [ct h,ct (by rw [e]),e]
 ·have e:aP f g p=g (f p).2:=aN h
  rw [aN h]
  unfold aP at e ⊢
  rw [e]
def DF (n:Nat) (s:aH) (d:Int):Int→Bool × Int:=aP (ep s.aG (d+1)) (aP (ep s.exprs (d+1)) (aP (cq (fun x=>ia n x (d+1)) s.body) (cq (fun x=>ia n x (d+1)) s.dh)))
theorem Gl (n:Nat) (s:aH) (d p:Int):ia (n+1) s d p=aP (cr d) (aP (cA (fW s && decide (s.cases.length≤40))) (aP (if s.kind=1 then fun p=>eK ak s.type (d+1) p else cA true) (aP (ri (ia n) d [] s.cases) (DF n s d)))) p:=rfl
theorem zK (R:aH→Int→Int→Bool × Int) (d:Int) (seen:List Int) (k:cJ) (l:List cJ):ri R d seen (k :: l)=aP (cr (d+1)) (aP (cA (!seen.contains k.int)) (aP (cq (fun s=>R s (d+2)) k.body) (ri R d (seen++[k.int]) l))):=rfl
theorem TR {α:Type} (A:List α) (a b:α):A++[a,b]=(A++[a])++[b]:=by simp
theorem wZ (l:List aj) (d p:Int):ep l d p=((eR l d p).1 && decide ((l.length:Int)≤40),(eR l d p).2):=by
 have e:decide ((l.length:Int)≤40)=decide (l.length≤40):=decide_eq_decide.2 (by omega)
 rw [e]
 unfold ep
 cases h:(eR l d p).1
 ·rw [ct h,Bool.false_and]
 ·rw [aN h,Bool.true_and]
  rfl
set_option maxHeartbeats 8000000 in
theorem J8 (n:Nat) (s:aH) (Ie:∀ x∈s.body,mA n x) (hse:∀ x∈s.dh,mA n x) (hsc:∀ k∈s.cases,∀ x∈k.body,mA n x):mA (n+1) s:=by
 intro c d p B T hB hp hd
 obtain ⟨N,hn⟩:∃ N,B.length=N:=⟨_,rfl⟩
 have hc:=(List.getElem?_eq_some_iff.1 hB).1
 have hi:c < N:=by omega
 have dK:c < N+1:=by omega
 have dy:N < N+1:=by omega
 have yF:=az (d+1) (by omega)
 have U2:=az (d+2) (by omega)
 generalize bR:ia (n+1) s d p=res
 rw [Gl] at bR
 have wX:=lV c d p (B++[oX s]) T (by rw [ah hc];exact hB) hp
 have dJ:=fun q:Int=>MU s (B.set c [.d (.int .i64 q)]++[oX s]) T
 unfold Bd at dJ ⊢
 simp only [oX] at wX dJ
 refine aat.go 6 rfl fun bk=>?_
 simp only [dP] at bk
 simp only [W,seval,fQ,hn,hi]
 refine af.join (fun _:Unit=>(aR 97 [(0,.ptr c 0),(2,.d (.int .i64 d)),(4,.ptr N 0)],⟨B.set c [.d (.int .i64 (p+1))]++[oX s],T⟩)) (fun _=>bA d p=true∧fW s=true∧s.cases.length≤40) ?_ ?_
 rotate_left
 ·intro K' hK
  refine af.Je 200 ?_
  simp only [W,seval,fQ,hn,hi]
  refine ag wX ?_
  rintro _ _ ⟨rfl,rfl⟩
  refine af.OB 200 ?_
  simp only [W,seval,fQ,hn,hi]
  cases hk:bA d p
  ·rw [ct (show (cr d p).1=false from hk)] at bR
   simp only [W,seval,fQ,hk,hn,hi]
   refine af.ret Tryz.func132 rfl (Left.set (by rfl) ?_)
   rw [← bR]
   (try clear ih)
   (try simp only [jw] at *)
   simp only [jv,seval,aB]<;>simp [*]
   rfl
  ·have J0:=jz hk
   rw [aN (show (cr d p).1=true from hk)] at bR
   simp only [W,seval,fQ,hk,hn,hi]
   refine ag (dJ (p+1)) ?_
   rintro _ _ ⟨rfl,rfl⟩
   refine af.OB 200 ?_
   simp only [W,seval,fQ,hn,hi]
   cases hz:fW s
   ·rw [ct (by rw [hz];rfl)] at bR
    simp only [W,seval,fQ,hk,hn,hi]
    refine af.ret Tryz.func132 rfl (Left.set (by rfl) ?_)
    rw [← bR]
    (try clear ih)
    (try simp only [jw] at *)
    simp only [jv,seval,aB]<;>simp [*]
    rfl
   ·simp only [W,seval,fQ,hk,hn,hi]
    refine aW (fun h40=>?_) (fun h40=>?_)
    ·rw [ct (by rw [hz,decide_eq_false (by have:=of_decide_eq_true h40;omega)];rfl)] at bR
     simp only [W,seval,fQ,hk,hn,hi]
     refine af.ret Tryz.func132 rfl (Left.set (by rfl) ?_)
     rw [← bR]
     (try clear ih)
     (try simp only [jw] at *)
     simp only [jv,seval,aB]<;>simp [*]
     rfl
    ·simp only [W,seval,fQ,hk,hn,hi]
     refine hK () ⟨hk,hz,by have:=of_decide_eq_false h40;omega⟩ _ _ ?_ rfl
     refine ay.env _ ?_
     simp only [cD,seval,hn]
 ·rintro ⟨⟩ ⟨hk,hz,jY⟩
  have J0:=jz hk
  rw [aN (show (cr d p).1=true from hk),aN (by simp [cA,hz,jY])] at bR
  change aP _ _ (p+1)=res at bR
  clear wX dJ
  dsimp only [oX]
  refine af.go 1 ?_
  simp only [W,seval,fQ]
  refine af.join (fun q:Int=>(aR 97 [(0,.ptr c 0),(2,.d (.int .i64 d)),(4,.ptr N 0)],⟨B.set c [.d (.int .i64 q)]++[oX s],T⟩)) (fun q=>(0≤q∧q≤60000)∧aP (ri (ia n) d [] s.cases) (DF n s d) q=res) ?_ ?_
  rotate_left
  ·intro K' hK
   by_cases k1:s.kind=1
   ·rw [if_pos k1] at bR
    have e1:=decide_eq_true k1
    refine af.Je 200 ?_
    simp only [W,seval,fQ,hn,hi,yF,e1]
    refine ag (wU s.type c (d+1) (p+1) _ T (by rw [ah (by simp;omega)];exact bG hc) ⟨by omega,by omega⟩ ⟨by omega,by omega⟩) ?_
    rintro _ _ ⟨rfl,rfl⟩
    have zH:=q9 ak s.type (d+1) (p+1)
    obtain ⟨⟨b,q⟩,fD⟩:∃ r,eK ak s.type (d+1) (p+1)=r:=⟨_,rfl⟩
    rw [fD] at zH
    refine af.OB 200 ?_
    simp only [W,seval,fQ,hn,hi,fD]
    cases b
    ·rw [ct (by rw [fD]),fD] at bR
     simp only [W,seval,fQ,hn,hi]
     refine af.ret Tryz.func132 rfl (Left.set (by rfl) ?_)
     rw [← bR]
     (try clear ih)
     (try simp only [jw] at *)
     simp only [jv,seval,aB]<;>simp [*]
     skip
    ·rw [aN (by rw [fD]),fD] at bR
     have zH:=zH rfl
     simp only [W,seval,fQ,hn,hi]
     refine hK q ⟨⟨by omega,zH.2⟩,bR⟩ _ _ ?_ rfl
     refine ay.env _ ?_
     simp only [cD,seval,hn]
   ·rw [if_neg k1,aN rfl] at bR
    have e1:=decide_eq_false k1
    refine af.Je 200 ?_
    simp only [W,seval,fQ,hn,hi,yF,e1]
    refine hK (p+1) ⟨⟨by omega,J0.1⟩,bR⟩ _ _ ?_ rfl
    refine ay.env _ ?_
    simp only [cD,seval,hn]
  ·rintro q ⟨hq,MW⟩
   clear bR
   dsimp only [oX]
   refine af.go 20 ?_
   simp only [W,seval,fQ,hn,hi]
   refine af.fits fun hf=>?_
   have Cf:∀ q':Int,Fits ⟨B.set c [.d (.int .i64 q')]++[[.d (.int .i64 s.kind),.d (.sl (ij s.names)),.d (.int .i64 s.type.kind),.d (.str s.type.name),.d (.sl (s.type.elem.map dR)),.d (.sl (s.aG.map fO)),.d (.sl (s.exprs.map fO)),.d (.sl (s.body.map dZ)),.d (.sl (s.dh.map dZ)),.d (.sl (s.cases.map lK))]],T⟩:=fun q'=>by
    have:=hf.set (i:=c) (vs:=[.d (.int .i64 q')]) rfl
    rwa [fI (by simp;omega),List.set_set] at this
   refine af.small fun jd=>?_
   have Tn:(s.cases.length:Int)≤40:=by omega
   clear jd
   refine af.dc (fun a:Nat × Int=>(aR 97 [(0,.ptr c 0),(2,.d (.int .i64 d)),(4,.ptr N 0),(37,.d (.sl (s.cases.map lK))),(38,.d (.int .i64 s.cases.length)),(39,.d (.int .i64 a.1))],⟨B.set c [.d (.int .i64 a.2)]++[[.d (.int .i64 s.kind),.d (.sl (ij s.names)),.d (.int .i64 s.type.kind),.d (.str s.type.name),.d (.sl (s.type.elem.map dR)),.d (.sl (s.aG.map fO)),.d (.sl (s.exprs.map fO)),.d (.sl (s.body.map dZ)),.d (.sl (s.dh.map dZ)),.d (.sl (s.cases.map lK))]],T⟩)) (fun a=>a.1≤s.cases.length∧(0≤a.2∧a.2≤60000)∧aP (ri (ia n) d ((s.cases.take a.1).map cJ.int) (s.cases.drop a.1)) (DF n s d) a.2=res) (fun a=>s.cases.length - a.1) (0,q) ⟨by omega,hq,MW⟩ ?_ rfl ?_
   ·skip
    refine ay.env _ ?_
    simp only [cD,seval,hn]
   rintro ⟨i,r⟩ ⟨h1,h2,h3⟩ ih
   dsimp only at h1 h2 h3 ih ⊢
   by_cases au:i < s.cases.length
   ·have hw:=az ((i:Int)+1) (by omega)
    have hg:=List.getElem?_eq_getElem au
    have aC:decide ((i:Int) < (s.cases.length:Int))=true:=decide_eq_true (by omega)
    have hle:(i:Int)≤(s.cases.length:Int):=by omega
    have Bn:decide ((i:Int)≤(s.cases.length:Int))=true:=decide_eq_true hle
    rw [aX au,zK,dj] at h3
    obtain ⟨x,hx⟩:∃ x,s.cases[i]=x:=⟨_,rfl⟩
    rw [hx] at hg h3
    have hmt:(s.cases.map lK).take i=(s.cases.take i).map lK:=(List.map_take).symm
    have wX:=lV c (d+1) r
    refine af.go 200 ?_
    simp only [W,seval,fQ,hn,hi,yF,List.getElem?_map,hg,aC,iS]
    refine ag (wX _ T (by rw [ah (by simp;omega)];exact bG hc) h2) ?_
    rintro _ _ ⟨rfl,rfl⟩
    refine af.go 200 ?_
    simp only [W,seval,fQ,hn,hi,yF]
    cases U9:bA (d+1) r
    ·rw [ct (show (cr (d+1) r).1=false from U9)] at h3
     simp only [W,seval,fQ,hn,hi,U9]
     refine af.ret Tryz.func132 rfl (Left.set (by rfl) ?_)
     rw [← h3]
     (try clear ih)
     (try simp only [jw] at *)
     simp only [jv,seval,aB]<;>simp [*]
     rfl
    ·have WV:=jz U9
     rw [aN (show (cr (d+1) r).1=true from U9),dj] at h3
     change aP _ _ (r+1)=res at h3
     simp only [W,seval,fQ,hn,hi,U9,hle,Bn,hmt]
     have Ce:=fun S=>sr 164 [] [.ptr (N+1) 0] (fun _:Unit=>S) (fun y s=>(decide (y.int=x.int),s)) (fun _ _=>⟨rfl,rfl⟩) (s.cases.take i) (by simp;omega) ()
     refine ag (Ce _ (lX (s.cases.take i) fun y _=>MV x y (N+1) _ _ T (by rw [dF (by simpa using hn)];rfl))) ?_
     rintro _ _ ⟨rfl,rfl⟩
     rw [jy,zJ]
     refine af.go 200 ?_
     simp only [W,seval,fQ,hn,hi,U2]
     cases qw:((s.cases.take i).map cJ.int).contains x.int
     ·rw [aN (by rw [qw];rfl),dj] at h3
      change aP _ _ (r+1)=res at h3
      simp only [W,seval,fQ,hn,hi,qw,U2]
      refine ag (sx n x.body (hsc x (by rw [← hx];exact List.getElem_mem au)) c (d+2) (r+1) _ T (by rw [ah (by simp;omega)];exact bG hc) ⟨by omega,WV.1⟩ ⟨by omega,by omega⟩) ?_
      rintro _ _ ⟨rfl,rfl⟩
      have yj:=(aK.row (f:=fun s=>ia n s (d+2)) (c:=yh n) x.body fun y _=>aK.st n y (d+2)).up (r+1)
      have uB:=bL.row (f:=fun s=>ia n s (d+2)) (fun y=>bL.st n y (d+2)) x.body (r+1) WV.1
      obtain ⟨⟨b,q2⟩,aD⟩:∃ z,cq (fun s=>ia n s (d+2)) x.body (r+1)=z:=⟨_,rfl⟩
      rw [aD] at yj uB
      refine af.go 200 ?_
      simp only [W,seval,fQ,hn,hi,aD]
      cases b
      ·rw [ct (by rw [aD]),aD] at h3
       simp only [W,seval,fQ,hn,hi]
       refine af.ret Tryz.func132 rfl (Left.set (by rfl) ?_)
       rw [← h3]
       (try clear ih)
       (try simp only [jw] at *)
       simp only [jv,seval,aB]<;>simp [*]
       skip
      ·rw [aN (by rw [aD]),aD] at h3
       have yj:=yj rfl
       have uB:=uB rfl
       simp only [W,seval,fQ,hn,hi,hw]
       have zv:(s.cases.take (i+1)).map cJ.int=(s.cases.take i).map cJ.int++[x.int]:=by
        rw [List.take_succ_eq_append_getElem au,List.map_append,hx]
        rfl
       rw [TR]
       refine ih (i+1,q2) ⟨au,⟨by dsimp only;omega,uB⟩,?_⟩ (by dsimp only;omega) _ _ _ _ rfl ⟨by simp;omega,Nat.le_refl _⟩ (Cf q2) ?_
       ·dsimp only
        rw [zv]
        exact h3
       ·skip
        refine bw.env _ ?_
        simp only [nU,seval,hn,List.length_append,List.length_cons,List.length_nil,Nat.zero_add,dK,dy]
     ·rw [ct (by rw [qw];rfl)] at h3
      simp only [W,seval,fQ,hn,hi,qw]
      refine af.ret Tryz.func132 rfl (Left.set (by rfl) ?_)
      rw [← h3]
      (try clear ih)
      (try simp only [jw] at *)
      simp only [jv,seval,aB]<;>simp [*]
      rfl
   ·have aC:decide ((i:Int) < (s.cases.length:Int))=false:=decide_eq_false (by omega)
    rw [List.drop_eq_nil_of_le (by omega),aN rfl] at h3
    change DF n s d r=res at h3
    unfold DF at h3
    refine af.go 200 ?_
    simp only [W,seval,fQ,hn,hi,aC,yF]
    refine ag (wW s.aG (fun x _=>Bm x) c (d+1) 40 r _ T (by rw [ah (by simp;omega)];exact bG hc) h2 ⟨by omega,by omega⟩) ?_
    rintro _ _ ⟨rfl,rfl⟩
    have yj:=(aK.ep s.aG (d+1)).up r
    have uB:=bL.ep s.aG (d+1) r h2.2
    have he:=wZ s.aG (d+1) r
    obtain ⟨⟨b1,q1⟩,P8⟩:∃ z,ep s.aG (d+1) r=z:=⟨_,rfl⟩
    rw [P8] at yj uB he
    obtain ⟨P6,LR⟩:=Prod.mk.inj he
    rw [← P6,← LR]
    clear he P6 LR
    refine af.go 200 ?_
    simp only [W,seval,fQ,hn,hi,yF]
    cases b1
    ·rw [ct (by rw [P8]),P8] at h3
     simp only [W,seval,fQ,hn,hi,yF]
     refine af.ret Tryz.func132 rfl (Left.set (by rfl) ?_)
     rw [← h3]
     (try clear ih)
     (try simp only [jw] at *)
     simp only [jv,seval,aB]<;>simp [*]
     skip
    rw [aN (by rw [P8]),P8] at h3
    dsimp only at h3
    have aaw:=yj rfl
    have TS:=uB rfl
    dsimp only at aaw TS
    simp only [W,seval,fQ,hn,hi,yF]
    refine ag (wW s.exprs (fun x _=>Bm x) c (d+1) 40 q1 _ T (by rw [ah (by simp;omega)];exact bG hc) ⟨by omega,TS⟩ ⟨by omega,by omega⟩) ?_
    rintro _ _ ⟨rfl,rfl⟩
    have yj:=(aK.ep s.exprs (d+1)).up q1
    have uB:=bL.ep s.exprs (d+1) q1 TS
    have he:=wZ s.exprs (d+1) q1
    obtain ⟨⟨b2,q2⟩,E3⟩:∃ z,ep s.exprs (d+1) q1=z:=⟨_,rfl⟩
    rw [E3] at yj uB he
    obtain ⟨P6,LR⟩:=Prod.mk.inj he
    rw [← P6,← LR]
    clear he P6 LR
    refine af.go 200 ?_
    simp only [W,seval,fQ,hn,hi,yF]
    cases b2
    ·rw [ct (by rw [E3]),E3] at h3
     simp only [W,seval,fQ,hn,hi,yF]
     refine af.ret Tryz.func132 rfl (Left.set (by rfl) ?_)
     rw [← h3]
     (try clear ih)
     (try simp only [jw] at *)
     simp only [jv,seval,aB]<;>simp [*]
     skip
    rw [aN (by rw [E3]),E3] at h3
    dsimp only at h3
    have J9:=yj rfl
    have yN:=uB rfl
    dsimp only at J9 yN
    simp only [W,seval,fQ,hn,hi,yF]
    refine ag (sx n s.body Ie c (d+1) q2 _ T (by rw [ah (by simp;omega)];exact bG hc) ⟨by omega,yN⟩ ⟨by omega,by omega⟩) ?_
    rintro _ _ ⟨rfl,rfl⟩
    have yj:=(aK.row (f:=fun s=>ia n s (d+1)) (c:=yh n) s.body fun y _=>aK.st n y (d+1)).up q2
    have uB:=bL.row (f:=fun s=>ia n s (d+1)) (fun y=>bL.st n y (d+1)) s.body q2 yN
    obtain ⟨⟨b3,q3⟩,P9⟩:∃ z,cq (fun s=>ia n s (d+1)) s.body q2=z:=⟨_,rfl⟩
    rw [P9] at yj uB
    refine af.go 200 ?_
    simp only [W,seval,fQ,hn,hi,yF,P9]
    cases b3
    ·rw [ct (by rw [P9]),P9] at h3
     simp only [W,seval,fQ,hn,hi,yF]
     refine af.ret Tryz.func132 rfl (Left.set (by rfl) ?_)
     rw [← h3]
     (try clear ih)
     (try simp only [jw] at *)
     simp only [jv,seval,aB]<;>simp [*]
     skip
    rw [aN (by rw [P9]),P9] at h3
    dsimp only at h3
    have Ka:=yj rfl
    have DG:=uB rfl
    dsimp only at Ka DG
    simp only [W,seval,fQ,hn,hi,yF]
    refine ag (sx n s.dh hse c (d+1) q3 _ T (by rw [ah (by simp;omega)];exact bG hc) ⟨by omega,DG⟩ ⟨by omega,by omega⟩) ?_
    rintro _ _ ⟨rfl,rfl⟩
    rw [h3]
    refine af.go 200 ?_
    simp only [W,seval,fQ,hn,hi,yF]
    refine af.ret Tryz.func132 rfl (Left.set (by rfl) ?_)
    (try clear ih)
    (try simp only [jw] at *)
    simp only [jv,seval,aB]<;>simp [*]
    skip
def Dp:Nat→aH→Prop
 | 0,_=>False
 | n+1,s=>(∀ x∈s.body,Dp n x)∧(∀ x∈s.dh,Dp n x)∧∀ k∈s.cases,∀ x∈k.body,Dp n x
theorem sy:∀ (n:Nat) (s:aH),Dp n s→mA n s
 | 0,_,h=>h.elim
 | n+1,s,h=>J8 n s (fun x hx=>sy n x (h.1 x hx)) (fun x hx=>sy n x (h.2.1 x hx)) (fun k hk x hx=>sy n x (h.2.2 k hk x hx))
theorem Dp.sA:∀ (n:Nat) (s:aH),SizeOf.sizeOf s≤n→Dp n s
 | 0,s,h=>by
  cases s with
  | mk k ns ty ls es b e cs=>simp at h
 | n+1,s,h=>by
  cases s with
  | mk k ns ty ls es b e cs =>
   have h0:1+SizeOf.sizeOf b+SizeOf.sizeOf e+SizeOf.sizeOf cs≤n+1:=by
    simp only [aH.mk.sizeOf_spec] at h
    omega
   refine ⟨fun x hx=>Dp.sA n x ?_,fun x hx=>Dp.sA n x ?_,fun c hc x hx=>Dp.sA n x ?_⟩
   ·have:=List.sizeOf_lt_of_mem (show x∈b from hx)
    omega
   ·have:=List.sizeOf_lt_of_mem (show x∈e from hx)
    omega
   ·have h1:=List.sizeOf_lt_of_mem (show c∈cs from hc)
    have h2:=List.sizeOf_lt_of_mem hx
    have h3:SizeOf.sizeOf c.body≤SizeOf.sizeOf c:=by
     cases c with
     | mk i b=>simp only [cJ.body,cJ.mk.sizeOf_spec];omega
    omega
def Kb:=by
 have c:=aM Tryz.f92 (by conv=>lhs;cbv)
 dsimp only [KK,eN,eG,eH,List.map_cons,List.map_nil,List.toList_toArray] at c
 exact c
theorem b92:bI Tryz.prog 92 Tryz.f92 40:=⟨Tryz.func92,by kernel_rfl⟩
theorem bT:List.mapM mL []=some []:=rfl
theorem bC (x:D) (l:List V):List.mapM mL (.d x :: l)=(List.mapM mL l).map (x :: ·):=by
 rw [List.mapM_cons]
 show (some x).bind _=_
 rw [Option.bind_some]
 cases List.mapM mL l<;>rfl
theorem DH {c:Cx} {w:World} {rows:List (List D)} {tk:Tok} {v:Value} (h:VR c w (.sl rows tk) v):VR c w (.d (.sl rows)) v:=by
 cases h with
 | full _ a h ha=>exact .d _ _ h
 | own _ t a cap i h ht hr hn hl=>exact .d _ _ h
theorem MX {P:Program} {I:Inv} {f:FuncId} {rows:List (List D)} {tk:Tok} {S:Mem} {R:V→Mem→Prop} (h:aF P I f [.d (.sl rows)] S R):aF P I f [.sl rows tk] S R :=
 ⟨h.1,fun c w xs h1 h2 h3 hI=>h.2 c w xs h1 (fun j hj=>by
  have VB:j=0:=by simpa using hj
  subst VB
  exact DH (h2 0 (by simp))) h3 hI⟩
theorem Ig {B:List (List V)} {T K:List (Nat × Nat)} {R:V→Mem→Prop} {v:V} {i:Nat} {vs:List V} (hf:vs.all (fit B.length T.length)=true) (h:R (wk B.length T.length v) ⟨B.set i vs,T⟩):Ab.Left ⟨B,T⟩ R v ⟨B.set i vs,T++K⟩:=by
 have:=Left.tv (J:=[]) (K:=K) hf h
 rwa [List.append_nil] at this
theorem Qa (jR:Nat) (l:List bH) (p:Int):Ds jR l p=aP (cq (fun x:bH=>aP (cr 0) (fun p=>eK ak x.type 0 p)) l) (cA (decide (l.length≤jR) && gK l.length (l.map bH.name))) p:=rfl
set_option maxHeartbeats 4000000 in
theorem zL (jR:Nat) (_:jR≤1000) (l:List bH) (c:Nat) (p:Int) (B:List (List V)) (T:List (Nat × Nat)) (hB:B[c]? = some [.d (.int .i64 p)]) (hp:0≤p∧p≤60000) :
 aF Tryz.prog av 92 [.ptr c 0,.d (.sl (l.map gf)),.d (.int .i64 jR)] ⟨B,T⟩ (aB (.d (.bool (Ds jR l p).1)) ⟨B.set c [.d (.int .i64 (Ds jR l p).2)],T⟩):=by
 obtain ⟨N,hn⟩:∃ N,B.length=N:=⟨_,rfl⟩
 obtain ⟨M,hM⟩:∃ M,T.length=M:=⟨_,rfl⟩
 have hc:=(List.getElem?_eq_some_iff.1 hB).1
 have hi:c < N:=by omega
 have u9:B.set c [.d (.int .i64 p)]=B:=by
  obtain ⟨_,h⟩:=List.getElem?_eq_some_iff.1 hB
  rw [← h,List.set_getElem_self]
 generalize bR:Ds jR l p=res
 rw [Qa] at bR
 refine b92.go 14 rfl fun bk=>?_
 simp only [dP] at bk
 simp only [W,seval,Kb,hn,hi]
 refine af.fits fun hf=>?_
 refine af.token 7 [] (by rfl) 1 (by omega) rfl ?_
 simp only [rU,hM]
 refine af.go 20 ?_
 simp only [W,seval,Kb,hn,hi]
 refine af.dc (fun a:Nat × Int=>(aR 40 [(0,.ptr c 0),(1,.d (.sl (l.map gf))),(2,.d (.int .i64 jR)),(6,.d (.bool false)),(7,.sl (ij ((l.take a.1).map bH.name)) (.own M)),(10,.d (.sl (l.map gf))),(11,.d (.int .i64 l.length)),(12,.d (.int .i64 a.1))],⟨B.set c [.d (.int .i64 a.2)],T++[(a.1,1)]⟩)) (fun a=>a.1≤l.length∧((a.1:Int)≤a.2∧a.2≤60000)∧aP (cq (fun x:bH=>aP (cr 0) (fun p=>eK ak x.type 0 p)) (l.drop a.1)) (cA (decide (l.length≤jR) && gK l.length (l.map bH.name))) a.2=res) (fun a=>l.length - a.1) (0,p) ⟨by omega,hp,bR⟩ ?_ (by rw [u9]) ?_
 ·skip
  refine ay.env _ ?_
  simp only [cD,seval,hn]
  trivial
 rintro ⟨i,q⟩ ⟨h1,h2,h3⟩ ih
 dsimp only at h1 h2 h3 ih ⊢
 by_cases au:i < l.length
 ·have hw:=az ((i:Int)+1) (by omega)
  have aC:decide ((i:Int) < (l.length:Int))=true:=decide_eq_true (by omega)
  have hg:=List.getElem?_eq_getElem au
  have CS:min i l.length=i:=by omega
  have fF:(i+1) * 16≤140737488355328:=by omega
  have RG:ij ((l.take i).map bH.name)++[[.str l[i].name]]=ij ((l.take (i+1)).map bH.name):=by
   rw [List.take_succ_eq_append_getElem au,List.map_append]
   simp [ij]
  have hr1:∀ s:List UInt8,cy 1 [[D.str s]]=true:=fun _=>rfl
  have hM1:M < M+1:=by omega
  rw [aX au] at h3
  change aP (aP (aP (cr 0) (fun p=>eK ak l[i].type 0 p)) (cq _ (l.drop (i+1)))) _ q=res at h3
  rw [dj,dj] at h3
  refine af.go 100 ?_
  simp only [W,seval,Kb,hn,hi,hM,List.getElem?_map,hg,aC,gf,CS,List.length_take,fF,RG,bT,bC,Nat.reduceMul,hr1]
  refine ag (lV c 0 q _ _ (by rw [ah (by simp;omega)];exact bG hc) ⟨by omega,h2.2⟩) ?_
  rintro _ _ ⟨rfl,rfl⟩
  refine af.go 200 ?_
  simp only [W,seval,Kb,hn,hi,hM]
  cases hk:bA 0 q
  ·rw [ct (show (cr 0 q).1=false from hk)] at h3
   simp only [W,seval,Kb,hn,hi,hk]
   refine af.ret Tryz.func92 rfl (Left.tv rfl ?_)
   rw [← h3]
   (try clear ih)
   (try simp only [jw] at *)
   simp only [jv,seval,aB]<;>simp [*]
   rfl
  ·have J0:=jz hk
   rw [aN (show (cr 0 q).1=true from hk)] at h3
   change aP _ _ (q+1)=res at h3
   simp only [W,seval,Kb,hn,hi,hk]
   refine ag (wU l[i].type c 0 (q+1) _ _ (by rw [ah (by simp;omega)];exact bG hc) ⟨by omega,J0.1⟩ ⟨by omega,by omega⟩) ?_
   rintro _ _ ⟨rfl,rfl⟩
   have zH:=q9 ak l[i].type 0 (q+1)
   obtain ⟨⟨b,r⟩,fD⟩:∃ z,eK ak l[i].type 0 (q+1)=z:=⟨_,rfl⟩
   rw [fD] at zH
   refine af.go 200 ?_
   simp only [W,seval,Kb,hn,hi,hM,fD]
   cases b
   ·rw [ct (by rw [fD]),fD] at h3
    simp only [W,seval,Kb,hn,hi]
    refine af.ret Tryz.func92 rfl (Left.tv rfl ?_)
    rw [← h3]
    (try clear ih)
    (try simp only [jw] at *)
    simp only [jv,seval,aB]<;>simp [*]
    skip
   ·rw [aN (by rw [fD]),fD] at h3
    have zH:=zH rfl
    dsimp only at zH h3
    simp only [W,seval,Kb,hn,hi,hM,hw]
    refine ih (i+1,r) ⟨au,⟨by dsimp only;omega,zH.2⟩,h3⟩ (by dsimp only;omega) _ _ _ _ rfl ⟨by simp;omega,by simp;omega⟩ ?_ ?_
    ·have:=Fits.more (X:=[]) (Y:=[(i+1,1)]) (Fits.set hf (i:=c) (vs:=[.d (.int .i64 r)]) rfl) (fun vs hv=>absurd hv List.not_mem_nil)
     rwa [List.append_nil] at this
    ·skip
     refine bw.env _ ?_
     simp only [nU,seval,hn,hi,hM,List.length_append,List.length_cons,List.length_nil,Nat.zero_add,hM1]
 ·have aC:decide ((i:Int) < (l.length:Int))=false:=decide_eq_false (by omega)
  rw [List.drop_eq_nil_of_le (by omega),aN rfl] at h3
  have jZ:l.take i=l:=List.take_of_length_le (by omega)
  have Lj:decide ((l.length:Int)≤(jR:Int))=decide (l.length≤jR):=decide_eq_decide.2 (by omega)
  refine af.go 200 ?_
  simp only [W,seval,Kb,hn,hi,hM,aC,jZ,Lj]
  cases hle:decide (l.length≤jR)
  ·simp only [W,seval,Kb,hn,hi,hM]
   refine af.ret Tryz.func92 rfl (Ig rfl ?_)
   rw [← h3,hle]
   (try clear ih)
   (try simp only [jw] at *)
   simp only [jv,seval,aB]<;>simp [*]
   exact ⟨rfl,rfl⟩
  ·simp only [W,seval,Kb,hn,hi,hM]
   refine ag (MX (sw (l.map bH.name) (by simp;have:=of_decide_eq_true hle;omega) _ _)) ?_
   rintro _ _ ⟨rfl,rfl⟩
   refine af.go 200 ?_
   simp only [W,seval,Kb,hn,hi,hM]
   refine af.ret Tryz.func92 rfl (Ig rfl ?_)
   rw [← h3,hle]
   (try clear ih)
   (try simp only [jw] at *)
   simp only [jv,seval,aB]<;>simp [*]
   exact ⟨rfl,rfl⟩
def c93:=by
 have c:=aM Tryz.f93 (by conv=>lhs;cbv)
 dsimp only [KK,eN,eG,eH,List.map_cons,List.map_nil,List.toList_toArray] at c
 exact c
theorem b93:bI Tryz.prog 93 Tryz.f93 8:=⟨Tryz.func93,by kernel_rfl⟩
def qp:=by
 have c:=aM Tryz.f46 (by conv=>lhs;cbv)
 dsimp only [KK,eN,eG,eH,List.map_cons,List.map_nil,List.toList_toArray] at c
 exact c
theorem b46:bI Tryz.prog 46 Tryz.f46 80:=⟨Tryz.func46,by kernel_rfl⟩
def c16:=by
 have c:=aM Tryz.f16 (by conv=>lhs;cbv)
 dsimp only [KK,eN,eG,eH,List.map_cons,List.map_nil,List.toList_toArray] at c
 exact c
theorem b16:bI Tryz.prog 16 Tryz.f16 6:=⟨Tryz.func16,by kernel_rfl⟩
set_option maxHeartbeats 1000000 in
theorem MY (x:aA) (a c:Nat) (p:Int) (B:List (List V)) (T:List (Nat × Nat)) (hB:B[c]? = some [.d (.int .i64 p)]) (ha:B[a]? = some [.ptr c 0]) (hp:0≤p∧p≤60000) :
 aF Tryz.prog av 93 [aY x,.ptr a 0] ⟨B,T⟩ (aB (.d (.bool (!(eK ak x 0 p).1))) ⟨B.set c [.d (.int .i64 (eK ak x 0 p).2)],T⟩):=by
 obtain ⟨N,hn⟩:∃ N,B.length=N:=⟨_,rfl⟩
 have hc:=(List.getElem?_eq_some_iff.1 hB).1
 have hi:c < N:=by omega
 have we:a < N:=by have:=(List.getElem?_eq_some_iff.1 ha).1;omega
 have h:=wU x c 0 p (B++[[.d (.int .i64 x.kind),.d (.str x.name),.d (.sl (x.elem.map dR))]]) T (by rw [ah hc];exact hB) hp (by omega)
 unfold aY at h ⊢
 refine b93.go 100 rfl fun bk=>?_
 simp only [dP] at bk
 simp only [W,seval,c93,hn,hi,we,ha]
 refine ag (h) ?_
 rintro _ _ ⟨rfl,rfl⟩
 refine af.go 100 ?_
 simp only [W,seval,c93,hn,hi,we,ha]
 refine af.ret Tryz.func93 rfl (Left.set (by rfl) ?_)
 (try clear ih)
 (try simp only [jw] at *)
 simp only [jv,seval,aB]<;>simp [*]
 skip
theorem Ih (a c:Nat) (B X:List (List V)) (T:List (Nat × Nat)) (hc:c < B.length) (ha:∀ q:Int,(B.set c [.d (.int .i64 q)]++X)[a]? = some [.ptr c 0]) :
 ∀ (l:List aA) (q:Int),0≤q∧q≤60000→Good Tryz.prog av 93 [] [.ptr a 0] aY (fun q:Int=>⟨B.set c [.d (.int .i64 q)]++X,T⟩) (fun x q=>(!(eK ak x 0 q).1,(eK ak x 0 q).2)) l q
 | [],_,_=>trivial
 | x :: l,q,hq=>by
  have oU:c < (B.set c [.d (.int .i64 q)]).length:=by simpa using hc
  refine ⟨?_,fun h=>?_⟩
  ·have:=MY x a c q (B.set c [.d (.int .i64 q)]++X) T (by rw [ah oU];exact bG hc) (ha q) hq
   rw [fI oU,List.set_set] at this
   exact this
  ·have h:(eK ak x 0 q).1=true:=by simpa using h
   have h1:=q9 ak x 0 q h
   exact Ih a c B X T hc ha l _ ⟨Int.le_trans hq.1 (by dsimp only;omega),h1.2⟩
theorem WW {α:Type} (A:List α) (a b c:α):A++[a,b,c]=(A++[a,b])++[c]:=by simp
set_option maxHeartbeats 4000000 in
theorem Qb (n:Nat) (pr:kW) (jW:∀ f∈pr.funcs,∀ x∈f.body,mA n x) (c:Nat) (p:Int) (B:List (List V)) (T:List (Nat × Nat)) (hB:B[c]? = some [.d (.int .i64 p)]) (hp:0≤p∧p≤60000) :
 aF Tryz.prog av 46 [.ptr c 0,ju pr] ⟨B,T⟩ (aB (.d (.bool (nT n pr p).1)) ⟨B.set c [.d (.int .i64 (nT n pr p).2)],T⟩):=by
 obtain ⟨N,hn⟩:∃ N,B.length=N:=⟨_,rfl⟩
 have hc:=(List.getElem?_eq_some_iff.1 hB).1
 have hi:c < N:=by omega
 have dK:c < N+2:=by omega
 have dy:N < N+2:=by omega
 have dW:N+1 < N+2:=by omega
 have u9:B.set c [.d (.int .i64 p)]=B:=by
  obtain ⟨_,h⟩:=List.getElem?_eq_some_iff.1 hB
  rw [← h,List.set_getElem_self]
 generalize bR:nT n pr p=res
 change aP (cq Dt pr.structs) (cq (uZ n) pr.funcs) p=res at bR
 unfold ju
 refine b46.go 7 rfl fun bk=>?_
 simp only [dP] at bk
 simp only [W,seval,qp,hn,hi]
 refine af.join (fun q:Int=>(aR 80 [(2,.ptr N 0),(3,.ptr (N+1) 0),(4,.d (.bool false))],⟨B.set c [.d (.int .i64 q)]++[[.ptr c 0],[.d (.sl (pr.structs.map ef)),.d (.sl (pr.funcs.map cT))]],T⟩)) (fun q=>(0≤q∧q≤60000)∧cq (uZ n) pr.funcs q=res) ?_ ?_
 rotate_left
 ·intro K' hK
  refine af.Je 30 ?_
  simp only [W,seval,qp,hn,hi]
  refine af.fits fun hf=>?_
  have Cf:∀ q':Int,Fits ⟨B.set c [.d (.int .i64 q')]++[[.ptr c 0],[.d (.sl (pr.structs.map ef)),.d (.sl (pr.funcs.map cT))]],T⟩:=fun q'=>by
   have:=hf.set (i:=c) (vs:=[.d (.int .i64 q')]) rfl
   rwa [fI (by omega)] at this
  refine af.dc (fun a:Nat × Int=>(aR 80 [(2,.ptr N 0),(3,.ptr (N+1) 0),(4,.d (.bool false)),(10,.d (.sl (pr.structs.map ef))),(11,.d (.int .i64 pr.structs.length)),(12,.d (.int .i64 a.1))],⟨B.set c [.d (.int .i64 a.2)]++[[.ptr c 0],[.d (.sl (pr.structs.map ef)),.d (.sl (pr.funcs.map cT))]],T⟩)) (fun a=>a.1≤pr.structs.length∧(0≤a.2∧a.2≤60000)∧aP (cq Dt (pr.structs.drop a.1)) (cq (uZ n) pr.funcs) a.2=res) (fun a=>pr.structs.length - a.1) (0,p) ⟨by omega,hp,bR⟩ ?_ (by rw [u9]) ?_
  ·skip
   refine ay.env _ ?_
   simp only [cD,seval,hn]
  rintro ⟨i,q⟩ ⟨h1,h2,h3⟩ ih
  dsimp only at h1 h2 h3 ih ⊢
  by_cases au:i < pr.structs.length
  ·have hw:=az ((i:Int)+1) (by omega)
   have hg:=List.getElem?_eq_getElem au
   have aC:decide ((i:Int) < (pr.structs.length:Int))=true:=decide_eq_true (by omega)
   rw [aX au] at h3
   obtain ⟨x,hx⟩:∃ x,pr.structs[i]=x:=⟨_,rfl⟩
   rw [hx] at hg h3
   change aP (aP (Dt x) (cq Dt (pr.structs.drop (i+1)))) (cq (uZ n) pr.funcs) q=res at h3
   rw [dj] at h3
   change aP (aP (cr 0) (aP (cA (ak x.name)) (Ds 60 x.fields))) _ q=res at h3
   rw [dj] at h3
   have MZ:=zL 60 (by omega) x.fields c
   have M7:((60:Nat):Int)=60:=rfl
   rw [M7] at MZ
   refine af.Je 100 ?_
   simp only [W,seval,qp,hn,hi,List.getElem?_map,hg,aC,ef]
   refine ag (lV c 0 q _ _ (by rw [ah (by simp;omega)];exact bG hc) h2) ?_
   rintro _ _ ⟨rfl,rfl⟩
   refine af.OB 200 ?_
   simp only [W,seval,qp,hn,hi]
   cases hk:bA 0 q
   ·rw [ct (show (cr 0 q).1=false from hk)] at h3
    simp only [W,seval,qp,hn,hi,hk]
    refine af.ret Tryz.func46 rfl (Left.set (by rfl) ?_)
    rw [← h3]
    (try clear ih)
    (try simp only [jw] at *)
    simp only [jv,seval,aB]<;>simp [*]
    rfl
   have J0:=jz hk
   rw [aN (show (cr 0 q).1=true from hk)] at h3
   change aP _ _ (q+1)=res at h3
   rw [dj] at h3
   simp only [W,seval,qp,hn,hi,hk]
   refine ag (kX x.name _) ?_
   rintro _ _ ⟨rfl,rfl⟩
   refine af.OB 200 ?_
   simp only [W,seval,qp,hn,hi]
   cases hid:ak x.name
   ·rw [ct (by rw [hid];rfl)] at h3
    simp only [W,seval,qp,hn,hi]
    refine af.ret Tryz.func46 rfl (Left.set (by rfl) ?_)
    rw [← h3]
    (try clear ih)
    (try simp only [jw] at *)
    simp only [jv,seval,aB]<;>simp [*]
    rfl
   rw [aN (by rw [hid];rfl)] at h3
   change aP _ _ (q+1)=res at h3
   simp only [W,seval,qp,hn,hi]
   refine ag (MZ (q+1) _ T (by rw [ah (by simp;omega)];exact bG hc) ⟨by omega,J0.1⟩) ?_
   rintro _ _ ⟨rfl,rfl⟩
   have yj:=(aK.pa 60 x.fields).up (q+1)
   have uB:=bL.pa 60 x.fields (q+1) J0.1
   obtain ⟨⟨b,r⟩,uC⟩:∃ z,Ds 60 x.fields (q+1)=z:=⟨_,rfl⟩
   rw [uC] at yj uB
   refine af.OB 200 ?_
   simp only [W,seval,qp,hn,hi,uC]
   cases b
   ·rw [ct (by rw [uC]),uC] at h3
    simp only [W,seval,qp,hn,hi]
    refine af.ret Tryz.func46 rfl (Left.set (by rfl) ?_)
    rw [← h3]
    (try clear ih)
    (try simp only [jw] at *)
    simp only [jv,seval,aB]<;>simp [*]
    skip
   ·rw [aN (by rw [uC]),uC] at h3
    have yj:=yj rfl
    have uB:=uB rfl
    dsimp only at yj uB h3
    simp only [W,seval,qp,hn,hi,hw]
    rw [WW]
    refine ih (i+1,r) ⟨au,⟨by dsimp only;omega,uB⟩,h3⟩ (by dsimp only;omega) _ _ _ _ rfl ⟨by simp;omega,Nat.le_refl _⟩ (Cf r) ?_
    refine bw.env _ ?_
    simp only [nU,seval,hn,List.length_append,List.length_cons,List.length_nil,Nat.zero_add,Nat.reduceAdd,dy,dW]
  ·have aC:decide ((i:Int) < (pr.structs.length:Int))=false:=decide_eq_false (by omega)
   rw [List.drop_eq_nil_of_le (by omega),aN rfl] at h3
   refine af.OB 100 (k:=[_,_,_]) (K:=K') ?_
   simp only [W,seval,qp,hn,hi,aC]
   refine hK q ⟨h2,h3⟩ _ _ ?_ rfl
   refine ay.env _ ?_
   simp only [cD,seval,hn]
 ·rintro q0 ⟨SS,MW⟩
  clear bR u9
  dsimp only
  refine af.go 20 ?_
  simp only [W,seval,qp,hn,hi]
  refine af.fits fun hf=>?_
  have Cf:∀ q':Int,Fits ⟨B.set c [.d (.int .i64 q')]++[[.ptr c 0],[.d (.sl (pr.structs.map ef)),.d (.sl (pr.funcs.map cT))]],T⟩:=fun q'=>by
   have:=hf.set (i:=c) (vs:=[.d (.int .i64 q')]) rfl
   rwa [fI (by simp;omega),List.set_set] at this
  refine af.dc (fun a:Nat × Int=>(aR 80 [(2,.ptr N 0),(3,.ptr (N+1) 0),(4,.d (.bool false)),(34,.d (.sl (pr.funcs.map cT))),(35,.d (.int .i64 pr.funcs.length)),(36,.d (.int .i64 a.1))],⟨B.set c [.d (.int .i64 a.2)]++[[.ptr c 0],[.d (.sl (pr.structs.map ef)),.d (.sl (pr.funcs.map cT))]],T⟩)) (fun a=>a.1≤pr.funcs.length∧(0≤a.2∧a.2≤60000)∧cq (uZ n) (pr.funcs.drop a.1) a.2=res) (fun a=>pr.funcs.length - a.1) (0,q0) ⟨by omega,SS,MW⟩ ?_ rfl ?_
  ·skip
   refine ay.env _ ?_
   simp only [cD,seval,hn]
  rintro ⟨i,q⟩ ⟨h1,h2,h3⟩ ih
  dsimp only at h1 h2 h3 ih ⊢
  by_cases au:i < pr.funcs.length
  ·have hw:=az ((i:Int)+1) (by omega)
   have hg:=List.getElem?_eq_getElem au
   have aC:decide ((i:Int) < (pr.funcs.length:Int))=true:=decide_eq_true (by omega)
   rw [aX au] at h3
   obtain ⟨x,hx⟩:∃ x,pr.funcs[i]=x:=⟨_,rfl⟩
   have hxm:x∈pr.funcs:=by rw [← hx];exact List.getElem_mem au
   rw [hx] at hg h3
   change aP (aP (cr 0) (aP (cA (ak x.name)) (aP (Ds 20 x.params) (aP (cA (decide (1≤x.results.length) && decide (x.results.length≤20))) (aP (cq (fun t p=>eK ak t 0 p) x.results) (cq (fun s=>ia n s 0) x.body)))))) (cq (uZ n) (pr.funcs.drop (i+1))) q=res at h3
   rw [dj] at h3
   have MZ:=zL 20 (by omega) x.params c
   have M7:((20:Nat):Int)=20:=rfl
   rw [M7] at MZ
   refine af.go 100 ?_
   simp only [W,seval,qp,hn,hi,List.getElem?_map,hg,aC,cT]
   refine ag (lV c 0 q _ _ (by rw [ah (by simp;omega)];exact bG hc) h2) ?_
   rintro _ _ ⟨rfl,rfl⟩
   refine af.go 200 ?_
   simp only [W,seval,qp,hn,hi]
   cases hk:bA 0 q
   ·rw [ct (show (cr 0 q).1=false from hk)] at h3
    simp only [W,seval,qp,hn,hi,hk]
    refine af.ret Tryz.func46 rfl (Left.set (by rfl) ?_)
    rw [← h3]
    (try clear ih)
    (try simp only [jw] at *)
    simp only [jv,seval,aB]<;>simp [*]
    rfl
   have J0:=jz hk
   rw [aN (show (cr 0 q).1=true from hk)] at h3
   change aP _ _ (q+1)=res at h3
   rw [dj] at h3
   simp only [W,seval,qp,hn,hi,hk]
   refine ag (kX x.name _) ?_
   rintro _ _ ⟨rfl,rfl⟩
   refine af.go 200 ?_
   simp only [W,seval,qp,hn,hi]
   cases hid:ak x.name
   ·rw [ct (by rw [hid];rfl)] at h3
    simp only [W,seval,qp,hn,hi]
    refine af.ret Tryz.func46 rfl (Left.set (by rfl) ?_)
    rw [← h3]
    (try clear ih)
    (try simp only [jw] at *)
    simp only [jv,seval,aB]<;>simp [*]
    rfl
   rw [aN (by rw [hid];rfl)] at h3
   change aP _ _ (q+1)=res at h3
   rw [dj] at h3
   simp only [W,seval,qp,hn,hi]
   refine ag (MZ (q+1) _ T (by rw [ah (by simp;omega)];exact bG hc) ⟨by omega,J0.1⟩) ?_
   rintro _ _ ⟨rfl,rfl⟩
   have yj:=(aK.pa 20 x.params).up (q+1)
   have uB:=bL.pa 20 x.params (q+1) J0.1
   obtain ⟨⟨b,r⟩,uC⟩:∃ z,Ds 20 x.params (q+1)=z:=⟨_,rfl⟩
   rw [uC] at yj uB
   refine af.go 200 ?_
   simp only [W,seval,qp,hn,hi,uC]
   cases b
   ·rw [ct (by rw [uC]),uC] at h3
    simp only [W,seval,qp,hn,hi]
    refine af.ret Tryz.func46 rfl (Left.set (by rfl) ?_)
    rw [← h3]
    (try clear ih)
    (try simp only [jw] at *)
    simp only [jv,seval,aB]<;>simp [*]
    skip
   rw [aN (by rw [uC]),uC] at h3
   have yj:=yj rfl
   have uB:=uB rfl
   dsimp only at yj uB h3
   rw [dj] at h3
   by_cases Ct:1≤x.results.length
   case neg =>
    have e1:decide ((x.results.length:Int) < 1)=true:=decide_eq_true (by omega)
    rw [ct (by rw [decide_eq_false Ct];rfl)] at h3
    simp only [W,seval,qp,hn,hi,e1]
    refine af.ret Tryz.func46 rfl (Left.set (by rfl) ?_)
    rw [← h3]
    (try clear ih)
    (try simp only [jw] at *)
    simp only [jv,seval,aB]<;>simp [*]
    rfl
   have e1:decide ((x.results.length:Int) < 1)=false:=decide_eq_false (by omega)
   by_cases RF:x.results.length≤20
   case neg =>
    have e2:decide ((20:Int) < (x.results.length:Int))=true:=decide_eq_true (by omega)
    rw [ct (by rw [decide_eq_false RF,Bool.and_false];rfl)] at h3
    simp only [W,seval,qp,hn,hi,e1,e2]
    refine af.ret Tryz.func46 rfl (Left.set (by rfl) ?_)
    rw [← h3]
    (try clear ih)
    (try simp only [jw] at *)
    simp only [jv,seval,aB]<;>simp [*]
    rfl
   have e2:decide ((20:Int) < (x.results.length:Int))=false:=decide_eq_false (by omega)
   rw [aN (by rw [decide_eq_true Ct,decide_eq_true RF];rfl)] at h3
   change aP _ _ r=res at h3
   rw [dj] at h3
   simp only [W,seval,qp,hn,hi,e1,e2]
   have hgd:=Ih N c B [[.ptr c 0],[.d (.sl (pr.structs.map ef)),.d (.sl (pr.funcs.map cT))],[.d (.str x.name),.d (.sl (x.params.map gf)),.d (.sl (x.results.map dR)),.d (.sl (x.body.map dZ))]] T hc (fun q=>by rw [cL (by simpa using hn)];rfl) x.results r ⟨by omega,uB⟩
   have Ce:=lW 93 [] [.ptr N 0] (fun q:Int=>⟨B.set c [.d (.int .i64 q)]++[[.ptr c 0],[.d (.sl (pr.structs.map ef)),.d (.sl (pr.funcs.map cT))],[.d (.str x.name),.d (.sl (x.params.map gf)),.d (.sl (x.results.map dR)),.d (.sl (x.body.map dZ))]],T⟩) (fun x q=>(!(eK ak x 0 q).1,(eK ak x 0 q).2)) (fun _ _=>⟨by simp,rfl⟩) x.results (by omega) r hgd
   rw [wY (fun x=>eK ak x 0)] at Ce
   refine ag Ce ?_
   rintro _ _ ⟨rfl,rfl⟩
   have J9:=(aK.row (f:=fun t p=>eK ak t 0 p) (c:=iZ) x.results fun t _=>aK.ty t 0).up r
   have yN:=bL.row (f:=fun t p=>eK ak t 0 p) (fun t=>bL.ty t 0) x.results r uB
   obtain ⟨⟨b,r2⟩,fD⟩:∃ z,cq (fun t p=>eK ak t 0 p) x.results r=z:=⟨_,rfl⟩
   rw [fD] at J9 yN
   refine af.go 200 ?_
   simp only [W,seval,qp,hn,hi,fD]
   cases b
   ·rw [ct (by rw [fD]),fD] at h3
    simp only [W,seval,qp,hn,hi]
    refine af.ret Tryz.func46 rfl (Left.set (by rfl) ?_)
    rw [← h3]
    (try clear ih)
    (try simp only [jw] at *)
    simp only [jv,seval,aB]<;>simp [*]
    skip
   rw [aN (by rw [fD]),fD] at h3
   have J9:=J9 rfl
   have yN:=yN rfl
   dsimp only at J9 yN h3
   simp only [W,seval,qp,hn,hi]
   refine ag (sx n x.body (jW x hxm) c 0 r2 _ T (by rw [ah (by simp;omega)];exact bG hc) ⟨by omega,yN⟩ ⟨by omega,by omega⟩) ?_
   rintro _ _ ⟨rfl,rfl⟩
   have Ka:=(aK.row (f:=fun s=>ia n s 0) (c:=yh n) x.body fun y _=>aK.st n y 0).up r2
   have DG:=bL.row (f:=fun s=>ia n s 0) (fun y=>bL.st n y 0) x.body r2 yN
   obtain ⟨⟨b,r3⟩,Kc⟩:∃ z,cq (fun s=>ia n s 0) x.body r2=z:=⟨_,rfl⟩
   rw [Kc] at Ka DG
   refine af.go 200 ?_
   simp only [W,seval,qp,hn,hi,Kc]
   cases b
   ·rw [ct (by rw [Kc]),Kc] at h3
    simp only [W,seval,qp,hn,hi]
    refine af.ret Tryz.func46 rfl (Left.set (by rfl) ?_)
    rw [← h3]
    (try clear ih)
    (try simp only [jw] at *)
    simp only [jv,seval,aB]<;>simp [*]
    skip
   rw [aN (by rw [Kc]),Kc] at h3
   have Ka:=Ka rfl
   have DG:=DG rfl
   dsimp only at Ka DG h3
   simp only [W,seval,qp,hn,hi,hw]
   rw [WW]
   refine ih (i+1,r3) ⟨au,⟨by dsimp only;omega,DG⟩,h3⟩ (by dsimp only;omega) _ _ _ _ rfl ⟨by simp;omega,Nat.le_refl _⟩ (Cf r3) ?_
   refine bw.env _ ?_
   simp only [nU,seval,hn,List.length_append,List.length_cons,List.length_nil,Nat.zero_add,Nat.reduceAdd,dy,dW]
  ·have aC:decide ((i:Int) < (pr.funcs.length:Int))=false:=decide_eq_false (by omega)
   rw [List.drop_eq_nil_of_le (by omega)] at h3
   refine af.go 100 ?_
   simp only [W,seval,qp,hn,hi,aC]
   refine af.ret Tryz.func46 rfl (Left.set (by rfl) ?_)
   rw [← h3]
   (try clear ih)
   (try simp only [jw] at *)
   simp only [jv,seval,aB]<;>simp [*]
   rw [← h3]
   exact ⟨rfl,rfl⟩
set_option maxHeartbeats 1000000 in
theorem DI (n:Nat) (pr:kW) (jW:∀ f∈pr.funcs,∀ x∈f.body,mA n x) (B:List (List V)) (T:List (Nat × Nat)) :
 aF Tryz.prog av 16 [ju pr] ⟨B,T⟩ (aB (.d (.bool (nT n pr 0).1)) ⟨B,T⟩):=by
 obtain ⟨N,hn⟩:∃ N,B.length=N:=⟨_,rfl⟩
 have h:=Qb n pr jW (N+1) 0 (B++[[.d (.sl (pr.structs.map ef)),.d (.sl (pr.funcs.map cT))],[.d (.int .i64 0)]]) T (by rw [dF hn];rfl) (by omega)
 unfold ju at h ⊢
 refine b16.go 100 rfl fun bk=>?_
 simp only [dP] at bk
 simp only [W,seval,c16,hn]
 refine ag h ?_
 rintro _ _ ⟨rfl,rfl⟩
 refine af.go 100 ?_
 simp only [W,seval,c16,hn]
 refine af.ret Tryz.func16 rfl (Left.box ?_)
 (try clear ih)
 (try simp only [jw] at *)
 simp only [jv,seval,aB]<;>simp [*]
 skip
end Go.Proofs.YtnfnbjjnjjdjdaaGreatDoor
namespace Go.Ab
open Go.RowKit Go.Av
def lookW:List (Nat × Nat × Nat × List Nat)→Nat→Nat→Option (Nat × List Nat)
 | [],_,_=>none
 | (f,r,p,A) :: l,g,s=>match Nat.beq f g && Nat.beq r s with
  | true=>some (p,A)
  | false=>lookW l g s
end Go.Ab
namespace Go.Proofs.YtnfnbjjnjjdjdaaGreatDoor
open Go.RowKit Go.Av Go.Ab
set_option maxRecDepth 100000
def WY:List (Nat × Nat × Nat × List Nat):=[(101,1,14,[13]),(203,7,8,[]),(21,8,5,[]),(21,10,5,[]),(60,6,5,[]),(60,12,5,[]),
 (207,11,5,[]),(207,13,5,[]),(207,15,8,[]),(207,20,7,[]),(190,7,5,[])]
theorem M8:eJ Tryz.prog=true:=by kernel_rfl
def Va:List UInt8:=[112,97,99,107,97,103,101,32,112,32,102,117,110,99,32,102,40,97,32,105,110,116,41,32,40,105,110,116,41,32,123,32,114,101,116,117,114,110,32,97,32,43,32,49,32,125]
def Vb:List UInt8:=[112,97,99,107,97,103,101,32,112,32,102,117,110,99,32,102,40,97,32,105,110,116,41,32,40,98,121,116,101,41,32,123,32,114,101,116,117,114,110,32,97,32,43,32,49,32,125]
def Cg (k:Int) (t:aA):kW:=⟨[],[⟨[102],[⟨[97],.mk 4 [] []⟩],[.mk k [] []],[.mk 6 [] (.mk 0 [] []) [] [.mk 6 [43] 0 (.mk 0 [] []) [] [.mk 1 [97] 0 (.mk 0 [] []) [] [],.mk 2 [] 1 t [] []]] [] [] []]⟩]⟩
theorem M9 {bs:List UInt8} (h0:bs ≠ []) (hl:bs.length≤400000) (i:Int) (S:Mem):aF Tryz.prog av 128 [.d (.sl (Dz bs)),.d (.int .i64 i)] S (aB (.bY [.agg (YJ (fk bs i).1),.d (.int .i64 ((fk bs i).2:Nat))]) S):=by
 refine aF.CD Tryz.func128 rfl (by kernel_rfl) fun c w xs h1 h2 h3 hI=>?_
 have zh:=h2 0 (by simp)
 have TT:=h2 1 (by simp)
 obtain ⟨x,y,rfl⟩:∃ x y,xs = #[x,y]:=⟨xs[0]'(by simp at h1;omega),xs[1]'(by simp at h1;omega),by
  apply Array.ext
  ·simpa using h1
  ·intro j hj eS
   have:j=0∨j=1:=by simp at eS;omega
   rcases this with rfl | rfl<;>rfl⟩
 simp at zh TT
 cases TT with
 | d _ _ TT=>cases TT with
  | int=>cases zh with
   | d _ _ zh=>cases zh with
    | sl _ sz a cap f dJ hr hcp hm hs hd =>
     have hC:Calls Tryz.prog 128 #[.slice a (Dz bs).length cap,.int .i64 i] w (Dk (fk bs i) w):=by
      have cm:Dz bs ≠ []:=by simpa [Dz] using h0
      obtain ⟨g,off,ha,hc⟩:=hs cm
      have Th:(Dz bs).length=bs.length:=by simp [Dz]
      have hz:sz=1:=by
       obtain ⟨b,r,rfl⟩:∃ b r,bs=b :: r:=by cases bs with
        | nil=>exact absurd rfl h0
        | cons b r=>exact ⟨b,r,rfl⟩
       exact (hr _ List.mem_cons_self).symm
      subst hz
      have Qc:0 < bs.length:=List.length_pos_iff.2 h0
      have eZ:∀ j u,(bv bs)[j]? = some u→w.cell? ⟨g,off+j,none⟩=some u:=by
       intro j u hu
       obtain ⟨b,hb,rfl⟩:=A4 hu
       obtain ⟨hj,hb⟩:=List.getElem?_eq_some_iff.1 hb
       have hjD:j < (Dz bs).length:=by omega
       have aD:(Dz bs)[j]=[.int .u8 (b.toNat:Int)]:=by simp [Dz,hb,eX]
       have h4:=hc j hjD 0 (by rw [aD];simp)
       have h5:=hd j hjD 0 (by rw [aD];simp)
       simp only [aD,List.getElem_cons_zero] at h5
       cases hf:f j 0 with
       | int k n =>
        rw [hf] at h5
        cases h5
        rw [← hf]
        simpa using h4.2
       | _=>rw [hf] at h5;cases h5
      have hg:g < w.heap.size:=by
       have:=eZ 0 (.int .u8 ((bs[0]'Qc).toNat:Int)) (lS (List.getElem?_eq_getElem Qc))
       exact pL this
      exact RX w.heap.size _ bs i w hI (.inr ⟨g,off,cap,by rw [ha,Th],hg,by omega,hm,eZ⟩) (Nat.le_refl _)
     refine hC.mono ?_
     rintro e w' ⟨rfl,hb⟩
     have htl:=MR bs i
     refine ⟨_,_,rfl,⟨rfl,rfl⟩,hb,.bY _ _ rfl fun j hj=>?_⟩
     have E2:j=0∨j=1:=by simp at hj;omega
     rcases E2 with rfl | rfl
     ·refine .agg _ _ rfl (fun j hj=>?_) (fun j hj=>?_)
      ·have YN:j=0∨j=1∨j=2∨j=3∨j=4:=by simp [YJ] at hj;omega
       rcases YN with rfl | rfl | rfl | rfl | rfl
       ·exact .d _ _ (.int _ _)
       ·exact .d _ _ (.str _ (by omega))
       ·exact .d _ _ (.int _ _)
       ·exact .d _ _ (.int _ _)
       ·exact .d _ _ (.int _ _)
      ·have YN:j=0∨j=1∨j=2∨j=3∨j=4:=by simp [YJ] at hj;omega
       rcases YN with rfl | rfl | rfl | rfl | rfl<;>rfl
     ·exact .d _ _ (.int _ _)
noncomputable def YO (p:kW):Bool:=(nT (SizeOf.sizeOf p.funcs) p 0).1
theorem Gm (p:kW) (B:List (List V)) (T:List (Nat × Nat)):aF Tryz.prog av 16 [ju p] ⟨B,T⟩ (aB (.d (.bool (YO p))) ⟨B,T⟩):=by
 refine DI (SizeOf.sizeOf p.funcs) p (fun f hf x hx=>sy _ x (Dp.sA _ x ?_)) B T
 have h1:=List.sizeOf_lt_of_mem hf
 have h2:=List.sizeOf_lt_of_mem hx
 have h3:SizeOf.sizeOf f.body < SizeOf.sizeOf f:=by cases f;simp only [cn.mk.sizeOf_spec];omega
 omega
noncomputable def Qd (bs:List UInt8) (p:kW):FuncId→List V→Option V:=fun g args =>
 match Nat.beq g 128 with
 | true=>match args with
  | [.d (.sl rows),.d (.int .i64 i)]=>match oR rows (Dz bs) with
   | true=>some (.bY [.agg (YJ (fk bs i).1),.d (.int .i64 ((fk bs i).2:Nat))])
   | false=>none
  | _=>none
 | false=>match Nat.beq g 16 with
  | true=>match args with
   | [.agg [.d a,.d b]]=>match PI a (.sl (p.structs.map ef)) && PI b (.sl (p.funcs.map cT)) with
    | true=>some (.d (.bool (YO p)))
    | false=>none
   | _=>none
  | false=>none
theorem Ii {bs:List UInt8} (h0:bs ≠ []) (hl:bs.length≤400000) (p:kW):∀ g args v,Qd bs p g args=some v→aF Tryz.prog av g args ⟨[],[]⟩ (fun v' _=>v' = v):=by
 intro g args v h
 unfold Qd at h
 split at h
 ·rename_i hg
  obtain rfl:=Nat.eq_of_beq_eq_true hg
  split at h
  case h_2=>cases h
  split at h
  case h_2=>cases h
  rename_i he
  obtain rfl:=mT _ _ he
  obtain rfl:=Option.some.inj h
  exact (M9 h0 hl _ _).mono fun _ _ h=>h.1
 ·split at h
  case h_2=>cases h
  rename_i hg
  obtain rfl:=Nat.eq_of_beq_eq_true hg
  split at h
  case h_2=>cases h
  split at h
  case h_2=>cases h
  rename_i he
  rw [Bool.and_eq_true] at he
  obtain rfl:=AY _ _ he.1
  obtain rfl:=AY _ _ he.2
  obtain rfl:=Option.some.inj h
  exact (Gm p [] []).mono fun _ _ h=>h.1
theorem Gn:A0 Tryz.prog av (Qd Va (Cg 4 (.mk 0 [] []))) (lookW WY) 100000 21 [.d (.sl (Dz Va))]=some (.bY [ju (Cg 4 (.mk 0 [] [])),.d (.int .i64 0)]):=by kernel_rfl
theorem Gp:A0 Tryz.prog av (Qd Vb (Cg 2 (.mk 0 [] []))) (lookW WY) 100000 21 [.d (.sl (Dz Vb))]=some (.bY [ju (Cg 2 (.mk 0 [] [])),.d (.int .i64 0)]):=by kernel_rfl
theorem Ke:aF Tryz.prog av 21 [.d (.sl (Dz Va))] ⟨[],[]⟩ fun v' _=>v' = .bY [ju (Cg 4 (.mk 0 [] [])),.d (.int .i64 0)]:=zy M8 (Ii (by simp [Va]) (by simp [Va]) _) Gn
theorem Kf:aF Tryz.prog av 21 [.d (.sl (Dz Vb))] ⟨[],[]⟩ fun v' _=>v' = .bY [ju (Cg 2 (.mk 0 [] [])),.d (.int .i64 0)]:=zy M8 (Ii (by simp [Vb]) (by simp [Vb]) _) Gp
end Go.Proofs.YtnfnbjjnjjdjdaaGreatDoor
namespace Go.Proofs.YtnfnbjjnjjdjdaaGreatDoor
open Go.RowKit Go.Av
abbrev Wd:=Nat × List UInt8 × Nat
def okD (l:List UInt8):Bool :=
 decide (ku (l.takeWhile cj)≤Dj) && !(decide ((l.takeWhile cj).length < l.length) && dx (l.getD (l.takeWhile cj).length 0)) && !(decide (1 < (l.takeWhile cj).length) && decide (l.getD 0 0=48))
def wl (l:List UInt8):Option Wd :=
 if l=[] then some (0,[],0)
 else if dx (l.getD 0 0)=true then some (if kH (l.takeWhile oS)=true then 4 else 1,l.takeWhile oS,0)
 else if cj (l.getD 0 0)=true then (if okD l=true then some (2,l.takeWhile cj,ku (l.takeWhile cj)) else none)
 else match Gb l with
  | some s=>some (3,s,0)
  | none=>none
def strip (x:bJ):Wd:=(x.kind,x.text,x.int)
set_option linter.unusedSimpArgs false
def w6:Nat→List UInt8→List Wd
 | 0,_=>[(9,[],0)]
 | f+1,l=>match wl (eU false l) with
  | none=>[(9,[],0)]
  | some x=>if x.1=0 then [(0,[],0)] else x :: w6 f ((eU false l).drop x.2.1.length)
def Ij:List UInt8→Bool
 | []=>true
 | c :: _=>!oS c
inductive Na:aA→Prop
 | WZ (k:Int):1≤k→k≤6→Na (.mk k [] [])
 | Nb (n:List UInt8):ak n=true→Na (.mk 7 n [])
 | W0 (t:aA):Na t→Na (.mk 8 [] [t])
theorem nE:∀ (t:aA) (d p:Int),(eK ak t d p).1=true→Na t
 | .mk k n es,d,p,h=>by
  unfold eK at h
  by_cases hp:bA d p=false
  ·rw [if_pos hp] at h;cases h
  rw [if_neg hp] at h
  by_cases h1:1≤k∧k≤6
  ·rw [if_pos h1] at h
   simp only [Bool.and_eq_true,decide_eq_true_eq] at h
   obtain rfl:=List.eq_nil_of_length_eq_zero h.2
   obtain rfl:=h.1
   exact .WZ k h1.1 h1.2
  rw [if_neg h1] at h
  by_cases h7:k=7
  ·subst h7
   rw [if_pos rfl] at h
   simp only [Bool.and_eq_true,decide_eq_true_eq] at h
   obtain rfl:=List.eq_nil_of_length_eq_zero h.2
   exact .Nb n h.1
  rw [if_neg h7] at h
  match es,h with
  | [e],h =>
   dsimp only at h
   by_cases h8:k=8∧n=[]
   ·rw [if_pos h8] at h
    have ih:=nE e _ _ h
    obtain ⟨rfl,rfl⟩:=h8
    exact .W0 e ih
   ·rw [if_neg h8] at h;cases h
  | [],h=>cases h
  | _ :: _ :: _,h=>cases h
mutual
def sB:aj→Prop
 | .mk _ _ i _ _ ks=>(0≤i∧i≤18446744073709551615)∧mU ks
def mU:List aj→Prop
 | []=>True
 | x :: l=>sB x∧mU l
end
inductive kA:Int→aj→Prop
 | Nb (d:Int) (t:List UInt8):d≤60→ak t=true→kA d (.mk 1 t 0 aQ [] [])
 | num (d i:Int):d≤60→0≤i→i≤18446744073709551615→kA d (.mk 2 [] i aQ [] [])
 | YP (d i:Int):d≤60→0≤i→i≤1→kA d (.mk 3 [] i aQ [] [])
 | Vc (d k:Int) (y:aj):d≤60→k=4∨k=5→kA (d+1) y→kA d (.mk k [] 0 aQ [] [y])
 | bin (d:Int) (t:List UInt8) (y z:aj):d≤60→0 < ki t→kA (d+1) y→kA (d+1) z→kA d (.mk 6 t 0 aQ [] [y,z])
 | W1 (d:Int) (t:List UInt8) (ks:List aj):d≤60→ak t=true→(∀ x∈ks,kA (d+1) x)→kA d (.mk 7 t 0 aQ [] ks)
 | W2 (d k:Int) (y:aj):d≤60→2≤k→k≤6→kA (d+1) y→kA d (.mk 8 [] 0 (.mk k [] []) [] [y])
 | W3 (d:Int) (t:List UInt8) (y:aj):d≤60→ak t=true→kA (d+1) y→kA d (.mk 9 t 0 aQ [] [y])
 | idx (d:Int) (y z:aj):d≤60→kA (d+1) y→kA (d+1) z→kA d (.mk 10 [] 0 aQ [] [y,z])
 | cut (d:Int) (y z u:aj):d≤60→kA (d+1) y→kA (d+1) z→kA (d+1) u→kA d (.mk 11 [] 0 aQ [] [y,z,u])
 | len (d:Int) (y:aj):d≤60→kA (d+1) y→kA d (.mk 12 [] 0 aQ [] [y])
 | app (d:Int) (y z:aj):d≤60→kA (d+1) y→kA (d+1) z→kA d (.mk 13 [] 0 aQ [] [y,z])
 | str (d:Int) (n:List UInt8) (ns:List (List UInt8)) (ks:List aj):d≤60→ak n=true→ns.length=ks.length→(∀ m∈ns,ak m=true)→(∀ x∈ks,kA (d+1) x)→kA d (.mk 14 [] 0 (.mk 7 n []) ns ks)
 | W4 (d:Int) (t:aA) (ks:List aj):d≤60→Na t→(∀ x∈ks,kA (d+1) x)→kA d (.mk 15 [] 0 (.mk 8 [] [t]) [] ks)
theorem uD {l:List (List UInt8)} (h:gK l.length l=true):∀ n∈l,ak n=true:=by
 have hd:∀ (j:Nat) (l:List (List UInt8)),gK j l=true→∀ i < j,ak (l.getD i [])=true:=by
  intro j
  induction j with
  | zero=>exact fun _ _ i hi=>absurd hi (Nat.not_lt_zero _)
  | succ j ih =>
   intro l h i hi
   unfold gK at h
   simp only [Bool.and_eq_true] at h
   rcases Nat.lt_or_ge i j with h1 | h1
   ·exact ih l h.1.1 i h1
   ·obtain rfl:i=j:=by omega
    exact h.1.2
 intro n hn
 obtain ⟨i,hi,rfl⟩:=List.mem_iff_getElem.1 hn
 have:=hd l.length l h i hi
 simpa [List.getD,hi] using this
theorem mV {t:aA} (h:dB t=true):t=aQ:=by
 obtain ⟨k,n,es⟩:=t
 unfold dB at h
 simp only [Bool.and_eq_true] at h
 obtain ⟨⟨h1,h2⟩,h3⟩:=h
 obtain rfl:k=0:=of_decide_eq_true h1
 obtain rfl:n=[]:=of_decide_eq_true h2
 obtain rfl:=List.eq_nil_of_length_eq_zero (show es.length=0 from of_decide_eq_true h3)
 rfl
theorem Nc {x:aj} {d p:Int} (h:(dw x d p).1=true):(jf x d p).1=true∧(¬ (x.kind=1∨x.kind=7∨x.kind=9∨x.kind=6)→x.text=[])∧(¬ (x.kind=2∨x.kind=3)→x.int=0) ∧
 (¬ (x.kind=8∨x.kind=14∨x.kind=15)→x.type=aQ)∧(¬ x.kind=14→x.names=[]):=by
 unfold dw at h
 simp only [Bool.and_eq_true] at h
 obtain ⟨⟨⟨⟨h1,h2⟩,h3⟩,h4⟩,h5⟩:=h
 refine ⟨h1,fun hk=>?_,fun hk=>?_,fun hk=>?_,fun hk=>?_⟩
 ·rw [if_neg hk] at h2
  simpa using h2
 ·rw [if_neg hk] at h3
  simpa using h3
 ·rw [if_neg hk] at h4
  exact mV (by simpa using h4)
 ·rw [if_neg hk] at h5
  simpa using h5
theorem Qe {k:Int} {t:List UInt8} {i:Int} {ty:aA} {ns:List (List UInt8)} {ks:List aj} {d p:Int} (hd:d≤60) (hm:¬ (nS k < (ks.length:Int)∨fm k = -2∨(0≤fm k∧(ks.length:Int) ≠ fm k)))
 (hb:(dw (.mk k t i ty ns ks) d p).1=true) (hi:0≤i∧i≤18446744073709551615) (yf:∀ x∈ks,kA (d+1) x):kA d (.mk k t i ty ns ks):=by
 obtain ⟨b1,b2,b3,b4,b5⟩:=Nc hb
 change ¬ (k=1∨k=7∨k=9∨k=6)→t=[] at b2
 change ¬ (k=2∨k=3)→i=0 at b3
 change ¬ (k=8∨k=14∨k=15)→ty=aQ at b4
 change ¬ k=14→ns=[] at b5
 have c1:(if k=8 then (if 2≤ty.kind∧ty.kind≤6 then eK ak ty (d+1) p else (false,p))
  else if k=14 then (if ty.kind=7 then (if (eK ak ty (d+1) p).1=true then (decide (ns.length=ks.length) && gK ns.length ns,(eK ak ty (d+1) p).2) else (false,(eK ak ty (d+1) p).2)) else (false,p))
  else if k=15 then (if ty.kind=8 then eK ak ty (d+1) p else (false,p))
  else (if k=1∨k=7∨k=9 then ak t else if k=6 then decide (0 < ki t) else if k=3 then decide (i≤1) else true,p)).1=true:=b1
 clear b1
 have hlen:0≤fm k→(ks.length:Int)=fm k:=fun h=>by
  by_cases e:(ks.length:Int)=fm k
  ·exact e
  ·exact absurd (.inr (.inr ⟨h,e⟩)) hm
 have cm:¬ fm k = -2:=fun e=>hm (.inr (.inl e))
 unfold fm at hlen cm
 by_cases k8:k=8
 ·subst k8
  rw [if_pos rfl] at c1
  obtain rfl:=b2 (by omega)
  obtain rfl:=b3 (by omega)
  obtain rfl:=b5 (by omega)
  have hl:=hlen (by decide)
  by_cases hq:2≤ty.kind∧ty.kind≤6
  ·rw [if_pos hq] at c1
   have:=nE ty _ _ c1
   match ks,hl with
   | [y],_ =>
    cases this with
    | WZ k' _ _=>exact .W2 d k' y hd hq.1 hq.2 (yf y (by simp))
    | Nb _ _=>exact absurd hq.2 (by simp [aA.kind])
    | W0 _ _=>exact absurd hq.2 (by simp [aA.kind])
   | [],h=>exact absurd h (by decide)
   | _ :: _ :: _,h=>simp at h;omega
  ·rw [if_neg hq] at c1;cases c1
 rw [if_neg k8] at c1
 by_cases k14:k=14
 ·subst k14
  rw [if_pos rfl] at c1
  obtain rfl:=b2 (by omega)
  obtain rfl:=b3 (by omega)
  by_cases hq:ty.kind=7
  ·rw [if_pos hq] at c1
   by_cases ht:(eK ak ty (d+1) p).1=true
   ·rw [if_pos ht] at c1
    simp only [Bool.and_eq_true,decide_eq_true_eq] at c1
    have:=nE ty _ _ ht
    cases this with
    | WZ k' h1 h2=>have:k' = 7:=hq;omega
    | Nb n hn=>exact .str d n ns ks hd hn c1.1 (uD c1.2) yf
    | W0 _ _=>exact absurd hq (by simp [aA.kind])
   ·rw [if_neg ht] at c1;cases c1
  ·rw [if_neg hq] at c1;cases c1
 rw [if_neg k14] at c1
 obtain rfl:=b5 k14
 by_cases k15:k=15
 ·subst k15
  rw [if_pos rfl] at c1
  obtain rfl:=b2 (by omega)
  obtain rfl:=b3 (by omega)
  by_cases hq:ty.kind=8
  ·rw [if_pos hq] at c1
   have:=nE ty _ _ c1
   cases this with
   | WZ k' h1 h2=>have:k' = 8:=hq;omega
   | Nb n hn=>exact absurd hq (by simp [aA.kind])
   | W0 t ht=>exact .W4 d t ks hd ht yf
  ·rw [if_neg hq] at c1;cases c1
 rw [if_neg k15] at c1
 obtain rfl:=b4 (by omega)
 dsimp only at c1
 by_cases k1:k=1
 ·subst k1
  obtain rfl:=b3 (by omega)
  obtain rfl:=List.eq_nil_of_length_eq_zero (Int.ofNat_inj.1 (hlen (by decide)))
  exact .Nb d t hd c1
 by_cases k7:k=7
 ·subst k7
  obtain rfl:=b3 (by omega)
  exact .W1 d t ks hd c1 yf
 by_cases k9:k=9
 ·subst k9
  obtain rfl:=b3 (by omega)
  have hl:=hlen (by decide)
  match ks,hl with
  | [y],_=>exact .W3 d t y hd c1 (yf y (by simp))
  | [],h=>exact absurd h (by decide)
  | _ :: _ :: _,h=>simp at h;omega
 by_cases k6:k=6
 ·subst k6
  obtain rfl:=b3 (by omega)
  have hl:=hlen (by decide)
  match ks,hl with
  | [y,z],_=>exact .bin d t y z hd (of_decide_eq_true c1) (yf y (by simp)) (yf z (by simp))
  | [],h=>exact absurd h (by decide)
  | [_],h=>simp at h
  | _ :: _ :: _ :: _,h=>simp at h;omega
 obtain rfl:=b2 (by omega)
 by_cases k2:k=2
 ·subst k2
  obtain rfl:=List.eq_nil_of_length_eq_zero (Int.ofNat_inj.1 (hlen (by decide)))
  exact .num d i hd hi.1 hi.2
 by_cases k3:k=3
 ·subst k3
  obtain rfl:=List.eq_nil_of_length_eq_zero (Int.ofNat_inj.1 (hlen (by decide)))
  exact .YP d i hd hi.1 (of_decide_eq_true c1)
 obtain rfl:=b3 (by omega)
 by_cases k45:k=4∨k=5
 ·have hl:(ks.length:Int)=1:=by
   have:=hlen
   rcases k45 with rfl | rfl<;>exact this (by decide)
  match ks,hl with
  | [y],_=>exact .Vc d k y hd k45 (yf y (by simp))
  | [],h=>exact absurd h (by decide)
  | _ :: _ :: _,h=>simp at h;omega
 by_cases k12:k=12
 ·subst k12
  have hl:=hlen (by decide)
  match ks,hl with
  | [y],_=>exact .len d y hd (yf y (by simp))
  | [],h=>exact absurd h (by decide)
  | _ :: _ :: _,h=>simp at h;omega
 by_cases k10:k=10
 ·subst k10
  have hl:=hlen (by decide)
  match ks,hl with
  | [y,z],_=>exact .idx d y z hd (yf y (by simp)) (yf z (by simp))
  | [],h=>exact absurd h (by decide)
  | [_],h=>simp at h
  | _ :: _ :: _ :: _,h=>simp at h;omega
 by_cases k13:k=13
 ·subst k13
  have hl:=hlen (by decide)
  match ks,hl with
  | [y,z],_=>exact .app d y z hd (yf y (by simp)) (yf z (by simp))
  | [],h=>exact absurd h (by decide)
  | [_],h=>simp at h
  | _ :: _ :: _ :: _,h=>simp at h;omega
 by_cases k11:k=11
 ·subst k11
  have hl:=hlen (by decide)
  match ks,hl with
  | [y,z,u],_=>exact .cut d y z u hd (yf y (by simp)) (yf z (by simp)) (yf u (by simp))
  | [],h=>exact absurd h (by decide)
  | [_],h=>simp at h
  | [_,_],h=>simp at h
  | _ :: _ :: _ :: _ :: _,h=>simp at h;omega
 ·exfalso
  apply cm
  rw [if_neg (by omega),if_neg (by omega),if_neg (by omega),if_neg (by omega),if_neg (by omega)]
mutual
theorem Qf:∀ (x:aj) (d p:Int),(p8 x d p).1=true→sB x→kA d x
 | .mk k t i ty ns ks,d,p,h,hn=>by
  unfold p8 at h
  unfold sB at hn
  by_cases hp:bA d p=false
  ·rw [if_pos hp] at h;cases h
  have Lh:bA d p=true:=by simpa using hp
  rw [if_neg hp] at h
  by_cases h1:nS k < (ks.length:Int)∨fm k = -2∨(0≤fm k∧(ks.length:Int) ≠ fm k)
  ·rw [if_pos h1] at h;cases h
  rw [if_neg h1] at h
  by_cases h2:(dw (.mk k t i ty ns ks) d (p+1)).1=false
  ·rw [if_pos h2] at h;cases h
  rw [if_neg h2] at h
  unfold bA at Lh
  rw [Bool.and_eq_true,decide_eq_true_iff,decide_eq_true_iff] at Lh
  exact Qe Lh.2 h1 (by simpa using h2) hn.1 (w7 ks _ _ h hn.2)
theorem w7:∀ (l:List aj) (d p:Int),(eR l d p).1=true→mU l→∀ x∈l,kA d x
 | [],_,_,_,_,x,hx=>absurd hx List.not_mem_nil
 | y :: l,d,p,h,hn,x,hx=>by
  unfold eR at h
  unfold mU at hn
  by_cases h1:(p8 y d p).1=false
  ·rw [if_pos h1] at h;cases h
  rw [if_neg h1] at h
  rcases List.mem_cons.1 hx with e | hx
  ·rw [e]
   exact Qf y d p (by simpa using h1) hn.1
  ·exact w7 l _ _ h hn.2 x hx
end
set_option linter.unusedVariables false
def Lx (s:List UInt8) (t:List Wd):Prop:=∀ (f:Nat) (r:List UInt8),Ij r=true→w6 (f+t.length) (s++r)=t++w6 f r
def R7 (s:List UInt8) (t:List Wd):Prop:=∀ (f:Nat) (r:List UInt8),w6 (f+t.length) (s++r)=t++w6 f r
theorem R7.app {s1 s2:List UInt8} {t1 t2:List Wd} (h1:R7 s1 t1) (h2:R7 s2 t2):R7 (s1++s2) (t1++t2):=fun f r=>by
 rw [List.append_assoc,List.length_append,Nat.add_comm t1.length,← Nat.add_assoc,h1,h2,List.append_assoc]
theorem R7.then {s1 s2:List UInt8} {t1 t2:List Wd} (h1:R7 s1 t1) (h2:Lx s2 t2):Lx (s1++s2) (t1++t2):=fun f r hr=>by
 rw [List.append_assoc,List.length_append,Nat.add_comm t1.length,← Nat.add_assoc,h1,h2 f r hr,List.append_assoc]
theorem Lx.then {s1 s2:List UInt8} {t1 t2:List Wd} (h1:Lx s1 t1) (hs:∀ r,Ij r=true→Ij (s2++r)=true) (h2:Lx s2 t2):Lx (s1++s2) (t1++t2):=fun f r hr=>by
 rw [List.append_assoc,List.length_append,Nat.add_comm t1.length,← Nat.add_assoc,h1 _ _ (hs r hr),h2 f r hr,List.append_assoc]
theorem Lx.shut {s1 s2:List UInt8} {t1 t2:List Wd} (h1:Lx s1 t1) (hs:∀ r,Ij (s2++r)=true) (h2:R7 s2 t2):R7 (s1++s2) (t1++t2):=fun f r=>by
 rw [List.append_assoc,List.length_append,Nat.add_comm t1.length,← Nat.add_assoc,h1 _ _ (hs r),h2 f r,List.append_assoc]
def oY {α β:Type} (p:α × Ps) (f:α→Ps→β × Ps):β × Ps:=f p.1 p.2
theorem Dn.zero {a b:Ps} (h:Dn a b) (hb:b.e=0):a.e=0:=by
 by_cases ha:a.e=0
 ·exact ha
 ·rw [h.e ha] at hb;exact hb
theorem Dn.bad {a b:Ps} (h:Dn a b) (ha:a.e=51):b.e=51:=by
 rw [h.e (by omega),ha]
structure Kg (c:Wd) (tl:List Wd) (s t:Ps):Prop where
 se:s.e=0
 te:t.e=0
 h:t.h=s.h
 ws:∃ init:List Wd,s.ws.map strip=init++[(0,[],0)]∧t.ws.map strip=init++c :: tl∧∀ x∈init,x.1 ≠ 0∧x.1 ≠ 9
section
variable {c:Wd} {tl:List Wd} {s t:Ps}
def Nd (c:Wd) (tl:List Wd) {α:Type} (p q:α × Ps):Prop:=p.2.e=0→(q.1=p.1∧Kg c tl p.2 q.2)∨q.2.e=51
theorem Nd.pure {α:Type} {s t:Ps} (h:Kg c tl s t) (x:α):Nd c tl (x,s) (x,t):=fun _=>.inl ⟨rfl,h⟩
theorem Nd.dead {α:Type} {p q:α × Ps} (h:¬ p.2.e=0):Nd c tl p q:=fun h0=>absurd h0 h
theorem Nd.oY {α β:Type} {p q:α × Ps} {f g:α→Ps→β × Ps} (h:Nd c tl p q) (hf:∀ x s,Dn s (f x s).2) (hg:∀ x s,Dn s (g x s).2) (hk:Kg c tl p.2 q.2→Nd c tl (f p.1 p.2) (g p.1 q.2)):Nd c tl (oY p f) (oY q g):=by
 intro h0
 rcases h ((hf p.1 p.2).zero h0) with ⟨e,hs⟩ | h51
 ·have:=hk hs h0
  unfold Proofs.YtnfnbjjnjjdjdaaGreatDoor.oY
  rw [e]
  exact this
 ·exact .inr ((hg q.1 q.2).bad h51)
theorem tP {w:bJ} {r:List bJ} {o:Int} {h:Bool} (hr:¬ (r.headD .zero).kind=9):eu ⟨w :: r,0,o,h⟩=⟨r,0,o,h⟩:=by
 unfold eu
 rw [if_pos rfl]
 exact if_neg hr
theorem Kg.split (hs:Kg c tl s t) (hc:c.1 ≠ 9):(s.w.kind=0∧strip t.w=c)∨(s.w.kind ≠ 0∧strip t.w=strip s.w∧∀ o o':Int,Kg c tl (eu ⟨s.ws,0,o,s.h⟩) (eu ⟨t.ws,0,o',t.h⟩)):=by
 obtain ⟨se,te,hh,init,h1,h2,h3⟩:=hs
 cases init with
 | nil =>
  obtain ⟨w,r,e1,e2,e3⟩:=List.map_eq_cons_iff.1 h1
  obtain ⟨w',r',f1,f2,f3⟩:=List.map_eq_cons_iff.1 h2
  refine .inl ⟨?_,?_⟩
  ·unfold Ps.w
   rw [e1]
   exact congrArg Prod.fst e2
  ·unfold Ps.w
   rw [f1]
   exact f2
 | cons x init =>
  obtain ⟨w,r,e1,e2,e3⟩:=List.map_eq_cons_iff.1 h1
  obtain ⟨w',r',f1,f2,f3⟩:=List.map_eq_cons_iff.1 h2
  have hx:=h3 x List.mem_cons_self
  refine .inr ⟨?_,?_,fun o o'=>?_⟩
  ·unfold Ps.w
   rw [e1]
   intro h0
   exact hx.1 (by rw [← e2];exact h0)
  ·unfold Ps.w
   rw [e1,f1]
   exact f2.trans e2.symm
  ·have hr:¬ (r.headD .zero).kind=9:=by
    cases init with
    | nil =>
     obtain ⟨y,r2,g1,g2,_⟩:=List.map_eq_cons_iff.1 e3
     rw [g1]
     intro h9
     have:(strip y).1=9:=h9
     rw [g2] at this
     exact absurd this (by decide)
    | cons y l =>
     obtain ⟨y',r2,g1,g2,_⟩:=List.map_eq_cons_iff.1 e3
     rw [g1]
     intro h9
     have:(strip y').1=9:=h9
     rw [g2] at this
     exact (h3 y (by simp)).2 this
   have RC:¬ (r'.headD .zero).kind=9:=by
    cases init with
    | nil =>
     obtain ⟨y,r2,g1,g2,_⟩:=List.map_eq_cons_iff.1 f3
     rw [g1]
     intro h9
     have:(strip y).1=9:=h9
     rw [g2] at this
     exact hc this
    | cons y l =>
     obtain ⟨y',r2,g1,g2,_⟩:=List.map_eq_cons_iff.1 f3
     rw [g1]
     intro h9
     have:(strip y').1=9:=h9
     rw [g2] at this
     exact (h3 y (by simp)).2 this
   rw [e1,f1,tP hr,tP RC]
   exact ⟨rfl,rfl,hh,init,e3,f3,fun y hy=>h3 y (List.mem_cons_of_mem _ hy)⟩
theorem Kg.at (hs:Kg c tl s t) (hc:c.1 ≠ 9) (hk:s.w.kind ≠ 0):t.w.kind=s.w.kind∧t.w.text=s.w.text∧t.w.int=s.w.int:=by
 rcases hs.split hc with ⟨h,_⟩ | ⟨_,h,_⟩
 ·exact absurd h hk
 ·have h1:=congrArg Prod.fst h
  have h2:=congrArg (fun x:Wd=>x.2.1) h
  have h3:=congrArg (fun x:Wd=>x.2.2) h
  exact ⟨h1,h2,h3⟩
theorem Kg.next (hs:Kg c tl s t) (hc:c.1 ≠ 9) (hk:s.w.kind ≠ 0):Kg c tl (eu s) (eu t):=by
 rcases hs.split hc with ⟨h,_⟩ | ⟨_,_,h⟩
 ·exact absurd h hk
 ·have:=h s.o t.o
  obtain ⟨a,e,o,b⟩:=s
  obtain ⟨a',e',o',b'⟩:=t
  obtain rfl:e=0:=hs.se
  obtain rfl:e' = 0:=hs.te
  exact this
theorem Kg.is (hs:Kg c tl s t) (hc:c.1 ≠ 9) (hk:s.w.kind ≠ 0) (T:List UInt8):Cc t T=Cc s T:=by
 obtain ⟨h1,h2,_⟩:=hs.at hc hk
 unfold Cc
 rw [h1,h2,hs.se,hs.te]
theorem Kh {s:Ps} (he:s.e=0) (T:List UInt8):(∃ o,jh s T=⟨s.ws,0,o,s.h⟩)∨(jh s T).e=51:=by
 obtain ⟨a,e,o,b⟩:=s
 obtain rfl:e=0:=he
 unfold jh sj
 split
 ·split
  ·exact .inr rfl
  ·exact .inl ⟨_,rfl⟩
 ·split
  ·exact .inl ⟨_,rfl⟩
  ·exact .inl ⟨_,rfl⟩
theorem Nf {s:Ps} (h:¬ s.e=0):eu s=s:=if_neg h
theorem Ik (s:Ps) (T:List UInt8):uA s T=if Cc s T=true then eu (jh s T) else sj s 51:=by
 unfold uA jS
 cases Cc s T<;>rfl
end
structure Cl (c:Wd):Prop where
 k:c.1 ≠ 9
 t:c.2.1=[41]∨c.2.1=[125]∨c.2.1=[]
theorem Cl.ne {c:Wd} (h:Cl c) {T:List UInt8} (hT:T ≠ [41]∧T ≠ [125]∧T ≠ []):T ≠ c.2.1:=by
 rcases h.t with e | e | e<;>rw [e]
 ·exact hT.1
 ·exact hT.2.1
 ·exact hT.2.2
section
variable {c:Wd} {tl:List Wd} {s t:Ps}
theorem Nd.no {α β:Type} {p:α × Ps} {f:α→Ps→β × Ps} {q:β × Ps} (h:¬ p.2.e=0) (hf:∀ x s,Dn s (f x s).2):Nd c tl (Proofs.YtnfnbjjnjjdjdaaGreatDoor.oY p f) q:=Nd.dead fun h0=>h ((hf p.1 p.2).zero h0)
variable {n:Nat} {E:EP}
end
section
variable {c:Wd} {tl:List Wd} {s t:Ps} {n:Nat} {E:EP}
theorem TU (E:EP) (m:Nat) (x:aj) (s:Ps):Bc E (m+1) x s=if ¬ s.e=0 then (x,s) else oY (jS s [46]) fun b s1=>if b=true then oY (zF s1) fun t s2=>Bc E m (.mk 9 t 0 aQ [] [x]) s2
 else oY (jS s1 [91]) fun b s2=>if b=true then oY (E s2) fun y s3=>oY (jS s3 [58]) fun b s4=>if b=true then oY (E s4) fun z s5=>oY ((),uA s5 [93]) fun _ s6=>Bc E m (.mk 11 [] 0 aQ [] [x,y,z]) s6
  else oY ((),uA s4 [93]) fun _ s5=>Bc E m (.mk 10 [] 0 aQ [] [x,y]) s5 else (x,s2):=by
 conv=>lhs;unfold Bc
 split
 ·rfl
 unfold Proofs.YtnfnbjjnjjdjdaaGreatDoor.oY
 rcases hg:jS s [46] with ⟨_ | _,s1⟩
 ·obtain rfl:=MI hg
  simp only [Bool.false_eq_true,if_false]
  rcases WT:jS s1 [91] with ⟨_ | _,s2⟩
  ·obtain rfl:=MI WT
   rfl
  ·dsimp only
   rcases E s2 with ⟨y,s3⟩
   dsimp only
   rcases jS s3 [58] with ⟨_ | _,s4⟩<;>rfl
 ·rfl
end
def TV (s:Ps):Prop:=∃ init:List Wd,s.ws.map strip=init++[(9,[],0)]∧∀ x∈init,x.1 ≠ 0∧x.1 ≠ 9
def Nn {α:Type} (p:α × Ps):Prop:=p.2.e=0→TV p.2
theorem Nn.pure {α:Type} {s:Ps} (h:TV s) (x:α):Nn (x,s):=fun _=>h
theorem Nn.oY {α β:Type} {p:α × Ps} {f:α→Ps→β × Ps} (h:Nn p) (hf:∀ x s,Dn s (f x s).2) (hk:∀ x s,TV s→Nn (f x s)):Nn (oY p f):=fun h0=>hk _ _ (h ((hf _ _).zero h0)) h0
variable {E:EP}
structure At (s:Ps) (l:List Wd):Prop where
 e:s.e=0
 ws:s.ws.map strip=l
theorem At.w {s:Ps} {x:Wd} {l:List Wd} (h:At s (x :: l)):strip s.w=x:=by
 obtain ⟨w,r,e1,e2,_⟩:=List.map_eq_cons_iff.1 h.ws
 unfold Ps.w
 rw [e1]
 exact e2
theorem At.kind {s:Ps} {x:Wd} {l:List Wd} (h:At s (x :: l)):s.w.kind=x.1∧s.w.text=x.2.1:=⟨congrArg Prod.fst h.w,congrArg (fun x:Wd=>x.2.1) h.w⟩
theorem At.next {s:Ps} {x y:Wd} {l:List Wd} (h:At s (x :: y :: l)) (hy:y.1 ≠ 9):At (eu s) (y :: l):=by
 obtain ⟨w,r,e1,e2,e3⟩:=List.map_eq_cons_iff.1 h.ws
 obtain ⟨w2,r2,g1,g2,g3⟩:=List.map_eq_cons_iff.1 e3
 obtain ⟨a,e,o,b⟩:=s
 obtain rfl:e=0:=h.e
 obtain rfl:a=w :: r:=e1
 rw [tP (by rw [g1];intro h9;exact hy (by rw [← g2];exact h9))]
 exact ⟨rfl,e3⟩
theorem At.take {s:Ps} {x y:Wd} {l:List Wd} (h:At s (x :: y :: l)) (hy:y.1 ≠ 9) (T:List UInt8):At (eu (jh s T)) (y :: l)∨(eu (jh s T)).e=51:=by
 rcases Kh h.e T with ⟨o,h1⟩ | h1
 ·rw [h1]
  exact .inl (At.next (s:=⟨s.ws,0,o,s.h⟩) ⟨rfl,h.ws⟩ hy)
 ·exact .inr (by rw [Nf (by omega)];exact h1)
theorem At.is {s:Ps} {x:Wd} {l:List Wd} (h:At s (x :: l)) (T:List UInt8):Cc s T=((decide (x.1=3) || decide (x.1=4)) && decide (x.2.1=T)):=by
 unfold Cc
 rw [h.e,h.kind.1,h.kind.2]
 simp
theorem Ng (s:Ps):(eu s).h=s.h:=by
 unfold eu
 split
 ·split<;>rfl
 ·rfl
theorem Cl.ae4 {c:Wd} (hc:Cl c):ki c.2.1=0:=by
 rcases hc.t with e | e | e<;>rw [e]<;>decide
def Il (T:List UInt8) (o:Int):Option Int:=if WD T=true then (if 100 < IntKind.i64.wrap (o+1) then none else some (IntKind.i64.wrap (o+1))) else if WE T=true then some (IntKind.i64.wrap (o - 1)) else some o
theorem Nh {s:Ps} (he:s.e=0) {T:List UInt8} {o:Int} (ho:Il T s.o=some o):jh s T=⟨s.ws,0,o,s.h⟩:=by
 obtain ⟨a,e,q,b⟩:=s
 obtain rfl:e=0:=he
 unfold Il at ho
 unfold jh
 split
 ·rename_i h
  rw [if_pos h] at ho
  split
  ·rename_i h2
   rw [if_pos h2] at ho
   cases ho
  ·rename_i h2
   rw [if_neg h2] at ho
   cases ho
   rfl
 ·rename_i h
  rw [if_neg h] at ho
  split
  ·rename_i h2
   rw [if_pos h2] at ho
   cases ho
   rfl
  ·rename_i h2
   rw [if_neg h2] at ho
   cases ho
   rfl
structure Ll (s:Ps) (l:List Wd) (o:Int):Prop where
 at':At s l
 h:s.h=false
 o:s.o=o
section
variable {s:Ps} {x y:Wd} {l:List Wd} {o:Int}
theorem Ll.next (h:Ll s (x :: y :: l) o) (hy:y.1 ≠ 9):Ll (eu s) (y :: l) o:=by
 refine ⟨h.at'.next hy,by rw [Ng,h.h],?_⟩
 rw [← h.o]
 unfold eu
 split
 ·split<;>rfl
 ·rfl
theorem Ll.yes (h:Ll s (x :: y :: l) o) (hy:y.1 ≠ 9) {T:List UInt8} (hT:((decide (x.1=3) || decide (x.1=4)) && decide (x.2.1=T))=true) {o':Int} (ho:Il T o=some o'):∃ s',jS s T=(true,s')∧uA s T=s'∧Ll s' (y :: l) o':=by
 have hi:Cc s T=true:=by rw [h.at'.is];exact hT
 have hb:=Nh h.at'.e (T:=T) (by rw [h.o];exact ho)
 refine ⟨eu (jh s T),?_,?_,?_⟩
 ·unfold jS
  rw [if_pos hi]
 ·rw [Ik,if_pos hi]
 ·rw [hb]
  exact Ll.next (s:=⟨s.ws,0,o',s.h⟩) ⟨⟨rfl,h.at'.ws⟩,h.h,rfl⟩ hy
theorem Ll.no (h:Ll s (x :: l) o) {T:List UInt8} (hT:((decide (x.1=3) || decide (x.1=4)) && decide (x.2.1=T))=false):jS s T=(false,s):=by
 unfold jS
 rw [h.at'.is,hT]
 rfl
theorem Ll.name {t:List UInt8} {i:Nat} (h:Ll s ((1,t,i) :: y :: l) o) (hy:y.1 ≠ 9):∃ s',zF s=(t,s')∧Ll s' (y :: l) o:=by
 refine ⟨eu s,?_,h.next hy⟩
 unfold zF
 rw [if_pos ⟨h.at'.e,h.at'.kind.1⟩,h.at'.kind.2]
end
def Ki (c:Wd) (T:List UInt8):Bool:=(decide (c.1=3) || decide (c.1=4)) && decide (c.2.1=T)
structure Bf (s:Ps) (l:List Wd) (o:Int) (h:Bool):Prop where
 at':At s l
 o:s.o=o
 h:s.h=h
section
variable {s:Ps} {x y:Wd} {l:List Wd} {o:Int} {h:Bool}
theorem Bf.mu (b:Bf s l o h):mu s=l.length:=by
 rw [vr b.at'.e,← b.at'.ws,List.length_map]
theorem Bf.next (b:Bf s (x :: y :: l) o h) (hy:y.1 ≠ 9):Bf (eu s) (y :: l) o h:=by
 refine ⟨b.at'.next hy,?_,by rw [Ng,b.h]⟩
 rw [← b.o]
 unfold eu
 split
 ·split<;>rfl
 ·rfl
theorem Bf.is (b:Bf s (x :: l) o h) (T:List UInt8):Cc s T=Ki x T:=b.at'.is T
theorem Bf.yes (b:Bf s (x :: y :: l) o h) (hy:y.1 ≠ 9) {T:List UInt8} (hT:Ki x T=true) {o':Int} (ho:Il T o=some o'):∃ s',jS s T=(true,s')∧uA s T=s'∧Bf s' (y :: l) o' h:=by
 have hi:Cc s T=true:=by rw [b.is];exact hT
 have hb:=Nh b.at'.e (T:=T) (by rw [b.o];exact ho)
 refine ⟨eu (jh s T),?_,?_,?_⟩
 ·unfold jS
  rw [if_pos hi]
 ·rw [Ik,if_pos hi]
 ·rw [hb]
  exact Bf.next (s:=⟨s.ws,0,o',s.h⟩) ⟨⟨rfl,b.at'.ws⟩,rfl,b.h⟩ hy
theorem Bf.no (b:Bf s (x :: l) o h) {T:List UInt8} (hT:Ki x T=false):jS s T=(false,s):=by
 unfold jS
 rw [b.is,hT]
 rfl
theorem Bf.name {t:List UInt8} {i:Nat} (b:Bf s ((1,t,i) :: y :: l) o h) (hy:y.1 ≠ 9):∃ s',zF s=(t,s')∧Bf s' (y :: l) o h:=by
 refine ⟨eu s,?_,b.next hy⟩
 unfold zF
 rw [if_pos ⟨b.at'.e,b.at'.kind.1⟩,b.at'.kind.2]
end
structure Fol (k:Nat) (h:Bool) (c:Wd):Prop where
 n9:c.1 ≠ 9
 dot:Ki c [46]=false
 bra:Ki c [91]=false
 par:Ki c [40]=false
 cur:h=false→Ki c [123]=false
 rk:c.1=3→ki c.2.1 < 6 - (k:Int)
theorem Fol.to {k j:Nat} {h:Bool} {c:Wd} (f:Fol k h c) (hj:j≤k):Fol j h c:=⟨f.n9,f.dot,f.bra,f.par,f.cur,fun h3=>by have:=f.rk h3;omega⟩
section
variable {E:EP} {n:Nat}
end
def W6 (x:Wd):Bool:=Ki x [116,114,117,101] || Ki x [102,97,108,115,101] || Ki x [108,101,110] || Ki x [97,112,112,101,110,100] || (decide (x.1=4) && decide (1 < RZ x.2.1))
section
variable {s:Ps} {x:Wd} {l tl:List Wd} {o:Int} {h:Bool} {E:EP} {n:Nat} {c:Wd}
theorem Bf.key (b:Bf s (x :: l) o h):WJ s=W6 x:=by
 unfold WJ W6
 rw [b.is,b.is,b.is,b.is,b.at'.kind.1,b.at'.kind.2]
end
section
variable {E:EP} {n:Nat} {s:Ps} {c:Wd} {tl:List Wd} {o:Int} {h:Bool}
theorem Bf.oQ (b:Bf s (c :: tl) o h) (h1:Ki c [46]=false) (h2:Ki c [91]=false) (m:Nat) (y:aj):Bc E m y s=(y,s):=by
 cases m with
 | zero=>rfl
 | succ m =>
  rw [TU,if_neg (by rw [b.at'.e];simp)]
  unfold oY
  rw [b.no h1]
  dsimp only
  rw [if_neg (by decide),b.no h2]
  rfl
end
inductive ym:Int→aH→Prop
 | var (d:Int) (n:List UInt8) (t:aA):d≤60→ak n=true→Na t→ym d (.mk 1 [n] t [] [] [] [] [])
 | set (d:Int) (ls es:List aj):d≤60→ls ≠ []→es ≠ []→(∀ x∈ls,dU x=true)→(∀ x∈ls,kA (d+1) x)→(∀ x∈es,kA (d+1) x)→ym d (.mk 2 [] aQ ls es [] [] [])
 | iff (d:Int) (x:aj) (b e:List aH):d≤60→kA (d+1) x→jg x=true→(∀ y∈b,ym (d+1) y)→(∀ y∈e,ym (d+1) y)→ym d (.mk 3 [] aQ [] [x] b e [])
 | fro (d:Int) (x:aj) (b:List aH):d≤60→kA (d+1) x→jg x=true→(∀ y∈b,ym (d+1) y)→ym d (.mk 4 [] aQ [] [x] b [] [])
 | swi (d:Int) (x:aj) (e:List aH) (cs:List cJ):d≤60→kA (d+1) x→jg x=true→(∀ y∈e,ym (d+1) y)→(∀ c∈cs,0≤c.int∧c.int≤18446744073709551615)→(∀ c∈cs,∀ y∈c.body,ym (d+2) y)→ym d (.mk 5 [] aQ [] [x] [] e cs)
 | ret (d:Int) (es:List aj):d≤60→es ≠ []→(∀ x∈es,kA (d+1) x)→ym d (.mk 6 [] aQ [] es [] [] [])
section
variable {E:EP} {n:Nat}
end
section
variable {E:EP} {S:SP} {n:Nat}
theorem Bf.num {s:Ps} {t:List UInt8} {i:Nat} {y:Wd} {l:List Wd} {o:Int} {h:Bool} (b:Bf s ((2,t,i) :: y :: l) o h) (hy:y.1 ≠ 9):∃ s',WH s=((i:Int),s')∧Bf s' (y :: l) o h:=by
 refine ⟨eu s,?_,b.next hy⟩
 unfold WH
 rw [if_pos ⟨b.at'.e,b.at'.kind.1⟩,show s.w.int=i from congrArg (fun x:Wd=>x.2.2) b.at'.w]
end
def TX (p:bH):Prop:=ak p.name=true∧Na p.type
def aaC (s:cG):Prop:=ak s.name=true∧∀ f∈s.fields,TX f
def aaD (f:cn):Prop:=ak f.name=true∧(∀ p∈f.params,TX p)∧f.results ≠ []∧(∀ t∈f.results,Na t)∧∀ s∈f.body,ym 0 s
def aaE (p:kW):Prop:=(∀ s∈p.structs,aaC s)∧∀ f∈p.funcs,aaD f
mutual
def qq:aH→Prop
 | .mk _ _ _ ls es b e cs=>mU ls∧mU es∧gL b∧gL e∧qG cs
def gL:List aH→Prop
 | []=>True
 | x :: l=>qq x∧gL l
def qG:List cJ→Prop
 | []=>True
 | .mk i b :: l=>(0≤i∧i≤18446744073709551615)∧gL b∧qG l
end
def uE (p:kW):Prop:=∀ f∈p.funcs,gL f.body
theorem w8 (x:aH) (l:List aH):gL (x :: l)=(qq x∧gL l):=by rw [gL]
theorem xb (i:Int) (b:List aH) (l:List cJ):qG (.mk i b :: l)=((0≤i∧i≤18446744073709551615)∧gL b∧qG l):=by rw [qG]
theorem mW:∀ {l:List aH},gL l→∀ x∈l,qq x
 | y :: l,h,x,hx=>by
  rw [w8] at h
  rcases List.mem_cons.1 hx with e | hx
  ·rw [e];exact h.1
  ·exact mW h.2 x hx
theorem tQ:∀ {l:List cJ},qG l→∀ c∈l,(0≤c.int∧c.int≤18446744073709551615)∧gL c.body
 | .mk i b :: l,h,c,hc=>by
  rw [xb] at h
  rcases List.mem_cons.1 hc with e | hc
  ·rw [e];exact ⟨h.1,h.2.1⟩
  ·exact tQ h.2.2 c hc
theorem DJ {l:List aj} {d p:Int} (h:(ep l d p).1=true) (hn:mU l):∀ x∈l,kA d x:=w7 l d p (aJ (f:=fun p=>eR l d p) h).1 hn
theorem Kk {d p:Int} (h:(cr d p).1=true):d≤60:=by
 have h':bA d p=true:=h
 unfold bA at h'
 rw [Bool.and_eq_true,decide_eq_true_iff,decide_eq_true_iff] at h'
 exact h'.2
def aaF:List (List UInt8)→Bool
 | [x]=>ak x
 | _=>false
def aaG:List aj→Bool
 | [x]=>decide (x.kind=7)
 | _=>false
def TY:List aj→Bool
 | [x]=>jg x
 | _=>false
theorem Nj (k:Int) (ns:List (List UInt8)) (ty:aA) (ls es:List aj) (b e:List aH) (cs:List cJ):fW (.mk k ns ty ls es b e cs)=(if k=1 then decide (es.length=0) && aaF ns && decide (ls=[]) && decide (b.length=0) && decide (e.length=0) && decide (cs.length=0)
 else if k=2 then decide (0 < ls.length) && (decide (es.length=ls.length) || aaG es) && ls.all dU && (decide (ns=[]) && dB ty) && decide (b.length=0) && decide (e.length=0) && decide (cs.length=0)
 else if k=3 then (decide (ns=[]) && dB ty) && decide (ls=[]) && TY es && decide (cs.length=0)
 else if k=4 then (decide (ns=[]) && dB ty) && decide (ls=[]) && TY es && decide (e.length=0) && decide (cs.length=0)
 else if k=5 then (decide (ns=[]) && dB ty) && decide (ls=[]) && TY es && decide (b.length=0)
 else if k=6 then (decide (ns=[]) && dB ty) && decide (ls=[]) && decide (0 < es.length) && decide (b.length=0) && decide (e.length=0) && decide (cs.length=0)
 else false):=rfl
theorem vt:∀ (n:Nat) (x:aH) (d p:Int),(ia n x d p).1=true→qq x→ym d x
 | 0,_,_,_,h,_=>by cases h
 | n+1,.mk k ns ty ls es b e cs,d,p,h,hn=>by
  obtain ⟨hp,h⟩:=aJ (f:=cr d) h
  obtain ⟨hz,h⟩:=aJ h
  obtain ⟨ht,h⟩:=aJ h
  obtain ⟨hc,h⟩:=aJ h
  obtain ⟨hl,h⟩:=aJ h
  obtain ⟨hx,h⟩:=aJ h
  obtain ⟨hb,he⟩:=aJ h
  have hd:=Kk hp
  unfold qq at hn
  obtain ⟨n1,n2,n3,n4,n5⟩:=hn
  have gl:=DJ hl n1
  have gx:=DJ hx n2
  have gb:∀ y∈b,ym (d+1) y:=fun y hy=>by
   obtain ⟨q,hq⟩:=fo (f:=fun x=>ia n x (d+1)) _ _ hb y hy
   exact vt n y _ q hq (mW n3 y hy)
  have ge:∀ y∈e,ym (d+1) y:=fun y hy=>by
   obtain ⟨q,hq⟩:=fo (f:=fun x=>ia n x (d+1)) _ _ he y hy
   exact vt n y _ q hq (mW n4 y hy)
  have gc:∀ c∈cs,∀ y∈c.body,ym (d+2) y:=fun c yx y hy=>by
   obtain ⟨q,hq⟩:=wL _ _ _ hc c yx y hy
   exact vt n y _ q hq (mW (tQ n5 c yx).2 y hy)
  have hi:∀ c∈cs,0≤c.int∧c.int≤18446744073709551615:=fun c yx=>(tQ n5 c yx).1
  have Yo:(fW (.mk k ns ty ls es b e cs) && decide (cs.length≤40))=true:=hz
  rw [Bool.and_eq_true] at Yo
  have tf:=Yo.1
  rw [Nj] at tf
  by_cases k1:k=1
  ·subst k1
   rw [if_pos rfl] at tf
   simp only [Bool.and_eq_true,decide_eq_true_eq] at tf
   obtain ⟨⟨⟨⟨⟨h1,h2⟩,h3⟩,h4⟩,h5⟩,h6⟩:=tf
   obtain rfl:=List.eq_nil_of_length_eq_zero h1
   obtain rfl:=h3
   obtain rfl:=List.eq_nil_of_length_eq_zero h4
   obtain rfl:=List.eq_nil_of_length_eq_zero h5
   obtain rfl:=List.eq_nil_of_length_eq_zero h6
   have gR:Na ty:=by
    rw [if_pos (show (aH.mk 1 ns ty [] [] [] [] []).kind=1 from rfl)] at ht
    exact nE ty _ _ ht
   match ns,h2 with
   | [m],h2=>exact .var d m ty hd h2 gR
   | [],h2=>cases h2
   | _ :: _ :: _,h2=>cases h2
  rw [if_neg k1] at tf
  by_cases k2:k=2
  ·subst k2
   rw [if_pos rfl] at tf
   simp only [Bool.and_eq_true,decide_eq_true_eq,List.all_eq_true] at tf
   obtain ⟨⟨⟨⟨⟨⟨h1,h2⟩,h3⟩,h4,h5⟩,h6⟩,h7⟩,h8⟩:=tf
   obtain rfl:=h4
   obtain rfl:=mV h5
   obtain rfl:=List.eq_nil_of_length_eq_zero h6
   obtain rfl:=List.eq_nil_of_length_eq_zero h7
   obtain rfl:=List.eq_nil_of_length_eq_zero h8
   have vn:ls ≠ []:=by rintro rfl;exact absurd h1 (by decide)
   have FF:es ≠ []:=by
    rintro rfl
    rw [Bool.or_eq_true,decide_eq_true_eq] at h2
    rcases h2 with h2 | h2
    ·have h2:0=ls.length:=h2
     omega
    ·cases h2
   exact .set d ls es hd vn FF h3 gl gx
  rw [if_neg k2] at tf
  by_cases k3:k=3
  ·subst k3
   rw [if_pos rfl] at tf
   simp only [Bool.and_eq_true,decide_eq_true_eq] at tf
   obtain ⟨⟨⟨⟨h1,h2⟩,h3⟩,h4⟩,h5⟩:=tf
   obtain rfl:=h1
   obtain rfl:=mV h2
   obtain rfl:=h3
   obtain rfl:=List.eq_nil_of_length_eq_zero h5
   match es,h4,gx with
   | [x],h4,gx=>exact .iff d x b e hd (gx x List.mem_cons_self) h4 gb ge
   | [],h4,_=>cases h4
   | _ :: _ :: _,h4,_=>cases h4
  rw [if_neg k3] at tf
  by_cases k4:k=4
  ·subst k4
   rw [if_pos rfl] at tf
   simp only [Bool.and_eq_true,decide_eq_true_eq] at tf
   obtain ⟨⟨⟨⟨⟨h1,h2⟩,h3⟩,h4⟩,h6⟩,h5⟩:=tf
   obtain rfl:=h1
   obtain rfl:=mV h2
   obtain rfl:=h3
   obtain rfl:=List.eq_nil_of_length_eq_zero h5
   obtain rfl:=List.eq_nil_of_length_eq_zero h6
   match es,h4,gx with
   | [x],h4,gx=>exact .fro d x b hd (gx x List.mem_cons_self) h4 gb
   | [],h4,_=>cases h4
   | _ :: _ :: _,h4,_=>cases h4
  rw [if_neg k4] at tf
  by_cases k5:k=5
  ·subst k5
   rw [if_pos rfl] at tf
   simp only [Bool.and_eq_true,decide_eq_true_eq] at tf
   obtain ⟨⟨⟨⟨h1,h2⟩,h3⟩,h4⟩,h5⟩:=tf
   obtain rfl:=h1
   obtain rfl:=mV h2
   obtain rfl:=h3
   obtain rfl:=List.eq_nil_of_length_eq_zero h5
   match es,h4,gx with
   | [x],h4,gx=>exact .swi d x e cs hd (gx x List.mem_cons_self) h4 ge hi gc
   | [],h4,_=>cases h4
   | _ :: _ :: _,h4,_=>cases h4
  rw [if_neg k5] at tf
  by_cases k6:k=6
  ·subst k6
   rw [if_pos rfl] at tf
   simp only [Bool.and_eq_true,decide_eq_true_eq] at tf
   obtain ⟨⟨⟨⟨⟨⟨h1,h2⟩,h3⟩,h4⟩,h5⟩,h6⟩,h7⟩:=tf
   obtain rfl:=h1
   obtain rfl:=mV h2
   obtain rfl:=h3
   obtain rfl:=List.eq_nil_of_length_eq_zero h5
   obtain rfl:=List.eq_nil_of_length_eq_zero h6
   obtain rfl:=List.eq_nil_of_length_eq_zero h7
   exact .ret d es hd (by rintro rfl;exact absurd h4 (by decide)) gx
  rw [if_neg k6] at tf
  cases tf
theorem Gq {jR:Nat} {l:List bH} {p:Int} (h:(Ds jR l p).1=true):∀ x∈l,TX x:=by
 obtain ⟨h1,h2⟩:=aJ (f:=cq (fun x:bH=>aP (cr 0) (fun p=>eK ak x.type 0 p)) l) h
 have h2:(decide (l.length≤jR) && gK l.length (l.map bH.name))=true:=h2
 rw [Bool.and_eq_true] at h2
 have hn:=uD (l:=l.map bH.name) (by rw [List.length_map];exact h2.2)
 intro x hx
 obtain ⟨q,hq⟩:=fo (f:=fun x:bH=>aP (cr 0) (fun p=>eK ak x.type 0 p)) _ _ h1 x hx
 obtain ⟨_,hq⟩:=aJ (f:=cr 0) hq
 exact ⟨hn _ (List.mem_map_of_mem hx),nE x.type 0 _ hq⟩
theorem Qg {n:Nat} {x:kW} {p:Int} (h:(nT n x p).1=true) (hn:uE x):aaE x:=by
 obtain ⟨h1,h2⟩:=aJ (f:=cq Dt x.structs) h
 refine ⟨fun s hs=>?_,fun f hf=>?_⟩
 ·obtain ⟨q,hq⟩:=fo (f:=Dt) _ _ h1 s hs
  obtain ⟨_,hq⟩:=aJ (f:=cr 0) hq
  obtain ⟨h3,hq⟩:=aJ (f:=cA (ak s.name)) hq
  exact ⟨h3,Gq hq⟩
 ·obtain ⟨q,hq⟩:=fo (f:=uZ n) _ _ h2 f hf
  obtain ⟨_,hq⟩:=aJ (f:=cr 0) hq
  obtain ⟨h3,hq⟩:=aJ (f:=cA (ak f.name)) hq
  obtain ⟨h4,hq⟩:=aJ (f:=Ds 20 f.params) hq
  obtain ⟨h5,hq⟩:=aJ hq
  obtain ⟨h6,h7⟩:=aJ hq
  have h5:(decide (1≤f.results.length) && decide (f.results.length≤20))=true:=h5
  rw [Bool.and_eq_true,decide_eq_true_eq,decide_eq_true_eq] at h5
  refine ⟨h3,Gq h4,?_,fun t ht=>?_,fun s hs=>?_⟩
  ·intro e
   rw [e] at h5
   exact absurd h5.1 (by decide)
  ·obtain ⟨q,hq⟩:=fo (f:=fun t p=>eK ak t 0 p) _ _ h6 t ht
   exact nE t 0 _ hq
  ·obtain ⟨q,hq⟩:=fo (f:=fun s=>ia n s 0) _ _ h7 s hs
   exact vt n s 0 q hq (mW (hn f hf) s hs)
end Go.Proofs.YtnfnbjjnjjdjdaaGreatDoor
namespace Go.Proofs.YtnfnbjjnjjdjdaaGreatDoor
open Go.RowKit Go.Av Go.Ab
set_option linter.unusedSimpArgs false
set_option maxRecDepth 100000
set_option linter.defProp false
def c99:=by
 have c:=aM Tryz.f99 (by conv=>lhs;cbv)
 dsimp only [KK,eN,eG,eH,List.map_cons,List.map_nil,List.toList_toArray] at c
 exact c
theorem b99:bI Tryz.prog 99 Tryz.f99 17:=⟨Tryz.func99,by kernel_rfl⟩
def xd (a b:Int):Int:=if a < 0∨b < 0∨60000 < a+b then -1 else a+b
theorem Qh (t:aA) (B:List (List V)) (T:List (Nat × Nat)):aF Tryz.prog av 99 [aY t] ⟨B,T⟩ (aB (.d (.bool (dB t))) ⟨B,T⟩):=by
 obtain ⟨N,hn⟩:∃ N,B.length=N:=⟨_,rfl⟩
 unfold aY dB
 have OI:decide ((t.elem.length:Int)=0)=decide (t.elem.length=0):=by
  rw [decide_eq_decide];omega
 cases e1:decide (t.kind=0)<;>cases e2:decide (t.name=[])
 all_goals
  refine b99.go 60 rfl fun bk=>?_
  simp only [dP] at bk
  simp only [W,seval,c99,hn,e1,e2,OI]
  refine af.ret Tryz.func99 rfl (Left.box ?_)
  first | exact ⟨rfl,rfl⟩ | (refine ⟨?_,rfl⟩;simp_all)
end Go.Proofs.YtnfnbjjnjjdjdaaGreatDoor
namespace Go.Proofs.YtnfnbjjnjjdjdaaGreatDoor
open Go.RowKit Go.Av
set_option linter.unusedVariables false
def eW {α:Type} (nm:α→List UInt8):List α→List UInt8→Option α
 | [],_=>none
 | x :: l,n=>if nm x=n then some x else eW nm l n
def iI (k:Int):Int:=if k=2 then 255 else if k=3 then 2147483647 else if k=4 then 9223372036854775807 else if k=5 then 4294967295 else if k=6 then 18446744073709551615 else 0
def kB (k:Int):Bool:=decide (2≤k) && decide (k≤6)
theorem Nk (k:Int):kB k=decide (0 < iI k):=by
 unfold kB iI
 repeat' split
 all_goals (rename_i h;first | (subst h;decide) | skip)
 rw [Bool.eq_iff_iff]
 simp
 omega
def bz:aA:=.mk 1 [] []
def cg:aA:=.mk 4 [] []
def tR:aA:=.mk 6 [] []
structure bP where
 su:List cG
 fu:List cn
 vs:List bH
def bQ (su:List cG):aA→Bool
 | .mk k n es=>if k=8 then (match es with
  | e :: _=>bQ su e
  | []=>false) else decide (k ≠ 7) || (eW cG.name su n).isSome
def fq (su:List cG) (fu:List cn) (s:List UInt8):Bool:=(eW cG.name su s).isNone && (eW cn.name fu s).isNone && !(s == [95])
def ic:aj→Bool
 | .mk k _ _ _ _ ks=>decide (k=2) || decide (k=5) && (match ks with
  | y :: _=>decide (y.kind=2)
  | []=>false)
def setType:aj→aA→aj
 | .mk k t i _ ns ks,ty=>.mk k t i ty ns ks
def aT:aj→List aj→aj
 | .mk k t i ty ns _,ks=>.mk k t i ty ns ks
def kY (su:List cG) (t:aA) (n:List UInt8):Option aA :=
 if t.kind=7 then (match eW cG.name su t.name with
  | some s=>(eW bH.name s.fields n).map bH.type
  | none=>none) else none
def gM (t:aA):Option aA:=if t.kind=8 then t.elem.head? else none
def nA (x:aj) (want:aA):Option (aj × aA) :=
 if x.kind=5 then (match x.kids with
  | y :: ks=>if (want.kind=3∨want.kind=4)∧y.int≤iI want.kind+1 then some (aT x (setType y want :: ks),want) else none
  | []=>none)
 else if iI want.kind=0∨iI want.kind < x.int then none else some (setType x want,want)
def bf (r:Option (aj × aA)) (t:aA):Option aj :=
 match r with
 | some (y,u)=>if qF u t=true then some y else none
 | none=>none
def sC (fa fb:aA→Option (aj × aA)) (la:Bool) (w:aA):Option (aj × aj × aA) :=
 if la=true then (match fb w with
  | some (b,t)=>(bf (fa t) t).map fun a=>(a,b,t)
  | none=>none)
 else (match fa w with
  | some (a,t)=>(bf (fb t) t).map fun b=>(a,b,t)
  | none=>none)
def kZ (t:List UInt8):Bool:=t == [38,38] || t == [124,124]
def shift (t:List UInt8):Bool:=t == [60,60] || t == [62,62]
def alike (t:List UInt8):Bool:=t == [61,61] || t == [33,61]
def order (t:List UInt8):Bool:=t == [60] || t == [60,61] || t == [62] || t == [62,61]
def qs (fa fb:aA→Option (aj × aA)) (la:Bool) (tx:List UInt8) (want:aA):Option (aj × aj × aA) :=
 if kZ tx=true then (match bf (fa bz) bz,bf (fb bz) bz with
  | some a,some b=>some (a,b,bz)
  | _,_=>none)
 else if shift tx=true then (match fa want with
  | some (a,t)=>if kB t.kind=true then (bf (fb tR) tR).map fun b=>(a,b,t) else none
  | none=>none)
 else if alike tx=true then (match sC fa fb la aQ with
  | some (a,b,t)=>if kB t.kind=true∨t.kind=1 then some (a,b,bz) else none
  | none=>none)
 else if order tx=true then (match sC fa fb la aQ with
  | some (a,b,t)=>if kB t.kind=true then some (a,b,bz) else none
  | none=>none)
 else (match sC fa fb la want with
  | some (a,b,t)=>if kB t.kind=true then some (a,b,t) else none
  | none=>none)
def xe (f:Option cn) (al:List aA→Option (List aj)):Option (List aj × List aA) :=
 match f with
 | some f=>(al (f.params.map bH.type)).map fun ks=>(ks,f.results)
 | none=>none
mutual
def aE (E:bP):aj→aA→Option (aj × aA)
 | .mk k tx i ty ns ks,want =>
  if k=3 then some (.mk k tx i ty ns ks,bz)
  else if k=1 then (eW bH.name E.vs tx).map fun p=>(.mk k tx i ty ns ks,p.type)
  else if k=6 then (match ks with
   | [a,b]=>(qs (aE E a) (aE E b) (ic a) tx want).map fun r=>(.mk k tx i ty ns [r.1,r.2.1],r.2.2)
   | _=>none)
  else if k=7 then (match xe (eW cn.name E.fu tx) (bt E ks) with
   | some (l,[t])=>some (.mk k tx i ty ns l,t)
   | _=>none)
  else if k=9 then (match ks with
   | [a]=>(match aE E a aQ with
    | some (a,t)=>(kY E.su t tx).map fun f=>(.mk k tx i ty ns [a],f)
    | none=>none)
   | _=>none)
  else if k=12 then (match ks with
   | [a]=>(match aE E a aQ with
    | some (a,t)=>(gM t).map fun _=>(.mk k tx i ty ns [a],cg)
    | none=>none)
   | _=>none)
  else if k=10 then (match ks with
   | [a,b]=>(match aE E a aQ with
    | some (a,t)=>(gM t).bind fun e=>(bf (aE E b cg) cg).map fun b=>(.mk k tx i ty ns [a,b],e)
    | none=>none)
   | _=>none)
  else if k=11 then (match ks with
   | [a,b,c]=>(match aE E a aQ with
    | some (a,t)=>(gM t).bind fun _=>(bf (aE E b cg) cg).bind fun b=>(bf (aE E c cg) cg).map fun c=>(.mk k tx i ty ns [a,b,c],t)
    | none=>none)
   | _=>none)
  else if k=13 then (match ks with
   | [a,b]=>(match aE E a want with
    | some (a,t)=>(gM t).bind fun e=>(bf (aE E b e) e).map fun b=>(.mk k tx i ty ns [a,b],t)
    | none=>none)
   | _=>none)
  else if k=14 then (if bQ E.su ty=true then ((ns.mapM (kY E.su ty)).bind (bt E ks)).map fun l=>(.mk k tx i ty ns l,ty) else none)
  else if k=15 then (if bQ E.su ty=true then ((gM ty).bind fun e=>bt E ks (List.replicate ks.length e)).map fun l=>(.mk k tx i ty ns l,ty) else none)
  else if ic (.mk k tx i ty ns ks)=true then nA (.mk k tx i ty ns ks) want
  else if k=4 then (match ks with
   | [a]=>(bf (aE E a bz) bz).map fun a=>(.mk k tx i ty ns [a],bz)
   | _=>none)
  else if k=5 then (match ks with
   | [a]=>(match aE E a want with
    | some (a,t)=>if kB t.kind=true then some (.mk k tx i ty ns [a],t) else none
    | none=>none)
   | _=>none)
  else (match ks with
   | [a]=>if ic a=true then (bf (aE E a ty) ty).map fun a=>(.mk k tx i ty ns [a],ty)
    else (match aE E a aQ with
     | some (a,t)=>if kB t.kind=true then some (.mk k tx i ty ns [a],ty) else none
     | none=>none)
   | _=>none)
def bt (E:bP):List aj→List aA→Option (List aj)
 | [],[]=>some []
 | x :: l,t :: ts=>(match bf (aE E x t) t with
  | some y=>(bt E l ts).map fun l=>y :: l
  | none=>none)
 | _,_=>none
end
def kj (E:bP) (x:aj):Option (aj × List aA):=(xe (eW cn.name E.fu x.text) (bt E x.kids)).map fun r=>(aT x r.1,r.2)
def cY (E:bP) (l:List aj) (ts:List aA):Option (List aj) :=
 match l with
 | [x]=>if 1 < ts.length∧x.kind=7 then (match kj E x with
  | some (y,rs)=>if fK rs ts=true then some [y] else none
  | none=>none)
  else bt E l ts
 | l=>bt E l ts
def lf (E:bP):List aj→Option (List aA)
 | []=>some []
 | x :: l=>match aE E x aQ with
  | some (_,t)=>(lf E l).map fun ts=>t :: ts
  | none=>none
mutual
def gh (su:List cG) (fu:List cn) (res:List aA):aH→List bH→Option (aH × List bH)
 | .mk k ns ty ls es b e cs,vs =>
  if k=1 then (match ns with
   | n :: _=>if (eW bH.name vs n).isNone=true∧fq su fu n=true∧bQ su ty=true then some (.mk k ns ty ls es b e cs,vs++[⟨n,ty⟩]) else none
   | []=>none)
  else if k=2 then (match lf ⟨su,fu,vs⟩ ls with
   | some ts=>(cY ⟨su,fu,vs⟩ es ts).map fun es=>(.mk k ns ty ls es b e cs,vs)
   | none=>none)
  else if k=6 then (cY ⟨su,fu,vs⟩ es res).map fun es=>(.mk k ns ty ls es b e cs,vs)
  else (match es with
   | [x]=>if k=5 then (match aE ⟨su,fu,vs⟩ x aQ with
    | some (x,t)=>if kB t.kind=true then (match fM su fu res (iI t.kind) cs vs with
     | some cs=>(bU su fu res e vs).map fun e=>(.mk k ns ty ls [x] b e cs,vs)
     | none=>none) else none
    | none=>none)
    else (match bf (aE ⟨su,fu,vs⟩ x bz) bz with
     | some x=>(match bU su fu res b vs with
      | some b=>(bU su fu res e vs).map fun e=>(.mk k ns ty ls [x] b e cs,vs)
      | none=>none)
     | none=>none)
   | _=>none)
def bU (su:List cG) (fu:List cn) (res:List aA):List aH→List bH→Option (List aH)
 | [],_=>some []
 | s :: l,vs=>(match gh su fu res s vs with
  | some (s,vs)=>(bU su fu res l vs).map fun l=>s :: l
  | none=>none)
def fM (su:List cG) (fu:List cn) (res:List aA) (top:Int):List cJ→List bH→Option (List cJ)
 | [],_=>some []
 | .mk i b :: l,vs=>if top < i then none else (match bU su fu res b vs with
  | some b=>(fM su fu res top l vs).map fun l=>.mk i b :: l
  | none=>none)
end
mutual
def xg:aH→Bool
 | .mk k _ _ _ _ b e cs=>decide (k=6) || (dV e && (decide (k=5) || decide (k=3) && dV b) && nV cs)
def dV:List aH→Bool
 | []=>false
 | s :: l=>(match l with
  | []=>xg s
  | _ :: _=>dV l)
def nV:List cJ→Bool
 | []=>true
 | .mk _ b :: l=>dV b && nV l
end
end Go.Proofs.YtnfnbjjnjjdjdaaGreatDoor
namespace Go.Proofs.YtnfnbjjnjjdjdaaGreatDoor
open Go.RowKit Go.Av Go.Ab
set_option linter.unusedSimpArgs false
set_option maxRecDepth 100000
set_option linter.defProp false
def c13:=by
 have c:=aM Tryz.f13 (by conv=>lhs;cbv)
 dsimp only [KK,eN,eG,eH,List.map_cons,List.map_nil,List.toList_toArray] at c
 exact c
theorem Qi {I:Inv} {z:Nat × Nat} {fn:FuncId} {R:V→Mem→Prop} {k:List Item} {env:List V} {S:Mem} {P:Program} {f:Func} {v:V} {a:Nat} {t:TypeId} (hf:P.funcs[fn]? = some f) (hr:f.results.toList=[.cell a t]) (h1:ff P S t (env.getD a .undef)=some v) (hR:R v S):af P I z fn (.code .ret :: k) env S R :=
 af.ret hf (by rw [hr];exact h1) hR
theorem cH {I:Inv} {z:Nat × Nat} {fn:FuncId} {R:V→Mem→Prop} {k:List Item} {env:List V} {S:Mem} {P:Program} {f:Func} {v u:V} {a b:Nat} {t:TypeId} (hf:P.funcs[fn]? = some f) (hr:f.results.toList=[.cell a t,.tmp b]) (h1:ff P S t (env.getD a .undef)=some v) (h2:env.getD b .undef=u) (hR:R (.bY [v,u]) S):af P I z fn (.code .ret :: k) env S R :=
 af.ret hf (by rw [hr];simp only [Cy,uk,h1,h2]) hR
def jK (t:aA):List V:=[.d (.int .i64 t.kind),.d (.str t.name),.d (.sl (t.elem.map dR))]
def xh {α:Type} (nm:α→List UInt8):List α→List UInt8→Int→Int
 | [],_,_=>-1
 | x :: l,n,i=>if nm x=n then i else xh nm l n (i+1)
theorem Im {α:Type} (nm:α→List UInt8):∀ (l:List α) (n:List UInt8) (i:Int),0≤i→(xh nm l n i = -1∧eW nm l n=none)∨∃ (j:Nat) (x:α),xh nm l n i=i+j∧l[j]? = some x∧eW nm l n=some x
 | [],_,_,_=>.inl ⟨rfl,rfl⟩
 | x :: l,n,i,hi=>by
  by_cases h:nm x=n
  ·exact .inr ⟨0,x,by simp [xh,h],rfl,by simp [eW,h]⟩
  ·rcases Im nm l n (i+1) (by omega) with ⟨h1,h2⟩ | ⟨j,y,h1,h2,h3⟩
   ·exact .inl ⟨by simp [xh,h,h1],by simp [eW,h,h2]⟩
   ·exact .inr ⟨j+1,y,by simp [xh,h,h1];omega,by simpa using h2,by simp [eW,h,h3]⟩
def TZ (su:List cG) (fu:List cn) (vv:V) (res:List aA):List V:=[.d (.sl (su.map ef)),.d (.sl (fu.map cT)),vv,.d (.sl (res.map dR))]
inductive TW:aA→Prop
 | leaf (k:Int) (n:List UInt8) (es:List aA):k ≠ 8→TW (.mk k n es)
 | sl (n:List UInt8) (t:aA):TW t→TW (.mk 8 n [t])
theorem TW.zN {t:aA} (h:Na t):TW t:=by
 induction h with
 | WZ k h1 h2=>exact .leaf k _ _ (by omega)
 | Nb n h=>exact .leaf 7 _ _ (by omega)
 | W0 t h ih=>exact .sl _ t ih
structure og (l:List cG) (m:List cn):Prop where
 su:l.length≤60000
 fu:m.length≤60000
 fl:∀ s∈l,s.fields.length≤60000∧∀ f∈s.fields,TW f.type
 pa:∀ f∈m,f.params.length≤60000∧f.results.length≤60000∧(∀ p∈f.params,TW p.type)∧∀ t∈f.results,TW t
theorem zO (su:List cG) (n:List UInt8) (t:aA):bQ su (.mk 8 n [t])=bQ su t:=by
 conv=>lhs;unfold bQ
 exact if_pos rfl
theorem uF (su:List cG) (k:Int) (n:List UInt8) (es:List aA) (hk:k ≠ 8):bQ su (.mk k n es)=(decide (k ≠ 7) || (eW cG.name su n).isSome):=by
 unfold bQ
 rw [if_neg hk]
def Gr (r:Option aA) (v:V):Prop :=
 match r with
 | some t=>v = .bY [aY t,.d (.bool true)]
 | none=>v = .bY [aY aQ,.d (.bool false)]
theorem Qj (i n cap:Nat):mL (.bx i n cap)=none:=rfl
theorem Qk (e a b:Nat) (g:Bool) (z:List V) (i n cap:Nat):tu ⟨.slice e,a,b,g,z⟩ (.bx i n cap)=some (.d (.int .i64 (n:Int))):=rfl
theorem Ql (P:Program) (e a b:Nat) (g:Bool) (z:List V) (i n cap:Nat) (k:Int):Ax P ⟨.slice e,a,b,g,z⟩ (.bx i n cap) k=match bD P e with
 | some te=>if 0≤k∧k < (n:Int) then some (.ptr i (k.toNat * te.size)) else none
 | none=>none:=rfl
set_option linter.defProp false in
def iL:=And.intro Qj (And.intro Qk Ql)
def iU (B:List (List V)) (c:Nat) (vv:V) (vs:List bH):Prop :=
 (vs=[]∧vv = .sl [] .full)∨∃ (i cap:Nat) (J:List V),vv = .bx i vs.length cap∧i ≠ c∧B[i]? = some ((vs.map gf).flatten.map .d++J)∧J.length=(cap - vs.length) * 4∧vs.length≤cap∧vs.length≤9223372036854775806
theorem iU.more {B J:List (List V)} {c:Nat} {vv:V} {vs:List bH} (h:iU B c vv vs):iU (B++J) c vv vs:=by
 rcases h with h | ⟨i,cap,K,h1,h2,h3,h4⟩
 ·exact .inl h
 ·exact .inr ⟨i,cap,K,h1,h2,by rw [ah (List.getElem?_eq_some_iff.1 h3).1];exact h3,h4⟩
theorem rj (vs:List bH):(vs.map gf).flatten.length=vs.length * 4:=by
 induction vs with
 | nil=>rfl
 | cons p l ih=>rw [List.map_cons,List.flatten_cons,List.length_append,ih,List.length_cons];simp [gf];omega
end Go.Proofs.YtnfnbjjnjjdjdaaGreatDoor
