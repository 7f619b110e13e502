/- Whatever the program, gotype.Check and the document answer alike. Part 3 of 7 of the proof. -/
import Derived.Test.YtnfnbjjnjjdjdaaGreatDoorGotypeChecksb
import Derived.Test.YtnfnbjjnjjdjdaaGreatDoorRows
import Derived.ProofKit
set_option linter.defProp false
set_option linter.unusedSimpArgs false
set_option linter.unusedVariables false
set_option maxRecDepth 100000
set_option maxHeartbeats 8000000
namespace Go.Proofs.YtnfnbjjnjjdjdaaGreatDoor
open _root_.Go.Proofs.Tryz
open Go.RowKit Go.Av
set_option maxRecDepth 100000 in
theorem NC (g off cap:Nat) (bs:List UInt8) (k p:Nat) (w:World) (hg:g < w.heap.size) (gh:bs.length≤cap) (yM:cap≤9223372036854775807) (hk:k≤bs.length)
 (IF:jx bs k=p) (hc:∀ j u,(bv bs)[j]? = some u→w.cell? ⟨g,off+j,none⟩=some u) (hp:p < bs.length) (hl:fJ (bs.getD p 0)=false) (hd:gA (bs.getD p 0)=true) :
 Calls prog 128 #[.slice (some ⟨g,off,none⟩) bs.length cap,.int .i64 (k:Int)] w (KM (kf bs p) w):=by
 have Cs:bs[p]? = some (bs.getD p 0):=by rw [dm,au hp];rfl
 have hbp:=tE Cs
 have hr:∀ b:Bool,iY bs p=b→kf bs p=if b=true then (r8 bs p,0) else (fS.zero,50):=by
  intro b hb;unfold kf;rw [aq ak,aq (by rw [hl];decide),aD hd,hb]
 have Pb:(p:Int) < bs.length:=ak;have hpe:((p:Int) == (bs.length:Int))=false:=cB.2 ak;have hpc:p < cap:=ak;have qA:=fun W hg hc=>T7 g off cap bs p W hg gh yM hp hc;have abK:p≤bs.length:=by rw [← IF];exact qw bs k
 have oD:=fun W hg hc=>tF g off cap bs k W hg gh ak hk hc;rw [IF] at oD;have yZ:=Lib.hid oD;have HC:=Lib.hid hc;clear oD hc IF;have uA:(k:Int)≤bs.length:=ak;have HBP:=Lib.hid hbp;have HR:=Lib.hid hr;have HL:=Lib.hid hl;have HD:=Lib.hid hd;have ai5:=Lib.hid qA;clear hbp hr hl hd Cs qA;generalize bs.getD p 0=c at *
 go_enter func128,Tryz.ntmps128
 go_wp2_with fail
 refine (yZ.out _ fk (fun j u hu=>by rw [iX _ _ _ hg];exact HC.out j u hu)).mono ?_;rintro e w2 ⟨rfl,xV⟩;have ve:Below (kg w).heap.size (kg w) w2:=xV;clear xV;have XN:Below w.heap.size w w2:=(pK w).trans (ve.mono (by rw [jg];omega));have Is:=ve.size;rw [jg] at Is;have l8:∀ j u,(bv bs)[j]? = some u→w2.cell? ⟨g,off+j,none⟩=some u:=fun j u hu=>by rw [XN.cell (p:=⟨g,off+j,none⟩) hg];exact HC.out j u hu
 have Wu:=Lib.hid l8;have Pa:=Lib.hid ve;clear l8;have FF:w2.cell? ⟨g,off+p,none⟩=some (.int .u8 (c.toNat:Int)):=Wu.out p _ HBP.out;clear ve
 go_wp2_with fail
 refine (sx c _ rfl _).mono ?_;rintro e' w3 ⟨rfl,rfl⟩;rw [HL.out]
 go_wp2_with fail
 refine (Aa c _ rfl _).mono ?_;rintro e' w3 ⟨rfl,rfl⟩;rw [HD.out]
 go_wp2_with fail
 refine (ai5.out _ ak Wu.out).mono ?_;rintro e' w3 ⟨rfl,hb4⟩;have Eb:Below (kg w).heap.size (kg w) w3:=Pa.out.trans (hb4.mono Pa.out.size);have XO:∀ o:Obj,Below (kg w).heap.size (kg w) (w3.alloc o):=fun o=>Eb.alloc Eb.size o;have qW:=fun o=>rj w (w3.alloc o) (XO o);have vI:=fun o=>oq w (w3.alloc o) (XO o);have HHB:=Lib.hid XO;have am0:=hb4.size;clear XO Eb hb4;cases hv:iY bs p
 ·have NB:=Lib.hid (HR.out false hv);rw [aq bH] at NB;rw [aq bH];simp only [fS.zero,fS.cells];clear HR hv
  go_wp2_with fail
  obtain ⟨c0,c1,c2,c3,c4,Eb⟩:=qy w (w3.alloc (.cells #[.int .i64 0,.string ⟨#[]⟩,.int .u64 0,.int .i64 0,.int .i64 0] 112)) (HHB.out _) (.int .i64 0) (.string ⟨#[]⟩) (.int .u64 0) (.int .i64 0) (.int .i64 0);change bodyPost _ _ _ _ _ (FN (w3.alloc (.cells #[.int .i64 0,.string ⟨#[]⟩,.int .u64 0,.int .i64 0,.int .i64 0] 112)) w.heap.size (.int .i64 0) (.string ⟨#[]⟩) (.int .u64 0) (.int .i64 0) (.int .i64 0));generalize FN (w3.alloc (.cells #[.int .i64 0,.string ⟨#[]⟩,.int .u64 0,.int .i64 0,.int .i64 0] 112)) w.heap.size (.int .i64 0) (.string ⟨#[]⟩) (.int .u64 0) (.int .i64 0) (.int .i64 0)=W5 at *;clear qW vI;refine bodyPost_ret (v:=.tuple #[.agg fS.zero.cells,.int .i64 50]) ?_ rfl ?_
  ·simp [results,Tryz.results128,fS.cells,fS.zero,c0,c1,c2,c3,c4,go_sem]
  ·rw [NB.out];exact ⟨rfl,Eb⟩
 ·have NB:=Lib.hid (HR.out true hv);rw [aD rfl] at NB;rw [aD rfl];generalize r8 bs p=nw at *;obtain ⟨k1,t1,n1,a1,x1⟩:=nw;simp only [fS.cells];clear HR hv
  go_wp2_with fail
  obtain ⟨c0,c1,c2,c3,c4,Eb⟩:=qy w (w3.alloc (.cells #[.int .i64 (k1:Int),.string ⟨t1.toArray⟩,.int .u64 (n1:Int),.int .i64 (a1:Int),.int .i64 (x1:Int)] 112)) (HHB.out _) (.int .i64 (k1:Int)) (.string ⟨t1.toArray⟩) (.int .u64 (n1:Int)) (.int .i64 (a1:Int)) (.int .i64 (x1:Int));change bodyPost _ _ _ _ _ (FN (w3.alloc (.cells #[.int .i64 (k1:Int),.string ⟨t1.toArray⟩,.int .u64 (n1:Int),.int .i64 (a1:Int),.int .i64 (x1:Int)] 112)) w.heap.size (.int .i64 (k1:Int)) (.string ⟨t1.toArray⟩) (.int .u64 (n1:Int)) (.int .i64 (a1:Int)) (.int .i64 (x1:Int)));generalize FN (w3.alloc (.cells #[.int .i64 (k1:Int),.string ⟨t1.toArray⟩,.int .u64 (n1:Int),.int .i64 (a1:Int),.int .i64 (x1:Int)] 112)) w.heap.size (.int .i64 (k1:Int)) (.string ⟨t1.toArray⟩) (.int .u64 (n1:Int)) (.int .i64 (a1:Int)) (.int .i64 (x1:Int))=W5 at *;clear qW vI;refine bodyPost_ret (v:=.tuple #[.agg (fS.mk k1 t1 n1 a1 x1).cells,.int .i64 0]) ?_ rfl ?_
  ·simp [results,Tryz.results128,fS.cells,c0,c1,c2,c3,c4,go_sem]
  ·rw [NB.out];exact ⟨rfl,Eb⟩
def rm (l:List UInt8) (m:Nat):Option (List UInt8):=(kX.drop m).find? fun s=>qv l s
theorem FO (l:List UInt8) (m:Nat) (hm:m < 29):rm l m=if qv l (kX.getD m [])=true then some (kX.getD m []) else rm l (m+1):=by
 unfold rm
 have:kX.drop m=kX.getD m [] :: kX.drop (m+1):=by
  have h:m < kX.length:=hm;rw [aJ h];simp [List.getD,h]
 rw [this,List.find?_cons]
 split<;>simp_all
theorem Re (m:Nat) (hm:m < 29):1≤(kX.getD m []).length∧(kX.getD m []).length≤2:=by
 have h:∀ s∈kX,1≤s.length∧s.length≤2:=bH;refine h _ ?_;have hl:m < kX.length:=hm;have:kX.getD m []=kX[m]:=by simp [List.getD,hl]
 rw [this];exact aH hl
set_option maxRecDepth 100000 in
theorem Rf (g off cap:Nat) (bs:List UInt8) (k p:Nat) (w:World) (ht:xX w) (hg:g < w.heap.size) (gh:bs.length≤cap) (yM:cap≤9223372036854775807) (hk:k≤bs.length)
 (IF:jx bs k=p) (hc:∀ j u,(bv bs)[j]? = some u→w.cell? ⟨g,off+j,none⟩=some u) (hp:p < bs.length) (hl:fJ (bs.getD p 0)=false) (hd:gA (bs.getD p 0)=false) :
 Calls prog 128 #[.slice (some ⟨g,off,none⟩) bs.length cap,.int .i64 (k:Int)] w (KM (kf bs p) w):=by
 have Cs:bs[p]? = some (bs.getD p 0):=by rw [dm,au hp];rfl
 have hbp:=tE Cs
 have hr:∀ b,rm (bs.drop p) 0=b→kf bs p=match b with | some s=>(⟨3,s,0,p,p+s.length⟩,0) | none=>(fS.zero,50):=by
  intro b hb;unfold kf;rw [aq ak,aq (by rw [hl];decide),aq (by rw [hd];decide)];have:NA (bs.drop p)=b:=hb;rw [this]
  all_goals (cases b<;>rfl)
 have hdl:(bs.drop p).length=bs.length - p:=eG
 have wG:∀ j u,(bv (bs.drop p))[j]? = some u→(bv bs)[p+j]? = some u:=by
  intro j u hu;unfold bv at hu;rw [yz,dS] at hu;exact hu
 have Pb:(p:Int) < bs.length:=ak;have hpe:((p:Int) == (bs.length:Int))=false:=cB.2 ak;have hpc:p < cap:=ak;have abK:p≤bs.length:=by rw [← IF];exact qw bs k
 have oD:=fun W hg hc=>tF g off cap bs k W hg gh ak hk hc;rw [IF] at oD;have yZ:=Lib.hid oD;have HC:=Lib.hid hc;clear oD hc IF;have uA:(k:Int)≤bs.length:=ak;have HBP:=Lib.hid hbp;have HR:=Lib.hid hr;have HL:=Lib.hid hl;have HD:=Lib.hid hd;have abM:=Lib.hid wG;have HDL:=Lib.hid hdl;clear hbp hr hl hd Cs wG hdl;generalize bs.getD p 0=c at *;generalize bs.drop p=l at *;have hi:=Q5;obtain ⟨sv,hsv⟩:=aV (KG kX);rw [hsv] at hi;have jS:(Tryz.prog.info? 189).map (·.size)=some sv.size:=by rw [← hsv];kernel_rfl
 have HS:=Lib.hid jS;have HI:=Lib.hid hi;have HSV:=Lib.hid hsv;clear jS hi hsv
 go_enter func128,Tryz.ntmps128
 go_wp2_with fail
 refine (yZ.out _ fk (fun j u hu=>by rw [iX _ _ _ hg];exact HC.out j u hu)).mono ?_;rintro e w2 ⟨rfl,xV⟩;have ve:Below (kg w).heap.size (kg w) w2:=xV;clear xV;have XN:Below w.heap.size w w2:=(pK w).trans (ve.mono (by rw [jg];omega));have Is:=ve.size;rw [jg] at Is;have l8:∀ j u,(bv bs)[j]? = some u→w2.cell? ⟨g,off+j,none⟩=some u:=fun j u hu=>by rw [XN.cell (p:=⟨g,off+j,none⟩) hg];exact HC.out j u hu
 have Wu:=Lib.hid l8;have Pa:=Lib.hid ve;clear l8;have FF:w2.cell? ⟨g,off+p,none⟩=some (.int .u8 (c.toNat:Int)):=Wu.out p _ HBP.out;obtain ⟨tt,fr,bW⟩:=(ht.below XN).KH;rw [HSV.out] at bW;have HK:=Lib.hid bW;clear ve bW
 go_wp2_with fail
 refine (sx c _ rfl _).mono ?_;rintro e' w3 ⟨rfl,rfl⟩;rw [HL.out]
 go_wp2_with fail
 refine (Aa c _ rfl _).mono ?_;rintro e' w3 ⟨rfl,rfl⟩;rw [HD.out];clear FF
 go_wp2_with (refine wpList_load_row rfl 189 _ rfl 0 rfl _ sv _ _ HK.out Tryz.underlying189 rfl HS.out ?_)
 go_loopw [71] (fun i wr=>∃ m:Nat,i = .int .i64 m∧m≤29∧Hid (rm l 0=rm l m)∧Below w2.heap.size w2 wr) (fun i _=>(29 - intOf i).toNat)
 case atStart=>exact ⟨0,rfl,ak,Lib.hid rfl,Below.refl _ _⟩
 case round =>
  obtain ⟨m,rfl,hm,HM,Mj⟩:=hrel;have HBR:=Lib.hid (Pa.out.trans (Mj.mono Pa.out.size));have am2:=Mj.size
  by_cases bu:m < 29
  ·have hik:=HI.out m bu;have kz:=FO l m bu;have hql:=Re m bu;generalize kX.getD m []=q at *;have O8:=Lib.hid kz;clear kz;have XP:(ByteArray.mk q.toArray).size=q.length:=by simp [ByteArray.size]
   have hqd:(ByteArray.mk q.toArray).data.toList=q:=dM;have kc:=Lib.run_convert_string_bytes (P:=prog) wr 9 57 5 ⟨q.toArray⟩ Tryz.underlying9 Tryz.underlying57 Tryz.underlying5;rw [XP] at kc;have ho:=v7 wr wr.heap.size 5 ⟨q.toArray⟩ (Nat.le_refl _) (by rw [XP];unfold maxLen;omega);rw [XP,hqd] at ho;have hbq:=qj wr wr.heap.size 5 ⟨q.toArray⟩ (aA _);have hcq:=ho.cells rfl;generalize grownCap wr q.length 0 5=ai7 at *;generalize Lib.bytesWorld wr 5 ⟨q.toArray⟩=wb at *;have Jx:=Mj.trans (hbq.mono Mj.size);have hBB:=Pa.out.trans (Jx.mono Pa.out.size)
   have BI:=vH g (off+p) (bs.length - p) (cap - p) wr.heap.size 0 ai7 l q wb HDL.out ak ak ak ak
    (fun j u hu=>by
     have h1:=Wu.out _ _ (abM.out j u hu);rw [← Jx.cell (p:=⟨g,off+(p+j),none⟩) (by show g < _;omega)] at h1;rw [show off+p+j=off+(p+j) by omega];exact h1) hcq
   have XQ:=Lib.hid BI;have qW:=rj w wb hBB;have vI:=oq w wb hBB;have HBB:=Lib.hid hBB;have ai8:=Lib.hid Jx;clear ho hcq XP hqd BI Jx hBB hbq;cases hv:qv l q
   ·rw [hv] at XQ O8
    have HN:Hid (rm l 0=rm l (m+1)):=by
     unfold Hid;rw [HM.out,O8.out];rfl
    clear hv O8 qW vI
    go_wp2_with fail
    refine XQ.out.mono ?_;rintro e' w3 ⟨rfl,rfl⟩
    go_wp2_with fail
    go_roundw
    case rel=>exact ⟨m+1,by go_num,ak,HN,ai8.out⟩
    case measure=>simp [intOf];omega
   ·rw [hv] at XQ O8;have NB:=Lib.hid (HR.out (some q) (by rw [HM.out,O8.out];rfl));simp only at NB;have hqn:=(kJ.1 hv).length_le;rw [HDL.out] at hqn;clear hv O8 HR;have hpq:(p:Int)+(q.length:Int)≤9223372036854775807:=ak
    go_wp2_with fail
    refine XQ.out.mono ?_;rintro e' w3 ⟨rfl,rfl⟩
    go_wp2_with fail
    obtain ⟨c0,c1,c2,c3,c4,Eb⟩:=qy w wb HBB.out (.int .i64 3) (.string ⟨q.toArray⟩) (.int .u64 0) (.int .i64 (p:Int)) (.int .i64 ((p:Int)+(q.length:Int)));change bodyPost _ _ _ _ _ (FN wb w.heap.size (.int .i64 3) (.string ⟨q.toArray⟩) (.int .u64 0) (.int .i64 (p:Int)) (.int .i64 ((p:Int)+(q.length:Int))));generalize FN wb w.heap.size (.int .i64 3) (.string ⟨q.toArray⟩) (.int .u64 0) (.int .i64 (p:Int)) (.int .i64 ((p:Int)+(q.length:Int)))=W5 at *;clear qW vI;refine bodyPost_ret (v:=.tuple #[.agg (fS.mk 3 q 0 p (p+q.length)).cells,.int .i64 0]) ?_ rfl ?_
    ·simp [results,Tryz.results128,fS.cells,c0,c1,c2,c3,c4,go_sem]
    ·rw [NB.out];exact ⟨rfl,Eb⟩
  ·obtain rfl:m=29:=ak;have NB:=Lib.hid (HR.out none (by rw [HM.out];rfl));simp only at NB;clear HR;have qW:=rj w wr HBR.out;have vI:=oq w wr HBR.out
   go_wp2_with fail
   obtain ⟨c0,c1,c2,c3,c4,Eb⟩:=qy w wr HBR.out (.int .i64 0) (.string ⟨#[]⟩) (.int .u64 0) (.int .i64 0) (.int .i64 0);change bodyPost _ _ _ _ _ (FN wr w.heap.size (.int .i64 0) (.string ⟨#[]⟩) (.int .u64 0) (.int .i64 0) (.int .i64 0));generalize FN wr w.heap.size (.int .i64 0) (.string ⟨#[]⟩) (.int .u64 0) (.int .i64 0) (.int .i64 0)=W5 at *;clear qW vI;refine bodyPost_ret (v:=.tuple #[.agg fS.zero.cells,.int .i64 50]) ?_ rfl ?_
   ·simp [results,Tryz.results128,fS.cells,fS.zero,c0,c1,c2,c3,c4,go_sem]
   ·rw [NB.out];exact ⟨rfl,Eb⟩
theorem aaj (B:Nat) (v:Value) (bs:List UInt8) (i:Int) (w:World) (ht:xX w) (hv:RdB B w v bs) (hB:B≤w.heap.size):Calls prog 128 #[v,.int .i64 i] w (KM (lC bs i) w):=by
 by_cases hi:i < 0∨i > bs.length
 ·have hr:lC bs i=(fS.zero,2):=by unfold lC;rw [if_pos hi]
  rw [hr];refine Ua v bs.length i w ?_ ak;rcases hv with ⟨rfl,rfl⟩ | ⟨g,off,cap,rfl,_⟩
  ·exact ⟨_,_,rfl⟩
  ·exact ⟨_,_,rfl⟩
 ·obtain ⟨k,rfl⟩:∃ k:Nat,i=k:=⟨i.toNat,ak⟩
  have hr:lC bs k=kf bs (jx bs k):=by
   unfold lC;rw [aq hi];rfl
  rcases hv with ⟨rfl,rfl⟩ | ⟨g,off,cap,rfl,hg,gh,yM,hc⟩
  ·have:k=0:=by simp at hi;omega
   subst this;exact take_nil w
  ·rw [hr];have hk:k≤bs.length:=ak;have hle:=qw bs k;have hm:cap≤9223372036854775807:=yM
   by_cases hp:jx bs k=bs.length
   ·exact Ub g off cap bs k _ w ak gh hm hk rfl hc hp
   ·cases hl:fJ (bs.getD (jx bs k) 0)
    ·cases hd:gA (bs.getD (jx bs k) 0)
     ·exact Rf g off cap bs k _ w ht ak gh hm hk rfl hc ak hl hd
     ·exact NC g off cap bs k _ w ak gh hm hk rfl hc ak hl hd
    ·exact KO g off cap bs k _ w ht ak gh hm hk rfl hc ak hl
theorem ND (bs:List UInt8) (w:World) (hl:bs.length≤1099511627):∃ (cap:Nat) (wb:World),
 (convert 9 57 (.string ⟨bs.toArray⟩)).run prog w = .ok (.slice (some ⟨w.heap.size,0,none⟩) bs.length cap) wb∧Below w.heap.size w wb∧w.heap.size < wb.heap.size∧bs.length≤cap∧cap≤9223372036854775807 ∧
 (∀ j u,(bv bs)[j]? = some u→wb.cell? ⟨w.heap.size,0+j,none⟩=some u):=by
 have jS:(ByteArray.mk bs.toArray).size=bs.length:=by simp [ByteArray.size]
 have hd:(ByteArray.mk bs.toArray).data.toList=bs:=dM;have kc:=Lib.run_convert_string_bytes (P:=prog) w 9 57 5 ⟨bs.toArray⟩ Tryz.underlying9 Tryz.underlying57 Tryz.underlying5;rw [jS] at kc;have ho:=v7 w w.heap.size 5 ⟨bs.toArray⟩ (Nat.le_refl _) (by rw [jS];unfold maxLen;omega);rw [jS,hd] at ho;have hb:=qj w w.heap.size 5 ⟨bs.toArray⟩ (aA _);exact ⟨_,_,kc,hb,by rw [Lib.bytesWorld_size];omega,grownCap_ge w bs.length 0 5,grownCap_le_maxLen w bs.length 0 5 (by unfold maxLen;omega),ho.cells rfl⟩
def aY (s:List UInt8):Bool:=decide (s.length≤300) && decide ((lC s 0).2=0) && decide ((lC s 0).1.kind=1) && ((lC s 0).1.text == s)
set_option maxRecDepth 100000 in
theorem abO (s:List UInt8) (w:World) (ht:xX w) (hs:s.length≤9223372036854775807) :
 Calls prog 91 #[.string ⟨s.toArray⟩] w fun e w'=>e = .returned (.bool (aY s))∧Below w.heap.size w w':=by
 have jS:(ByteArray.mk s.toArray).size=s.length:=by simp [ByteArray.size]
 by_cases h3:s.length≤300
 ·obtain ⟨cap,wb,kc,hb,hws,nU,hle,Wm⟩:=ND s w ak;have HG:=Lib.hid (aaj (w.heap.size+1) (.slice (some ⟨w.heap.size,0,none⟩) s.length cap) s 0 wb (ht.below hb) (.inr ⟨_,0,cap,rfl,ak,nU,hle,Wm⟩) ak)
  have hI:aY s=(decide ((lC s 0).2=0) && decide ((lC s 0).1.kind=1) && ((lC s 0).1.text == s)):=by
   unfold aY;rw [ah h3];rfl
  have HI:=Lib.hid hI;generalize lC s 0=r at *;obtain ⟨⟨k,t,n,a,x⟩,er⟩:=r;clear Wm ht hI
  by_cases Ud:er=0
  ·subst Ud
   by_cases hk:k=1
   ·subst hk;cases NF:(t == s)
    all_goals
     have nQ:aY s=(t == s):=HI.out;have HF:=Lib.hid nQ;clear nQ HI
     go_enter func91,Tryz.ntmps91
     go_wp2_with fail
     refine HG.out.mono ?_;rintro e w1 ⟨rfl,tV⟩;have xV:=hb.trans (tV.mono hb.size);have Ue:=xV.size;simp only [fS.cells]
     go_wp2_with fail
     go_ret
     exact ⟨by rw [HF.out,NF];rfl,xV.alloc Ue _⟩
   ·have Mf:((k:Int) == 1)=false:=cB.2 ak;have nQ:aY s=false:=by rw [HI.out];simp [hk]
    have HF:=Lib.hid nQ;clear nQ HI
    go_enter func91,Tryz.ntmps91
    go_wp2_with fail
    refine HG.out.mono ?_;rintro e w1 ⟨rfl,tV⟩;have xV:=hb.trans (tV.mono hb.size);have Ue:=xV.size;simp only [fS.cells]
    go_wp2_with fail
    go_ret
    exact ⟨by rw [HF.out];rfl,xV.alloc Ue _⟩
  ·have am5:((er:Int) == 0)=false:=cB.2 ak;have nQ:aY s=false:=by rw [HI.out];simp [Ud]
   have HF:=Lib.hid nQ;clear nQ HI
   go_enter func91,Tryz.ntmps91
   go_wp2_with fail
   refine HG.out.mono ?_;rintro e w1 ⟨rfl,tV⟩;have xV:=hb.trans (tV.mono hb.size);have Ue:=xV.size;simp only [fS.cells]
   go_wp2_with fail
   go_ret
   exact ⟨by rw [HF.out];rfl,xV.alloc Ue _⟩
 ·have hI:aY s=false:=by
   unfold aY;rw [af h3];rfl
  rw [hI]
  go_enter func91,Tryz.ntmps91
  go_wp2_with fail
  go_ret
  exact ⟨rfl,Below.refl _ _⟩
inductive bJ where
 | mk (kind:Int) (name:List UInt8) (elem:List bJ)
def bJ.kind:bJ→Int | .mk k _ _=>k
def bJ.name:bJ→List UInt8 | .mk _ n _=>n
def bJ.elem:bJ→List bJ | .mk _ _ es=>es
inductive bh where
 | mk (kind:Int) (text:List UInt8) (int:Int) (type:bJ) (names:List (List UInt8)) (kids:List bh)
def bh.kind:bh→Int | .mk k _ _ _ _ _=>k
def bh.text:bh→List UInt8 | .mk _ t _ _ _ _=>t
def bh.int:bh→Int | .mk _ _ i _ _ _=>i
def bh.type:bh→bJ | .mk _ _ _ t _ _=>t
def bh.names:bh→List (List UInt8) | .mk _ _ _ _ n _=>n
def bh.kids:bh→List bh | .mk _ _ _ _ _ k=>k
def eJ (d p:Int):Bool:=decide (p+1≤60000) && decide (d≤60)
def jM (vJ:List UInt8→Bool):bJ→Int→Int→Bool × Int
 | .mk k n es,d,p =>
  if eJ d p=false then (false,p+1)
  else if 1≤k∧k≤6 then (decide (n=[]) && decide (es.length=0),p+1)
  else if k=7 then (vJ n && decide (es.length=0),p+1)
  else match es with
   | [e]=>if k=8∧n=[] then jM vJ e (d+1) (p+1) else (false,p+1)
   | _=>(false,p+1)
def sU (vJ:List UInt8→Bool) (k:Int) (n:List UInt8) (d p:Int):List bJ→Bool × Int
 | [e]=>if k=8∧n=[] then jM vJ e (d+1) (p+1) else (false,p+1)
 | _=>(false,p+1)
theorem rP (vJ:List UInt8→Bool) (k:Int) (n:List UInt8) (es:List bJ) (d p:Int) (hk:¬ eJ d p=false):jM vJ (.mk k n es) d p=(if 1≤k∧k≤6 then (decide (n=[]) && decide (es.length=0),p+1)
 else if k=7 then (vJ n && decide (es.length=0),p+1) else sU vJ k n d p es):=by
 match es with
 | []=>conv=>lhs;unfold jM
       rw [aq hk];rfl
 | [e]=>conv=>lhs;unfold jM
        rw [aq hk];rfl
 | e :: f :: l=>conv=>lhs;unfold jM
                rw [aq hk];rfl
theorem Rg (vJ:List UInt8→Bool) (k:Int) (n:List UInt8) (d p:Int) (es:List bJ) (h:¬ (k=8∧n=[])∨es.length ≠ 1):sU vJ k n d p es=(false,p+1):=by
 match es with
 | []=>rfl
 | [e]=>rcases h with h | h
        ·exact aq h
        ·exact absurd rfl h
 | e :: f :: l=>rfl
def jn (t:bJ):Bool:=decide (t.kind=0) && decide (t.name=[]) && decide (t.elem.length=0)
def iN (k:Int):Int:=if k=1∨k=2∨k=3 then 0 else if k=4∨k=5∨k=8∨k=9∨k=12 then 1 else if k=6∨k=10∨k=13 then 2 else if k=11 then 3 else if k=7∨k=14∨k=15 then -1 else -2
def abP (l:List (List UInt8)) (s:List UInt8):Bool:=l.contains s
def jN:Nat→List (List UInt8)→Bool
 | 0,_=>true
 | n+1,l=>jN n l && aY (l.getD n []) && !abP (l.take n) (l.getD n [])
theorem Ad (l:List (List UInt8)) (j:Nat) (h:jN j l=false):∀ m,j≤m→jN m l=false:=by
 intro m
 induction m with
 | zero=>intro hm;obtain rfl:j=0:=ak
         exact h
 | succ m ih =>
  intro hm;rcases ct j (m+1) with h' | h'
  ·show (jN m l && aY (l.getD m []) && !abP (l.take m) (l.getD m []))=false;rw [ih ak];rfl
  ·obtain rfl:j=m+1:=ak;exact h
def yA:List (List UInt8 × Int):=[([42],5),([47],5),([37],5),([60,60],5),([62,62],5),([38],5),([43],4),([45],4),([124],4),([94],4),([61,61],3),([33,61],3),([60],3),([60,61],3),([62],3),([62,61],3),([38,38],2),([124,124],1)]
def jO (s:List UInt8):Int:=((yA.find? fun x=>x.1 == s).map (·.2)).getD 0
theorem IG (s:List UInt8):(∃ x∈yA,s=x.1)∨∀ x∈yA,(s == x.1)=false:=by
 by_cases h:∃ x∈yA,s=x.1
 ·exact .inl h
 ·exact .inr fun x hx=>cB.2 fun e=>h ⟨x,hx,e⟩
def pL (x:bh) (d p:Int):Bool × Int :=
 if x.kind=8 then (if 2≤x.type.kind∧x.type.kind≤6 then jM aY x.type (d+1) p else (false,p))
 else if x.kind=14 then (if x.type.kind=7 then (if (jM aY x.type (d+1) p).1=true then (decide (x.names.length=x.kids.length) && jN x.names.length x.names,(jM aY x.type (d+1) p).2) else (false,(jM aY x.type (d+1) p).2)) else (false,p))
 else if x.kind=15 then (if x.type.kind=8 then jM aY x.type (d+1) p else (false,p))
 else (if x.kind=1∨x.kind=7∨x.kind=9 then aY x.text else if x.kind=6 then decide (0 < jO x.text) else if x.kind=3 then decide (x.int≤1) else true,p)
def ig (x:bh) (d p:Int):Bool × Int :=
 ((pL x d p).1 && !(if x.kind=1∨x.kind=7∨x.kind=9∨x.kind=6 then false else !(x.text == [])) && !(if x.kind=2∨x.kind=3 then false else (x.int != 0)) &&
   !(if x.kind=8∨x.kind=14∨x.kind=15 then false else !(jn x.type)) && !(if x.kind=14 then false else decide (0 < x.names.length)),(pL x d p).2)
theorem y5 (vJ:List UInt8→Bool):∀ (t:bJ) (d p:Int),(jM vJ t d p).1=true→p+1≤(jM vJ t d p).2∧(jM vJ t d p).2≤60000
 | .mk k n es,d,p,h=>by
  by_cases hk:eJ d p=false
  ·exfalso
   unfold jM at h;rw [aD hk] at h;cases h
  ·have hp:p+1≤60000:=by
    have h2:eJ d p=true:=by simpa using hk
    unfold eJ at h2;rw [aF,bz,bz] at h2;exact h2.1
   rw [rP vJ k n es d p hk] at h ⊢
   by_cases h1:1≤k∧k≤6
   ·rw [aD h1];exact ⟨dV _,hp⟩
   ·rw [aq h1] at h ⊢
    by_cases h7:k=7
    ·rw [aD h7];exact ⟨dV _,hp⟩
    ·rw [aq h7] at h ⊢
     match es with
     | []=>cases h
     | e :: f :: l=>cases h
     | [e] =>
      by_cases h8:k=8∧n=[]
      ·have he:sU vJ k n d p [e]=jM vJ e (d+1) (p+1):=aD h8;rw [he] at h ⊢;have:=y5 vJ e (d+1) (p+1) h;omega
      ·have he:sU vJ k n d p [e]=(false,p+1):=aq h8;rw [he] at h;cases h
theorem KP (x:bh) (d p:Int) (hp:p≤60000) (h:(ig x d p).1=true):p≤(ig x d p).2∧(ig x d p).2≤60000:=by
 have ht:(pL x d p).1=true:=by
  unfold ig at h;simp only [aF] at h;exact h.1.1.1.1
 show p≤(pL x d p).2∧(pL x d p).2≤60000
 revert ht
 unfold pL;intro ht;have jU:=y5 aY x.type (d+1) p
 by_cases h8:x.kind=8
 ·rw [aD h8] at ht ⊢
  by_cases hq:2≤x.type.kind∧x.type.kind≤6
  ·rw [aD hq] at ht ⊢;have:=jU ht;omega
  ·rw [aq hq] at ht;cases ht
 ·rw [aq h8] at ht ⊢
  by_cases za:x.kind=14
  ·rw [aD za] at ht ⊢
   by_cases hq:x.type.kind=7
   ·rw [aD hq] at ht ⊢
    by_cases hr:(jM aY x.type (d+1) p).1=true
    ·rw [aD hr];have:=jU hr;simp only;omega
    ·rw [aq hr] at ht;cases ht
   ·rw [aq hq] at ht;cases ht
  ·rw [aq za] at ht ⊢
   by_cases Ae:x.kind=15
   ·rw [aD Ae] at ht ⊢
    by_cases hq:x.type.kind=8
    ·rw [aD hq] at ht ⊢;have:=jU ht;omega
    ·rw [aq hq] at ht;cases ht
   ·rw [aq Ae];simp only;omega
def nM (k:Int):Int:=if k=15 then 30000 else 40
mutual
def vR:bh→Int→Int→Bool × Int
 | .mk k t i ty ns ks,d,p =>
  if eJ d p=false then (false,p+1)
  else if nM k < (ks.length:Int)∨iN k = -2∨(0≤iN k∧(ks.length:Int) ≠ iN k) then (false,p+1)
  else if (ig (.mk k t i ty ns ks) d (p+1)).1=false then (false,(ig (.mk k t i ty ns ks) d (p+1)).2)
  else kC ks (d+1) (ig (.mk k t i ty ns ks) d (p+1)).2
def kC:List bh→Int→Int→Bool × Int
 | [],_,p=>(true,p)
 | x :: l,d,p=>if (vR x d p).1=false then (false,(vR x d p).2) else kC l d (vR x d p).2
end
mutual
theorem NG:∀ (x:bh) (d p:Int),(vR x d p).1=true→p+1≤(vR x d p).2∧(vR x d p).2≤60000
 | .mk k t i ty ns ks,d,p,h=>by
  unfold vR at h ⊢
  by_cases hk:eJ d p=false
  ·rw [aD hk] at h;cases h
  ·have hp:p+1≤60000:=by
    have h2:eJ d p=true:=by simpa using hk
    unfold eJ at h2;rw [aF,bz,bz] at h2;exact h2.1
   rw [aq hk] at h ⊢
   by_cases h1:nM k < (ks.length:Int)∨iN k = -2∨(0≤iN k∧(ks.length:Int) ≠ iN k)
   ·rw [aD h1] at h;cases h
   ·rw [aq h1] at h ⊢
    by_cases h2:(ig (.mk k t i ty ns ks) d (p+1)).1=false
    ·rw [aD h2] at h;cases h
    ·rw [aq h2] at h ⊢;have hb:=KP (.mk k t i ty ns ks) d (p+1) hp (by simpa using h2);have:=Dg ks (d+1) _ hb.2 h;omega
theorem Dg:∀ (l:List bh) (d p:Int),p≤60000→(kC l d p).1=true→p≤(kC l d p).2∧(kC l d p).2≤60000
 | [],d,p,hp,_=>⟨dV _,hp⟩
 | x :: l,d,p,hp,h=>by
  unfold kC at h ⊢
  by_cases h1:(vR x d p).1=false
  ·rw [aD h1] at h;cases h
  ·rw [aq h1] at h ⊢;have hx:=NG x d p (by simpa using h1);have:=Dg l d _ hx.2 h;omega
end
theorem Rh (ks:List bh) (j:Nat) (h:j < ks.length) (d p:Int):kC (ks.drop j) d p=if (vR ks[j] d p).1=false then (false,(vR ks[j] d p).2) else kC (ks.drop (j+1)) d (vR ks[j] d p).2:=by
 rw [aJ h]
 conv=>lhs;unfold kC
mutual
def rq:bJ→bJ→Bool
 | .mk k n es,u=>decide (k=u.kind) && (n == u.name) && ir es u.elem
def ir:List bJ→List bJ→Bool
 | [],l=>decide (l.length=0)
 | t :: ts,l=>match l with
  | []=>false
  | u :: us=>rq t u && ir ts us
end
theorem zb:∀ (a b:List bJ),a.length ≠ b.length→ir a b=false
 | [],b,h=>by unfold ir;exact decide_eq_false (fun e=>h (by rw [e];rfl))
 | t :: ts,[],_=>by unfold ir;rfl
 | t :: ts,u :: us,h=>by
  unfold ir;simp only;rw [zb ts us (by simpa using h),Bool.and_false]
theorem wO (a b:List bJ) (j:Nat) (h:j < a.length) (h':j < b.length):ir (a.drop j) (b.drop j)=(rq a[j] b[j] && ir (a.drop (j+1)) (b.drop (j+1))):=by
 rw [aJ h,aJ h']
 conv=>lhs;unfold ir
mutual
def zf:bJ→Int
 | .mk _ _ es=>1+KQ es
def KQ:List bJ→Int
 | []=>0
 | e :: es=>zf e+KQ es
end
mutual
def ecS:bh→Int
 | .mk _ _ _ ty _ ks=>1+(if jn ty=true then 0 else zf ty)+Af ks
def Af:List bh→Int
 | []=>0
 | x :: l=>ecS x+Af l
end
theorem Dh (vJ:List UInt8→Bool):∀ (t:bJ) (d p:Int),(jM vJ t d p).1=true→(jM vJ t d p).2=p+zf t∧jn t=false
 | .mk k n es,d,p,h=>by
  have hz:k ≠ 0→jn (.mk k n es)=false:=fun hk=>by
   unfold jn;rw [show (bJ.mk k n es).kind=k from rfl,af hk];rfl
  by_cases hk:eJ d p=false
  ·exfalso
   unfold jM at h;rw [aD hk] at h;cases h
  ·rw [rP vJ k n es d p hk] at h ⊢
   have yO:es.length=0→zf (.mk k n es)=1:=fun e=>by
    obtain rfl:=aM e;unfold zf KQ;rfl
   by_cases h1:1≤k∧k≤6
   ·rw [aD h1] at h ⊢;simp only [aF,aZ] at h;rw [yO h.2];exact ⟨rfl,hz ak⟩
   ·rw [aq h1] at h ⊢
    by_cases h7:k=7
    ·rw [aD h7] at h ⊢;simp only [aF,aZ] at h;rw [yO h.2];exact ⟨rfl,hz ak⟩
    ·rw [aq h7] at h ⊢
     match es with
     | []=>cases h
     | e :: f :: l=>cases h
     | [e] =>
      by_cases h8:k=8∧n=[]
      ·have he:sU vJ k n d p [e]=jM vJ e (d+1) (p+1):=aD h8;rw [he] at h ⊢;have:=(Dh vJ e (d+1) (p+1) h).1
       have hc:zf (.mk k n [e])=1+(zf e+0):=by
        conv=>lhs;unfold zf KQ KQ
       exact ⟨ak,hz ak⟩
      ·have he:sU vJ k n d p [e]=(false,p+1):=aq h8;rw [he] at h;cases h
theorem BK (x:bh) (d p:Int) (h:(ig x d p).1=true):(ig x d p).2=p+(if jn x.type=true then 0 else zf x.type):=by
 have jU:=Dh aY x.type (d+1) p;have hp:(ig x d p).2=(pL x d p).2:=rfl;rw [hp];unfold ig at h;simp only [aF] at h;obtain ⟨⟨⟨⟨ht,_⟩,_⟩,hz⟩,_⟩:=h
 revert ht
 unfold pL;intro ht
 by_cases h8:x.kind=8
 ·rw [aD h8] at ht ⊢
  by_cases hq:2≤x.type.kind∧x.type.kind≤6
  ·rw [aD hq] at ht ⊢;obtain ⟨e1,e2⟩:=jU ht;rw [e1,e2];rfl
  ·rw [aq hq] at ht;cases ht
 ·rw [aq h8] at ht ⊢
  by_cases za:x.kind=14
  ·rw [aD za] at ht ⊢
   by_cases hq:x.type.kind=7
   ·rw [aD hq] at ht ⊢
    by_cases hr:(jM aY x.type (d+1) p).1=true
    ·obtain ⟨e1,e2⟩:=jU hr;rw [aD hr,e1,e2];rfl
    ·rw [aq hr] at ht;cases ht
   ·rw [aq hq] at ht;cases ht
  ·rw [aq za] at ht ⊢
   by_cases Ae:x.kind=15
   ·rw [aD Ae] at ht ⊢
    by_cases hq:x.type.kind=8
    ·rw [aD hq] at ht ⊢;obtain ⟨e1,e2⟩:=jU ht;rw [e1,e2];rfl
    ·rw [aq hq] at ht;cases ht
   ·rw [aq Ae];rw [aq (by rintro (h | h | h);exact h8 h;exact za h;exact Ae h)] at hz;have NH:jn x.type=true:=by simpa using hz
    rw [aD NH];simp
mutual
theorem II:∀ (x:bh) (d p:Int),(vR x d p).1=true→(vR x d p).2=p+ecS x
 | .mk k t i ty ns ks,d,p,h=>by
  unfold vR at h ⊢;unfold ecS
  by_cases hk:eJ d p=false
  ·rw [aD hk] at h;cases h
  ·rw [aq hk] at h ⊢
   by_cases h1:nM k < (ks.length:Int)∨iN k = -2∨(0≤iN k∧(ks.length:Int) ≠ iN k)
   ·rw [aD h1] at h;cases h
   ·rw [aq h1] at h ⊢
    by_cases h2:(ig (.mk k t i ty ns ks) d (p+1)).1=false
    ·rw [aD h2] at h;cases h
    ·rw [aq h2] at h ⊢;have hb:(ig (.mk k t i ty ns ks) d (p+1)).2=(p+1)+(if jn ty=true then 0 else zf ty):=BK (.mk k t i ty ns ks) d (p+1) (by simpa using h2);have:=Ec ks (d+1) _ h;omega
theorem Ec:∀ (l:List bh) (d p:Int),(kC l d p).1=true→(kC l d p).2=p+Af l
 | [],d,p,_=>by unfold kC Af;simp
 | x :: l,d,p,h=>by
  unfold kC at h ⊢;unfold Af
  by_cases h1:(vR x d p).1=false
  ·rw [aD h1] at h;cases h
  ·rw [aq h1] at h ⊢;have hx:=II x d p (by simpa using h1);have:=Ec l d _ h;omega
end
theorem wP {d p d' p':Int} (h:eJ d p=true) (hd:d'≤d) (hp:p'≤p):eJ d' p' = true:=by
 unfold eJ at h ⊢;rw [aF,bz,bz] at h ⊢;omega
theorem Ed (vJ:List UInt8→Bool):∀ (t:bJ) (d p d' p':Int),(jM vJ t d p).1=true→d'≤d→p'≤p→(jM vJ t d' p').1=true
 | .mk k n es,d,p,d',p',h,hd,hp=>by
  by_cases hk:eJ d p=false
  ·exfalso
   unfold jM at h;rw [aD hk] at h;cases h
  ·have Mf:¬ eJ d' p' = false:=by rw [wP (by simpa using hk) hd hp];decide
   rw [rP vJ k n es d p hk] at h;rw [rP vJ k n es d' p' Mf]
   by_cases h1:1≤k∧k≤6
   ·rw [aD h1] at h ⊢;exact h
   ·rw [aq h1] at h ⊢
    by_cases h7:k=7
    ·rw [aD h7] at h ⊢;exact h
    ·rw [aq h7] at h ⊢
     match es with
     | []=>cases h
     | e :: f :: l=>cases h
     | [e] =>
      by_cases h8:k=8∧n=[]
      ·have he:sU vJ k n d p [e]=jM vJ e (d+1) (p+1):=aD h8;have Jz:sU vJ k n d' p' [e]=jM vJ e (d' + 1) (p' + 1):=aD h8;rw [he] at h;rw [Jz];exact Ed vJ e _ _ _ _ h ak ak
      ·have he:sU vJ k n d p [e]=(false,p+1):=aq h8;rw [he] at h;cases h
theorem NI (x:bh) (d p d' p':Int) (h:(pL x d p).1=true) (hd:d'≤d) (hp:p'≤p):(pL x d' p').1=true:=by
 have jU:=fun hh=>Ed aY x.type (d+1) p (d' + 1) p' hh ak hp;unfold pL at h ⊢
 by_cases h8:x.kind=8
 ·rw [aD h8] at h ⊢
  by_cases hq:2≤x.type.kind∧x.type.kind≤6
  ·rw [aD hq] at h ⊢;exact jU h
  ·rw [aq hq] at h;cases h
 ·rw [aq h8] at h ⊢
  by_cases za:x.kind=14
  ·rw [aD za] at h ⊢
   by_cases hq:x.type.kind=7
   ·rw [aD hq] at h ⊢
    by_cases hr:(jM aY x.type (d+1) p).1=true
    ·rw [aD hr] at h;rw [aD (jU hr)];exact h
    ·rw [aq hr] at h;cases h
   ·rw [aq hq] at h;cases h
  ·rw [aq za] at h ⊢
   by_cases Ae:x.kind=15
   ·rw [aD Ae] at h ⊢
    by_cases hq:x.type.kind=8
    ·rw [aD hq] at h ⊢;exact jU h
    ·rw [aq hq] at h;cases h
   ·rw [aq Ae] at h ⊢;exact h
theorem NJ (x:bh) (d p d' p':Int) (h:(ig x d p).1=true) (hd:d'≤d) (hp:p'≤p):(ig x d' p').1=true:=by
 unfold ig at h ⊢;simp only [aF] at h ⊢;exact ⟨⟨⟨⟨NI x d p d' p' h.1.1.1.1 hd hp,h.1.1.1.2⟩,h.1.1.2⟩,h.1.2⟩,h.2⟩
mutual
theorem Uf:∀ (x:bh) (d p d' p':Int),(vR x d p).1=true→d'≤d→p'≤p→(vR x d' p').1=true
 | .mk k t i ty ns ks,d,p,d',p',h,hd,hp=>by
  unfold vR at h ⊢
  by_cases hk:eJ d p=false
  ·rw [aD hk] at h;cases h
  ·have Mf:¬ eJ d' p' = false:=by rw [wP (by simpa using hk) hd hp];decide
   rw [aq hk] at h;rw [aq Mf]
   by_cases h1:nM k < (ks.length:Int)∨iN k = -2∨(0≤iN k∧(ks.length:Int) ≠ iN k)
   ·rw [aD h1] at h;cases h
   ·rw [aq h1] at h ⊢
    by_cases h2:(ig (.mk k t i ty ns ks) d (p+1)).1=false
    ·rw [aD h2] at h;cases h
    ·have hb:(ig (.mk k t i ty ns ks) d (p+1)).1=true:=by simpa using h2
     have vG:=NJ _ d (p+1) d' (p' + 1) hb hd ak;rw [aq h2] at h;rw [aq (by rw [vG];decide)];have c1:=BK _ _ _ hb;have c2:=BK _ _ _ vG;exact BL ks _ _ _ _ h ak ak
theorem BL:∀ (l:List bh) (d p d' p':Int),(kC l d p).1=true→d'≤d→p'≤p→(kC l d' p').1=true
 | [],d,p,d',p',_,_,_=>by unfold kC;rfl
 | x :: l,d,p,d',p',h,hd,hp=>by
  unfold kC at h ⊢
  by_cases h1:(vR x d p).1=false
  ·rw [aD h1] at h;cases h
  ·have hx:(vR x d p).1=true:=by simpa using h1
   have hx':=Uf x d p d' p' hx hd hp;rw [aq h1] at h;rw [aq (by rw [hx'];decide)];have c1:=II x d p hx;have c2:=II x d' p' hx';exact BL l _ _ _ _ h hd ak
end
mutual
inductive cL where
 | mk (kind:Int) (names:List (List UInt8)) (type:bJ) (cq exprs:List bh) (body iS:List cL) (cases:List iB)
inductive iB where
 | mk (int:Int) (body:List cL)
end
def cL.kind:cL→Int | .mk k _ _ _ _ _ _ _=>k
def cL.names:cL→List (List UInt8) | .mk _ n _ _ _ _ _ _=>n
def cL.type:cL→bJ | .mk _ _ t _ _ _ _ _=>t
def cL.cq:cL→List bh | .mk _ _ _ l _ _ _ _=>l
def cL.exprs:cL→List bh | .mk _ _ _ _ e _ _ _=>e
def cL.body:cL→List cL | .mk _ _ _ _ _ b _ _=>b
def cL.iS:cL→List cL | .mk _ _ _ _ _ _ b _=>b
def cL.cases:cL→List iB | .mk _ _ _ _ _ _ _ c=>c
def iB.int:iB→Int | .mk i _=>i
def iB.body:iB→List cL | .mk _ b=>b
structure ep where
 name:List UInt8
 type:bJ
structure eZ where
 name:List UInt8
 fields:List ep
structure fL where
 name:List UInt8
 params:List ep
 results:List bJ
 body:List cL
structure rU where
 structs:List eZ
 funcs:List fL
structure cW (f:Int→Bool × Int) (n:Int):Prop where
 FP:∀ p,(f p).1=true→(f p).2=p+n
 up:∀ p,(f p).1=true→p≤(f p).2
 mono:∀ p p',(f p).1=true→p'≤p→(f p').1=true
def dR (f g:Int→Bool × Int) (p:Int):Bool × Int:=if (f p).1=false then (false,(f p).2) else g (f p).2
def gu (b:Bool) (p:Int):Bool × Int:=(b,p)
def fT (d p:Int):Bool × Int:=(eJ d p,p+1)
def jG {α:Type} (f:α→Int→Bool × Int):List α→Int→Bool × Int
 | [],p=>(true,p)
 | x :: l,p=>dR (f x) (jG f l) p
def jq {α:Type} (c:α→Int):List α→Int
 | []=>0
 | x :: l=>c x+jq c l
theorem cW.and {f g:Int→Bool × Int} {n m:Int} (hf:cW f n) (hg:cW g m):cW (dR f g) (n+m):=by
 have op:∀ p,(dR f g p).1=true→(f p).1=true∧dR f g p=g (f p).2:=by
  intro p h;unfold dR at h ⊢
  by_cases h1:(f p).1=false
  ·rw [aD h1] at h;cases h
  ·rw [aq h1];exact ⟨by simpa using h1,rfl⟩
 refine ⟨fun p h=>?_,fun p h=>?_,fun p p' h hp=>?_⟩
 ·obtain ⟨h1,h2⟩:=op p h;rw [h2] at h ⊢;rw [hg.FP _ h,hf.FP _ h1];omega
 ·obtain ⟨h1,h2⟩:=op p h;rw [h2] at h ⊢;exact pM (hf.up _ h1) (hg.up _ h)
 ·obtain ⟨h1,h2⟩:=op p h;have h3:=hf.mono p p' h1 hp;rw [h2] at h
  have h4:dR f g p' = g (f p').2:=by
   unfold dR;rw [aq (by rw [h3];decide)]
  rw [h4];exact hg.mono _ _ h (by rw [hf.FP _ h1,hf.FP _ h3];omega)
theorem cW.allow (b:Bool):cW (gu b) 0:=⟨fun p _=>by simp [gu],fun p _=>dV _,fun p p' h _=>h⟩
theorem cW.part (d:Int):cW (fT d) 1:=⟨fun p _=>rfl,fun p _=>by show p≤p+1;omega,fun p p' h hp=>wP h (dV _) hp⟩
theorem cW.row {α:Type} {f:α→Int→Bool × Int} {c:α→Int}:∀ (l:List α),(∀ x∈l,cW (f x) (c x))→cW (jG f l) (jq c l)
 | [],_=>⟨fun p _=>by simp [jG,jq],fun p _=>dV _,fun p p' h _=>rfl⟩
 | x :: l,h=>by
  have hr:=cW.row l fun y hy=>h y (aU _ hy);have:=(h x aI).and hr;exact this
theorem cW.ty (t:bJ) (d:Int):cW (fun p=>jM aY t d p) (zf t) :=
 ⟨fun p h=>(Dh aY t d p h).1,fun p h=>by have:=y5 aY t d p h;show p≤(jM aY t d p).2;omega,fun p p' h hp=>Ed aY t d p d p' h (dV _) hp⟩
theorem XR:∀ (l:List bh) (d p:Int),(kC l d p).1=true→p≤(kC l d p).2
 | [],d,p,_=>by unfold kC;exact Int.le_refl _
 | x :: l,d,p,h=>by
  unfold kC at h ⊢
  by_cases h1:(vR x d p).1=false
  ·rw [aD h1] at h;cases h
  ·rw [aq h1] at h ⊢;have hx:=NG x d p (by simpa using h1);have:=(Dg l d _ hx.2 h).1;omega
theorem cW.exs (l:List bh) (d:Int):cW (fun p=>kC l d p) (Af l) :=
 ⟨fun p h=>Ec l d p h,fun p h=>XR l d p h,fun p p' h hp=>BL l d p d p' h (dV _) hp⟩
mutual
def oM:bh→Bool
 | .mk k _ _ _ _ ks=>decide (k ≠ 14) && decide (k ≠ 15) && vf ks
def vf:List bh→Bool
 | []=>true
 | x :: l=>oM x && vf l
end
def fY:bh→Bool
 | .mk k _ _ _ _ ks=>match ks with
  | [y]=>if k=9 then fY y else decide (k=1)
  | _=>decide (k=1)
def kY (s:cL):Bool :=
 let plain:=decide (s.names=[]) && jn s.type
 let cq:=decide (s.cq=[])
 let body:=decide (s.body.length=0)
 let other:=decide (s.iS.length=0)
 let cases:=decide (s.cases.length=0)
 if s.kind=1 then decide (s.exprs.length=0) && (match s.names with | [x]=>aY x | _=>false) && cq && body && other && cases
 else if s.kind=2 then decide (0 < s.cq.length) && (decide (s.exprs.length=s.cq.length) || (match s.exprs with | [x]=>decide (x.kind=7) | _=>false)) && s.cq.all fY && plain && body && other && cases
 else if s.kind=3 then plain && cq && (match s.exprs with | [x]=>oM x | _=>false) && cases
 else if s.kind=4 then plain && cq && (match s.exprs with | [x]=>oM x | _=>false) && other && cases
 else if s.kind=5 then plain && cq && (match s.exprs with | [x]=>oM x | _=>false) && body
 else if s.kind=6 then plain && cq && decide (0 < s.exprs.length) && body && other && cases
 else false
def lD (l:List bh) (d:Int):Int→Bool × Int:=dR (fun p=>kC l d p) (gu (decide (l.length≤40)))
def xY (R:cL→Int→Int→Bool × Int) (d:Int):List Int→List iB→Int→Bool × Int
 | _,[],p=>(true,p)
 | seen,c :: l,p=>dR (fT (d+1)) (dR (gu (!seen.contains c.int)) (dR (jG (fun s=>R s (d+2)) c.body) (xY R d (seen++[c.int]) l))) p
def nC:Nat→cL→Int→Int→Bool × Int
 | 0,_,_=>gu false
 | n+1,s,d=>dR (fT d) (dR (gu (kY s && decide (s.cases.length≤40))) (dR (if s.kind=1 then fun p=>jM aY s.type (d+1) p else gu true)
  (dR (xY (nC n) d [] s.cases) (dR (lD s.cq (d+1)) (dR (lD s.exprs (d+1)) (dR (jG (fun x=>nC n x (d+1)) s.body) (jG (fun x=>nC n x (d+1)) s.iS)))))))
def Fy:Nat→cL→Int
 | 0,_=>0
 | n+1,s=>1+(if s.kind=1 then zf s.type else 0)+jq (fun c:iB=>1+jq (Fy n) c.body) s.cases+Af s.cq+Af s.exprs+jq (Fy n) s.body+jq (Fy n) s.iS
theorem cW.eq {f:Int→Bool × Int} {n m:Int} (h:cW f n) (e:n=m):cW f m:=e ▸ h
theorem cW.lD (l:List bh) (d:Int):cW (lD l d) (Af l):=((cW.exs l d).and (cW.allow _)).eq ak
theorem cW.Wv {R:cL→Int→Int→Bool × Int} {c:cL→Int} (hR:∀ s d,cW (R s d) (c s)) (d:Int):∀ (l:List iB) (seen:List Int),cW (xY R d seen l) (jq (fun k:iB=>1+jq c k.body) l)
 | [],_=>⟨fun p _=>by simp [xY,jq],fun p _=>dV _,fun p p' h _=>rfl⟩
 | k :: l,seen=>by
  have h:=(cW.part (d+1)).and ((cW.allow (!seen.contains k.int)).and ((cW.row (f:=fun s=>R s (d+2)) (c:=c) k.body fun s _=>hR s (d+2)).and (cW.Wv hR d l (seen++[k.int]))));exact cW.eq (f:=xY R d seen (k :: l)) h (by simp only [jq];omega)
theorem cW.st:∀ (n:Nat) (s:cL) (d:Int),cW (nC n s d) (Fy n s)
 | 0,s,d=>⟨fun p h=>(by cases h),fun p h=>(by cases h),fun p p' h _=>(by cases h)⟩
 | n+1,s,d=>by
  have ih:=cW.st n;have hb:=cW.row (f:=fun x=>nC n x (d+1)) (c:=Fy n) s.body fun x _=>ih x (d+1);have he:=cW.row (f:=fun x=>nC n x (d+1)) (c:=Fy n) s.iS fun x _=>ih x (d+1)
  have jU:cW (if s.kind=1 then fun p=>jM aY s.type (d+1) p else gu true) (if s.kind=1 then zf s.type else 0):=by
   by_cases hk:s.kind=1
   ·rw [aD hk,aD hk];exact cW.ty s.type (d+1)
   ·rw [aq hk,aq hk];exact cW.allow true
  have h:=(cW.part d).and ((cW.allow (kY s && decide (s.cases.length≤40))).and (jU.and ((cW.Wv (fun s d=>ih s d) d s.cases []).and ((cW.lD s.cq (d+1)).and ((cW.lD s.exprs (d+1)).and (hb.and he))))));exact cW.eq (f:=nC (n+1) s d) h (by simp only [Fy];omega)
def Mk (mC:Nat) (l:List ep):Int→Bool × Int :=
 dR (jG (fun x:ep=>dR (fT 0) (fun p=>jM aY x.type 0 p)) l) (gu (decide (l.length≤mC) && jN l.length (l.map ep.name)))
def Ug (l:List ep):Int:=jq (fun x:ep=>1+zf x.type) l
def Ml (s:eZ):Int→Bool × Int:=dR (fT 0) (dR (gu (aY s.name)) (Mk 60 s.fields))
def suC (s:eZ):Int:=1+Ug s.fields
def KR (n:Nat) (f:fL):Int→Bool × Int :=
 dR (fT 0) (dR (gu (aY f.name)) (dR (Mk 20 f.params) (dR (gu (decide (1≤f.results.length) && decide (f.results.length≤20))) (dR (jG (fun t p=>jM aY t 0 p) f.results) (jG (fun s=>nC n s 0) f.body)))))
def fuC (n:Nat) (f:fL):Int:=1+Ug f.params+jq zf f.results+jq (Fy n) f.body
def KS (n:Nat) (p:rU):Int→Bool × Int:=dR (jG Ml p.structs) (jG (KR n) p.funcs)
def prC (n:Nat) (p:rU):Int:=jq suC p.structs+jq (fuC n) p.funcs
theorem cW.pa (mC:Nat) (l:List ep):cW (Mk mC l) (Ug l) :=
 ((cW.row (f:=fun x:ep=>dR (fT 0) (fun p=>jM aY x.type 0 p)) (c:=fun x:ep=>1+zf x.type) l fun x _=>(cW.part 0).and (cW.ty x.type 0)).and (cW.allow _)).eq (by unfold Ug;omega)
theorem cW.su (s:eZ):cW (Ml s) (suC s) :=
 ((cW.part 0).and ((cW.allow (aY s.name)).and (cW.pa 60 s.fields))).eq (by unfold suC;omega)
theorem cW.fu (n:Nat) (f:fL):cW (KR n f) (fuC n f) :=
 ((cW.part 0).and ((cW.allow (aY f.name)).and ((cW.pa 20 f.params).and ((cW.allow (decide (1≤f.results.length) && decide (f.results.length≤20))).and ((cW.row (f:=fun t p=>jM aY t 0 p) (c:=zf) f.results fun t _=>cW.ty t 0).and
   (cW.row (f:=fun s=>nC n s 0) (c:=Fy n) f.body fun s _=>cW.st n s 0)))))).eq (by unfold fuC;omega)
theorem cW.pr (n:Nat) (p:rU):cW (KS n p) (prC n p) :=
 (cW.row (f:=Ml) (c:=suC) p.structs fun s _=>cW.su s).and (cW.row (f:=KR n) (c:=fuC n) p.funcs fun f _=>cW.fu n f)
theorem cW.abQ {f:Int→Bool × Int} {c:Int} (h:cW f c) {p:Int} (ht:(f p).1=true):0≤c:=by
 have h1:=h.FP p ht;have h2:=h.up p ht;omega
theorem cY {f g:Int→Bool × Int} {p:Int} (h:(dR f g p).1=true):(f p).1=true∧(g (f p).2).1=true:=by
 unfold dR at h
 by_cases h1:(f p).1=false
 ·rw [aD h1] at h;cases h
 ·rw [aq h1] at h;exact ⟨by simpa using h1,h⟩
theorem me {α:Type} {f:α→Int→Bool × Int}:∀ (l:List α) (p:Int),(jG f l p).1=true→∀ x∈l,∃ q,(f x q).1=true
 | y :: l,p,h,x,hx=>by
  obtain ⟨h1,h2⟩:=cY (f:=f y) (g:=jG f l) h;rcases bB.1 hx with rfl | hx
  ·exact ⟨p,h1⟩
  ·exact me l _ h2 x hx
def Pc:Nat→cL→Int
 | 0,_=>0
 | n+1,s=>1+(if jn s.type=true then 0 else zf s.type)+Af s.cq+Af s.exprs+jq (Pc n) s.body+jq (Pc n) s.iS+jq (fun c:iB=>1+jq (Pc n) c.body) s.cases
theorem nv {α:Type} {c c':α→Int}:∀ l:List α,(∀ x∈l,c x=c' x)→jq c l=jq c' l
 | [],_=>rfl
 | x :: l,h=>by
  show c x+jq c l=c' x+jq c' l;rw [h x aI,nv l fun y hy=>h y (aU _ hy)]
theorem Ee {R:cL→Int→Int→Bool × Int} {d:Int}:∀ (l:List iB) (seen:List Int) (p:Int),(xY R d seen l p).1=true→∀ c∈l,∀ s∈c.body,∃ q,(R s (d+2) q).1=true
 | k :: l,seen,p,h,c,hc,s,hs=>by
  obtain ⟨_,h2⟩:=cY (f:=fT (d+1)) h;obtain ⟨_,h3⟩:=cY h2;obtain ⟨h4,h5⟩:=cY h3;rcases bB.1 hc with rfl | hc
  ·exact me (f:=fun s=>R s (d+2)) _ _ h4 s hs
  ·exact Ee l _ _ h5 c hc s hs
theorem NK (s:cL) (h:kY s=true) (hk:s.kind ≠ 1):jn s.type=true:=by
 unfold kY at h;simp only [aq hk] at h
 by_cases h2:s.kind=2
 ·rw [aD h2] at h;simp only [aF] at h;exact h.1.1.1.2.2
 ·rw [aq h2] at h
  by_cases h3:s.kind=3
  ·rw [aD h3] at h;simp only [aF] at h;exact h.1.1.1.2
  ·rw [aq h3] at h
   by_cases h4:s.kind=4
   ·rw [aD h4] at h;simp only [aF] at h;exact h.1.1.1.1.2
   ·rw [aq h4] at h
    by_cases h5:s.kind=5
    ·rw [aD h5] at h;simp only [aF] at h;exact h.1.1.1.2
    ·rw [aq h5] at h
     by_cases h6:s.kind=6
     ·rw [aD h6] at h;simp only [aF] at h;exact h.1.1.1.1.1.2
     ·rw [aq h6] at h;cases h
theorem Uh:∀ (n:Nat) (s:cL) (d p:Int),(nC n s d p).1=true→Pc n s=Fy n s
 | 0,_,_,_,h=>by cases h
 | n+1,s,d,p,h=>by
  have ih:=Uh n;obtain ⟨_,h⟩:=cY (f:=fT d) h;obtain ⟨hz,h⟩:=cY h;obtain ⟨ht,h⟩:=cY h;obtain ⟨hc,h⟩:=cY h;obtain ⟨_,h⟩:=cY h;obtain ⟨_,h⟩:=cY h;obtain ⟨hb,he⟩:=cY h
  have e1:jq (Pc n) s.body=jq (Fy n) s.body:=nv _ fun x hx=>by
   obtain ⟨q,hq⟩:=me (f:=fun x=>nC n x (d+1)) _ _ hb x hx;exact ih x _ q hq
  have e2:jq (Pc n) s.iS=jq (Fy n) s.iS:=nv _ fun x hx=>by
   obtain ⟨q,hq⟩:=me (f:=fun x=>nC n x (d+1)) _ _ he x hx;exact ih x _ q hq
  have e3:jq (fun c:iB=>1+jq (Pc n) c.body) s.cases=jq (fun c:iB=>1+jq (Fy n) c.body) s.cases:=nv _ fun c DD=>by
   have:jq (Pc n) c.body=jq (Fy n) c.body:=nv _ fun x hx=>by
    obtain ⟨q,hq⟩:=Ee _ _ _ hc c DD x hx;exact ih x _ q hq
   rw [this]
  have e4:(if jn s.type=true then 0 else zf s.type)=(if s.kind=1 then zf s.type else 0):=by
   by_cases hk:s.kind=1
   ·rw [aD hk] at ht;have hz1:=(Dh aY s.type (d+1) _ ht).2;rw [aD hk,aq (by rw [hz1];decide)]
   ·have hs:kY s=true:=by
     have:(kY s && decide (s.cases.length≤40))=true:=hz;rw [aF] at this;exact this.1
    rw [aq hk,aD (NK s hs hk)]
  unfold Pc Fy;rw [e1,e2,e3,e4];omega
def fuN (n:Nat) (f:fL):Int:=1+Ug f.params+jq zf f.results+jq (Pc n) f.body
def prN (n:Nat) (p:rU):Int:=jq suC p.structs+jq (fuN n) p.funcs
theorem abR (n:Nat) (f:fL) (p:Int) (h:(KR n f p).1=true):fuN n f=fuC n f:=by
 obtain ⟨_,h⟩:=cY (f:=fT 0) h;obtain ⟨_,h⟩:=cY h;obtain ⟨_,h⟩:=cY h;obtain ⟨_,h⟩:=cY h;obtain ⟨_,h⟩:=cY h;unfold fuN fuC
 rw [nv f.body fun s hs=>by
  obtain ⟨q,hq⟩:=me (f:=fun s=>nC n s 0) _ _ h s hs;exact Uh n s 0 q hq]
theorem abS (n:Nat) (p:rU) (q:Int) (h:(KS n p q).1=true):prN n p=prC n p:=by
 obtain ⟨_,h⟩:=cY (f:=jG Ml p.structs) h;unfold prN prC
 rw [nv p.funcs fun f hf=>by
  obtain ⟨q,hq⟩:=me (f:=KR n) _ _ h f hf;exact abR n f q hq]
def fV (f:Int→Bool × Int):Prop:=∀ p,p≤60000→(f p).1=true→(f p).2≤60000
theorem fV.and {f g:Int→Bool × Int} (hf:fV f) (hg:fV g):fV (dR f g):=by
 intro p hp h;obtain ⟨h1,h2⟩:=cY h;unfold dR;rw [aq (by rw [h1];decide)];exact hg _ (hf p hp h1) h2
theorem fV.allow (b:Bool):fV (gu b):=fun _ hp _=>hp
theorem fV.part (d:Int):fV (fT d):=fun p _ h=>by
 have h':eJ d p=true:=h;unfold eJ at h';rw [aF,bz] at h';exact h'.1
theorem fV.row {α:Type} {f:α→Int→Bool × Int} (hf:∀ x,fV (f x)):∀ l:List α,fV (jG f l)
 | []=>fun _ hp _=>hp
 | x :: l=>(hf x).and (fV.row hf l)
theorem fV.ty (t:bJ) (d:Int):fV (fun p=>jM aY t d p):=fun p _ h=>(y5 aY t d p h).2
theorem fV.exs (l:List bh) (d:Int):fV (fun p=>kC l d p):=fun p hp h=>(Dg l d p hp h).2
theorem fV.lD (l:List bh) (d:Int):fV (lD l d):=(fV.exs l d).and (fV.allow _)
theorem fV.Wv {R:cL→Int→Int→Bool × Int} (hR:∀ s d,fV (R s d)) (d:Int):∀ (l:List iB) (seen:List Int),fV (xY R d seen l)
 | [],_=>fun _ hp _=>hp
 | k :: l,seen=>(fV.part (d+1)).and ((fV.allow (!seen.contains k.int)).and ((fV.row (f:=fun s=>R s (d+2)) (fun s=>hR s (d+2)) k.body).and (fV.Wv hR d l (seen++[k.int]))))
theorem fV.st:∀ (n:Nat) (s:cL) (d:Int),fV (nC n s d)
 | 0,_,_=>fun _ _ h=>(by cases h)
 | n+1,s,d=>by
  have ih:=fV.st n
  have jU:fV (if s.kind=1 then fun p=>jM aY s.type (d+1) p else gu true):=by
   by_cases hk:s.kind=1
   ·rw [aD hk];exact fV.ty s.type (d+1)
   ·rw [aq hk];exact fV.allow true
  exact (fV.part d).and ((fV.allow (kY s && decide (s.cases.length≤40))).and (jU.and ((fV.Wv (fun s d=>ih s d) d s.cases []).and ((fV.lD s.cq (d+1)).and ((fV.lD s.exprs (d+1)).and
   ((fV.row (f:=fun x=>nC n x (d+1)) (fun x=>ih x (d+1)) s.body).and (fV.row (f:=fun x=>nC n x (d+1)) (fun x=>ih x (d+1)) s.iS)))))))
theorem fV.pa (mC:Nat) (l:List ep):fV (Mk mC l) :=
 (fV.row (f:=fun x:ep=>dR (fT 0) (fun p=>jM aY x.type 0 p)) (fun x=>(fV.part 0).and (fV.ty x.type 0)) l).and (fV.allow _)
theorem fV.su (s:eZ):fV (Ml s):=(fV.part 0).and ((fV.allow (aY s.name)).and (fV.pa 60 s.fields))
theorem fV.fu (n:Nat) (f:fL):fV (KR n f) :=
 (fV.part 0).and ((fV.allow (aY f.name)).and ((fV.pa 20 f.params).and ((fV.allow (decide (1≤f.results.length) && decide (f.results.length≤20))).and
  ((fV.row (f:=fun t p=>jM aY t 0 p) (fun t=>fV.ty t 0) f.results).and (fV.row (f:=fun s=>nC n s 0) (fun s=>fV.st n s 0) f.body)))))
theorem fV.pr (n:Nat) (p:rU):fV (KS n p):=(fV.row fV.su p.structs).and (fV.row (fV.fu n) p.funcs)
theorem KT (n:Nat) (p:rU) (h:(KS n p 0).1=true):0≤prN n p∧prN n p≤60000:=by
 have h1:=(cW.pr n p).FP 0 h;have h2:=fV.pr n p 0 ak h;have h3:=(cW.pr n p).abQ h;rw [abS n p 0 h];omega
structure Ps where
 ws:List fS
 e:Int
 o:Int
 h:Bool
def Ps.w (s:Ps):fS:=s.ws.headD .zero
def mu (s:Ps):Nat:=if s.e=0 then s.ws.length else 0
def Ag (s:Ps) (e:Int):Ps:=if s.e=0 then ⟨s.ws,e,s.o,s.h⟩ else s
def kT (s:Ps):Ps:=if s.e=0 then (if (s.ws.tail.headD .zero).kind=9 then ⟨s.ws,50,s.o,s.h⟩ else ⟨s.ws.tail,0,s.o,s.h⟩) else s
def JD (s:Ps) (t:List UInt8):Bool:=decide (s.e=0) && (decide (s.w.kind=3) || decide (s.w.kind=4)) && decide (s.w.text=t)
def afi (t:List UInt8):Bool:=decide (t=[40]) || decide (t=[91]) || decide (t=[123])
def afj (t:List UInt8):Bool:=decide (t=[41]) || decide (t=[93]) || decide (t=[125])
def qc (s:Ps) (t:List UInt8):Ps :=
 if afi t=true then (if 100 < IntKind.i64.wrap (s.o+1) then Ag ⟨s.ws,s.e,IntKind.i64.wrap (s.o+1),s.h⟩ 51 else ⟨s.ws,s.e,IntKind.i64.wrap (s.o+1),s.h⟩)
 else if afj t=true then ⟨s.ws,s.e,IntKind.i64.wrap (s.o - 1),s.h⟩ else s
def ru (s:Ps) (t:List UInt8):Bool × Ps:=if JD s t=true then (true,kT (qc s t)) else (false,s)
def Ct (s:Ps) (t:List UInt8):Ps:=match ru s t with
 | (true,s1)=>s1
 | (false,s1)=>Ag s1 51
def GA (s:Ps):List UInt8 × Ps:=if s.e=0∧s.w.kind=1 then (s.w.text,kT s) else ([],Ag s 51)
def afk (s:Ps):Int × Ps:=if s.e=0∧s.w.kind=2 then ((s.w.int:Int),kT s) else (0,Ag s 51)
def afl:List (List UInt8 × Int):=[([98,111,111,108],1),([98,121,116,101],2),([105,110,116,51,50],3),([105,110,116],4),([117,105,110,116,51,50],5),([117,105,110,116,54,52],6)]
def aal (t:List UInt8):Int:=((afl.find? fun x=>x.1 == t).map (·.2)).getD 0
def eF:bJ:=.mk 0 [] []
abbrev EP:=Ps→bh × Ps
def afm (s:Ps):Bool:=JD s [116,114,117,101] || JD s [102,97,108,115,101] || JD s [108,101,110] || JD s [97,112,112,101,110,100] || (decide (s.w.kind=4) && decide (1 < aal s.w.text))
def IJ (E:EP):Nat→bh→Ps→bh × Ps
 | 0,x,s=>(x,s)
 | m+1,x,s=>if ¬ s.e=0 then (x,s) else match ru s [46] with
  | (true,s1)=>(match GA s1 with
   | (t,s2)=>IJ E m (.mk 9 t 0 eF [] [x]) s2)
  | (false,_)=>match ru s [91] with
   | (false,_)=>(x,s)
   | (true,s1)=>match E s1 with
    | (y,s2)=>match ru s2 [58] with
     | (false,s3)=>IJ E m (.mk 10 [] 0 eF [] [x,y]) (Ct s3 [93])
     | (true,s3)=>match E s3 with
      | (z,s4)=>IJ E m (.mk 11 [] 0 eF [] [x,y,z]) (Ct s4 [93])
abbrev SP:=Ps→cL × Ps
structure Dn (s s':Ps):Prop where
 le:mu s'≤mu s
 e:¬ s.e=0→s'.e=s.e
 sub:∀ w∈s'.ws,w∈s.ws
theorem Dn.refl (s:Ps):Dn s s:=⟨aA _,fun _=>rfl,fun _ h=>h⟩
theorem Dn.trans {a b c:Ps} (h:Dn a b) (k:Dn b c):Dn a c:=⟨iT k.le h.le,fun he=>by
 have h1:=h.e he;rw [k.e (by rw [h1];exact he),h1],fun w hw=>h.sub w (k.sub w hw)⟩
theorem Pd {s:Ps} (h:¬ s.e=0):mu s=0:=aq h
theorem Di {s:Ps} (h:s.e=0):mu s=s.ws.length:=aD h
theorem XS (s:Ps) (e:Int):Dn s (Ag s e):=by
 unfold Ag
 split
 ·rename_i h;refine ⟨?_,fun he=>absurd h he,fun _ h=>h⟩;unfold mu;rw [aD h]
  split<;>simp
 ·exact .refl _
theorem Pe (s:Ps):Dn s (kT s):=by
 unfold kT
 split
 ·rename_i h;refine ⟨?_,fun he=>absurd h he,fun w hw=>?_⟩
  case refine_2 =>
   split at hw
   ·exact hw
   ·exact List.mem_of_mem_tail hw
  unfold mu;rw [aD h]
  split<;>simp
 ·exact .refl _
theorem XT (s:Ps) (h:s.e=0) (hk:¬ s.w.kind=0):mu (kT s) < mu s:=by
 have hn:s.ws ≠ []:=by
  intro hw;unfold Ps.w at hk;rw [hw] at hk;exact hk rfl
 have hl:=jZ.2 hn;rw [Di h];unfold kT;rw [aD h]
 split
 ·rw [Pd (by show ¬ (50:Int)=0;omega)];exact hl
 ·rw [Di rfl];simp;omega
theorem Pf (s:Ps) (t:List UInt8):Dn s (qc s t):=by
 have h1:∀ o:Int,Dn s ⟨s.ws,s.e,o,s.h⟩:=fun _=>⟨aA _,fun _=>rfl,fun _ h=>h⟩;unfold qc
 split
 ·split
  ·exact (h1 _).trans (XS _ _)
  ·exact h1 _
 ·split
  ·exact h1 _
  ·exact .refl _
theorem abT (s:Ps) (t:List UInt8):(qc s t).ws=s.ws:=by
 unfold qc Ag
 split
 ·split
  ·split<;>rfl
  ·rfl
 ·split<;>rfl
theorem XU {s:Ps} {t:List UInt8} (h:JD s t=true):s.e=0∧(s.w.kind=3∨s.w.kind=4)∧s.w.text=t:=by
 unfold JD at h;simp only [aF,lg,aZ] at h;exact ⟨h.1.1,h.1.2,h.2⟩
theorem XV (s:Ps) (t:List UInt8):Dn s (ru s t).2∧((ru s t).1=true→mu (ru s t).2 < mu s)∧((ru s t).1=false→(ru s t).2=s∧JD s t=false):=by
 unfold ru
 split
 ·rename_i h;obtain ⟨h1,h2,h3⟩:=XU h;refine ⟨(Pf s t).trans (Pe _),fun _=>?_,fun h=>absurd h dM⟩
  by_cases hb:(qc s t).e=0
  ·refine eS (XT _ hb ?_) (Pf s t).le;unfold Ps.w;rw [abT];change ¬ s.w.kind=0;omega
  ·have h4:=(Pe (qc s t)).le;rw [Pd hb] at h4;show mu (kT (qc s t)) < mu s
   have hl:0 < mu s:=by
    rw [Di h1];refine jZ.2 fun hw=>?_;unfold Ps.w at h2;rw [hw] at h2;rcases h2 with h2 | h2<;>exact absurd h2 bH
   omega
 ·rename_i h;exact ⟨.refl _,fun h=>absurd h dM,fun _=>⟨rfl,by simpa using h⟩⟩
theorem Ui {s s1:Ps} {t:List UInt8} (h:ru s t=(false,s1)):s1=s:=by
 have:=(XV s t).2.2;rw [h] at this;exact (this rfl).1
def DnE {α:Type} (E:Ps→α × Ps):Prop:=∀ s,Dn s (E s).2
theorem DnE.at {α:Type} {E:Ps→α × Ps} (h:DnE E) {s s1:Ps} {x:α} (e:E s=(x,s1)):Dn s s1:=by
 have:=h s;rw [e] at this;exact this
theorem DnE.of {α:Type} {E:Ps→α × Ps} (h:∀ {s s1:Ps} {x:α},E s=(x,s1)→Dn s s1):DnE E:=fun s=>h (x:=(E s).1) rfl
def w9:fS:=⟨9,[],0,0,0⟩
def Uj (bs:List UInt8):Nat→Nat→List fS
 | 0,_=>[w9]
 | f+1,i=>if (lC bs i).2=0 then (if (lC bs i).1.kind=0 then [(lC bs i).1] else (lC bs i).1 :: Uj bs f (lC bs i).1.next) else [w9]
def XW (bs:List UInt8) (i:Nat):List fS:=Uj bs (bs.length+1) i
def OkP (bs:List UInt8) (s:Ps):Prop:=s.e=0→s.w.kind≤4∧s.w.next≤bs.length∧s.ws=s.w :: (if s.w.kind=0 then [] else XW bs s.w.next)
end Go.Proofs.YtnfnbjjnjjdjdaaGreatDoor
namespace Go.Proofs.YtnfnbjjnjjdjdaaGreatDoor
open _root_.Go.Proofs.Tryz
open Go.RowKit Go.Av Go.Ab
theorem ty1:eT prog 1=some ⟨.other,1,8,false,[.sF]⟩:=cP
def tys:=by
 have c:=aa5 prog [1,2,3,4,5,6,7,8,9,10,11,12,13,14,15,16,17,18,19,21,22,23,24,25,26,27,28,30,32,33,34,35,36,37,38,39,40,41,42,43,44,45,46,47,48,49,50,51,52,53,54,55,56,57,58,59,60,61,62,63,64,65,66,67,68,69,70,71,72,73,74,75,77,78,79,80,81,82,83,84,85,86,87,88,89,90,91,92,93,94,95,96,97,98,99,100,101,102,103,104,105,106,107,108,109,110,111,112,113,114,115,116,117,118,119,120,121,122,123,124,125,126,127,128,129,130,131,133,134,135,136,137,138,139,140,141,142,143,144,145,146,147,148,151,152,154,155,156,157,158,159,160,161,163,165,167,168,169,170,171,172,174,175,176,177,179,180,181,182,184,185,186,188,190,191,192,193,194,195,196,197,199,200,201,202,203,204,205,206,207,208,209,210,211,212,213,214,215,216,217,219,220,221,222,223,224,225,226,227,228,229,230] (by conv=>lhs;cbv);dsimp only [TyK] at c;exact c
end Go.Proofs.YtnfnbjjnjjdjdaaGreatDoor
namespace Go.Ab
open Go.RowKit Go.Av
def awC:=And.intro @Go.Ab.MN (And.intro @Go.Ab.ML (And.intro @Go.Ab.wB.eq_1 (And.intro @Go.Ab.wB.eq_2 (And.intro @Go.Ab.wB.eq_3 (And.intro @Go.Ab.wB.eq_4 (And.intro @Go.Ab.wB.eq_5 (And.intro @Go.Ab.yP.eq_1 (And.intro @Go.Ab.yP.eq_2 (And.intro @Go.Ab.yP.eq_3 (And.intro @Go.Ab.lJ.eq_1 (And.intro @Go.Ab.MI (And.intro @Go.Ab.Qt (And.intro @Go.Ab.Qu (And.intro @Go.Ab.MJ (And.intro @Go.Ab.JY (And.intro @Go.Ab.MK (And.intro @Go.Ab.jt.eq_1 (And.intro @Go.Ab.jt.eq_2 (And.intro @Go.Ab.jt.eq_3 (And.intro @Go.Ab.jt.eq_4 (And.intro @Go.Ab.jt.eq_5 (And.intro @Go.Ab.jt.eq_6 (And.intro @Go.Ab.jt.eq_7 (And.intro @Go.Ab.jt.eq_8 (And.intro @Go.Ab.jt.eq_9 (And.intro @Go.Ab.jt.eq_10 (And.intro @Go.Ab.jt.eq_11 (And.intro @Go.Ab.jt.eq_12 (And.intro @Go.Ab.jt.eq_13 (And.intro @Go.Ab.jt.eq_14 (And.intro @Go.Ab.jt.eq_15 (And.intro @Go.Ab.jt.eq_16 (And.intro @Go.Ab.jt.eq_17 (And.intro @Go.Ab.jt.eq_18 (And.intro @Go.Ab.jt.eq_19 (And.intro @Go.Ab.jt.eq_20 (And.intro @Go.Ab.jt.eq_21 (And.intro @Go.Ab.jV.eq_1 (And.intro @Go.Ab.uX.eq_def (And.intro @Go.Ab.jE.eq_1 (And.intro @Go.Ab.jE.eq_2 (And.intro @Go.Ab.jE.eq_3 (And.intro @Go.Ab.yj.eq_1 (And.intro @Go.Ab.SW.eq_1 (And.intro @Go.Ab.Db.eq_1 (And.intro @Go.Ab.JQ.eq_1 (And.intro @Go.Ab.JQ.eq_2 (And.intro @Go.Ab.JQ.eq_3 (And.intro @Go.Ab.oI.eq_def (And.intro @Go.Ab.mM.eq_1 (And.intro @Go.Ab.xu.eq_1 (And.intro @Go.Ab.ym.eq_1 (And.intro @Go.Ab.ym.eq_2 (And.intro @Go.Ab.r6.eq_1 (And.intro @Go.Ab.rep.eq_1 (And.intro @Go.Ab.rep.eq_2 (And.intro @Go.Ab.chunk.eq_1 (And.intro @Go.Ab.chunk.eq_2 (And.intro @Go.Ab.Dc.eq_1 (And.intro @Go.Ab.ZS.eq_1 (And.intro @Go.Ab.ZS.eq_2 (And.intro @Go.Ab.ZS.eq_3 (And.intro @Go.Ab.Dd.eq_def (And.intro @Go.Ab.tW.eq_1 (And.intro @Go.Ab.tW.eq_2 (And.intro @Go.Ab.tW.eq_3 (And.intro @Go.Ab.tW.eq_4 (And.intro @Go.Ab.tW.eq_5 (And.intro @Go.Ab.tW.eq_6 (And.intro @Go.Ab.tW.eq_7 (And.intro @Go.Ab.tW.eq_8 (And.intro @Go.Ab.tW.eq_9 (And.intro @Go.Ab.tW.eq_10 (And.intro @Go.Ab.tW.eq_11 (And.intro @Go.Ab.tW.eq_12 (And.intro @Go.Ab.tW.eq_13 (And.intro @Go.Ab.tW.eq_14 (And.intro @Go.Ab.tW.eq_15 (And.intro @Go.Ab.tW.eq_16 (And.intro @Go.Ab.tW.eq_17 (And.intro @Go.Ab.tW.eq_18 (And.intro @Go.Ab.DI.eq_1 (And.intro @Go.Ab.DI.eq_2 (And.intro @Go.Ab.DI.eq_3 (And.intro @Go.Ab.DI.eq_4 (And.intro @Go.Ab.DI.eq_5 (And.intro @Go.Ab.DI.eq_6 (And.intro @Go.Ab.DI.eq_7 (And.intro @Go.Ab.DI.eq_8 (And.intro @Go.Ab.DJ.eq_1 (And.intro @Go.Ab.DJ.eq_2 (And.intro @Go.Ab.DJ.eq_3 (And.intro @Go.Ab.DJ.eq_4 (And.intro @Go.Ab.Qm.eq_1 (And.intro @Go.Ab.Qm.eq_2 (And.intro @Go.Ab.Qm.eq_3 (And.intro @Go.Ab.HH.eq_1 (And.intro @Go.Ab.HJ.eq_1 (And.intro @Go.Ab.wj.eq_1 (And.intro @Go.Ab.wj.eq_2 (And.intro @Go.Ab.ux.eq_def (And.intro @Go.Ab.Bx.eq_1 (And.intro @Go.Ab.JU.eq_1 (And.intro @Go.Ab.JU.eq_2 (And.intro @Go.Ab.oa.eq_1 (And.intro @Go.Ab.still.eq_1 (And.intro @Go.Ab.kU.eq_1 (And.intro @Go.Ab.kU.eq_2 (And.intro @Go.Ab.kU.eq_3 (And.intro @Go.Ab.kU.eq_4 (And.intro @Go.Ab.uw.eq_1 (And.intro @Go.Ab.uw.eq_2 (And.intro @Go.Ab.uw.eq_3 (And.intro @Go.Ab.uw.eq_4 (And.intro @Go.Ab.bw.eq_1 (And.intro @Go.Ab.bw.eq_2 (And.intro @Go.Ab.bw.eq_3 (And.intro @Go.Ab.bw.eq_4 (And.intro @Go.Ab.DE.eq_1 (And.intro @Go.Ab.DE.eq_2 (And.intro @Go.Ab.qo.eq_1 (And.intro @Go.Ab.qo.eq_2 (And.intro @Go.Ab.qo.eq_3 (And.intro @Go.Ab.qo.eq_4 (And.intro @Go.Ab.qo.eq_5 (And.intro @Go.Ab.qo.eq_6 (And.intro @Go.Ab.qo.eq_7 (And.intro @Go.Ab.dD.eq_1 (And.intro @Go.Ab.dD.eq_2 (And.intro @Go.Ab.Bz.eq_1 (And.intro @Go.Ab.Bz.eq_2 (And.intro @Go.exitTo.eq_1 (And.intro @Go.exitTo.eq_2 (And.intro @Go.exitTo.eq_3 (And.intro @List.getElem?_toArray.{0} (And.intro @List.getElem?_cons_zero.{0} (And.intro @List.getElem?_cons_succ.{0} (And.intro @List.set_cons_zero.{0} (And.intro @List.set_cons_succ.{0} (And.intro @Option.map_some.{0,0} (And.intro @Option.map_none.{0,0} (And.intro @Option.bind_some.{0,0} (And.intro @if_true.{1} (And.intro @if_false.{1} (And.intro @ite_true.{1} (And.intro @ite_false.{1} (And.intro @Bool.false_eq_true (And.intro @eq_self.{1} (And.intro @beq_self_eq_true.{0} (And.intro @List.size_toArray.{0} (And.intro @List.length_cons.{0} (And.intro @List.length_nil.{0} (And.intro @List.length_append.{0} (And.intro @List.length_set.{0} (And.intro @List.length_map.{0,0} (And.intro @List.take_succ_cons.{0} (And.intro @List.take_zero.{0} (And.intro @List.drop_succ_cons.{0} (And.intro @List.drop_zero.{0} (And.intro @List.nil_append.{0} (And.intro @List.cons_append.{0} (And.intro @List.append_nil.{0} (And.intro @List.append_assoc.{0} (And.intro @Nat.zero_add (And.intro @Nat.add_zero (And.intro @List.map_cons.{0,0} (And.intro @List.map_nil.{0,0} (And.intro @List.toList_toArray.{0} (And.intro @Array.toList_map.{0,0} (And.intro @true_and (And.intro @and_true (And.intro @cond_true.{1} (And.intro @cond_false.{1} (And.intro @Go.Ab.gS (And.intro @Go.Ab.gp (And.intro @Go.Ab.bt (And.intro @Go.Ab.yR (And.intro @Go.Ab.Ck (And.intro @Go.Ab.oB (And.intro @Go.Ab.lK (And.intro @List.set_set.{0} (And.intro @List.all_cons.{0} (And.intro @List.all_nil.{0} (And.intro @Bool.and_true (And.intro @Bool.true_and (And.intro @Int.natCast_one (And.intro @Int.natCast_zero (And.intro @Int.cast_ofNat_Int (And.intro @Int.toNat_natCast (And.intro @Int.natCast_nonneg (And.intro @decide_true (And.intro @decide_false (And.intro @Nat.le_refl (And.intro @Int.le_refl (And.intro @Int.natCast_add (And.intro @Int.toNat_zero (And.intro @Nat.sub_zero (And.intro @Go.Ab.Qv (And.intro @Go.Ab.Tl (And.intro @Go.Ab.MP (And.intro @Go.Ab.MQ (And.intro @Go.Ab.Qw (And.intro @Go.Ab.Qx (And.intro @Go.Ab.ON.eq_def (And.intro @Bool.not_false (And.intro @Bool.not_true (And.intro @Go.Ab.OJ.eq_1 (And.intro @Go.Ab.OJ.eq_2 (And.intro @Go.Ab.OK.eq_1 (And.intro @Go.Ab.OK.eq_2 (And.intro @Go.Ab.Tc.eq_1 (And.intro @Go.Ab.ptrEq.eq_1 (And.intro @Go.Ab.ptrEq.eq_2 (And.intro @Go.Ab.ptrEq.eq_3 (And.intro @Go.Ab.ptrEq.eq_4 (And.intro @Go.Ab.ptrEq.eq_5 (And.intro @Go.Ab.ptrEq.eq_6 (And.intro @Go.Ab.zK.eq_1 (And.intro @Go.Ab.zK.eq_2 (And.intro @Go.Ab.OG.eq_1 @Go.Ab.OG.eq_2))))))))))))))))))))))))))))))))))))))))))))))))))))))))))))))))))))))))))))))))))))))))))))))))))))))))))))))))))))))))))))))))))))))))))))))))))))))))))))))))))))))))))))))))))))))))))))))))))))))))))))))))))))))))))))
def awO:=And.intro @Go.Ab.od.eq_1 (And.intro @Go.Ab.od.eq_2 (And.intro @Go.Ab.od.eq_3 (And.intro @Go.Ab.od.eq_4 (And.intro @Go.Ab.od.eq_5 (And.intro @Go.Ab.od.eq_6 (And.intro @Go.Ab.od.eq_7 (And.intro @Go.Ab.od.eq_8 (And.intro @Go.Ab.JX.eq_1 (And.intro @Go.Ab.Ia.eq_1 (And.intro @List.getD_cons_zero.{0} (And.intro @List.getD_cons_succ.{0} (And.intro @List.replicate_succ.{0} (And.intro @List.replicate_zero.{0} (And.intro @Go.Ab.lQ.eq_1 (And.intro @List.foldl_cons.{0,0} (And.intro @List.foldl_nil.{0,0} (And.intro @Go.Ab.zP.eq_1 @Go.Ab.opQ.eq_1)))))))))))))))))
def awN:=And.intro @Go.Ab.MV (And.intro @Go.Ab.Ge (And.intro @Go.Ab.zQ (And.intro @Go.Ab.fP (And.intro @Go.Ab.Tq (And.intro @Go.Ab.Xj (And.intro @Go.Ab.Ie (And.intro @Go.Ab.MR (And.intro @Go.Ab.mb.eq_1 (And.intro @Go.Ab.mb.eq_2 (And.intro @Go.Ab.Xk (And.intro @Go.Ab.Xl @Go.Ab.Xm)))))))))))
end Go.Ab
namespace Go.Proofs.YtnfnbjjnjjdjdaaGreatDoor
open _root_.Go.Proofs.Tryz
open Go.RowKit Go.Av Go.Ab
mutual
def eH:bJ→List D
 | .mk k n es=>[.int .i64 k,.str n,.sl (Uk es)]
def Uk:List bJ→List (List D)
 | []=>[]
 | t :: l=>eH t :: Uk l
end
theorem KU:∀ l:List bJ,Uk l=l.map eH
 | []=>by simp [Uk]
 | t :: l=>by simp [Uk,KU l]
theorem eK (t:bJ):eH t=[.int .i64 t.kind,.str t.name,.sl (t.elem.map eH)]:=by
 cases t;rw [eH,KU];rfl
def gN (l:List (List UInt8)):List (List D):=l.map fun s=>[.str s]
mutual
def eL:bh→List D
 | .mk k t i ty ns ks=>[.int .i64 k,.str t,.int .u64 i,.int .i64 ty.kind,.str ty.name,.sl (ty.elem.map eH),.sl (gN ns),.sl (Ul ks)]
def Ul:List bh→List (List D)
 | []=>[]
 | x :: l=>eL x :: Ul l
end
theorem KV:∀ l:List bh,Ul l=l.map eL
 | []=>by simp [Ul]
 | t :: l=>by simp [Ul,KV l]
theorem dF (x:bh):eL x=[.int .i64 x.kind,.str x.text,.int .u64 x.int,.int .i64 x.type.kind,.str x.type.name,.sl (x.type.elem.map eH),.sl (gN x.names),.sl (x.kids.map eL)]:=by
 cases x;rw [eL,KV];rfl
mutual
def gE:cL→List D
 | .mk k ns ty ls es b e cs=>[.int .i64 k,.sl (gN ns),.int .i64 ty.kind,.str ty.name,.sl (ty.elem.map eH),.sl (ls.map eL),.sl (es.map eL),.sl (NL b),.sl (NL e),.sl (Um cs)]
def NL:List cL→List (List D)
 | []=>[]
 | x :: l=>gE x :: NL l
def lV:iB→List D
 | .mk i b=>[.int .u64 i,.sl (NL b)]
def Um:List iB→List (List D)
 | []=>[]
 | x :: l=>lV x :: Um l
end
theorem Ah:∀ l:List cL,NL l=l.map gE
 | []=>by simp [NL]
 | t :: l=>by simp [NL,Ah l]
theorem KW:∀ l:List iB,Um l=l.map lV
 | []=>by simp [Um]
 | t :: l=>by simp [Um,KW l]
theorem lN (c:iB):lV c=[.int .u64 c.int,.sl (c.body.map gE)]:=by
 cases c;rw [lV,Ah];rfl
theorem iZ (s:cL):gE s=[.int .i64 s.kind,.sl (gN s.names),.int .i64 s.type.kind,.str s.type.name,.sl (s.type.elem.map eH),.sl (s.cq.map eL),.sl (s.exprs.map eL),.sl (s.body.map gE),.sl (s.iS.map gE),.sl (s.cases.map lV)]:=by
 cases s;rw [gE,Ah,Ah,KW];rfl
def jK (p:ep):List D:=[.str p.name,.int .i64 p.type.kind,.str p.type.name,.sl (p.type.elem.map eH)]
def ki (s:eZ):List D:=[.str s.name,.sl (s.fields.map jK)]
def lT (f:fL):List D:=[.str f.name,.sl (f.params.map jK),.sl (f.results.map eH),.sl (f.body.map gE)]
theorem qB (p:ep):jK p=[.str p.name,.int .i64 p.type.kind,.str p.type.name,.sl (p.type.elem.map eH)]:=rfl
theorem wQ (s:eZ):ki s=[.str s.name,.sl (s.fields.map jK)]:=rfl
theorem sV (f:fL):lT f=[.str f.name,.sl (f.params.map jK),.sl (f.results.map eH),.sl (f.body.map gE)]:=rfl
def cH (t:bJ):V:=.agg [.d (.int .i64 t.kind),.d (.str t.name),.d (.sl (t.elem.map eH))]
def fK (x:bh):V:=.agg [.d (.int .i64 x.kind),.d (.str x.text),.d (.int .u64 x.int),.d (.int .i64 x.type.kind),.d (.str x.type.name),.d (.sl (x.type.elem.map eH)),.d (.sl (gN x.names)),.d (.sl (x.kids.map eL))]
def vS (s:cL):V:=.agg [.d (.int .i64 s.kind),.d (.sl (gN s.names)),.d (.int .i64 s.type.kind),.d (.str s.type.name),.d (.sl (s.type.elem.map eH)),.d (.sl (s.cq.map eL)),.d (.sl (s.exprs.map eL)),.d (.sl (s.body.map gE)),.d (.sl (s.iS.map gE)),.d (.sl (s.cases.map lV))]
def Ww (c:iB):V:=.agg [.d (.int .u64 c.int),.d (.sl (c.body.map gE))]
def Pg (p:ep):V:=.agg [.d (.str p.name),.d (.int .i64 p.type.kind),.d (.str p.type.name),.d (.sl (p.type.elem.map eH))]
def KX (s:eZ):V:=.agg [.d (.str s.name),.d (.sl (s.fields.map jK))]
def KY (f:fL):V:=.agg [.d (.str f.name),.d (.sl (f.params.map jK)),.d (.sl (f.results.map eH)),.d (.sl (f.body.map gE))]
def sy (p:rU):V:=.agg [.d (.sl (p.structs.map ki)),.d (.sl (p.funcs.map lT))]
theorem Ri (l:List (List UInt8)):fE 1 (gN l)=true:=nk (fun s:List UInt8=>[D.str s]) (fun _=>rfl) l
theorem Rj (l:List bJ):fE 3 (l.map eH)=true:=nk _ (fun x=>by rw [eK];rfl) l
theorem Rk (l:List bh):fE 8 (l.map eL)=true:=nk _ (fun x=>by rw [dF];rfl) l
theorem Rl (l:List cL):fE 10 (l.map gE)=true:=nk _ (fun x=>by rw [iZ];rfl) l
theorem Rm (l:List iB):fE 2 (l.map lV)=true:=nk _ (fun x=>by rw [lN];rfl) l
theorem Rn (l:List ep):fE 4 (l.map jK)=true:=nk jK (fun _=>rfl) l
theorem Ro (l:List eZ):fE 2 (l.map ki)=true:=nk ki (fun _=>rfl) l
theorem Rp (l:List fL):fE 4 (l.map lT)=true:=nk lT (fun _=>rfl) l
theorem eV (l:List (List UInt8)):(gN l).length=l.length:=by simp [gN]
theorem XX (l:List (List UInt8)) (i:Nat):(gN l)[i]? = (l[i]?).map fun s=>[.str s]:=by simp [gN]
theorem Un (l:List (List UInt8)) (n:Nat):(gN l).take n=gN (l.take n):=by simp [gN,og]
theorem Uo (l:List (List UInt8)) (n:Nat):(gN l).drop n=gN (l.drop n):=by simp [gN,yz]
set_option linter.defProp false in
def awT:=And.intro @Ri ( And.intro @Rj ( And.intro @Rk ( And.intro @Rl ( And.intro @Rm ( And.intro @Rn ( And.intro @Ro ( And.intro @Rp ( And.intro @eV ( And.intro @XX ( And.intro @Un (@Uo)))))))))))
def W:=And.intro awC (And.intro awN (And.intro awT tys))
def WO:=And.intro awC (And.intro awO (And.intro awT tys))
def agb:=And.intro @and_self (And.intro @true_and (And.intro @and_true (And.intro @eq_self.{1} (And.intro @Int.natCast_add (And.intro @Int.natCast_one (And.intro @Int.natCast_zero (And.intro @zQ (And.intro @Ge (And.intro @Ie (And.intro @MR (And.intro @cond_true.{1} (@cond_false.{1}))))))))))))
def qa:=And.intro @MS (And.intro @Qz agb)
def zB:=And.intro @Kb (And.intro @MT (And.intro @Bool.and_true (And.intro @Bool.true_and (And.intro @Bool.and_self (And.intro @decide_true (And.intro @List.length_set.{0} (And.intro @fit.eq_1 (And.intro @fit.eq_2 (And.intro @fit.eq_3 (And.intro @fit.eq_4 (And.intro @fit.eq_5 (And.intro @fit.eq_6 (And.intro @fit.eq_7 (And.intro @fit.eq_8 (And.intro @fit.eq_9 (And.intro @fit.eq_10 (And.intro @fit.eq_11 (And.intro @fit.eq_12 (And.intro @qq.eq_1 (And.intro @qq.eq_2 (And.intro @fit.eq_15 (And.intro @fit.eq_16 (agb)))))))))))))))))))))))
def yt:=And.intro @List.getD_cons_zero.{0} (And.intro @List.getD_cons_succ.{0} (And.intro @wk.eq_1 (And.intro @wk.eq_2 (And.intro @wk.eq_3 (And.intro @wk.eq_4 (And.intro @wk.eq_5 (And.intro @wk.eq_6 (And.intro @wk.eq_7 (And.intro @wk.eq_8 (And.intro @wk.eq_9 (And.intro @wk.eq_10 (And.intro @wk.eq_11 (And.intro @wk.eq_12 (And.intro @wk.eq_15 (And.intro @wk.eq_16 (agb))))))))))))))))
def yT:=And.intro @decide_eq_true_eq (And.intro @decide_eq_false_iff_not (And.intro @Bool.not_eq_true' @Bool.not_eq_false'))
def fH:=And.intro @Ic.eq_1 (And.intro @Ic.eq_2 (And.intro @sm.eq_1 (And.intro @sm.eq_2 (And.intro @sm.eq_3 (And.intro @sm.eq_4 (And.intro @abm (And.intro @Xd (And.intro @abn (And.intro @aeH (And.intro @Xe (And.intro @Xf (And.intro @Xg (And.intro @Xh (And.intro @To (And.intro @abo (And.intro @fK.eq_1 (And.intro @vS.eq_1 (And.intro @cH.eq_1 (And.intro @Ww.eq_1 (And.intro @Pg.eq_1 (And.intro @KX.eq_1 (And.intro @KY.eq_1 (And.intro @sy.eq_1 (And.intro @Bool.and_eq_true (And.intro @decide_eq_true_eq (And.intro @and_true (And.intro @true_and (And.intro @List.length_map.{0,0} (@eV)))))))))))))))))))))))))))))
theorem bE (n:Int) (h:-9223372036854775808≤n∧n≤9223372036854775807):IntKind.i64.wrap n=n:=IntWalk.i64_in _ h
theorem tG (c:Nat) (d p:Int) (B:bQ) (T:eg) (h:B[c]? = some [.d (.int .i64 p)]) (hp:0≤p∧p≤60000) :
 cy prog bI 90 [.ptr c 0,.d (.int .i64 d)] ⟨B,T⟩ (cF (.d (.bool (eJ d p))) ⟨B.set c [.d (.int .i64 (p+1))],T⟩):=by
 have hi:=(ai.1 h).1;have hw:=bE (p+1) ak;unfold eJ;refine cy.body func90 rfl cP ?_;refine az.go 100 ?_;simp only [f90,WO,seval,h,hi,hw];refine cU (fun h1=>?_) (fun h1=>?_)
 all_goals
  simp only [WO,seval,h1];refine az.ret func90 rfl (Left.aeE rfl ?_);exact ⟨rfl,rfl⟩
theorem sW (s:List UInt8) (S:Mem):cy prog bI 91 [.d (.str s)] S (cF (.d (.bool (aY s))) S):=by
 refine cy.DT func91 rfl cP fun c w xs h1 h2 h3 hI=>?_;have hv:=h2 0 dM;obtain ⟨x,rfl⟩:∃ x,xs = #[x]:=⟨xs[0]'(by simp at h1;omega),by apply xD<;>simp_all⟩;simp at hv;cases hv with
 | d _ _ hv=>cases hv with
  | str _ hl =>
   refine (abO s w hI hl).mono ?_;rintro e w' ⟨rfl,hb⟩;exact ⟨_,_,rfl,⟨rfl,rfl⟩,hb,.d _ _ (.bool _)⟩
theorem Ph (t:bJ) (B:bQ) (T:eg):cy prog bI 96 [cH t] ⟨B,T⟩ (cF (.d (.bool (jn t))) ⟨B,T⟩):=by
 obtain ⟨n,hn⟩:=aV B.length;unfold cH;refine cy.body func96 rfl cP ?_;refine az.go 100 ?_;simp only [f96,WO,seval,hn]
 repeat' ((first | refine cU (fun h=>?_) (fun h=>?_) | refine cT (fun h=>?_) (fun h=>?_))<;>simp only [WO,seval,h,hn])
 all_goals
  refine az.ret func96 rfl (Left.box ?_);exact ⟨by simp [wk,jn, *],rfl⟩
def PF (bx:Ps→Nat→List V) (ok:Ps→Nat→Prop) (f:FuncId) (ar:List V) (s:Ps) (v:V) (s':Ps):Prop :=
 ∀ (c:Nat) (B:bQ) (T:eg) (i:Nat),c < B.length→ok s i→cy prog bI f (.ptr c 0 :: ar) ⟨B.set c (bx s i),T⟩ fun v' m=>v' = v∧∃ i',ok s' i'∧m=⟨B.set c (bx s' i'),T⟩
section
variable {bx:Ps→Nat→List V} {ok:Ps→Nat→Prop} {f:FuncId} {ar:List V} {s s':Ps} {v:V} {c i:Nat} {B J:bQ} {T K:eg}
theorem PF.fn (h:PF bx ok f ar s v s') (hc:c < B.length) (hi:ok s i):cy prog bI f (.ptr c 0 :: ar) ⟨B.set c (bx s i)++J,T⟩ fun v' m=>v' = v∧∃ i',ok s' i'∧m=⟨B.set c (bx s' i')++J,T⟩:=by
 have:=h c (B++J) T i fk hi;rw [gT _ _ hc] at this;refine this.mono ?_;rintro v' m ⟨rfl,i',h1,rfl⟩;exact ⟨rfl,i',h1,by rw [gT _ _ hc]⟩
theorem PF.call {stop:kA} {k:List Item} {d:Option Tmp} {env:List V} (h:PF bx ok f ar s v s') (hc:c < B.length) (hi:ok s i) (hk:∀ i',ok s' i'→stop k (dD env d v) ⟨B.set c (bx s' i')++J,T⟩):wA prog bI stop (.func f [] []) (.ptr c 0 :: ar) k d env ⟨B.set c (bx s i)++J,T⟩ :=
 kG (h.fn hc hi) fun _ _ ⟨e1,i',h1,e2⟩=>by rw [e1,e2];exact hk i' h1
end
section
variable {B J:bQ} {T K:eg} {c:Nat} {x y:List V} {R:V→Mem→Prop} {v:V}
theorem PF.ret (hy:∀ n m,y.all (fit n m)=true) (h:R (wk (B.set c x).length T.length v) ⟨B.set c y,T⟩):Ab.Left ⟨B.set c x,T⟩ R v ⟨B.set c y++J,T++K⟩:=by
 refine Ab.Left.of dM rfl ?_ h;have:=(yQ.refl (B.set c x).length T.length (B.set c x)).set c (hy _ _)
 rwa [jy] at this
end
end Go.Proofs.YtnfnbjjnjjdjdaaGreatDoor
namespace Go.Ab
open Go.RowKit Go.Av
abbrev Rq:=FuncId→List Item→List V→Mem→Option (V × Mem)
def aam (P:Program) (fn:FuncId) (env:List V) (S:Mem):Option (V × Mem) :=
 match P.funcs[fn]? with
 | some f=>match DN P S env f.results.toList with
  | some v=>some (v,S)
  | none=>none
 | none=>none
def abU (S:Mem) (v:V) (S':Mem):V × Mem :=
 match fit S.boxes.length S'.dG.length v && (S'.boxes.take S.boxes.length).all (fun vs=>vs.all (fit S.boxes.length S.dG.length)) && Nat.ble S.boxes.length S'.boxes.length && Nat.ble S.dG.length S'.dG.length with
 | true=>(wk S.boxes.length S.dG.length v,⟨S'.boxes.take S.boxes.length,S'.dG.take S.dG.length⟩)
 | false=>(v,S')
def ajc (run:Rq) (g:FuncId) (body:Code) (init:List V) (S:Mem):Option (V × Mem) :=
 match run g [.code body] init S with
 | some (v,S')=>some (abU S v S')
 | none=>none
def Up (P:Program) (kB:FuncId→List V→Option V) (run:Rq) (g:FuncId) (args:List V):Option V :=
 match P.funcs[g]? with
 | some f=>match f.body with
  | some body=>match kB g args with
   | some v=>some (wk 0 0 v)
   | none=>match run g [.code body] (args++List.replicate (f.ntmps - args.length) .undef) ⟨[],[]⟩ with
    | some (v,S0)=>match fit 0 S0.dG.length v with
     | true=>some (wk 0 0 v)
     | false=>none
    | none=>none
  | none=>none
 | none=>none
def aan (P:Program) (run:Rq) (g:FuncId) (args:List V) (S:Mem):Option (V × Mem) :=
 match P.funcs[g]? with
 | some f=>match f.body with
  | some body=>ajc run g body (args++List.replicate (f.ntmps - args.length) .undef) S
  | none=>none
 | none=>none
def ajd (P:Program) (kB:FuncId→List V→Option V) (run:Rq) (g:FuncId) (args:List V) (S:Mem):Option (V × Mem) :=
 match qq 0 0 args with
 | true=>match Up P kB run g (u7 0 0 args) with
  | some v=>some (v,S)
  | none=>aan P run g args S
 | false=>aan P run g args S
def IK (run:Rq) (fn:FuncId) (r:Option (V × Mem)) (k:List Item) (d:Option Tmp) (env:List V):Option (V × Mem) :=
 match r with
 | some (v,S)=>run fn k (dD env d v) S
 | none=>none
def afo (P:Program) (env:List V) (S:Mem) (s:Operand) (t:TypeId):List V × Mem :=
 match s with
 | .tmp q=>match env.getD q .undef with
  | .sl rows .full=>match eT P t with
   | some ti=>match ti.d with
    | .slice e=>match eT P e with
     | some te=>match decide (0 < te.size) && fE te.size rows with
      | true=>(env.set q (.sl rows (.own S.dG.length)),{ S with dG:=S.dG++[(rows.length,te.size)] })
      | false=>(env,S)
     | none=>(env,S)
    | _=>(env,S)
   | none=>(env,S)
  | _=>(env,S)
 | _=>(env,S)
def afp (P:Program) (I:Inv) (kB:FuncId→List V→Option V) (run:Rq) (fn:FuncId) (ops:Array Oper) (rest:List Nat) (o:Oper) (k:List Item) (env:List V) (S:Mem):Option (V × Mem) :=
 match o.op with
 | .call q=>match q.callee with
  | .value f=>match bw I env f with
   | .func g first caps=>IK run fn (ajd P kB run g (first++q.args.toList.map (bw I env)++caps) S) (.inRegion ops rest :: k) o.dst env
   | _=>none
  | .builtin .append=>match q.args.toList,q.argTypes.toList with
   | [s,_],[t,_]=>match afo P env S s t with
    | (iI,S')=>IK run fn (jV P (bw I iI) S' q) (.inRegion ops rest :: k) o.dst iI
   | _,_=>none
  | _=>IK run fn (jV P (bw I env) S q) (.inRegion ops rest :: k) o.dst env
 | op=>IK run fn (jt P (bw I env) S op) (.inRegion ops rest :: k) o.dst env
def afq (P:Program) (I:Inv) (kB:FuncId→List V→Option V) (run:Rq) (fn:FuncId) (ops:Array Oper) (i:Nat) (rest:List Nat) (k:List Item) (env:List V) (S:Mem):Option (V × Mem) :=
 match ops[i]? with
 | some o=>match o.guard with
  | none=>afp P I kB run fn ops rest o k env S
  | some (j,want)=>match lJ env ops j with
   | .d (.bool t)=>match t == want with
    | true=>afp P I kB run fn ops rest o k env S
    | false=>run fn (.inRegion ops rest :: k) (dD env o.dst (.fZ [])) S
   | .fZ []=>run fn (.inRegion ops rest :: k) (dD env o.dst (.fZ [])) S
   | _=>none
 | none=>none
def XY:Op→Bool
 | .move _=>true
 | .assign _=>true
 | .pick ..=>true
 | .build ..=>true
 | .load ..=>true
 | .nilCheck _=>true
 | .binOp ..=>true
 | .unOp ..=>true
 | .makeFunc ..=>true
 | .slice ..=>true
 | .fieldAddr ..=>true
 | .indexAddr ..=>true
 | .index ..=>true
 | .extract ..=>true
 | _=>false
def aao (r:Option (V × Mem)):Option V :=
 match r with
 | some (v,_)=>some v
 | none=>none
def aap (P:Program) (I:Inv) (kB:FuncId→List V→Option V) (run:Rq) (o:Oper) (env:List V) (S:Mem):Option V :=
 match o.op with
 | .call q=>match q.callee with
  | .value f=>match bw I env f with
   | .func g first caps=>match qq 0 0 (first++q.args.toList.map (bw I env)++caps) with
    | true=>Up P kB run g (u7 0 0 (first++q.args.toList.map (bw I env)++caps))
    | false=>none
   | _=>none
  | .builtin .len=>aao (jV P (bw I env) S q)
  | _=>none
 | op=>match XY op with
  | true=>aao (jt P (bw I env) S op)
  | false=>none
def KZ (P:Program) (I:Inv) (kB:FuncId→List V→Option V) (run:Rq) (ops:Array Oper) (S:Mem):List Oper→List V→Option (List V)
 | [],env=>some env
 | o :: l,env=>match o.guard with
  | none=>match aap P I kB run o env S with
   | some v=>KZ P I kB run ops S l (dD env o.dst v)
   | none=>none
  | some (j,want)=>match lJ env ops j with
   | .d (.bool t)=>match t == want with
    | true=>match aap P I kB run o env S with
     | some v=>KZ P I kB run ops S l (dD env o.dst v)
     | none=>none
    | false=>KZ P I kB run ops S l (dD env o.dst (.fZ []))
   | .fZ []=>KZ P I kB run ops S l (dD env o.dst (.fZ []))
   | _=>none
def abV (P:Program) (I:Inv) (kB:FuncId→List V→Option V) (run:Rq) (fn:FuncId) (c:Code) (k:List Item) (env:List V) (S:Mem):Option (V × Mem) :=
 match c with
 | .seq a b=>run fn (.code a :: .code b :: k) env S
 | .skip=>run fn k env S
 | .label _=>run fn k env S
 | .block id a=>run fn (.code a :: .inBlock id :: k) env S
 | .region _ ops false=>run fn (.inRegion ops (Bz 0 ops.toList) :: k) env S
 | .region _ ops true=>match P.follows .mixedOrders && Region.lexB .any ops with
  | true=>match KZ P I kB run ops S ops.toList env with
   | some iI=>run fn k iI S
   | none=>none
  | false=>none
 | .cond x a b=>match bw I env x with
  | .d (.bool t)=>match t with
   | true=>run fn (.code a :: k) env S
   | false=>run fn (.code b :: k) env S
  | _=>none
 | .exit id=>match exitTo id k with
  | some k'=>run fn k' env S
  | none=>none
 | .loop x=>run fn (.code x :: .inLoop x :: k) env S
 | .ret=>aam P fn env S
 | _=>none
def abW (P:Program) (I:Inv) (kB:FuncId→List V→Option V) (run:Rq):Rq:=fun fn k env S =>
 match k with
 | []=>aam P fn env S
 | .code c :: k=>abV P I kB run fn c k env S
 | .inBlock _ :: k=>run fn k env S
 | .inLoop x :: k=>run fn (.code x :: .inLoop x :: k) env S
 | .inRegion _ [] :: k=>run fn k env S
 | .inRegion ops (i :: rest) :: k=>afq P I kB run fn ops i rest k env S
 | _=>none
noncomputable def ev (P:Program) (I:Inv) (kB:FuncId→List V→Option V) (n:Nat):Rq:=Nat.rec (fun _ _ _ _=>none) (fun _ run=>abW P I kB run) n
section
variable {P:Program} {I:Inv} {kB:FuncId→List V→Option V}
end
end Go.Ab
namespace Go.Ab
open Go.RowKit Go.Av
theorem cy.Uq {P:Program} {I:Inv} {f:FuncId} {args aaq:List V} {v:V} (h:cy P I f aaq ⟨[],[]⟩ (fun v' _=>v' = v)) (hd:u7 0 0 args=aaq) (hv:wk 0 0 v=v) (S:Mem):cy P I f args S (cF v S) :=
 cy.mono (cy.frame (R:=fun v' _=>v' = v) (by rw [hd];exact h) S) fun v' S' h=>by
  obtain ⟨h1,v0,S0,h2,h3⟩:=h;exact ⟨by rw [h3,h2,hv],h1⟩
theorem cy.only {P:Program} {I:Inv} {f:FuncId} {args:List V} {v:V} {S:Mem} (h:cy P I f args S (cF v S)):cy P I f args S (fun v' _=>v' = v):=h.mono fun _ _ h=>h.1
end Go.Ab
namespace Go.Proofs.YtnfnbjjnjjdjdaaGreatDoor
open _root_.Go.Proofs.Tryz
open Go.RowKit Go.Av Go.Ab
end Go.Proofs.YtnfnbjjnjjdjdaaGreatDoor
namespace Go.Proofs.YtnfnbjjnjjdjdaaGreatDoor
open _root_.Go.Proofs.Tryz
open Go.RowKit Go.Av Go.Ab
def K0 (bs:List UInt8):List (List D):=bs.map lX
def wdL (x:fS):List V:=[.d (.int .i64 x.kind),.d (.str x.text),.d (.int .u64 x.int),.d (.int .i64 x.at'),.d (.int .i64 x.next)]
theorem Ur (bs:List UInt8) (i:Int):(lC bs i).1.text.length≤bs.length+9:=by
 unfold lC
 split
 ·simp [fS.zero]
 ·unfold kf
  split
  ·simp
  ·split
   ·simp only [uc,cg,eG];omega
   ·split
    ·split
     ·simp only [r8,oo,cg,eG];omega
     ·simp [fS.zero]
    ·split
     ·rename_i s hs;have h3:∀ s∈kX,s.length≤9:=bH;have:=h3 s (List.mem_of_find?_eq_some hs);simp only;omega
     ·simp [fS.zero]
def bxP (bs:List UInt8) (s:Ps):List V:=[.d (.sl (K0 bs)),.d (.int .i64 s.w.kind),.d (.str s.w.text),.d (.int .u64 s.w.int),.d (.int .i64 s.w.at'),.d (.int .i64 s.w.next),.d (.int .i64 s.e),.d (.int .i64 s.o),.d (.bool s.h)]
abbrev PP (bs:List UInt8) (f:FuncId) (ar:List V) (s:Ps) (v:V) (s':Ps):Prop:=PF (fun s _=>bxP bs s) (fun s _=>OkP bs s) f ar s v s'
theorem PP.of {bs:List UInt8} {f:FuncId} {ar:List V} {s s':Ps} {v:V} (h:∀ (c:Nat) (B:bQ) (T:eg),c < B.length→OkP bs s→OkP bs s'∧cy prog bI f (.ptr c 0 :: ar) ⟨B.set c (bxP bs s),T⟩ (cF v ⟨B.set c (bxP bs s'),T⟩)):PP bs f ar s v s' :=
 fun c B T i hc hi=>(h c B T hc hi).2.mono fun _ _ ⟨e1,e2⟩=>⟨e1,i,(h c B T hc hi).1,e2⟩
def BN {α:Type} (p:α→Bool):List α→Int→Int
 | [],_=>-1
 | x :: l,i=>if p x then i else BN p l (i+1)
theorem K4 {α:Type} (p:α→Bool):∀ (l:List α) (i:Int),0≤i→decide (0≤BN p l i)=l.any p
 | [],i,_=>by simp [BN]
 | x :: l,i,hi=>by
  unfold BN;cases hp:p x
  ·simp [hp,K4 p l (i+1) ak]
  ·simp [hp,hi]
theorem fj {α:Type} {l:List α} {i:Nat} (h:i < l.length):l.drop i=l[i] :: l.drop (i+1):=aJ h
theorem IL (l:List (List UInt8)) (s:List UInt8) (hl:l.length≤9223372036854775807) (S:Mem):cy prog bI 181 [.d (.sl (gN l)),.d (.str s)] S (cF (.d (.int .i64 (BN (· == s) l 0))) S):=by
 refine cy.body func181 rfl cP ?_;refine az.go 100 ?_;simp only [f181,WO,seval];refine az.dL (fun i:Nat=>(lQ 19 [(0,.d (.sl (gN l))),(1,.d (.str s)),(6,.d (.sl (gN l))),(7,.d (.int .i64 l.length)),(8,.d (.int .i64 i))],S)) (fun i=>i≤l.length∧BN (· == s) l 0=BN (· == s) (l.drop i) i) (fun i=>l.length - i) 0 ⟨ak,rfl⟩ ?_ rfl ?_
 ·simp only [lQ,cO,cX,dc,eC,cn,cI,nR,kj,lE,lF,jH,dB,dw,cV]
 rintro i ⟨h1,h2⟩ ih
 by_cases bu:i < l.length
 ·have hw:=bE ((i:Int)+1) ak;have hg:=au bu;rw [fj bu] at h2;have dY:decide ((i:Int) < (l.length:Int))=true:=ah ak;refine goN ?_;simp only [WO,seval,hg,dY,hw];refine cT (fun h=>?_) (fun h=>?_)
  ·have hb:(l[i] == s)=true:=by rw [iK];exact (bV h).symm
   simp only [WO,seval,h];refine az.ret func181 rfl (Left.none ?_);have e:BN (· == s) (l[i] :: l.drop (i+1)) (i:Int)=i:=by simp [BN,hb]
   rw [h2,e];exact ⟨rfl,rfl⟩
  ·have hb:(l[i] == s)=false:=by rw [cB];exact fun e=>dJ h e.symm
   simp only [WO,seval,h,hw];have e:BN (· == s) (l[i] :: l.drop (i+1)) (i:Int)=BN (· == s) (l.drop (i+1)) ((i+1:Nat):Int):=by simp [BN,hb]
   refine ih (i+1) ⟨ak,by rw [h2,e]⟩ ak _ _ ?_ rfl;simp only [lQ,cO,cX,dc,eC,cn,cI,nR,kj,lE,lF,jH,dB,dw,cV]
 ·have dY:decide ((i:Int) < (l.length:Int))=false:=af ak;refine goN ?_;simp only [WO,seval,dY];refine az.ret func181 rfl (Left.none ?_);rw [h2,ay ak];exact ⟨rfl,rfl⟩
theorem contains_eq (l:List (List UInt8)) (s:List UInt8):decide (0≤BN (· == s) l 0)=l.contains s:=by
 rw [K4 _ _ _ (dV 0),dQ,List.any_eq_true,List.contains_iff_exists_mem_beq];constructor<;>rintro ⟨x,hx,h⟩<;>exact ⟨x,hx,by rw [iK] at h ⊢;exact h.symm⟩
theorem CS (l:List (List UInt8)) (s:List UInt8) (hl:l.length≤9223372036854775807) (S:Mem):cy prog bI 161 [.d (.sl (gN l)),.d (.str s)] S (cF (.d (.bool (l.contains s))) S):=by
 refine cy.body func161 rfl cP ?_;refine az.go 100 ?_;simp only [f161,WO,seval];refine aX (IL l s hl _) ?_;refine goN ?_;simp only [WO,seval,contains_eq];refine az.ret func161 rfl (Left.none ?_);exact ⟨rfl,rfl⟩
def fo {α σ:Type} (f:α→σ→Bool × σ):List α→Int→σ→Int × σ
 | [],_,s=>(-1,s)
 | x :: l,i,s=>if (f x s).1=true then (i,(f x s).2) else fo f l (i+1) (f x s).2
def ud {α σ:Type} (f:α→σ→Bool × σ):List α→σ→Bool × σ
 | [],s=>(false,s)
 | x :: l,s=>if (f x s).1=true then (true,(f x s).2) else ud f l (f x s).2
theorem qC {α σ:Type} (f:α→σ→Bool × σ):∀ (l:List α) (i:Int) (s:σ),0≤i→decide (0≤(fo f l i s).1)=(ud f l s).1∧(fo f l i s).2=(ud f l s).2
 | [],i,s,_=>⟨by simp [fo,ud],rfl⟩
 | x :: l,i,s,hi=>by
  unfold fo ud;cases h:(f x s).1
  ·simpa using qC f l (i+1) (f x s).2 ak
  ·simpa using hi
def Good (P:Program) (I:Inv) {α σ:Type} (g:FuncId) (first caps:List V) (K5:α→V) (mem:σ→Mem) (f:α→σ→Bool × σ):List α→σ→Prop
 | [],_=>True
 | x :: l,s=>cy P I g (first++[K5 x]++caps) (mem s) (cF (.d (.bool (f x s).1)) (mem (f x s).2))∧((f x s).1=false→Good P I g first caps K5 mem f l (f x s).2)
theorem Ef {σ:Type} (g:FuncId) (first caps:List V) (mem:σ→Mem) (f:bJ→σ→Bool × σ) (hm:∀ s s',(mem s).boxes.length=(mem s').boxes.length∧(mem s).dG.length=(mem s').dG.length) (l:List bJ) (hl:l.length≤9223372036854775807) (s0:σ) (hg:Good prog bI g first caps cH mem f l s0) :
 cy prog bI 107 [.d (.sl (l.map eH)),.func g first caps] (mem s0) (cF (.d (.int .i64 (fo f l 0 s0).1)) (mem (fo f l 0 s0).2)):=by
 refine cy.body func107 rfl cP ?_;refine az.go 100 ?_;simp only [f107,WO,seval];refine az.dL (fun p:Nat × σ=>(lQ 19 [(0,.d (.sl (l.map eH))),(1,.func g first caps),(6,.d (.sl (l.map eH))),(7,.d (.int .i64 l.length)),(8,.d (.int .i64 p.1))],mem p.2)) (fun p=>p.1≤l.length∧fo f l 0 s0=fo f (l.drop p.1) p.1 p.2∧Good prog bI g first caps cH mem f (l.drop p.1) p.2) (fun p=>l.length - p.1) (0,s0) ⟨ak,rfl,hg⟩ ?_ rfl ?_
 ·simp only [lQ,cO,cX,dc,eC,cn,cI,nR,kj,lE,lF,jH,dB,dw,cV]
 rintro ⟨i,s⟩ ⟨h1,h2,h3⟩ ih;dsimp only at h1 h2 h3 ih ⊢
 by_cases bu:i < l.length
 ·have hw:=bE ((i:Int)+1) ak;have nU:=au bu;rw [fj bu] at h2 h3;obtain ⟨h4,h5⟩:=h3;have dY:decide ((i:Int) < (l.length:Int))=true:=ah ak;refine goN ?_;simp only [WO,seval,aL,nU,dY,hw,eK];refine rK h4 ?_;refine goN ?_;simp only [WO,seval,hw];refine cT (fun h=>?_) (fun h=>?_)
  ·simp only [WO,seval,h];refine az.fits fun hf=>?_;refine az.ret func107 rfl (Left.fits hf (hm _ _).1 (hm _ _).2 ?_);have e:fo f (l[i] :: l.drop (i+1)) (i:Int) s=((i:Int),(f l[i] s).2):=by simp [fo,h]
   rw [h2,e];exact ⟨rfl,rfl⟩
  ·simp only [WO,seval,h,hw];have e:fo f (l[i] :: l.drop (i+1)) (i:Int) s=fo f (l.drop (i+1)) ((i+1:Nat):Int) (f l[i] s).2:=by simp [fo,h]
   refine ih (i+1,(f l[i] s).2) ⟨bu,h2.trans e,h5 h⟩ (by simp only;omega) _ _ ?_ rfl;simp only [lQ,cO,cX,dc,eC,cn,cI,nR,kj,lE,lF,jH,dB,dw,cV]
 ·have dY:decide ((i:Int) < (l.length:Int))=false:=af ak;refine goN ?_;simp only [WO,seval,dY];refine az.fits fun hf=>?_;refine az.ret func107 rfl (Left.fits hf (hm _ _).1 (hm _ _).2 ?_);rw [h2,ay ak];exact ⟨rfl,rfl⟩
theorem tH {σ:Type} (g:FuncId) (first caps:List V) (mem:σ→Mem) (f:bJ→σ→Bool × σ) (hm:∀ s s',(mem s).boxes.length=(mem s').boxes.length∧(mem s).dG.length=(mem s').dG.length) (l:List bJ) (hl:l.length≤9223372036854775807) (s0:σ) (hg:Good prog bI g first caps cH mem f l s0) :
 cy prog bI 70 [.d (.sl (l.map eH)),.func g first caps] (mem s0) (cF (.d (.bool (ud f l s0).1)) (mem (ud f l s0).2)):=by
 obtain ⟨e1,e2⟩:=qC f l 0 s0 (dV 0);refine cy.body func70 rfl cP ?_;refine az.go 100 ?_;simp only [f70,WO,seval];refine aX (Ef g first caps mem f hm l hl s0 hg) ?_;refine goN ?_;simp only [WO,seval,e1];refine az.fits fun hf=>?_;refine az.ret func70 rfl (Left.fits hf (hm _ _).1 (hm _ _).2 ?_);rw [e2];exact ⟨rfl,rfl⟩
theorem Eg {σ:Type} (g:FuncId) (first caps:List V) (mem:σ→Mem) (f:cL→σ→Bool × σ) (hm:∀ s s',(mem s).boxes.length=(mem s').boxes.length∧(mem s).dG.length=(mem s').dG.length) (l:List cL) (hl:l.length≤9223372036854775807) (s0:σ) (hg:Good prog bI g first caps vS mem f l s0) :
 cy prog bI 162 [.d (.sl (l.map gE)),.func g first caps] (mem s0) (cF (.d (.int .i64 (fo f l 0 s0).1)) (mem (fo f l 0 s0).2)):=by
 refine cy.body func162 rfl cP ?_;refine az.go 100 ?_;simp only [f162,WO,seval];refine az.dL (fun p:Nat × σ=>(lQ 19 [(0,.d (.sl (l.map gE))),(1,.func g first caps),(6,.d (.sl (l.map gE))),(7,.d (.int .i64 l.length)),(8,.d (.int .i64 p.1))],mem p.2)) (fun p=>p.1≤l.length∧fo f l 0 s0=fo f (l.drop p.1) p.1 p.2∧Good prog bI g first caps vS mem f (l.drop p.1) p.2) (fun p=>l.length - p.1) (0,s0) ⟨ak,rfl,hg⟩ ?_ rfl ?_
 ·simp only [lQ,cO,cX,dc,eC,cn,cI,nR,kj,lE,lF,jH,dB,dw,cV]
 rintro ⟨i,s⟩ ⟨h1,h2,h3⟩ ih;dsimp only at h1 h2 h3 ih ⊢
 by_cases bu:i < l.length
 ·have hw:=bE ((i:Int)+1) ak;have nU:=au bu;rw [fj bu] at h2 h3;obtain ⟨h4,h5⟩:=h3;have dY:decide ((i:Int) < (l.length:Int))=true:=ah ak;refine goN ?_;simp only [WO,seval,aL,nU,dY,hw,iZ];refine rK h4 ?_;refine goN ?_;simp only [WO,seval,hw];refine cT (fun h=>?_) (fun h=>?_)
  ·simp only [WO,seval,h];refine az.fits fun hf=>?_;refine az.ret func162 rfl (Left.fits hf (hm _ _).1 (hm _ _).2 ?_);have e:fo f (l[i] :: l.drop (i+1)) (i:Int) s=((i:Int),(f l[i] s).2):=by simp [fo,h]
   rw [h2,e];exact ⟨rfl,rfl⟩
  ·simp only [WO,seval,h,hw];have e:fo f (l[i] :: l.drop (i+1)) (i:Int) s=fo f (l.drop (i+1)) ((i+1:Nat):Int) (f l[i] s).2:=by simp [fo,h]
   refine ih (i+1,(f l[i] s).2) ⟨bu,h2.trans e,h5 h⟩ (by simp only;omega) _ _ ?_ rfl;simp only [lQ,cO,cX,dc,eC,cn,cI,nR,kj,lE,lF,jH,dB,dw,cV]
 ·have dY:decide ((i:Int) < (l.length:Int))=false:=af ak;refine goN ?_;simp only [WO,seval,dY];refine az.fits fun hf=>?_;refine az.ret func162 rfl (Left.fits hf (hm _ _).1 (hm _ _).2 ?_);rw [h2,ay ak];exact ⟨rfl,rfl⟩
theorem Ai {σ:Type} (g:FuncId) (first caps:List V) (mem:σ→Mem) (f:cL→σ→Bool × σ) (hm:∀ s s',(mem s).boxes.length=(mem s').boxes.length∧(mem s).dG.length=(mem s').dG.length) (l:List cL) (hl:l.length≤9223372036854775807) (s0:σ) (hg:Good prog bI g first caps vS mem f l s0) :
 cy prog bI 130 [.d (.sl (l.map gE)),.func g first caps] (mem s0) (cF (.d (.bool (ud f l s0).1)) (mem (ud f l s0).2)):=by
 obtain ⟨e1,e2⟩:=qC f l 0 s0 (dV 0);refine cy.body func130 rfl cP ?_;refine az.go 100 ?_;simp only [f130,WO,seval];refine aX (Eg g first caps mem f hm l hl s0 hg) ?_;refine goN ?_;simp only [WO,seval,e1];refine az.fits fun hf=>?_;refine az.ret func130 rfl (Left.fits hf (hm _ _).1 (hm _ _).2 ?_);rw [e2];exact ⟨rfl,rfl⟩
theorem Eh {σ:Type} (g:FuncId) (first caps:List V) (mem:σ→Mem) (f:iB→σ→Bool × σ) (hm:∀ s s',(mem s).boxes.length=(mem s').boxes.length∧(mem s).dG.length=(mem s').dG.length) (l:List iB) (hl:l.length≤9223372036854775807) (s0:σ) (hg:Good prog bI g first caps Ww mem f l s0) :
 cy prog bI 114 [.d (.sl (l.map lV)),.func g first caps] (mem s0) (cF (.d (.int .i64 (fo f l 0 s0).1)) (mem (fo f l 0 s0).2)):=by
 refine cy.body func114 rfl cP ?_;refine az.go 100 ?_;simp only [f114,WO,seval];refine az.dL (fun p:Nat × σ=>(lQ 19 [(0,.d (.sl (l.map lV))),(1,.func g first caps),(6,.d (.sl (l.map lV))),(7,.d (.int .i64 l.length)),(8,.d (.int .i64 p.1))],mem p.2)) (fun p=>p.1≤l.length∧fo f l 0 s0=fo f (l.drop p.1) p.1 p.2∧Good prog bI g first caps Ww mem f (l.drop p.1) p.2) (fun p=>l.length - p.1) (0,s0) ⟨ak,rfl,hg⟩ ?_ rfl ?_
 ·simp only [lQ,cO,cX,dc,eC,cn,cI,nR,kj,lE,lF,jH,dB,dw,cV]
 rintro ⟨i,s⟩ ⟨h1,h2,h3⟩ ih;dsimp only at h1 h2 h3 ih ⊢
 by_cases bu:i < l.length
 ·have hw:=bE ((i:Int)+1) ak;have nU:=au bu;rw [fj bu] at h2 h3;obtain ⟨h4,h5⟩:=h3;have dY:decide ((i:Int) < (l.length:Int))=true:=ah ak;refine goN ?_;simp only [WO,seval,aL,nU,dY,hw,lN];refine rK h4 ?_;refine goN ?_;simp only [WO,seval,hw];refine cT (fun h=>?_) (fun h=>?_)
  ·simp only [WO,seval,h];refine az.fits fun hf=>?_;refine az.ret func114 rfl (Left.fits hf (hm _ _).1 (hm _ _).2 ?_);have e:fo f (l[i] :: l.drop (i+1)) (i:Int) s=((i:Int),(f l[i] s).2):=by simp [fo,h]
   rw [h2,e];exact ⟨rfl,rfl⟩
  ·simp only [WO,seval,h,hw];have e:fo f (l[i] :: l.drop (i+1)) (i:Int) s=fo f (l.drop (i+1)) ((i+1:Nat):Int) (f l[i] s).2:=by simp [fo,h]
   refine ih (i+1,(f l[i] s).2) ⟨bu,h2.trans e,h5 h⟩ (by simp only;omega) _ _ ?_ rfl;simp only [lQ,cO,cX,dc,eC,cn,cI,nR,kj,lE,lF,jH,dB,dw,cV]
 ·have dY:decide ((i:Int) < (l.length:Int))=false:=af ak;refine goN ?_;simp only [WO,seval,dY];refine az.fits fun hf=>?_;refine az.ret func114 rfl (Left.fits hf (hm _ _).1 (hm _ _).2 ?_);rw [h2,ay ak];exact ⟨rfl,rfl⟩
theorem Aj {σ:Type} (g:FuncId) (first caps:List V) (mem:σ→Mem) (f:iB→σ→Bool × σ) (hm:∀ s s',(mem s).boxes.length=(mem s').boxes.length∧(mem s).dG.length=(mem s').dG.length) (l:List iB) (hl:l.length≤9223372036854775807) (s0:σ) (hg:Good prog bI g first caps Ww mem f l s0) :
 cy prog bI 76 [.d (.sl (l.map lV)),.func g first caps] (mem s0) (cF (.d (.bool (ud f l s0).1)) (mem (ud f l s0).2)):=by
 obtain ⟨e1,e2⟩:=qC f l 0 s0 (dV 0);refine cy.body func76 rfl cP ?_;refine az.go 100 ?_;simp only [f76,WO,seval];refine aX (Eh g first caps mem f hm l hl s0 hg) ?_;refine goN ?_;simp only [WO,seval,e1];refine az.fits fun hf=>?_;refine az.ret func76 rfl (Left.fits hf (hm _ _).1 (hm _ _).2 ?_);rw [e2];exact ⟨rfl,rfl⟩
theorem Ei {σ:Type} (g:FuncId) (first caps:List V) (mem:σ→Mem) (f:bh→σ→Bool × σ) (hm:∀ s s',(mem s).boxes.length=(mem s').boxes.length∧(mem s).dG.length=(mem s').dG.length) (l:List bh) (hl:l.length≤9223372036854775807) (s0:σ) (hg:Good prog bI g first caps fK mem f l s0) :
 cy prog bI 199 [.d (.sl (l.map eL)),.func g first caps] (mem s0) (cF (.d (.int .i64 (fo f l 0 s0).1)) (mem (fo f l 0 s0).2)):=by
 refine cy.body func199 rfl cP ?_;refine az.go 100 ?_;simp only [f199,WO,seval];refine az.dL (fun p:Nat × σ=>(lQ 19 [(0,.d (.sl (l.map eL))),(1,.func g first caps),(6,.d (.sl (l.map eL))),(7,.d (.int .i64 l.length)),(8,.d (.int .i64 p.1))],mem p.2)) (fun p=>p.1≤l.length∧fo f l 0 s0=fo f (l.drop p.1) p.1 p.2∧Good prog bI g first caps fK mem f (l.drop p.1) p.2) (fun p=>l.length - p.1) (0,s0) ⟨ak,rfl,hg⟩ ?_ rfl ?_
 ·simp only [lQ,cO,cX,dc,eC,cn,cI,nR,kj,lE,lF,jH,dB,dw,cV]
 rintro ⟨i,s⟩ ⟨h1,h2,h3⟩ ih;dsimp only at h1 h2 h3 ih ⊢
 by_cases bu:i < l.length
 ·have hw:=bE ((i:Int)+1) ak;have nU:=au bu;rw [fj bu] at h2 h3;obtain ⟨h4,h5⟩:=h3;have dY:decide ((i:Int) < (l.length:Int))=true:=ah ak;refine goN ?_;simp only [WO,seval,aL,nU,dY,hw,dF];refine rK h4 ?_;refine goN ?_;simp only [WO,seval,hw];refine cT (fun h=>?_) (fun h=>?_)
  ·simp only [WO,seval,h];refine az.fits fun hf=>?_;refine az.ret func199 rfl (Left.fits hf (hm _ _).1 (hm _ _).2 ?_);have e:fo f (l[i] :: l.drop (i+1)) (i:Int) s=((i:Int),(f l[i] s).2):=by simp [fo,h]
   rw [h2,e];exact ⟨rfl,rfl⟩
  ·simp only [WO,seval,h,hw];have e:fo f (l[i] :: l.drop (i+1)) (i:Int) s=fo f (l.drop (i+1)) ((i+1:Nat):Int) (f l[i] s).2:=by simp [fo,h]
   refine ih (i+1,(f l[i] s).2) ⟨bu,h2.trans e,h5 h⟩ (by simp only;omega) _ _ ?_ rfl;simp only [lQ,cO,cX,dc,eC,cn,cI,nR,kj,lE,lF,jH,dB,dw,cV]
 ·have dY:decide ((i:Int) < (l.length:Int))=false:=af ak;refine goN ?_;simp only [WO,seval,dY];refine az.fits fun hf=>?_;refine az.ret func199 rfl (Left.fits hf (hm _ _).1 (hm _ _).2 ?_);rw [h2,ay ak];exact ⟨rfl,rfl⟩
theorem pN {σ:Type} (g:FuncId) (first caps:List V) (mem:σ→Mem) (f:bh→σ→Bool × σ) (hm:∀ s s',(mem s).boxes.length=(mem s').boxes.length∧(mem s).dG.length=(mem s').dG.length) (l:List bh) (hl:l.length≤9223372036854775807) (s0:σ) (hg:Good prog bI g first caps fK mem f l s0) :
 cy prog bI 182 [.d (.sl (l.map eL)),.func g first caps] (mem s0) (cF (.d (.bool (ud f l s0).1)) (mem (ud f l s0).2)):=by
 obtain ⟨e1,e2⟩:=qC f l 0 s0 (dV 0);refine cy.body func182 rfl cP ?_;refine az.go 100 ?_;simp only [f182,WO,seval];refine aX (Ei g first caps mem f hm l hl s0 hg) ?_;refine goN ?_;simp only [WO,seval,e1];refine az.fits fun hf=>?_;refine az.ret func182 rfl (Left.fits hf (hm _ _).1 (hm _ _).2 ?_);rw [e2];exact ⟨rfl,rfl⟩
theorem XZ (k:Int) (B:bQ) (T:eg):cy prog bI 201 [.d (.int .i64 k)] ⟨B,T⟩ (cF (.d (.int .i64 (iN k))) ⟨B,T⟩):=by
 refine cy.body func201 rfl cP ?_;refine az.go 300 ?_;simp only [f201,WO,seval]
 repeat' ((first | refine cU (fun h=>?_) (fun h=>?_) | refine cT (fun h=>?_) (fun h=>?_))<;>simp only [WO,seval,h])
 all_goals
  refine az.ret func201 rfl (Left.none ?_)
  first
   | (obtain rfl:=bV h
      exact ⟨rfl,rfl⟩)
   | (simp only [ff] at *
      refine ⟨?_,rfl⟩;have:iN k = -2:=by simp [iN, *]
      rw [this];rfl)
theorem IM (s:List UInt8) (h:∀ x∈yA,¬ s=x.1):jO s=0:=by
 unfold jO;rw [List.find?_eq_none.2 fun x hx=>by simpa using fun e=>h x hx e.symm];rfl
theorem X0 (s:List UInt8) (B:bQ) (T:eg):cy prog bI 206 [.d (.str s)] ⟨B,T⟩ (cF (.d (.int .i64 (jO s))) ⟨B,T⟩):=by
 refine cy.body func206 rfl cP ?_;refine az.go 400 ?_;simp only [f206,WO,seval]
 repeat' ((first | refine cU (fun h=>?_) (fun h=>?_) | refine cT (fun h=>?_) (fun h=>?_))<;>simp only [WO,seval,h])
 all_goals
  refine az.ret func206 rfl (Left.none ?_)
  first
   | (obtain rfl:=bV h
      exact ⟨rfl,rfl⟩)
   | (simp only [ff] at *
      refine ⟨?_,rfl⟩;have:jO s=0:=IM s (by simp [yA, *]);rw [this];rfl)
theorem Ej (n:Nat) (l:List (List UInt8)) (h:n < l.length):jN (n+1) l=(jN n l && aY l[n] && !(l.take n).contains l[n]):=by
 have:l.getD n []=l[n]:=by simp [List.getD,h]
 simp only [jN,this,abP]
theorem Ak (l:List (List UInt8)) (hl:l.length≤9223372036854775807) (B:bQ) (T:eg):cy prog bI 129 [.d (.sl (gN l))] ⟨B,T⟩ (cF (.d (.bool (jN l.length l))) ⟨B,T⟩):=by
 refine cy.body func129 rfl cP ?_;refine az.go 100 ?_;simp only [f129,WO,seval];refine az.dL (fun i:Nat=>(lQ 23 [(0,.d (.sl (gN l))),(5,.d (.sl (gN l))),(6,.d (.int .i64 l.length)),(7,.d (.int .i64 i))],⟨B,T⟩)) (fun i=>i≤l.length∧jN i l=true) (fun i=>l.length - i) 0 ⟨ak,rfl⟩ ?_ rfl ?_
 ·simp only [lQ,cO,cX,dc,eC,cn,cI,nR,kj,lE,lF,jH,dB,dw,cV]
 rintro i ⟨h1,h2⟩ ih
 by_cases bu:i < l.length
 ·have hw:=bE ((i:Int)+1) ak;have hg:=au bu;have hs:=Ej i l bu;rw [h2,bY] at hs;have hle:(i:Int)≤(l.length:Int):=ak;have dY:decide ((i:Int) < (l.length:Int))=true:=ah ak;refine goN ?_;simp only [WO,seval,hg,dY,hw];refine aX (sW _ _) ?_;refine goN ?_;simp only [WO,seval,hw];cases hI:aY l[i]
  ·simp only [WO,seval,hI,aO];refine az.ret func129 rfl (Left.none ?_);have:jN l.length l=false:=Ad l (i+1) (by rw [hs,hI];rfl) _ ak;rw [this];exact ⟨rfl,rfl⟩
  ·simp only [WO,seval,hI,aK,hle];refine aX (CS _ _ fk _) ?_;refine goN ?_;simp only [WO,seval,hw];refine cT (fun h=>?_) (fun h=>?_)
   ·simp only [WO,seval,h];refine az.ret func129 rfl (Left.none ?_);have:jN l.length l=false:=Ad l (i+1) (by rw [hs,hI,h];rfl) _ ak;rw [this];exact ⟨rfl,rfl⟩
   ·simp only [WO,seval,h,hw];refine ih (i+1) ⟨bu,by rw [hs,hI,h];rfl⟩ ak _ _ ?_ rfl;simp only [lQ,cO,cX,dc,eC,cn,cI,nR,kj,lE,lF,jH,dB,dw,cV]
 ·have dY:decide ((i:Int) < (l.length:Int))=false:=af ak;refine goN ?_;simp only [WO,seval,dY];refine az.ret func129 rfl (Left.none ?_);obtain rfl:i=l.length:=ak;rw [h2];exact ⟨rfl,rfl⟩
theorem tI {P:Program} {I:Inv} {α:Type} {g:FuncId} {first caps:List V} {K5:α→V} {S:Mem} {f:α→Bool}:∀ (l:List α),(∀ x∈l,cy P I g (first++[K5 x]++caps) S (cF (.d (.bool (f x))) S))→Good P I g first caps K5 (fun _:Unit=>S) (fun x s=>(f x,s)) l ()
 | [],_=>trivial
 | x :: l,h=>⟨h x aI,fun _=>tI l fun y hy=>h y (aU _ hy)⟩
theorem qD {α:Type} (f:α→Bool):∀ l:List α,(ud (fun x (s:Unit)=>(f x,s)) l ()).1=l.any f
 | []=>rfl
 | x :: l=>by
  unfold ud;cases h:f x
  ·simp [h,qD f l]
  ·simp [h]
theorem Ek:∀ l:List bh,vf l=l.all oM
 | []=>by rw [vf];rfl
 | x :: l=>by rw [vf,Ek l];rfl
theorem IN {α:Type} (f:α→Bool) (l:List α):l.any (fun x=>!f x) = !l.all f:=by
 induction l with
 | nil=>rfl
 | cons x l ih=>simp [ih,Bool.not_and]
def El (x:bh):Prop:=∀ (B:bQ) (T:eg),cy prog bI 185 [fK x] ⟨B,T⟩ (cF (.d (.bool (oM x))) ⟨B,T⟩)
theorem Us (x:bh) (h:El x) (B:bQ) (T:eg):cy prog bI 200 [fK x] ⟨B,T⟩ (cF (.d (.bool (!oM x))) ⟨B,T⟩):=by
 obtain ⟨N,hn⟩:=aV B.length;have h:=h (B++[[.d (.int .i64 x.kind),.d (.str x.text),.d (.int .u64 x.int),.d (.int .i64 x.type.kind),.d (.str x.type.name),.d (.sl (x.type.elem.map eH)),.d (.sl (gN x.names)),.d (.sl (x.kids.map eL))]]) T;unfold fK at h ⊢;refine cy.body func200 rfl cP ?_;refine az.go 100 ?_;simp only [f200,WO,seval,hn];refine aX (h) ?_;refine goN ?_;simp only [WO,seval,hn];refine az.ret func200 rfl (Left.box ?_);exact ⟨rfl,rfl⟩
theorem Rr (k:Int) (t:List UInt8) (i:Int) (ty:bJ) (ns:List (List UInt8)) (ks:List bh) (hx:∀ x∈ks,El x):El (.mk k t i ty ns ks):=by
 intro B T;obtain ⟨N,hn⟩:=aV B.length;have hS:oM (.mk k t i ty ns ks)=(decide (k ≠ 14) && decide (k ≠ 15) && ks.all oM):=by rw [oM,Ek]
 simp only [fK,bh.kind,bh.text,bh.int,bh.type,bh.names,bh.kids];refine cy.OO func185 rfl cP fun cG=>?_;simp only [Ic,sm,fK,vS,cH,Ww,Pg,KX,KY,sy,aF,aZ,Al,Am,aS,eV] at cG;refine az.go 100 ?_;simp only [f185,WO,seval,hn];obtain ⟨-,-,-,-,hl⟩:=cG
 repeat' ((first | refine cU (fun h=>?_) (fun h=>?_) | refine cT (fun h=>?_) (fun h=>?_))<;>simp only [WO,seval,h,hn])
 all_goals first
  | (refine az.ret func185 rfl (Left.box ?_)
     rw [hS]
     (try clear ih)
     (try simp only [yT] at *)
     simp only [yt,seval,cF]<;>simp [*]
     skip)
  | (refine kG (pN 200 [] [] (fun _:Unit=>_) (fun x s=>(!oM x,s)) (fun _ _=>⟨rfl,rfl⟩) ks hl () (tI ks fun x hm=>Us x (hx x hm) _ T)) ?_
     rintro _ _ ⟨rfl,rfl⟩;rw [qD,IN];refine goN ?_;simp only [WO,seval,hn];refine az.ret func185 rfl (Left.box ?_);rw [hS]
     (try clear ih)
     (try simp only [yT] at *)
     simp only [yt,seval,cF]<;>simp [*]
     skip)
mutual
theorem Pj:∀ x:bh,El x
 | .mk k t i ty ns ks=>Rr k t i ty ns ks (K6 ks)
theorem K6:∀ (ks:List bh),∀ x∈ks,El x
 | [],_,h=>absurd h aT
 | y :: l,x,h=>by
  rcases bB.1 h with e | e
  ·rw [e];exact Pj y
  ·exact K6 l x e
end
def exB (x:bh):List V:=[.d (.int .i64 x.kind),.d (.str x.text),.d (.int .u64 x.int),.d (.int .i64 x.type.kind),.d (.str x.type.name),.d (.sl (x.type.elem.map eH)),.d (.sl (gN x.names)),.d (.sl (x.kids.map eL))]
theorem sA (k:Int) (t:List UInt8) (i:Int) (ty:bJ) (ns:List (List UInt8)) (ks:List bh):fY (.mk k t i ty ns ks)=match ks with | [y]=>if k=9 then fY y else decide (k=1) | _=>decide (k=1):=by
 rcases ks with _ | ⟨z,_ | ⟨z2,l⟩⟩<;>simp [fY]
theorem Ut (x:bh) (B:bQ) (T:eg):cy prog bI 184 [fK x] ⟨B,T⟩ (cF (.d (.bool (fY x))) ⟨B,T⟩):=by
 obtain ⟨N,hn⟩:=aV B.length;unfold fK;refine cy.body func184 rfl cP ?_;refine az.go 100 ?_;simp only [f184,WO,seval,hn];refine az.dL (fun y:bh=>(lQ 19 [(1,.ptr N 0)],⟨B++[exB y],T⟩)) (fun y=>fY y=fY x) (fun y=>SizeOf.sizeOf y) x rfl ?_ rfl ?_
 ·simp only [lQ,cO,cX,dc,eC,cn,cI,nR,kj,lE,lF,jH,dB,dw,cV]
 rintro y hy ih;cases y with
 | mk k t i ty ns ks =>
 have hp:=sA k t i ty ns ks;dsimp only [exB] at ih ⊢;dsimp only [bh.kind,bh.text,bh.int,bh.type,bh.names,bh.kids] at ⊢;rw [hp] at hy;rcases ks with _ | ⟨z,_ | ⟨z2,l⟩⟩
 ·dsimp only at hy;refine goN ?_;simp only [WO,seval,hn,dF]
  repeat' ((first | refine cU (fun h=>?_) (fun h=>?_) | refine cT (fun h=>?_) (fun h=>?_))<;>simp only [WO,seval,h,hn,dF])
  all_goals
   refine az.ret func184 rfl (Left.box ?_);rw [← hy];exact j9
   skip
 ·dsimp only at hy;refine goN ?_;simp only [WO,seval,hn,dF]
  repeat' ((first | refine cU (fun h=>?_) (fun h=>?_) | refine cT (fun h=>?_) (fun h=>?_))<;>simp only [WO,seval,h,hn,dF])
  all_goals first
   | (refine az.ret func184 rfl (Left.box ?_)
      rw [← hy]
      (try clear ih)
      (try simp only [yT] at *)
      simp only [yt,seval,cF]<;>simp [*]
      skip)
   | (refine ih z ?_ (by simp only [bh.mk.sizeOf_spec,List.cons.sizeOf_spec];omega) _ _ ?_ ?_
      ·rw [← hy,aD (bV (by assumption))]
      ·skip
       simp only [lQ,cO,cX,dc,eC,cn,cI,nR,kj,lE,lF,jH,dB,dw,cV]
       skip
      ·rfl)
 ·have qd:decide ((l.length:Int)+1+1=1)=false:=af ak;dsimp only at hy;refine goN ?_;simp only [WO,seval,hn,dF,qd]
  repeat' ((first | refine cU (fun h=>?_) (fun h=>?_) | refine cT (fun h=>?_) (fun h=>?_))<;>simp only [WO,seval,h,hn,dF,qd])
  all_goals
   refine az.ret func184 rfl (Left.box ?_);rw [← hy];exact j9
   skip
def X3:=KB func183 6
def ry:=KB func163 149
theorem GB (x:bh) (B:bQ) (T:eg):cy prog bI 183 [fK x] ⟨B,T⟩ (cF (.d (.bool (!fY x))) ⟨B,T⟩):=by
 obtain ⟨N,hn⟩:=aV B.length;have h:=Ut x (B++[[.d (.int .i64 x.kind),.d (.str x.text),.d (.int .u64 x.int),.d (.int .i64 x.type.kind),.d (.str x.type.name),.d (.sl (x.type.elem.map eH)),.d (.sl (gN x.names)),.d (.sl (x.kids.map eL))]]) T;unfold fK at h ⊢;refine zR X3 ?_;simp only [W,seval,X3,hn];refine aX (h) ?_;refine goN ?_;simp only [W,seval,X3,hn];refine bN X3 (Left.box ?_);exact j9
 skip
def pO (s:cL):List V:=[.d (.int .i64 s.kind),.d (.sl (gN s.names)),.d (.int .i64 s.type.kind),.d (.str s.type.name),.d (.sl (s.type.elem.map eH)),.d (.sl (s.cq.map eL)),.d (.sl (s.exprs.map eL)),.d (.sl (s.body.map gE)),.d (.sl (s.iS.map gE)),.d (.sl (s.cases.map lV))]
def nT:List bh→Bool | [x]=>oM x | _=>false
def tJ:List bh→Bool | [x]=>decide (x.kind=7) | _=>false
def nameOf:List (List UInt8)→Bool | [x]=>aY x | _=>false
def sizedB (k:Int) (ns:List (List UInt8)) (ls es:List bh) (b3 b4 b5 b6 b7 b8:Bool):Bool :=
 if k=1 then decide (es.length=0) && nameOf ns && !b5 && !b6 && !b7 && !b8
 else if k=2 then decide (0 < ls.length) && (decide (es.length=ls.length) || tJ es) && ls.all fY && (!b3 && !b4) && !b6 && !b7 && !b8
 else if k=3 then (!b3 && !b4) && !b5 && nT es && !b8
 else if k=4 then (!b3 && !b4) && !b5 && nT es && !b7 && !b8
 else if k=5 then (!b3 && !b4) && !b5 && nT es && !b6
 else if k=6 then (!b3 && !b4) && !b5 && decide (0 < es.length) && !b6 && !b7 && !b8
 else false
theorem GC (s:cL):kY s=sizedB s.kind s.names s.cq s.exprs (decide ((0:Int) < (s.names.length:Int))) (!jn s.type) (decide ((0:Int) < (s.cq.length:Int))) (decide ((0:Int) < (s.body.length:Int))) (decide ((0:Int) < (s.iS.length:Int))) (decide ((0:Int) < (s.cases.length:Int))):=by
 have e (n:Nat):(!decide ((0:Int) < (n:Int)))=decide (n=0):=by
  rw [dQ,iV,ff,bz];omega
 have e2 {α:Type} (l:List α) (q:Decidable (l=[])):decide (l.length=0) = @decide (l=[]) q:=cM.2 jP;unfold kY sizedB;simp only [e,pP];rw [e2 s.names,e2 s.cq];rfl
def tK (k:Int) (es:List bh) (b3 b4 b5 b6 b7 b8 b9:Bool):Bool :=
 (if k=3∨k=4∨k=5 then b9 && nT es else b9) && !b3 && !b4 && !b5 && !b6 && !b7 && !b8
theorem Uu (s:cL) (B:bQ) (T:eg):cy prog bI 163 [vS s] ⟨B,T⟩ (cF (.d (.bool (kY s))) ⟨B,T⟩):=by
 obtain ⟨N,hn⟩:=aV B.length;have hs:=GC s;unfold vS;refine gL ry fun cG=>?_;simp only [fH] at cG;simp only [W,seval,ry,hn];obtain ⟨-,-,-,hlf,-⟩:=cG;refine az.draw cP cP (lA 60 _ _ ?_);simp only [W,seval,ry,hn];refine ⟨_,Ph s.type _ _,?_⟩;simp only [W,seval,ry,hn];generalize decide ((0:Int) < (s.names.length:Int))=b3 at hs ⊢;generalize (!jn s.type)=b4 at hs ⊢;generalize Eb:decide ((0:Int) < (s.cq.length:Int))=b5 at hs ⊢;generalize decide ((0:Int) < (s.body.length:Int))=b6 at hs ⊢;generalize decide ((0:Int) < (s.iS.length:Int))=b7 at hs ⊢;generalize decide ((0:Int) < (s.cases.length:Int))=b8 at hs ⊢;generalize kY s=res at hs ⊢;refine az.go 9 ?_;simp only [W,seval,ry,hn];refine az.join (fun c:Bool × Bool × Bool × Bool × Bool × Bool × Bool=>(cN 149 [(1,.ptr N 0),(3,.d (.bool c.1)),(4,.d (.bool c.2.1)),(5,.d (.bool c.2.2.1)),(6,.d (.bool c.2.2.2.1)),(7,.d (.bool c.2.2.2.2.1)),(8,.d (.bool c.2.2.2.2.2.1)),(9,.d (.bool c.2.2.2.2.2.2))],⟨B++[pO s],T⟩)) (fun c=>(s.kind=3∨s.kind=4∨s.kind=5→c.2.2.2.2.2.2=decide (s.exprs.length=1))∧tK s.kind s.exprs c.1 c.2.1 c.2.2.1 c.2.2.2.1 c.2.2.2.2.1 c.2.2.2.2.2.1 c.2.2.2.2.2.2=res) ?_ ?_
 ·rintro ⟨c3,c4,c5,c6,c7,c8,c9⟩ ⟨hc,hr⟩;dsimp only [pO] at hc hr ⊢;rw [← hr];clear hs hr
  have D2:(s.kind=3∨s.kind=4∨s.kind=5)→(∃ x,s.exprs[0]? = some x∧c9=true∧nT s.exprs=oM x)∨c9=false:=by
   intro h;rw [hc h];rcases s.exprs with _ | ⟨x,_ | ⟨y,l⟩⟩
   ·exact .inr rfl
   ·exact .inl ⟨x,rfl,rfl,rfl⟩
   ·exact .inr (af dM)
  clear hc
  by_cases K7:s.kind=3∨s.kind=4∨s.kind=5
  ·have hl:tK s.kind s.exprs c3 c4 c5 c6 c7 c8 c9=((c9 && nT s.exprs) && !c3 && !c4 && !c5 && !c6 && !c7 && !c8):=by rw [tK,aD K7]
   rw [hl];rcases D2 K7 with ⟨x,hg,rfl,hh⟩ | rfl
   ·rw [hh];have hd:=Pj x;rcases K7 with k | k | k
    all_goals
     refine goN ?_;simp only [W,seval,ry,hn,k];simp only [W,seval,ry,hg,aL,dF,k];refine aX (hd _ _) ?_;generalize oM x=q;refine goN ?_;simp only [W,seval,ry,hn,k]
     repeat' ((first | refine cU (fun h=>?_) (fun h=>?_) | refine cT (fun h=>?_) (fun h=>?_))<;>simp only [W,seval,ry,h,hn,k])
     all_goals
      refine az.ret func163 rfl (Left.box ?_);exact j9
      skip
   ·rcases K7 with k | k | k
    all_goals
     refine goN ?_;simp only [W,seval,ry,hn,k];refine az.ret func163 rfl (Left.box ?_);exact j9
     skip
  ·have hl:tK s.kind s.exprs c3 c4 c5 c6 c7 c8 c9=(c9 && !c3 && !c4 && !c5 && !c6 && !c7 && !c8):=by rw [tK,aq K7]
   rw [hl];have k3:decide (s.kind=3)=false:=af fun h=>K7 (.inl h);have k4:decide (s.kind=4)=false:=af fun h=>K7 (.inr (.inl h));have k5:decide (s.kind=5)=false:=af fun h=>K7 (.inr (.inr h));refine goN ?_;simp only [W,seval,ry,hn,k3,k4,k5]
   repeat' ((first | refine cU (fun h=>?_) (fun h=>?_) | refine cT (fun h=>?_) (fun h=>?_))<;>simp only [W,seval,ry,h,hn,k3,k4,k5])
   all_goals
    refine az.ret func163 rfl (Left.box ?_);exact j9
    skip
 ·intro K' hK;have X4:decide ((s.exprs.length:Int)=1)=decide (s.exprs.length=1):=cM.2 ak;have X5:decide ((0:Int) < (s.exprs.length:Int))=decide (0 < s.exprs.length):=cM.2 ak;have Pk:decide ((s.exprs.length:Int)=0)=decide (s.exprs.length=0):=cM.2 ak;have hh:(decide (s.exprs.length=1) && nT s.exprs)=nT s.exprs:=by rcases s.exprs with _ | ⟨x,_ | ⟨y,l⟩⟩<;>simp [nT]
  by_cases k1:s.kind=1
  ·have hz:∀ v:Bool,tK s.kind s.exprs false false b5 b6 b7 b8 v=(v && !b5 && !b6 && !b7 && !b8):=fun v=>by simp [tK,k1]
   have hs:res=(decide (s.exprs.length=0) && nameOf s.names && !b5 && !b6 && !b7 && !b8):=by rw [hs,sizedB,aD k1]
   rcases hN:s.names with _ | ⟨x,_ | ⟨y,l⟩⟩
   all_goals
    have qd:∀ n:Nat,decide ((n:Int)+1+1=1)=false:=fun n=>af ak;rw [hN] at hs;refine az.Qy 400 ?_;simp only [W,seval,ry,hn,k1,hN,Pk,qd]
    repeat' ((first | refine cU (fun h=>?_) (fun h=>?_) | refine cT (fun h=>?_) (fun h=>?_))<;>simp only [W,seval,ry,h,hn,k1,hN,Pk,qd])
    all_goals first
     | (refine hK (false,false,b5,b6,b7,b8,false) ⟨fun h=>absurd h ak,?_⟩ _ _ ?_ ?_
        ·rw [hz,hs];simp only [nameOf,h,gC,bA]
        ·skip
         refine eU.env _ ?_;simp only [qa,seval]
         skip
        ·simp only [pO,k1,hN])
     | (skip
        refine aX (sW _ _) ?_;refine jJ ?_;simp only [W,seval,ry,hn,k1,hN,Pk,qd];refine hK (false,false,b5,b6,b7,b8,aY x) ⟨fun h=>absurd h ak,?_⟩ _ _ ?_ ?_
        ·rw [hz,hs];simp only [nameOf,h,bY]
        ·skip
         refine eU.env _ ?_;simp only [qa,seval]
         skip
        ·simp only [pO,k1,hN])
     | (refine hK (false,false,b5,b6,b7,b8,false) ⟨fun h=>absurd h ak,?_⟩ _ _ ?_ ?_
        ·fail
        ·skip
         refine eU.env _ ?_;simp only [qa,seval]
         skip
        ·simp only [pO,k1,hN])
  by_cases k2:s.kind=2
  ·have hz:∀ v:Bool,tK s.kind s.exprs b3 b4 false b6 b7 b8 v=(v && !b3 && !b4 && !b6 && !b7 && !b8):=fun v=>by simp [tK,k2]
   have hs:res=(decide (0 < s.cq.length) && (decide (s.exprs.length=s.cq.length) || tJ s.exprs) && s.cq.all fY && (!b3 && !b4) && !b6 && !b7 && !b8):=by rw [hs,sizedB,aq k1,aD k2]
   have aje:decide (0 < s.cq.length)=b5:=Eb ▸ cM.2 ak;obtain ⟨be,hbe⟩:∃ b,decide ((s.exprs.length:Int)=(s.cq.length:Int))=b:=⟨_,rfl⟩;have ajf:decide (s.exprs.length=s.cq.length)=be:=hbe ▸ cM.2 ak;obtain ⟨b7',hsv⟩:=aV (tJ s.exprs);rw [aje,ajf,hsv] at hs
   have hw:∀ v:Bool,v=(b5 && (be || b7') && s.cq.all fY)→tK s.kind s.exprs b3 b4 false b6 b7 b8 v=res:=fun v hv=>by
    rw [hz,hs,hv];generalize s.cq.all fY=q;cases b3<;>cases b4<;>cases b5<;>cases be<;>cases b7'<;>cases q<;>cases b6<;>cases b7<;>cases b8<;>rfl
   clear hz hs
   have D2:(∃ x,s.exprs[0]? = some x∧decide ((s.exprs.length:Int)=1)=true∧decide (x.kind=7)=b7')∨(decide ((s.exprs.length:Int)=1)=false∧b7' = false):=by
    rw [← hsv];rcases s.exprs with _ | ⟨x,_ | ⟨y,l⟩⟩
    ·exact .inr ⟨bH,rfl⟩
    ·exact .inl ⟨x,rfl,dM,rfl⟩
    ·exact .inr ⟨af fk,rfl⟩
   rcases D2 with ⟨x,hg,X6,hg2⟩ | ⟨X6,hg2⟩
   ·refine az.Qy 400 ?_;simp only [W,seval,ry,hn,k2,Eb,hbe,hg,X6,hg2,aL,dF]
    repeat' ((first | refine cU (fun h=>?_) (fun h=>?_) | refine cT (fun h=>?_) (fun h=>?_))<;>simp only [W,seval,ry,h,hn,k2,Eb,hbe,hg,X6,hg2,aL,dF])
    all_goals first
     | (refine hK (b3,b4,false,b6,b7,b8,false) ⟨fun h=>absurd h ak,hw _ (by simp [*])⟩ _ _ ?_ ?_
        ·skip
         refine eU.env _ ?_;simp only [qa,seval]
         skip
        ·simp only [pO,k2])
     | (refine kG (pN 183 [] [] (fun _:Unit=>_) (fun x s=>(!fY x,s)) (fun _ _=>⟨rfl,rfl⟩) s.cq hlf () (tI s.cq fun x hm=>GB x _ T)) ?_
        rintro _ _ ⟨rfl,rfl⟩;rw [qD,IN];refine jJ ?_;simp only [W,seval,ry,hn,k2,pP];refine hK (b3,b4,false,b6,b7,b8,s.cq.all fY) ⟨fun h=>absurd h ak,hw _ (by simp [*])⟩ _ _ ?_ ?_
        ·skip
         refine eU.env _ ?_;simp only [qa,seval]
         skip
        ·simp only [pO,k2])
     | fail
   ·refine az.Qy 400 ?_;simp only [W,seval,ry,hn,k2,Eb,hbe,X6]
    repeat' ((first | refine cU (fun h=>?_) (fun h=>?_) | refine cT (fun h=>?_) (fun h=>?_))<;>simp only [W,seval,ry,h,hn,k2,Eb,hbe,X6])
    all_goals first
     | (refine hK (b3,b4,false,b6,b7,b8,false) ⟨fun h=>absurd h ak,hw _ (by simp [*])⟩ _ _ ?_ ?_
        ·skip
         refine eU.env _ ?_;simp only [qa,seval]
         skip
        ·simp only [pO,k2])
     | (refine kG (pN 183 [] [] (fun _:Unit=>_) (fun x s=>(!fY x,s)) (fun _ _=>⟨rfl,rfl⟩) s.cq hlf () (tI s.cq fun x hm=>GB x _ T)) ?_
        rintro _ _ ⟨rfl,rfl⟩;rw [qD,IN];refine jJ ?_;simp only [W,seval,ry,hn,k2,pP];refine hK (b3,b4,false,b6,b7,b8,s.cq.all fY) ⟨fun h=>absurd h ak,hw _ (by simp [*])⟩ _ _ ?_ ?_
        ·skip
         refine eU.env _ ?_;simp only [qa,seval]
         skip
        ·simp only [pO,k2])
     | fail
  by_cases k3:s.kind=3
  ·have hs:res=((!b3 && !b4) && !b5 && nT s.exprs && !b8):=by rw [hs,sizedB,aq k1,aq k2,aD k3]
   refine az.Qy 400 ?_;simp only [W,seval,ry,hn,k3,X4];refine hK (b3,b4,b5,false,false,b8,decide (s.exprs.length=1)) ⟨fun _=>rfl,?_⟩ _ _ ?_ ?_
   ·rw [hs,tK,aD (.inl k3),hh];generalize nT s.exprs=hd;cases b3<;>cases b4<;>cases b5<;>cases b8<;>cases hd<;>rfl
   ·skip
    refine eU.env _ ?_;simp only [qa,seval]
    skip
   ·simp only [pO,k3]
  by_cases k4:s.kind=4
  ·have hs:res=((!b3 && !b4) && !b5 && nT s.exprs && !b7 && !b8):=by rw [hs,sizedB,aq k1,aq k2,aq k3,aD k4]
   refine az.Qy 400 ?_;simp only [W,seval,ry,hn,k4,X4];refine hK (b3,b4,b5,false,b7,b8,decide (s.exprs.length=1)) ⟨fun _=>rfl,?_⟩ _ _ ?_ ?_
   ·rw [hs,tK,aD (.inr (.inl k4)),hh];generalize nT s.exprs=hd;cases b3<;>cases b4<;>cases b5<;>cases b7<;>cases b8<;>cases hd<;>rfl
   ·skip
    refine eU.env _ ?_;simp only [qa,seval]
    skip
   ·simp only [pO,k4]
  by_cases k5:s.kind=5
  ·have hs:res=((!b3 && !b4) && !b5 && nT s.exprs && !b6):=by rw [hs,sizedB,aq k1,aq k2,aq k3,aq k4,aD k5]
   refine az.Qy 400 ?_;simp only [W,seval,ry,hn,k5,X4];refine hK (b3,b4,b5,b6,false,false,decide (s.exprs.length=1)) ⟨fun _=>rfl,?_⟩ _ _ ?_ ?_
   ·rw [hs,tK,aD (.inr (.inr k5)),hh];generalize nT s.exprs=hd;cases b3<;>cases b4<;>cases b5<;>cases b6<;>cases hd<;>rfl
   ·skip
    refine eU.env _ ?_;simp only [qa,seval]
    skip
   ·simp only [pO,k5]
  by_cases k6:s.kind=6
  ·have hs:res=((!b3 && !b4) && !b5 && decide (0 < s.exprs.length) && !b6 && !b7 && !b8):=by rw [hs,sizedB,aq k1,aq k2,aq k3,aq k4,aq k5,aD k6]
   refine az.Qy 400 ?_;simp only [W,seval,ry,hn,k6,X5];refine hK (b3,b4,b5,b6,b7,b8,decide (0 < s.exprs.length)) ⟨fun h=>absurd h ak,?_⟩ _ _ ?_ ?_
   ·rw [hs,tK,aq ak];generalize decide (0 < s.exprs.length)=hd;cases b3<;>cases b4<;>cases b5<;>cases b6<;>cases b7<;>cases b8<;>cases hd<;>rfl
   ·skip
    refine eU.env _ ?_;simp only [qa,seval]
    skip
   ·simp only [pO,k6]
  have hs:res=false:=by rw [hs,sizedB,aq k1,aq k2,aq k3,aq k4,aq k5,aq k6]
  have e1:=af k1;have e2:=af k2;have e3:=af k3;have e4:=af k4;have e5:=af k5;have e6:=af k6;refine az.Qy 400 ?_;simp only [W,seval,ry,hn,e1,e2,e3,e4,e5,e6];refine az.ret func163 rfl (Left.box ?_);rw [hs];exact j9
  skip
theorem Pm (k:Int) (n:List UInt8) (es:List bJ) (he:es.length ≠ 1) (c:Nat) (d p:Int) (B:bQ) (T:eg) (h:B[c]? = some [.d (.int .i64 p)]) (hp:0≤p∧p≤60000) :
 cy prog bI 94 [.ptr c 0,cH (.mk k n es),.d (.int .i64 d)] ⟨B,T⟩ (cF (.d (.bool (jM aY (.mk k n es) d p).1)) ⟨B.set c [.d (.int .i64 (jM aY (.mk k n es) d p).2)],T⟩):=by
 obtain ⟨N,hn⟩:=aV B.length;have hc:=(ai.1 h).1;have hi:c < N:=ak;have Jz:decide ((es.length:Int)=1)=false:=af ak;have hr:=Rg aY k n d p es (.inr he);have gW:es ≠ []∨es=[]:=by by_cases h:es=[]<;>simp [h]
 simp only [cH,bJ.kind,bJ.name,bJ.elem];refine cy.body func94 rfl cP ?_;refine az.go 200 ?_;simp only [f94,WO,seval,hn,hi];refine aX (tG c d p _ _ (by rw [bt hc];exact h) hp) ?_;refine goN ?_;simp only [WO,seval,hn,hi,Jz];cases hk:eJ d p
 ·simp only [WO,seval,hn,hi,hk,aO];refine az.ret func94 rfl (Left.set (by rfl) ?_);have hS:jM aY (.mk k n es) d p=(false,p+1):=by unfold jM;rw [if_pos hk]
  rw [hS];exact ⟨rfl,rfl⟩
 ·have hS:=rP aY k n es d p (by rw [hk];decide);rw [hr] at hS;rw [hS];simp only [WO,seval,hn,hi,hk,aK,Jz]
  repeat' ((first | refine cU (fun h=>?_) (fun h=>?_) | refine cT (fun h=>?_) (fun h=>?_))<;>simp only [WO,seval,h,hn,hi,Jz])
  all_goals first
   | (refine az.ret func94 rfl (Left.set (by rfl) ?_)
      (try clear ih)
      (try simp only [yT] at *)
      simp only [yt,seval,cF]<;>simp [*]
      skip)
   | (skip
      refine aX (sW n _) ?_;refine goN ?_;simp only [WO,seval,hn,hi]
      repeat' ((first | refine cU (fun h=>?_) (fun h=>?_) | refine cT (fun h=>?_) (fun h=>?_))<;>simp only [WO,seval,h,hn,hi])
      all_goals
       refine az.ret func94 rfl (Left.set (by rfl) ?_)
       (try clear ih)
       (try simp only [yT] at *)
       simp only [yt,seval,cF]<;>simp [*]
       skip)
theorem Em:∀ (t:bJ) (c:Nat) (d p:Int) (B:bQ) (T:eg),B[c]? = some [.d (.int .i64 p)]→0≤p∧p≤60000→0≤d∧d≤61 →
 cy prog bI 94 [.ptr c 0,cH t,.d (.int .i64 d)] ⟨B,T⟩ (cF (.d (.bool (jM aY t d p).1)) ⟨B.set c [.d (.int .i64 (jM aY t d p).2)],T⟩)
 | .mk k n [],c,d,p,B,T,h,hp,hd=>Pm k n [] dM c d p B T h hp
 | .mk k n (e :: e2 :: es),c,d,p,B,T,h,hp,hd=>Pm k n _ dM c d p B T h hp
 | .mk k n [e],c,d,p,B,T,h,hp,hd=>by
  obtain ⟨N,hn⟩:=aV B.length;have hc:=(ai.1 h).1;have hi:c < N:=ak;have hw:=bE (d+1) ak;have ih:=Em e c (d+1) (p+1);simp only [cH,bJ.kind,bJ.name,bJ.elem];refine cy.body func94 rfl cP ?_;refine az.go 200 ?_;simp only [f94,WO,seval,hn,hi,eK];refine aX (tG c d p _ _ (by rw [bt hc];exact h) hp) ?_;refine goN ?_;simp only [WO,seval,hn,hi,hw,eK];cases hk:eJ d p
  ·simp only [WO,seval,hn,hi,hk,aO];refine az.ret func94 rfl (Left.set (by rfl) ?_);have hS:jM aY (.mk k n [e]) d p=(false,p+1):=by unfold jM;rw [if_pos hk]
   rw [hS];exact ⟨rfl,rfl⟩
  ·have hS:=rP aY k n [e] d p (by rw [hk];decide)
   have Rs:p+1≤60000∧d≤60:=by
    unfold eJ at hk;rw [aF,bz,bz] at hk;exact hk
   simp only [sU] at hS;rw [hS];simp only [WO,seval,hn,hi,hk,aK,hw,eK]
   repeat' ((first | refine cU (fun h=>?_) (fun h=>?_) | refine cT (fun h=>?_) (fun h=>?_))<;>simp only [WO,seval,h,hn,hi,hw,eK])
   all_goals first
    | (refine az.ret func94 rfl (Left.set (by rfl) ?_)
       (try clear ih)
       (try simp only [yT] at *)
       simp only [yt,seval,cF]<;>simp [*]
       skip)
    | (skip
       refine aX (sW n _) ?_;refine goN ?_;simp only [WO,seval,hn,hi]
       repeat' ((first | refine cU (fun h=>?_) (fun h=>?_) | refine cT (fun h=>?_) (fun h=>?_))<;>simp only [WO,seval,h,hn,hi])
       all_goals
        refine az.ret func94 rfl (Left.set (by rfl) ?_)
        (try clear ih)
        (try simp only [yT] at *)
        simp only [yt,seval,cF]<;>simp [*]
        skip)
    | (skip
       refine kG (ih _ T ?_ ak ak) ?_
       ·rw [bt fk];exact lK hc
       rintro _ _ ⟨rfl,rfl⟩;refine goN ?_;simp only [WO,seval,hn,hi]
       repeat' ((first | refine cU (fun h=>?_) (fun h=>?_) | refine cT (fun h=>?_) (fun h=>?_))<;>simp only [WO,seval,h,hn,hi])
       all_goals
        refine az.ret func94 rfl (Left.set (by rfl) ?_)
        (try clear ih)
        (try simp only [yT] at *)
        simp only [yt,seval,cF]<;>simp [*]
        skip)
theorem X7 (x:bh) (c:Nat) (d p:Int) (B:bQ) (T:eg) (hB:B[c]? = some [.d (.int .i64 p)]) (hp:0≤p∧p≤60000) (hd:0≤d∧d≤60) :
 cy prog bI 202 [.ptr c 0,fK x,.d (.int .i64 d)] ⟨B,T⟩ (cF (.d (.bool (ig x d p).1)) ⟨B.set c [.d (.int .i64 (ig x d p).2)],T⟩):=by
 obtain ⟨N,hn⟩:=aV B.length;have hc:=(ai.1 hB).1;have hi:c < N:=ak;have hw:=bE (d+1) ak;cases x with
 | mk k t i ty ns ks =>
 simp only [fK,bh.kind,bh.text,bh.int,bh.type,bh.names,bh.kids];refine cy.OO func202 rfl cP fun cG=>?_;simp only [Ic,sm,fK,vS,cH,Ww,Pg,KX,KY,sy,aF,aZ,Al,Am,aS,eV] at cG;refine az.go 200 ?_;simp only [f202,WO,seval,hn,hi];obtain ⟨bn,NH⟩:∃ b,∀ q:Decidable (0 < ns.length),@decide (0 < ns.length) q=b:=⟨decide (0 < ns.length),fun _=>cM.2 pG⟩;have hz:decide ((0:Int) < (ns.length:Int))=bn:=(cM.2 ak).trans (NH inferInstance);obtain ⟨-,-,-,hs4,-⟩:=cG;obtain ⟨bl,hz3⟩:∃ b,∀ q:Decidable (ns.length=ks.length),@decide (ns.length=ks.length) q=b:=⟨decide (ns.length=ks.length),fun _=>cM.2 pG⟩;have hz4:decide ((ns.length:Int)=(ks.length:Int))=bl:=(cM.2 ak).trans (hz3 inferInstance);refine az.draw cP cP (lA 60 _ _ ?_);simp only [WO,seval,hn,hi,hz];refine ⟨_,Ph ty _ _,?_⟩;simp only [WO,seval,hn,hi,hz]
 have X8:B.set c [.d (.int .i64 p)]=B:=by
  obtain ⟨_,h⟩:=ai.1 hB;rw [← h,kN]
 refine goN ?_;simp only [WO,seval,hn,hi,hw,hz]
 repeat' ((first | refine cU (fun h=>?_) (fun h=>?_) | refine cT (fun h=>?_) (fun h=>?_))<;>simp only [WO,seval,h,hn,hi,hw])
 all_goals first
  | (skip
     refine aX (sW _ _) ?_;refine goN ?_;simp only [WO,seval,hn,hi]
     repeat' ((first | refine cU (fun h=>?_) (fun h=>?_) | refine cT (fun h=>?_) (fun h=>?_))<;>simp only [WO,seval,h,hn,hi])
     all_goals
      refine az.ret func202 rfl (Left.box ?_);simp only [ig,pL,bh.kind,bh.text,bh.int,bh.type,bh.names,bh.kids,NH]
      (try clear ih)
      (try simp only [yT] at *)
      simp only [yt,seval,cF]<;>simp [*]
      (try exact (NH _).symm)
      skip)
  | (skip
     refine aX (X0 _ _ _) ?_;refine goN ?_;simp only [WO,seval,hn,hi]
     repeat' ((first | refine cU (fun h=>?_) (fun h=>?_) | refine cT (fun h=>?_) (fun h=>?_))<;>simp only [WO,seval,h,hn,hi])
     all_goals
      refine az.ret func202 rfl (Left.box ?_);simp only [ig,pL,bh.kind,bh.text,bh.int,bh.type,bh.names,bh.kids,NH]
      (try clear ih)
      (try simp only [yT] at *)
      simp only [yt,seval,cF]<;>simp [*]
      (try exact (NH _).symm)
      skip)
  | (skip
     refine az.draw cP cP (lA 60 _ _ ?_);simp only [WO,seval,hn,hi];refine goN ?_;simp only [WO,seval,hn,hi]
     repeat' ((first | refine cU (fun h=>?_) (fun h=>?_) | refine cT (fun h=>?_) (fun h=>?_))<;>simp only [WO,seval,h,hn,hi])
     all_goals
      refine az.ret func202 rfl (Left.box ?_);simp only [ig,pL,bh.kind,bh.text,bh.int,bh.type,bh.names,bh.kids,NH]
      (try clear ih)
      (try simp only [yT] at *)
      simp only [yt,seval,cF]<;>simp [*]
      (try exact (NH _).symm)
      skip)
  | (refine az.ret func202 rfl (Left.box ?_)
     simp only [ig,pL,bh.kind,bh.text,bh.int,bh.type,bh.names,bh.kids,NH]
     (try clear ih)
     (try simp only [yT] at *)
     simp only [yt,seval,cF]<;>simp [*]
     (try exact (NH _).symm)
     skip)
  | (refine kG (Em ty c (d+1) p _ T (by rw [bt ak];exact hB) hp ak) ?_
     rintro _ _ ⟨rfl,rfl⟩;obtain ⟨⟨b,q⟩,jU⟩:=aV (jM aY ty (d+1) p);simp only [WO,seval,jU];refine goN ?_;simp only [WO,seval,hn,hi,hz4]
     repeat' ((first | refine cU (fun h=>?_) (fun h=>?_) | refine cT (fun h=>?_) (fun h=>?_))<;>simp only [WO,seval,h,hn,hi,hz4])
     all_goals first
      | (refine az.ret func202 rfl (Left.set (by rfl) ?_)
         simp only [ig,pL,bh.kind,bh.text,bh.int,bh.type,bh.names,bh.kids,NH,hz3,jU]
         (try clear ih)
         (try simp only [yT] at *)
         simp only [yt,seval,cF]<;>simp [*]
         (try exact (NH _).symm)
         (try (intro e;have e2:=(hz3 _).symm.trans e;simp_all))
         skip)
      | (skip
         refine aX (Ak ns hs4 _ _) ?_;refine goN ?_;simp only [WO,seval,hn,hi,hz4]
         repeat' ((first | refine cU (fun h=>?_) (fun h=>?_) | refine cT (fun h=>?_) (fun h=>?_))<;>simp only [WO,seval,h,hn,hi,hz4])
         all_goals
          refine az.ret func202 rfl (Left.set (by rfl) ?_);simp only [ig,pL,bh.kind,bh.text,bh.int,bh.type,bh.names,bh.kids,NH,hz3,jU]
          (try clear ih)
          (try simp only [yT] at *)
          simp only [yt,seval,cF]<;>simp [*]
          (try exact (NH _).symm)
          (try exact (hz3 _).trans (by assumption))
          (try (intro e;have e2:=(hz3 _).symm.trans e;simp_all))
          skip))
def En (x:bh):Prop:=∀ (c:Nat) (d p:Int) (B:bQ) (T:eg),B[c]? = some [.d (.int .i64 p)]→0≤p∧p≤60000→0≤d∧d≤61 →
 cy prog bI 186 [.ptr c 0,fK x,.d (.int .i64 d)] ⟨B,T⟩ (cF (.d (.bool (vR x d p).1)) ⟨B.set c [.d (.int .i64 (vR x d p).2)],T⟩)
theorem Eo (l:List bh) (hx:∀ x∈l,En x) (c:Nat) (d m p:Int) (B:bQ) (T:eg) (hB:B[c]? = some [.d (.int .i64 p)]) (hp:0≤p∧p≤60000) (hd:0≤d∧d≤61) :
 cy prog bI 165 [.ptr c 0,.d (.sl (l.map eL)),.d (.int .i64 d),.d (.int .i64 m)] ⟨B,T⟩ (cF (.d (.bool ((kC l d p).1 && decide ((l.length:Int)≤m)))) ⟨B.set c [.d (.int .i64 (kC l d p).2)],T⟩):=by
 obtain ⟨N,hn⟩:=aV B.length;have hc:=(ai.1 hB).1;have hi:c < N:=ak
 have X8:B.set c [.d (.int .i64 p)]=B:=by
  obtain ⟨_,h⟩:=ai.1 hB;rw [← h,kN]
 refine cy.OO func165 rfl cP fun cG=>?_;simp only [Ic,sm,fK,vS,cH,Ww,Pg,KX,KY,sy,aF,aZ,Al,Am,aS,eV] at cG;refine az.go 100 ?_;simp only [f165,WO,seval,hn,hi];refine az.fits fun hf=>?_;refine az.m7 (fun a:Nat × Int=>(lQ 30 [(0,.ptr c 0),(1,.d (.sl (l.map eL))),(2,.d (.int .i64 d)),(3,.d (.int .i64 m)),(8,.d (.bool false)),(9,.func 186 [.ptr c 0] []),(14,.d (.sl (l.map eL))),(15,.d (.int .i64 l.length)),(16,.d (.int .i64 a.1))],⟨B.set c [.d (.int .i64 a.2)],T⟩)) (fun a=>a.1≤l.length∧(0≤a.2∧a.2≤60000)∧kC l d p=kC (l.drop a.1) d a.2) (fun a=>l.length - a.1) (0,p) ⟨ak,hp,rfl⟩ ?_ (by rw [X8]) ?_
 ·simp only [lQ,cO,cX,dc,eC,cn,cI,nR,kj,lE,lF,jH,dB,dw,cV]
 rintro ⟨i,q⟩ ⟨h1,h2,h3⟩ ih;dsimp only at h1 h2 h3 ih ⊢
 by_cases bu:i < l.length
 ·have hw:=bE ((i:Int)+1) ak;have hg:=au bu;rw [Rh l i bu] at h3;have dY:decide ((i:Int) < (l.length:Int))=true:=ah ak;refine goN ?_;simp only [WO,seval,hn,hi,aL,hg,dY,dF];refine rK (hx l[i] (aH bu) c d q _ T (by rw [bt fk];exact lK hc) h2 hd) ?_;have An:=NG l[i] d q;obtain ⟨⟨b,r⟩,he⟩:=aV (vR l[i] d q);rw [he] at h3 An;dsimp only at An;refine goN ?_;simp only [WO,seval,hn,hi,he];cases b
  ·simp only [WO,seval,hn,hi];refine az.ret func165 rfl (Left.set (by rfl) ?_);rw [h3,aD rfl];exact ⟨rfl,rfl⟩
  ·have An:=An rfl;simp only [WO,seval,hn,hi,hw];refine ih (i+1,r) ⟨bu,gP,by rw [h3];rfl⟩ gP _ _ _ _ rfl ⟨fk,aA _⟩ (hf.set rfl) ?_;simp only [lQ,cO,cX,dc,eC,cn,cI,yq,fit,qq,kj,lE,lF,jH,Am,Al,gU,bY,Bool.and_self,cR,aG,dB,dw,cV,hn,hi]
 ·have dY:decide ((i:Int) < (l.length:Int))=false:=af ak;refine goN ?_;simp only [WO,seval,dY];refine az.ret func165 rfl (Left.aeE rfl ?_);rw [ay ak,kC] at h3;rw [h3];exact ⟨rfl,rfl⟩
theorem qE {d p:Int} (h:eJ d p=true):p+1≤60000∧d≤60:=by
 unfold eJ at h;rw [aF,bz,bz] at h;exact h
theorem Rt (k:Int) (t:List UInt8) (i:Int) (ty:bJ) (ns:List (List UInt8)) (ks:List bh) (hx:∀ x∈ks,En x):En (.mk k t i ty ns ks):=by
 intro c d p B T hB hp hd;obtain ⟨N,hn⟩:=aV B.length;have hc:=(ai.1 hB).1;have hi:c < N:=ak;have hw:=bE (d+1) ak;obtain ⟨mo,SB⟩:=aV (iN k)
 have hS:vR (.mk k t i ty ns ks) d p=if eJ d p=false then (false,p+1)
  else if nM k < (ks.length:Int)∨mo = -2∨(0≤mo∧(ks.length:Int) ≠ mo) then (false,p+1)
  else if (ig (.mk k t i ty ns ks) d (p+1)).1=false then (false,(ig (.mk k t i ty ns ks) d (p+1)).2)
  else kC ks (d+1) (ig (.mk k t i ty ns ks) d (p+1)).2:=by rw [vR,SB]
 have Ep:=tG c d p (B++[[.d (.int .i64 k),.d (.str t),.d (.int .u64 i),.d (.int .i64 ty.kind),.d (.str ty.name),.d (.sl (ty.elem.map eH)),.d (.sl (gN ns)),.d (.sl (ks.map eL))]]) T (by rw [bt hc];exact hB) hp;have GD:=X7 (.mk k t i ty ns ks) c d (p+1);simp only [fK,bh.kind,bh.text,bh.int,bh.type,bh.names,bh.kids] at GD ⊢;refine cy.body func186 rfl cP ?_;refine az.go 100 ?_;simp only [f186,WO,seval,hn,hi];refine aX (XZ k _ _) ?_;refine goN ?_;simp only [WO,seval,hn,hi,SB];refine cT (fun Ae=>?_) (fun Ae=>?_)
 all_goals
  have aft:nM k=if k=15 then 30000 else 40:=rfl;simp only [WO,seval,Ae,hn,hi,SB];refine aX Ep ?_
  first
   | have hm:nM k=30000:=aD (bV Ae)
   | have hm:nM k=40:=aq (dJ Ae)
  cases hk:eJ d p
  ·rw [aD hk] at hS;refine goN ?_;simp only [WO,seval,hn,hi,SB,hw,hk];refine az.ret func186 rfl (Left.set (by rfl) ?_);rw [hS];exact ⟨rfl,rfl⟩
  ·rw [aq (by rw [hk];decide),hm] at hS;have Rs:=qE hk;have GD:=GD (B.set c [.d (.int .i64 (p+1))]++[[.d (.int .i64 k),.d (.str t),.d (.int .u64 i),.d (.int .i64 ty.kind),.d (.str ty.name),.d (.sl (ty.elem.map eH)),.d (.sl (gN ns)),.d (.sl (ks.map eL))]]) T (by rw [bt fk];exact lK hc) ⟨ak,ak⟩ ⟨ak,ak⟩;have FQ:=KP (.mk k t i ty ns ks) d (p+1) Rs.1;obtain ⟨⟨bb,bq⟩,hb⟩:=aV (ig (.mk k t i ty ns ks) d (p+1));rw [hb] at GD hS FQ;dsimp only at FQ;refine goN ?_;simp only [WO,seval,hn,hi,SB,hw,hk]
   repeat' ((first | refine cU (fun h=>?_) (fun h=>?_) | refine cT (fun h=>?_) (fun h=>?_))<;>simp only [WO,seval,h,hn,hi,SB,hw])
   all_goals first
    | (refine az.ret func186 rfl (Left.set (by rfl) ?_)
       rw [hS];clear hS GD
       (try clear ih)
       (try simp only [yT] at *)
       simp only [yt,seval,cF]<;>simp [*]
       skip)
    | (rw [aq (by (simp only [aZ,ff,Bool.not_eq_false',iV] at *);omega)] at hS
       refine aX GD ?_;refine goN ?_;simp only [WO,seval,hn,hi,SB,hw];cases bb
       ·simp only [WO,seval,hn,hi,SB,hw];refine az.ret func186 rfl (Left.set (by rfl) ?_);rw [hS,aD rfl];exact ⟨rfl,rfl⟩
       ·have FQ:=FQ rfl;simp only [WO,seval,hn,hi,SB,hw];refine aX (Eo ks hx c (d+1) _ bq _ T (by rw [bt fk];exact lK hc) ak ak) ?_;refine goN ?_;simp only [WO,seval,hn,hi,SB,hw];refine az.ret func186 rfl (Left.set (by rfl) ?_);rw [hS,aq dM];refine ⟨?_,rfl⟩;have hlen:∀ m:Int,decide (m < (ks.length:Int))=false→decide ((ks.length:Int)≤m)=true:=fun m h=>ah (by have:=dJ h;omega);have eW:=hlen _ (by assumption);show V.d (D.bool ((kC ks (d+1) bq).1 && decide _))=_;rw [eW,gU])
mutual
theorem IP:∀ x:bh,En x
 | .mk k t i ty ns ks=>Rt k t i ty ns ks (K8 ks)
theorem K8:∀ (ks:List bh),∀ x∈ks,En x
 | [],_,h=>absurd h aT
 | y :: l,x,h=>by
  rcases bB.1 h with e | e
  ·rw [e];exact IP y
  ·exact K8 l x e
end
def X9:=KB func131 10
def b95:=KB func95 11
def abX:=KB func164 9
def ue (n:Nat) (s:cL):Prop:=∀ (c:Nat) (d p:Int) (B:bQ) (T:eg),B[c]? = some [.d (.int .i64 p)]→0≤p∧p≤60000→0≤d∧d≤62 →
 cy prog bI 132 [.ptr c 0,vS s,.d (.int .i64 d)] ⟨B,T⟩ (cF (.d (.bool (nC n s d p).1)) ⟨B.set c [.d (.int .i64 (nC n s d p).2)],T⟩)
theorem Ru (n:Nat) (x:cL) (h:ue n x) (a b c:Nat) (d p:Int) (B:bQ) (T:eg) (hB:B[c]? = some [.d (.int .i64 p)]) (ha:B[a]? = some [.ptr c 0]) (hb:B[b]? = some [.d (.int .i64 d)]) (hp:0≤p∧p≤60000) (hd:0≤d∧d≤62) :
 cy prog bI 131 [vS x,.ptr a 0,.ptr b 0] ⟨B,T⟩ (cF (.d (.bool (!(nC n x d p).1))) ⟨B.set c [.d (.int .i64 (nC n x d p).2)],T⟩):=by
 obtain ⟨N,hn⟩:=aV B.length;have hc:=(ai.1 hB).1;have hi:c < N:=ak;have TF:a < N:=by have:=(ai.1 ha).1;omega
 have hib:b < N:=by have:=(ai.1 hb).1;omega
 have h:=h c d p (B++[pO x]) T (by rw [bt hc];exact hB) hp hd;unfold vS at h ⊢;simp only [pO] at h;refine gL X9 fun cG=>?_;simp only [fH] at cG;simp only [W,seval,X9,hn,hi,TF,hib,ha,hb];refine aX (h) ?_;refine goN ?_;simp only [W,seval,X9,hn,hi,TF,hib,ha,hb];refine bN X9 (Left.set (by rfl) ?_);exact j9
 skip
theorem Er {α:Type} (g:α→Int→Bool × Int):∀ (l:List α) (p:Int),ud (fun x q=>(!(g x q).1,(g x q).2)) l p=(!(jG g l p).1,(jG g l p).2)
 | [],p=>rfl
 | x :: l,p=>by
  rw [ud];show _=(!(dR (g x) (jG g l) p).1,(dR (g x) (jG g l) p).2);unfold dR;cases h:(g x p).1
  ·simp
  ·simp [Er g l]
theorem Pn (n:Nat) (a b c:Nat) (d:Int) (B X:bQ) (T:eg) (hd:0≤d∧d≤62) (hc:c < B.length) (ha:∀ q:Int,(B.set c [.d (.int .i64 q)]++X)[a]? = some [.ptr c 0]) (hb:∀ q:Int,(B.set c [.d (.int .i64 q)]++X)[b]? = some [.d (.int .i64 d)]) :
 ∀ (l:List cL) (q:Int),(∀ x∈l,ue n x)→0≤q∧q≤60000→Good prog bI 131 [] [.ptr a 0,.ptr b 0] vS (fun q:Int=>⟨B.set c [.d (.int .i64 q)]++X,T⟩) (fun x q=>(!(nC n x d q).1,(nC n x d q).2)) l q
 | [],_,_,_=>trivial
 | x :: l,q,hl,hq=>by
  have hx:=hl x aI;have Q8:c < (B.set c [.d (.int .i64 q)]).length:=by simpa using hc
  refine ⟨?_,fun h=>?_⟩
  ·have:=Ru n x hx a b c d q (B.set c [.d (.int .i64 q)]++X) T (by rw [bt Q8];exact lK hc) (ha q) (hb q) hq hd;rw [oB Q8,jy] at this;exact this
  ·have h:(nC n x d q).1=true:=by simpa using h
   have h1:=(cW.st n x d).up q h;have h2:=fV.st n x d q hq.2 h;exact Pn n a b c d B X T hd hc ha hb l _ (fun y hy=>hl y (aU _ hy)) ⟨pM hq.1 h1,h2⟩
theorem Ao (n:Nat) (l:List cL) (hl:∀ x∈l,ue n x) (c:Nat) (d p:Int) (B:bQ) (T:eg) (hB:B[c]? = some [.d (.int .i64 p)]) (hp:0≤p∧p≤60000) (hd:0≤d∧d≤62) :
 cy prog bI 95 [.ptr c 0,.d (.sl (l.map gE)),.d (.int .i64 d)] ⟨B,T⟩ (cF (.d (.bool (jG (fun s=>nC n s d) l p).1)) ⟨B.set c [.d (.int .i64 (jG (fun s=>nC n s d) l p).2)],T⟩):=by
 obtain ⟨N,hn⟩:=aV B.length;have hc:=(ai.1 hB).1;have hi:c < N:=ak
 have X8:B.set c [.d (.int .i64 p)]=B:=by
  obtain ⟨_,h⟩:=ai.1 hB;rw [← h,kN]
 refine gL b95 fun cG=>?_;simp only [fH] at cG;simp only [W,seval,b95,hn,hi];have hg:=Pn n N (N+1) c d B [[.ptr c 0],[.d (.int .i64 d)]] T hd hc (fun q=>by rw [gp (by simpa using hn)];rfl) (fun q=>by rw [gS (by simpa using hn)];rfl) l p hl hp;have FR:=Ai 131 [] [.ptr N 0,.ptr (N+1) 0] (fun q:Int=>⟨B.set c [.d (.int .i64 q)]++[[.ptr c 0],[.d (.int .i64 d)]],T⟩) (fun x q=>(!(nC n x d q).1,(nC n x d q).2)) (fun _ _=>⟨dM,rfl⟩) l (by first | exact cG | exact cG.1) p hg;rw [Er (fun x=>nC n x d),X8] at FR;refine aX FR ?_;refine goN ?_;simp only [W,seval,b95,hn,hi,pP];refine bN b95 (Left.set (by rfl) ?_);exact j9
 skip
theorem Uv (x y:iB) (b:Nat) (bv:V) (B:bQ) (T:eg) (hb:B[b]? = some [.d (.int .u64 x.int),bv]) :
 cy prog bI 164 [Ww y,.ptr b 0] ⟨B,T⟩ (cF (.d (.bool (decide (y.int=x.int)))) ⟨B,T⟩):=by
 obtain ⟨N,hn⟩:=aV B.length;have hib:b < N:=by have:=(ai.1 hb).1;omega
 unfold Ww;refine gL abX fun cG=>?_;simp only [fH] at cG;simp only [W,seval,abX,hn,hib,hb];refine bN abX (Left.box ?_);exact j9
 skip
theorem GF (x:iB):∀ l:List iB,l.any (fun y=>decide (y.int=x.int))=(l.map iB.int).contains x.int
 | []=>rfl
 | y :: l=>by
  rw [ua,GF x l,cw,mF]
  congr 1
  rw [dQ,bz,iK];exact eq_comm
def j6:=KB func132 97
theorem iu {f g:Int→Bool × Int} {p:Int} (h:(f p).1=false):dR f g p=(false,(f p).2):=aD h
theorem fC {f g:Int→Bool × Int} {p:Int} (h:(f p).1=true):dR f g p=g (f p).2:=aq (by rw [h];simp)
theorem ju (f g k:Int→Bool × Int) (p:Int):dR (dR f g) k p=dR f (dR g k) p:=by
 cases h:(f p).1
 ·have e:dR f g p=(false,(f p).2):=iu h;rw [iu h,iu (by rw [e]),e]
 ·have e:dR f g p=g (f p).2:=fC h;rw [fC h];unfold dR at e ⊢;rw [e]
def K9 (n:Nat) (s:cL) (d:Int):Int→Bool × Int:=dR (lD s.cq (d+1)) (dR (lD s.exprs (d+1)) (dR (jG (fun x=>nC n x (d+1)) s.body) (jG (fun x=>nC n x (d+1)) s.iS)))
theorem NM (n:Nat) (s:cL) (d p:Int):nC (n+1) s d p=dR (fT d) (dR (gu (kY s && decide (s.cases.length≤40))) (dR (if s.kind=1 then fun p=>jM aY s.type (d+1) p else gu true) (dR (xY (nC n) d [] s.cases) (K9 n s d)))) p:=rfl
theorem BO (R:cL→Int→Int→Bool × Int) (d:Int) (seen:List Int) (k:iB) (l:List iB):xY R d seen (k :: l)=dR (fT (d+1)) (dR (gu (!seen.contains k.int)) (dR (jG (fun s=>R s (d+2)) k.body) (xY R d (seen++[k.int]) l))):=rfl
theorem ajg {α:Type} (A:List α) (a b:α):A++[a,b]=(A++[a])++[b]:=dM
theorem La (l:List bh) (d p:Int):lD l d p=((kC l d p).1 && decide ((l.length:Int)≤40),(kC l d p).2):=by
 have e:decide ((l.length:Int)≤40)=decide (l.length≤40):=cM.2 ak;rw [e];unfold lD;cases h:(kC l d p).1
 ·rw [iu h,bA]
 ·rw [fC h,bY];rfl
theorem Rv (n:Nat) (s:cL) (Mm:∀ x∈s.body,ue n x) (hse:∀ x∈s.iS,ue n x) (hsc:∀ k∈s.cases,∀ x∈k.body,ue n x):ue (n+1) s:=by
 intro c d p B T hB hp hd;obtain ⟨N,hn⟩:=aV B.length;have hc:=(ai.1 hB).1;have hi:c < N:=ak;have kD:c < N+1:=ak;have jI:N < N+1:=ak;have Bm:=bE (d+1) ak;have JC:=bE (d+2) ak;generalize dN:nC (n+1) s d p=res;rw [NM] at dN;have Ep:=tG c d p (B++[pO s]) T (by rw [bt hc];exact hB) hp;have jS:=fun q:Int=>Uu s (B.set c [.d (.int .i64 q)]++[pO s]) T;unfold vS at jS ⊢;simp only [pO] at Ep jS;refine j6.1.go 6 rfl fun cG=>?_;simp only [fH] at cG;simp only [W,seval,j6,hn,hi];refine az.join (fun _:Unit=>(cN 97 [(0,.ptr c 0),(2,.d (.int .i64 d)),(4,.ptr N 0)],⟨B.set c [.d (.int .i64 (p+1))]++[pO s],T⟩)) (fun _=>eJ d p=true∧kY s=true∧s.cases.length≤40) ?_ ?_
 rotate_left
 ·intro K' hK;refine az.Qy 200 ?_;simp only [W,seval,j6,hn,hi];refine aX Ep ?_;refine jJ ?_;simp only [W,seval,j6,hn,hi];cases hk:eJ d p
  ·rw [iu (show (fT d p).1=false from hk)] at dN;simp only [W,seval,j6,hk,hn,hi];refine bN j6 (Left.set (by rfl) ?_);rw [← dN]
   (try clear ih)
   (try simp only [yT] at *)
   simp only [yt,seval,cF]<;>simp [*];rfl
  ·have Rs:=qE hk;rw [fC (show (fT d p).1=true from hk)] at dN;simp only [W,seval,j6,hk,hn,hi];refine aX (jS (p+1)) ?_;refine jJ ?_;simp only [W,seval,j6,hn,hi];cases hz:kY s
   ·rw [iu (by rw [hz];rfl)] at dN;simp only [W,seval,j6,hk,hn,hi];refine bN j6 (Left.set (by rfl) ?_);rw [← dN]
    (try clear ih)
    (try simp only [yT] at *)
    simp only [yt,seval,cF]<;>simp [*];rfl
   ·simp only [W,seval,j6,hk,hn,hi];refine cT (fun Ya=>?_) (fun Ya=>?_)
    ·rw [iu (by rw [hz,af (by have:=bV Ya;omega)];rfl)] at dN;simp only [W,seval,j6,hk,hn,hi];refine bN j6 (Left.set (by rfl) ?_);rw [← dN]
     (try clear ih)
     (try simp only [yT] at *)
     simp only [yt,seval,cF]<;>simp [*];rfl
    ·simp only [W,seval,j6,hk,hn,hi];exact hK () ⟨hk,hz,by have:=dJ Ya;omega⟩ _ _ cx rfl
 ·rintro ⟨⟩ ⟨hk,hz,qW⟩;have Rs:=qE hk;rw [fC (show (fT d p).1=true from hk),fC (by simp [gu,hz,qW])] at dN;change dR _ _ (p+1)=res at dN;clear Ep jS;dsimp only [pO];refine az.go 1 ?_;simp only [W,seval,j6];refine az.join (fun q:Int=>(cN 97 [(0,.ptr c 0),(2,.d (.int .i64 d)),(4,.ptr N 0)],⟨B.set c [.d (.int .i64 q)]++[pO s],T⟩)) (fun q=>(0≤q∧q≤60000)∧dR (xY (nC n) d [] s.cases) (K9 n s d) q=res) ?_ ?_
  rotate_left
  ·intro K' hK
   by_cases k1:s.kind=1
   ·rw [aD k1] at dN;have e1:=ah k1;refine az.Qy 200 ?_;simp only [W,seval,j6,hn,hi,Bm,e1];refine aX (Em s.type c (d+1) (p+1) _ T (by rw [bt fk];exact lK hc) ⟨ak,ak⟩ ⟨ak,ak⟩) ?_;have An:=y5 aY s.type (d+1) (p+1);obtain ⟨⟨b,q⟩,jU⟩:=aV (jM aY s.type (d+1) (p+1));rw [jU] at An;refine jJ ?_;simp only [W,seval,j6,hn,hi,jU];cases b
    ·rw [iu (by rw [jU]),jU] at dN;simp only [W,seval,j6,hn,hi];refine bN j6 (Left.set (by rfl) ?_);rw [← dN];exact j9
     skip
    ·rw [fC (by rw [jU]),jU] at dN;have An:=An rfl;simp only [W,seval,j6,hn,hi];exact hK q ⟨⟨ak,An.2⟩,dN⟩ _ _ cx rfl
   ·rw [aq k1,fC rfl] at dN;have e1:=af k1;refine az.Qy 200 ?_;simp only [W,seval,j6,hn,hi,Bm,e1];exact hK (p+1) ⟨⟨ak,Rs.1⟩,dN⟩ _ _ cx rfl
  ·rintro q ⟨hq,Uw⟩;clear dN;dsimp only [pO];refine az.go 20 ?_;simp only [W,seval,j6,hn,hi];refine az.fits fun hf=>?_
   have hf2:∀ q':Int,Fits ⟨B.set c [.d (.int .i64 q')]++[[.d (.int .i64 s.kind),.d (.sl (gN s.names)),.d (.int .i64 s.type.kind),.d (.str s.type.name),.d (.sl (s.type.elem.map eH)),.d (.sl (s.cq.map eL)),.d (.sl (s.exprs.map eL)),.d (.sl (s.body.map gE)),.d (.sl (s.iS.map gE)),.d (.sl (s.cases.map lV))]],T⟩:=fun q'=>by
    have:=hf.set (i:=c) (vs:=[.d (.int .i64 q')]) rfl
    rwa [oB fk,jy] at this
   refine az.small fun NN=>?_;have abx:(s.cases.length:Int)≤40:=ak;clear NN;refine az.m7 (fun a:Nat × Int=>(cN 97 [(0,.ptr c 0),(2,.d (.int .i64 d)),(4,.ptr N 0),(37,.d (.sl (s.cases.map lV))),(38,.d (.int .i64 s.cases.length)),(39,.d (.int .i64 a.1))],⟨B.set c [.d (.int .i64 a.2)]++[[.d (.int .i64 s.kind),.d (.sl (gN s.names)),.d (.int .i64 s.type.kind),.d (.str s.type.name),.d (.sl (s.type.elem.map eH)),.d (.sl (s.cq.map eL)),.d (.sl (s.exprs.map eL)),.d (.sl (s.body.map gE)),.d (.sl (s.iS.map gE)),.d (.sl (s.cases.map lV))]],T⟩)) (fun a=>a.1≤s.cases.length∧(0≤a.2∧a.2≤60000)∧dR (xY (nC n) d ((s.cases.take a.1).map iB.int) (s.cases.drop a.1)) (K9 n s d) a.2=res) (fun a=>s.cases.length - a.1) (0,q) ⟨ak,hq,Uw⟩ cx rfl ?_;rintro ⟨i,r⟩ ⟨h1,h2,h3⟩ ih;dsimp only at h1 h2 h3 ih ⊢
   by_cases bu:i < s.cases.length
   ·have hw:=bE ((i:Int)+1) ak;have hg:=au bu;have dY:decide ((i:Int) < (s.cases.length:Int))=true:=ah ak;have hle:(i:Int)≤(s.cases.length:Int):=ak;have qF:decide ((i:Int)≤(s.cases.length:Int))=true:=ah hle;rw [fj bu,BO,ju] at h3;obtain ⟨x,hx⟩:=aV (s.cases[i]);rw [hx] at hg h3;have hmt:(s.cases.map lV).take i=(s.cases.take i).map lV:=(og).symm;have Ep:=tG c (d+1) r;refine goN ?_;simp only [W,seval,j6,hn,hi,Bm,aL,hg,dY,lN];refine aX (Ep _ T (by rw [bt fk];exact lK hc) h2) ?_;refine goN ?_;simp only [W,seval,j6,hn,hi,Bm];cases hk2:eJ (d+1) r
    ·rw [iu (show (fT (d+1) r).1=false from hk2)] at h3;simp only [W,seval,j6,hn,hi,hk2];refine bN j6 (Left.set (by rfl) ?_);rw [← h3]
     (try clear ih)
     (try simp only [yT] at *)
     simp only [yt,seval,cF]<;>simp [*];rfl
    ·have afv:=qE hk2;rw [fC (show (fT (d+1) r).1=true from hk2),ju] at h3;change dR _ _ (r+1)=res at h3;simp only [W,seval,j6,hn,hi,hk2,hle,qF,hmt];have FR:=fun S=>Aj 164 [] [.ptr (N+1) 0] (fun _:Unit=>S) (fun y s=>(decide (y.int=x.int),s)) (fun _ _=>⟨rfl,rfl⟩) (s.cases.take i) fk ();refine aX (FR _ (tI (s.cases.take i) fun y _=>Uv x y (N+1) _ _ T (by rw [gS (by simpa using hn)];rfl))) ?_;rw [qD,GF];refine goN ?_;simp only [W,seval,j6,hn,hi,JC];cases we:((s.cases.take i).map iB.int).contains x.int
     ·rw [fC (by rw [we];rfl),ju] at h3;change dR _ _ (r+1)=res at h3;simp only [W,seval,j6,hn,hi,we,JC];refine aX (Ao n x.body (hsc x (by rw [← hx];exact aH bu)) c (d+2) (r+1) _ T (by rw [bt fk];exact lK hc) ⟨ak,afv.1⟩ ⟨ak,ak⟩) ?_;have Fz:=(cW.row (f:=fun s=>nC n s (d+2)) (c:=Fy n) x.body fun y _=>cW.st n y (d+2)).up (r+1);have Cu:=fV.row (f:=fun s=>nC n s (d+2)) (fun y=>fV.st n y (d+2)) x.body (r+1) afv.1;obtain ⟨⟨b,q2⟩,bW⟩:=aV (jG (fun s=>nC n s (d+2)) x.body (r+1));rw [bW] at Fz Cu;refine goN ?_;simp only [W,seval,j6,hn,hi,bW];cases b
      ·rw [iu (by rw [bW]),bW] at h3;simp only [W,seval,j6,hn,hi];refine bN j6 (Left.set (by rfl) ?_);rw [← h3];exact j9
       skip
      ·rw [fC (by rw [bW]),bW] at h3;have Fz:=Fz rfl;have Cu:=Cu rfl;simp only [W,seval,j6,hn,hi,hw]
       have Gr:(s.cases.take (i+1)).map iB.int=(s.cases.take i).map iB.int++[x.int]:=by
        rw [bF bu,cr,hx];rfl
       rw [ajg];refine ih (i+1,q2) ⟨bu,⟨gP,Cu⟩,?_⟩ gP _ _ _ _ rfl ⟨fk,aA _⟩ (hf2 q2) ?_
       ·dsimp only;rw [Gr];exact h3
       ·skip
        refine gr.env _ ?_;simp only [zB,seval,hn,av,aP,aW,bf,kD,jI]
     ·rw [iu (by rw [we];rfl)] at h3;simp only [W,seval,j6,hn,hi,we];refine bN j6 (Left.set (by rfl) ?_);rw [← h3]
      (try clear ih)
      (try simp only [yT] at *)
      simp only [yt,seval,cF]<;>simp [*];rfl
   ·have dY:decide ((i:Int) < (s.cases.length:Int))=false:=af ak;rw [ay ak,fC rfl] at h3;change K9 n s d r=res at h3;unfold K9 at h3;refine goN ?_;simp only [W,seval,j6,hn,hi,dY,Bm];refine aX (Eo s.cq (fun x _=>IP x) c (d+1) 40 r _ T (by rw [bt fk];exact lK hc) h2 ⟨ak,ak⟩) ?_;have Fz:=(cW.lD s.cq (d+1)).up r;have Cu:=fV.lD s.cq (d+1) r h2.2;have he:=La s.cq (d+1) r;obtain ⟨⟨b1,q1⟩,Ux⟩:=aV (lD s.cq (d+1) r);rw [Ux] at Fz Cu he;obtain ⟨X4,Th⟩:=aR he;rw [← X4,← Th];clear he X4 Th;refine goN ?_;simp only [W,seval,j6,hn,hi,Bm];cases b1
    ·rw [iu (by rw [Ux]),Ux] at h3;simp only [W,seval,j6,hn,hi,Bm];refine bN j6 (Left.set (by rfl) ?_);rw [← h3];exact j9
     skip
    rw [fC (by rw [Ux]),Ux] at h3;dsimp only at h3;have ajj:=Fz rfl;have abZ:=Cu rfl;dsimp only at ajj abZ;simp only [W,seval,j6,hn,hi,Bm];refine aX (Eo s.exprs (fun x _=>IP x) c (d+1) 40 q1 _ T (by rw [bt fk];exact lK hc) ⟨ak,abZ⟩ ⟨ak,ak⟩) ?_;have Fz:=(cW.lD s.exprs (d+1)).up q1;have Cu:=fV.lD s.exprs (d+1) q1 abZ;have he:=La s.exprs (d+1) q1;obtain ⟨⟨b2,q2⟩,hq2⟩:=aV (lD s.exprs (d+1) q1);rw [hq2] at Fz Cu he;obtain ⟨X4,Th⟩:=aR he;rw [← X4,← Th];clear he X4 Th;refine goN ?_;simp only [W,seval,j6,hn,hi,Bm];cases b2
    ·rw [iu (by rw [hq2]),hq2] at h3;simp only [W,seval,j6,hn,hi,Bm];refine bN j6 (Left.set (by rfl) ?_);rw [← h3];exact j9
     skip
    rw [fC (by rw [hq2]),hq2] at h3;dsimp only at h3;have Rw:=Fz rfl;have FT:=Cu rfl;dsimp only at Rw FT;simp only [W,seval,j6,hn,hi,Bm];refine aX (Ao n s.body Mm c (d+1) q2 _ T (by rw [bt fk];exact lK hc) ⟨ak,FT⟩ ⟨ak,ak⟩) ?_;have Fz:=(cW.row (f:=fun s=>nC n s (d+1)) (c:=Fy n) s.body fun y _=>cW.st n y (d+1)).up q2;have Cu:=fV.row (f:=fun s=>nC n s (d+1)) (fun y=>fV.st n y (d+1)) s.body q2 FT;obtain ⟨⟨b3,q3⟩,hq3⟩:=aV (jG (fun s=>nC n s (d+1)) s.body q2);rw [hq3] at Fz Cu;refine goN ?_;simp only [W,seval,j6,hn,hi,Bm,hq3];cases b3
    ·rw [iu (by rw [hq3]),hq3] at h3;simp only [W,seval,j6,hn,hi,Bm];refine bN j6 (Left.set (by rfl) ?_);rw [← h3];exact j9
     skip
    rw [fC (by rw [hq3]),hq3] at h3;dsimp only at h3;have Rx:=Fz rfl;have Lb:=Cu rfl;dsimp only at Rx Lb;simp only [W,seval,j6,hn,hi,Bm];refine aX (Ao n s.iS hse c (d+1) q3 _ T (by rw [bt fk];exact lK hc) ⟨ak,Lb⟩ ⟨ak,ak⟩) ?_;rw [h3];refine goN ?_;simp only [W,seval,j6,hn,hi,Bm];refine bN j6 (Left.set (by rfl) ?_);exact j9
    skip
def Dp:Nat→cL→Prop
 | 0,_=>False
 | n+1,s=>(∀ x∈s.body,Dp n x)∧(∀ x∈s.iS,Dp n x)∧∀ k∈s.cases,∀ x∈k.body,Dp n x
theorem Dj:∀ (n:Nat) (s:cL),Dp n s→ue n s
 | 0,_,h=>h.elim
 | n+1,s,h=>Rv n s (fun x hx=>Dj n x (h.1 x hx)) (fun x hx=>Dj n x (h.2.1 x hx)) (fun k hk x hx=>Dj n x (h.2.2 k hk x hx))
theorem Dp.xI:∀ (n:Nat) (s:cL),SizeOf.sizeOf s≤n→Dp n s
 | 0,s,h=>by
  cases s with
  | mk k ns ty ls es b e cs=>simp at h
 | n+1,s,h=>by
  cases s with
  | mk k ns ty ls es b e cs =>
   have h0:1+SizeOf.sizeOf b+SizeOf.sizeOf e+SizeOf.sizeOf cs≤n+1:=by
    simp only [cL.mk.sizeOf_spec] at h;omega
   refine ⟨fun x hx=>Dp.xI n x ?_,fun x hx=>Dp.xI n x ?_,fun c hc x hx=>Dp.xI n x ?_⟩
   ·have:=fI (show x∈b from hx);omega
   ·have:=fI (show x∈e from hx);omega
   ·have h1:=fI (show c∈cs from hc);have h2:=fI hx
    have h3:SizeOf.sizeOf c.body≤SizeOf.sizeOf c:=by
     cases c with
     | mk i b=>simp only [iB.body,iB.mk.sizeOf_spec];omega
    omega
def JE:=KB func92 40
theorem bL:List.mapM uw []=some []:=rfl
theorem bC (x:D) (l:List V):List.mapM uw (.d x :: l)=(List.mapM uw l).map (x :: ·):=by
 rw [gQ];show (some x).bind _=_;rw [dg];cases List.mapM uw l<;>rfl
theorem Uy {c:Cx} {w:World} {rows:List (List D)} {tk:Tok} {v:Value} (h:VR c w (.sl rows tk) v):VR c w (.d (.sl rows)) v:=by
 cases h with
 | full _ a h ha=>exact .d _ _ h
 | own _ t a cap i h ht hr hn hl=>exact .d _ _ h
theorem Uz {P:Program} {I:Inv} {f:FuncId} {rows:List (List D)} {tk:Tok} {S:Mem} {R:V→Mem→Prop} (h:cy P I f [.d (.sl rows)] S R):cy P I f [.sl rows tk] S R :=
 ⟨h.1,fun c w xs h1 h2 h3 hI=>h.2 c w xs h1 (fun j hj=>by
  have Wl:j=0:=by simpa using hj
  subst Wl;exact Uy (h2 0 dM)) h3 hI⟩
theorem Po {B:bQ} {T K:eg} {R:V→Mem→Prop} {v:V} {i:Nat} {vs:List V} (hf:vs.all (fit B.length T.length)=true) (h:R (wk B.length T.length v) ⟨B.set i vs,T⟩):Ab.Left ⟨B,T⟩ R v ⟨B.set i vs,T++K⟩:=by
 have:=Left.Bv (J:=[]) (K:=K) hf h
 rwa [aQ] at this
theorem Yb (mC:Nat) (l:List ep) (p:Int):Mk mC l p=dR (jG (fun x:ep=>dR (fT 0) (fun p=>jM aY x.type 0 p)) l) (gu (decide (l.length≤mC) && jN l.length (l.map ep.name))) p:=rfl
theorem GG (mC:Nat) (_:mC≤1000) (l:List ep) (c:Nat) (p:Int) (B:bQ) (T:eg) (hB:B[c]? = some [.d (.int .i64 p)]) (hp:0≤p∧p≤60000) :
 cy prog bI 92 [.ptr c 0,.d (.sl (l.map jK)),.d (.int .i64 mC)] ⟨B,T⟩ (cF (.d (.bool (Mk mC l p).1)) ⟨B.set c [.d (.int .i64 (Mk mC l p).2)],T⟩):=by
 obtain ⟨N,hn⟩:=aV B.length;obtain ⟨M,hM⟩:=aV T.length;have hc:=(ai.1 hB).1;have hi:c < N:=ak
 have X8:B.set c [.d (.int .i64 p)]=B:=by
  obtain ⟨_,h⟩:=ai.1 hB;rw [← h,kN]
 generalize dN:Mk mC l p=res;rw [Yb] at dN;refine JE.1.go 14 rfl fun cG=>?_;simp only [fH] at cG;simp only [W,seval,JE,hn,hi];refine az.fits fun hf=>?_;refine az.token 7 [] (by rfl) 1 ak rfl ?_;simp only [fP,hM];refine az.go 20 ?_;simp only [W,seval,JE,hn,hi];refine az.m7 (fun a:Nat × Int=>(cN 40 [(0,.ptr c 0),(1,.d (.sl (l.map jK))),(2,.d (.int .i64 mC)),(6,.d (.bool false)),(7,.sl (gN ((l.take a.1).map ep.name)) (.own M)),(10,.d (.sl (l.map jK))),(11,.d (.int .i64 l.length)),(12,.d (.int .i64 a.1))],⟨B.set c [.d (.int .i64 a.2)],T++[(a.1,1)]⟩)) (fun a=>a.1≤l.length∧((a.1:Int)≤a.2∧a.2≤60000)∧dR (jG (fun x:ep=>dR (fT 0) (fun p=>jM aY x.type 0 p)) (l.drop a.1)) (gu (decide (l.length≤mC) && jN l.length (l.map ep.name))) a.2=res) (fun a=>l.length - a.1) (0,p) ⟨ak,hp,dN⟩ ?_ (by rw [X8]) ?_
 ·skip
  refine eU.env _ ?_;simp only [qa,seval,hn]
  trivial
 rintro ⟨i,q⟩ ⟨h1,h2,h3⟩ ih;dsimp only at h1 h2 h3 ih ⊢
 by_cases bu:i < l.length
 ·have hw:=bE ((i:Int)+1) ak;have dY:decide ((i:Int) < (l.length:Int))=true:=ah ak;have hg:=au bu;have TE:min i l.length=i:=ak;have gh:(i+1) * 16≤140737488355328:=ak
  have ZU:gN ((l.take i).map ep.name)++[[.str l[i].name]]=gN ((l.take (i+1)).map ep.name):=by
   rw [bF bu,cr];simp [gN]
  have Bk:∀ s:List UInt8,fE 1 [[D.str s]]=true:=fun _=>rfl;have vT:M < M+1:=ak;rw [fj bu] at h3;change dR (dR (dR (fT 0) (fun p=>jM aY l[i].type 0 p)) (jG _ (l.drop (i+1)))) _ q=res at h3;rw [ju,ju] at h3;refine goN ?_;simp only [W,seval,JE,hn,hi,hM,aL,hg,dY,jK,TE,cg,gh,ZU,bL,bC,Nat.reduceMul,Bk];refine aX (tG c 0 q _ _ (by rw [bt fk];exact lK hc) ⟨ak,h2.2⟩) ?_;refine goN ?_;simp only [W,seval,JE,hn,hi,hM];cases hk:eJ 0 q
  ·rw [iu (show (fT 0 q).1=false from hk)] at h3;simp only [W,seval,JE,hn,hi,hk];refine bN JE (Left.Bv rfl ?_);rw [← h3]
   (try clear ih)
   (try simp only [yT] at *)
   simp only [yt,seval,cF]<;>simp [*];rfl
  ·have Rs:=qE hk;rw [fC (show (fT 0 q).1=true from hk)] at h3;change dR _ _ (q+1)=res at h3;simp only [W,seval,JE,hn,hi,hk];refine aX (Em l[i].type c 0 (q+1) _ _ (by rw [bt fk];exact lK hc) ⟨ak,Rs.1⟩ ⟨ak,ak⟩) ?_;have An:=y5 aY l[i].type 0 (q+1);obtain ⟨⟨b,r⟩,jU⟩:=aV (jM aY l[i].type 0 (q+1));rw [jU] at An;refine goN ?_;simp only [W,seval,JE,hn,hi,hM,jU];cases b
   ·rw [iu (by rw [jU]),jU] at h3;simp only [W,seval,JE,hn,hi];refine bN JE (Left.Bv rfl ?_);rw [← h3];exact j9
    skip
   ·rw [fC (by rw [jU]),jU] at h3;have An:=An rfl;dsimp only at An h3;simp only [W,seval,JE,hn,hi,hM,hw];refine ih (i+1,r) ⟨bu,⟨gP,An.2⟩,h3⟩ gP _ _ _ _ rfl ⟨fk,fk⟩ ?_ ?_
    ·have:=Fits.more (X:=[]) (Y:=[(i+1,1)]) (Fits.set hf (i:=c) (vs:=[.d (.int .i64 r)]) rfl) (fun vs hv=>absurd hv aT)
     rwa [aQ] at this
    ·skip
     refine gr.env _ ?_;simp only [zB,seval,hn,hi,hM,av,aP,aW,bf,vT]
 ·have dY:decide ((i:Int) < (l.length:Int))=false:=af ak;rw [ay ak,fC rfl] at h3;have o9:l.take i=l:=bS ak;have SB:decide ((l.length:Int)≤(mC:Int))=decide (l.length≤mC):=cM.2 ak;refine goN ?_;simp only [W,seval,JE,hn,hi,hM,dY,o9,SB];cases hle:decide (l.length≤mC)
  ·simp only [W,seval,JE,hn,hi,hM];refine bN JE (Po rfl ?_);rw [← h3,hle]
   (try clear ih)
   (try simp only [yT] at *)
   simp only [yt,seval,cF]<;>simp [*];exact ⟨rfl,rfl⟩
  ·simp only [W,seval,JE,hn,hi,hM];refine aX (Uz (Ak (l.map ep.name) (by simp;have:=bV hle;omega) _ _)) ?_;refine goN ?_;simp only [W,seval,JE,hn,hi,hM];refine bN JE (Po rfl ?_);rw [← h3,hle]
   (try clear ih)
   (try simp only [yT] at *)
   simp only [yt,seval,cF]<;>simp [*];exact ⟨rfl,rfl⟩
def b93:=KB func93 8
def tn:=KB func46 80
def b16:=KB func16 6
theorem UA (x:bJ) (a c:Nat) (p:Int) (B:bQ) (T:eg) (hB:B[c]? = some [.d (.int .i64 p)]) (ha:B[a]? = some [.ptr c 0]) (hp:0≤p∧p≤60000) :
 cy prog bI 93 [cH x,.ptr a 0] ⟨B,T⟩ (cF (.d (.bool (!(jM aY x 0 p).1))) ⟨B.set c [.d (.int .i64 (jM aY x 0 p).2)],T⟩):=by
 obtain ⟨N,hn⟩:=aV B.length;have hc:=(ai.1 hB).1;have hi:c < N:=ak;have TF:a < N:=by have:=(ai.1 ha).1;omega
 have h:=Em x c 0 p (B++[[.d (.int .i64 x.kind),.d (.str x.name),.d (.sl (x.elem.map eH))]]) T (by rw [bt hc];exact hB) hp ak;unfold cH at h ⊢;refine gL b93 fun cG=>?_;simp only [fH] at cG;simp only [W,seval,b93,hn,hi,TF,ha];refine aX (h) ?_;refine goN ?_;simp only [W,seval,b93,hn,hi,TF,ha];refine bN b93 (Left.set (by rfl) ?_);exact j9
 skip
theorem Pp (a c:Nat) (B X:bQ) (T:eg) (hc:c < B.length) (ha:∀ q:Int,(B.set c [.d (.int .i64 q)]++X)[a]? = some [.ptr c 0]) :
 ∀ (l:List bJ) (q:Int),0≤q∧q≤60000→Good prog bI 93 [] [.ptr a 0] cH (fun q:Int=>⟨B.set c [.d (.int .i64 q)]++X,T⟩) (fun x q=>(!(jM aY x 0 q).1,(jM aY x 0 q).2)) l q
 | [],_,_=>trivial
 | x :: l,q,hq=>by
  have Q8:c < (B.set c [.d (.int .i64 q)]).length:=by simpa using hc
  refine ⟨?_,fun h=>?_⟩
  ·have:=UA x a c q (B.set c [.d (.int .i64 q)]++X) T (by rw [bt Q8];exact lK hc) (ha q) hq;rw [oB Q8,jy] at this;exact this
  ·have h:(jM aY x 0 q).1=true:=by simpa using h
   have h1:=y5 aY x 0 q h;exact Pp a c B X T hc ha l _ ⟨pM hq.1 gP,h1.2⟩
theorem afw {α:Type} (A:List α) (a b c:α):A++[a,b,c]=(A++[a,b])++[c]:=dM
theorem Yd (n:Nat) (pr:rU) (kz:∀ f∈pr.funcs,∀ x∈f.body,ue n x) (c:Nat) (p:Int) (B:bQ) (T:eg) (hB:B[c]? = some [.d (.int .i64 p)]) (hp:0≤p∧p≤60000) :
 cy prog bI 46 [.ptr c 0,sy pr] ⟨B,T⟩ (cF (.d (.bool (KS n pr p).1)) ⟨B.set c [.d (.int .i64 (KS n pr p).2)],T⟩):=by
 obtain ⟨N,hn⟩:=aV B.length;have hc:=(ai.1 hB).1;have hi:c < N:=ak;have kD:c < N+2:=ak;have jI:N < N+2:=ak;have lW:N+1 < N+2:=ak
 have X8:B.set c [.d (.int .i64 p)]=B:=by
  obtain ⟨_,h⟩:=ai.1 hB;rw [← h,kN]
 generalize dN:KS n pr p=res;change dR (jG Ml pr.structs) (jG (KR n) pr.funcs) p=res at dN;unfold sy;refine tn.1.go 7 rfl fun cG=>?_;simp only [fH] at cG;simp only [W,seval,tn,hn,hi];refine az.join (fun q:Int=>(cN 80 [(2,.ptr N 0),(3,.ptr (N+1) 0),(4,.d (.bool false))],⟨B.set c [.d (.int .i64 q)]++[[.ptr c 0],[.d (.sl (pr.structs.map ki)),.d (.sl (pr.funcs.map lT))]],T⟩)) (fun q=>(0≤q∧q≤60000)∧jG (KR n) pr.funcs q=res) ?_ ?_
 rotate_left
 ·intro K' hK;refine az.Qy 30 ?_;simp only [W,seval,tn,hn,hi];refine az.fits fun hf=>?_
  have hf2:∀ q':Int,Fits ⟨B.set c [.d (.int .i64 q')]++[[.ptr c 0],[.d (.sl (pr.structs.map ki)),.d (.sl (pr.funcs.map lT))]],T⟩:=fun q'=>by
   have:=hf.set (i:=c) (vs:=[.d (.int .i64 q')]) rfl
   rwa [oB ak] at this
  refine az.m7 (fun a:Nat × Int=>(cN 80 [(2,.ptr N 0),(3,.ptr (N+1) 0),(4,.d (.bool false)),(10,.d (.sl (pr.structs.map ki))),(11,.d (.int .i64 pr.structs.length)),(12,.d (.int .i64 a.1))],⟨B.set c [.d (.int .i64 a.2)]++[[.ptr c 0],[.d (.sl (pr.structs.map ki)),.d (.sl (pr.funcs.map lT))]],T⟩)) (fun a=>a.1≤pr.structs.length∧(0≤a.2∧a.2≤60000)∧dR (jG Ml (pr.structs.drop a.1)) (jG (KR n) pr.funcs) a.2=res) (fun a=>pr.structs.length - a.1) (0,p) ⟨ak,hp,dN⟩ cx (by rw [X8]) ?_;rintro ⟨i,q⟩ ⟨h1,h2,h3⟩ ih;dsimp only at h1 h2 h3 ih ⊢
  by_cases bu:i < pr.structs.length
  ·have hw:=bE ((i:Int)+1) ak;have hg:=au bu;have dY:decide ((i:Int) < (pr.structs.length:Int))=true:=ah ak;rw [fj bu] at h3;obtain ⟨x,hx⟩:=aV (pr.structs[i]);rw [hx] at hg h3;change dR (dR (Ml x) (jG Ml (pr.structs.drop (i+1)))) (jG (KR n) pr.funcs) q=res at h3;rw [ju] at h3;change dR (dR (fT 0) (dR (gu (aY x.name)) (Mk 60 x.fields))) _ q=res at h3;rw [ju] at h3;have UB:=GG 60 ak x.fields c;have UC:((60:Nat):Int)=60:=rfl;rw [UC] at UB;refine az.Qy 100 ?_;simp only [W,seval,tn,hn,hi,aL,hg,dY,ki];refine aX (tG c 0 q _ _ (by rw [bt fk];exact lK hc) h2) ?_;refine jJ ?_;simp only [W,seval,tn,hn,hi];cases hk:eJ 0 q
   ·rw [iu (show (fT 0 q).1=false from hk)] at h3;simp only [W,seval,tn,hn,hi,hk];refine bN tn (Left.set (by rfl) ?_);rw [← h3]
    (try clear ih)
    (try simp only [yT] at *)
    simp only [yt,seval,cF]<;>simp [*];rfl
   have Rs:=qE hk;rw [fC (show (fT 0 q).1=true from hk)] at h3;change dR _ _ (q+1)=res at h3;rw [ju] at h3;simp only [W,seval,tn,hn,hi,hk];refine aX (sW x.name _) ?_;refine jJ ?_;simp only [W,seval,tn,hn,hi];cases hid:aY x.name
   ·rw [iu (by rw [hid];rfl)] at h3;simp only [W,seval,tn,hn,hi];refine bN tn (Left.set (by rfl) ?_);rw [← h3]
    (try clear ih)
    (try simp only [yT] at *)
    simp only [yt,seval,cF]<;>simp [*];rfl
   rw [fC (by rw [hid];rfl)] at h3;change dR _ _ (q+1)=res at h3;simp only [W,seval,tn,hn,hi];refine aX (UB (q+1) _ T (by rw [bt fk];exact lK hc) ⟨ak,Rs.1⟩) ?_;have Fz:=(cW.pa 60 x.fields).up (q+1);have Cu:=fV.pa 60 x.fields (q+1) Rs.1;obtain ⟨⟨b,r⟩,CT⟩:=aV (Mk 60 x.fields (q+1));rw [CT] at Fz Cu;refine jJ ?_;simp only [W,seval,tn,hn,hi,CT];cases b
   ·rw [iu (by rw [CT]),CT] at h3;simp only [W,seval,tn,hn,hi];refine bN tn (Left.set (by rfl) ?_);rw [← h3];exact j9
    skip
   ·rw [fC (by rw [CT]),CT] at h3;have Fz:=Fz rfl;have Cu:=Cu rfl;dsimp only at Fz Cu h3;simp only [W,seval,tn,hn,hi,hw];rw [afw];refine ih (i+1,r) ⟨bu,⟨gP,Cu⟩,h3⟩ gP _ _ _ _ rfl ⟨fk,aA _⟩ (hf2 r) ?_;refine gr.env _ ?_;simp only [zB,seval,hn,av,aP,aW,bf,Nat.reduceAdd,jI,lW]
  ·have dY:decide ((i:Int) < (pr.structs.length:Int))=false:=af ak;rw [ay ak,fC rfl] at h3;refine az.oV 100 (k:=[_,_,_]) (K:=K') ?_;simp only [W,seval,tn,hn,hi,dY];exact hK q ⟨h2,h3⟩ _ _ cx rfl
 ·rintro q0 ⟨W8,Uw⟩;clear dN X8;dsimp only;refine az.go 20 ?_;simp only [W,seval,tn,hn,hi];refine az.fits fun hf=>?_
  have hf2:∀ q':Int,Fits ⟨B.set c [.d (.int .i64 q')]++[[.ptr c 0],[.d (.sl (pr.structs.map ki)),.d (.sl (pr.funcs.map lT))]],T⟩:=fun q'=>by
   have:=hf.set (i:=c) (vs:=[.d (.int .i64 q')]) rfl
   rwa [oB fk,jy] at this
  refine az.m7 (fun a:Nat × Int=>(cN 80 [(2,.ptr N 0),(3,.ptr (N+1) 0),(4,.d (.bool false)),(34,.d (.sl (pr.funcs.map lT))),(35,.d (.int .i64 pr.funcs.length)),(36,.d (.int .i64 a.1))],⟨B.set c [.d (.int .i64 a.2)]++[[.ptr c 0],[.d (.sl (pr.structs.map ki)),.d (.sl (pr.funcs.map lT))]],T⟩)) (fun a=>a.1≤pr.funcs.length∧(0≤a.2∧a.2≤60000)∧jG (KR n) (pr.funcs.drop a.1) a.2=res) (fun a=>pr.funcs.length - a.1) (0,q0) ⟨ak,W8,Uw⟩ cx rfl ?_;rintro ⟨i,q⟩ ⟨h1,h2,h3⟩ ih;dsimp only at h1 h2 h3 ih ⊢
  by_cases bu:i < pr.funcs.length
  ·have hw:=bE ((i:Int)+1) ak;have hg:=au bu;have dY:decide ((i:Int) < (pr.funcs.length:Int))=true:=ah ak;rw [fj bu] at h3;obtain ⟨x,hx⟩:=aV (pr.funcs[i]);have hxm:x∈pr.funcs:=by rw [← hx];exact aH bu
   rw [hx] at hg h3;change dR (dR (fT 0) (dR (gu (aY x.name)) (dR (Mk 20 x.params) (dR (gu (decide (1≤x.results.length) && decide (x.results.length≤20))) (dR (jG (fun t p=>jM aY t 0 p) x.results) (jG (fun s=>nC n s 0) x.body)))))) (jG (KR n) (pr.funcs.drop (i+1))) q=res at h3;rw [ju] at h3;have UB:=GG 20 ak x.params c;have UC:((20:Nat):Int)=20:=rfl;rw [UC] at UB;refine goN ?_;simp only [W,seval,tn,hn,hi,aL,hg,dY,lT];refine aX (tG c 0 q _ _ (by rw [bt fk];exact lK hc) h2) ?_;refine goN ?_;simp only [W,seval,tn,hn,hi];cases hk:eJ 0 q
   ·rw [iu (show (fT 0 q).1=false from hk)] at h3;simp only [W,seval,tn,hn,hi,hk];refine bN tn (Left.set (by rfl) ?_);rw [← h3]
    (try clear ih)
    (try simp only [yT] at *)
    simp only [yt,seval,cF]<;>simp [*];rfl
   have Rs:=qE hk;rw [fC (show (fT 0 q).1=true from hk)] at h3;change dR _ _ (q+1)=res at h3;rw [ju] at h3;simp only [W,seval,tn,hn,hi,hk];refine aX (sW x.name _) ?_;refine goN ?_;simp only [W,seval,tn,hn,hi];cases hid:aY x.name
   ·rw [iu (by rw [hid];rfl)] at h3;simp only [W,seval,tn,hn,hi];refine bN tn (Left.set (by rfl) ?_);rw [← h3]
    (try clear ih)
    (try simp only [yT] at *)
    simp only [yt,seval,cF]<;>simp [*];rfl
   rw [fC (by rw [hid];rfl)] at h3;change dR _ _ (q+1)=res at h3;rw [ju] at h3;simp only [W,seval,tn,hn,hi];refine aX (UB (q+1) _ T (by rw [bt fk];exact lK hc) ⟨ak,Rs.1⟩) ?_;have Fz:=(cW.pa 20 x.params).up (q+1);have Cu:=fV.pa 20 x.params (q+1) Rs.1;obtain ⟨⟨b,r⟩,CT⟩:=aV (Mk 20 x.params (q+1));rw [CT] at Fz Cu;refine goN ?_;simp only [W,seval,tn,hn,hi,CT];cases b
   ·rw [iu (by rw [CT]),CT] at h3;simp only [W,seval,tn,hn,hi];refine bN tn (Left.set (by rfl) ?_);rw [← h3];exact j9
    skip
   rw [fC (by rw [CT]),CT] at h3;have Fz:=Fz rfl;have Cu:=Cu rfl;dsimp only at Fz Cu h3;rw [ju] at h3
   by_cases HU:1≤x.results.length
   case neg =>
    have e1:decide ((x.results.length:Int) < 1)=true:=ah ak;rw [iu (by rw [af HU];rfl)] at h3;simp only [W,seval,tn,hn,hi,e1];refine bN tn (Left.set (by rfl) ?_);rw [← h3]
    (try clear ih)
    (try simp only [yT] at *)
    simp only [yt,seval,cF]<;>simp [*];rfl
   have e1:decide ((x.results.length:Int) < 1)=false:=af ak
   by_cases ZT:x.results.length≤20
   case neg =>
    have e2:decide ((20:Int) < (x.results.length:Int))=true:=ah ak;rw [iu (by rw [af ZT,gC];rfl)] at h3;simp only [W,seval,tn,hn,hi,e1,e2];refine bN tn (Left.set (by rfl) ?_);rw [← h3]
    (try clear ih)
    (try simp only [yT] at *)
    simp only [yt,seval,cF]<;>simp [*];rfl
   have e2:decide ((20:Int) < (x.results.length:Int))=false:=af ak;rw [fC (by rw [ah HU,ah ZT];rfl)] at h3;change dR _ _ r=res at h3;rw [ju] at h3;simp only [W,seval,tn,hn,hi,e1,e2];have hgd:=Pp N c B [[.ptr c 0],[.d (.sl (pr.structs.map ki)),.d (.sl (pr.funcs.map lT))],[.d (.str x.name),.d (.sl (x.params.map jK)),.d (.sl (x.results.map eH)),.d (.sl (x.body.map gE))]] T hc (fun q=>by rw [gp (by simpa using hn)];rfl) x.results r ⟨ak,Cu⟩;have FR:=tH 93 [] [.ptr N 0] (fun q:Int=>⟨B.set c [.d (.int .i64 q)]++[[.ptr c 0],[.d (.sl (pr.structs.map ki)),.d (.sl (pr.funcs.map lT))],[.d (.str x.name),.d (.sl (x.params.map jK)),.d (.sl (x.results.map eH)),.d (.sl (x.body.map gE))]],T⟩) (fun x q=>(!(jM aY x 0 q).1,(jM aY x 0 q).2)) (fun _ _=>⟨dM,rfl⟩) x.results ak r hgd;rw [Er (fun x=>jM aY x 0)] at FR;refine aX FR ?_;have Rw:=(cW.row (f:=fun t p=>jM aY t 0 p) (c:=zf) x.results fun t _=>cW.ty t 0).up r;have FT:=fV.row (f:=fun t p=>jM aY t 0 p) (fun t=>fV.ty t 0) x.results r Cu;obtain ⟨⟨b,r2⟩,jU⟩:=aV (jG (fun t p=>jM aY t 0 p) x.results r);rw [jU] at Rw FT;refine goN ?_;simp only [W,seval,tn,hn,hi,jU];cases b
   ·rw [iu (by rw [jU]),jU] at h3;simp only [W,seval,tn,hn,hi];refine bN tn (Left.set (by rfl) ?_);rw [← h3];exact j9
    skip
   rw [fC (by rw [jU]),jU] at h3;have Rw:=Rw rfl;have FT:=FT rfl;dsimp only at Rw FT h3;simp only [W,seval,tn,hn,hi];refine aX (Ao n x.body (kz x hxm) c 0 r2 _ T (by rw [bt fk];exact lK hc) ⟨ak,FT⟩ ⟨ak,ak⟩) ?_;have Rx:=(cW.row (f:=fun s=>nC n s 0) (c:=Fy n) x.body fun y _=>cW.st n y 0).up r2;have Lb:=fV.row (f:=fun s=>nC n s 0) (fun y=>fV.st n y 0) x.body r2 FT;obtain ⟨⟨b,r3⟩,Ry⟩:=aV (jG (fun s=>nC n s 0) x.body r2);rw [Ry] at Rx Lb;refine goN ?_;simp only [W,seval,tn,hn,hi,Ry];cases b
   ·rw [iu (by rw [Ry]),Ry] at h3;simp only [W,seval,tn,hn,hi];refine bN tn (Left.set (by rfl) ?_);rw [← h3];exact j9
    skip
   rw [fC (by rw [Ry]),Ry] at h3;have Rx:=Rx rfl;have Lb:=Lb rfl;dsimp only at Rx Lb h3;simp only [W,seval,tn,hn,hi,hw];rw [afw];refine ih (i+1,r3) ⟨bu,⟨gP,Lb⟩,h3⟩ gP _ _ _ _ rfl ⟨fk,aA _⟩ (hf2 r3) ?_;refine gr.env _ ?_;simp only [zB,seval,hn,av,aP,aW,bf,Nat.reduceAdd,jI,lW]
  ·have dY:decide ((i:Int) < (pr.funcs.length:Int))=false:=af ak;rw [ay ak] at h3;refine goN ?_;simp only [W,seval,tn,hn,hi,dY];refine bN tn (Left.set (by rfl) ?_);rw [← h3]
   (try clear ih)
   (try simp only [yT] at *)
   simp only [yt,seval,cF]<;>simp [*];rw [← h3];exact ⟨rfl,rfl⟩
theorem UD (n:Nat) (pr:rU) (kz:∀ f∈pr.funcs,∀ x∈f.body,ue n x) (B:bQ) (T:eg) :
 cy prog bI 16 [sy pr] ⟨B,T⟩ (cF (.d (.bool (KS n pr 0).1)) ⟨B,T⟩):=by
 obtain ⟨N,hn⟩:=aV B.length;have h:=Yd n pr kz (N+1) 0 (B++[[.d (.sl (pr.structs.map ki)),.d (.sl (pr.funcs.map lT))],[.d (.int .i64 0)]]) T (by rw [gS hn];rfl) ak;unfold sy at h ⊢;refine gL b16 fun cG=>?_;simp only [fH] at cG;simp only [W,seval,b16,hn];refine aX h ?_;refine goN ?_;simp only [W,seval,b16,hn];refine bN b16 (Left.box ?_);exact j9
 skip
end Go.Proofs.YtnfnbjjnjjdjdaaGreatDoor
namespace Go.Ab
open Go.RowKit Go.Av
def lookW:List (Nat × Nat × Nat × List Nat)→Nat→Nat→Option (Nat × List Nat)
 | [],_,_=>none
 | (f,r,p,A) :: l,g,s=>match Nat.beq f g && Nat.beq r s with
  | true=>some (p,A)
  | false=>lookW l g s
end Go.Ab
namespace Go.Proofs.YtnfnbjjnjjdjdaaGreatDoor
open _root_.Go.Proofs.Tryz
open Go.RowKit Go.Av Go.Ab
def afx:List (Nat × Nat × Nat × List Nat):=[(101,1,14,[13]),(203,7,8,[]),(21,8,5,[]),(21,10,5,[]),(60,6,5,[]),(60,12,5,[]),
 (207,11,5,[]),(207,13,5,[]),(207,15,8,[]),(207,20,7,[]),(190,7,5,[])]
theorem UE:lB prog=true:=cP
def txA:List UInt8:=[112,97,99,107,97,103,101,32,112,32,102,117,110,99,32,102,40,97,32,105,110,116,41,32,40,105,110,116,41,32,123,32,114,101,116,117,114,110,32,97,32,43,32,49,32,125]
def txB:List UInt8:=[112,97,99,107,97,103,101,32,112,32,102,117,110,99,32,102,40,97,32,105,110,116,41,32,40,98,121,116,101,41,32,123,32,114,101,116,117,114,110,32,97,32,43,32,49,32,125]
def JF (k:Int) (t:bJ):rU:=⟨[],[⟨[102],[⟨[97],.mk 4 [] []⟩],[.mk k [] []],[.mk 6 [] (.mk 0 [] []) [] [.mk 6 [43] 0 (.mk 0 [] []) [] [.mk 1 [97] 0 (.mk 0 [] []) [] [],.mk 2 [] 1 t [] []]] [] [] []]⟩]⟩
theorem UF {bs:List UInt8} (h0:bs ≠ []) (hl:bs.length≤400000) (i:Int) (S:Mem):cy prog bI 128 [.d (.sl (K0 bs)),.d (.int .i64 i)] S (cF (.fZ [.agg (wdL (lC bs i).1),.d (.int .i64 ((lC bs i).2:Nat))]) S):=by
 refine cy.DT func128 rfl cP fun c w xs h1 h2 h3 hI=>?_;have Gd:=h2 0 dM;have hv1:=h2 1 dM
 obtain ⟨x,y,rfl⟩:∃ x y,xs = #[x,y]:=⟨xs[0]'(by simp at h1;omega),xs[1]'(by simp at h1;omega),by
  apply xD
  ·simpa using h1
  ·intro j hj jT;have:j=0∨j=1:=by simp at jT;omega
   rcases this with rfl | rfl<;>rfl⟩
 simp at Gd hv1;cases hv1 with
 | d _ _ hv1=>cases hv1 with
  | int=>cases Gd with
   | d _ _ Gd=>cases Gd with
    | sl _ sz a cap f jS hr hcp hm hs hd =>
     have hC:Calls prog 128 #[.slice a (K0 bs).length cap,.int .i64 i] w (KM (lC bs i) w):=by
      have gW:K0 bs ≠ []:=by simpa [K0] using h0
      obtain ⟨g,off,ha,hc⟩:=hs gW;have Ip:(K0 bs).length=bs.length:=by simp [K0]
      have hz:sz=1:=by
       obtain ⟨b,r,rfl⟩:∃ b r,bs=b :: r:=by cases bs with
        | nil=>exact absurd rfl h0
        | cons b r=>exact ⟨b,r,rfl⟩
       exact (hr _ aI).symm
      subst hz;have NO:0 < bs.length:=jZ.2 h0
      have l8:∀ j u,(bv bs)[j]? = some u→w.cell? ⟨g,off+j,none⟩=some u:=by
       intro j u hu;obtain ⟨b,hb,rfl⟩:=IB hu;obtain ⟨hj,hb⟩:=ai.1 hb;have hjD:j < (K0 bs).length:=ak;have bW:(K0 bs)[j]=[.int .u8 (b.toNat:Int)]:=by simp [K0,hb,lX]
       have h4:=hc j hjD 0 (by rw [bW];simp);have h5:=hd j hjD 0 (by rw [bW];simp);simp only [bW,gm] at h5;cases hf:f j 0 with
       | int k n =>
        rw [hf] at h5;cases h5;rw [← hf]
        simpa using h4.2
       | _=>rw [hf] at h5;cases h5
      have hg:g < w.heap.size:=by
       have:=l8 0 (.int .u8 ((bs[0]'NO).toNat:Int)) (tE (au NO));exact xm this
      exact aaj w.heap.size _ bs i w hI (.inr ⟨g,off,cap,by rw [ha,Ip],hg,ak,hm,l8⟩) (aA _)
     refine hC.mono ?_;rintro e w' ⟨rfl,hb⟩;have htl:=Ur bs i;refine ⟨_,_,rfl,⟨rfl,rfl⟩,hb,.fZ _ _ rfl fun j hj=>?_⟩;have Mi:j=0∨j=1:=by simp at hj;omega
     rcases Mi with rfl | rfl
     ·refine .agg _ _ rfl (fun j hj=>?_) (fun j hj=>?_)
      ·have hj5:j=0∨j=1∨j=2∨j=3∨j=4:=by simp [wdL] at hj;omega
       rcases hj5 with rfl | rfl | rfl | rfl | rfl
       ·exact .d _ _ (.int _ _)
       ·exact .d _ _ (.str _ ak)
       ·exact .d _ _ (.int _ _)
       ·exact .d _ _ (.int _ _)
       ·exact .d _ _ (.int _ _)
      ·have hj5:j=0∨j=1∨j=2∨j=3∨j=4:=by simp [wdL] at hj;omega
       rcases hj5 with rfl | rfl | rfl | rfl | rfl<;>rfl
     ·exact .d _ _ (.int _ _)
noncomputable def Wx (p:rU):Bool:=(KS (SizeOf.sizeOf p.funcs) p 0).1
theorem IQ (p:rU) (B:bQ) (T:eg):cy prog bI 16 [sy p] ⟨B,T⟩ (cF (.d (.bool (Wx p))) ⟨B,T⟩):=by
 refine UD (SizeOf.sizeOf p.funcs) p (fun f hf x hx=>Dj _ x (Dp.xI _ x ?_)) B T;have h1:=fI hf;have h2:=fI hx;have h3:SizeOf.sizeOf f.body < SizeOf.sizeOf f:=by cases f;simp only [fL.mk.sizeOf_spec];omega
 omega
noncomputable def Ye (bs:List UInt8) (p:rU):FuncId→List V→Option V:=fun g args =>
 match Nat.beq g 128 with
 | true=>match args with
  | [.d (.sl rows),.d (.int .i64 i)]=>match wM rows (K0 bs) with
   | true=>some (.fZ [.agg (wdL (lC bs i).1),.d (.int .i64 ((lC bs i).2:Nat))])
   | false=>none
  | _=>none
 | false=>match Nat.beq g 16 with
  | true=>match args with
   | [.agg [.d a,.d b]]=>match XF a (.sl (p.structs.map ki)) && XF b (.sl (p.funcs.map lT)) with
    | true=>some (.d (.bool (Wx p)))
    | false=>none
   | _=>none
  | false=>none
theorem Pq {bs:List UInt8} (h0:bs ≠ []) (hl:bs.length≤400000) (p:rU):∀ g args v,Ye bs p g args=some v→cy prog bI g args ⟨[],[]⟩ (fun v' _=>v' = v):=by
 intro g args v h;unfold Ye at h
 split at h
 ·rename_i hg;obtain rfl:=mX hg
  split at h
  case h_2=>cases h
  split at h
  case h_2=>cases h
  rename_i he;obtain rfl:=uH _ _ he;obtain rfl:=ag h;exact (UF h0 hl _ _).mono fun _ _ h=>h.1
 ·split at h
  case h_2=>cases h
  rename_i hg;obtain rfl:=mX hg
  split at h
  case h_2=>cases h
  split at h
  case h_2=>cases h
  rename_i he;rw [aF] at he;obtain rfl:=Iy _ _ he.1;obtain rfl:=Iy _ _ he.2;obtain rfl:=ag h;exact (IQ p [] []).mono fun _ _ h=>h.1
theorem NP:IA prog bI (Ye txA (JF 4 (.mk 0 [] []))) (lookW afx) 100000 21 [.d (.sl (K0 txA))]=some (.fZ [sy (JF 4 (.mk 0 [] [])),.d (.int .i64 0)]):=cP
theorem NQ:IA prog bI (Ye txB (JF 2 (.mk 0 [] []))) (lookW afx) 100000 21 [.d (.sl (K0 txB))]=some (.fZ [sy (JF 2 (.mk 0 [] [])),.d (.int .i64 0)]):=cP
theorem Rz:cy prog bI 21 [.d (.sl (K0 txA))] ⟨[],[]⟩ fun v' _=>v' = .fZ [sy (JF 4 (.mk 0 [] [])),.d (.int .i64 0)]:=Gu UE (Pq (by simp [txA]) (by simp [txA]) _) NP
theorem RA:cy prog bI 21 [.d (.sl (K0 txB))] ⟨[],[]⟩ fun v' _=>v' = .fZ [sy (JF 2 (.mk 0 [] [])),.d (.int .i64 0)]:=Gu UE (Pq (by simp [txB]) (by simp [txB]) _) NQ
end Go.Proofs.YtnfnbjjnjjdjdaaGreatDoor
namespace Go.Proofs.YtnfnbjjnjjdjdaaGreatDoor
open _root_.Go.Proofs.Tryz
open Go.RowKit Go.Av
abbrev Wd:=Nat × List UInt8 × Nat
def okD (l:List UInt8):Bool :=
 decide (r7 (l.takeWhile gA)≤KL) && !(decide ((l.takeWhile gA).length < l.length) && fJ (l.getD (l.takeWhile gA).length 0)) && !(decide (1 < (l.takeWhile gA).length) && decide (l.getD 0 0=48))
def wl (l:List UInt8):Option Wd :=
 if l=[] then some (0,[],0)
 else if fJ (l.getD 0 0)=true then some (if ia (l.takeWhile nu)=true then 4 else 1,l.takeWhile nu,0)
 else if gA (l.getD 0 0)=true then (if okD l=true then some (2,l.takeWhile gA,r7 (l.takeWhile gA)) else none)
 else match NA l with
  | some s=>some (3,s,0)
  | none=>none
def strip (x:fS):Wd:=(x.kind,x.text,x.int)
def Es:Nat→List UInt8→List Wd
 | 0,_=>[(9,[],0)]
 | f+1,l=>match wl (lR false l) with
  | none=>[(9,[],0)]
  | some x=>if x.1=0 then [(0,[],0)] else x :: Es f ((lR false l).drop x.2.1.length)
def Pr:List UInt8→Bool
 | []=>true
 | c :: _=>!nu c
inductive UG:bJ→Prop
 | bas (k:Int):1≤k→k≤6→UG (.mk k [] [])
 | SC (n:List UInt8):aY n=true→UG (.mk 7 n [])
 | sli (t:bJ):UG t→UG (.mk 8 [] [t])
theorem vg:∀ (t:bJ) (d p:Int),(jM aY t d p).1=true→UG t
 | .mk k n es,d,p,h=>by
  unfold jM at h
  by_cases hp:eJ d p=false
  ·rw [aD hp] at h;cases h
  rw [aq hp] at h
  by_cases h1:1≤k∧k≤6
  ·rw [aD h1] at h;simp only [aF,aZ] at h;obtain rfl:=aM h.2;obtain rfl:=h.1;exact .bas k h1.1 h1.2
  rw [aq h1] at h
  by_cases h7:k=7
  ·subst h7;rw [aD rfl] at h;simp only [aF,aZ] at h;obtain rfl:=aM h.2;exact .SC n h.1
  rw [aq h7] at h
  match es,h with
  | [e],h =>
   dsimp only at h
   by_cases h8:k=8∧n=[]
   ·rw [aD h8] at h;have ih:=vg e _ _ h;obtain ⟨rfl,rfl⟩:=h8;exact .sli e ih
   ·rw [aq h8] at h;cases h
  | [],h=>cases h
  | _ :: _ :: _,h=>cases h
mutual
def Ap:bh→Prop
 | .mk _ _ i _ _ ks=>(0≤i∧i≤18446744073709551615)∧vK ks
def vK:List bh→Prop
 | []=>True
 | x :: l=>Ap x∧vK l
end
inductive rF:Int→bh→Prop
 | SC (d:Int) (t:List UInt8):d≤60→aY t=true→rF d (.mk 1 t 0 eF [] [])
 | num (d i:Int):d≤60→0≤i→i≤18446744073709551615→rF d (.mk 2 [] i eF [] [])
 | tru (d i:Int):d≤60→0≤i→i≤1→rF d (.mk 3 [] i eF [] [])
 | sgn (d k:Int) (y:bh):d≤60→k=4∨k=5→rF (d+1) y→rF d (.mk k [] 0 eF [] [y])
 | bin (d:Int) (t:List UInt8) (y z:bh):d≤60→0 < jO t→rF (d+1) y→rF (d+1) z→rF d (.mk 6 t 0 eF [] [y,z])
 | cal (d:Int) (t:List UInt8) (ks:List bh):d≤60→aY t=true→(∀ x∈ks,rF (d+1) x)→rF d (.mk 7 t 0 eF [] ks)
 | con (d k:Int) (y:bh):d≤60→2≤k→k≤6→rF (d+1) y→rF d (.mk 8 [] 0 (.mk k [] []) [] [y])
 | fld (d:Int) (t:List UInt8) (y:bh):d≤60→aY t=true→rF (d+1) y→rF d (.mk 9 t 0 eF [] [y])
 | idx (d:Int) (y z:bh):d≤60→rF (d+1) y→rF (d+1) z→rF d (.mk 10 [] 0 eF [] [y,z])
 | cut (d:Int) (y z u:bh):d≤60→rF (d+1) y→rF (d+1) z→rF (d+1) u→rF d (.mk 11 [] 0 eF [] [y,z,u])
 | len (d:Int) (y:bh):d≤60→rF (d+1) y→rF d (.mk 12 [] 0 eF [] [y])
 | app (d:Int) (y z:bh):d≤60→rF (d+1) y→rF (d+1) z→rF d (.mk 13 [] 0 eF [] [y,z])
 | str (d:Int) (n:List UInt8) (ns:List (List UInt8)) (ks:List bh):d≤60→aY n=true→ns.length=ks.length→(∀ m∈ns,aY m=true)→(∀ x∈ks,rF (d+1) x)→rF d (.mk 14 [] 0 (.mk 7 n []) ns ks)
 | lis (d:Int) (t:bJ) (ks:List bh):d≤60→UG t→(∀ x∈ks,rF (d+1) x)→rF d (.mk 15 [] 0 (.mk 8 [] [t]) [] ks)
theorem Cv {l:List (List UInt8)} (h:jN l.length l=true):∀ n∈l,aY n=true:=by
 have hd:∀ (j:Nat) (l:List (List UInt8)),jN j l=true→∀ i < j,aY (l.getD i [])=true:=by
  intro j
  induction j with
  | zero=>exact fun _ _ i hi=>absurd hi (jY _)
  | succ j ih =>
   intro l h i hi;unfold jN at h;simp only [aF] at h;rcases ct i j with h1 | h1
   ·exact ih l h.1.1 i h1
   ·obtain rfl:i=j:=ak;exact h.1.2
 intro n hn;obtain ⟨i,hi,rfl⟩:=ga.1 hn;have:=hd l.length l h i hi
 simpa [List.getD,hi] using this
theorem uI {t:bJ} (h:jn t=true):t=eF:=by
 obtain ⟨k,n,es⟩:=t;unfold jn at h;simp only [aF] at h;obtain ⟨⟨h1,h2⟩,h3⟩:=h;obtain rfl:k=0:=bV h1;obtain rfl:n=[]:=bV h2;obtain rfl:=aM (show es.length=0 from bV h3);rfl
theorem UH {x:bh} {d p:Int} (h:(ig x d p).1=true):(pL x d p).1=true∧(¬ (x.kind=1∨x.kind=7∨x.kind=9∨x.kind=6)→x.text=[])∧(¬ (x.kind=2∨x.kind=3)→x.int=0) ∧
 (¬ (x.kind=8∨x.kind=14∨x.kind=15)→x.type=eF)∧(¬ x.kind=14→x.names=[]):=by
 unfold ig at h;simp only [aF] at h;obtain ⟨⟨⟨⟨h1,h2⟩,h3⟩,h4⟩,h5⟩:=h;refine ⟨h1,fun hk=>?_,fun hk=>?_,fun hk=>?_,fun hk=>?_⟩
 ·rw [aq hk] at h2
  simpa using h2
 ·rw [aq hk] at h3
  simpa using h3
 ·rw [aq hk] at h4;exact uI (by simpa using h4)
 ·rw [aq hk] at h5
  simpa using h5
theorem Yf {k:Int} {t:List UInt8} {i:Int} {ty:bJ} {ns:List (List UInt8)} {ks:List bh} {d p:Int} (hd:d≤60) (hm:¬ (nM k < (ks.length:Int)∨iN k = -2∨(0≤iN k∧(ks.length:Int) ≠ iN k)))
 (hb:(ig (.mk k t i ty ns ks) d p).1=true) (hi:0≤i∧i≤18446744073709551615) (De:∀ x∈ks,rF (d+1) x):rF d (.mk k t i ty ns ks):=by
 obtain ⟨b1,b2,b3,b4,b5⟩:=UH hb;change ¬ (k=1∨k=7∨k=9∨k=6)→t=[] at b2;change ¬ (k=2∨k=3)→i=0 at b3;change ¬ (k=8∨k=14∨k=15)→ty=eF at b4;change ¬ k=14→ns=[] at b5
 have c1:(if k=8 then (if 2≤ty.kind∧ty.kind≤6 then jM aY ty (d+1) p else (false,p))
  else if k=14 then (if ty.kind=7 then (if (jM aY ty (d+1) p).1=true then (decide (ns.length=ks.length) && jN ns.length ns,(jM aY ty (d+1) p).2) else (false,(jM aY ty (d+1) p).2)) else (false,p))
  else if k=15 then (if ty.kind=8 then jM aY ty (d+1) p else (false,p))
  else (if k=1∨k=7∨k=9 then aY t else if k=6 then decide (0 < jO t) else if k=3 then decide (i≤1) else true,p)).1=true:=b1
 clear b1
 have hlen:0≤iN k→(ks.length:Int)=iN k:=fun h=>by
  by_cases e:(ks.length:Int)=iN k
  ·exact e
  ·exact absurd (.inr (.inr ⟨h,e⟩)) hm
 have gW:¬ iN k = -2:=fun e=>hm (.inr (.inl e));unfold iN at hlen gW
 by_cases k8:k=8
 ·subst k8;rw [aD rfl] at c1;obtain rfl:=b2 ak;obtain rfl:=b3 ak;obtain rfl:=b5 ak;have hl:=hlen bH
  by_cases hq:2≤ty.kind∧ty.kind≤6
  ·rw [aD hq] at c1;have:=vg ty _ _ c1
   match ks,hl with
   | [y],_ =>
    cases this with
    | bas k' _ _=>exact .con d k' y hd hq.1 hq.2 (De y dM)
    | SC _ _=>exact absurd hq.2 (by simp [bJ.kind])
    | sli _ _=>exact absurd hq.2 (by simp [bJ.kind])
   | [],h=>exact absurd h bH
   | _ :: _ :: _,h=>simp at h;omega
  ·rw [aq hq] at c1;cases c1
 rw [aq k8] at c1
 by_cases Yg:k=14
 ·subst Yg;rw [aD rfl] at c1;obtain rfl:=b2 ak;obtain rfl:=b3 ak
  by_cases hq:ty.kind=7
  ·rw [aD hq] at c1
   by_cases ht:(jM aY ty (d+1) p).1=true
   ·rw [aD ht] at c1;simp only [aF,aZ] at c1;have:=vg ty _ _ ht;cases this with
    | bas k' h1 h2=>have:k' = 7:=hq;omega
    | SC n hn=>exact .str d n ns ks hd hn c1.1 (Cv c1.2) De
    | sli _ _=>exact absurd hq (by simp [bJ.kind])
   ·rw [aq ht] at c1;cases c1
  ·rw [aq hq] at c1;cases c1
 rw [aq Yg] at c1;obtain rfl:=b5 Yg
 by_cases k15:k=15
 ·subst k15;rw [aD rfl] at c1;obtain rfl:=b2 ak;obtain rfl:=b3 ak
  by_cases hq:ty.kind=8
  ·rw [aD hq] at c1;have:=vg ty _ _ c1;cases this with
   | bas k' h1 h2=>have:k' = 8:=hq;omega
   | SC n hn=>exact absurd hq (by simp [bJ.kind])
   | sli t ht=>exact .lis d t ks hd ht De
  ·rw [aq hq] at c1;cases c1
 rw [aq k15] at c1;obtain rfl:=b4 ak;dsimp only at c1
 by_cases k1:k=1
 ·subst k1;obtain rfl:=b3 ak;obtain rfl:=aM (yB.1 (hlen bH));exact .SC d t hd c1
 by_cases k7:k=7
 ·subst k7;obtain rfl:=b3 ak;exact .cal d t ks hd c1 De
 by_cases k9:k=9
 ·subst k9;obtain rfl:=b3 ak;have hl:=hlen bH
  match ks,hl with
  | [y],_=>exact .fld d t y hd c1 (De y dM)
  | [],h=>exact absurd h bH
  | _ :: _ :: _,h=>simp at h;omega
 by_cases k6:k=6
 ·subst k6;obtain rfl:=b3 ak;have hl:=hlen bH
  match ks,hl with
  | [y,z],_=>exact .bin d t y z hd (bV c1) (De y dM) (De z dM)
  | [],h=>exact absurd h bH
  | [_],h=>simp at h
  | _ :: _ :: _ :: _,h=>simp at h;omega
 obtain rfl:=b2 ak
 by_cases k2:k=2
 ·subst k2;obtain rfl:=aM (yB.1 (hlen bH));exact .num d i hd hi.1 hi.2
 by_cases k3:k=3
 ·subst k3;obtain rfl:=aM (yB.1 (hlen bH));exact .tru d i hd hi.1 (bV c1)
 obtain rfl:=b3 ak
 by_cases k45:k=4∨k=5
 ·have hl:(ks.length:Int)=1:=by
   have:=hlen;rcases k45 with rfl | rfl<;>exact this bH
  match ks,hl with
  | [y],_=>exact .sgn d k y hd k45 (De y dM)
  | [],h=>exact absurd h bH
  | _ :: _ :: _,h=>simp at h;omega
 by_cases k12:k=12
 ·subst k12;have hl:=hlen bH
  match ks,hl with
  | [y],_=>exact .len d y hd (De y dM)
  | [],h=>exact absurd h bH
  | _ :: _ :: _,h=>simp at h;omega
 by_cases k10:k=10
 ·subst k10;have hl:=hlen bH
  match ks,hl with
  | [y,z],_=>exact .idx d y z hd (De y dM) (De z dM)
  | [],h=>exact absurd h bH
  | [_],h=>simp at h
  | _ :: _ :: _ :: _,h=>simp at h;omega
 by_cases k13:k=13
 ·subst k13;have hl:=hlen bH
  match ks,hl with
  | [y,z],_=>exact .app d y z hd (De y dM) (De z dM)
  | [],h=>exact absurd h bH
  | [_],h=>simp at h
  | _ :: _ :: _ :: _,h=>simp at h;omega
 by_cases k11:k=11
 ·subst k11;have hl:=hlen bH
  match ks,hl with
  | [y,z,u],_=>exact .cut d y z u hd (De y dM) (De z dM) (De u dM)
  | [],h=>exact absurd h bH
  | [_],h=>simp at h
  | [_,_],h=>simp at h
  | _ :: _ :: _ :: _ :: _,h=>simp at h;omega
 ·exfalso
  apply gW;rw [aq ak,aq ak,aq ak,aq ak,aq ak]
mutual
theorem Yh:∀ (x:bh) (d p:Int),(vR x d p).1=true→Ap x→rF d x
 | .mk k t i ty ns ks,d,p,h,hn=>by
  unfold vR at h;unfold Ap at hn
  by_cases hp:eJ d p=false
  ·rw [aD hp] at h;cases h
  have XM:eJ d p=true:=by simpa using hp
  rw [aq hp] at h
  by_cases h1:nM k < (ks.length:Int)∨iN k = -2∨(0≤iN k∧(ks.length:Int) ≠ iN k)
  ·rw [aD h1] at h;cases h
  rw [aq h1] at h
  by_cases h2:(ig (.mk k t i ty ns ks) d (p+1)).1=false
  ·rw [aD h2] at h;cases h
  rw [aq h2] at h;unfold eJ at XM;rw [aF,bz,bz] at XM;exact Yf XM.2 h1 (by simpa using h2) hn.1 (Et ks _ _ h hn.2)
theorem Et:∀ (l:List bh) (d p:Int),(kC l d p).1=true→vK l→∀ x∈l,rF d x
 | [],_,_,_,_,x,hx=>absurd hx aT
 | y :: l,d,p,h,hn,x,hx=>by
  unfold kC at h;unfold vK at hn
  by_cases h1:(vR y d p).1=false
  ·rw [aD h1] at h;cases h
  rw [aq h1] at h;rcases bB.1 hx with e | hx
  ·rw [e];exact Yh y d p (by simpa using h1) hn.1
  ·exact Et l _ _ h hn.2 x hx
end
def Lx (s:List UInt8) (t:List Wd):Prop:=∀ (f:Nat) (r:List UInt8),Pr r=true→Es (f+t.length) (s++r)=t++Es f r
def LxA (s:List UInt8) (t:List Wd):Prop:=∀ (f:Nat) (r:List UInt8),Es (f+t.length) (s++r)=t++Es f r
theorem LxA.app {s1 s2:List UInt8} {t1 t2:List Wd} (h1:LxA s1 t1) (h2:LxA s2 t2):LxA (s1++s2) (t1++t2):=fun f r=>by
 rw [aE,av,nE t1.length,← fD,h1,h2,aE]
theorem LxA.then {s1 s2:List UInt8} {t1 t2:List Wd} (h1:LxA s1 t1) (h2:Lx s2 t2):Lx (s1++s2) (t1++t2):=fun f r hr=>by
 rw [aE,av,nE t1.length,← fD,h1,h2 f r hr,aE]
theorem Lx.then {s1 s2:List UInt8} {t1 t2:List Wd} (h1:Lx s1 t1) (hs:∀ r,Pr r=true→Pr (s2++r)=true) (h2:Lx s2 t2):Lx (s1++s2) (t1++t2):=fun f r hr=>by
 rw [aE,av,nE t1.length,← fD,h1 _ _ (hs r hr),h2 f r hr,aE]
theorem Lx.shut {s1 s2:List UInt8} {t1 t2:List Wd} (h1:Lx s1 t1) (hs:∀ r,Pr (s2++r)=true) (h2:LxA s2 t2):LxA (s1++s2) (t1++t2):=fun f r=>by
 rw [aE,av,nE t1.length,← fD,h1 _ _ (hs r),h2 f r,aE]
def wR {α β:Type} (p:α × Ps) (f:α→Ps→β × Ps):β × Ps:=f p.1 p.2
theorem Dn.zero {a b:Ps} (h:Dn a b) (hb:b.e=0):a.e=0:=by
 by_cases ha:a.e=0
 ·exact ha
 ·rw [h.e ha] at hb;exact hb
theorem Dn.bad {a b:Ps} (h:Dn a b) (ha:a.e=51):b.e=51:=by
 rw [h.e ak,ha]
structure RB (c:Wd) (tl:List Wd) (s t:Ps):Prop where
 se:s.e=0
 te:t.e=0
 h:t.h=s.h
 ws:∃ init:List Wd,s.ws.map strip=init++[(0,[],0)]∧t.ws.map strip=init++c :: tl∧∀ x∈init,x.1 ≠ 0∧x.1 ≠ 9
section
variable {c:Wd} {tl:List Wd} {s t:Ps}
def UI (c:Wd) (tl:List Wd) {α:Type} (p q:α × Ps):Prop:=p.2.e=0→(q.1=p.1∧RB c tl p.2 q.2)∨q.2.e=51
theorem UI.pure {α:Type} {s t:Ps} (h:RB c tl s t) (x:α):UI c tl (x,s) (x,t):=fun _=>.inl ⟨rfl,h⟩
theorem UI.dead {α:Type} {p q:α × Ps} (h:¬ p.2.e=0):UI c tl p q:=fun h0=>absurd h0 h
theorem UI.wR {α β:Type} {p q:α × Ps} {f g:α→Ps→β × Ps} (h:UI c tl p q) (hf:∀ x s,Dn s (f x s).2) (hg:∀ x s,Dn s (g x s).2) (hk:RB c tl p.2 q.2→UI c tl (f p.1 p.2) (g p.1 q.2)):UI c tl (wR p f) (wR q g):=by
 intro h0;rcases h ((hf p.1 p.2).zero h0) with ⟨e,hs⟩ | h51
 ·have:=hk hs h0;unfold Proofs.YtnfnbjjnjjdjdaaGreatDoor.wR;rw [e];exact this
 ·exact .inr ((hg q.1 q.2).bad h51)
theorem BP {w:fS} {r:List fS} {o:Int} {h:Bool} (hr:¬ (r.headD .zero).kind=9):kT ⟨w :: r,0,o,h⟩=⟨r,0,o,h⟩:=by
 unfold kT;rw [aD rfl];exact aq hr
theorem RB.split (hs:RB c tl s t) (hc:c.1 ≠ 9):(s.w.kind=0∧strip t.w=c)∨(s.w.kind ≠ 0∧strip t.w=strip s.w∧∀ o o':Int,RB c tl (kT ⟨s.ws,0,o,s.h⟩) (kT ⟨t.ws,0,o',t.h⟩)):=by
 obtain ⟨se,te,hh,init,h1,h2,h3⟩:=hs;cases init with
 | nil =>
  obtain ⟨w,r,e1,e2,e3⟩:=eP.1 h1;obtain ⟨w',r',f1,f2,f3⟩:=eP.1 h2;refine .inl ⟨?_,?_⟩
  ·unfold Ps.w;rw [e1];exact gR Prod.fst e2
  ·unfold Ps.w;rw [f1];exact f2
 | cons x init =>
  obtain ⟨w,r,e1,e2,e3⟩:=eP.1 h1;obtain ⟨w',r',f1,f2,f3⟩:=eP.1 h2;have hx:=h3 x aI;refine .inr ⟨?_,?_,fun o o'=>?_⟩
  ·unfold Ps.w;rw [e1];intro h0;exact hx.1 (by rw [← e2];exact h0)
  ·unfold Ps.w;rw [e1,f1];exact f2.trans e2.symm
  ·have hr:¬ (r.headD .zero).kind=9:=by
    cases init with
    | nil =>
     obtain ⟨y,r2,g1,g2,_⟩:=eP.1 e3;rw [g1];intro h9;have:(strip y).1=9:=h9;rw [g2] at this;exact absurd this bH
    | cons y l =>
     obtain ⟨y',r2,g1,g2,_⟩:=eP.1 e3;rw [g1];intro h9;have:(strip y').1=9:=h9;rw [g2] at this;exact (h3 y dM).2 this
   have ZP:¬ (r'.headD .zero).kind=9:=by
    cases init with
    | nil =>
     obtain ⟨y,r2,g1,g2,_⟩:=eP.1 f3;rw [g1];intro h9;have:(strip y).1=9:=h9;rw [g2] at this;exact hc this
    | cons y l =>
     obtain ⟨y',r2,g1,g2,_⟩:=eP.1 f3;rw [g1];intro h9;have:(strip y').1=9:=h9;rw [g2] at this;exact (h3 y dM).2 this
   rw [e1,f1,BP hr,BP ZP];exact ⟨rfl,rfl,hh,init,e3,f3,fun y hy=>h3 y (aU _ hy)⟩
theorem RB.at (hs:RB c tl s t) (hc:c.1 ≠ 9) (hk:s.w.kind ≠ 0):t.w.kind=s.w.kind∧t.w.text=s.w.text∧t.w.int=s.w.int:=by
 rcases hs.split hc with ⟨h,_⟩ | ⟨_,h,_⟩
 ·exact absurd h hk
 ·have h1:=gR Prod.fst h;have h2:=gR (fun x:Wd=>x.2.1) h;have h3:=gR (fun x:Wd=>x.2.2) h;exact ⟨h1,h2,h3⟩
theorem RB.next (hs:RB c tl s t) (hc:c.1 ≠ 9) (hk:s.w.kind ≠ 0):RB c tl (kT s) (kT t):=by
 rcases hs.split hc with ⟨h,_⟩ | ⟨_,_,h⟩
 ·exact absurd h hk
 ·have:=h s.o t.o;obtain ⟨a,e,o,b⟩:=s;obtain ⟨a',e',o',b'⟩:=t;obtain rfl:e=0:=hs.se;obtain rfl:e' = 0:=hs.te;exact this
theorem RB.is (hs:RB c tl s t) (hc:c.1 ≠ 9) (hk:s.w.kind ≠ 0) (T:List UInt8):JD t T=JD s T:=by
 obtain ⟨h1,h2,_⟩:=hs.at hc hk;unfold JD;rw [h1,h2,hs.se,hs.te]
theorem RC {s:Ps} (he:s.e=0) (T:List UInt8):(∃ o,qc s T=⟨s.ws,0,o,s.h⟩)∨(qc s T).e=51:=by
 obtain ⟨a,e,o,b⟩:=s;obtain rfl:e=0:=he;unfold qc Ag
 split
 ·split
  ·exact .inr rfl
  ·exact .inl ⟨_,rfl⟩
 ·split
  ·exact .inl ⟨_,rfl⟩
  ·exact .inl ⟨_,rfl⟩
theorem UJ {s:Ps} (h:¬ s.e=0):kT s=s:=aq h
theorem Pt (s:Ps) (T:List UInt8):Ct s T=if JD s T=true then kT (qc s T) else Ag s 51:=by
 unfold Ct ru;cases JD s T<;>rfl
end
structure Cl (c:Wd):Prop where
 k:c.1 ≠ 9
 t:c.2.1=[41]∨c.2.1=[125]∨c.2.1=[]
theorem Cl.ne {c:Wd} (h:Cl c) {T:List UInt8} (hT:T ≠ [41]∧T ≠ [125]∧T ≠ []):T ≠ c.2.1:=by
 rcases h.t with e | e | e<;>rw [e]
 ·exact hT.1
 ·exact hT.2.1
 ·exact hT.2.2
section
variable {c:Wd} {tl:List Wd} {s t:Ps}
theorem UI.no {α β:Type} {p:α × Ps} {f:α→Ps→β × Ps} {q:β × Ps} (h:¬ p.2.e=0) (hf:∀ x s,Dn s (f x s).2):UI c tl (Proofs.YtnfnbjjnjjdjdaaGreatDoor.wR p f) q:=UI.dead fun h0=>h ((hf p.1 p.2).zero h0)
variable {n:Nat} {E:EP}
end
section
variable {c:Wd} {tl:List Wd} {s t:Ps} {n:Nat} {E:EP}
theorem ab2 (E:EP) (m:Nat) (x:bh) (s:Ps):IJ E (m+1) x s=if ¬ s.e=0 then (x,s) else wR (ru s [46]) fun b s1=>if b=true then wR (GA s1) fun t s2=>IJ E m (.mk 9 t 0 eF [] [x]) s2
 else wR (ru s1 [91]) fun b s2=>if b=true then wR (E s2) fun y s3=>wR (ru s3 [58]) fun b s4=>if b=true then wR (E s4) fun z s5=>wR ((),Ct s5 [93]) fun _ s6=>IJ E m (.mk 11 [] 0 eF [] [x,y,z]) s6
  else wR ((),Ct s4 [93]) fun _ s5=>IJ E m (.mk 10 [] 0 eF [] [x,y]) s5 else (x,s2):=by
 conv=>lhs;unfold IJ
 split
 ·rfl
 unfold Proofs.YtnfnbjjnjjdjdaaGreatDoor.wR;rcases hg:ru s [46] with ⟨_ | _,s1⟩
 ·obtain rfl:=Ui hg;simp only [cS,iF];rcases hg2:ru s1 [91] with ⟨_ | _,s2⟩
  ·obtain rfl:=Ui hg2;rfl
  ·dsimp only;rcases E s2 with ⟨y,s3⟩;dsimp only;rcases ru s3 [58] with ⟨_ | _,s4⟩<;>rfl
 ·rfl
end
def ab3 (s:Ps):Prop:=∃ init:List Wd,s.ws.map strip=init++[(9,[],0)]∧∀ x∈init,x.1 ≠ 0∧x.1 ≠ 9
def Nn {α:Type} (p:α × Ps):Prop:=p.2.e=0→ab3 p.2
theorem Nn.pure {α:Type} {s:Ps} (h:ab3 s) (x:α):Nn (x,s):=fun _=>h
theorem Nn.wR {α β:Type} {p:α × Ps} {f:α→Ps→β × Ps} (h:Nn p) (hf:∀ x s,Dn s (f x s).2) (hk:∀ x s,ab3 s→Nn (f x s)):Nn (wR p f):=fun h0=>hk _ _ (h ((hf _ _).zero h0)) h0
variable {E:EP}
structure At (s:Ps) (l:List Wd):Prop where
 e:s.e=0
 ws:s.ws.map strip=l
theorem At.w {s:Ps} {x:Wd} {l:List Wd} (h:At s (x :: l)):strip s.w=x:=by
 obtain ⟨w,r,e1,e2,_⟩:=eP.1 h.ws;unfold Ps.w;rw [e1];exact e2
theorem At.kind {s:Ps} {x:Wd} {l:List Wd} (h:At s (x :: l)):s.w.kind=x.1∧s.w.text=x.2.1:=⟨gR Prod.fst h.w,gR (fun x:Wd=>x.2.1) h.w⟩
theorem At.next {s:Ps} {x y:Wd} {l:List Wd} (h:At s (x :: y :: l)) (hy:y.1 ≠ 9):At (kT s) (y :: l):=by
 obtain ⟨w,r,e1,e2,e3⟩:=eP.1 h.ws;obtain ⟨w2,r2,g1,g2,g3⟩:=eP.1 e3;obtain ⟨a,e,o,b⟩:=s;obtain rfl:e=0:=h.e;obtain rfl:a=w :: r:=e1;rw [BP (by rw [g1];intro h9;exact hy (by rw [← g2];exact h9))];exact ⟨rfl,e3⟩
theorem At.take {s:Ps} {x y:Wd} {l:List Wd} (h:At s (x :: y :: l)) (hy:y.1 ≠ 9) (T:List UInt8):At (kT (qc s T)) (y :: l)∨(kT (qc s T)).e=51:=by
 rcases RC h.e T with ⟨o,h1⟩ | h1
 ·rw [h1];exact .inl (At.next (s:=⟨s.ws,0,o,s.h⟩) ⟨rfl,h.ws⟩ hy)
 ·exact .inr (by rw [UJ ak];exact h1)
theorem At.is {s:Ps} {x:Wd} {l:List Wd} (h:At s (x :: l)) (T:List UInt8):JD s T=((decide (x.1=3) || decide (x.1=4)) && decide (x.2.1=T)):=by
 unfold JD;rw [h.e,h.kind.1,h.kind.2];simp
theorem UK (s:Ps):(kT s).h=s.h:=by
 unfold kT
 split
 ·split<;>rfl
 ·rfl
theorem Cl.ani {c:Wd} (hc:Cl c):jO c.2.1=0:=by
 rcases hc.t with e | e | e<;>rw [e]<;>decide
def Pu (T:List UInt8) (o:Int):Option Int:=if afi T=true then (if 100 < IntKind.i64.wrap (o+1) then none else some (IntKind.i64.wrap (o+1))) else if afj T=true then some (IntKind.i64.wrap (o - 1)) else some o
theorem UL {s:Ps} (he:s.e=0) {T:List UInt8} {o:Int} (ho:Pu T s.o=some o):qc s T=⟨s.ws,0,o,s.h⟩:=by
 obtain ⟨a,e,q,b⟩:=s;obtain rfl:e=0:=he;unfold Pu at ho;unfold qc
 split
 ·rename_i h;rw [aD h] at ho
  split
  ·rename_i h2;rw [aD h2] at ho;cases ho
  ·rename_i h2;rw [aq h2] at ho;cases ho;rfl
 ·rename_i h;rw [aq h] at ho
  split
  ·rename_i h2;rw [aD h2] at ho;cases ho;rfl
  ·rename_i h2;rw [aq h2] at ho;cases ho;rfl
structure SD (s:Ps) (l:List Wd) (o:Int):Prop where
 at':At s l
 h:s.h=false
 o:s.o=o
section
variable {s:Ps} {x y:Wd} {l:List Wd} {o:Int}
theorem SD.next (h:SD s (x :: y :: l) o) (hy:y.1 ≠ 9):SD (kT s) (y :: l) o:=by
 refine ⟨h.at'.next hy,by rw [UK,h.h],?_⟩;rw [← h.o];unfold kT
 split
 ·split<;>rfl
 ·rfl
theorem SD.yes (h:SD s (x :: y :: l) o) (hy:y.1 ≠ 9) {T:List UInt8} (hT:((decide (x.1=3) || decide (x.1=4)) && decide (x.2.1=T))=true) {o':Int} (ho:Pu T o=some o'):∃ s',ru s T=(true,s')∧Ct s T=s'∧SD s' (y :: l) o':=by
 have hi:JD s T=true:=by rw [h.at'.is];exact hT
 have hb:=UL h.at'.e (T:=T) (by rw [h.o];exact ho);refine ⟨kT (qc s T),?_,?_,?_⟩
 ·unfold ru;rw [aD hi]
 ·rw [Pt,aD hi]
 ·rw [hb];exact SD.next (s:=⟨s.ws,0,o',s.h⟩) ⟨⟨rfl,h.at'.ws⟩,h.h,rfl⟩ hy
theorem SD.no (h:SD s (x :: l) o) {T:List UInt8} (hT:((decide (x.1=3) || decide (x.1=4)) && decide (x.2.1=T))=false):ru s T=(false,s):=by
 unfold ru;rw [h.at'.is,hT];rfl
theorem SD.name {t:List UInt8} {i:Nat} (h:SD s ((1,t,i) :: y :: l) o) (hy:y.1 ≠ 9):∃ s',GA s=(t,s')∧SD s' (y :: l) o:=by
 refine ⟨kT s,?_,h.next hy⟩;unfold GA;rw [aD ⟨h.at'.e,h.at'.kind.1⟩,h.at'.kind.2]
end
def RD (c:Wd) (T:List UInt8):Bool:=(decide (c.1=3) || decide (c.1=4)) && decide (c.2.1=T)
structure Bf (s:Ps) (l:List Wd) (o:Int) (h:Bool):Prop where
 at':At s l
 o:s.o=o
 h:s.h=h
section
variable {s:Ps} {x y:Wd} {l:List Wd} {o:Int} {h:Bool}
theorem Bf.mu (b:Bf s l o h):mu s=l.length:=by
 rw [Di b.at'.e,← b.at'.ws,aS]
theorem Bf.next (b:Bf s (x :: y :: l) o h) (hy:y.1 ≠ 9):Bf (kT s) (y :: l) o h:=by
 refine ⟨b.at'.next hy,?_,by rw [UK,b.h]⟩;rw [← b.o];unfold kT
 split
 ·split<;>rfl
 ·rfl
theorem Bf.is (b:Bf s (x :: l) o h) (T:List UInt8):JD s T=RD x T:=b.at'.is T
theorem Bf.yes (b:Bf s (x :: y :: l) o h) (hy:y.1 ≠ 9) {T:List UInt8} (hT:RD x T=true) {o':Int} (ho:Pu T o=some o'):∃ s',ru s T=(true,s')∧Ct s T=s'∧Bf s' (y :: l) o' h:=by
 have hi:JD s T=true:=by rw [b.is];exact hT
 have hb:=UL b.at'.e (T:=T) (by rw [b.o];exact ho);refine ⟨kT (qc s T),?_,?_,?_⟩
 ·unfold ru;rw [aD hi]
 ·rw [Pt,aD hi]
 ·rw [hb];exact Bf.next (s:=⟨s.ws,0,o',s.h⟩) ⟨⟨rfl,b.at'.ws⟩,rfl,b.h⟩ hy
theorem Bf.no (b:Bf s (x :: l) o h) {T:List UInt8} (hT:RD x T=false):ru s T=(false,s):=by
 unfold ru;rw [b.is,hT];rfl
theorem Bf.name {t:List UInt8} {i:Nat} (b:Bf s ((1,t,i) :: y :: l) o h) (hy:y.1 ≠ 9):∃ s',GA s=(t,s')∧Bf s' (y :: l) o h:=by
 refine ⟨kT s,?_,b.next hy⟩;unfold GA;rw [aD ⟨b.at'.e,b.at'.kind.1⟩,b.at'.kind.2]
end
structure Fol (k:Nat) (h:Bool) (c:Wd):Prop where
 n9:c.1 ≠ 9
 dot:RD c [46]=false
 bra:RD c [91]=false
 par:RD c [40]=false
 cur:h=false→RD c [123]=false
 rk:c.1=3→jO c.2.1 < 6 - (k:Int)
theorem Fol.to {k j:Nat} {h:Bool} {c:Wd} (f:Fol k h c) (hj:j≤k):Fol j h c:=⟨f.n9,f.dot,f.bra,f.par,f.cur,fun h3=>by have:=f.rk h3;omega⟩
section
variable {E:EP} {n:Nat}
end
def afB (x:Wd):Bool:=RD x [116,114,117,101] || RD x [102,97,108,115,101] || RD x [108,101,110] || RD x [97,112,112,101,110,100] || (decide (x.1=4) && decide (1 < aal x.2.1))
section
variable {s:Ps} {x:Wd} {l tl:List Wd} {o:Int} {h:Bool} {E:EP} {n:Nat} {c:Wd}
theorem Bf.key (b:Bf s (x :: l) o h):afm s=afB x:=by
 unfold afm afB;rw [b.is,b.is,b.is,b.is,b.at'.kind.1,b.at'.kind.2]
end
section
variable {E:EP} {n:Nat} {s:Ps} {c:Wd} {tl:List Wd} {o:Int} {h:Bool}
theorem Bf.wK (b:Bf s (c :: tl) o h) (h1:RD c [46]=false) (h2:RD c [91]=false) (m:Nat) (y:bh):IJ E m y s=(y,s):=by
 cases m with
 | zero=>rfl
 | succ m =>
  rw [ab2,aq (by rw [b.at'.e];simp)];unfold wR;rw [b.no h1];dsimp only;rw [aq bH,b.no h2];rfl
end
inductive CU:Int→cL→Prop
 | var (d:Int) (n:List UInt8) (t:bJ):d≤60→aY n=true→UG t→CU d (.mk 1 [n] t [] [] [] [] [])
 | set (d:Int) (ls es:List bh):d≤60→ls ≠ []→es ≠ []→(∀ x∈ls,fY x=true)→(∀ x∈ls,rF (d+1) x)→(∀ x∈es,rF (d+1) x)→CU d (.mk 2 [] eF ls es [] [] [])
 | iff (d:Int) (x:bh) (b e:List cL):d≤60→rF (d+1) x→oM x=true→(∀ y∈b,CU (d+1) y)→(∀ y∈e,CU (d+1) y)→CU d (.mk 3 [] eF [] [x] b e [])
 | fro (d:Int) (x:bh) (b:List cL):d≤60→rF (d+1) x→oM x=true→(∀ y∈b,CU (d+1) y)→CU d (.mk 4 [] eF [] [x] b [] [])
 | swi (d:Int) (x:bh) (e:List cL) (cs:List iB):d≤60→rF (d+1) x→oM x=true→(∀ y∈e,CU (d+1) y)→(∀ c∈cs,0≤c.int∧c.int≤18446744073709551615)→(∀ c∈cs,∀ y∈c.body,CU (d+2) y)→CU d (.mk 5 [] eF [] [x] [] e cs)
 | ret (d:Int) (es:List bh):d≤60→es ≠ []→(∀ x∈es,rF (d+1) x)→CU d (.mk 6 [] eF [] es [] [] [])
section
variable {E:EP} {n:Nat}
end
section
variable {E:EP} {S:SP} {n:Nat}
theorem Bf.num {s:Ps} {t:List UInt8} {i:Nat} {y:Wd} {l:List Wd} {o:Int} {h:Bool} (b:Bf s ((2,t,i) :: y :: l) o h) (hy:y.1 ≠ 9):∃ s',afk s=((i:Int),s')∧Bf s' (y :: l) o h:=by
 refine ⟨kT s,?_,b.next hy⟩;unfold afk;rw [aD ⟨b.at'.e,b.at'.kind.1⟩,show s.w.int=i from gR (fun x:Wd=>x.2.2) b.at'.w]
end
def ab4 (p:ep):Prop:=aY p.name=true∧UG p.type
def ajl (s:eZ):Prop:=aY s.name=true∧∀ f∈s.fields,ab4 f
def ajm (f:fL):Prop:=aY f.name=true∧(∀ p∈f.params,ab4 p)∧f.results ≠ []∧(∀ t∈f.results,UG t)∧∀ s∈f.body,CU 0 s
def ajn (p:rU):Prop:=(∀ s∈p.structs,ajl s)∧∀ f∈p.funcs,ajm f
mutual
def wT:cL→Prop
 | .mk _ _ _ ls es b e cs=>vK ls∧vK es∧pQ b∧pQ e∧Aq cs
def pQ:List cL→Prop
 | []=>True
 | x :: l=>wT x∧pQ l
def Aq:List iB→Prop
 | []=>True
 | .mk i b :: l=>(0≤i∧i≤18446744073709551615)∧pQ b∧Aq l
end
def GH (p:rU):Prop:=∀ f∈p.funcs,pQ f.body
theorem Eu (x:cL) (l:List cL):pQ (x :: l)=(wT x∧pQ l):=by rw [pQ]
theorem Ev (i:Int) (b:List cL) (l:List iB):Aq (.mk i b :: l)=((0≤i∧i≤18446744073709551615)∧pQ b∧Aq l):=by rw [Aq]
theorem nH:∀ {l:List cL},pQ l→∀ x∈l,wT x
 | y :: l,h,x,hx=>by
  rw [Eu] at h;rcases bB.1 hx with e | hx
  ·rw [e];exact h.1
  ·exact nH h.2 x hx
theorem xJ:∀ {l:List iB},Aq l→∀ c∈l,(0≤c.int∧c.int≤18446744073709551615)∧pQ c.body
 | .mk i b :: l,h,c,hc=>by
  rw [Ev] at h;rcases bB.1 hc with e | hc
  ·rw [e];exact ⟨h.1,h.2.1⟩
  ·exact xJ h.2.2 c hc
theorem Lc {l:List bh} {d p:Int} (h:(lD l d p).1=true) (hn:vK l):∀ x∈l,rF d x:=Et l d p (cY (f:=fun p=>kC l d p) h).1 hn
theorem RE {d p:Int} (h:(fT d p).1=true):d≤60:=by
 have h':eJ d p=true:=h;unfold eJ at h';rw [aF,bz,bz] at h';exact h'.2
def ajo:List (List UInt8)→Bool
 | [x]=>aY x
 | _=>false
def ajp:List bh→Bool
 | [x]=>decide (x.kind=7)
 | _=>false
def ab5:List bh→Bool
 | [x]=>oM x
 | _=>false
theorem UM (k:Int) (ns:List (List UInt8)) (ty:bJ) (ls es:List bh) (b e:List cL) (cs:List iB):kY (.mk k ns ty ls es b e cs)=(if k=1 then decide (es.length=0) && ajo ns && decide (ls=[]) && decide (b.length=0) && decide (e.length=0) && decide (cs.length=0)
 else if k=2 then decide (0 < ls.length) && (decide (es.length=ls.length) || ajp es) && ls.all fY && (decide (ns=[]) && jn ty) && decide (b.length=0) && decide (e.length=0) && decide (cs.length=0)
 else if k=3 then (decide (ns=[]) && jn ty) && decide (ls=[]) && ab5 es && decide (cs.length=0)
 else if k=4 then (decide (ns=[]) && jn ty) && decide (ls=[]) && ab5 es && decide (e.length=0) && decide (cs.length=0)
 else if k=5 then (decide (ns=[]) && jn ty) && decide (ls=[]) && ab5 es && decide (b.length=0)
 else if k=6 then (decide (ns=[]) && jn ty) && decide (ls=[]) && decide (0 < es.length) && decide (b.length=0) && decide (e.length=0) && decide (cs.length=0)
 else false):=rfl
theorem Dk:∀ (n:Nat) (x:cL) (d p:Int),(nC n x d p).1=true→wT x→CU d x
 | 0,_,_,_,h,_=>by cases h
 | n+1,.mk k ns ty ls es b e cs,d,p,h,hn=>by
  obtain ⟨hp,h⟩:=cY (f:=fT d) h;obtain ⟨hz,h⟩:=cY h;obtain ⟨ht,h⟩:=cY h;obtain ⟨hc,h⟩:=cY h;obtain ⟨hl,h⟩:=cY h;obtain ⟨hx,h⟩:=cY h;obtain ⟨hb,he⟩:=cY h;have hd:=RE hp;unfold wT at hn;obtain ⟨n1,n2,n3,n4,n5⟩:=hn;have gl:=Lc hl n1;have gx:=Lc hx n2
  have gb:∀ y∈b,CU (d+1) y:=fun y hy=>by
   obtain ⟨q,hq⟩:=me (f:=fun x=>nC n x (d+1)) _ _ hb y hy;exact Dk n y _ q hq (nH n3 y hy)
  have ge:∀ y∈e,CU (d+1) y:=fun y hy=>by
   obtain ⟨q,hq⟩:=me (f:=fun x=>nC n x (d+1)) _ _ he y hy;exact Dk n y _ q hq (nH n4 y hy)
  have gc:∀ c∈cs,∀ y∈c.body,CU (d+2) y:=fun c DD y hy=>by
   obtain ⟨q,hq⟩:=Ee _ _ _ hc c DD y hy;exact Dk n y _ q hq (nH (xJ n5 c DD).2 y hy)
  have hi:∀ c∈cs,0≤c.int∧c.int≤18446744073709551615:=fun c DD=>(xJ n5 c DD).1;have hz0:(kY (.mk k ns ty ls es b e cs) && decide (cs.length≤40))=true:=hz;rw [aF] at hz0;have Bn:=hz0.1;rw [UM] at Bn
  by_cases k1:k=1
  ·subst k1;rw [aD rfl] at Bn;simp only [aF,aZ] at Bn;obtain ⟨⟨⟨⟨⟨h1,h2⟩,h3⟩,h4⟩,h5⟩,h6⟩:=Bn;obtain rfl:=aM h1;obtain rfl:=h3;obtain rfl:=aM h4;obtain rfl:=aM h5;obtain rfl:=aM h6
   have nX:UG ty:=by
    rw [aD (show (cL.mk 1 ns ty [] [] [] [] []).kind=1 from rfl)] at ht;exact vg ty _ _ ht
   match ns,h2 with
   | [m],h2=>exact .var d m ty hd h2 nX
   | [],h2=>cases h2
   | _ :: _ :: _,h2=>cases h2
  rw [aq k1] at Bn
  by_cases k2:k=2
  ·subst k2;rw [aD rfl] at Bn;simp only [aF,aZ,cC] at Bn;obtain ⟨⟨⟨⟨⟨⟨h1,h2⟩,h3⟩,h4,h5⟩,h6⟩,h7⟩,h8⟩:=Bn;obtain rfl:=h4;obtain rfl:=uI h5;obtain rfl:=aM h6;obtain rfl:=aM h7;obtain rfl:=aM h8;have Co:ls ≠ []:=by rintro rfl;exact absurd h1 bH
   have Bg:es ≠ []:=by
    rintro rfl;rw [lg,aZ] at h2;rcases h2 with h2 | h2
    ·have h2:0=ls.length:=h2;omega
    ·cases h2
   exact .set d ls es hd Co Bg h3 gl gx
  rw [aq k2] at Bn
  by_cases k3:k=3
  ·subst k3;rw [aD rfl] at Bn;simp only [aF,aZ] at Bn;obtain ⟨⟨⟨⟨h1,h2⟩,h3⟩,h4⟩,h5⟩:=Bn;obtain rfl:=h1;obtain rfl:=uI h2;obtain rfl:=h3;obtain rfl:=aM h5
   match es,h4,gx with
   | [x],h4,gx=>exact .iff d x b e hd (gx x aI) h4 gb ge
   | [],h4,_=>cases h4
   | _ :: _ :: _,h4,_=>cases h4
  rw [aq k3] at Bn
  by_cases k4:k=4
  ·subst k4;rw [aD rfl] at Bn;simp only [aF,aZ] at Bn;obtain ⟨⟨⟨⟨⟨h1,h2⟩,h3⟩,h4⟩,h6⟩,h5⟩:=Bn;obtain rfl:=h1;obtain rfl:=uI h2;obtain rfl:=h3;obtain rfl:=aM h5;obtain rfl:=aM h6
   match es,h4,gx with
   | [x],h4,gx=>exact .fro d x b hd (gx x aI) h4 gb
   | [],h4,_=>cases h4
   | _ :: _ :: _,h4,_=>cases h4
  rw [aq k4] at Bn
  by_cases k5:k=5
  ·subst k5;rw [aD rfl] at Bn;simp only [aF,aZ] at Bn;obtain ⟨⟨⟨⟨h1,h2⟩,h3⟩,h4⟩,h5⟩:=Bn;obtain rfl:=h1;obtain rfl:=uI h2;obtain rfl:=h3;obtain rfl:=aM h5
   match es,h4,gx with
   | [x],h4,gx=>exact .swi d x e cs hd (gx x aI) h4 ge hi gc
   | [],h4,_=>cases h4
   | _ :: _ :: _,h4,_=>cases h4
  rw [aq k5] at Bn
  by_cases k6:k=6
  ·subst k6;rw [aD rfl] at Bn;simp only [aF,aZ] at Bn;obtain ⟨⟨⟨⟨⟨⟨h1,h2⟩,h3⟩,h4⟩,h5⟩,h6⟩,h7⟩:=Bn;obtain rfl:=h1;obtain rfl:=uI h2;obtain rfl:=h3;obtain rfl:=aM h5;obtain rfl:=aM h6;obtain rfl:=aM h7;exact .ret d es hd (by rintro rfl;exact absurd h4 bH) gx
  rw [aq k6] at Bn;cases Bn
theorem NR {mC:Nat} {l:List ep} {p:Int} (h:(Mk mC l p).1=true):∀ x∈l,ab4 x:=by
 obtain ⟨h1,h2⟩:=cY (f:=jG (fun x:ep=>dR (fT 0) (fun p=>jM aY x.type 0 p)) l) h;have h2:(decide (l.length≤mC) && jN l.length (l.map ep.name))=true:=h2;rw [aF] at h2;have hn:=Cv (l:=l.map ep.name) (by rw [aS];exact h2.2);intro x hx;obtain ⟨q,hq⟩:=me (f:=fun x:ep=>dR (fT 0) (fun p=>jM aY x.type 0 p)) _ _ h1 x hx;obtain ⟨_,hq⟩:=cY (f:=fT 0) hq;exact ⟨hn _ (List.mem_map_of_mem hx),vg x.type 0 _ hq⟩
theorem Pv {n:Nat} {x:rU} {p:Int} (h:(KS n x p).1=true) (hn:GH x):ajn x:=by
 obtain ⟨h1,h2⟩:=cY (f:=jG Ml x.structs) h;refine ⟨fun s hs=>?_,fun f hf=>?_⟩
 ·obtain ⟨q,hq⟩:=me (f:=Ml) _ _ h1 s hs;obtain ⟨_,hq⟩:=cY (f:=fT 0) hq;obtain ⟨h3,hq⟩:=cY (f:=gu (aY s.name)) hq;exact ⟨h3,NR hq⟩
 ·obtain ⟨q,hq⟩:=me (f:=KR n) _ _ h2 f hf;obtain ⟨_,hq⟩:=cY (f:=fT 0) hq;obtain ⟨h3,hq⟩:=cY (f:=gu (aY f.name)) hq;obtain ⟨h4,hq⟩:=cY (f:=Mk 20 f.params) hq;obtain ⟨h5,hq⟩:=cY hq;obtain ⟨h6,h7⟩:=cY hq;have h5:(decide (1≤f.results.length) && decide (f.results.length≤20))=true:=h5;rw [aF,aZ,aZ] at h5;refine ⟨h3,NR h4,?_,fun t ht=>?_,fun s hs=>?_⟩
  ·intro e;rw [e] at h5;exact absurd h5.1 bH
  ·obtain ⟨q,hq⟩:=me (f:=fun t p=>jM aY t 0 p) _ _ h6 t ht;exact vg t 0 _ hq
  ·obtain ⟨q,hq⟩:=me (f:=fun s=>nC n s 0) _ _ h7 s hs;exact Dk n s 0 q hq (nH (hn f hf) s hs)
end Go.Proofs.YtnfnbjjnjjdjdaaGreatDoor
namespace Go.Proofs.YtnfnbjjnjjdjdaaGreatDoor
open _root_.Go.Proofs.Tryz
open Go.RowKit Go.Av Go.Ab
def NS:=KB func174 18
def Ld:=KB func177 25
def CV:=KB func116 20
def b99:=KB func99 17
theorem aav (s:List UInt8) (l:List (List UInt8)) (B:bQ) (T:eg):cy prog bI 174 [.d (.str s),.d (.sl (gN l))] ⟨B,T⟩ (cF (.d (.bool (l.contains s))) ⟨B,T⟩):=by
 refine NS.1.go 40 rfl fun cG=>?_;simp only [fH] at cG;simp only [W,seval,NS];refine az.dL (fun i:Nat=>(cN 18 [(0,.d (.str s)),(1,.d (.sl (gN l))),(5,.d (.int .i64 (i:Int)))],⟨B,T⟩)) (fun i=>i≤l.length∧(l.drop i).contains s=l.contains s) (fun i=>l.length - i) 0 ⟨ak,rfl⟩ cx rfl ?_;rintro i ⟨h1,h2⟩ ih;dsimp only at h1 h2 ih ⊢
 by_cases bu:i < l.length
 ·have hw:=bE ((i:Int)+1) ak;have hg:=au bu;rw [fj bu,mF] at h2;have dY:decide ((i:Int) < (l.length:Int))=true:=ah ak;cases hb:decide (l[i]=s)
  ·have vG:(s == l[i])=false:=cB.2 fun e=>dJ hb e.symm;rw [vG,eN] at h2;refine goN ?_;simp only [W,seval,NS,hg,dY,hw,hb];exact ih (i+1) ⟨ak,h2⟩ ak _ _ cx rfl
  ·have vG:(s == l[i])=true:=iK.2 (bV hb).symm;rw [vG,gq] at h2;refine goN ?_;simp only [W,seval,NS,hg,dY,hw,hb];refine bN NS (Left.none ?_);rw [← h2];exact ⟨rfl,rfl⟩
 ·have dY:decide ((i:Int) < (l.length:Int))=false:=af ak;rw [ay ak] at h2;refine goN ?_;simp only [W,seval,NS,dY];refine bN NS (Left.none ?_);rw [← h2];exact ⟨rfl,rfl⟩
theorem Dl (rows:List (List D)) (tk:Tok) (l:List V):List.mapM uw (.sl rows tk :: l)=(List.mapM uw l).map (.sl rows :: ·):=by
 rw [gQ];show (some (D.sl rows)).bind _=_;rw [dg];cases List.mapM uw l<;>rfl
def qG:List (List (List UInt8)):=[[[124,124]],[[38,38]],[[61,61],[33,61],[60],[60,61],[62],[62,61]],[[43],[45],[124],[94]],[[42],[47],[37],[60,60],[62,62],[38]]]
def Cw (s:List UInt8):List (List (List UInt8))→Nat→Int
 | [],_=>0
 | l :: ls,i=>if l.contains s=true then ((i+1:Nat):Int) else Cw s ls (i+1)
theorem UN (s:List UInt8):Cw s qG 0=jO s:=by
 rcases IG s with ⟨x,hx,rfl⟩ | h
 ·have:∀ x∈yA,Cw x.1 qG 0=jO x.1:=bH;exact this x hx
 ·have h2:jO s=0:=IM s fun x hx e=>by simpa [e] using h x hx
  rw [h2];simp only [yA,bB,aT,sK,forall_eq_or_imp,forall_eq,cB] at h;simp [Cw,qG,h]
def slD (ls:List (List (List UInt8))):List (List D):=ls.map fun l=>[.sl (gN l)]
theorem wU (s:List UInt8) (B:bQ) (T:eg):cy prog bI 177 [.d (.str s)] ⟨B,T⟩ (cF (.d (.int .i64 (jO s))) ⟨B,T⟩):=by
 rw [← UN];refine gL Ld fun cG=>?_;simp only [fH] at cG;simp only [W,seval,Ld,bL,bC,Dl,Nat.reduceMul];refine az.dL (fun i:Nat=>(cN 25 [(0,.d (.str s)),(3,.sl (slD qG) .full),(4,.d (.int .i64 (i:Int)))],⟨B,T⟩)) (fun i=>i≤5∧Cw s (qG.drop i) i=Cw s qG 0) (fun i=>5 - i) 0 ⟨ak,rfl⟩ cx rfl ?_;rintro i ⟨h1,h2⟩ ih;dsimp only at h1 h2 ih ⊢;have hlen:(slD qG).length=5:=rfl
 by_cases hi:i < 5
 ·have hd:decide ((i:Int) < 5)=true:=ah ak;have hw:=bE ((i:Int)+1) ak;obtain ⟨l,hl⟩:∃ l,qG[i]? = some l:=⟨_,au (show i < qG.length from hi)⟩;have hg:(slD qG)[i]? = some [.sl (gN l)]:=by simp [slD,hl]
  have JN:qG.drop i=l :: qG.drop (i+1):=by
   obtain ⟨h3,h4⟩:=ai.1 hl;rw [← h4];exact fj h3
  rw [JN,Cw] at h2;refine az.go 40 ?_;simp only [W,seval,Ld,hlen,hd,hg];refine aX (aav s l _ _) ?_;cases hc:l.contains s
  ·rw [hc,aq dM] at h2;refine goN ?_;simp only [W,seval,Ld,hw];exact ih (i+1) ⟨ak,h2⟩ ak _ _ cx rfl
  ·rw [hc,aD rfl] at h2;refine goN ?_;simp only [W,seval,Ld,hw];refine bN Ld (Left.none ?_);rw [← h2];exact ⟨rfl,rfl⟩
 ·have h8:i=5:=ak;subst h8;have h3:(0:Int)=Cw s qG 0:=h2;refine goN ?_;simp only [W,seval,Ld,hlen];refine bN Ld (Left.none ?_);rw [← h3];exact ⟨rfl,rfl⟩
def cj (a b:Int):Int:=if a < 0∨b < 0∨60000 < a+b then -1 else a+b
theorem jQ (a b:Int) (ha:a≤60000) (hb:b≤60000) (B:bQ) (T:eg):cy prog bI 116 [.d (.int .i64 a),.d (.int .i64 b)] ⟨B,T⟩ (cF (.d (.int .i64 (cj a b))) ⟨B,T⟩):=by
 unfold cj
 by_cases h1:a < 0
 ·have e1:=ah h1;rw [aD (.inl h1)];refine gL CV fun cG=>?_;simp only [fH] at cG;simp only [W,seval,CV,e1];refine bN CV (Left.none ?_);exact ⟨rfl,rfl⟩
 have e1:=af h1
 by_cases h2:b < 0
 ·have e2:=ah h2;rw [aD (.inr (.inl h2))];refine gL CV fun cG=>?_;simp only [fH] at cG;simp only [W,seval,CV,e1,e2];refine bN CV (Left.none ?_);exact ⟨rfl,rfl⟩
 have e2:=af h2;have hw:=bE (a+b) ak
 by_cases h3:60000 < a+b
 ·have e3:=ah h3;rw [aD (.inr (.inr h3))];refine gL CV fun cG=>?_;simp only [fH] at cG;simp only [W,seval,CV,e1,e2,hw,e3];refine bN CV (Left.none ?_);exact ⟨rfl,rfl⟩
 have e3:=af h3;rw [aq ak];refine gL CV fun cG=>?_;simp only [fH] at cG;simp only [W,seval,CV,e1,e2,hw,e3];refine bN CV (Left.none ?_);exact ⟨rfl,rfl⟩
theorem IS (t:bJ) (B:bQ) (T:eg):cy prog bI 99 [cH t] ⟨B,T⟩ (cF (.d (.bool (jn t))) ⟨B,T⟩):=by
 obtain ⟨N,hn⟩:=aV B.length;unfold cH jn
 have Cy:decide ((t.elem.length:Int)=0)=decide (t.elem.length=0):=by
  rw [cM];omega
 cases e1:decide (t.kind=0)<;>cases e2:decide (t.name=[])
 all_goals
  refine gL b99 fun cG=>?_;simp only [fH] at cG;simp only [W,seval,b99,hn,e1,e2,Cy];refine bN b99 (Left.box ?_)
  first | exact ⟨rfl,rfl⟩ | (refine ⟨?_,rfl⟩;simp_all)
end Go.Proofs.YtnfnbjjnjjdjdaaGreatDoor
namespace Go.Proofs.YtnfnbjjnjjdjdaaGreatDoor
open _root_.Go.Proofs.Tryz
open Go.RowKit Go.Av
def kK {α:Type} (nm:α→List UInt8):List α→List UInt8→Option α
 | [],_=>none
 | x :: l,n=>if nm x=n then some x else kK nm l n
def iQ (k:Int):Int:=if k=2 then 255 else if k=3 then 2147483647 else if k=4 then 9223372036854775807 else if k=5 then 4294967295 else if k=6 then 18446744073709551615 else 0
def jz (k:Int):Bool:=decide (2≤k) && decide (k≤6)
theorem UO (k:Int):jz k=decide (0 < iQ k):=by
 unfold jz iQ
 repeat' split
 all_goals (rename_i h;first | (subst h;decide) | skip)
 rw [dQ];simp;omega
def cZ:bJ:=.mk 1 [] []
def dh:bJ:=.mk 4 [] []
def SE:bJ:=.mk 6 [] []
structure fm where
 su:List eZ
 fu:List fL
 vs:List ep
def dH (su:List eZ):bJ→Bool
 | .mk k n es=>if k=8 then (match es with
  | e :: _=>dH su e
  | []=>false) else decide (k ≠ 7) || (kK eZ.name su n).isSome
def ku (su:List eZ) (fu:List fL) (s:List UInt8):Bool:=(kK eZ.name su s).isNone && (kK fL.name fu s).isNone && !(s == [95])
def kL:bh→Bool
 | .mk k _ _ _ _ ks=>decide (k=2) || decide (k=5) && (match ks with
  | y :: _=>decide (y.kind=2)
  | []=>false)
def setType:bh→bJ→bh
 | .mk k t i _ ns ks,ty=>.mk k t i ty ns ks
def bg:bh→List bh→bh
 | .mk k t i ty ns _,ks=>.mk k t i ty ns ks
def lO (su:List eZ) (t:bJ) (n:List UInt8):Option bJ :=
 if t.kind=7 then (match kK eZ.name su t.name with
  | some s=>(kK ep.name s.fields n).map ep.type
  | none=>none) else none
def ja (t:bJ):Option bJ:=if t.kind=8 then t.elem.head? else none
def oC (x:bh) (want:bJ):Option (bh × bJ) :=
 if x.kind=5 then (match x.kids with
  | y :: ks=>if (want.kind=3∨want.kind=4)∧y.int≤iQ want.kind+1 then some (bg x (setType y want :: ks),want) else none
  | []=>none)
 else if iQ want.kind=0∨iQ want.kind < x.int then none else some (setType x want,want)
def dz (r:Option (bh × bJ)) (t:bJ):Option bh :=
 match r with
 | some (y,u)=>if rq u t=true then some y else none
 | none=>none
def pR (fa fb:bJ→Option (bh × bJ)) (la:Bool) (w:bJ):Option (bh × bh × bJ) :=
 if la=true then (match fb w with
  | some (b,t)=>(dz (fa t) t).map fun a=>(a,b,t)
  | none=>none)
 else (match fa w with
  | some (a,t)=>(dz (fb t) t).map fun b=>(a,b,t)
  | none=>none)
def sX (t:List UInt8):Bool:=t == [38,38] || t == [124,124]
def shift (t:List UInt8):Bool:=t == [60,60] || t == [62,62]
def alike (t:List UInt8):Bool:=t == [61,61] || t == [33,61]
def order (t:List UInt8):Bool:=t == [60] || t == [60,61] || t == [62] || t == [62,61]
def vh (fa fb:bJ→Option (bh × bJ)) (la:Bool) (tx:List UInt8) (want:bJ):Option (bh × bh × bJ) :=
 if sX tx=true then (match dz (fa cZ) cZ,dz (fb cZ) cZ with
  | some a,some b=>some (a,b,cZ)
  | _,_=>none)
 else if shift tx=true then (match fa want with
  | some (a,t)=>if jz t.kind=true then (dz (fb SE) SE).map fun b=>(a,b,t) else none
  | none=>none)
 else if alike tx=true then (match pR fa fb la eF with
  | some (a,b,t)=>if jz t.kind=true∨t.kind=1 then some (a,b,cZ) else none
  | none=>none)
 else if order tx=true then (match pR fa fb la eF with
  | some (a,b,t)=>if jz t.kind=true then some (a,b,cZ) else none
  | none=>none)
 else (match pR fa fb la want with
  | some (a,b,t)=>if jz t.kind=true then some (a,b,t) else none
  | none=>none)
def Cz (f:Option fL) (al:List bJ→Option (List bh)):Option (List bh × List bJ) :=
 match f with
 | some f=>(al (f.params.map ep.type)).map fun ks=>(ks,f.results)
 | none=>none
mutual
def bP (E:fm):bh→bJ→Option (bh × bJ)
 | .mk k tx i ty ns ks,want =>
  if k=3 then some (.mk k tx i ty ns ks,cZ)
  else if k=1 then (kK ep.name E.vs tx).map fun p=>(.mk k tx i ty ns ks,p.type)
  else if k=6 then (match ks with
   | [a,b]=>(vh (bP E a) (bP E b) (kL a) tx want).map fun r=>(.mk k tx i ty ns [r.1,r.2.1],r.2.2)
   | _=>none)
  else if k=7 then (match Cz (kK fL.name E.fu tx) (dI E ks) with
   | some (l,[t])=>some (.mk k tx i ty ns l,t)
   | _=>none)
  else if k=9 then (match ks with
   | [a]=>(match bP E a eF with
    | some (a,t)=>(lO E.su t tx).map fun f=>(.mk k tx i ty ns [a],f)
    | none=>none)
   | _=>none)
  else if k=12 then (match ks with
   | [a]=>(match bP E a eF with
    | some (a,t)=>(ja t).map fun _=>(.mk k tx i ty ns [a],dh)
    | none=>none)
   | _=>none)
  else if k=10 then (match ks with
   | [a,b]=>(match bP E a eF with
    | some (a,t)=>(ja t).bind fun e=>(dz (bP E b dh) dh).map fun b=>(.mk k tx i ty ns [a,b],e)
    | none=>none)
   | _=>none)
  else if k=11 then (match ks with
   | [a,b,c]=>(match bP E a eF with
    | some (a,t)=>(ja t).bind fun _=>(dz (bP E b dh) dh).bind fun b=>(dz (bP E c dh) dh).map fun c=>(.mk k tx i ty ns [a,b,c],t)
    | none=>none)
   | _=>none)
  else if k=13 then (match ks with
   | [a,b]=>(match bP E a want with
    | some (a,t)=>(ja t).bind fun e=>(dz (bP E b e) e).map fun b=>(.mk k tx i ty ns [a,b],t)
    | none=>none)
   | _=>none)
  else if k=14 then (if dH E.su ty=true then ((ns.mapM (lO E.su ty)).bind (dI E ks)).map fun l=>(.mk k tx i ty ns l,ty) else none)
  else if k=15 then (if dH E.su ty=true then ((ja ty).bind fun e=>dI E ks (List.replicate ks.length e)).map fun l=>(.mk k tx i ty ns l,ty) else none)
  else if kL (.mk k tx i ty ns ks)=true then oC (.mk k tx i ty ns ks) want
  else if k=4 then (match ks with
   | [a]=>(dz (bP E a cZ) cZ).map fun a=>(.mk k tx i ty ns [a],cZ)
   | _=>none)
  else if k=5 then (match ks with
   | [a]=>(match bP E a want with
    | some (a,t)=>if jz t.kind=true then some (.mk k tx i ty ns [a],t) else none
    | none=>none)
   | _=>none)
  else (match ks with
   | [a]=>if kL a=true then (dz (bP E a ty) ty).map fun a=>(.mk k tx i ty ns [a],ty)
    else (match bP E a eF with
     | some (a,t)=>if jz t.kind=true then some (.mk k tx i ty ns [a],ty) else none
     | none=>none)
   | _=>none)
def dI (E:fm):List bh→List bJ→Option (List bh)
 | [],[]=>some []
 | x :: l,t :: ts=>(match dz (bP E x t) t with
  | some y=>(dI E l ts).map fun l=>y :: l
  | none=>none)
 | _,_=>none
end
def qf (E:fm) (x:bh):Option (bh × List bJ):=(Cz (kK fL.name E.fu x.text) (dI E x.kids)).map fun r=>(bg x r.1,r.2)
def iJ (E:fm) (l:List bh) (ts:List bJ):Option (List bh) :=
 match l with
 | [x]=>if 1 < ts.length∧x.kind=7 then (match qf E x with
  | some (y,rs)=>if ir rs ts=true then some [y] else none
  | none=>none)
  else dI E l ts
 | l=>dI E l ts
def oN (E:fm):List bh→Option (List bJ)
 | []=>some []
 | x :: l=>match bP E x eF with
  | some (_,t)=>(oN E l).map fun ts=>t :: ts
  | none=>none
mutual
def jb (su:List eZ) (fu:List fL) (res:List bJ):cL→List ep→Option (cL × List ep)
 | .mk k ns ty ls es b e cs,vs =>
  if k=1 then (match ns with
   | n :: _=>if (kK ep.name vs n).isNone=true∧ku su fu n=true∧dH su ty=true then some (.mk k ns ty ls es b e cs,vs++[⟨n,ty⟩]) else none
   | []=>none)
  else if k=2 then (match oN ⟨su,fu,vs⟩ ls with
   | some ts=>(iJ ⟨su,fu,vs⟩ es ts).map fun es=>(.mk k ns ty ls es b e cs,vs)
   | none=>none)
  else if k=6 then (iJ ⟨su,fu,vs⟩ es res).map fun es=>(.mk k ns ty ls es b e cs,vs)
  else (match es with
   | [x]=>if k=5 then (match bP ⟨su,fu,vs⟩ x eF with
    | some (x,t)=>if jz t.kind=true then (match jv su fu res (iQ t.kind) cs vs with
     | some cs=>(eD su fu res e vs).map fun e=>(.mk k ns ty ls [x] b e cs,vs)
     | none=>none) else none
    | none=>none)
    else (match dz (bP ⟨su,fu,vs⟩ x cZ) cZ with
     | some x=>(match eD su fu res b vs with
      | some b=>(eD su fu res e vs).map fun e=>(.mk k ns ty ls [x] b e cs,vs)
      | none=>none)
     | none=>none)
   | _=>none)
def eD (su:List eZ) (fu:List fL) (res:List bJ):List cL→List ep→Option (List cL)
 | [],_=>some []
 | s :: l,vs=>(match jb su fu res s vs with
  | some (s,vs)=>(eD su fu res l vs).map fun l=>s :: l
  | none=>none)
def jv (su:List eZ) (fu:List fL) (res:List bJ) (top:Int):List iB→List ep→Option (List iB)
 | [],_=>some []
 | .mk i b :: l,vs=>if top < i then none else (match eD su fu res b vs with
  | some b=>(jv su fu res top l vs).map fun l=>.mk i b :: l
  | none=>none)
end
mutual
def Ar:cL→Bool
 | .mk k _ _ _ _ b e cs=>decide (k=6) || (gY e && (decide (k=5) || decide (k=3) && gY b) && lU cs)
def gY:List cL→Bool
 | []=>false
 | s :: l=>(match l with
  | []=>Ar s
  | _ :: _=>gY l)
def lU:List iB→Bool
 | []=>true
 | .mk _ b :: l=>gY b && lU l
end
end Go.Proofs.YtnfnbjjnjjdjdaaGreatDoor
