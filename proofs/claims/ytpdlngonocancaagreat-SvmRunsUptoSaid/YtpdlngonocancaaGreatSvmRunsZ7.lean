import Derived.Test.YtpdlngonocancaaGreatSvmRunsZ6
import Derived.Deep.Cut
import Derived.Deep.CutRange
import Derived.Deep.CutBlock
import Derived.Test.YtpdlngonocancaaGreatSvmRunsZ4
import Derived.Test.YtpdlngonocancaaGreatSvmRunsZ5
import Derived.Test.YtpdlngonocancaaGreatSvmRunsZ3
import Derived.Laws.CopyRow
import Derived.Laws.IdiomCopy
set_option linter.unusedVariables false
set_option linter.unusedSimpArgs false
set_option maxRecDepth 100000
set_option maxHeartbeats 20000000
namespace Go.Proofs.YtpdlngonocancaaGreat
open Go.RowKit
theorem NJ {w0 w:World}{o:Col}{M b:Nat}{P:ay}{m:aH}{v:eG}{F s k:Nat}(h:gF w0 w o M b P m v)(hM:1≤M)(hP:tX P)(hf:iM P)(hm:lH P F s m)(hs:s≤1000000000)(hL:Bo P m)(hk:k < P.parts.length) :
  Calls Tryz.prog 88 #[.pointer (some ⟨b,0,none⟩),.int .i64 k] w (rU w0 w o M b P (if m.hand.length≠kU (partAt P k) then (4,[],m) else
   if (jh (partAt P k).tag (partAt P k).params (bB m k).1 (bB m k).2 (dX (bT (partAt P k).tag (partAt P k).params) m.hand)).err≠0 then (3,[],m) else (0,[],{ m with
    hand:=(jh (partAt P k).tag (partAt P k).params (bB m k).1 (bB m k).2 (dX (bT (partAt P k).tag (partAt P k).params) m.hand)).outs.flatten
    bH:=m.bH.set k ((jh (partAt P k).tag (partAt P k).params (bB m k).1 (bB m k).2 (dX (bT (partAt P k).tag (partAt P k).params) m.hand)).keep,(jh (partAt P k).tag (partAt P k).params (bB m k).1 (bB m k).2 (dX (bT (partAt P k).tag (partAt P k).params) m.hand)).n) }))):=by
 have Bh:=hm.hand.1;have hg:=jC hP.parts hk;have hbk:=hm.Cn _ (Lg (m:=m) (k:=k) (by rw [hm.bH];exact hk));have A9:=Lib.hid (hL.kp hP hf hm hk);have Yh:=Lib.hid (kC (bT (partAt P k).tag (partAt P k).params) hm.hand.2);have HN1:Hid (Fits ((bB m k).2+1)):=Lib.hid (by unfold Fits;omega);have Us:=Lib.hid (Da (ps:=(partAt P k).params) (keep:=(bB m k).1) (n:=(bB m k).2) (xss:=dX (bT (partAt P k).tag (partAt P k).params) m.hand) hg);have Bn:=Lib.hid (pQ hg);have K4:=Lib.hid (Ev (n:=(bB m k).2) hg (jC hf hk) hbk.2.2 (kC (bT (partAt P k).tag (partAt P k).params) hm.hand.2));have Gs:=Lib.hid hm.bH;have wJ:Hid (kU (partAt P k)=qQ (bT (partAt P k).tag (partAt P k).params)):=Lib.hid (by have h1:=xI hg;have h2:=Lh (pQ hg).1;omega);obtain ⟨ga,cap,vp,vi,vo,vk,ea,hcap,a0,a1,a2,a3,a4,a5,hR,r1,r2,r3,r4,fa⟩:=h.RU hk;obtain ⟨xa1,xc1,rfl⟩:=r1.slice;obtain ⟨xa3,xc3,rfl⟩:=r3.slice;obtain ⟨xa4,xc4,rfl⟩:=r4.slice;have b14:=h.cell 14 rfl;rw [ea] at b14;obtain ⟨ha,hcap2,eh⟩:=h.hand.slice;rw [aD] at eh;have Pd:=Lib.hid eh;have HEA:=Lib.hid ea;have HZ:=Lib.hid h;have HR:=Lib.hid hR;have O0:=Lib.hid fa;obtain ⟨is,his⟩:∃ x,bT (partAt P k).tag (partAt P k).params=x:=⟨_,rfl⟩
 rw [his] at Yh Us K4 Bn wJ r2 ⊢;obtain ⟨ia,ic,ei⟩:=r2.slice;subst ei;obtain ⟨n,hn⟩:∃ x,is.length=x:=⟨_,rfl⟩
 have ER:=Lib.hid hn;rw [hn] at a2;obtain ⟨H,hH⟩:∃ x,m.hand.length=x:=⟨_,rfl⟩
 have HH:=Lib.hid hH;have J3:Hid (H≤64):=Lib.hid (by omega);obtain ⟨T,hT⟩:∃ x,kU (partAt P k)=x:=⟨_,rfl⟩
 have HT:=Lib.hid (hT.symm.trans wJ.out);rw [hT,hH];have HR2:=Lib.hid r2;obtain ⟨np,hnp⟩:∃ x,P.parts.length=x:=⟨_,rfl⟩
 have HK:=Lib.hid hk;have HNP:=Lib.hid hnp;rw [hnp] at b14 hcap hk;have hki:(k:Int) < np:=by omega
 have iK:(np:Int)≤cap:=by omega
 have JW:n≤64:=by have:=Bn.out.2;omega
 obtain ⟨tg,htg⟩:∃ x,(partAt P k).tag=x:=⟨_,rfl⟩
 obtain ⟨fn,hfn⟩:∃ x,(bB m k).2=x:=⟨_,rfl⟩
 rw [htg] at a0;rw [hfn] at a5;clear h hm hs hL hP hf hg hbk hR r1 r2 r3 r4 ea eh fa hT hn his hnp Bh wJ hH;have HTG:=Lib.hid htg;have HFN:=Lib.hid hfn;clear htg hfn;obtain ⟨RES,hres⟩:∃ x,(if H≠T then ((4:Int),([]:List Nat),m) else
   if (jh (partAt P k).tag (partAt P k).params (bB m k).1 (bB m k).2 (dX is m.hand)).err≠0 then (3,[],m) else (0,[],{ m with
    hand:=(jh (partAt P k).tag (partAt P k).params (bB m k).1 (bB m k).2 (dX is m.hand)).outs.flatten
    bH:=m.bH.set k ((jh (partAt P k).tag (partAt P k).params (bB m k).1 (bB m k).2 (dX is m.hand)).keep,(jh (partAt P k).tag (partAt P k).params (bB m k).1 (bB m k).2 (dX is m.hand)).n) }))=x:=⟨_,rfl⟩
 rw [hres];have RV:=Lib.hid hres;clear hres;obtain ⟨l1,hl1⟩:∃ x,(partAt P k).params.length=x:=⟨_,rfl⟩
 obtain ⟨l3,hl3⟩:∃ x,(bP (partAt P k).tag (partAt P k).params).length=x:=⟨_,rfl⟩
 obtain ⟨l4,hl4⟩:∃ x,(bB m k).1.length=x:=⟨_,rfl⟩
 rw [hl1] at a1 HR;rw [hl3] at a3 HR;rw [hl4] at a4 HR;clear hl1 hl3 hl4
 go_enter Tryz.func88,Tryz.ntmps88
 go_wp2_with fail
 have hX:=heap_alloc_new w (.cells #[.int .u8 tg,.slice xa1 l1 xc1,.slice ia n ic,.slice xa3 l3 xc3,.slice xa4 l4 xc4,.int .i64 fn] 83);have T1:=Turn.of_below o (M+63) (au w (.cells #[.int .u8 tg,.slice xa1 l1 xc1,.slice ia n ic,.slice xa3 l3 xc3,.slice xa4 l4 xc4,.int .i64 fn] 83));have HX:=Lib.hid hX;have HZ1:=Lib.hid (HZ.out.quiet T1);have HR1:=Lib.hid (HR.out.turn T1 (fun h=>h));have HI1:=Lib.hid (HR2.out.turn T1 (fun h=>h));have HT1:=Lib.hid (T1.mono (D:=dI M) (fun _ h=>h.elim));obtain ⟨A,hA⟩:∃ x,w.heap.size=x:=⟨_,rfl⟩
 rw [hA] at HX;have hWs:A < (w.alloc (.cells #[.int .u8 tg,.slice xa1 l1 xc1,.slice ia n ic,.slice xa3 l3 xc3,.slice xa4 l4 xc4,.int .i64 fn] 83)).heap.size:=by simp [← hA]
 rw [hA];clear hX T1 HR HR2 HZ b14 a0 a1 a2 a3 a4 a5 hA;generalize ext o w.heap.size (M+63)=o1 at *;generalize w.alloc (.cells #[.int .u8 tg,.slice xa1 l1 xc1,.slice ia n ic,.slice xa3 l3 xc3,.slice xa4 l4 xc4,.int .i64 fn] 83)=W at *;have aah:=HZ1.out.cell 10 rfl;rw [Pd.out,HH.out] at aah;have acs:=Lib.hid aah;clear aah;obtain ⟨i0,hi,hz0,hz1,hz2⟩:=info_parts je;have HI:=Lib.hid hi;clear hi
 go_loopw [6,7,8] (fun dv at' i wl=>∃ (j:Nat) (q:Col) (vs:List Value),j≤n∧i=.int .i64 j∧at'=.int .i64 (qQ (is.take j))∧qQ (is.take j)≤H∧jG wl q dv j vs (dX (is.take j) m.hand)∧Kept W.heap.size q W wl) (fun _ _ i _=>n - (intOf i).toNat)
 case atStart=>exact ⟨0,fun _=>0,[],Nat.zero_le _,rfl,rfl,Nat.zero_le _,jG.nil _ _,Kept.start _⟩
 case round =>
  obtain ⟨j,q,vs,hj,rfl,rfl,hp,hG,hK⟩:=hrel;obtain ⟨p,hpp⟩:∃ x,qQ (is.take j)=x:=⟨_,rfl⟩
  have wL:=Lib.hid hpp;rw [hpp] at hp ⊢;have x2:=cell_later hK.below (ah _ _ HX.out 2 _ rfl);have b10:=cell_later hK.below acs.out;have qP:=Lib.hid hK;have HG:=Lib.hid hG;have hpH:p≤64:=by have:=J3.out;omega
  simp only [List.getElem_toArray,List.getElem_cons_succ,List.getElem_cons_zero] at x2
  by_cases hlt:j < n
  ·
   have dG:(j:Int) < n:=by omega
   have hjl:j < is.length:=by have:=ER.out;omega
   obtain ⟨r,hr⟩:∃ r:Nat,is[j]=r:=⟨is[j].toNat,by have:=Bn.out.1 _ (List.getElem_mem hjl);omega⟩
   have hr1:=Bn.out.1 _ (List.getElem_mem hjl);rw [hr] at hr1;obtain ⟨gi,oi,rfl,-,hic,-,-,fi⟩:=Ints.at HI1.out (by omega);have y:=cell_later hK.below (fi j hjl);rw [List.getElem?_eq_getElem hjl] at y;replace y:wr.cell? ⟨gi,oi+j,none⟩=some (.int .i64 (r:Int)):=by rw [← hr];exact y
   have HY:Hid (W.cell? ⟨gi,oi+j,none⟩=some (.int .i64 (r:Int))):=Lib.hid (by have:=fi j hjl;rw [List.getElem?_eq_getElem hjl] at this;rw [← hr];exact this);have HSU:Hid (qQ (is.take (j+1))=p+r):=Lib.hid (by rw [Nq hjl,hpp,hr];rfl);have HDE:Hid (dX (is.take (j+1)) m.hand=dX (is.take j) m.hand ++ [(m.hand.drop p).take r]):=Lib.hid (by rw [yQ is m.hand j hjl,hpp,hr];rfl);have abX:(n:Int)≤ic:=by have:=ER.out;omega
   have WL:Hid (p+r≤T):=Lib.hid (by have h1:=HSU.out;have h2:=Wp (l:=is) (j+1);have h3:=HT.out;omega);have HRR:=Lib.hid hr1;have hws:IntKind.i64.wrap ((H:Int) - p)=(H:Int) - p:=by have:=J3.out;exact IntWalk.i64_in _ (by omega)
   clear hpp hK hG hlt hr fi hic hjl
   go_wp2_with fail
   refine ax (fun w'=>w'.cell? ⟨A,2,none⟩=some (.slice (some ⟨gi,oi,none⟩) n ic)∧w'.cell? ⟨gi,oi+j,none⟩=some (.int .i64 (r:Int))∧w'.cell? ⟨b,10,none⟩=some (.slice ha H hcap2)) [0,1,2,3,4,5,6,7,8,9,10,11,12] [] (by kernel_rfl) (by kernel_rfl) rfl (fun _ _ hx h=>⟨hx.cell h.1,hx.cell h.2.1,hx.cell h.2.2⟩) ⟨x2,y,b10⟩ ?_;intro Q2 lq;simp only [pk];refine aA ?_;refine av ?_
   by_cases hgt:H < p+r
   ·
    have hgi:(H:Int) - p < r:=by omega
    have l5:Hid (RES=(4,[],m)):=Lib.hid (by rw [← RV.out,if_pos (by have:=WL.out;omega)]);have hz:=HZ1.out.quiet (Turn.of_below o1 (M+63) qP.out.below);have ht:=HT1.out.trans (Turn.of_below o1 (M+63) qP.out.below) (fun _ h=>h.elim);have HZ2:=Lib.hid hz;have HT2:=Lib.hid ht;clear hz ht hgt;go_wp2;go_ret
    rw [l5.out];exact ⟨_,v,rfl,HZ2.out.quiet (Turn.refl _ (fun _=>False) _).drew,HT2.out.drew⟩
   ·
    have hgi:¬ (H:Int) - p < r:=by omega
    have hh:=HZ1.out.hand;rw [Pd.out,HH.out] at hh;obtain ⟨gh,oh,hc',hv2,hcl,hcm⟩:=hh.some (by rw [aD,HH.out];omega);simp only [Value.slice.injEq] at hv2;obtain ⟨rfl,-,rfl⟩:=hv2;rw [aD,HH.out] at hcl;have hne:¬ hcap2=p:=by omega
    have hdr:=hh.drop (k:=p) (by rw [aD,HH.out];exact hp) hne;have hfr:=hdr.front (k:=r) (by rw [List.length_drop,aD,HH.out];omega);rw [aV,← List.map_drop,← List.map_take] at hfr;have OY:=Lib.hid (hfr.turn (Turn.of_below o1 (M+63) qP.out.below) (fun h=>h));have hps:p+r≤1000000:=by have:=J3.out;omega
    have JG:=Lib.hid hps;have HRH:Hid (qQ (is.take (j+1))≤H):=Lib.hid (by rw [HSU.out];omega);have HJN:Hid (j+1≤n):=Lib.hid (by omega);have acu:(p:Int)+r≤hcap2:=by omega
    have htn:((p:Int)+r).toNat=p+r:=by omega
    have hp0:(0:Int)≤(p:Int)+r:=by omega
    have hpr:p≤p+r:=by omega
    have hsub:p+r - p=r:=by omega
    have hwp:=(fI hps).2;clear hgt hh hdr hfr hcm hps
    go_wp2_with fail
    refine ax (fun w'=>w'.cell? ⟨A,2,none⟩=some (.slice (some ⟨gi,oi,none⟩) n ic)∧w'.cell? ⟨gi,oi+j,none⟩=some (.int .i64 (r:Int))∧w'.cell? ⟨b,10,none⟩=some (.slice (some ⟨gh,oh,none⟩) H hcap2)) [0,1,2,3,4,5,6,7,8,9,10,11,12,13] [14,15,16,17] (by kernel_rfl) (by kernel_rfl) rfl (fun _ _ hx h=>⟨hx.cell h.1,hx.cell h.2.1,hx.cell h.2.2⟩) ⟨x2,y,b10⟩ ?_;intro Q3 hQ3;simp only [pk];refine aA ?_;refine av ?_
    go_wp2_with fail
    have TD:Turn (ext o1 W.heap.size (M+63)) (ext o1 W.heap.size (M+63)) (fun _=>False) wr wr.drew.drew:=(Turn.refl _ _ _).drew.drew;refine (iE (o:=ext o1 W.heap.size (M+63)) (c:=M+4) _ _ _ _ ((m.hand.drop p).take r) (OY.out.turn TD (fun h=>h)) (by rw [List.length_take];omega)).mono ?_;rintro e w9 ⟨v9,rfl,K9,Dk⟩;have TQ:Turn q q (fun _=>False) wr wr.drew.drew:=(Turn.refl _ _ _).drew.drew;have T9:=TQ.trans (Turn.of_below q 2 Dk) (fun _ h=>h);have hu:=(Own.made q 2 K9).vals;have Yv:=Lib.hid (HG.out.turn T9 (fun h=>h) (fun h=>h));have Dh:=Lib.hid (qP.out.turn T9 (fun h=>h));have HU9:=Lib.hid hu;obtain ⟨Yr,Yt,Lr⟩:=aB K9;obtain ⟨L9,Ls⟩:∃ x,((m.hand.drop p).take r).length=x:=⟨_,rfl⟩
    rw [Ls] at Lr;clear Ls;subst Lr;obtain ⟨sd,cd,hdv⟩:=Yv.out.1.slice;subst hdv;clear hu T9 TQ TD K9 Dk HG OY x2 y b10 hws hwp htn hp0 acu hpr hsub hgi;generalize ext q wr.drew.drew.heap.size 2=q9 at *
    go_wp2_with (at_builtin;refine aM ?_)
    refine bR ?_;have hown:=Yv.out.1.1;refine aR rfl _ _ 63 rfl 0 42 i0 _ 1 24 Tryz.underlying63 HI.out hz0 hz1 hz2 rfl (.slice sd j cd) j _ rfl (hown.alloc (.cells #[.slice Yr L9 Yt] 42)) (some ⟨w9.heap.size,0,none⟩) 1 1 [.slice Yr L9 Yt] rfl rfl (fun h=>by cases h) (bA w9 [.slice Yr L9 Yt] 42) (by simp [Value.oneCell']) (by unfold maxLen;omega) (aZ (by omega)) (Nat.zero_le _) ?_;intro v5 w5 k1 k20 _ k4;have k2:(w9.alloc (.cells #[.slice Yr L9 Yt] 42)).grownBy w5 (Value.slice sd j cd).ownBlock:=⟨k20.os,k20.tape,k20.output,k20.size,k20.block⟩;obtain ⟨G5,T5⟩:=Yv.out.app HU9.out k1 k2 k4;rw [← HDE.out] at G5;have MR:=Lib.hid G5;have zW:=Lib.hid (Dh.out.turn T5 (by decide));have x2:=cell_later zW.out.below (ah _ _ HX.out 2 _ rfl);simp only [List.getElem_toArray,List.getElem_cons_succ,List.getElem_cons_zero] at x2;have y:=cell_later zW.out.below HY.out;have hwp:=(fI JG.out).1;clear k1 k20 k2 k4 hown G5 T5 Yv Dh HU9;go_wp2;go_roundw
    case rel=>exact ⟨j+1,_,_,HJN.out,by go_num,by rw [HSU.out,hwp],HRH.out,MR.out,zW.out⟩
    case measure=>simp [intOf];omega
  ·
   obtain rfl:j=n:=by omega
   have hfull:is.take j=is:=List.take_of_length_le (by rw [ER.out];omega);rw [hfull] at HG wL;have WL:Hid (p=T):=Lib.hid (by rw [HT.out];exact wL.out.symm);clear hK hfull hlt hpp;have HG:=HG
   by_cases hHT:H≠T
   ·
    have l5:Hid (RES=(4,[],m)):=Lib.hid (by rw [← RV.out,if_pos hHT]);have hne:¬ (p:Int)=(H:Int):=by have:=WL.out;omega
    have adY:¬ p=H:=by have:=WL.out;omega
    have HZ2:=Lib.hid (HZ1.out.quiet (Turn.of_below o1 (M+63) qP.out.below));have HT2:=Lib.hid (HT1.out.trans (Turn.of_below o1 (M+63) qP.out.below) (fun _ h=>h.elim));clear hHT;go_wp2;go_ret
    rw [l5.out];exact ⟨_,v,rfl,HZ2.out,HT2.out⟩
   ·
    have heq:(p:Int)=(H:Int):=by have:=WL.out;omega
    obtain rfl:p=H:=by omega
    have x0:=cell_later qP.out.below (ah _ _ HX.out 0 _ rfl);have x1:=cell_later qP.out.below (ah _ _ HX.out 1 _ rfl);have x3:=cell_later qP.out.below (ah _ _ HX.out 3 _ rfl);have x4:=cell_later qP.out.below (ah _ _ HX.out 4 _ rfl);have x5:=cell_later qP.out.below (ah _ _ HX.out 5 _ rfl);simp only [List.getElem_toArray,List.getElem_cons_succ,List.getElem_cons_zero] at x0 x1 x3 x4 x5;clear hG
    go_wp2_with fail
    have TW:=Turn.of_below o1 (M+63) qP.out.below;have hR2:uG wr (ext o1 W.heap.size (M+63)) (M+9) (.agg #[.int .u8 tg,.slice xa1 l1 xc1,.slice ia j ic,.slice xa3 l3 xc3,.slice xa4 l4 xc4,.int .i64 fn]) (partAt P k).tag (partAt P k).params (bB m k).1 (bB m k).2:=by
     rw [← HTG.out,← HFN.out,← ER.out];exact HR1.out.turn TW (fun h=>h)
    have HZ2:=Lib.hid (HZ1.out.quiet TW);have HT2:=Lib.hid (HT1.out.trans TW (fun _ h=>h.elim));have hins:LL wr u6 (dX is m.hand):=(HG.out.llc (o':=fun _=>0) (c:=0) (fun _ _ _=>rfl)).ll;clear TW HG x0 x1 x2 x3 x4 x5 HZ1 HT1 HR1 HI1 qP b10;generalize ext o1 W.heap.size (M+63)=o2 at *;refine (NI A9.out hR2 hins Yh.out HN1.out).mono ?_;rintro e w3 ⟨v3,ov,rfl,R3,L3,hb3⟩;obtain ⟨S,hS⟩:∃ x,jh (partAt P k).tag (partAt P k).params (bB m k).1 (bB m k).2 (dX is m.hand)=x:=⟨_,rfl⟩
    rw [hS] at R3 L3 RV Us K4 ⊢;have T3:=Turn.of_below o2 (M+9) hb3;have HZ3:=Lib.hid (HZ2.out.quiet T3);have HT3:=Lib.hid (HT2.out.trans T3 (fun _ h=>h.elim));have HL3:=Lib.hid L3;have HR3:=Lib.hid R3;obtain ⟨vp3,vi3,vo3,vk3,rfl,s1,s2,s3,s4⟩:=R3;obtain ⟨RX,pc1,rfl⟩:=s1.slice;obtain ⟨RY,pc2,rfl⟩:=s2.slice;obtain ⟨RZ,R4,rfl⟩:=s3.slice;obtain ⟨R8,R9,rfl⟩:=s4.slice;obtain ⟨oa,oc,rfl⟩:=L3.ll.slice;obtain ⟨E,hE⟩:∃ x,S.err=x:=⟨_,rfl⟩
    obtain ⟨N,hN⟩:∃ x,S.n=x:=⟨_,rfl⟩
    obtain ⟨nl,hnl⟩:∃ x,S.outs.length=x:=⟨_,rfl⟩
    have HE:=Lib.hid hE;have HN:=Lib.hid hN;have aai:=Lib.hid hnl;rw [hE,hN,hnl];rw [hN] at HR3;rw [hnl] at HL3;rw [HTG.out];clear hE hN hnl hS T3 hb3 L3 s1 s2 s3 s4 hins hR2 HZ2 HT2;generalize ext o2 wr.heap.size (M+9)=o3 at *;rw [HTG.out] at HR3;obtain ⟨q1,hq1⟩:∃ x,(partAt P k).params.length=x:=⟨_,rfl⟩
    obtain ⟨q2,hq2⟩:∃ x,(bT tg (partAt P k).params).length=x:=⟨_,rfl⟩
    obtain ⟨q3,hq3⟩:∃ x,(bP tg (partAt P k).params).length=x:=⟨_,rfl⟩
    obtain ⟨q4,hq4⟩:∃ x,S.keep.length=x:=⟨_,rfl⟩
    rw [hq1,hq2,hq3,hq4] at HR3;rw [hq1,hq2,hq3,hq4];clear hq1 hq2 hq3 hq4;have TB:=Turn.of_below o3 (M+65) (au w3 (.cells #[.int .u8 tg,.slice RX q1 pc1,.slice RY q2 pc2,.slice RZ q3 R4,.slice R8 q4 R9,.int .i64 N] 83));have fU:=Lib.hid (show dY _ (ext o3 w3.heap.size (M+65)) (M+65) w3.heap.size 83 #[.int .u8 tg,.slice RX q1 pc1,.slice RY q2 pc2,.slice RZ q3 R4,.slice R8 q4 R9,.int .i64 N] from ⟨heap_alloc_new w3 _,aW (Nat.le_refl _)⟩);have zI:=Lib.hid (HZ3.out.quiet TB);have tZ:=Lib.hid (HT3.out.trans TB (fun _ h=>h.elim));have HR4:=Lib.hid (HR3.out.turn TB (fun h=>h));have HL4:=Lib.hid (HL3.out.turn TB (fun h=>h));clear TB HZ3 HT3 HR3 HL3;generalize ext o3 w3.heap.size (M+65)=o4 at *
    by_cases hE0:E=0
    ·
     obtain rfl:=hE0;have l5:Hid (RES=(0,[],{ m with bH:=m.bH.set k (S.keep,N),hand:=S.outs.flatten })):=Lib.hid (by rw [← RV.out,if_neg (by have:=WL.out;omega),if_neg (by rw [HE.out];omega),HN.out]);have hz:=zI.out;have e14:=HEA.out;have b14:=hz.cell 14 rfl;obtain ⟨ga',cap',y1,y2,y3,y4,ea,oI,a0,a1,a2,a3,a4,a5,-,-,-,-,-,fa⟩:=hz.RU HK.out;have eg:=e14.symm.trans ea;simp only [Value.slice.injEq,Option.some.injEq,Addr.mk.injEq] at eg;obtain ⟨⟨rfl,-⟩,-,rfl⟩:=eg;have S5:=hz.JV hM HK.out (by rw [Gs.out];exact HK.out) ea (by rw [HTG.out];exact HR4.out);have S6:=S5.1.iW (l:=[]) hM (Turn.refl _ _ _) (bF.nil _ _ _ _);have f10:=S5.1.frozen 10;have b10:=S5.1.cell 10 rfl;have fa0:=fa (k*6);have fa1:=fa (k*6+1);have fa2:=fa (k*6+2);have fa3:=fa (k*6+3);have fa4:=fa (k*6+4);have fa5:=fa (k*6+5);rw [e14,HNP.out] at b14;have TH:=(S5.1.blk.set 10 (.slice none 0 0)).2;have Hz:=Lib.hid S6.1;have mQ:=Lib.hid ((tZ.out.trans S5.2 (dI.one (by omega))).trans S6.2 bM.c);have HL6:=Lib.hid ((HL4.out.turn S5.2 (by omega)).turn TH (by omega));have x0:=fU.out.cell 0 _ rfl;have x1:=fU.out.cell 1 _ rfl;have x2:=fU.out.cell 2 _ rfl;have x3:=fU.out.cell 3 _ rfl;have x4:=fU.out.cell 4 _ rfl;have x5:=fU.out.cell 5 _ rfl;have adn:(np:Int)≤cap:=iK;have hnl:nl≤64:=by have:=Us.out;have:=aai.out;omega
     clear S5 S6 TH fU zI tZ HR4 HL4 hz e14 ea fa
     go_wp2_with fail
     obtain ⟨w4,hw4⟩:∃ x,w3.alloc (.cells #[.int .u8 tg,.slice RX q1 pc1,.slice RY q2 pc2,.slice RZ q3 R4,.slice R8 q4 R9,.int .i64 N] 83)=x:=⟨_,rfl⟩
     rw [hw4] at Hz mQ HL6 b14 b10 f10 a0 a1 a2 a3 a4 a5 fa0 fa1 fa2 fa3 fa4 fa5 x0 x1 x2 x3 x4 x5 ⊢;clear hw4;refine ax (fun w'=>w'.cell? ⟨b,14,none⟩=some (.slice (some ⟨ga,0,none⟩) np cap)∧w'.cell? ⟨w3.heap.size,0,none⟩=some (.int .u8 tg)∧w'.cell? ⟨w3.heap.size,1,none⟩=some (.slice RX q1 pc1)∧w'.cell? ⟨w3.heap.size,2,none⟩=some (.slice RY q2 pc2)∧w'.cell? ⟨w3.heap.size,3,none⟩=some (.slice RZ q3 R4)∧w'.cell? ⟨w3.heap.size,4,none⟩=some (.slice R8 q4 R9)∧w'.cell? ⟨w3.heap.size,5,none⟩=some (.int .i64 N)) [0,1,2,3,4,5,6] [7] (by kernel_rfl) (by kernel_rfl) rfl (fun _ _ hx h=>⟨hx.cell h.1,hx.cell h.2.1,hx.cell h.2.2.1,hx.cell h.2.2.2.1,hx.cell h.2.2.2.2.1,hx.cell h.2.2.2.2.2.1,hx.cell h.2.2.2.2.2.2⟩) ⟨b14,x0,x1,x2,x3,x4,x5⟩ ?_;intro Q4 hQ4;simp only [pk];refine aA ?_;refine av ?_;obtain ⟨K,hK⟩:∃ x,k*6=x:=⟨_,rfl⟩
     rw [hK] at Hz mQ HL6 b10 f10 a0 a1 a2 a3 a4 a5 fa0 fa1 fa2 fa3 fa4 fa5 ⊢;clear hK x0 x1 x2 x3 x4 x5 b14
     go_step
     go_simp
     obtain ⟨w5,Yw⟩:∃ x,((((((w4.setCell ⟨ga,K,none⟩ (.int .u8 tg)).setCell ⟨ga,K+1,none⟩ (.slice RX q1 pc1)).setCell ⟨ga,K+2,none⟩ (.slice RY q2 pc2)).setCell ⟨ga,K+3,none⟩ (.slice RZ q3 R4)).setCell ⟨ga,K+4,none⟩ (.slice R8 q4 R9)).setCell ⟨ga,K+5,none⟩ (.int .i64 N))=x:=⟨_,rfl⟩
     rw [Yw] at Hz mQ HL6 f10 b10 ⊢;clear Yw a0 a1 a2 a3 a4 a5 fa0 fa1 fa2 fa3 fa4 fa5
     go_wp2_with fail
     obtain ⟨w6,Ke⟩:∃ x,w5.setCell ⟨b,10,none⟩ (.slice none 0 0)=x:=⟨_,rfl⟩
     rw [Ke] at Hz mQ HL6 ⊢;clear Ke f10 b10;obtain ⟨i1,hi1,iz0,iz1,iz2⟩:=info_parts bJ;have HI1:=Lib.hid hi1;clear hi1
     go_loopw [12] (fun i wl=>∃ (j:Nat) (q:Col) (v':eG),j≤nl∧i=.int .i64 j∧Turn o q (dI M) w wl∧gF w0 wl q M b P { m with bH:=m.bH.set k (S.keep,N),hand:=(S.outs.take j).flatten } v'∧uV wl q (M+9) (.slice oa nl oc) S.outs) (fun i _=>nl - (intOf i).toNat)
     case atStart=>exact ⟨0,o4,_,Nat.zero_le _,rfl,mQ.out.drewN 1,by rw [List.take_zero];exact Hz.out.drewN 1,HL6.out.drewN 1⟩
     case round =>
      clear mQ Hz HL6;obtain ⟨j,q5,v5,hj,rfl,T5,M5,L5⟩:=hrel;have uJ:=Lib.hid T5;have yP:=Lib.hid M5;have HL5:=Lib.hid L5
      by_cases hlt:j < nl
      ·
       have hjl:j < S.outs.length:=by have:=aai.out;omega
       obtain ⟨bo,off,rfl,hoc,hrow⟩:=L5.ll.at (by omega);obtain ⟨a0,c0,hr1,hr2⟩:=hrow j hjl;obtain ⟨R,hR⟩:∃ x,S.outs[j]?.getD []=x:=⟨_,rfl⟩
       rw [hR] at hr1 hr2;have hRe:S.outs[j]=R:=by rw [← hR,List.getElem?_eq_getElem hjl];rfl
       have hfl:=xJ S.outs j hjl;rw [hRe] at hfl;have hle:=K4.out.2.1;obtain ⟨X,hX⟩:∃ x,(S.outs.take j).flatten=x:=⟨_,rfl⟩
       rw [hX] at hfl yP M5;obtain ⟨hnone,hnews⟩:=dn.news hr2;have b10:=M5.cell 10 rfl;obtain ⟨hs5,hc5,eh5⟩:=M5.hand.slice;rw [aD] at eh5;rw [eh5] at b10;have acv:=Lib.hid eh5;have HFL:=Lib.hid hfl;have dG:(j:Int) < nl:=by omega
       have ack:(nl:Int)≤oc:=by omega
       have hxl:X.length+R.length≤64:=by omega
       obtain ⟨XL,hXL⟩:∃ x,X.length=x:=⟨_,rfl⟩
       obtain ⟨RL,hRL⟩:∃ x,R.length=x:=⟨_,rfl⟩
       have HXL:=Lib.hid hXL;have mV:=Lib.hid hRL;dsimp only at b10;rw [hXL] at b10 hxl;rw [hRL] at hr1 hxl hnone;have jL:=Lib.hid hnone;have ou:=Lib.hid hnews;clear hfl hX hRe hR hrow hr2 T5 M5 L5 hle hnone hnews hXL hRL eh5
       go_wp2_with fail
       refine ax (fun w'=>w'.cell? ⟨b,10,none⟩=some (.slice hs5 XL hc5)∧w'.cell? ⟨bo,off+j,none⟩=some (.slice a0 RL c0)) [0,1,2,3,4,5,6,7,8] [9,10,11,12] (by kernel_rfl) (by kernel_rfl) rfl (fun _ _ hx h=>⟨hx.cell h.1,hx.cell h.2⟩) ⟨b10,hr1⟩ ?_;intro Q5 hQ5;simp only [pk];refine aA ?_;refine av ?_
       go_wp2_with (at_builtin;refine aM ?_)
       refine bR ?_;have hz:=yP.out.drewN 1;have hh:=hz.hand;dsimp only at hh;rw [acv.out,HXL.out] at hh;refine dA rfl _ _ 42 rfl q5 (M+4) 3 i1 _ 8 Tryz.underlying42 HI1.out iz0 iz1 iz2 rfl (.slice hs5 XL hc5) (aV X) rfl hh a0 RL c0 (aV R) rfl (by rw [aD];exact mV.out) jL.out (fun ad had j u hu=>ou.out ad had j u hu) (gT _) (by rw [aD,HXL.out];unfold maxLen;omega) (aZ (by rw [aD,HXL.out];omega)) ?_;intro v7 w7 T7 O7;obtain ⟨JE,xw,hv7⟩:=O7.slice;simp only [List.length_append,List.length_map] at hv7;subst hv7;have M7:=hz.iW (l:=(S.outs.take (j+1)).flatten) hM T7 (by rw [HFL.out.1,aV,List.map_append];exact O7);have X7:=hz.blk.turn T7 (by omega);have d10:=X7.cell 10 _ rfl;have f10:=X7.frozen 10;have L7:=((HL5.out.drewN 1).turn T7 (by omega)).turn (X7.set 10 (.slice JE (X.length+R.length) xw)).2 (by omega);have mW:=Lib.hid ((uJ.out.drewN 1).trans M7.2 bM.c);have pR:=Lib.hid M7.1;have HL7:=Lib.hid L7;clear M7 L7 X7 T7 O7 ou b10 hr1 hz hh;go_wp2;go_roundw
       case rel=>exact ⟨j+1,_,_,hlt,by go_num,mW.out,pR.out,HL7.out⟩
       case measure=>simp [intOf];omega
      ·
       obtain rfl:j=nl:=by omega
       have hall:S.outs.take j=S.outs:=List.take_of_length_le (by rw [aai.out];exact Nat.le_refl _);rw [hall] at yP;clear M5 L5 T5;go_wp2;go_ret
       rw [l5.out];exact ⟨_,_,rfl,yP.out,uJ.out⟩
    ·
     have hEb:(E != 0)=true:=by rw [bne_iff_ne];exact hE0
     have l5:Hid (RES=(3,[],m)):=Lib.hid (by rw [← RV.out,if_neg (by have:=WL.out;omega),if_pos (by rw [HE.out];exact hE0)]);clear hE0;go_wp2;go_ret
     rw [l5.out];exact ⟨_,v,rfl,zI.out,tZ.out⟩
def bZ (M x:Nat):Prop:=M≤x∧x < M+80
theorem dI.s {M:Nat}(x:Nat)(h:dI M x):bZ M x:=⟨h.1,by have:=h.2;omega⟩
theorem bM.s {M:Nat}(x:Nat)(h:bM M x):bZ M x:=h.c.s
theorem ug {M k:Nat}(h:70≤k):¬ dI M (M+k):=fun hx=>by have:=hx.2;omega
section
variable {w0 w:World} {o:Col} {M b:Nat} {P:ay} {m:aH} {v:eG}
theorem gF.H6 {op kd ln lh:Int}{lc:Value}(h:gF w0 w o M b P m v)(h0:1≤M)(L:Option OZ)(hL:(L=none∧lh≠3∧lh≠4)∨∃ e,L=some e∧(e.halt=3∨e.halt=4)∧op=e.op∧kd=e.kind∧ln=e.line∧(∃ a c,lc=.slice a 0 c)∧lh=e.halt) :
  gF w0 (((((w.setCell ⟨b,17,none⟩ (.int .i64 op)).setCell ⟨b,18,none⟩ (.int .u8 kd)).setCell ⟨b,19,none⟩ (.int .i64 ln)).setCell ⟨b,20,none⟩ lc).setCell ⟨b,21,none⟩ (.int .u8 lh)) o M b P { m with last:=L } { v with op:=op,kd:=kd,ln:=ln,lc:=lc,lh:=lh } ∧
  Turn o o (bM M) w (((((w.setCell ⟨b,17,none⟩ (.int .i64 op)).setCell ⟨b,18,none⟩ (.int .u8 kd)).setCell ⟨b,19,none⟩ (.int .i64 ln)).setCell ⟨b,20,none⟩ lc).setCell ⟨b,21,none⟩ (.int .u8 lh)):=by
 obtain ⟨b0,T0⟩:=h.blk.set 17 (.int .i64 op);obtain ⟨b1,T1⟩:=b0.set 18 (.int .u8 kd);obtain ⟨b2,T2⟩:=b1.set 19 (.int .i64 ln);obtain ⟨b3,T3⟩:=b2.set 20 lc;obtain ⟨b4,T4⟩:=b3.set 21 (.int .u8 lh);have T:=(((T0.trans T1 (fun _ h=>h)).trans T2 (fun _ h=>h)).trans T3 (fun _ h=>h)).trans T4 (fun _ h=>h);simp only [List.setIfInBounds_toArray] at b4;exact ⟨⟨h.kept.turn T (by have:=h0;omega),h.prog,b4,h.mem.turn T (by omega),h.pos.turn T (by omega),h.has.turn T (by omega),h.hand.turn T (by omega),h.cs.turn T (by omega),h.ins.turn T (by omega) (fun k _=>by have:=h.small;omega),h.outs.turn T (by omega) (fun k _=>by have:=h.small;omega),h.acts.turn T (by omega),h.wO,fun k hk=>⟨(h.act k hk).1,(h.act k hk).2.turn T (by omega)⟩,h.Nr,h.small,hL⟩,T.mono (fun x hx=>by unfold bM;omega)⟩
theorem gF.op (h:gF w0 w o M b P m v){k:Nat}(hk:k < P.ops.length):∃ g off cap,v.vo=.slice (some ⟨g,off,none⟩) P.ops.length cap∧P.ops.length≤cap∧w.cell? ⟨g,off+k*3,none⟩=some (.int .u8 P.ops[k].kind)∧w.cell? ⟨g,off+k*3+1,none⟩=some (.int .i64 P.ops[k].a)∧w.cell? ⟨g,off+k*3+2,none⟩=some (.int .i64 P.ops[k].b):=by
 obtain ⟨vp,vl,vo,e,-,-,ho⟩:=h.prog;have e1:vo=v.vo:=by
  injection e with e
  injection e with e
  simp only [List.cons.injEq,and_true] at e;exact e.2.2.2.2.2.2.symm
 subst e1;obtain ⟨ao,cap,e2⟩:=ho.slice;rw [e2] at ho;obtain ⟨-,hc,g,off,rfl,hcl⟩:=ho.at hk;obtain ⟨c0,c1,c2⟩:=hcl k hk;exact ⟨g,off,cap,e2,hc,cell_later h.kept.below c0,cell_later h.kept.below c1,cell_later h.kept.below c2⟩
end
def BD (w0 w:World)(o:Col)(M b:Nat)(P:ay)(r:OZ × aH)(e:Ending)(w':World):Prop :=
 ∃ o' v' cv,e=.returned (Ws r.1 cv)∧gF w0 w' o' M b P r.2 v'∧Turn o o' (bZ M) w w'∧Ints w' o' (M+64) cv r.1.cells
section
variable {w0 w:World} {o:Col} {M b:Nat} {P:ay} {m:aH} {v:eG} {F s:Nat} {x:fG}
theorem Sb (h:gF w0 w o M b P m v)(hM:1≤M)(hP:tX P)(hm:lH P F s m)(hx:Gv P x)(h3:x.kind=3):Calls Tryz.prog 84 #[.pointer (some ⟨b,0,none⟩),.int .i64 x.a,.int .i64 x.b] w (Cu w0 w o M b P (bK P x m)):=by
 have ha:=hx.line (.inl h3);have hb:=hx.rate (.inl h3);have hd:bK P x m=rE x m:=by unfold bK;rw [if_neg (by omega),if_pos h3]
 have:=NA h hM hP hm (k:=x.a.toNat) (n:=x.b.toNat) (by omega) (by omega);rw [Int.toNat_of_nonneg (by omega),Int.toNat_of_nonneg (by omega)] at this;rw [hd];exact this
theorem Sc (h:gF w0 w o M b P m v)(hM:1≤M)(hP:tX P)(hm:lH P F s m)(hx:Gv P x)(h6:x.kind=6):Calls Tryz.prog 85 #[.pointer (some ⟨b,0,none⟩),.int .i64 x.a,.int .i64 x.b] w (Cu w0 w o M b P (bK P x m)):=by
 have ha:=hx.line (.inr h6);have hb:=hx.rate (.inr (.inr (.inl h6)));have hd:bK P x m=rF x m:=by unfold bK;rw [if_neg (by omega),if_neg (by omega),if_neg (by omega),if_neg (by omega),if_pos h6]
 have:=NG h hM hP hm (k:=x.a.toNat) (n:=x.b.toNat) (by omega) (by omega);rw [Int.toNat_of_nonneg (by omega),Int.toNat_of_nonneg (by omega)] at this;rw [hd];exact this
theorem Sd (h:gF w0 w o M b P m v)(hM:1≤M)(hm:lH P F s m)(hx:Gv P x)(h4:x.kind=4):Calls Tryz.prog 86 #[.pointer (some ⟨b,0,none⟩),.int .i64 x.a,.int .i64 x.b] w (rU w0 w o M b P (bK P x m)):=by
 have ha:=hx.ins h4;have hb:=hx.rate (.inr (.inl h4));have hl:=hm.fed;have hd:bK P x m=pu x m:=by unfold bK;rw [if_neg (by omega),if_neg (by omega),if_pos h4]
 have:=NH h hM hm (k:=x.a.toNat) (n:=x.b.toNat) (by omega) (by omega);rw [Int.toNat_of_nonneg (by omega),Int.toNat_of_nonneg (by omega)] at this;rw [hd];exact this
theorem NK (h:gF w0 w o M b P m v)(hM:1≤M)(hm:lH P F s m)(hs:s≤1000000000)(hx:Gv P x)(h7:x.kind=7):Calls Tryz.prog 87 #[.pointer (some ⟨b,0,none⟩),.int .i64 x.a,.int .i64 x.b] w (rU w0 w o M b P (bK P x m)):=by
 have ha:=hx.outs h7;have hb:=hx.rate (.inr (.inr (.inr h7)));have hl:=hm.out;have hd:bK P x m=mF x m:=by unfold bK;rw [if_neg (by omega),if_neg (by omega),if_neg (by omega),if_neg (by omega),if_neg (by omega),if_pos h7]
 have:=Kc h hM hm hs (k:=x.a.toNat) (n:=x.b.toNat) (by omega) (by omega);rw [Int.toNat_of_nonneg (by omega),Int.toNat_of_nonneg (by omega)] at this;rw [hd];exact this
theorem Sg (h:gF w0 w o M b P m v)(hM:1≤M)(hP:tX P)(hf:iM P)(hm:lH P F s m)(hs:s≤1000000000)(hL:Bo P m)(hx:Gv P x)(h5:x.kind=5):Calls Tryz.prog 88 #[.pointer (some ⟨b,0,none⟩),.int .i64 x.a] w (rU w0 w o M b P (bK P x m)):=by
 have ha:=hx.part h5;have hd:bK P x m=pE P x m:=by unfold bK;rw [if_neg (by omega),if_neg (by omega),if_neg (by omega),if_pos h5]
 have:=NJ h hM hP hf hm hs hL (k:=x.a.toNat) (by omega);rw [Int.toNat_of_nonneg (by omega)] at this;rw [hd];exact this
end
def zJ (w0 wb:World)(q:Col)(M b E R:Nat)(P:ay)(mm:aH)(nx kn ln way h:Int)(c:List Int)(af:Value)(wx:World):Prop :=
 ∃ q5 v5 z ca cc,af=.int .i64 z∧(h=0∨h=1→z=way)∧gF w0 wx q5 M b P mm v5∧Turn q q5 (bZ M) wb wx∧dY wx q5 (M+70) E 69 #[.int .i64 nx,.int .u8 kn,.int .i64 ln,.slice ca c.length cc,.int .u8 h]∧dY wx q5 (M+71) R 69 #[.int .i64 0,.int .u8 0,.int .i64 0,.slice none 0 0,.int .u8 0]∧Ints wx q5 (M+64) (.slice ca c.length cc) c
theorem jQ {M k:Nat}(h:64≤k):¬ bM M (M+k):=fun hx=>by have:=hx.2;omega
theorem Kg {w0 w:World}{o:Col}{M b:Nat}{P:ay}{m:aH}{v:eG}{F s:Nat}(h:gF w0 w o M b P m v)(hM:1≤M)(hP:tX P)(hf:iM P)(hm:lH P F s m)(hs:s≤1000000000)(hL:Bo P m)(hlast:m.last=none) :
  Calls Tryz.prog 65 #[.pointer (some ⟨b,0,none⟩)] w (BD w0 w o M b P (aY P m)):=by
 obtain ⟨d,hd,hr⟩:=hm.ctl;obtain ⟨r1,r2,hx⟩:=sS hP hr;dsimp only at r1 r2 hx;have hcs:=zU hr;have hops:=hP.QH;have hlh:v.lh≠3∧v.lh≠4:=by
  rcases h.last with ⟨-,h1⟩ | ⟨e,h1,-⟩
  ·
   exact h1
  ·
   rw [hlast] at h1;cases h1
 have hb0:=au w (.cells #[.int .i64 0,.int .u8 0,.int .i64 0,.slice none 0 0,.int .u8 0] 69);have T0:=Turn.of_below o (M+71) hb0;have R0:dY (w.alloc (.cells #[.int .i64 0,.int .u8 0,.int .i64 0,.slice none 0 0,.int .u8 0] 69)) (ext o w.heap.size (M+71)) (M+71) w.heap.size 69 #[.int .i64 0,.int .u8 0,.int .i64 0,.slice none 0 0,.int .u8 0]:=⟨heap_alloc_new w _,aW (Nat.le_refl _)⟩;have h0:=h.quiet T0;obtain ⟨go,oo,co,e6,hco,o1,o2,o3⟩:=h0.op r1;have c6:=h0.cell 6 rfl;rw [e6] at c6;have c15:=h0.cell 15 (u:=.int .i64 m.next) rfl;have c21:=h0.cell 21 (u:=.int .u8 v.lh) rfl;have hb3:(v.lh == 3)=false:=by rw [beq_eq_false_iff_ne];exact hlh.1
 have hb4:(v.lh == 4)=false:=by rw [beq_eq_false_iff_ne];exact hlh.2
 have hxe:P.ops[m.next]=bI P.ops m.next:=by rw [List.getElem?_eq_getElem r1] at r2;exact Option.some.inj r2
 rw [hxe] at o1 o2 o3;obtain ⟨x,Z8⟩:∃ x,bI P.ops m.next=x:=⟨_,rfl⟩
 rw [Z8] at o1 o2 o3 hx;have zZ:=Lib.hid Z8;obtain ⟨kn,xa,xb⟩:=x;dsimp only at o1 o2 o3;have hkd:=hx.kind;dsimp only at hkd;have hri:(m.next:Int) < P.ops.length:=by omega
 have hnx:(m.next:Int) < 1000000:=by omega
 have rz:=Lib.hid hm;have J5:=Lib.hid hx;have A9:=Lib.hid hL;have HCS:=Lib.hid hcs;have wL:=Lib.hid hP;have WM:=Lib.hid hf;have Jd:=Lib.hid hlast;obtain ⟨ln,hln⟩:∃ ln:Int,ln=(if kn=3∨kn=6 then xa else -1):=⟨_,rfl⟩
 obtain ⟨⟨hh,c,m2⟩,EW⟩:∃ x,bK P ⟨kn,xa,xb⟩ m=x:=⟨_,rfl⟩
 obtain ⟨mm,hmm⟩:∃ x,({ m2 with cs:=(jB P m).2 }:aH)=x:=⟨_,rfl⟩
 obtain ⟨way,zH⟩:∃ x:Int,((jB P m).1:Int)=x:=⟨_,rfl⟩
 have hcases:hh=0∨hh=1∨(hh=2∧c=[]∧m2=m)∨(hh=3∧c=[]∧m2=m)∨(hh=4∧c=[]∧m2=m):=by
  have:=ow P ⟨kn,xa,xb⟩ m;rw [EW] at this
  simpa only [Prod.mk.injEq] using this
 have Nu:=Lib.hid EW;have hev:∀ h c,Jc P m h c=⟨m.next,kn,ln,bU c,h⟩:=fun h c=>by unfold Jc;rw [zZ.out,hln]
 have hw2:kn≠1→kn≠2→(jB P m).2=m.cs:=fun h1 h2=>by
  unfold jB rC;simp only [zZ.out];rw [if_neg h1,if_neg h2]
  split <;> rfl
 have hm2:m2.cs=m.cs∧m2.last=none:=by
  rcases hcases with h | h | h | h | h
  ·
   have:=rG (P:=P) (x:=⟨kn,xa,xb⟩) (m:=m) (by rw [EW];exact h);rw [EW] at this;exact ⟨this.2.2.1,this.2.2.2.2.trans hlast⟩
  ·
   have:=(xB (P:=P) (x:=⟨kn,xa,xb⟩) (m:=m) (by rw [EW];exact h)).2;rw [EW] at this;dsimp only at this;rw [this];exact ⟨rfl,hlast⟩
  all_goals rw [h.2.2];exact ⟨rfl,hlast⟩
 have Di:Hid (kn≠1→kn≠2→m2=mm):=Lib.hid fun h1 h2=>by rw [← hmm,hw2 h1 h2,← hm2.1]
 have Yx:Hid (kn≠0→kn≠1→kn≠2→(m.next:Int)+1=way):=Lib.hid fun h0 h1 h2=>by
  rw [← zH,DF (by rw [zZ.out];exact h0) (by rw [zZ.out];exact h1) (by rw [zZ.out];exact h2)];rfl
 have HD0:Hid (kn=1∨kn=2→hh=0∧c=[]∧m=m2):=Lib.hid fun h=>by
  have e:=EW;unfold bK at e;dsimp only at e;rw [if_neg (by omega),if_neg (by omega),if_neg (by omega),if_neg (by omega),if_neg (by omega),if_neg (by omega)] at e;simp only [Prod.mk.injEq] at e;exact ⟨e.1.symm,e.2.1.symm,e.2.2⟩
 have Si:Hid (kn≠3→kn≠6→c=[]):=Lib.hid fun h3 h6=>by
  have e:=congrArg (fun t=>t.2.1) EW;dsimp only at e;rw [← e];unfold bK zF pu pE mF;dsimp only;rw [if_neg h3]
  repeat' split
  all_goals first | rfl | exact absurd (by assumption) h6
 have uW:Hid (hh=0∨hh=1→aY P m=(⟨m.next,kn,ln,bU c,hh⟩,{ { mm with next:=(jB P m).1 } with last:=none })):=Lib.hid fun h=>by
  unfold aY;rw [hlast,zZ.out,EW];simp only;rw [if_pos h,hev,← hmm,← hm2.2]
 have HST:Hid (hh=2→aY P m=(⟨m.next,kn,ln,bU c,2⟩,{ mm with last:=none })):=Lib.hid fun h=>by
  have h5:c=[]∧m2=m:=by rcases hcases with h | h | h | h | h <;> first | omega | exact h.2
  have hk:kn≠1∧kn≠2:=⟨fun h1=>by have:=(HD0.out (.inl h1)).1;omega,fun h1=>by have:=(HD0.out (.inr h1)).1;omega⟩;rw [← Di.out hk.1 hk.2,h5.1,h5.2];unfold aY;rw [hlast,zZ.out,EW];simp only;rw [if_neg (by omega),if_pos h,hev,← hlast]
 have xO:Hid (hh=3∨hh=4→c=[]∧aY P m=(⟨m.next,kn,ln,[],hh⟩,{ mm with last:=some ⟨m.next,kn,ln,[],hh⟩ })):=Lib.hid fun h=>by
  have h5:c=[]∧m2=m:=by rcases hcases with h | h | h | h | h <;> first | omega | exact h.2
  have hk:kn≠1∧kn≠2:=⟨fun h1=>by have:=(HD0.out (.inl h1)).1;omega,fun h1=>by have:=(HD0.out (.inr h1)).1;omega⟩;refine ⟨h5.1,?_⟩;rw [← Di.out hk.1 hk.2,h5.2];unfold aY;rw [hlast,zZ.out,EW];simp only;rw [if_neg (by omega),if_neg (by omega),hev];rfl
 have hhc:hh=0∨hh=1∨hh=2∨hh=3∨hh=4:=by omega
 have HHC:=Lib.hid hhc;have Nt:=Lib.hid hln;have HMW:=Lib.hid hmm;have Yy:=Lib.hid zH;have H0:=Lib.hid h0;have I8:=Lib.hid R0;have Le:=Lib.hid T0;clear h hd hr r2 hb0 T0 R0 h0 hxe Z8 e6 hm hx hL hcs hP hf hlast hln EW hmm zH hcases hev hw2 hm2 hhc hlh;generalize ext o w.heap.size (M+71)=q at *;obtain ⟨u0,hu0⟩:∃ x,w.alloc (.cells #[.int .i64 0,.int .u8 0,.int .i64 0,.slice none 0 0,.int .u8 0] 69)=x:=⟨_,rfl⟩
 rw [hu0] at H0 I8 Le c6 c15 c21 o1 o2 o3;have hs0:u0.heap.size=w.heap.size+1:=by rw [← hu0];simp
 have hb1:=au u0 (.cells #[.int .u8 kn,.int .i64 xa,.int .i64 xb] 58);obtain ⟨u1,hu1⟩:∃ x,u0.alloc (.cells #[.int .u8 kn,.int .i64 xa,.int .i64 xb] 58)=x:=⟨_,rfl⟩
 rw [hu1] at hb1;have T1:=Turn.of_below q (M+72) hb1;have X1:dY u1 (ext q u0.heap.size (M+72)) (M+72) (w.heap.size+1) 58 #[.int .u8 kn,.int .i64 xa,.int .i64 xb]:=⟨by rw [← hu1,← hs0];exact heap_alloc_new u0 _,aW (by omega)⟩;have aaj:=cell_later hb1 c15;have x10:=X1.cell 0 _ rfl;have hs1:u1.heap.size=w.heap.size+1+1:=by rw [← hu1];simp;omega
 have hb2:=au u1 (.cells #[.int .i64 m.next,.int .u8 kn,.int .i64 (-1),.slice none 0 0,.int .u8 0] 69);obtain ⟨u2,hu2⟩:∃ x,u1.alloc (.cells #[.int .i64 m.next,.int .u8 kn,.int .i64 (-1),.slice none 0 0,.int .u8 0] 69)=x:=⟨_,rfl⟩
 rw [hu2] at hb2;have T2:=Turn.of_below (ext q u0.heap.size (M+72)) (M+70) hb2;have E2:dY u2 (ext (ext q u0.heap.size (M+72)) u1.heap.size (M+70)) (M+70) (w.heap.size+2) 69 #[.int .i64 m.next,.int .u8 kn,.int .i64 (-1),.slice none 0 0,.int .u8 0]:=⟨by rw [← hu2,← hs1];exact heap_alloc_new u1 _,aW (by omega)⟩;have Nh:=T1.trans T2 (fun _ h=>h);have HZ2:=Lib.hid (H0.out.quiet Nh);have HR2:=Lib.hid (I8.out.turn Nh (fun h=>h));have yO:=Lib.hid (X1.turn T2 (fun h=>h));have HT2:=Lib.hid (Le.out.trans Nh (fun _ h=>h));have HE2:=Lib.hid E2;have aa8:=cell_later hb2 aaj;generalize ext (ext q u0.heap.size (M+72)) u1.heap.size (M+70)=q2 at *;have x20:=yO.out.cell 0 _ rfl;have x21:=yO.out.cell 1 _ rfl;have Ut:=yO.out.cell 2 _ rfl;clear hb1 T1 X1 hb2 T2 E2 Nh H0 I8 Le hs0 hs1;have hhc:=HHC.out;clear HHC;subst hu0;subst hu1;subst hu2
 go_enter Tryz.func65,Tryz.ntmps65
 go_wp2_with fail
 refine ax (fun w'=>w'.cell? ⟨b,6,none⟩=some (.slice (some ⟨go,oo,none⟩) P.ops.length co)∧w'.cell? ⟨b,15,none⟩=some (.int .i64 m.next)∧w'.cell? ⟨go,oo+m.next*3,none⟩=some (.int .u8 kn)∧w'.cell? ⟨go,oo+m.next*3+1,none⟩=some (.int .i64 xa)∧w'.cell? ⟨go,oo+m.next*3+2,none⟩=some (.int .i64 xb)) [0,1,2,3,4,5,6,7,8,9,10] [11,12] (by kernel_rfl) (by kernel_rfl) rfl (fun _ _ hx h=>⟨hx.cell h.1,hx.cell h.2.1,hx.cell h.2.2.1,hx.cell h.2.2.2.1,hx.cell h.2.2.2.2⟩) ⟨c6,c15,o1,o2,o3⟩ ?_;intro Q' hQ';simp only [pk];refine aA ?_;refine av ?_
 go_wp2_with fail
 refine ax (fun w'=>w'.cell? ⟨b,15,none⟩=some (.int .i64 m.next)∧w'.cell? ⟨w.heap.size+1,0,none⟩=some (.int .u8 kn)) [0,1,2,3,4,5,6] [7,8] (by kernel_rfl) (by kernel_rfl) rfl (fun _ _ hx h=>⟨hx.cell h.1,hx.cell h.2⟩) ⟨aaj,x10⟩ ?_;intro Q' hQ';simp only [pk];refine aA ?_;refine av ?_
 go_upto_block 0 with (fail)
 obtain ⟨u2,hu2⟩:∃ x,((w.alloc (.cells #[.int .i64 0,.int .u8 0,.int .i64 0,.slice none 0 0,.int .u8 0] 69)).alloc (.cells #[.int .u8 kn,.int .i64 xa,.int .i64 xb] 58)).alloc (.cells #[.int .i64 m.next,.int .u8 kn,.int .i64 (-1),.slice none 0 0,.int .u8 0] 69)=x:=⟨_,rfl⟩
 rw [hu2] at HZ2 HR2 yO HT2 HE2 x20 x21 Ut ⊢;clear hu2 c15 aaj aa8 c21 c6 o1 o2 o3 x10
 go_cut [5] from 49 to 160 (fun af wx=>zJ w0 u2 q2 M b (w.heap.size+2) w.heap.size P mm m.next kn ln way hh (bU c) af wx)
 case first =>
  clear hhc hb3 hb4
  rcases hkd with hk | hk | hk | hk | hk | hk | hk | hk
  ·
   obtain rfl:kn=0:=hk;obtain rfl:ln = -1:=by rw [Nt.out];rfl
   obtain ⟨ha,hcap,eh⟩:=HZ2.out.hand.slice;rw [aD] at eh;have b10:=HZ2.out.cell 10 rfl;rw [eh] at b10;have k4:=HE2.out.cell 4 _ rfl;have g4:=HE2.out.frozen 4;have e:=Nu.out;unfold bK at e;dsimp only at e;rw [if_pos (show (0:Int)=0 from rfl),zF] at e;have HQ:=Lib.hid (Di.out (by decide) (by decide))
   by_cases hp:0 < m.hand.length
   ·
    rw [if_pos hp] at e;simp only [Prod.mk.injEq] at e;obtain ⟨rfl,rfl,rfl⟩:=e;obtain rfl:=HQ.out;obtain ⟨H,hH⟩:∃ x,m.hand.length=x:=⟨_,rfl⟩
    rw [hH] at b10 hp;have hpi:(0:Int) < H:=by omega
    obtain ⟨b6,T6⟩:=HE2.out.set 4 (.int .u8 4);have Z7:=Lib.hid (HZ2.out.turn T6 (by omega) (fun c hc=>by rw [hc];exact kI (by omega) _ rfl));have R7:=Lib.hid (HR2.out.turn T6 (by omega));have FL:=Lib.hid (T6.mono (D:=bZ M) (fun c hc=>by rw [hc];unfold bZ;omega));have B7:=Lib.hid b6;clear b6 T6 hH hp eh Di HQ Yy HST xO uW HD0 Si Yx Nt HMW zZ Nu rz A9 HCS wL WM Jd hs d r1 hops hri hnx;go_wp2
    go_meet
    case rel=>unfold zJ;exact ⟨q2,v,(m.next:Int)+1,none,0,rfl,fun h=>by omega,Z7.out.drewN 2,FL.out.drewN 2,B7.out,R7.out,.inl ⟨rfl,_,_,rfl⟩⟩
   ·
    rw [if_neg hp] at e;simp only [Prod.mk.injEq] at e;obtain ⟨rfl,rfl,rfl⟩:=e;obtain rfl:=HQ.out;obtain ⟨H,hH⟩:∃ x,m.hand.length=x:=⟨_,rfl⟩
    rw [hH] at b10 hp;obtain rfl:H=0:=by omega
    have Rz:=rz.out.per;have S:=HZ2.out.JY hM (m.periods+1);obtain ⟨pz,hpz⟩:∃ x:Int,(m.periods:Int)=x:=⟨_,rfl⟩
    rw [show ((m.periods+1:Nat):Int)=pz+1 by omega] at S;have b16:=HZ2.out.cell 16 (u:=.int .i64 (m.periods:Int)) rfl;rw [hpz] at b16;have f16:=HZ2.out.frozen 16;have hw1:IntKind.i64.wrap (pz+1)=pz+1:=IntWalk.i64_in _ (by omega);have E3:=HE2.out.turn S.2 (jQ (by omega));have R3:=HR2.out.turn S.2 (jQ (by omega));obtain ⟨b6,T6⟩:=E3.set 4 (.int .u8 1);have Z7:=Lib.hid (S.1.turn T6 (by omega) (fun c hc=>by rw [hc];exact kI (by omega) _ rfl));have R7:=Lib.hid (R3.turn T6 (by omega));have FL:=Lib.hid ((S.2.mono bM.s).trans T6 (fun c hc=>by rw [hc];unfold bZ;omega));have B7:=Lib.hid b6;have YA:Hid (way=0):=Lib.hid (by rw [← Yy.out];unfold jB;rw [zZ.out];rfl);clear b6 T6 hH hp eh Di HQ S E3 R3 hpz Rz;go_wp2
    go_meet
    case rel=>unfold zJ;exact ⟨q2,v,0,none,0,rfl,fun h=>YA.out.symm,Z7.out.drewN 2,FL.out.drewN 2,B7.out,R7.out,.inl ⟨rfl,_,_,rfl⟩⟩
  ·
   obtain rfl:kn=1:=hk;obtain rfl:ln = -1:=by rw [Nt.out];rfl
   obtain ⟨rfl,rfl,rfl⟩:=HD0.out (.inl rfl);have ha:=J5.out.cnt (.inl rfl);dsimp only at ha;obtain ⟨a,rfl⟩:∃ a:Nat,xa=a:=⟨xa.toNat,by omega⟩
   have hcl:=HCS.out.1;have hk:a < m.cs.length:=by omega
   obtain ⟨g,cap,e11,-,hc,Uu,f11⟩:=jT HZ2.out.cs (k:=a) hk;have b11:=HZ2.out.cell 11 rfl;rw [e11] at b11;have S:=HZ2.out.GX hM e11 a xb;have hw:jB P m=(m.next+1,m.cs.set a xb):=by
    unfold jB rC;simp only [zZ.out];rfl
   have hmw:=HMW.out;rw [hw] at hmw;have YA:Hid ((m.next:Int)+1=way):=Lib.hid (by rw [← Yy.out,hw];rfl);obtain rfl:=hmw;have Z7:=Lib.hid S.1;have R7:=Lib.hid (HR2.out.turn S.2 (jQ (by omega)));have B7:=Lib.hid (HE2.out.turn S.2 (jQ (by omega)));have FL:=Lib.hid (S.2.mono bM.s);obtain ⟨n,hn⟩:∃ x,m.cs.length=x:=⟨_,rfl⟩
   rw [hn] at b11 hk hc;have hki:(a:Int) < n:=by omega
   have hci:(n:Int)≤cap:=by omega
   obtain ⟨X,hX⟩:∃ x,m.cs[a]?.getD 0=x:=⟨_,rfl⟩
   rw [hX] at Uu;clear S hX hn hw hcl e11 ha Di
   go_wp2_with fail
   refine ax (fun w'=>w'.cell? ⟨b,11,none⟩=some (.slice (some ⟨g,0,none⟩) n cap)∧w'.cell? ⟨w.heap.size+1,1,none⟩=some (.int .i64 a)∧w'.cell? ⟨w.heap.size+1,2,none⟩=some (.int .i64 xb)) [0,1,2,3,4,5,6,7,8] [9] (by kernel_rfl) (by kernel_rfl) rfl (fun _ _ hx h=>⟨hx.cell h.1,hx.cell h.2.1,hx.cell h.2.2⟩) ⟨b11,x21,Ut⟩ ?_;intro Q3 hQ3;simp only [pk];refine aA ?_;refine av ?_;go_wp2
   go_meet
   case rel=>unfold zJ;exact ⟨q2,v,(m.next:Int)+1,none,0,rfl,fun h=>YA.out,Z7.out.drewN 3,FL.out.drewN 3,B7.out,R7.out,.inl ⟨rfl,_,_,rfl⟩⟩
  ·
   obtain rfl:kn=2:=hk;obtain rfl:ln = -1:=by rw [Nt.out];rfl
   obtain ⟨rfl,rfl,rfl⟩:=HD0.out (.inr rfl);have ha:=J5.out.cnt (.inr rfl);have hb:=J5.out.to rfl;dsimp only at ha hb;obtain ⟨a,rfl⟩:∃ a:Nat,xa=a:=⟨xa.toNat,by omega⟩
   obtain ⟨t,rfl⟩:∃ a:Nat,xb=a:=⟨xb.toNat,by omega⟩
   have hcl:=HCS.out.1;have hk:a < m.cs.length:=by omega
   obtain ⟨g,cap,e11,-,hc,Uu,f11⟩:=jT HZ2.out.cs (k:=a) hk;have b11:=HZ2.out.cell 11 rfl;rw [e11] at b11;obtain ⟨X,hX⟩:∃ x,m.cs[a]?.getD 0=x:=⟨_,rfl⟩
   have hXb:-100000≤X∧X≤100000:=by
    rw [← hX,List.getElem?_eq_getElem hk];have:=HCS.out.2 _ (List.getElem_mem hk);simp only [Option.getD_some];omega
   rw [hX] at Uu;have S:=HZ2.out.GX hM e11 a (X - 1);have hw:jB P m=(if 0 < X - 1 then t else m.next+1,m.cs.set a (X - 1)):=by
    unfold jB rC;simp only [zZ.out,Int.toNat_natCast,hX];rfl
   have hmw:=HMW.out;rw [hw] at hmw;have YA:Hid (((if 0 < X - 1 then t else m.next+1:Nat):Int)=way):=Lib.hid (by rw [← Yy.out,hw]);obtain rfl:=hmw;have j11:=S.1.cell 11 rfl;rw [e11] at j11;have hx7:=yO.out.turn S.2 (jQ (by omega));have y21:=hx7.cell 1 _ rfl;have y22:=hx7.cell 2 _ rfl;have q11:(u2.setCell ⟨g,a,none⟩ (.int .i64 (X - 1))).cell? ⟨g,a,none⟩=some (.int .i64 (X - 1)):=by
    obtain ⟨g',cap',e',-,-,pp,-⟩:=jT S.1.cs (k:=a) (by show a < (m.cs.set a (X - 1)).length;rw [List.length_set];exact hk);have:=e11.symm.trans e';simp only [Value.slice.injEq,Option.some.injEq,Addr.mk.injEq] at this;obtain ⟨⟨rfl,-⟩,-⟩:=this;dsimp only at pp;rw [List.getElem?_set_self hk] at pp;exact pp
   have Z7:=Lib.hid S.1;have R7:=Lib.hid (HR2.out.turn S.2 (jQ (by omega)));have B7:=Lib.hid (HE2.out.turn S.2 (jQ (by omega)));have FL:=Lib.hid (S.2.mono bM.s);obtain ⟨n,hn⟩:∃ x,m.cs.length=x:=⟨_,rfl⟩
   rw [hn] at b11 j11 hk hc;have hki:(a:Int) < n:=by omega
   have hci:(n:Int)≤cap:=by omega
   have hw1:IntKind.i64.wrap (X - 1)=X - 1:=IntWalk.i64_in _ (by omega);have HXB:=Lib.hid hXb;clear S hX hn hw hcl e11 ha Di hXb hb hx7
   go_wp2_with fail
   refine ax (fun w'=>w'.cell? ⟨b,11,none⟩=some (.slice (some ⟨g,0,none⟩) n cap)∧w'.cell? ⟨w.heap.size+1,1,none⟩=some (.int .i64 a)∧w'.cell? ⟨g,a,none⟩=some (.int .i64 X)) [0,1,2,3,4,5,6,7,8,9,10,11,12,13,14,15] [16] (by kernel_rfl) (by kernel_rfl) rfl (fun _ _ hx h=>⟨hx.cell h.1,hx.cell h.2.1,hx.cell h.2.2⟩) ⟨b11,x21,Uu⟩ ?_;intro Q3 hQ3;simp only [pk];refine aA ?_;refine av ?_
   go_wp2_with fail
   refine ax (fun w'=>w'.cell? ⟨b,11,none⟩=some (.slice (some ⟨g,0,none⟩) n cap)∧w'.cell? ⟨w.heap.size+1,1,none⟩=some (.int .i64 a)∧w'.cell? ⟨g,a,none⟩=some (.int .i64 (X - 1))) [0,1,2,3,4,5,6,7,8] [] (by kernel_rfl) (by kernel_rfl) rfl (fun _ _ hx h=>⟨hx.cell h.1,hx.cell h.2.1,hx.cell h.2.2⟩) ⟨j11,y21,q11⟩ ?_;intro Q4 hQ4;simp only [pk];refine aA ?_;refine av ?_
   by_cases hgt:0 < X - 1
   ·
    rw [if_pos hgt] at YA;clear hw1 HST xO uW Si Yx Nt zZ Nu rz A9 HCS wL WM Jd hs d r1 hops hri hnx Yy HD0;go_wp2
    go_meet
    case rel=>unfold zJ;exact ⟨q2,v,(t:Int),none,0,rfl,fun h=>YA.out,Z7.out.drewN 4,FL.out.drewN 4,B7.out,R7.out,.inl ⟨rfl,_,_,rfl⟩⟩
   ·
    rw [if_neg hgt] at YA;clear hw1 HST xO uW Si Yx Nt zZ Nu rz A9 HCS wL WM Jd hs d r1 hops hri hnx Yy HD0;go_wp2
    go_meet
    case rel=>unfold zJ;exact ⟨q2,v,(m.next:Int)+1,none,0,rfl,fun h=>YA.out,Z7.out.drewN 4,FL.out.drewN 4,B7.out,R7.out,.inl ⟨rfl,_,_,rfl⟩⟩
  ·
   obtain rfl:kn=3:=hk;obtain rfl:xa=ln:=by rw [Nt.out];rfl
   obtain ⟨bE,TE⟩:=HE2.out.set 2 (.int .i64 xa);have ZE:=HZ2.out.turn TE (by omega) (fun c hc=>by rw [hc];exact kI (by omega) _ rfl);have J9:=Lib.hid (HR2.out.turn TE (by omega));have Uv:=Lib.hid (TE.mono (D:=bZ M) (fun c hc=>by rw [hc];unfold bZ;omega));have Uw:=Lib.hid bE;have e2:=HE2.out.cell 2 _ rfl;have f2:=HE2.out.frozen 2;have HZE:=Lib.hid ZE;clear bE TE ZE
   go_wp2_with fail
   clear e2 f2;refine (Sb (HZE.out.drewN 2) hM wL.out rz.out J5.out rfl).mono ?_;rintro e w5 ⟨o5,v5,cv,rfl,Z5,T5,I5⟩;rw [Nu.out] at Z5 I5 ⊢;dsimp only at Z5 I5 ⊢;rw [Di.out (by decide) (by decide)] at Z5;obtain ⟨ca,cc,rfl⟩:=I5.slice;have E5:=(Uw.out.turn ((Turn.refl q2 (fun _=>False) _).drewN 2) (fun h=>h)).turn T5 (ug (by omega));have R5:=(J9.out.turn ((Turn.refl q2 (fun _=>False) _).drewN 2) (fun h=>h)).turn T5 (ug (by omega));have TT:=(Uv.out.drewN 2).trans T5 dI.s;have k3:=E5.cell 3 _ rfl;have k4:=E5.cell 4 _ rfl;have g3:=E5.frozen 3;have g4:=E5.frozen 4;obtain ⟨b6,T6⟩:=E5.set 4 (.int .u8 hh);obtain ⟨b7,T7⟩:=b6.set 3 (.slice ca (bU c).length cc);have Sj:=T6.trans T7 (fun _ h=>h);have Z7:=Lib.hid (Z5.turn Sj (by omega) (fun c hc=>by rw [hc];exact kI (by omega) _ rfl));have R7:=Lib.hid (R5.turn Sj (by omega));have I7:=Lib.hid (I5.turn Sj (by omega));have FL:=Lib.hid (TT.trans Sj (fun c hc=>by rw [hc];unfold bZ;omega));have B7:=Lib.hid b7;clear E5 R5 T5 TT b6 T6 b7 T7 Sj Z5 I5 Uw J9 Uv HZE;go_wp2
   go_meet
   case rel=>unfold zJ;exact ⟨o5,v5,(m.next:Int)+1,ca,cc,rfl,fun _=>Yx.out (by decide) (by decide) (by decide),Z7.out,FL.out,B7.out,R7.out,I7.out⟩
  ·
   obtain rfl:kn=4:=hk;obtain rfl:ln = -1:=by rw [Nt.out];rfl
   go_wp2_with fail
   refine (Sd (HZ2.out.drewN 2) hM rz.out J5.out rfl).mono ?_;rintro e w5 ⟨o5,v5,rfl,Z5,T5⟩;rw [Nu.out] at Z5 ⊢;dsimp only at Z5 ⊢;rw [Di.out (by decide) (by decide)] at Z5;obtain rfl:=Si.out (by decide) (by decide);have E5:=(HE2.out.turn ((Turn.refl q2 (fun _=>False) _).drewN 2) (fun h=>h)).turn T5 (ug (by omega));have R5:=(HR2.out.turn ((Turn.refl q2 (fun _=>False) _).drewN 2) (fun h=>h)).turn T5 (ug (by omega));have TT:=((Turn.refl q2 (bZ M) _).drewN 2).trans T5 dI.s;have k4:=E5.cell 4 _ rfl;have g4:=E5.frozen 4;obtain ⟨b6,T6⟩:=E5.set 4 (.int .u8 hh);have Z7:=Lib.hid (Z5.turn T6 (by omega) (fun c hc=>by rw [hc];exact kI (by omega) _ rfl));have R7:=Lib.hid (R5.turn T6 (by omega));have FL:=Lib.hid (TT.trans T6 (fun c hc=>by rw [hc];unfold bZ;omega));have B7:=Lib.hid b6;clear E5 R5 T5 TT b6 T6 Z5;go_wp2
   go_meet
   case rel=>unfold zJ;exact ⟨o5,v5,(m.next:Int)+1,none,0,rfl,fun _=>Yx.out (by decide) (by decide) (by decide),Z7.out,FL.out,B7.out,R7.out,.inl ⟨rfl,_,_,rfl⟩⟩
  ·
   obtain rfl:kn=5:=hk;obtain rfl:ln = -1:=by rw [Nt.out];rfl
   go_wp2_with fail
   refine (Sg (HZ2.out.drewN 2) hM wL.out WM.out rz.out hs A9.out J5.out rfl).mono ?_;rintro e w5 ⟨o5,v5,rfl,Z5,T5⟩;rw [Nu.out] at Z5 ⊢;dsimp only at Z5 ⊢;rw [Di.out (by decide) (by decide)] at Z5;obtain rfl:=Si.out (by decide) (by decide);have E5:=(HE2.out.turn ((Turn.refl q2 (fun _=>False) _).drewN 2) (fun h=>h)).turn T5 (ug (by omega));have R5:=(HR2.out.turn ((Turn.refl q2 (fun _=>False) _).drewN 2) (fun h=>h)).turn T5 (ug (by omega));have TT:=((Turn.refl q2 (bZ M) _).drewN 2).trans T5 dI.s;have k4:=E5.cell 4 _ rfl;have g4:=E5.frozen 4;obtain ⟨b6,T6⟩:=E5.set 4 (.int .u8 hh);have Z7:=Lib.hid (Z5.turn T6 (by omega) (fun c hc=>by rw [hc];exact kI (by omega) _ rfl));have R7:=Lib.hid (R5.turn T6 (by omega));have FL:=Lib.hid (TT.trans T6 (fun c hc=>by rw [hc];unfold bZ;omega));have B7:=Lib.hid b6;clear E5 R5 T5 TT b6 T6 Z5;go_wp2
   go_meet
   case rel=>unfold zJ;exact ⟨o5,v5,(m.next:Int)+1,none,0,rfl,fun _=>Yx.out (by decide) (by decide) (by decide),Z7.out,FL.out,B7.out,R7.out,.inl ⟨rfl,_,_,rfl⟩⟩
  ·
   obtain rfl:kn=6:=hk;obtain rfl:xa=ln:=by rw [Nt.out];rfl
   obtain ⟨bE,TE⟩:=HE2.out.set 2 (.int .i64 xa);have ZE:=HZ2.out.turn TE (by omega) (fun c hc=>by rw [hc];exact kI (by omega) _ rfl);have J9:=Lib.hid (HR2.out.turn TE (by omega));have Uv:=Lib.hid (TE.mono (D:=bZ M) (fun c hc=>by rw [hc];unfold bZ;omega));have Uw:=Lib.hid bE;have e2:=HE2.out.cell 2 _ rfl;have f2:=HE2.out.frozen 2;have HZE:=Lib.hid ZE;clear bE TE ZE
   go_wp2_with fail
   clear e2 f2;refine (Sc (HZE.out.drewN 2) hM wL.out rz.out J5.out rfl).mono ?_;rintro e w5 ⟨o5,v5,cv,rfl,Z5,T5,I5⟩;rw [Nu.out] at Z5 I5 ⊢;dsimp only at Z5 I5 ⊢;rw [Di.out (by decide) (by decide)] at Z5;obtain ⟨ca,cc,rfl⟩:=I5.slice;have E5:=(Uw.out.turn ((Turn.refl q2 (fun _=>False) _).drewN 2) (fun h=>h)).turn T5 (ug (by omega));have R5:=(J9.out.turn ((Turn.refl q2 (fun _=>False) _).drewN 2) (fun h=>h)).turn T5 (ug (by omega));have TT:=(Uv.out.drewN 2).trans T5 dI.s;have k3:=E5.cell 3 _ rfl;have k4:=E5.cell 4 _ rfl;have g3:=E5.frozen 3;have g4:=E5.frozen 4;obtain ⟨b6,T6⟩:=E5.set 4 (.int .u8 hh);obtain ⟨b7,T7⟩:=b6.set 3 (.slice ca (bU c).length cc);have Sj:=T6.trans T7 (fun _ h=>h);have Z7:=Lib.hid (Z5.turn Sj (by omega) (fun c hc=>by rw [hc];exact kI (by omega) _ rfl));have R7:=Lib.hid (R5.turn Sj (by omega));have I7:=Lib.hid (I5.turn Sj (by omega));have FL:=Lib.hid (TT.trans Sj (fun c hc=>by rw [hc];unfold bZ;omega));have B7:=Lib.hid b7;clear E5 R5 T5 TT b6 T6 b7 T7 Sj Z5 I5 Uw J9 Uv HZE;go_wp2
   go_meet
   case rel=>unfold zJ;exact ⟨o5,v5,(m.next:Int)+1,ca,cc,rfl,fun _=>Yx.out (by decide) (by decide) (by decide),Z7.out,FL.out,B7.out,R7.out,I7.out⟩
  ·
   obtain rfl:kn=7:=hk;obtain rfl:ln = -1:=by rw [Nt.out];rfl
   go_wp2_with fail
   refine (NK (HZ2.out.drewN 2) hM rz.out hs J5.out rfl).mono ?_;rintro e w5 ⟨o5,v5,rfl,Z5,T5⟩;rw [Nu.out] at Z5 ⊢;dsimp only at Z5 ⊢;rw [Di.out (by decide) (by decide)] at Z5;obtain rfl:=Si.out (by decide) (by decide);have E5:=(HE2.out.turn ((Turn.refl q2 (fun _=>False) _).drewN 2) (fun h=>h)).turn T5 (ug (by omega));have R5:=(HR2.out.turn ((Turn.refl q2 (fun _=>False) _).drewN 2) (fun h=>h)).turn T5 (ug (by omega));have TT:=((Turn.refl q2 (bZ M) _).drewN 2).trans T5 dI.s;have k4:=E5.cell 4 _ rfl;have g4:=E5.frozen 4;obtain ⟨b6,T6⟩:=E5.set 4 (.int .u8 hh);have Z7:=Lib.hid (Z5.turn T6 (by omega) (fun c hc=>by rw [hc];exact kI (by omega) _ rfl));have R7:=Lib.hid (R5.turn T6 (by omega));have FL:=Lib.hid (TT.trans T6 (fun c hc=>by rw [hc];unfold bZ;omega));have B7:=Lib.hid b6;clear E5 R5 T5 TT b6 T6 Z5;go_wp2
   go_meet
   case rel=>unfold zJ;exact ⟨o5,v5,(m.next:Int)+1,none,0,rfl,fun _=>Yx.out (by decide) (by decide) (by decide),Z7.out,FL.out,B7.out,R7.out,.inl ⟨rfl,_,_,rfl⟩⟩
 case rest =>
  unfold zJ at hcut;obtain ⟨q5,v5,z,ca,cc,rfl,hz,Z5,T5,E5,R5,I5⟩:=hcut;clear x20 x21 Ut;have j17:=Z5.cell 17 (u:=.int .i64 v5.op) rfl;have j18:=Z5.cell 18 (u:=.int .u8 v5.kd) rfl;have j19:=Z5.cell 19 (u:=.int .i64 v5.ln) rfl;have j20:=Z5.cell 20 (u:=v5.lc) rfl;have j21:=Z5.cell 21 (u:=.int .u8 v5.lh) rfl;have p17:=Z5.frozen 17;have p18:=Z5.frozen 18;have p19:=Z5.frozen 19;have p20:=Z5.frozen 20;have p21:=Z5.frozen 21;have k0:=E5.cell 0 _ rfl;have k1:=E5.cell 1 _ rfl;have k2:=E5.cell 2 _ rfl;have k3:=E5.cell 3 _ rfl;have k4:=E5.cell 4 _ rfl;have r0:=R5.cell 0 _ rfl;have r1:=R5.cell 1 _ rfl;have r2:=R5.cell 2 _ rfl;have r3:=R5.cell 3 _ rfl;have r4:=R5.cell 4 _ rfl;have g0:=R5.frozen 0;have g1:=R5.frozen 1;have g2:=R5.frozen 2;have g3:=R5.frozen 3;have g4:=R5.frozen 4;have j15:=Z5.cell 15 (u:=.int .i64 mm.next) rfl;have p15:=Z5.frozen 15
  rcases hhc with h0 | h0 | h0 | h0 | h0
  ·
   subst h0;obtain rfl:=hz (.inl rfl);obtain rfl:=Yy.out;have S6:=Z5.zX hM (jB P m).1;have R6:=R5.turn S6.2 (jQ (by omega));have I6:=I5.turn S6.2 (jQ (by omega));have oH:=(HT2.out.mono (D:=bZ M) (fun _ h=>h.elim)).trans (T5.trans S6.2 bM.s) (fun _ h=>h);have S7:=S6.1.H6 (op:=m.next) (kd:=kn) (ln:=ln) (lh:=0) (lc:=.slice ca (bU c).length cc) hM none (.inl ⟨rfl,by decide,by decide⟩);have l5:=Lib.hid (uW.out (.inl rfl));have R7:=R6.turn S7.2 (jQ (by omega));have I7:=I6.turn S7.2 (jQ (by omega));have S8:=dF R7 (.int .i64 m.next) (.int .u8 kn) (.int .i64 ln) (.slice ca (bU c).length cc) (.int .u8 0);have WN:=Lib.hid (S7.1.turn S8.2 (by omega) (fun c hc=>by rw [hc];exact kI (by omega) _ rfl));have yU:=Lib.hid ((oH.trans S7.2 bM.s).trans S8.2 (fun c hc=>by rw [hc];unfold bZ;omega));have WO:=Lib.hid (I7.turn S8.2 (by omega));have H7:=Lib.hid S8.1;clear R6 R7 I6 I7 S7 S8 oH Z5 E5 R5 I5 T5;go_wp2;refine bodyPost_ret_by (results_cell_row rfl _ _ _ _ _ _ _ rfl H7.out.1 Tryz.underlying69 rfl (by kernel_rfl)) rfl ?_;rw [l5.out];exact ⟨_,_,_,rfl,WN.out,yU.out,WO.out⟩
  ·
   subst h0;obtain rfl:=hz (.inr rfl);obtain rfl:=Yy.out;have S6:=Z5.zX hM (jB P m).1;have R6:=R5.turn S6.2 (jQ (by omega));have I6:=I5.turn S6.2 (jQ (by omega));have oH:=(HT2.out.mono (D:=bZ M) (fun _ h=>h.elim)).trans (T5.trans S6.2 bM.s) (fun _ h=>h);have S7:=S6.1.H6 (op:=m.next) (kd:=kn) (ln:=ln) (lh:=1) (lc:=.slice ca (bU c).length cc) hM none (.inl ⟨rfl,by decide,by decide⟩);have l5:=Lib.hid (uW.out (.inr rfl));have R7:=R6.turn S7.2 (jQ (by omega));have I7:=I6.turn S7.2 (jQ (by omega));have S8:=dF R7 (.int .i64 m.next) (.int .u8 kn) (.int .i64 ln) (.slice ca (bU c).length cc) (.int .u8 1);have WN:=Lib.hid (S7.1.turn S8.2 (by omega) (fun c hc=>by rw [hc];exact kI (by omega) _ rfl));have yU:=Lib.hid ((oH.trans S7.2 bM.s).trans S8.2 (fun c hc=>by rw [hc];unfold bZ;omega));have WO:=Lib.hid (I7.turn S8.2 (by omega));have H7:=Lib.hid S8.1;clear R6 R7 I6 I7 S7 S8 oH Z5 E5 R5 I5 T5;go_wp2;refine bodyPost_ret_by (results_cell_row rfl _ _ _ _ _ _ _ rfl H7.out.1 Tryz.underlying69 rfl (by kernel_rfl)) rfl ?_;rw [l5.out];exact ⟨_,_,_,rfl,WN.out,yU.out,WO.out⟩
  ·
   subst h0;have R6:=R5;have I6:=I5;have oH:=(HT2.out.mono (D:=bZ M) (fun _ h=>h.elim)).trans T5 (fun _ h=>h);have S7:=Z5.H6 (op:=m.next) (kd:=kn) (ln:=ln) (lh:=2) (lc:=.slice ca (bU c).length cc) hM none (.inl ⟨rfl,by decide,by decide⟩);have l5:=Lib.hid (HST.out rfl);have R7:=R6.turn S7.2 (jQ (by omega));have I7:=I6.turn S7.2 (jQ (by omega));have S8:=dF R7 (.int .i64 m.next) (.int .u8 kn) (.int .i64 ln) (.slice ca (bU c).length cc) (.int .u8 2);have WN:=Lib.hid (S7.1.turn S8.2 (by omega) (fun c hc=>by rw [hc];exact kI (by omega) _ rfl));have yU:=Lib.hid ((oH.trans S7.2 bM.s).trans S8.2 (fun c hc=>by rw [hc];unfold bZ;omega));have WO:=Lib.hid (I7.turn S8.2 (by omega));have H7:=Lib.hid S8.1;clear R6 R7 I6 I7 S7 S8 oH Z5 E5 R5 I5 T5;go_wp2;refine bodyPost_ret_by (results_cell_row rfl _ _ _ _ _ _ _ rfl H7.out.1 Tryz.underlying69 rfl (by kernel_rfl)) rfl ?_;rw [l5.out];exact ⟨_,_,_,rfl,WN.out,yU.out,WO.out⟩
  ·
   subst h0;have hst:=xO.out (.inl rfl);have l5:=Lib.hid hst.2;have YB:=Lib.hid hst.1;have R6:=R5;have I6:=I5;have oH:=(HT2.out.mono (D:=bZ M) (fun _ h=>h.elim)).trans T5 (fun _ h=>h);have S7:=Z5.H6 (op:=m.next) (kd:=kn) (ln:=ln) (lh:=3) (lc:=.slice ca (bU c).length cc) hM (some ⟨m.next,kn,ln,[],3⟩) (.inr ⟨_,rfl,.inl rfl,rfl,rfl,rfl,⟨ca,cc,by rw [hst.1];rfl⟩,rfl⟩);clear hst;have R7:=R6.turn S7.2 (jQ (by omega));have I7:=I6.turn S7.2 (jQ (by omega));have S8:=dF R7 (.int .i64 m.next) (.int .u8 kn) (.int .i64 ln) (.slice ca (bU c).length cc) (.int .u8 3);have WN:=Lib.hid (S7.1.turn S8.2 (by omega) (fun c hc=>by rw [hc];exact kI (by omega) _ rfl));have yU:=Lib.hid ((oH.trans S7.2 bM.s).trans S8.2 (fun c hc=>by rw [hc];unfold bZ;omega));have WO:=Lib.hid (I7.turn S8.2 (by omega));have H7:=Lib.hid S8.1;clear R6 R7 I6 I7 S7 S8 oH Z5 E5 R5 I5 T5;go_wp2;refine bodyPost_ret_by (results_cell_row rfl _ _ _ _ _ _ _ rfl H7.out.1 Tryz.underlying69 rfl (by kernel_rfl)) rfl ?_;rw [l5.out];exact ⟨_,_,_,rfl,WN.out,yU.out,by have:=WO.out;rw [YB.out] at this ⊢;exact this⟩
  ·
   subst h0;have hst:=xO.out (.inr rfl);have l5:=Lib.hid hst.2;have YB:=Lib.hid hst.1;have R6:=R5;have I6:=I5;have oH:=(HT2.out.mono (D:=bZ M) (fun _ h=>h.elim)).trans T5 (fun _ h=>h);have S7:=Z5.H6 (op:=m.next) (kd:=kn) (ln:=ln) (lh:=4) (lc:=.slice ca (bU c).length cc) hM (some ⟨m.next,kn,ln,[],4⟩) (.inr ⟨_,rfl,.inr rfl,rfl,rfl,rfl,⟨ca,cc,by rw [hst.1];rfl⟩,rfl⟩);clear hst;have R7:=R6.turn S7.2 (jQ (by omega));have I7:=I6.turn S7.2 (jQ (by omega));have S8:=dF R7 (.int .i64 m.next) (.int .u8 kn) (.int .i64 ln) (.slice ca (bU c).length cc) (.int .u8 4);have WN:=Lib.hid (S7.1.turn S8.2 (by omega) (fun c hc=>by rw [hc];exact kI (by omega) _ rfl));have yU:=Lib.hid ((oH.trans S7.2 bM.s).trans S8.2 (fun c hc=>by rw [hc];unfold bZ;omega));have WO:=Lib.hid (I7.turn S8.2 (by omega));have H7:=Lib.hid S8.1;clear R6 R7 I6 I7 S7 S8 oH Z5 E5 R5 I5 T5;go_wp2;refine bodyPost_ret_by (results_cell_row rfl _ _ _ _ _ _ _ rfl H7.out.1 Tryz.underlying69 rfl (by kernel_rfl)) rfl ?_;rw [l5.out];exact ⟨_,_,_,rfl,WN.out,yU.out,by have:=WO.out;rw [YB.out] at this ⊢;exact this⟩
def l7 (m:aH):List Int:=m.lines.map fun l=>(l.cnt:Int)
def j3 (m:aH):List Int:=m.bH.map Prod.snd
theorem oV {α:Type}(l:List α)(f:α→Int){j:Nat}(h:j < l.length):aV ((l.map f).take (j+1))=aV ((l.map f).take j) ++ [.int .i64 (f l[j])]:=by
 rw [List.take_succ_eq_append_getElem (by simpa using h)];simp [aV]
theorem sZ {w:World}{n:Nat}(hn:n=w.heap.size)(l:List Value)(t:TypeId):∀ ad,some (⟨n,0,none⟩:Addr)=some ad→∀ j u,l[j]?=some u→(w.alloc (.cells l.toArray t)).cell? (ad.add j)=some u:=by
 subst hn;exact bA w l t
theorem pV {w:World}{o:Col}{M b:Nat}{P:ay}{m:aH}{v:bV}(h:aN w o M b P m v)(hl:m.lines.length≤100000):Calls Tryz.prog 30 #[.pointer (some ⟨b,0,none⟩)] w (iX w (l7 m)):=by
 obtain ⟨i0,hi,hz0,hz1,hz2⟩:=info_parts bJ;have HI:=Lib.hid hi;have c1:=h.cell 1 (u:=v.lines) (by unfold bC;rfl);obtain ⟨la,lc,e⟩:=h.lines.slice;rw [e] at c1;have HE:=Lib.hid e;have HM:=Lib.hid h;have hcl:(l7 m).length=m.lines.length:=List.length_map _;have Sk:=Lib.hid hcl;clear h hi e hcl;obtain ⟨n,hn⟩:∃ x,m.lines.length=x:=⟨_,rfl⟩
 have HN:=Lib.hid hn;rw [hn] at c1 hl;clear hn
 go_enter Tryz.func30,Tryz.ntmps30
 go_wp2_with fail
 go_loopw [3,14] (fun v i wl=>∃ (j:Nat),j≤n∧i=.int .i64 j∧Below w.heap.size w wl∧wl.ownsRow w.heap.size 3 1 v j (aV ((l7 m).take j))) (fun _ i _=>n - (intOf i).toNat)
 case atStart=>exact ⟨0,Nat.zero_le _,rfl,Below.refl _ _,World.ownsRow_nil w w.heap.size 3 1⟩
 case round =>
  obtain ⟨j,hj,rfl,hbl,hO⟩:=hrel;obtain ⟨sa,sc,rfl⟩:=aB hO
  by_cases hlt:j < n
  ·
   have dG:(j:Int) < n:=by omega
   have hjl:j < m.lines.length:=by have:=HN.out;omega
   obtain ⟨g,cap,eg,hcap,q0,q1,q2,q3,-⟩:=jY HM.out hjl;have YC:=HE.out.symm.trans eg;simp only [Value.slice.injEq] at YC;obtain ⟨rfl,-,rfl⟩:=YC;have d0:=cell_later hbl q0;have d1:=cell_later hbl q1;have d2:=cell_later hbl q2;have d3:=cell_later hbl q3;have hgs:=oV m.lines (fun l=>(l.cnt:Int)) hjl;rw [← sV hjl] at hgs;obtain ⟨⟨lb,ls,lp,ln⟩,hl9⟩:∃ x,aC m j=x:=⟨_,rfl⟩
   rw [hl9] at d0 d1 d2 d3 hgs;dsimp only at d0 d1 d2 d3 hgs
   change aV ((l7 m).take (j+1))=aV ((l7 m).take j) ++ _ at hgs
   have ZR:=Lib.hid hgs;have aa9:(n:Int)≤lc:=by have:=HN.out;omega
   obtain ⟨wx,hwx⟩:∃ x,wr.alloc (.cells #[.int .i64 (lb:Int),.int .i64 (ls:Int),.int .i64 (lp:Int),.int .i64 (ln:Int)] 73)=x:=⟨_,rfl⟩
   have HB:Hid (Below w.heap.size w wx):=Lib.hid (by rw [← hwx];exact hbl.alloc hbl.size _);have HO:Hid (wx.ownsRow w.heap.size 3 1 (.slice sa j sc) j (aV ((l7 m).take j))):=Lib.hid (by rw [← hwx];exact hO.alloc _);have hxn:=heap_alloc_new wr (.cells #[.int .i64 (lb:Int),.int .i64 (ls:Int),.int .i64 (lp:Int),.int .i64 (ln:Int)] 73);have z3:=ah _ _ hxn 3 _ rfl;rw [hwx] at z3;clear hxn hgs hl9 hO hbl q0 q1 q2 q3 eg;subst hwx
   go_wp2_with (at_builtin;refine aM ?_)
   refine bR ?_;refine aR rfl _ _ 42 rfl w.heap.size 3 i0 _ 1 8 Tryz.underlying42 HI.out hz0 hz1 hz2 rfl (.slice sa j sc) j _ rfl (HO.out.alloc _) (some ⟨wr.heap.size+1,0,none⟩) 1 1 [.int .i64 (ln:Int)] rfl rfl (fun h=>by cases h) (sZ (w:=wr.alloc (.cells #[.int .i64 (lb:Int),.int .i64 (ls:Int),.int .i64 (lp:Int),.int .i64 (ln:Int)] 73)) (n:=wr.heap.size+1) (by simp) [.int .i64 (ln:Int)] 3) (by simp [Value.oneCell']) (by unfold maxLen;omega) (aZ (by omega)) (by have:=HB.out.size;(try simp at this);simp;omega) ?_;intro v7 w7 k1 k20 _ _;have uI:=HB.out.trans (dW HO.out k20 HB.out.size);rw [← ZR.out] at k1;have K1:=Lib.hid k1;clear k1 k20;go_wp2;go_roundw
   case rel=>exact ⟨j+1,hlt,by go_num,uI,K1.out⟩
   case measure=>simp [intOf];omega
  ·
   obtain rfl:j=n:=by omega
   have hall:(l7 m).take j=l7 m:=List.take_of_length_le (by rw [Sk.out,HN.out];exact Nat.le_refl _);rw [hall] at hO;have HO:=Lib.hid hO;have HB:=Lib.hid hbl;clear hO hbl hall;go_wp2;go_ret
   exact ⟨_,rfl,by rw [Sk.out,HN.out];exact HO.out,HB.out⟩
theorem nG {w:World}{o:Col}{M b:Nat}{P:ay}{m:aH}{v:bV}(h:aN w o M b P m v)(hl:m.bH.length=P.parts.length):Calls Tryz.prog 31 #[.pointer (some ⟨b,0,none⟩)] w (iX w (j3 m)):=by
 obtain ⟨i0,hi,hz0,hz1,hz2⟩:=info_parts bJ;have HI:=Lib.hid hi;have hsm:=h.small.2.2;have c6:=h.cell 6 (u:=v.bH) (by unfold bC;rfl);obtain ⟨la,lc,e⟩:=h.bH.slice;rw [e] at c6;have HE:=Lib.hid e;have HM:=Lib.hid h;have hcl:(j3 m).length=P.parts.length:=(List.length_map _).trans hl;have Sk:=Lib.hid hcl;have Gs:=Lib.hid hl;clear h hi e hcl hl;obtain ⟨n,hn⟩:∃ x,P.parts.length=x:=⟨_,rfl⟩
 have HN:=Lib.hid hn;rw [hn] at c6 hsm;clear hn
 go_enter Tryz.func31,Tryz.ntmps31
 go_wp2_with fail
 go_loopw [3,13] (fun v i wl=>∃ (j:Nat),j≤n∧i=.int .i64 j∧Below w.heap.size w wl∧wl.ownsRow w.heap.size 3 1 v j (aV ((j3 m).take j))) (fun _ i _=>n - (intOf i).toNat)
 case atStart=>exact ⟨0,Nat.zero_le _,rfl,Below.refl _ _,World.ownsRow_nil w w.heap.size 3 1⟩
 case round =>
  obtain ⟨j,hj,rfl,hbl,hO⟩:=hrel;obtain ⟨sa,sc,rfl⟩:=aB hO
  by_cases hlt:j < n
  ·
   have dG:(j:Int) < n:=by omega
   have hjl:j < P.parts.length:=by have:=HN.out;omega
   have hjb:j < m.bH.length:=by have:=Gs.out;omega
   obtain ⟨gb,cb,gt,ct,B,eg,hcap,-,-,p1,-,hpx⟩:=Bl HM.out hjl;have YC:=HE.out.symm.trans eg;simp only [Value.slice.injEq] at YC;obtain ⟨rfl,-,rfl⟩:=YC;have d1:=cell_later hbl p1;have hact:=HM.out.acts j hjl;obtain ⟨hp,hpb⟩:=hpx;rw [hpb] at hact;have hA:=Act.below hact (M+207) hbl;have hgs:=oV m.bH Prod.snd hjb;have hbe:m.bH[j]=bB m j:=by unfold bB;rw [List.getElem?_eq_getElem hjb];rfl
   rw [hbe] at hgs
   change aV ((j3 m).take (j+1))=aV ((j3 m).take j) ++ _ at hgs
   have ZR:=Lib.hid hgs;have HA:=Lib.hid hA;have HB:=Lib.hid hbl;have HO:=Lib.hid hO;have aa9:(n:Int)≤lc:=by have:=HN.out;omega
   clear hgs hbe hA hact hp hpb p1 eg hO hbl
   go_wp2_with fail
   refine (Mv HA.out).mono ?_;rintro e w5 ⟨rfl,rfl⟩
   go_wp2_with (at_builtin;refine aM ?_)
   refine bR ?_;refine aR rfl _ _ 42 rfl w.heap.size 3 i0 _ 1 8 Tryz.underlying42 HI.out hz0 hz1 hz2 rfl (.slice sa j sc) j _ rfl (HO.out.alloc _) (some ⟨wr.heap.size,0,none⟩) 1 1 [.int .i64 (bB m j).2] rfl rfl (fun h=>by cases h) (sZ (w:=wr) (n:=wr.heap.size) (by simp) [.int .i64 (bB m j).2] 3) (by simp [Value.oneCell']) (by unfold maxLen;omega) (aZ (by omega)) (by have:=HB.out.size;(try simp at this);simp;omega) ?_;intro v7 w7 k1 k20 _ _;have uI:=HB.out.trans (dW HO.out k20 HB.out.size);rw [← ZR.out] at k1;have K1:=Lib.hid k1;clear k1 k20;go_wp2;go_roundw
   case rel=>exact ⟨j+1,hlt,by go_num,uI,K1.out⟩
   case measure=>simp [intOf];omega
  ·
   obtain rfl:j=n:=by omega
   have hall:(j3 m).take j=j3 m:=List.take_of_length_le (by rw [Sk.out,HN.out];exact Nat.le_refl _);rw [hall] at hO;have HO:=Lib.hid hO;have HB:=Lib.hid hbl;clear hO hbl hall;go_wp2;go_ret
   exact ⟨_,rfl,by rw [Sk.out,HN.out];exact HO.out,HB.out⟩
def pW (m:aH)(k:Int):Prop:=0≤k∧k < m.fed.length
instance (m:aH) (k:Int):Decidable (pW m k):=by unfold pW;infer_instance
def Fa (w:World)(o:Col)(M b:Nat)(P:ay)(m:aH)(k:Int)(ts:List Int)(e:Ending)(w':World):Prop :=
 ∃ o' v',e=.returned (.int .i64 0)∧Turn o o' (dm M) w w'∧aN w' o' M b P (oU m k.toNat ts) v'
def oJ (w:World)(o:Col)(M b:Nat)(P:ay)(m:aH)(k:Int)(ts:List Int):Ending→World→Prop :=
 if pW m k then Fa w o M b P m k ts else vC (.int .i64 1) w
theorem NM {w:World}{o:Col}{M b ct:Nat}{P:ay}{m:aH}{v:bV}{ta:Option Addr}{n tc:Nat}{ts:List Int}{o2:Col}(h:aN w o M b P m v)(k:Int)(hts:Ints w o2 ct (.slice ta n tc) ts)(hl:(∀ r∈m.fed,r.length+ts.length≤20000000000000)) :
  Calls Tryz.prog 60 #[.pointer (some ⟨b,2,none⟩),.int .i64 k,.slice ta n tc] w (oJ w o M b P m k ts):=by
 have c2:=h.cell 2 (u:=.slice (some ⟨v.fed,0,none⟩) m.fed.length m.fed.length) (by unfold bC;rfl);have HM:=Lib.hid h;have hsm:=h.small.1;clear h;unfold oJ
 by_cases h0:k < 0
 ·
  rw [if_neg (by unfold pW;omega)]
  go_enter Tryz.func60,Tryz.ntmps60
  go_wp2;go_ret
  exact ⟨rfl,rfl⟩
 ·
  by_cases h1:k < m.fed.length
  ·
   rw [if_pos (by unfold pW;omega)];obtain ⟨x,rfl⟩:∃ x:Nat,k=x:=⟨k.toNat,by omega⟩
   have hx:x < m.fed.length:=by omega
   obtain ⟨ra,rc,-,r1,r2,rf⟩:=HM.out.fed.at hx;obtain rfl:=hts.len;obtain ⟨hnone,hnews⟩:=hts.news;have hle:(rowAt m.fed x).length+ts.length≤20000000000000:=by
    have hh:rowAt m.fed x=m.fed[x]:=by unfold rowAt;rw [List.getElem?_eq_getElem hx];rfl
    rw [hh];exact hl _ (List.getElem_mem hx)
   unfold Fa;rw [Int.toNat_natCast];obtain ⟨i0,hi,hz0,hz1,hz2⟩:=info_parts bJ;have HI:=Lib.hid hi;have jL:=Lib.hid hnone;have ou:=Lib.hid hnews;have HR:=Lib.hid r2;have wK:=Lib.hid hle;obtain ⟨rl,hrl⟩:∃ y,(rowAt m.fed x).length=y:=⟨_,rfl⟩
   rw [hrl] at r1 HR;have mV:=Lib.hid hrl;have hnn:decide (m.fed.length≤x)=false:=decide_eq_false (by omega);clear hnone hnews r2 hle hrl hl hts hi
   go_enter Tryz.func60,Tryz.ntmps60
   go_wp2_with fail
   refine kL (fun w'=>w'.cell? ⟨b,2,none⟩=some (.slice (some ⟨v.fed,0,none⟩) m.fed.length m.fed.length)∧w'.cell? ⟨v.fed,x,none⟩=some (.slice ra rl rc)) [0,1,2,3,4,5,6,7,8,9,10,11,12] [] 13 [14,15] (by kernel_rfl) (by kernel_rfl) (by kernel_rfl) rfl (fun _ _ hx h=>⟨hx.cell h.1,hx.cell h.2⟩) ⟨c2,r1⟩ ?_;intro Q' hQ';simp only [pk];simp only [List.nil_append,pk];refine aA ?_;refine av ?_
   go_wp2_with (at_builtin;refine aM ?_)
   refine bR ?_;refine dA rfl _ _ 42 rfl o (M+16+x) 3 i0 _ 8 Tryz.underlying42 HI.out hz0 hz1 hz2 rfl (.slice ra rl rc) (aV (rowAt m.fed x)) rfl (HR.out.turn ((Turn.refl o (fun _=>False) _).drewN 1) (fun h=>h)) ta ts.length tc (aV ts) rfl (aD _) jL.out ou.out (gT _) (by rw [aD];have:=wK.out;unfold maxLen;omega) (aZ (by rw [aD];have:=wK.out;omega)) ?_;intro v7 w7 T7 O7;obtain ⟨JE,xw,hv7⟩:=O7.slice;simp only [List.length_append,List.length_map] at hv7;subst hv7;have M7:=(HM.out.drewN 1).Ri (l:=rowAt m.fed x ++ ts) hx T7 (by rw [aV,List.map_append];exact O7);have t2:=T7.cell c2 (by show ¬ o b=M+16+x;rw [HM.out.blk.2];omega);have Ur:=T7.cell r1 (by show ¬ o v.fed=M+16+x;rw [HM.out.fed.blk.2];omega);have X7:=(HM.out.drewN 1).fed.blk.turn T7 (by omega);have s2:=X7.frozen x;have pR:=Lib.hid M7;clear M7 X7 T7 O7 ou c2 r1;go_wp2;refine ⟨⟨t2,Ur⟩,?_⟩;clear t2;go_wp2;go_ret
   exact ⟨_,_,rfl,((Turn.refl o (dm M) w).drewN 1).trans (pR.out.2.mono Mine.s) (fun _ h=>h),pR.out.1⟩
  ·
   rw [if_neg (by unfold pW;omega)]
   go_enter Tryz.func60,Tryz.ntmps60
   go_wp2;go_ret
   exact ⟨rfl,rfl⟩
theorem Fa.slot {w:World}{o:Col}{M b:Nat}{P:ay}{m:aH}{k:Int}{ts:List Int}{e:Ending}{w':World}(h:oJ w o M b P m k ts e w'):∃ y,e=.returned (.int .i64 y):=by
 unfold oJ at h
 split at h
 ·
  obtain ⟨_,_,h,_⟩:=h;exact ⟨_,h⟩
 ·
  exact ⟨_,h.1⟩
theorem H8 {w:World}{o:Col}{M b ct:Nat}{P:ay}{m:aH}{v:bV}{ta:Option Addr}{n tc:Nat}{ts:List Int}{o2:Col}(h:aN w o M b P m v)(k:Int)(hts:Ints w o2 ct (.slice ta n tc) ts)(hl:(∀ r∈m.fed,r.length+ts.length≤20000000000000)) :
  Calls Tryz.prog 25 #[.pointer (some ⟨b,0,none⟩),.int .i64 k,.slice ta n tc] w (oJ w o M b P m k ts):=by
 have HM:=Lib.hid h;have JX:=Lib.hid hts;clear h hts
 go_enter Tryz.func25,Tryz.ntmps25
 go_wp2_with fail
 refine (NM HM.out k JX.out hl).mono ?_;intro e w1 H;obtain ⟨y,rfl⟩:=Fa.slot H;have HH:=Lib.hid H;clear H;go_wp2;go_ret
 exact HH.out
def WQ (w0 w:World)(o:Col)(M b:Nat)(P:ay)(m:aH)(k:Int)(ts:List Int)(e:Ending)(w':World):Prop :=
 ∃ o' v',e=.returned (.int .i64 (if pW m k then 0 else 1))∧Turn o o' (bZ M) w w'∧gF w0 w' o' M b P (if pW m k then oU m k.toNat ts else m) v'
theorem NP {w0 w:World}{o o2:Col}{M b ct:Nat}{P:ay}{m:aH}{v:eG}{ta:Option Addr}{n tc:Nat}{ts:List Int}(h:gF w0 w o M b P m v)(hM:1≤M)(k:Int)(hts:Ints w o2 ct (.slice ta n tc) ts)(hl:(∀ r∈m.fed,r.length+ts.length≤20000000000000))(aak:m.fed.length≤16) :
  Calls Tryz.prog 42 #[.pointer (some ⟨b,0,none⟩),.int .i64 k,.slice ta n tc] w (WQ w0 w o M b P m k ts):=by
 have b12:=h.cell 12 rfl;obtain ⟨nf,hnf⟩:∃ x,m.fed.length=x:=⟨_,rfl⟩
 by_cases h1:k < 0
 ·
  have hi:¬ pW m k:=fun hx=>by have:=hx.1;omega
  have HI:=Lib.hid hi;rw [hnf] at b12;have HZ:=Lib.hid h;clear h hts hl aak hi hnf
  go_enter Tryz.func42,Tryz.ntmps42
  go_wp2;go_ret
  exact ⟨o,v,by rw [if_neg HI.out];rfl,Turn.refl _ _ _,by rw [if_neg HI.out];exact HZ.out⟩
 by_cases h2:k < nf
 ·
  have hi:pW m k:=⟨by omega,by omega⟩;obtain ⟨k,rfl⟩:∃ x:Nat,k=x:=⟨k.toNat,by omega⟩
  have WR:=Lib.hid hi;have hk:k < m.fed.length:=by omega
  obtain ⟨ra,rc,r0,r1,r2,f1⟩:=h.ins.at hk;have hrb:(rowAt m.fed k).length+ts.length≤20000000000000:=by
   unfold rowAt;rw [List.getElem?_eq_getElem hk];exact hl _ (List.getElem_mem hk)
  obtain ⟨rl,hrl⟩:∃ x,(rowAt m.fed k).length=x:=⟨_,rfl⟩
  have htl:ts.length=n:=hts.len.symm;rw [hrl] at r1 r2 hrb;rw [hnf] at b12;have HZ:=Lib.hid h;have HK:=Lib.hid hk;have mV:=Lib.hid hrl;have wM:=Lib.hid htl;have HR2:=Lib.hid r2;obtain ⟨hnone,hnews⟩:=hts.news;have jL:=Lib.hid hnone;have ou:=Lib.hid hnews;have HRB:=Lib.hid hrb;obtain ⟨i0,hi0,hz0,hz1,hz2⟩:=info_parts bJ;have HI:=Lib.hid hi0;have hki:(k:Int) < nf:=h2;clear h hk hrl htl r0 r2 hnone hnews hts hl aak hi hnf h2 hrb hi0
  go_enter Tryz.func42,Tryz.ntmps42
  go_wp2_with fail
  refine kL (fun w'=>w'.cell? ⟨b,12,none⟩=some (.slice (some ⟨v.ins,0,none⟩) nf nf)∧w'.cell? ⟨v.ins,k,none⟩=some (.slice ra rl rc)) [0,1,2,3,4,5,6,7,8,9,10,11,12] [] 13 [14,15] (by kernel_rfl) (by kernel_rfl) (by kernel_rfl) rfl (fun _ _ hx h=>⟨hx.cell h.1,hx.cell h.2⟩) ⟨b12,r1⟩ ?_;intro Q2 lq;simp only [pk];simp only [List.nil_append,pk];refine aA ?_;refine av ?_
  go_wp2_with (at_builtin;refine aM ?_)
  refine bR ?_;refine dA rfl _ _ 42 rfl o (M+16+k) 3 i0 _ 8 Tryz.underlying42 HI.out hz0 hz1 hz2 rfl (.slice ra rl rc) (aV (rowAt m.fed k)) rfl (HR2.out.turn (Turn.refl _ (fun _=>False) _).drew (fun h=>h)) ta n tc (aV ts) rfl (by rw [aD];exact wM.out) jL.out (fun ad had j u hu=>ou.out ad had j u hu) (gT _) (by rw [aD,mV.out];have:=HRB.out;have:=wM.out;unfold maxLen;omega) (aZ (by rw [aD,mV.out];have:=HRB.out;have:=wM.out;omega)) ?_;intro v6 w6 T6 O6;rw [show aV (rowAt m.fed k) ++ aV ts=aV (rowAt m.fed k ++ ts) by simp [aV]] at O6;have hz:=HZ.out.quiet (Turn.refl _ (fun _=>False) _).drew;obtain ⟨u13,s13⟩:∃ u,w6.cell? ⟨v.ins,k,none⟩=some u:=⟨_,(hz.ins.blk.turn T6 (by omega)).cell k _ (by rw [List.getElem?_toArray,List.getElem?_eq_getElem (by rw [hz.ins.len];exact HK.out)])⟩
  have f13:=(hz.ins.blk.turn T6 (by omega)).frozen k;have t12:=T6.cell (p:=⟨b,12,none⟩) b12 (by show ¬ o b=M+16+k;rw [HZ.out.blk.2];omega);have Ur:=T6.cell (p:=⟨v.ins,k,none⟩) r1 (by show ¬ o v.ins=M+16+k;rw [HZ.out.ins.blk.2];omega);have NE:=Lib.hid (hz.Rv hM HK.out T6 O6);have mQ:=Lib.hid (Turn.refl o (bZ M) w).drew;obtain ⟨sp6,cp6,hv6⟩:=O6.slice;obtain ⟨L6,hL6⟩:∃ x,(aV (rowAt m.fed k ++ ts)).length=x:=⟨_,rfl⟩
  rw [hL6] at hv6;clear hL6;subst hv6;clear hz T6 O6 HR2 b12 r1;generalize ext o w.drew.heap.size (M+16+k)=o6 at *;go_wp2;refine ⟨⟨t12,Ur⟩,?_⟩;clear t12 Ur;go_wp2;go_ret
  exact ⟨o6,_,by rw [if_pos WR.out];rfl,mQ.out.trans NE.out.2 bM.s,by rw [if_pos WR.out,Int.toNat_natCast];exact NE.out.1⟩
 ·
  have hi:¬ pW m k:=fun hx=>by have:=hx.2;omega
  have HI:=Lib.hid hi;rw [hnf] at b12;have HZ:=Lib.hid h;clear h hts hl aak hi hnf
  go_enter Tryz.func42,Tryz.ntmps42
  go_wp2;go_ret
  exact ⟨o,v,by rw [if_neg HI.out];rfl,Turn.refl _ _ _,by rw [if_neg HI.out];exact HZ.out⟩
section
variable {w0 w:World} {o:Col} {M b:Nat} {P:ay} {m:aH} {v:eG}
theorem H9 (h:gF w0 w o M b P m v)(k:Int)(hl:∀ r∈m.out,r.length≤17600000000000):Calls Tryz.prog 46 #[.pointer (some ⟨b,0,none⟩),.int .i64 k] w (iX w (tK m k)):=by
 have b13:=h.cell 13 rfl;obtain ⟨nf,hnf⟩:∃ x,m.out.length=x:=⟨_,rfl⟩
 unfold tK;rw [hnf] at b13 ⊢
 by_cases h1:k < 0
 ·
  rw [if_neg (by omega)];clear h hl hnf
  go_enter Tryz.func46,Tryz.ntmps46
  go_wp2;go_ret
  exact ⟨_,rfl,World.ownsRow_nil _ _ _ _,Below.refl _ _⟩
 by_cases h2:k < nf
 ·
  rw [if_pos (by omega)];obtain ⟨k,rfl⟩:∃ x:Nat,k=x:=⟨k.toNat,by omega⟩
  rw [Int.toNat_natCast];have hk:k < m.out.length:=by omega
  obtain ⟨ra,rc,r0,r1,r2,f1⟩:=h.outs.at hk;have hrb:(rowAt m.out k).length≤17600000000000:=by
   unfold rowAt;rw [List.getElem?_eq_getElem hk];exact hl _ (List.getElem_mem hk)
  have HR2:=Lib.hid r2.vals;have HRB:=Lib.hid hrb;obtain ⟨rl,hrl⟩:∃ x,(rowAt m.out k).length=x:=⟨_,rfl⟩
  rw [hrl] at r1 HR2;clear h hl hnf hk r0 r2 f1 hrb hrl
  go_enter Tryz.func46,Tryz.ntmps46
  go_wp2_with fail
  refine (iE _ _ _ _ _ HR2.out HRB.out).mono ?_;rintro e w1 ⟨v1,rfl,K1,hb1⟩;have HK:=Lib.hid K1;clear K1;go_wp2;go_ret
  exact ⟨_,rfl,HK.out,hb1⟩
 ·
  rw [if_neg (by omega)];clear h hl hnf
  go_enter Tryz.func46,Tryz.ntmps46
  go_wp2;go_ret
  exact ⟨_,rfl,World.ownsRow_nil _ _ _ _,Below.refl _ _⟩
theorem yV (h:gF w0 w o M b P m v)(hl:m.lines.length≤100000):Calls Tryz.prog 48 #[.pointer (some ⟨b,0,none⟩)] w (iX w (l7 m)):=by
 have b9:=h.cell 9 rfl;have hv:=h.has.vals;obtain ⟨a,c,e⟩:=h.has.slice;rw [e] at b9 hv;have HV:=Lib.hid hv;have HL:Hid ((uK m).length≤17600000000000):=Lib.hid (by rw [Bp];omega);obtain ⟨n,hn⟩:∃ x,m.lines.length=x:=⟨_,rfl⟩
 rw [hn] at b9 HV;clear h hl hv e hn
 go_enter Tryz.func48,Tryz.ntmps48
 go_wp2_with fail
 refine (iE _ _ _ _ (uK m) HV.out HL.out).mono ?_;rintro e w1 ⟨v1,rfl,K1,hb1⟩;have HK:=Lib.hid K1;clear K1;go_wp2;go_ret
 exact ⟨_,rfl,HK.out,hb1⟩
theorem BF (h:gF w0 w o M b P m v)(hl:m.bH.length=P.parts.length):Calls Tryz.prog 49 #[.pointer (some ⟨b,0,none⟩)] w (iX w (j3 m)):=by
 obtain ⟨i0,hi,hz0,hz1,hz2⟩:=info_parts bJ;have HI:=Lib.hid hi;have hsm:=h.small.2.2;have b14:=h.cell 14 rfl;obtain ⟨la,lc,e⟩:=h.acts.slice;rw [e] at b14;have HE:=Lib.hid e;have HM:=Lib.hid h;have hcl:(j3 m).length=P.parts.length:=(List.length_map _).trans hl;have Sk:=Lib.hid hcl;have Gs:=Lib.hid hl;clear h hi e hcl hl;obtain ⟨n,hn⟩:∃ x,P.parts.length=x:=⟨_,rfl⟩
 have HN:=Lib.hid hn;rw [hn] at b14 hsm;clear hn
 go_enter Tryz.func49,Tryz.ntmps49
 go_wp2_with fail
 go_loopw [3,4] (fun v i wl=>∃ (j:Nat),j≤n∧i=.int .i64 j∧Below w.heap.size w wl∧wl.ownsRow w.heap.size 3 1 v j (aV ((j3 m).take j))) (fun _ i _=>n - (intOf i).toNat)
 case atStart=>exact ⟨0,Nat.zero_le _,rfl,Below.refl _ _,World.ownsRow_nil w w.heap.size 3 1⟩
 case round =>
  obtain ⟨j,hj,rfl,hbl,hO⟩:=hrel;obtain ⟨sa,sc,rfl⟩:=aB hO;have d14:=cell_later hbl b14
  by_cases hlt:j < n
  ·
   have dG:(j:Int) < n:=by omega
   have hjl:j < P.parts.length:=by have:=HN.out;omega
   have hjb:j < m.bH.length:=by have:=Gs.out;omega
   obtain ⟨ga,cap,_,_,_,_,ea,hcap,_,_,_,_,_,a5,_⟩:=HM.out.RU hjl;have YC:=HE.out.symm.trans ea;simp only [Value.slice.injEq] at YC;obtain ⟨rfl,-,rfl⟩:=YC;have d5:=cell_later hbl a5;have hgs:=oV m.bH Prod.snd hjb;have hbe:m.bH[j]=bB m j:=by unfold bB;rw [List.getElem?_eq_getElem hjb];rfl
   rw [hbe] at hgs
   change aV ((j3 m).take (j+1))=aV ((j3 m).take j) ++ _ at hgs
   obtain ⟨fx,hfx⟩:∃ x,(bB m j).2=x:=⟨_,rfl⟩
   rw [hfx] at hgs d5;have ZR:=Lib.hid hgs;have HB:=Lib.hid hbl;have HO:=Lib.hid hO;have aa9:(n:Int)≤lc:=by have:=HN.out;omega
   clear hgs hbe a5 ea hO hbl hfx
   go_wp2_with (at_builtin;refine aM ?_)
   refine bR ?_;refine aR rfl _ _ 42 rfl w.heap.size 3 i0 _ 1 8 Tryz.underlying42 HI.out hz0 hz1 hz2 rfl (.slice sa j sc) j _ rfl (HO.out.alloc _) (some ⟨wr.heap.size,0,none⟩) 1 1 [.int .i64 fx] rfl rfl (fun h=>by cases h) (sZ (w:=wr) (n:=wr.heap.size) (by simp) [.int .i64 fx] 3) (by simp [Value.oneCell']) (by unfold maxLen;omega) (aZ (by omega)) (by have:=HB.out.size;(try simp at this);simp;omega) ?_;intro v7 w7 k1 k20 _ _;have uI:=HB.out.trans (dW HO.out k20 HB.out.size);rw [← ZR.out] at k1;have K1:=Lib.hid k1;clear k1 k20;go_wp2;go_roundw
   case rel=>exact ⟨j+1,hlt,by go_num,uI,K1.out⟩
   case measure=>simp [intOf];omega
  ·
   obtain rfl:j=n:=by omega
   have hall:(j3 m).take j=j3 m:=List.take_of_length_le (by rw [Sk.out,HN.out];exact Nat.le_refl _);rw [hall] at hO;have HO:=Lib.hid hO;have HB:=Lib.hid hbl;clear hO hbl hall;go_wp2;go_ret
   exact ⟨_,rfl,by rw [Sk.out,HN.out];exact HO.out,HB.out⟩
end
theorem Fb {w0 w:World}{o:Col}{M b:Nat}{P:ay}{m:aH}{v:eG}(h:gF w0 w o M b P m v){e:OZ}(he:m.last=some e) :
  Calls Tryz.prog 65 #[.pointer (some ⟨b,0,none⟩)] w (BD w0 w o M b P (aY P m)):=by
 have hst:aY P m=({ e with cells:=[] },m):=by unfold aY;rw [he]
 rw [hst];have hl:=h.last;rw [he] at hl
 rcases hl with ⟨h1,-⟩ | ⟨e',h1,hh,h3,h4,h5,⟨a,c,h6⟩,h7⟩
 ·
  cases h1
 obtain rfl:=Option.some.inj h1;have h9:=h.quiet (Turn.of_below o (M+71) (au w (.cells #[.int .i64 0,.int .u8 0,.int .i64 0,.slice none 0 0,.int .u8 0] 69)));have c17:=h9.cell 17 (u:=.int .i64 v.op) rfl;have c18:=h9.cell 18 (u:=.int .u8 v.kd) rfl;have c19:=h9.cell 19 (u:=.int .i64 v.ln) rfl;have c20:=h9.cell 20 (u:=v.lc) rfl;have c21:=h9.cell 21 (u:=.int .u8 v.lh) rfl;rw [h3] at c17;rw [h4] at c18;rw [h5] at c19;rw [h6] at c20;rw [h7] at c21;have HZ:=Lib.hid h;clear h h9 h3 h4 h5 h6 h7 h1 he hst;obtain ⟨eo,ek,el,ec,eh⟩:=e;dsimp only at hh c17 c18 c19 c21
 rcases hh with rfl | rfl
 ·
  go_enter Tryz.func65,Tryz.ntmps65
  go_wp2;refine bodyPost_ret_by (results_cell_row rfl _ _ _ _ _ _ _ rfl (heap_alloc_new w (.cells #[.int .i64 eo,.int .u8 ek,.int .i64 el,.slice a 0 c,.int .u8 3] 69)) Tryz.underlying69 rfl (by kernel_rfl)) rfl ?_;have hb2:=au w (.cells #[.int .i64 eo,.int .u8 ek,.int .i64 el,.slice a 0 c,.int .u8 3] 69);have T2:=Turn.of_below o (M+71) hb2;exact ⟨_,v,_,rfl,HZ.out.quiet T2,T2.mono (fun _ h=>h.elim),.inl ⟨rfl,_,_,rfl⟩⟩
 ·
  go_enter Tryz.func65,Tryz.ntmps65
  go_wp2;refine bodyPost_ret_by (results_cell_row rfl _ _ _ _ _ _ _ rfl (heap_alloc_new w (.cells #[.int .i64 eo,.int .u8 ek,.int .i64 el,.slice a 0 c,.int .u8 4] 69)) Tryz.underlying69 rfl (by kernel_rfl)) rfl ?_;have hb2:=au w (.cells #[.int .i64 eo,.int .u8 ek,.int .i64 el,.slice a 0 c,.int .u8 4] 69);have T2:=Turn.of_below o (M+71) hb2;exact ⟨_,v,_,rfl,HZ.out.quiet T2,T2.mono (fun _ h=>h.elim),.inl ⟨rfl,_,_,rfl⟩⟩
theorem DV {w0 w:World}{o:Col}{M b:Nat}{P:ay}{m:aH}{v:eG}{F s:Nat}(h:gF w0 w o M b P m v)(hM:1≤M)(hP:tX P)(hf:iM P)(hm:lH P F s m)(hs:s≤1000000000)(hL:Bo P m) :
  Calls Tryz.prog 65 #[.pointer (some ⟨b,0,none⟩)] w (BD w0 w o M b P (aY P m)):=by
 rcases hl:m.last with _ | e
 ·
  exact Kg h hM hP hf hm hs hL hl
 ·
  exact Fb h hl
def WS (w0 w:World)(o:Col)(M b:Nat)(P:ay)(r:Int × aH)(e:Ending)(w':World):Prop :=
 ∃ o' v',e=.returned (.tuple #[.int .u8 r.1,.int .i64 0])∧gF w0 w' o' M b P r.2 v'∧Turn o o' (bZ M) w w'
def aal (P:ay)(S:Int)(tt:Int)(R:Int × aH)(p:Nat)(g:Nat)(hh:Int)(m':aH)(d':Nat):Prop :=
 (hh=0∧g=meas S.toNat tt m' d'∧Ready P m' d'∧d' < S.toNat∧m'.periods=p∧eU P S tt m'=R) ∨
 (hh=1∧Ready P m' d'∧d' < S.toNat∧m'.periods=p+1∧eU P S tt m'=R)∨(hh≠0∧hh≠1∧R=(hh,m'))
theorem Sl {w0 w:World}{o:Col}{M b:Nat}{P:ay}{S:Int}{m:aH}{v:eG}{F s:Nat}(n:Nat)(h:gF w0 w o M b P m v)(hM:1≤M)(hS:bW P=(S,0))(hf:iM P)(hm:lH P F s m)(hs:s≤900000000)(hn:n≤8)(hL:Bo P m){d:Nat}(hrd:Ready P m d)(hd:d < S.toNat) :
  Calls Tryz.prog 44 #[.pointer (some ⟨b,0,none⟩),.int .i64 n] w (WS w0 w o M b P (eU P S (m.periods+n) m)):=by
 have hP:=rJ hS;have hSb:=rest_start hS;have Rz:=hm.per;obtain ⟨R,hR⟩:∃ x,eU P S (m.periods+n) m=x:=⟨_,rfl⟩
 have hml:meas S.toNat ((m.periods:Int)+n) m d≤((m.periods:Int)+n - (m.periods:Int)).toNat*S.toNat:=EC hd;have hmb:meas S.toNat ((m.periods:Int)+n) m d≤1048576:=by
  refine Nat.le_trans hml ?_;have h2:((m.periods:Int)+n - (m.periods:Int)).toNat*S.toNat≤8*131072:=Nat.mul_le_mul (by omega) (by omega);omega
 obtain ⟨tt,hto⟩:∃ x:Int,(m.periods:Int)+n=x:=⟨_,rfl⟩
 rw [hto] at hR hml hmb ⊢;have HZ:=Lib.hid h;have Yl:=Lib.hid hrd;have Pb:=Lib.hid hm;have HRR:=Lib.hid hR;have HTO:=Lib.hid hto;have HKL:=Lib.hid hL;have hn0:¬ (n:Int) < 0:=by omega
 have hn8:¬ (8:Int) < n:=by omega
 obtain ⟨p0,hp0⟩:∃ x,m.periods=x:=⟨_,rfl⟩
 have HP0:=Lib.hid hp0;rw [hp0] at HTO;have G6:=Lib.hid hS;have wL:=Lib.hid hP;obtain ⟨G,hG⟩:∃ x,meas S.toNat tt m d=x:=⟨_,rfl⟩
 rw [hG] at hmb;have HG:=Lib.hid hG;have HMB:Hid (s+G≤1000000000):=Lib.hid (by omega);have HN8:=Lib.hid hn;clear h hm hrd hR hto hml hG hL hp0 hS hP hSb Rz hs hmb
 go_enter Tryz.func44,Tryz.ntmps44
 go_wp2_with fail
 go_loopw [6] (fun i wl=>∃ (k:Nat) (q:Col) (v':eG) (m':aH) (s' d':Nat),k≤n∧i=.int .i64 k∧s'+meas S.toNat tt m' d'≤s+G∧Turn o q (bZ M) w wl∧gF w0 wl q M b P m' v'∧lH P F s' m'∧Bo P m'∧Ready P m' d'∧d' < S.toNat∧m'.periods=p0+k∧eU P S tt m'=R) (fun i _=>n - (intOf i).toNat)
 case atStart=>exact ⟨0,o,v,m,s,d,Nat.zero_le _,rfl,by have:=HG.out;omega,Turn.refl _ _ _,HZ.out,Pb.out,HKL.out,Yl.out,hd,HP0.out,HRR.out⟩
 case round =>
  clear HZ Pb HKL Yl HG HP0;obtain ⟨k,q,v',m',s',d',hk,rfl,hsg,T5,Z5,Ym,KL5,Yn,hd5,hp5,Wt⟩:=hrel
  by_cases hlt:k < n
  ·
   have dG:(k:Int) < n:=by omega
   have Yo:=Lib.hid hsg;have uJ:=Lib.hid T5;have DT:=Lib.hid Z5;have Wu:=Lib.hid Ym;have abb:=Lib.hid KL5;have Wv:=Lib.hid Yn;have HP5:=Lib.hid hp5;have Je:=Lib.hid Wt;obtain ⟨p,hp⟩:∃ x,p0+k=x:=⟨_,rfl⟩
   have HPK:=Lib.hid hp;rw [hp] at HP5;have Lp:Hid ((p:Int) < tt):=Lib.hid (by have:=HTO.out;omega);clear hsg T5 Z5 Ym KL5 Yn hp5 Wt hp
   go_wp2_with fail
   go_loopg [7] (meas S.toNat tt m' d') (fun g x wl=>∃ (q:Col) (v':eG) (m':aH) (s' d':Nat) (hh:Int),x=.int .u8 hh∧(hh=0∨hh=1→s'+meas S.toNat tt m' d'≤s+G)∧Turn o q (bZ M) w wl∧gF w0 wl q M b P m' v'∧lH P F s' m'∧Bo P m'∧aal P S tt R p g hh m' d')
   case atStart=>exact ⟨q,v',m',s',d',0,rfl,fun _=>Yo.out,uJ.out,DT.out,Wu.out,abb.out,.inl ⟨rfl,rfl,Wv.out,hd5,HP5.out,Je.out⟩⟩
   case round =>
    clear Yo uJ DT Wu abb Wv HP5 Je hd5;obtain ⟨q6,v6,m6,s6,d6,hh,rfl,hsg,T6,Z6,MO6,KL6,hmid⟩:=hrel;have mQ:=Lib.hid T6;have Hz:=Lib.hid Z6;have abd:=Lib.hid MO6;have abe:=Lib.hid KL6
    rcases hmid with ⟨rfl,hg,RD6,hd6,hp6,hR6⟩ | ⟨rfl,RD6,hd6,hp6,hR6⟩ | ⟨h0,h1,hR6⟩
    ·
     have hsg:=hsg (.inl rfl);have WT:(m6.periods:Int) < tt:=by have:=Lp.out;omega
     have hin:=Bt G6.out RD6 hd6 WT hR6;have hok:=pJ G6.out hf MO6;have hre:=jX G6.out RD6 tt WT hd6;have hmp:0 < meas S.toNat tt m6 d6:=rM.2 WT;have HKS:=Lib.hid (KL6.step (P:=P));have Bn:=Lib.hid hin;have Hw:=Lib.hid hok;have J9:=Lib.hid hre;have Yo:=Lib.hid hsg;have Yp:=Lib.hid hg;have HP6:=Lib.hid hp6;have HMP:=Lib.hid hmp;have hs6:s6≤1000000000:=by have:=HMB.out;omega
     clear hin hok hre hsg hg hp6 WT T6 Z6 MO6 KL6 RD6 hR6 hmp
     go_wp2_with fail
     refine (DV Hz.out hM wL.out hf abd.out hs6 abe.out).mono ?_;rintro e w7 ⟨o7,v7,cv,rfl,Z7,T7,I7⟩;obtain ⟨ca,cc,rfl⟩:=I7.slice;obtain ⟨⟨⟨FH,FI,FJ,EX,FK⟩,m2⟩,hr⟩:∃ x,aY P m6=x:=⟨_,rfl⟩
     rw [hr] at Z7 Bn Hw J9 HKS ⊢;unfold Ws;dsimp only at Z7 Bn Hw J9 HKS ⊢;have HZ7:=Lib.hid Z7;have mW:=Lib.hid (mQ.out.trans T7 (fun _ h=>h));clear Z7 I7 T7 Hz mQ hr;have hfl:=Bu (.int .i64 FH) (.int .u8 FI) (.int .i64 FJ) (.slice ca EX.length cc)
     rcases Bn.out with ⟨he,d9,Ww,r9,p9,e9⟩ | ⟨he,Ww,d9,hdS,r9,p9,-,e9⟩ | ⟨he0,he1,e9⟩
     ·
      subst he;obtain ⟨d9,Ww,Bv,Bw,-⟩:=J9.out (.inl rfl);have X:=Lib.hid (And.intro Bv (And.intro Bw (And.intro p9 e9)));clear Bv Bw p9 e9 r9;go_wp2
      go_roundg (meas S.toNat tt m2 d9)
      case rel=>exact ⟨o7,v7,m2,s6+1,d9,0,rfl,fun _=>by have:=Yo.out;have:=X.out.2.1;omega,mW.out,HZ7.out,Hw.out,HKS.out,.inl ⟨rfl,rfl,X.out.1,Ww,by rw [X.out.2.2.1];exact HP6.out,X.out.2.2.2⟩⟩
      case measure=>have:=X.out.2.1;have:=Yp.out;omega
     ·
      subst he;obtain ⟨d9,Ww,Bv,Bw,-⟩:=J9.out (.inr rfl);have X:=Lib.hid (And.intro Bv (And.intro Bw (And.intro p9 e9)));clear Bv Bw p9 e9 r9;go_wp2
      go_roundg 0
      case rel=>exact ⟨o7,v7,m2,s6+1,d9,1,rfl,fun _=>by have:=Yo.out;have:=X.out.2.1;omega,mW.out,HZ7.out,Hw.out,HKS.out,.inr (.inl ⟨rfl,X.out.1,Ww,by rw [X.out.2.2.1,HP6.out],X.out.2.2.2⟩)⟩
      case measure=>have:=HMP.out;have:=Yp.out;omega
     ·
      have X:=Lib.hid (And.intro he0 (And.intro he1 e9));clear he0 he1 e9;go_wp2
      go_roundg 0
      case rel=>exact ⟨o7,v7,m2,s6+1,0,FK,rfl,fun h=>absurd h (fun h=>h.elim X.out.1 X.out.2.1),mW.out,HZ7.out,Hw.out,HKS.out,.inr (.inr X.out)⟩
      case measure=>have:=HMP.out;have:=Yp.out;omega
    ·
     have hsg:=hsg (.inr rfl);have X:=Lib.hid (And.intro RD6 (And.intro hd6 (And.intro hp6 (And.intro hR6 hsg))));clear RD6 hd6 hp6 hR6 hsg T6 Z6 MO6 KL6;go_wp2;go_roundw
     case rel=>exact ⟨k+1,q6,v6,m6,s6,d6,hlt,by go_num,X.out.2.2.2.2,mQ.out,Hz.out,abd.out,abe.out,X.out.1,X.out.2.1,by rw [X.out.2.2.1,← HPK.out];omega,X.out.2.2.2.1⟩
     case measure=>simp [intOf];omega
    ·
     have hb0:(hh == 0)=false:=by rw [beq_eq_false_iff_ne];exact h0
     have hb1:(hh != 1)=true:=by rw [bne_iff_ne];exact h1
     subst hR6;clear hsg T6 Z6 MO6 KL6;go_wp2
     go_ret2
     rw [HRR.out];exact ⟨q6,v6,rfl,Hz.out,mQ.out⟩
  ·
   obtain rfl:k=n:=by omega
   have Nz:eU P S tt m'=(1,m'):=rO (by have:=HTO.out;omega);rw [Wt] at Nz;subst Nz;have uJ:=Lib.hid T5;have DT:=Lib.hid Z5;clear T5 Z5 Ym KL5 Yn Wt hsg;go_wp2
   go_ret2
   rw [HRR.out];exact ⟨q,v',rfl,DT.out,uJ.out⟩
end Go.Proofs.YtpdlngonocancaaGreat
namespace Go.Proofs.YtpdlngonocancaaGreat
section
variable {P:Program} {md:Region.Mode} {ops:Array Oper} {Q:Exit→Go.Act→World→Prop} {S:World→Prop}
def Lu (md:Region.Mode)(ops:Array Oper)(listed:Array Bool):Bool :=
 (List.range ops.size).all fun j=>!(listed.getD j false) || (match ops[j]? with | none=>true | some o=>o.after.all fun e=>!(Region.binds md e) || listed.getD e.on false)
theorem Fe {listed:Array Bool}(h:Lu md ops listed=true):fO md ops listed:=by
 intro j oj hj hl e he hb;have hlt:=(Array.getElem?_eq_some_iff.1 hj).1;have h1:=List.all_eq_true.1 h j (List.mem_range.2 hlt);rw [hl,hj] at h1;simp only [Bool.not_true,Bool.false_or] at h1;have h2:=Array.all_eq_true'.1 h1 e he;rw [hb] at h2
 simpa using h2
def WU (md:Region.Mode)(ops:Array Oper)(reads M:List Nat):Bool :=
 Region.noSelect ops && (reads.all fun i=>mY ops i || (List.range ops.size).all fun j=>iZ ops j || reads.contains j || M.contains j || fV md ops ops.size j i)
theorem Sm {reads M:List Nat}(h:WU md ops reads M=true):Region.noSelect ops=true∧∀ i∈reads,mY ops i=false→∀ j,j < ops.size→iZ ops j=true∨reads.contains j=true∨M.contains j=true∨fV md ops ops.size j i=true:=by
 simp only [WU,Bool.and_eq_true,List.all_eq_true,List.mem_range,Bool.or_eq_true] at h;refine ⟨h.1,fun i hi hany j hj=>?_⟩
 rcases h.2 i hi with h0 | h0
 ·
  rw [hany] at h0;cases h0
 rcases h0 j hj with ((h1 | h1) | h1) | h1
 ·
  exact .inl h1
 ·
  exact .inr (.inl h1)
 ·
  exact .inr (.inr (.inl h1))
 ·
  exact .inr (.inr (.inr h1))
theorem dB {id:Nat}{l:List Oper}{a:Go.Act}{w:World}(S:World→Prop)(reads M r:List Nat)(n:Nat)(hm:P.follows .mixedOrders=true)
  (hB:(WU .any l.toArray reads M && eX .any l.toArray (fun _=>true) r (Array.replicate l.toArray.size false) && r.all fun i=>reads.contains i)=true) (hlen:r.length+n=l.length) (hS:S w.drew)
  (h:∀ Q':Exit→Go.Act→World→Prop,(∀ a w,Q .normal a w→Q' .normal a w)→(∀ c a a' w,Q' (.panic c) a w→Q' (.panic c) a' w)→dO P l.toArray S (fun a'=>dM P .any l.toArray Q' S (nS l.toArray reads M) n (fu (Array.replicate l.length false) r) a' w.drew) (aX l.toArray r) a):(Code.region id l.toArray true).wp P Q a w:=by
 refine wp_region_noPanic ?_;refine wp_region_any hm ?_;simp only [Bool.and_eq_true] at hB;obtain ⟨⟨hb,hl⟩,hr⟩:=hB;obtain ⟨hsel,hbe⟩:=Sm hb;refine jU (S:=S) (B:=nS l.toArray reads M) _ _ _ _ ?_;have key:=fZ (P:=P) (md:=.any) (Q:=NoPanic Q) (S:=S) (reads:=reads) (M:=M) (n:=n) hsel (fun c a a' w h=>h) hbe r (Array.replicate l.toArray.size false) a { w with drawn:=w.drawn+1 } (fun i hi=>by simpa using List.all_eq_true.1 hr i hi)
  (fun j oj _ hl=>by rw [getD_replicate_false] at hl;cases hl) hl hS (by simpa using h (NoPanic Q) (fun _ _ h=>NoPanic.normal h) (fun c a a' w h=>h))
 rw [hlen] at key
 simpa using key
theorem dQ {reads M:List Nat}{r:List Nat}{n:Nat}{listed:Array Bool}{a:Go.Act}{w:World}(hQ:∀ c a a' w,Q (.panic c) a w→Q (.panic c) a' w)
  (hB:(WU md ops reads M && Lu md ops listed && eX md ops (fun _=>true) r listed && r.all fun i=>reads.contains i)=true) (hS:S w) (h:dO P ops S (fun a'=>dM P md ops Q S (nS ops reads M) n (fu listed r) a' w) (aX ops r) a):dM P md ops Q S (nS ops reads M) (r.length+n) listed a w:=by
 simp only [Bool.and_eq_true] at hB;obtain ⟨⟨⟨hb,hc⟩,hl⟩,hr⟩:=hB;obtain ⟨hsel,hbe⟩:=Sm hb;exact fZ hsel hQ hbe r listed a w (fun i hi=>by simpa using List.all_eq_true.1 hr i hi) (Fe hc) hl hS h
end
open Go.RowKit
def Ia (b:Bool)(ms:List Nat)(D:List Bool):List Nat:=(ms.zip D).filterMap fun x=>if x.2=b then some x.1 else none
def rV (base:Array Bool)(ms:List Nat)(D:List Bool):Array Bool:=fu base (Ia true ms D)
def NQ:Nat→List (List Bool)
 | 0=>[[]]
 | n+1=>(NQ n).map (true :: ·) ++ (NQ n).map (false :: ·)
theorem Ib:∀ (D:List Bool),D∈NQ D.length
 | []=>by simp [NQ]
 | b :: D=>by
  have:=Ib D;simp only [NQ,List.length_cons,List.mem_append,List.mem_map];cases b
  ·
   exact .inr ⟨D,this,rfl⟩
  ·
   exact .inl ⟨D,this,rfl⟩
def Lv (md:Region.Mode)(ops:Array Oper)(base:Array Bool)(ms:List Nat):Bool :=
 (NQ ms.length).all fun D=>D.all id || (decide (Region.ready md ops (rV base ms D)=Ia false ms D) && (List.range ms.length).all fun i=>D.getD i true || decide ((rV base ms D).setIfInBounds (ms.getD i 0) true=rV base ms (D.set i true)))
theorem Fg:∀ (ms:List Nat) (D:List Bool) (j:Nat),ms.length=D.length→j∈Ia false ms D→∃ i,i < ms.length∧D.getD i true=false∧ms.getD i 0=j
 | [],_,_,_,h=>by simp [Ia] at h
 | m :: ms,[],_,h,_=>by simp at h
 | m :: ms,d :: D,j,h,hj=>by
  unfold Ia at hj;rw [List.zip_cons_cons,List.filterMap_cons] at hj;cases d with
  | false =>
   simp only [if_true] at hj
   rcases List.mem_cons.1 hj with rfl | hj
   ·
    exact ⟨0,by simp,rfl,rfl⟩
   ·
    obtain ⟨i,h1,h2,h3⟩:=Fg ms D j (by simpa using h) hj;exact ⟨i+1,by simpa using h1,by simpa using h2,by simpa using h3⟩
  | true =>
   simp only [Bool.true_eq_false,if_false] at hj;obtain ⟨i,h1,h2,h3⟩:=Fg ms D j (by simpa using h) hj;exact ⟨i+1,by simpa using h1,by simpa using h2,by simpa using h3⟩
theorem count_set:∀ (D:List Bool) (i:Nat),D.getD i true=false→(D.set i true).count false+1=D.count false
 | [],i,h=>by simp at h
 | d :: D,0,h=>by
  have:d=false:=by simpa using h
  subst this;simp
 | d :: D,i+1,h=>by
  have ih:=count_set D i (by simpa using h);rw [List.set_cons_succ,List.count_cons,List.count_cons];omega
theorem BG:∀ (D:List Bool),D.count false=0→D=List.replicate D.length true
 | [],_=>rfl
 | d :: D,h=>by
  cases d with
  | false=>rw [List.count_cons_self] at h;omega
  | true =>
   rw [List.count_cons_of_ne (by decide)] at h;have ih:=BG D h;rw [List.length_cons,List.replicate_succ,← ih]
section
variable {P:Program} {ops:Array Oper} {md:Region.Mode} {S:World→Prop} {Q:Exit→Go.Act→World→Prop}
theorem vT {B:Nat→Bool}(ms:List Nat)(base:Array Bool)(I:List Bool→Go.Act→World→Prop)(m:Nat)(hOK:Lv md ops base ms=true)
  (hstep:∀ (i:Nat) (D:List Bool) a w,i < ms.length→ms.getD i 0 < ops.size→D.length=ms.length→D.getD i true=false→I D a w→wpOp P ops Q (ms.getD i 0) (fun a' w'=>(B (ms.getD i 0)=true→S w→S w')∧I (D.set i true) a' w') a w)
  (hend:∀ a w,I (List.replicate ms.length true) a w→dM P md ops Q S B m (rV base ms (List.replicate ms.length true)) a w) :
  ∀ (n:Nat) (D:List Bool) a w,D.length=ms.length→D.count false=n→I D a w→dM P md ops Q S B (n+m) (rV base ms D) a w
 | 0,D,a,w,hl,hc,hI=>by
  have e:=BG D hc;rw [hl] at e;rw [Nat.zero_add,e];rw [e] at hI;exact hend a w hI
 | n+1,D,a,w,hl,hc,hI=>by
  have h1:=List.all_eq_true.1 hOK D (by have:=Ib D;rwa [hl] at this);have hna:D.all id=false:=by
   cases h:D.all id with
   | false=>rfl
   | true =>
    have:D.count false=0:=List.count_eq_zero.2 fun hm=>by have:=List.all_eq_true.1 h _ hm;simp at this
    omega
  rw [hna,Bool.false_or,Bool.and_eq_true] at h1;obtain ⟨h2,h3⟩:=h1;have hr:=of_decide_eq_true h2;have hsub:∀ j∈Region.ready md ops (rV base ms D),∃ i,i < ms.length∧D.getD i true=false∧ms.getD i 0=j:=fun j hj=>by
   rw [hr] at hj;exact Fg ms D j hl.symm hj
  rw [show n+1+m=(n+m)+1 by omega];refine ⟨fun h0=>?_,fun j hj=>?_⟩
  ·
   exfalso
   rw [hr] at h0;have:∀ (ms:List Nat) (D:List Bool),D.length=ms.length→Ia false ms D=[]→D.count false=0:=by
    intro ms
    induction ms with
    | nil=>intro D h _;cases D with | nil=>rfl | cons=>simp at h
    | cons m ms ih =>
     intro D h e;cases D with
     | nil=>rfl
     | cons d D =>
      unfold Ia at e;rw [List.zip_cons_cons,List.filterMap_cons] at e;cases d with
      | false=>simp at e
      | true =>
       rw [List.count_cons_of_ne (by decide)];exact ih D (by simpa using h) (by simpa [Ia] using e)
   have:=this ms D hl h0;omega
  ·
   obtain ⟨i,hi,hd,rfl⟩:=hsub j hj;have h4:=List.all_eq_true.1 h3 i (List.mem_range.2 hi);rw [hd,Bool.false_or] at h4;have h5:=of_decide_eq_true h4;refine wpOp_mono (fun a' w' h'=>?_) (hstep i D a w hi (eO hj) hl hd hI);refine ⟨h'.1,?_⟩;rw [h5];exact vT ms base I m hOK hstep hend n (D.set i true) a' w' (by simpa using hl) (by have:=count_set D i hd;omega) h'.2
end
abbrev DW:=TypeId × List Value × Nat × Nat
def mU (x:DW):Obj:=.cells x.2.1.toArray x.1
def YD (w:World)(o0:Col)(mk:Nat→DW)(D:List Bool)(vs:Nat→Value)(w':World):Prop :=
 ∃ o,Turn o0 o (fun _=>False) w w'∧∀ i,D.getD i false=true→∃ B,vs i=.slice (some ⟨B,0,none⟩) (mk i).2.2.1 (mk i).2.2.1∧dY w' o (mk i).2.2.2 B (mk i).1 (mk i).2.1.toArray
theorem YD.start {w:World}{o0:Col}{mk:Nat→DW}{n:Nat}{vs:Nat→Value}:YD w o0 mk (List.replicate n false) vs w :=
 ⟨o0,Turn.refl _ _ _,fun i h=>by
  rw [List.getD_eq_getElem?_getD,List.getElem?_replicate] at h
  split at h <;> simp at h⟩
def WV (vs:Nat→Value)(i:Nat)(v:Value):Nat→Value:=fun j=>if j=i then v else vs j
theorem YD.step {w w':World}{o0:Col}{mk:Nat→DW}{D:List Bool}{vs:Nat→Value}(h:YD w o0 mk D vs w')(i:Nat) :
  YD w o0 mk (D.set i true) (WV vs i (.slice (some ⟨w'.heap.size,0,none⟩) (mk i).2.2.1 (mk i).2.2.1)) (w'.alloc (mU (mk i))):=by
 obtain ⟨o,T,hb⟩:=h;have T2:=Turn.of_below o (mk i).2.2.2 (au w' (mU (mk i)));refine ⟨_,T.trans T2 (fun _ h=>h),fun j hj=>?_⟩
 by_cases e:j=i
 ·
  subst e;exact ⟨w'.heap.size,by simp [WV],heap_alloc_new w' _,aW (Nat.le_refl _)⟩
 ·
  rw [List.getD_eq_getElem?_getD,List.getElem?_set_ne (Ne.symm e),← List.getD_eq_getElem?_getD] at hj;obtain ⟨B,h1,h2⟩:=hb j hj;exact ⟨B,by simp only [WV,e,if_false];exact h1,h2.turn T2 (fun h=>h)⟩
def qL (sl:List Nat)(a:Go.Act)(vs:Nat→Value):Go.Act:={ a with tmps:=sl.zipIdx.foldl (fun (t:Array Value) x=>t.setIfInBounds x.1 (vs x.2)) a.tmps }
section
variable {P:Program} {ops:Array Oper} {md:Region.Mode} {S:World→Prop} {Q:Exit→Go.Act→World→Prop}
theorem Ic {B:Nat→Bool}(ms sl:List Nat)(base:Array Bool)(m:Nat)(mk:Nat→DW)(o0:Col){a0:Go.Act}{w:World}(hOK:Lv md ops base ms=true)(h0:qL sl a0 (fun _=>undef)=a0)
  (hstep:∀ (i:Nat) vs w',i < ms.length→wpList P ops (nR Q fun a' w''=>(B (ms.getD i 0)=true→S w'→S w'')∧a'=qL sl a0 (WV vs i (.slice (some ⟨w'.heap.size,0,none⟩) (mk i).2.2.1 (mk i).2.2.1))∧w''=w'.alloc (mU (mk i))) (aX ops [ms.getD i 0]) (qL sl a0 vs) w')
  (hend:∀ vs w',YD w o0 mk (List.replicate ms.length true) vs w'→dM P md ops Q S B m (rV base ms (List.replicate ms.length true)) (qL sl a0 vs) w') :
  dM P md ops Q S B (ms.length+m) (rV base ms (List.replicate ms.length false)) a0 w:=by
 refine vT ms base (fun D a w'=>∃ vs,a=qL sl a0 vs∧YD w o0 mk D vs w') m hOK (fun i D a w' hi hs hD hd hI=>?_) (fun a w' hI=>?_) ms.length (List.replicate ms.length false) a0 w (by simp) (by simp) ⟨fun _=>undef,h0.symm,YD.start⟩
 ·
  obtain ⟨vs,rfl,hI⟩:=hI;refine jO hs (fun a' w'' h=>?_) (hstep i vs w' hi);obtain ⟨h1,rfl,rfl⟩:=h;exact ⟨h1,_,rfl,hI.step i⟩
 ·
  obtain ⟨vs,rfl,hI⟩:=hI;exact hend vs w' hI
end
theorem Aa {w:World}{o:Col}{c B:Nat}{t:TypeId}{sz n:Nat}{cs:List Value}(h:dY w o c B t cs.toArray)(hl:cs.length=n*sz)(hn:n≤100000):Own w o c t sz (.slice (some ⟨B,0,none⟩) n n) n cs :=
 ⟨⟨hl,.inr ⟨B,n,cs.toArray,rfl,Nat.zero_le _,h.1,Nat.le_refl _,by unfold maxLen;omega,by simpa using hl,by rw [← hl];simp⟩⟩,fun k hk=>by
  have:B=k:=by simpa [Value.ownBlock] using hk
  rw [← this];exact h.2⟩
theorem Ie {w:World}{o:Col}{c d B n:Nat}(h:dY w o c B 42 (List.replicate n (.slice none 0 0)).toArray):kD w o c d B (List.replicate n []) (List.replicate n (.slice none 0 0)) :=
 ⟨by simp,h,fun k hk=>by
  have h1:(List.replicate n (Value.slice none 0 0))[k]'(by simpa using hk)=.slice none 0 0:=by simp
  have h2:(List.replicate n ([]:List Int))[k]'hk=[]:=by simp
  rw [h1,h2];exact bF.nil _ _ _ _⟩
def zeros (n:Nat):List Int:=List.replicate n 0
def jq (P:ay)(k:Nat):List Int:=(P.lines.take k).map (fun l=>(l.start.length:Int)) ++ zeros (P.lines.length - k)
structure jk (w0 w:World) (o:Col) (M b:Nat) (P:ay) (v:eG) (mem hs:List Int) (k:Nat):Prop where
 kept:Kept w0.heap.size o w0 w
 prog:bO w0 (.agg #[.int .i64 P.memory,.int .i64 P.counters,.int .i64 P.ins,.int .i64 P.outs,v.vp,v.vl,v.vo]) P
 blk:dY w o M b 81 (zV P (newP P) v).toArray
 mem:Own w o (M+1) 3 1 v.mem mem.length (aV mem)
 pos:Own w o (M+2) 3 1 v.pos P.lines.length (aV (zeros P.lines.length))
 has:Own w o (M+3) 3 1 v.has P.lines.length (aV hs)
 hand:v.hand=.slice none 0 0
 cs:Own w o (M+5) 3 1 v.cs P.counters.toNat (aV (zeros P.counters.toNat))
 ins:kD w o (M+6) (M+16) v.ins (newP P).fed v.uH
 outs:kD w o (M+7) (M+32) v.outs (newP P).out v.G8
 acts:Own w o (M+8) 83 6 v.acts k v.xK.flatten
 wO:v.xK.length=k
 act:∀ j (h:j < v.xK.length),(v.xK[j]).length=6∧uG w o (M+9) (.agg (v.xK[j]).toArray) (partAt P j).tag (partAt P j).params (eT (partAt P j).tag (partAt P j).params) 0
 lh:v.lh=0
section
variable {w0 w w1:World} {o o1:Col} {C:Nat→Prop} {M b:Nat} {P:ay} {v:eG} {mem hs:List Int} {k:Nat}
theorem jk.turn (h:jk w0 w o M b P v mem hs k)(T:Turn o o1 C w w1)(h0:¬ C 0)(hC:∀ k,C k→¬ bM M k)(hl:(newP P).fed.length≤16∧(newP P).out.length≤16):jk w0 w1 o1 M b P v mem hs k:=by
 have hn:∀ k,k < 64→¬ C (M+k):=fun k hk hc=>hC _ hc (Yk M hk)
 exact ⟨h.kept.turn T h0,h.prog,h.blk.turn T (hn 0 (by omega)),h.mem.turn T (hn _ (by omega)),h.pos.turn T (hn _ (by omega)),h.has.turn T (hn _ (by omega)),h.hand,h.cs.turn T (hn _ (by omega)),h.ins.turn T (hn _ (by omega)) (fun k hk=>by rw [Nat.add_assoc];exact hn _ (by omega)),h.outs.turn T (hn _ (by omega)) (fun k hk=>by rw [Nat.add_assoc];exact hn _ (by omega)),h.acts.turn T (hn _ (by omega)),h.wO,fun j hj=>⟨(h.act j hj).1,(h.act j hj).2.turn T (hn _ (by omega))⟩,h.lh⟩
theorem jk.quiet (h:jk w0 w o M b P v mem hs k)(T:Turn o o1 (fun _=>False) w w1)(hl:(newP P).fed.length≤16∧(newP P).out.length≤16):jk w0 w1 o1 M b P v mem hs k:=h.turn T (fun h=>h) (fun _ h=>h.elim) hl
theorem jk.cell (h:jk w0 w o M b P v mem hs k)(i:Nat){u:Value}(hu:(zV P (newP P) v)[i]?=some u):w.cell? ⟨b,i,none⟩=some u:=h.blk.cell i u (by simpa using hu)
theorem jk.ES {g cap:Nat}(h:jk w0 w o M b P v mem hs k)(h0:1≤M)(hg:v.has=.slice (some ⟨g,0,none⟩) P.lines.length cap)(hl:(newP P).fed.length≤16∧(newP P).out.length≤16)(i:Nat)(x:Int) :
  jk w0 (w.setCell ⟨g,i,none⟩ (.int .i64 x)) o M b P v mem (hs.set i x) k∧Turn o o (bM M) w (w.setCell ⟨g,i,none⟩ (.int .i64 x)):=by
 have hr:=h.has;rw [hg] at hr;obtain ⟨hr,T⟩:=qx hr i x;exact ⟨⟨h.kept.turn T (by have:=h0;omega),h.prog,h.blk.turn T (by omega),h.mem.turn T (by omega),h.pos.turn T (by omega),by rw [hg];exact hr,h.hand,h.cs.turn T (by omega),h.ins.turn T (by omega) (fun k _=>by omega),h.outs.turn T (by omega) (fun k _=>by omega),h.acts.turn T (by omega),h.wO,fun j hj=>⟨(h.act j hj).1,(h.act j hj).2.turn T (by omega)⟩,h.lh⟩,T.mono (fun x hx=>by unfold bM;omega)⟩
theorem jk.Bd {g cap:Nat}(h:jk w0 w o M b P v mem hs k)(h0:1≤M)(hg:v.mem=.slice (some ⟨g,0,none⟩) mem.length cap)(hl:(newP P).fed.length≤16∧(newP P).out.length≤16)(i:Nat)(x:Int) :
  jk w0 (w.setCell ⟨g,i,none⟩ (.int .i64 x)) o M b P v (mem.set i x) hs k∧Turn o o (bM M) w (w.setCell ⟨g,i,none⟩ (.int .i64 x)):=by
 have hr:=h.mem;rw [hg] at hr;obtain ⟨hr,T⟩:=qx hr i x;exact ⟨⟨h.kept.turn T (by have:=h0;omega),h.prog,h.blk.turn T (by omega),by rw [hg,List.length_set];exact hr,h.pos.turn T (by omega),h.has.turn T (by omega),h.hand,h.cs.turn T (by omega),h.ins.turn T (by omega) (fun k _=>by omega),h.outs.turn T (by omega) (fun k _=>by omega),h.acts.turn T (by omega),h.wO,fun j hj=>⟨(h.act j hj).1,(h.act j hj).2.turn T (by omega)⟩,h.lh⟩,T.mono (fun x hx=>by unfold bM;omega)⟩
theorem jk.push {va:Value}{cs:List Value}(h:jk w0 w o M b P v mem hs k)(h0:1≤M)(hl:(newP P).fed.length≤16∧(newP P).out.length≤16)(T:Turn o o1 (fun x=>x=M+8) w w1)(ha:Own w1 o1 (M+8) 83 6 va (k+1) (v.xK.flatten ++ cs))(h6:cs.length=6)(hR:uG w1 o1 (M+9) (.agg cs.toArray) (partAt P k).tag (partAt P k).params (eT (partAt P k).tag (partAt P k).params) 0) :
  jk w0 (w1.setCell ⟨b,14,none⟩ va) o1 M b P { v with acts:=va,xK:=v.xK ++ [cs] } mem hs (k+1)∧Turn o o1 (bM M) w (w1.setCell ⟨b,14,none⟩ va):=by
 obtain ⟨hb,T1⟩:=(h.blk.turn T (by omega)).set 14 va;rw [List.setIfInBounds_toArray] at hb;have T2:Turn o o1 (fun x=>x=M+8∨x=M) w (w1.setCell ⟨b,14,none⟩ va):=(T.mono (fun x hx=>Or.inl hx)).trans T1 (fun x hx=>Or.inr hx);refine ⟨⟨h.kept.turn T2 (by have:=h0;omega),h.prog,hb,h.mem.turn T2 (by omega),h.pos.turn T2 (by omega),h.has.turn T2 (by omega),h.hand,h.cs.turn T2 (by omega),h.ins.turn T2 (by omega) (fun k _=>by omega),h.outs.turn T2 (by omega) (fun k _=>by omega),?_,?_,fun j hj=>?_,h.lh⟩,T2.mono (fun x hx=>by unfold bM;omega)⟩
 ·
  show Own _ o1 (M+8) 83 6 va (k+1) (v.xK ++ [cs]).flatten
  rw [List.flatten_append,List.flatten_singleton];exact ha.turn T1 (by omega)
 ·
  show (v.xK ++ [cs]).length=k+1
  rw [List.length_append,h.wO];rfl
 ·
  have hj':j < (v.xK ++ [cs]).length:=hj;show ((v.xK ++ [cs])[j]'hj').length=6∧uG _ o1 (M+9) (.agg ((v.xK ++ [cs])[j]'hj').toArray) _ _ _ 0
  by_cases e:j < v.xK.length
  ·
   rw [List.getElem_append_left e];exact ⟨(h.act j e).1,(h.act j e).2.turn T2 (by omega)⟩
  ·
   have hjk:j=k:=by
    rw [List.length_append,h.wO] at hj';have:=h.wO;simp at hj';omega
   subst hjk;rw [List.getElem_append_right (by rw [h.wO];exact Nat.le_refl _)];simp only [h.wO,Nat.sub_self,List.getElem_cons_zero];exact ⟨h6,hR.turn T1 (by omega)⟩
theorem jk.at (h:jk w0 w o M b P v (dH P P.lines.length) (jq P P.lines.length) P.parts.length)(hP:tX P)(hl:(newP P).fed.length≤16∧(newP P).out.length≤16)(hp:P.parts.length≤32):gF w0 w o M b P (newP P) v:=by
 have e1:xM (newP P)=zeros P.lines.length:=by
  unfold xM newP zeros;simp only [List.map_map];exact List.ext_getElem (by simp) (fun i _ _=>by simp [dZ])
 have e2:uK (newP P)=jq P P.lines.length:=by
  unfold uK newP jq zeros;simp only [List.map_map,List.take_length,Nat.sub_self,List.replicate_zero,List.append_nil];rfl
 have e3:(newP P).lines.length=P.lines.length:=List.length_map _;have ha:=h.hand;refine ⟨h.kept,h.prog,h.blk,h.mem,by rw [e3,e1];exact h.pos,by rw [e3,e2];exact h.has,by rw [ha];exact bF.nil _ _ _ _,?_,h.ins,h.outs,h.acts,h.wO,fun j hj=>?_,fun j hj=>?_,⟨hl.1,hl.2,hp⟩,.inl ⟨rfl,by rw [h.lh];decide,by rw [h.lh];decide⟩⟩
 ·
  have:=h.cs;rw [show P.counters.toNat=(newP P).cs.length from (List.length_replicate).symm] at this
  simpa [newP,zeros] using this
 ·
  obtain ⟨a1,a2⟩:=h.act j (by rw [h.wO];exact hj);have hb:bB (newP P) j=(eT (partAt P j).tag (partAt P j).params,0):=by
   unfold bB newP partAt;dsimp only;rw [List.getElem?_map,List.getElem?_eq_getElem hj];rfl
  rw [hb];exact ⟨a1,a2⟩
 ·
  have hq:=hP.lines _ (List.getElem_mem hj);have hb:aC (newP P) j=dZ P.lines[j]:=by
   unfold aC newP;dsimp only;rw [List.getElem?_map,List.getElem?_eq_getElem hj];rfl
  rw [hb];unfold dZ;dsimp only;omega
end
def zK (mem:List Int)(l:dN)(k:Nat):List Int:=mem.take l.base.toNat ++ l.start.take k ++ mem.drop (l.base.toNat+k)
theorem NR (mem:List Int)(l:dN):zK mem l 0=mem:=by simp [zK]
theorem Sn (mem:List Int)(l:dN):zK mem l l.start.length=Gy mem l:=by simp [zK,Gy]
theorem NS {mem:List Int}{l:dN}{k:Nat}(hk:k < l.start.length)(hm:l.base.toNat+l.start.length≤mem.length):zK mem l (k+1)=(zK mem l k).set (l.base.toNat+k) l.start[k]:=by
 unfold zK;have h1:(mem.take l.base.toNat).length=l.base.toNat:=by rw [List.length_take];omega
 have h2:(l.start.take k).length=k:=by rw [List.length_take];omega
 have hd:mem.drop (l.base.toNat+k)=mem[l.base.toNat+k]'(by omega) :: mem.drop (l.base.toNat+k+1):=(List.getElem_cons_drop (by omega)).symm;rw [List.set_append_right _ _ (by rw [List.length_append,h1,h2];exact Nat.le_refl _),List.length_append,h1,h2,Nat.sub_self,hd,List.set_cons_zero,List.take_succ_eq_append_getElem hk];simp only [List.append_assoc,List.cons_append,List.nil_append,Nat.add_assoc]
theorem Sq {mem:List Int}{l:dN}{k:Nat}(hk:k≤l.start.length)(hm:l.base.toNat+l.start.length≤mem.length):(zK mem l k).length=mem.length:=by
 unfold zK;rw [List.length_append,List.length_append,List.length_take,List.length_take,List.length_drop];omega
theorem Kh (P:ay):jq P 0=zeros P.lines.length:=by simp [jq]
theorem NT {P:ay}{k:Nat}(hk:k≤P.lines.length):(jq P k).length=P.lines.length:=by
 unfold jq zeros;rw [List.length_append,List.length_map,List.length_take,List.length_replicate];omega
theorem Ki {P:ay}{k:Nat}(hk:k < P.lines.length):jq P (k+1)=(jq P k).set k (P.lines[k].start.length:Int):=by
 unfold jq zeros;have h1:((P.lines.take k).map (fun l=>(l.start.length:Int))).length=k:=by rw [List.length_map,List.length_take];omega
 rw [List.set_append_right _ _ (by omega),h1,Nat.sub_self,show P.lines.length - k=(P.lines.length - (k+1))+1 by omega,List.replicate_succ,List.set_cons_zero,List.take_succ_eq_append_getElem hk,List.map_append];simp
theorem aam {o:Col}{c:Nat}(w:World)(ao:Option Addr)(n cap:Nat)(ps:List Int)(hg:aF 1 ps)(h:Ints w o c (.slice ao n cap) ps):Calls Tryz.prog 20 #[.int .u8 1,.slice ao n cap] w (xE w 1 ps):=by
 have hl2:1≤ps.length∧ps.length≤16:=by simpa [aF] using hg
 obtain ⟨i0,hi,hz0,hz1,hz2⟩:=info_parts bJ;have hl:ps.length≤64:=by omega
 have hpi:(1:Int)≤ps.length:=by omega
 have hpi2:(ps.length:Int)≤16:=by omega
 obtain rfl:=h.len;have HG:=Lib.hid hg;have HH:=Lib.hid h;clear h hg
 go_enter Tryz.func20,Tryz.ntmps20
 go_wp2_with fail
 refine (AY _ 1 ao _ cap ps HG.out (HH.out.has.below (au w _))).mono ?_;rintro e w1 ⟨vi,vo,rfl,o1,o2,hb1⟩;have hB:=heap_alloc_new w (.cells #[.int .u8 0,.slice none 0 0,.slice none 0 0,.slice none 0 0,.slice none 0 0,.int .i64 0] 83);have hB1:=aT hB (aI.of_below hb1 (fun _=>False)) (fun h=>h);have hb:Below w.heap.size w w1:=(au w _).trans (hb1.mono (by simp));have ZK:=Lib.hid (HH.out.has.below hb);obtain ⟨ai,ci,rfl⟩:=aB o1;obtain ⟨a2,c2,rfl⟩:=aB o2;rw [World.size_alloc] at o1 o2;have O1:=Lib.hid o1;have O2:=Lib.hid o2;have HB1:=Lib.hid hB1;clear o1 o2 hB hB1
 go_wp2_with fail
 refine (iE _ ao _ cap ps ZK.out (by omega)).mono ?_;rintro e w2 ⟨vp,rfl,o3,hb2⟩;obtain ⟨a3,c3,rfl⟩:=aB o3;have O3:=Lib.hid o3;clear o3;have HB2:=Lib.hid (aT HB1.out (aI.of_below hb2 (fun _=>False)) (fun h=>h));obtain ⟨w3,hr,hown,hg⟩:=run_make_full (P:=Tryz.prog) (w2.alloc (.cells #[.int .u8 1,.slice a3 ps.length c3,.slice ai (bT 1 ps).length ci,.slice a2 (bP 1 ps).length c2,.slice none 0 0,.int .i64 0] 83)) (w2.alloc (.cells #[.int .u8 1,.slice a3 ps.length c3,.slice ai (bT 1 ps).length ci,.slice a2 (bP 1 ps).length c2,.slice none 0 0,.int .i64 0] 83)).heap.size 42 3 i0 _ 1 Tryz.underlying42 hi hz0 hz1 .i64 .i64 (ps.length - 1) (by rw [hz2];omega) (by unfold maxLen;omega) (Nat.le_refl _);rw [show ((ps.length - 1:Nat):Int)=(ps.length:Int) - 1 by omega] at hr;rw [lu] at hown;have hb3:Below (w2.alloc (.cells #[.int .u8 1,.slice a3 ps.length c3,.slice ai (bT 1 ps).length ci,.slice a2 (bP 1 ps).length c2,.slice none 0 0,.int .i64 0] 83)).heap.size (w2.alloc (.cells #[.int .u8 1,.slice a3 ps.length c3,.slice ai (bT 1 ps).length ci,.slice a2 (bP 1 ps).length c2,.slice none 0 0,.int .i64 0] 83)) w3:=((aI.refl (fun _=>False) _).grown hg (fun k hk _=>by cases hk)).below (Nat.le_refl _) (fun _ _ h=>h);have hBa:=aT (heap_alloc_new w2 (.cells #[.int .u8 1,.slice a3 ps.length c3,.slice ai (bT 1 ps).length ci,.slice a2 (bP 1 ps).length c2,.slice none 0 0,.int .i64 0] 83)) (aI.of_below hb3 (fun _=>False)) (fun h=>h);have hBw:=aT (aK HB2.out (.cells #[.int .u8 1,.slice a3 ps.length c3,.slice ai (bT 1 ps).length ci,.slice a2 (bP 1 ps).length c2,.slice none 0 0,.int .i64 0] 83)) (aI.of_below hb3 (fun _=>False)) (fun h=>h);have sw3:w2.heap.size < w3.heap.size:=by have:=hb3.size;simp at this;omega
 have s1:=hb1.size;have s2:=hb2.size;have sw:w.heap.size+1≤w1.heap.size:=by simpa using s1
 have qa4:=ah _ _ hBa 4 _ rfl;have ra4:=aj hBa 4;have hBs:=block_setCell hBa 4 (.slice (some ⟨w2.heap.size+1,0,none⟩) (ps.length - 1) (ps.length - 1));have qs0:=ah _ _ hBs 0 _ rfl;have qs1:=ah _ _ hBs 1 _ rfl;have qs2:=ah _ _ hBs 2 _ rfl;have qs3:=ah _ _ hBs 3 _ rfl;have qs4:=ah _ _ hBs 4 _ rfl;have qs5:=ah _ _ hBs 5 _ rfl;have hB3:=iB (a:=⟨w2.heap.size,4,none⟩) hBw (show w.heap.size≠w2.heap.size by omega) (.slice (some ⟨w2.heap.size+1,0,none⟩) (ps.length - 1) (ps.length - 1));have q0:=ah _ _ hB3 0 _ rfl;have q1:=ah _ _ hB3 1 _ rfl;have q2:=ah _ _ hB3 2 _ rfl;have q3:=ah _ _ hB3 3 _ rfl;have q4:=ah _ _ hB3 4 _ rfl;have q5:=ah _ _ hB3 5 _ rfl;have r0:=aj hB3 0;have r1:=aj hB3 1;have r2:=aj hB3 2;have r3:=aj hB3 3;have r4:=aj hB3 4;have r5:=aj hB3 5;have HB3:=Lib.hid hB3;have HOWN:=Lib.hid hown;have acw:=Lib.hid hb3;clear hB3 hown hb3 hg hBs hBw hBa
 go_wp2_with fail
 have hK:=block_setCell (block_setCell (block_setCell (block_setCell (block_setCell (block_setCell HB3.out 0 (.int .u8 1)) 1 (.slice a3 ps.length c3)) 2 (.slice ai (bT 1 ps).length ci)) 3 (.slice a2 (bP 1 ps).length c2)) 4 (.slice (some ⟨w2.heap.size+1,0,none⟩) (ps.length - 1) (ps.length - 1))) 5 (.int .i64 0);refine bodyPost_ret_by (jD rfl _ _ _ _ _ _ _ rfl hK Tryz.underlying83 rfl (by kernel_rfl)) rfl ?_;have hW:Below w2.heap.size w2 (w3.setCell ⟨w2.heap.size,4,none⟩ (.slice (some ⟨w2.heap.size+1,0,none⟩) (ps.length - 1) (ps.length - 1))):=((au w2 _).trans (acw.out.mono (by simp))).setCell (Nat.le_refl _) _;have hrow:(w3.setCell ⟨w2.heap.size,4,none⟩ (.slice (some ⟨w2.heap.size+1,0,none⟩) (ps.length - 1) (ps.length - 1))).ownsRow w2.heap.size 3 1 (.slice (some ⟨w2.heap.size+1,0,none⟩) (ps.length - 1) (ps.length - 1)) (ps.length - 1) (aV (List.replicate (ps.length - 1) 0)):=by
  have h1:=HOWN.out;rw [World.size_alloc] at h1;refine bG (fD h1 ((aI.refl (fun k=>k=w2.heap.size) w3).setCell (p:=⟨w2.heap.size,4,none⟩) (fun _=>rfl) _) (fun k hk e=>by have:=(h1.lt k hk).1;omega)) (fun k hk=>by have:=(h1.lt k hk).1;omega)
 have hk0:eT 1 ps=List.replicate (ps.length - 1) 0:=rfl;exact qo sw hb hb2 hW O1.out O2.out O3.out (by rw [hk0,List.length_replicate];exact hrow)
theorem Lx {o:Col}{c:Nat}(w:World)(t:Int)(ao:Option Addr)(n cap:Nat)(ps:List Int)(hg:aF t ps)(h:Ints w o c (.slice ao n cap) ps):Calls Tryz.prog 20 #[.int .u8 t,.slice ao n cap] w (xE w t ps):=by
 by_cases t1:t=1
 ·
  subst t1;exact aam w ao n cap ps hg h
 by_cases t8:t=8
 ·
  subst t8;exact ZL w ao n cap ps hg h
 by_cases ZJ:t=10
 ·
  subst ZJ;exact VY w ao n cap ps hg h
 exact ML w t ao n cap ps hg h t1 t8 ZJ
section
variable {w w1:World} {o o1:Col} {M b:Nat} {P:ay} {m:aH} {v:bV}
structure nH (w:World) (o:Col) (M b:Nat) (P:ay) (m:aH) (v:bV):Prop where
 blk:dY w o M b 71 (bC m v).toArray
 mem:dY w o (M+1) v.mem 3 (aV m.mem).toArray
 lines:Own w o (M+2) 73 4 v.lines m.lines.length (gH m.lines)
 fed:kD w o (M+3) (M+16) v.fed m.fed v.uH
 out:kD w o (M+4) (M+32) v.out m.out v.outs
 ops:Own w o (M+5) 58 3 v.ops P.ops.length (opsV P.ops)
 acts:∀ k (_:k < P.parts.length),∃ B,v.ptrs[k]?=some B∧Ew w o (M+64+2*k) (M+65+2*k) B (partAt P k) (bB m k)
 cs:dY w o (M+8) v.cs 3 (aV m.cs).toArray
 hand:bF w o (M+9) 3 v.hand (aV m.hand)
 small:m.fed.length≤16∧m.out.length≤16∧P.parts.length≤32
theorem aN.core (h:aN w o M b P m v):nH w o M b P m v :=
 ⟨h.blk,h.mem,h.lines,h.fed,h.out,h.ops,fun k hk=>⟨v.ptrs[k]'(by rw [h.ptrs];exact hk),List.getElem?_eq_getElem (by rw [h.ptrs];exact hk),h.acts k hk⟩,h.cs,h.hand,h.small⟩
theorem nH.turn {C:Nat→Prop}(h:nH w o M b P m v)(T:Turn o o1 C w w1)(hC:∀ k,C k→¬ Mine M k∨k=M+6∨k=M+7):nH w1 o1 M b P m v:=by
 have hn:∀ k,k < 200→k≠6→k≠7→¬ C (M+k):=fun k hk h6 h7 hc=>by
  rcases hC _ hc with h | h | h
  ·
   exact h (by unfold Mine;omega)
  ·
   omega
  ·
   omega
 have hs:=h.small;exact ⟨h.blk.turn T (hn 0 (by omega) (by omega) (by omega)),h.mem.turn T (hn _ (by omega) (by omega) (by omega)),h.lines.turn T (hn _ (by omega) (by omega) (by omega)),h.fed.turn T (hn _ (by omega) (by omega) (by omega)) (fun k hk=>by rw [Nat.add_assoc];exact hn _ (by omega) (by omega) (by omega)),h.out.turn T (hn _ (by omega) (by omega) (by omega)) (fun k hk=>by rw [Nat.add_assoc];exact hn _ (by omega) (by omega) (by omega)),h.ops.turn T (hn _ (by omega) (by omega) (by omega)),fun k hk=>by
   obtain ⟨B,e,ha⟩:=h.acts k hk;exact ⟨B,e,ha.turn T (by rw [Nat.add_assoc];exact hn _ (by omega) (by omega) (by omega)) (by rw [Nat.add_assoc];exact hn _ (by omega) (by omega) (by omega))⟩,h.cs.turn T (hn _ (by omega) (by omega) (by omega)),h.hand.turn T (hn _ (by omega) (by omega) (by omega)),hs⟩
theorem Sr {g:Nat}{mem st:List Int}{base sc c c2:Nat}{sa:Option Addr}{o2:Col}(hb:dY w o c g 3 (aV mem).toArray)(hs:Ints w o2 c2 (.slice sa st.length sc) st)(hl:base+st.length≤mem.length)(ty:TypeId) :
  (Builtin.copy_ #[42,42] ty #[.slice (if mem.length=base then some ⟨g,0,none⟩ else some ⟨g,base,none⟩) (mem.length - base) (mem.length - base),.slice sa st.length sc]).run Tryz.prog w =
   .ok (goInt st.length) (w.setRow g (aV (mem.take base ++ st ++ mem.drop (base+st.length))).toArray) ∧
  dY (w.setRow g (aV (mem.take base ++ st ++ mem.drop (base+st.length))).toArray) o c g 3 (aV (mem.take base ++ st ++ mem.drop (base+st.length))).toArray ∧
  Turn o o (fun x=>x=c) w (w.setRow g (aV (mem.take base ++ st ++ mem.drop (base+st.length))).toArray):=by
 have hsz:(Tryz.prog.info? 3).map (·.size)=some 1:=by kernel_rfl
 refine ⟨?_,⟨setRow_heap w g _ _ _ _ hb.1,hb.2⟩,⟨⟨rfl,rfl,rfl,by simp,fun k hk hf=>setRow_other w g k _ (fun e=>hf (by rw [e];exact hb.2))⟩,fun _ _=>rfl⟩⟩
 by_cases h0:st.length=0
 ·
  obtain rfl:st=[]:=List.eq_nil_of_length_eq_zero h0;have e:mem.take base ++ [] ++ mem.drop (base+([]:List Int).length)=mem:=by simp
  rw [e,setRow_self w g _ _ (0,0) hb.1];exact run_copy_none w 42 42 ty 3 _ _ _ _ _ _ Tryz.underlying42 hsz (by simp)
 ·
  have hne:¬ mem.length=base:=by omega
  rw [if_neg hne];obtain ⟨hnone,hnews⟩:=dn.news hs;cases sa with
  | none=>have:=hnone rfl;omega
  | some a =>
   have hr:=run_copy_row (P:=Tryz.prog) w 42 42 ty 3 g base (mem.length - base) (mem.length - base) a st.length sc (aV mem).toArray 3 (aV st) Tryz.underlying42 hsz hb.1 (by rw [aD];exact (Nat.min_eq_left (by omega)).symm) (hnews a rfl) (by rw [aD];simp;omega) (gT st);rw [aD] at hr;rw [hr];have e:(aV mem).take base ++ aV st ++ (aV mem).drop (base+st.length)=aV (mem.take base ++ st ++ mem.drop (base+st.length)):=by simp [aV,List.map_take,List.map_drop]
   show Result.ok _ (w.setRow g ((aV mem).take base ++ aV st ++ (aV mem).drop (base+st.length)).toArray)=_
   rw [e]
theorem aN.NU {l:List Int}(h:aN w o M b P m v)(T:Turn o o1 (fun x=>x=M+1) w w1)(hb:dY w1 o1 (M+1) v.mem 3 (aV l).toArray)(hl:l.length=m.mem.length):aN w1 o1 M b P { m with mem:=l } v:=by
 have hv:bC { m with mem:=l } v=bC m v:=by
  unfold bC;simp only [hl]
 exact ⟨by rw [hv];exact h.blk.turn T (by omega),hb,h.lines.turn T (by omega),h.fed.turn T (by omega) (fun k _=>by omega),h.out.turn T (by omega) (fun k _=>by omega),h.ops.turn T (by omega),h.takes.turn T (by omega),h.bH.turn T (by omega),h.ptrs,fun k hk=>(h.acts k hk).turn T (by omega) (by omega),h.cs.turn T (by omega),h.hand.turn T (by omega),h.small⟩
theorem aN.Ig {l:List kT}{lv:Value}(h:aN w o M b P m v)(T:Turn o o1 (fun x=>x=M+2) w w1)(hb:Own w1 o1 (M+2) 73 4 lv l.length (gH l)) :
  aN (w1.setCell ⟨b,1,none⟩ lv) o1 M b P { m with lines:=l } { v with lines:=lv }∧Turn o o1 (Mine M) w (w1.setCell ⟨b,1,none⟩ lv):=by
 have hbk:=h.blk.turn T (by omega);have hs:=hbk.set 1 lv;have T2:Turn o o1 (fun x=>x=M+2∨x=M) w (w1.setCell ⟨b,1,none⟩ lv):=(T.mono (fun x hx=>Or.inl hx)).trans hs.2 (fun x hx=>Or.inr hx);exact ⟨⟨by have:=hs.1;rw [List.setIfInBounds_toArray] at this;exact this,h.mem.turn T2 (by omega),hb.turn hs.2 (by omega),h.fed.turn T2 (by omega) (fun k _=>by omega),h.out.turn T2 (by omega) (fun k _=>by omega),h.ops.turn T2 (by omega),h.takes.turn T2 (by omega),h.bH.turn T2 (by omega),h.ptrs,fun k hk=>(h.acts k hk).turn T2 (by omega) (by omega),h.cs.turn T2 (by omega),h.hand.turn T2 (by omega),h.small⟩,T2.mono (fun x hx=>by unfold Mine;omega)⟩
end
def j4 (P:ay)(k:Nat):ay:={ P with parts:=P.parts.take k }
def LA (P:ay)(k:Nat):List (List Int × Int):=(P.parts.take k).map fun p=>(eT p.tag p.params,0)
def uh (P:ay)(k:Nat):aH:=⟨dH P P.lines.length,P.lines.map dZ,List.replicate P.ins.toNat [],List.replicate P.outs.toNat [],LA P k,List.replicate P.counters.toNat 0,[],0,0,none⟩
def iN (P:ay)(k:Nat):aH:=⟨dH P k,(P.lines.take k).map dZ,List.replicate P.ins.toNat [],List.replicate P.outs.toNat [],[],List.replicate P.counters.toNat 0,[],0,0,none⟩
theorem NV (P:ay):uh P P.parts.length=newP P:=by
 unfold uh newP LA;rw [List.take_length]
theorem NW (P:ay):iN P P.lines.length=uh P 0:=by
 unfold iN uh LA;rw [List.take_length,List.take_zero];rfl
theorem Kj (P:ay):j4 P P.parts.length=P:=by
 unfold j4;rw [List.take_length]
theorem vU {P:ay}{k j:Nat}(h:j < k)(_hk:k≤P.parts.length):partAt (j4 P k) j=partAt P j:=by
 unfold partAt j4;rw [List.getElem?_take_of_lt h]
theorem BH {P:ay}{k j:Nat}(h:j < k)(hk:k≤P.parts.length):bB (uh P k) j=(eT (partAt P j).tag (partAt P j).params,0):=by
 unfold bB uh LA partAt;have hj:j < P.parts.length:=by omega
 rw [List.getElem?_map,List.getElem?_take_of_lt h,List.getElem?_eq_getElem hj];rfl
section
variable {w:World} {o o':Col}
theorem dn.Ab {c:Nat}{v:Value}{vs:List Value}(h:dn w o c v vs)(ho:∀ k,o k=c→o' k=c):dn w o' c v vs:=by
 rcases h with h | ⟨hp,b,off,cap,e,hl,hb,hc,hcl⟩
 ·
  exact .inl h
 ·
  exact .inr ⟨hp,b,off,cap,e,hl,hb,ho b hc,hcl⟩
theorem bF.dS {c:Nat}{e:TypeId}{v:Value}{xs:List Value}(h:bF w o c e v xs)(ho:∀ k,o k=c→o' k=c):bF w o' c e v xs:=by
 rcases h with h | ⟨g,off,cap,cur,h1,h2,h3,h4⟩
 ·
  exact .inl h
 ·
  exact .inr ⟨g,off,cap,cur,h1,h2,ho g h3,h4⟩
theorem kD.dS {c d g:Nat}{l:List (List Int)}{vs:List Value}(h:kD w o c d g l vs)(ho:∀ k,o k=c→o' k=c)(hd:∀ j,j < l.length→∀ k,o k=d+j→o' k=d+j):kD w o' c d g l vs :=
 ⟨h.len,h.blk.dS (ho g h.blk.2),fun k hk=>(h.row k hk).dS (hd k hk)⟩
theorem gY.dS {c d b:Nat}{t:Int}{ps keep:List Int}{n:Int}{K:Nat}{vi vo vt vs:Value}(h:gY w o c d b t ps keep n K vi vo vt vs)(hc:∀ k,o k=c→o' k=c)(hd:∀ k,o k=d→o' k=d):gY w o' c d b t ps keep n K vi vo vt vs :=
 ⟨h.body.dS (hd b h.body.2),h.kind.dS (hc K h.kind.2),h.ins.Ab hd,h.outs.Ab hd,fun e=>⟨(h.nU e).1.Ab hd,(h.nU e).2.1.Ab hd,(h.nU e).2.2⟩,h.good,h.Cj,h.ql,h.mH,h.qY,h.Vr,h.ne⟩
theorem Act.dS {c d b:Nat}{t:Int}{ps keep:List Int}{n:Int}(h:Act w o c d b t ps keep n)(hc:∀ k,o k=c→o' k=c)(hd:∀ k,o k=d→o' k=d):Act w o' c d b t ps keep n:=by
 obtain ⟨K,vi,vo,vt,vs,h⟩:=h;exact ⟨K,vi,vo,vt,vs,h.dS hc hd⟩
theorem aN.dS {M b:Nat}{P:ay}{m:aH}{v:bV}(h:aN w o M b P m v)(ho:∀ k,Mine M (o k)→o' k=o k):aN w o' M b P m v:=by
 have hs:=h.small;have hx:∀ j,j < 200→∀ k,o k=M+j→o' k=M+j:=fun j hj k hk=>by rw [ho k (by rw [hk];unfold Mine;omega),hk]
 have h0:∀ k,o k=M→o' k=M:=hx 0 (by omega)
 exact ⟨h.blk.dS (h0 b h.blk.2),h.mem.dS (hx 1 (by omega) _ h.mem.2),h.lines.dS (fun k hk=>hx 2 (by omega) k (h.lines.2 k hk)),h.fed.dS (hx 3 (by omega)) (fun j hj k hk=>by rw [Nat.add_assoc] at hk ⊢;exact hx _ (by omega) k hk),
  h.out.dS (hx 4 (by omega)) (fun j hj k hk=>by rw [Nat.add_assoc] at hk ⊢;exact hx _ (by omega) k hk),h.ops.dS (fun k hk=>hx 5 (by omega) k (h.ops.2 k hk)),h.takes.dS (fun k hk=>hx 6 (by omega) k (h.takes.2 k hk)),h.bH.dS (fun k hk=>hx 7 (by omega) k (h.bH.2 k hk)),h.ptrs,
  fun j hj=>Act.dS (h.acts j hj) (fun k hk=>by rw [Nat.add_assoc] at hk ⊢;exact hx _ (by omega) k hk) (fun k hk=>by rw [Nat.add_assoc] at hk ⊢;exact hx _ (by omega) k hk),h.cs.dS (hx 8 (by omega) _ h.cs.2),h.hand.dS (hx 9 (by omega)),hs⟩
end
def LB (w:World)(o:Col)(M:Nat)(P:ay)(e:Ending)(w':World):Prop :=
 ∃ b o' v,e=.returned (.tuple #[.pointer (some ⟨b,0,none⟩),.int .i64 0])∧Turn o o' (fun _=>False) w w'∧aN w' o' M b P (newP P) v∧∀ k,w.heap.size≤k→M≤o' k∧o' k < M+300
def Fh (w:World)(o:Col)(M:Nat)(P:ay):Ending→World→Prop :=
 if lF P≠0 then fun e w'=>e=.returned (.tuple #[.pointer none,.int .i64 (lF P)])∧Below w.heap.size w w' else LB w o M P
theorem Sv {w w':World}{o q:Col}{M b:Nat}{P:ay}{v:bV}(hM:1≤M)(K:Kept w.heap.size q w w')(h:aN w' q M b P (newP P) v):LB w o M P (.returned (.tuple #[.pointer (some ⟨b,0,none⟩),.int .i64 0])) w':=by
 refine ⟨b,fun k=>if k < w.heap.size then o k else if M≤q k∧q k < M+300 then q k else M+299,v,rfl,⟨aI.of_below K.below _,fun k hk=>by simp [hk]⟩,h.dS (fun k hk=>?_),fun k hk=>?_⟩
 ·
  have:¬ k < w.heap.size:=fun hlt=>by
   have:=K.old k hlt;unfold Mine at hk;omega
  unfold Mine at hk;simp only [if_neg this];rw [if_pos (by omega)]
 ·
  simp only [if_neg (Nat.not_lt.2 hk)]
  split <;> omega
def tL (b:Nat):Value:=.pointer (some ⟨b,0,none⟩)
def BI (P:ay)(k:Nat):List Int:=(P.parts.take k).map fun p=>(kU p:Int)
theorem rW {P:ay}{k:Nat}(h:k < P.parts.length):aV (BI P (k+1))=aV (BI P k) ++ [.int .i64 (kU (partAt P k):Int)]:=by
 unfold BI;rw [List.take_succ_eq_append_getElem h,Bj h,List.map_append,aV,List.map_append];rfl
theorem uN {P:ay}{k:Nat}(h:k≤P.parts.length):(j4 P k).parts.length=k:=by
 show (P.parts.take k).length=k
 rw [List.length_take];omega
theorem BJ {w:World}{q:Col}{M b B k:Nat}{P:ay}{v:bV}{bv tv:Value}(hP:P.parts.length≤32)(h:nH w q M b (j4 P k) (uh P k) v)(hk:k < P.parts.length)(hpl:v.ptrs.length=k)(hB:Own w q (M+7) 74 1 bv (k+1) ((v.ptrs ++ [B]).map tL))(hT:Own w q (M+6) 3 1 tv (k+1) (aV (BI P (k+1))))(hA:Ew w q (M+64+2*k) (M+65+2*k) B (partAt P k) (eT (partAt P k).tag (partAt P k).params,0)) :
  aN ((w.setCell ⟨b,6,none⟩ bv).setCell ⟨b,5,none⟩ tv) q M b (j4 P (k+1)) (uh P (k+1)) { v with bH:=bv,takes:=tv,ptrs:=v.ptrs ++ [B] }∧Turn q q (fun x=>x=M) w ((w.setCell ⟨b,6,none⟩ bv).setCell ⟨b,5,none⟩ tv):=by
 obtain ⟨b1,T1⟩:=h.blk.set 6 bv;obtain ⟨b2,T2⟩:=b1.set 5 tv;have T:=T1.trans T2 (fun _ h=>h);have hl:=uN (P:=P) (k:=k+1) hk;refine ⟨⟨?_,h.mem.turn T (by omega),h.lines.turn T (by omega),h.fed.turn T (by omega) (fun k _=>by omega),h.out.turn T (by omega) (fun k _=>by omega),h.ops.turn T (by omega),?_,?_,?_,fun j hj=>?_,h.cs.turn T (by omega),h.hand.turn T (by omega),⟨h.small.1,h.small.2.1,by rw [hl];omega⟩⟩,T⟩
 ·
  simp only [List.setIfInBounds_toArray] at b2;exact b2
 ·
  rw [hl];exact hT.turn T (by omega)
 ·
  rw [hl];exact hB.turn T (by omega)
 ·
  rw [hl,List.length_append,hpl];rfl
 ·
  rw [hl] at hj;rw [vU hj hk,BH hj hk]
  by_cases e:j < k
  ·
   obtain ⟨B',e1,ha⟩:=h.acts j (by rw [uN (by omega)];exact e);rw [vU e (by omega),BH e (by omega)] at ha;have e2:(v.ptrs ++ [B])[j]?=some B':=by rw [List.getElem?_append_left (by omega)];exact e1
   have e3:(v.ptrs ++ [B])[j]'(by simp;omega)=B':=by
    rw [List.getElem?_eq_getElem (by simp;omega)] at e2;exact Option.some.inj e2
   show Ew _ _ _ _ ((v.ptrs ++ [B])[j]'_) _ _
   rw [e3];exact ha.turn T (by omega) (by omega)
  ·
   obtain rfl:j=k:=by omega
   have e3:(v.ptrs ++ [B])[j]'(by simp;omega)=B:=by
    simp [hpl]
   show Ew _ _ _ _ ((v.ptrs ++ [B])[j]'_) _ _
   rw [e3];exact hA.turn T (by omega) (by omega)
theorem pX {w:World}{o:Col}{c g:Nat}{t:TypeId}{x:Value}(h:dY w o c g t #[x]):∀ ad,some (⟨g,0,none⟩:Addr)=some ad→∀ j u,[x][j]?=some u→w.cell? (ad.add j)=some u:=fun ad e j u hu=>by
 obtain rfl:=Option.some.inj e;rw [Addr.add_lit,Nat.zero_add];exact h.cell j u (by simpa using hu)
theorem mX {w w':World}{o:Col}{c e sz n m:Nat}{v v':Value}{xs ys:List Value}(h:Own w o c e sz v n xs)(k1:w'.ownsRow 0 e sz v' (n+m) (xs ++ ys))(k2:w.grownBy w' v.ownBlock)(k4:v'.ownBlock=v.ownBlock∨v'.ownBlock=some w.heap.size) :
  ∃ o',Turn o o' (fun x=>x=c) w w'∧Own w' o' c e sz v' (n+m) (xs ++ ys):=by
 refine ⟨ext o w.heap.size c,Turn.gN o c (aI.of_grownBy k2) (fun b _ hb=>h.2 b hb),k1,fun b hb=>?_⟩
 rcases k4 with k4 | k4
 ·
  rw [k4] at hb;exact (bX (h.1.lt b hb).2).trans (h.2 b hb)
 ·
  rw [k4] at hb;exact aW (Nat.le_of_eq (Option.some.inj hb))
theorem yX:∀ (l:List Int) (t:Nat),(∀ r∈l,1≤r∧r≤64)→0≤(l.take t).sum∧(l.take t).sum≤64*t
 | [],t,_=>by simp;omega
 | r :: l,0,_=>by simp
 | r :: l,t+1,h=>by
  have h1:=h r List.mem_cons_self;have h2:=yX l t (fun x hx=>h x (List.mem_cons_of_mem _ hx));rw [List.take_succ_cons,List.sum_cons];omega
end Go.Proofs.YtpdlngonocancaaGreat
