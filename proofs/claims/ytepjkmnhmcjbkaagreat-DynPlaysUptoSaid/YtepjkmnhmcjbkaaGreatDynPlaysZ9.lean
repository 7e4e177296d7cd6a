import Derived.Test.YtepjkmnhmcjbkaaGreatDynPlaysZ8
import Derived.Test.YtepjkmnhmcjbkaaGreatDynPlaysZ6
import Derived.Test.YtepjkmnhmcjbkaaGreatDynPlaysZ4
import Derived.Deep.CutBlock
import Derived.Deep.LoopGhost
set_option linter.unusedVariables false
set_option linter.unusedSimpArgs false
set_option maxRecDepth 100000
set_option maxHeartbeats 20000000
namespace Go.Proofs.YtepjkmnhmcjbkaaGreat
open Go.RowKit
theorem Hz {o:Col}{c b:Nat}{t:TypeId}:∀ (l old pre:List Value) {w:World},old.length=l.length->dZ w o c b t (pre ++ old).toArray->dZ (EH b pre.length l w) o c b t (pre ++ l).toArray/\Turn o o (fun x=>x=c) w (EH b pre.length l w)
 | [],old,pre,w,hl,h=>by
  obtain rfl:old=[]:=List.eq_nil_of_length_eq_zero hl;exact ⟨h,Turn.refl _ _ _⟩
 | u :: l,[],pre,w,hl,h=>by simp at hl
 | u :: l,z :: old,pre,w,hl,h=>by
  obtain ⟨h1,t1⟩:=h.set pre.length u;rw [List.setIfInBounds_toArray,List.set_append_right _ _ (Nat.le_refl _),Nat.sub_self,List.set_cons_zero,show pre ++ u :: old=(pre ++ [u]) ++ old by simp] at h1;obtain ⟨h2,t2⟩:=Hz l old (pre ++ [u]) (by simpa using hl) h1;rw [show (pre ++ [u]) ++ l=pre ++ u :: l by simp,List.length_append,List.length_singleton] at h2;rw [List.length_append,List.length_singleton] at t2;exact ⟨h2,t1.trans t2 (fun _ h=>h)⟩
theorem VX {w:World}{o:Col}{c Z:Nat}{z0 z1 z2 z3 z4 z5 z6 z7 z8 z9 z10 z11:Value}(h:dZ w o c Z 88 #[z0,z1,z2,z3,z4,z5,z6,z7,z8,z9,z10,z11])(l:List Value)(hl:l.length=12) :
 dZ (EH Z 0 l w) o c Z 88 l.toArray/\Turn o o (fun x=>x=c) w (EH Z 0 l w):=Hz l [z0,z1,z2,z3,z4,z5,z6,z7,z8,z9,z10,z11] [] (by rw [hl];rfl) h
section
variable {w:World} {o:Col} {R K M:Nat} {g:av} {caps:List Int} {r:bH} {hs gv:Nat->List Int} {H:iH} {tv:Nat->wU} {sv:Nat->rT}
def YU (W:World)(o1:Col)(R:Nat)(g:av)(caps:List Int)(K:Nat)(H:iH)(bx:Array Value)(r:bH)(t Y Z:Nat)(wx:World):Prop :=
 ∃ q r1 hs1 gv1 tv1 sv1 x1 g1 v1,Turn o1 q (eu R) W wx/\fA wx q R g caps K r1 hs1 gv1 H tv1 sv1/\r1.failed=none/\dZ wx q (R+2111) Y 88 (taskX g x1 g1 v1 t).toArray/\oC wx q R g t x1 g1 v1/\dZ wx q (R+2110) Z 37 bx/\x1.gives=true/\x1.hand.flatten.length=fH (ay g t) /\
  eX g caps r t=(⟨⟨upd r1.aP.tasks t (jR (ay g t).length (aF g t).length x1),r1.aP.strs⟩,none⟩,true)/\(x1.port=(aF g t).length↔x1.bg.flatten=[])/\x1.whole<=100000000000000
theorem Rz {l:List Int}(h:∀ x∈l,1<=x/\x<=64):fH l=0↔l.length=0:=by
 cases l with
 | nil=>simp [fH]
 | cons x l =>
  have:=h x List.mem_cons_self;simp only [fH,List.map_cons,List.sum_cons,List.length_cons];omega
theorem NT {A1 I k O I1 I2 gl:Nat}(h1:A1=I+1+k)(h2:k+gl=O)(h3:I+1=I1)(h4:I1+O=I2)(hI:I<=4096)(hO:O<=4096):(A1=I2↔gl=0)/\I1+O<=1000000/\I<=100000000000000:=by omega
theorem sub_one {a b:Nat}(h:a<=1000000)(hb:a=b+1):wrap64 ((a:Int) - 1)=(b:Int)/\IntKind.i64.wrap ((a:Int) - 1)=(b:Int):=by
 refine ⟨?_,?_⟩
 ·
  rw [IntWalk.wrap64_in _ (by omega)];omega
 ·
  rw [IntWalk.i64_in _ (by omega)];omega
theorem Kh {A I k:Nat}(h:A=I+1+k)(hI:I<=4096)(hk:k<=4096):A<=1000000/\I<=A/\A - I<=1000000/\A - I=k+1/\¬ A=I/\A<=100000000000000:=by omega
theorem zV {a b:Nat}(h:¬ a=b):¬ (a:Int)=b/\((a:Int) == b)=false:=by
 have:¬ (a:Int)=b:=by omega
 exact ⟨this,by rw [beq_eq_false_iff_ne];exact this⟩
theorem Ki (h:fA w o R g caps K r hs gv H tv sv)(hG:BS g caps)(hK:vS g M r.aP)(hM:M<=100000000000000)(hN:∀ d,(hs d).length+(r.aP.strs d).length<=16000000000000){t:Nat}(ht:t < g.actors.length)(hf:r.failed=none)(hr:isReady g caps r.aP t=true)(hnt:(r.aP.tasks t).gives=true\/¬ (r.aP.tasks t).port < (ay g t).length) :
  Calls Tryz.prog 27 #[.agg (dP g caps H).toArray,.int .i64 (t:Int)] w (Bn w o R g caps (K+1) H (eX g caps r t).1 (.bool (eX g caps r t).2)):=by
 obtain ⟨F,hF⟩:∃ x,eX g caps r t=x:=⟨_,rfl⟩;rw [hF];have QN:=af hF;have HRY:=af hr;have HMM:=af hM;have hfull:=(hK.task t ht).full (fun hg=>by rcases hnt with h | h;exact absurd h hg;exact h);have HFU:=af hfull;have HNT:=af hnt;have hge:fH (ay g t)<=zA (r.aP.tasks t) (gv t):=by unfold zA;rw [hfull.1];split <;> omega
 have xA:=af hge;have abK:=af hN;replace hN:∀ d,(hs d).length+(r.aP.strs d).length<=100000000000000:=fun d=>Nat.le_trans (hN d) (by decide);clear hF hM hfull hnt hge;have hrd:∀ w1,Below w.heap.size w w1->Calls Tryz.prog 48 #[.agg (dP g caps H).toArray,.int .i64 (t:Int)] w1 (fq (.bool true) w1):=fun w1 hb=>by
  have:=yx (h.below hb) hG hK hN ht hf (h.task t ht).rest;rw [hr] at this;exact this
 obtain ⟨⟨ri,rl⟩,ro,SB⟩:=rq hG.acts t;have qE:=af ri;have Gp:=af rl;have sI:=af ro;have Hf:=af SB;have HO:=af (hK.task t ht);have HG:=af hG;have rP:=af ht;have vT:=af hf;have HNB:=af hN;have BD:=af hK;unfold dP at hrd ⊢;obtain ⟨aa,ac,ae,ec,ai,nc,ao,uc,cv,cc,ta,tc,sa',dz,fl⟩:=H;obtain ⟨tg,oF,htc,-,hfz,-,hcl⟩:=h.pF ht;dsimp only at oF htc;subst oF;obtain ⟨T,hTe⟩:∃ x,eH g t=x:=⟨_,rfl⟩;obtain ⟨N,hNe⟩:∃ x,(r.aP.tasks t).n=x:=⟨_,rfl⟩;obtain ⟨A,BH⟩:∃ x,zA (r.aP.tasks t) (gv t)=x:=⟨_,rfl⟩;obtain ⟨Wh,J6⟩:∃ x,(r.aP.tasks t).whole=x:=⟨_,rfl⟩;obtain ⟨v,uH⟩:∃ x,tv t=x:=⟨_,rfl⟩;have hT:=h.task t ht;unfold taskX iw at hcl;rw [hTe,hNe,BH,J6,uH] at hcl;rw [uH] at hT;have HVE:=af uH;have Rl:=af hTe;have u7:=af hNe;have YE:=af J6;clear hTe hNe J6 uH;obtain ⟨pa,pl,pc,ia,il,ic,oa,ol,oc,ka,kl,kc,sa,sl,sc,da,dl,dc,ha,hl,hc,ga,gl,gc⟩:=v;obtain ⟨a0,a1,a2,a3,a4,a5,a6,a7,a8,a9,qF,pK⟩:=Bf hcl;clear hcl;have bX:(t:Int) < g.actors.length:=by omega
 have VN:(g.actors.length:Int)<=tc:=by omega
 dsimp only at hrd ⊢;have BG:=af hrd;have J7:=af BH;have lH:=au w (.cells #[.string g.name,.slice aa g.actors.length ac,.slice ae g.edges.length ec,.slice ai g.ins.length nc,.slice ao g.outs.length uc,.slice cv caps.length cc,.slice (some ⟨tg,0,none⟩) g.actors.length tc,.slice sa' (aR g) dz,.slice (some ⟨fl,0,none⟩) 1 1] 37);have hX:=heap_alloc_new w (.cells #[.string g.name,.slice aa g.actors.length ac,.slice ae g.edges.length ec,.slice ai g.ins.length nc,.slice ao g.outs.length uc,.slice cv caps.length cc,.slice (some ⟨tg,0,none⟩) g.actors.length tc,.slice sa' (aR g) dz,.slice (some ⟨fl,0,none⟩) 1 1] 37);obtain ⟨x0,x1,x2,x3,x4,x5,x6,x7,x8⟩:=ou hX;have hX1:=dQ (w:=w) o (R+2110) #[.string g.name,.slice aa g.actors.length ac,.slice ae g.edges.length ec,.slice ai g.ins.length nc,.slice ao g.outs.length uc,.slice cv caps.length cc,.slice (some ⟨tg,0,none⟩) g.actors.length tc,.slice sa' (aR g) dz,.slice (some ⟨fl,0,none⟩) 1 1] 37;have T1:=Turn.of_below o (R+2110) lH;have HXB:=af hX1;have H1:=af (h.turn T1 (fun _ h=>h.elim));have HT:=af (hT.turn T1 (fun h=>h) (fun h=>h) (fun h=>h));have qG:=af (T1.mono (D:=eu R) (fun _ h=>h.elim));have pO:=af lH;have aL:=uy lH ⟨a0,a1,a2,a3,a4,a5,a6,a7,a8,a9,qF,pK⟩;clear a0 a1 a2 a3 a4 a5 a6 a7 a8 a9 qF pK;obtain ⟨a0,a1,a2,a3,a4,a5,a6,a7,a8,a9,qF,pK⟩:=aL;have W9:=af (And.intro a0 (And.intro a1 (And.intro a2 (And.intro a3 (And.intro a4 (And.intro a5 (And.intro a6 (And.intro a7 (And.intro a8 (And.intro a9 (And.intro qF pK)))))))))));generalize ext o w.heap.size (R+2110)=o0 at *;clear a0 a1 a2 a3 a4 a5 a6 a7 a8 a9 qF pK;clear h hG hK hT hrd ri rl ro SB BH hf hr hfz htc lH hX hX1 T1 hN;go_enter Tryz.func27,Tryz.ntmps27;go_wp2_with fail;refine (BG.out _ pO.out).mono ?_;rintro e w1 ⟨rfl,hb1⟩;have T1:=Turn.of_below o0 (R+2005) hb1;replace HXB:=af (HXB.out.turn T1 (fun h=>h));replace H1:=af (H1.out.turn T1 (fun _ h=>h.elim));replace HT:=af (HT.out.turn T1 (fun h=>h) (fun h=>h) (fun h=>h));replace qG:=af (qG.out.trans T1 (fun _ h=>h.elim));obtain ⟨a0,a1,a2,a3,a4,a5,a6,a7,a8,a9,qF,pK⟩:=W9.out;have aL:=uy hb1 ⟨a0,a1,a2,a3,a4,a5,a6,a7,a8,a9,qF,pK⟩;clear a0 a1 a2 a3 a4 a5 a6 a7 a8 a9 qF pK;obtain ⟨a0,a1,a2,a3,a4,a5,a6,a7,a8,a9,qF,pK⟩:=aL;generalize ext o0 _ (R+2005)=o2 at *;clear x0 x1 x2 x3 x4 x5 x6 x7 x8;have x6:=HXB.out.cell 6 _ rfl;have hb2:=au w1 (.cells #[.int .u8 T,.slice pa pl pc,.slice ia il ic,.slice oa ol oc,.slice ka kl kc,.int .i64 N,.slice sa sl sc,.slice da dl dc,.int .i64 (A:Nat),.slice ha hl hc,.slice ga gl gc,.int .i64 (Wh:Nat)] 88);have T2:=Turn.of_below o2 (R+2111) hb2;have eP:=af (dQ (w:=w1) o2 (R+2111) #[.int .u8 T,.slice pa pl pc,.slice ia il ic,.slice oa ol oc,.slice ka kl kc,.int .i64 N,.slice sa sl sc,.slice da dl dc,.int .i64 (A:Nat),.slice ha hl hc,.slice ga gl gc,.int .i64 (Wh:Nat)] 88);replace HXB:=af (HXB.out.turn T2 (fun h=>h));replace H1:=af (H1.out.turn T2 (fun _ h=>h.elim));replace HT:=af (HT.out.turn T2 (fun h=>h) (fun h=>h) (fun h=>h));replace qG:=af (qG.out.trans T2 (fun _ h=>h.elim));generalize ext o2 w1.heap.size (R+2111)=o1 at *;clear T1 T2 hb1 hb2 W9 BG pO;go_wp2_with fail;refine (rA (o:=o1) (c:=R+3) HT.out.vi qE.out Gp.out).mono ?_;rintro e wq ⟨rfl,rfl⟩;obtain ⟨W,hW⟩:∃ x,w1.alloc (.cells #[.int .u8 T,.slice pa pl pc,.slice ia il ic,.slice oa ol oc,.slice ka kl kc,.int .i64 N,.slice sa sl sc,.slice da dl dc,.int .i64 (A:Nat),.slice ha hl hc,.slice ga gl gc,.int .i64 (Wh:Nat)] 88)=x:=⟨_,rfl⟩;obtain ⟨Y,uJ⟩:∃ x,w1.heap.size=x:=⟨_,rfl⟩;rw [hW] at H1 HXB eP HT qG ⊢;rw [uJ] at eP ⊢;clear hW uJ x6;clear a0 a1 a2 a3 a4 a5 a6 a7 a8 a9 qF pK;obtain ⟨I,hI⟩:∃ x,fH (ay g t)=x:=⟨_,rfl⟩;have hI5:I<=4096:=by have h1:=gZ qE.out;have h2:=Gp.out;omega
 rw [hI];have HI:=af hI;clear hI;obtain ⟨Z,SI⟩:∃ x,w.heap.size=x:=⟨_,rfl⟩;rw [SI] at HXB ⊢;have HZE:=af SI;clear SI;have hni:¬ (A:Int) < I:=by have h1:=xA.out;rw [J7.out,HI.out] at h1;omega
 have abL:decide ((A:Int) < I)=false:=decide_eq_false hni;have abM:decide (A < I)=false:=decide_eq_false (by omega);have y8:=eP.out.cell 8 _ rfl
 go_upto_if 81 with fail
 go_cut [8,9] from 78 to 130 (fun _ _ wx=>YU W o1 R g caps (K+1) ⟨aa,ac,ae,ec,ai,nc,ao,uc,cv,cc,some ⟨tg,0,none⟩,tc,sa',dz,fl⟩ #[.string g.name,.slice aa g.actors.length ac,.slice ae g.edges.length ec,.slice ai g.ins.length nc,.slice ao g.outs.length uc,.slice cv caps.length cc,.slice (some ⟨tg,0,none⟩) g.actors.length tc,.slice sa' (aR g) dz,.slice (some ⟨fl,0,none⟩) 1 1] r t Y Z wx)
 case first =>
  cases hg:(r.aP.tasks t).gives with
  | false =>
   have hp:¬ (r.aP.tasks t).port < (ay g t).length:=by rcases HNT.out with h | h;exact absurd h (by rw [hg];simp);exact h
   have OB:A=I:=by rw [<- J7.out,<- HI.out,<- HFU.out.1];unfold zA;rw [hg];rfl
   have hAb:((A:Int) == I)=true:=by rw [OB];simp
   have hAd:decide ((A:Int)=I)=true:=by rw [OB];simp
   have hAn:decide (A=I)=true:=by rw [OB];simp
   have hAm:(A == I)=true:=by rw [OB];simp
   clear OB;have HRK:=af (Hu H1.out HG.out BD.out (Nat.le_trans HMM.out (by decide)) rP.out vT.out hg hp);unfold dP at HRK;dsimp only at HRK;obtain ⟨x0,x1,x2,x3,x4,x5,x6,x7,x8⟩:=jD HXB.out;clear hni;go_wp2_with fail;refine HRK.out.mono ?_;rintro e wk ⟨q,tv1,rfl,TK,hbad,hgood⟩;have hnm:¬ tC R (R+2110):=by unfold tC;omega
   have aaD:¬ tC R (R+2111):=by unfold tC;omega
   replace HXB:=af (HXB.out.turn TK hnm);replace eP:=af (eP.out.turn TK aaD);have HTK:=af (TK.mono tC.y);have HBAD:=af hbad;have aaE:=af hgood;clear TK hbad hgood hnm aaD HRK x0 x1 x2 x3 x4 x5 x6 x7 x8 H1 HT y8;have x6:=HXB.out.cell 6 _ rfl;have x8:=HXB.out.cell 8 _ rfl
   by_cases hE:(dV g t (r.aP.tasks t)).err=0
   ·
    have hH:=aaE.out hE;have HH:=af hH;have fc:=hH.fail.cell 0 _ rfl;change wk.cell? ⟨fl,0,none⟩=some (.int .i64 (-1)) at fc;have hm1:¬ (0:Int)<=(-1:Int):=by omega
    obtain ⟨x1,hx1⟩:∃ x:bW,{ r.aP.tasks t with keep:=(dV g t (r.aP.tasks t)).keep,n:=(dV g t (r.aP.tasks t)).n,bg:=(dV g t (r.aP.tasks t)).outs,gives:=true,port:=0 }=x:=⟨_,rfl⟩;rw [hx1] at HH hH;have hxg:x1.gives=true:=by rw [<- hx1]
    have hxh:x1.hand.flatten.length=fH (ay g t):=by rw [<- hx1];exact HFU.out.1
    have hxo:x1.bg.flatten.length=fH (aF g t):=by rw [<- hx1];exact Dn HG.out.acts rP.out hE
    have hxp:x1.port=0:=by rw [<- hx1]
    have hiff:x1.port=(aF g t).length↔x1.bg.flatten=[]:=by
     rw [hxp,<- List.length_eq_zero_iff,hxo,Rz sI.out];exact eq_comm
    have hxw:x1.whole<=100000000000000:=by rw [<- hx1];exact Nat.le_trans HO.out.whole HMM.out
    have hstep:F=(⟨⟨upd r.aP.tasks t (jR (ay g t).length (aF g t).length x1),r.aP.strs⟩,none⟩,true):=by
     rw [<- QN.out,<- hx1];unfold eX;rw [vT.out];simp only;rw [show iJ g caps r.aP t=.goes ⟨upd r.aP.tasks t (uZ (ay g t).length (aF g t).length (r.aP.tasks t) (dV g t (r.aP.tasks t))),r.aP.strs⟩ from pY.2 ⟨rP.out,.fire _ hg hp hE rfl⟩];rfl
    have hstep2:eX g caps r t=(⟨⟨upd (upd r.aP.tasks t x1) t (jR (ay g t).length (aF g t).length x1),r.aP.strs⟩,none⟩,true):=by rw [QN.out,hstep,Cu]
    have Hw:=hH.task t rP.out;dsimp only at Hw;rw [upd_same,upd_same] at Hw;obtain ⟨tg',VU,-,-,-,-,hcl⟩:=hH.pF rP.out;cases VU
    dsimp only at hcl;rw [upd_same,upd_same] at hcl;obtain ⟨v1,hv1⟩:∃ x,tv1 t=x:=⟨_,rfl⟩;rw [hv1] at Hw hcl;clear hv1;obtain ⟨SG,pl1,pc1,ia1,il1,ic1,Zr,Zt,vV,ka1,kl1,kc1,sa1,sl1,sc1,da1,dl1,dc1,ha1,hl1,hc1,ga1,gl1,gc1⟩:=v1;unfold taskX iw at hcl;obtain ⟨N1,hN1⟩:∃ x,x1.n=x:=⟨_,rfl⟩;obtain ⟨A1,hA1⟩:∃ x,zA x1 []=x:=⟨_,rfl⟩;obtain ⟨W1,hW1⟩:∃ x,x1.whole=x:=⟨_,rfl⟩;rw [Rl.out,hN1,hA1,hW1] at hcl;dsimp only at hcl;have a0:=hcl 0 _ (by omega) rfl;have a1:=hcl 1 _ (by omega) rfl;have a2:=hcl 2 _ (by omega) rfl;have a3:=hcl 3 _ (by omega) rfl;have a4:=hcl 4 _ (by omega) rfl;have a5:=hcl 5 _ (by omega) rfl;have a6:=hcl 6 _ (by omega) rfl;have a7:=hcl 7 _ (by omega) rfl;have a8:=hcl 8 _ (by omega) rfl;have a9:=hcl 9 _ (by omega) rfl;have qF:=hcl 10 _ (by omega) rfl;have pK:=hcl 11 _ (by omega) rfl;rw [Nat.add_zero] at a0;obtain ⟨zC,Bp⟩:=VX eP.out [.int .u8 T,.slice SG pl1 pc1,.slice ia1 il1 ic1,.slice Zr Zt vV,.slice ka1 kl1 kc1,.int .i64 N1,.slice sa1 sl1 sc1,.slice da1 dl1 dc1,.int .i64 (A1:Nat),.slice ha1 hl1 hc1,.slice ga1 gl1 gc1,.int .i64 (W1:Nat)] rfl;have Hy:=hH.most.1;have htl:=rP.out;have eT:Hid (YU W o1 R g caps (K+1) ⟨aa,ac,ae,ec,ai,nc,ao,uc,cv,cc,some ⟨tg,0,none⟩,tc,sa',dz,fl⟩ #[.string g.name,.slice aa g.actors.length ac,.slice ae g.edges.length ec,.slice ai g.ins.length nc,.slice ao g.outs.length uc,.slice cv caps.length cc,.slice (some ⟨tg,0,none⟩) g.actors.length tc,.slice sa' (aR g) dz,.slice (some ⟨fl,0,none⟩) 1 1] r t Y Z _):=af ⟨q,_,_,_,_,_,x1,[],⟨SG,pl1,pc1,ia1,il1,ic1,Zr,Zt,vV,ka1,kl1,kc1,sa1,sl1,sc1,da1,dl1,dc1,ha1,hl1,hc1,ga1,gl1,gc1⟩,HTK.out.trans Bp (wV (by omega)),(hH.mono (K':=K+1) (by omega)).turn Bp (fun k hk=>by rw [hk];unfold jY;omega),rfl,by unfold taskX iw;rw [Rl.out,hN1,hA1,hW1];exact zC,Hw.turn Bp (by omega) (by omega) (by omega),HXB.out.turn Bp (by omega),hxg,hxh,hstep2,hiff,hxw⟩;clear hxw hx1 hxg hxh hxo hxp hiff hstep hstep2 Hw hcl hN1 hA1 hW1 zC Bp Hy htl hH;have e0:=eP.out.cell 0 _ rfl;have e1:=eP.out.cell 1 _ rfl;have e2:=eP.out.cell 2 _ rfl;have e3:=eP.out.cell 3 _ rfl;have e4:=eP.out.cell 4 _ rfl;have e5:=eP.out.cell 5 _ rfl;have e6:=eP.out.cell 6 _ rfl;have e7:=eP.out.cell 7 _ rfl;have e8:=eP.out.cell 8 _ rfl;have e9:=eP.out.cell 9 _ rfl;have e10:=eP.out.cell 10 _ rfl;have e11:=eP.out.cell 11 _ rfl;have f0:=eP.out.frozen 0;have f1:=eP.out.frozen 1;have f2:=eP.out.frozen 2;have f3:=eP.out.frozen 3;have f4:=eP.out.frozen 4;have f5:=eP.out.frozen 5;have f6:=eP.out.frozen 6;have f7:=eP.out.frozen 7;have f8:=eP.out.frozen 8;have f9:=eP.out.frozen 9;have f10:=eP.out.frozen 10;have f11:=eP.out.frozen 11;go_wp2_with fail
    go_meet
    case rel=>exact eT.out
   ·
    have hH:=HBAD.out hE;have fc:=hH.fail.cell 0 _ rfl;change wk.cell? ⟨fl,0,none⟩=some (.int .i64 (t:Int)) at fc;have hm1:(0:Int)<=(t:Int):=Int.natCast_nonneg t;have hstep:F=(⟨r.aP,some t⟩,true):=by
     rw [<- QN.out];unfold eX;rw [vT.out];simp only;rw [show iJ g caps r.aP t=.fails from Av.2 ⟨rP.out,hg,hp,hE⟩]
    subst hstep;have eT:=af (hH.mono (K':=K+1) (by omega));have YT:=af (qG.out.trans HTK.out (fun _ h=>h));clear hH x6;go_wp2;go_ret;exact ⟨_,_,_,_,_,rfl,YT.out,eT.out⟩
  | true =>
   obtain ⟨p1,p2,l,hgl,hset⟩:=HO.out.WZ HG.out.acts hg HT.out.rest;have hlast:=HO.out.last HG.out.acts hg;have hp:=(HO.out.give hg).1;have hdl:=HG.out.linked.out t _ rP.out hp;have hda:=Rk HG.out.linked rP.out hp;have hff:rM caps r.aP (toP g t (r.aP.tasks t).port)=false:=by have:=HRY.out;rw [oU rP.out hg] at this;simpa using this
   have hrow:=HT.out.gives hg;have hrest:=HT.out.rest hg;obtain ⟨k,hke⟩:∃ x,(gv t).length=x:=⟨_,rfl⟩;have OB:A=I+1+k:=by rw [<- J7.out,<- HI.out,<- HFU.out.1,<- hke];unfold zA;rw [hg];rfl
   have hk5:k<=4096:=by rw [<- hke];exact Nat.le_of_lt (Nat.lt_of_lt_of_le p2 (Nat.le_trans (ru _) (Nat.le_trans (gZ sI.out) (Nat.mul_le_mul_left 64 Hf.out))))
   obtain ⟨r1,r2,r3,r4,r5,r6⟩:=Kh OB hI5 hk5;obtain ⟨V,hV⟩:∃ x,lu (r.aP.tasks t)=x:=⟨_,rfl⟩;rw [hV] at hgl;obtain ⟨x1,hx1⟩:∃ x:bW,{ r.aP.tasks t with bg:=(r.aP.tasks t).bg.set (r.aP.tasks t).port ((r.aP.tasks t).bg[(r.aP.tasks t).port]?.getD []).tail,port:=if ((r.aP.tasks t).bg[(r.aP.tasks t).port]?.getD []).tail=[] then (r.aP.tasks t).port+1 else (r.aP.tasks t).port }=x:=⟨_,rfl⟩;obtain ⟨d,hd⟩:∃ x,toP g t (r.aP.tasks t).port=x:=⟨_,rfl⟩;have hstep2:eX g caps r t=(⟨⟨upd r.aP.tasks t (jR (ay g t).length (aF g t).length x1),upd r.aP.strs d (r.aP.strs d ++ [V])⟩,none⟩,true):=by
    unfold eX;rw [vT.out];simp only;rw [show iJ g caps r.aP t=.goes ⟨upd r.aP.tasks t (sG (ay g t).length (aF g t).length (r.aP.tasks t)),upd r.aP.strs (toP g t (r.aP.tasks t).port) (r.aP.strs (toP g t (r.aP.tasks t).port) ++ [lu (r.aP.tasks t)])⟩ from pY.2 ⟨rP.out,.give _ hg hff rfl⟩,hd,hV,<- hx1];rfl
   have hxg:x1.gives=true:=by rw [<- hx1];exact hg
   have hxh:x1.hand.flatten=(r.aP.tasks t).hand.flatten:=by rw [<- hx1]
   have Bq:x1.bg.flatten=l:=by rw [<- hx1];exact hset
   have hxn:x1.n=N:=by rw [<- hx1];exact u7.out
   have hxw:x1.whole=Wh:=by rw [<- hx1];exact YE.out
   have hxk:x1.keep=(r.aP.tasks t).keep:=by rw [<- hx1]
   have hiff:x1.port=(aF g t).length↔x1.bg.flatten=[]:=by rw [<- hx1];exact hlast
   have hwl:x1.whole<=100000000000000:=by rw [<- hx1];exact Nat.le_trans HO.out.whole HMM.out
   obtain ⟨p,hpe⟩:∃ x,(r.aP.tasks t).port=x:=⟨_,rfl⟩;rw [hpe] at p1 p2 hp hda hd hdl;rw [hd] at hda hdl;rw [hke] at p1 p2;have WO:=af p1;have WQ:=af p2;have SC:=af hp;have HX:=af (And.intro hxg (And.intro hxh (And.intro Bq (And.intro hxn (And.intro hxw (And.intro hxk (And.intro hiff hwl)))))));have HS2:=af hstep2;have HRW:=af (show Ints W o1 (R+3) (.slice ga gl gc) (gv t ++ V :: l) by rw [<- hgl];exact hrow);have HGL:=af hgl;have HRS:=af hrest;have HKE:=af hke;have hd2:d < aR g:=by unfold aR;omega
   have HD2:=af hd2;obtain ⟨sg,hsa,hsc,-,-,-,s0,-⟩:=H1.out.sW hd2;dsimp only at hsa hsc;subst hsa;have hds:=H1.out.yw hd2;have hnn:=abK.out d;have hall:=H1.out.all d hd2;unfold rT.v at s0 hall;obtain ⟨zz,hzz⟩:∃ x,sv d=x:=⟨_,rfl⟩;rw [hzz] at s0 hds hall;clear hzz;obtain ⟨za,zl,zc⟩:=zz;dsimp only at s0 hds hall;rw [<- hds] at hnn;have Oz:=af hall;have HZL:=af hnn;have SE:=af hds;obtain ⟨gb,off,rfl,-,NI,-,-,hcl⟩:=Ints.at HT.out.dst (by rw [l5];exact Nat.lt_of_le_of_lt (Nat.zero_le _) hp);have c0:=hcl p (by rw [l5];exact hp);rw [hda] at c0;have VP:dl=(aF g t).length:=by have:=Ints.len HT.out.dst;rw [l5] at this;exact this
   dsimp only at NI;have hpi:(p:Int) < dl:=by rw [VP];exact Int.ofNat_lt.2 hp
   have aav:(dl:Int)<=dc:=Int.ofNat_le.2 NI;have hdi:(d:Int) < aR g:=Int.ofNat_lt.2 hd2;have Rm:(aR g:Int)<=dz:=Int.ofNat_le.2 hsc;have Xl:gl=k+1+l.length:=by have:=Ints.len HRW.out;rw [this,List.length_append,HKE.out,List.length_cons];omega
   obtain ⟨gg,og,rfl,-,hgc,-,-,aaF⟩:=Ints.at HRW.out (by rw [List.length_append,List.length_cons];exact Nat.lt_of_lt_of_le (Nat.succ_pos l.length) (Nat.le_add_left _ _));have v0:=aaF k (by rw [List.length_append,HKE.out,List.length_cons];omega);rw [show (gv t ++ V :: l)[k]?.getD 0=V by rw [<- HKE.out];simp] at v0;change W.cell? ⟨gg,og+k,none⟩=some (.int .i64 V) at v0;have hki:(k:Int) < gl:=by rw [Xl];omega
   have aaG:(gl:Int)<=gc:=Int.ofNat_le.2 hgc;obtain ⟨hw1,hw2⟩:=LA (a:=A) (b:=I) r1 r2;obtain ⟨hw3,hw4⟩:=sub_one r3 r4;obtain ⟨B,hB⟩:∃ x,A - I=x:=⟨_,rfl⟩;rw [hB] at hw1 hw2 hw3 hw4;obtain ⟨acG,hnb⟩:=zV r5;obtain ⟨A1,hA1⟩:∃ x,A+1=x:=⟨_,rfl⟩;obtain ⟨SK,YV⟩:=add_one r6 hA1;have HA1:=af hA1;have HAI:=af OB;have y7:=eP.out.cell 7 _ rfl;have y3:=eP.out.cell 3 _ rfl;clear p1 p2 hgl hset hlast hp hdl hda hff hrow hrest hke OB hk5 r1 r2 r3 r4 r6 hV hx1 hd hstep2 hxg hxh Bq hxn hxw hxk hiff hwl hpe hd2 hds hnn hall NI hcl VP hsc Xl hgc aaF hB hA1;go_wp2_with fail;refine fC (fun w'=>Below W.heap.size W w'/\w'.cell? ⟨Y,7,none⟩=some (.slice (some ⟨gb,off,none⟩) dl dc)/\w'.cell? ⟨Y,3,none⟩=some (.slice oa ol oc)/\w'.cell? ⟨gb,off+p,none⟩=some (.int .i64 (d:Nat))) [0,1,2,3,4,5,6,7,8,9] [] (by kernel_rfl) (by kernel_rfl) rfl ⟨cK (n:=1) (Below.refl _ _),y7,y3,c0⟩ ?_;simp only [pk];refine fD ?_;refine gT (.int .i64 (p:Nat)) 50 #[.slice oa ol oc,.int .i64 (k:Nat)] (by rfl) (fun wz=>by go_simp) (fun wz hz=>?_) ?_
   ·
    refine (uz (o:=fun _=>0) (c:=0) (HT.out.vo.has.below hz.1) sI.out Hf.out SC.out WO.out WQ.out).mono ?_;rintro e wy ⟨rfl,rfl⟩;exact ⟨rfl,hz⟩
   simp only [pt];refine fD ?_;refine iI ?_;intro w3 hS;have T3:=Turn.of_below o1 (R+2005) hS.1;replace HXB:=af (HXB.out.turn T3 (fun h=>h));replace eP:=af (eP.out.turn T3 (fun h=>h));replace H1:=af (H1.out.turn T3 (fun _ h=>h.elim));replace HT:=af (HT.out.turn T3 (fun h=>h) (fun h=>h) (fun h=>h));replace HRW:=af (HRW.out.turn T3 (fun h=>h));replace Oz:=af (Oz.out.turn T3 (fun h=>h));have rU:=af (T3.mono (D:=eu R) (fun _ h=>h.elim));replace s0:=T3.cell s0 (fun h=>h);replace v0:=T3.cell v0 (fun h=>h);generalize ext o1 W.heap.size (R+2005)=o3 at *;clear T3 hS y7 y3 c0;have x7:=HXB.out.cell 7 _ rfl;have OA:=eP.out.cell 10 _ rfl;obtain ⟨i0,hif,hz0,hz1,hz2⟩:=info_parts bU;have HIF:=af hif;clear hif;go_wp2_with fail;refine cB (fun w'=>w'.cell? ⟨Z,7,none⟩=some (.slice (some ⟨sg,0,none⟩) (aR g) dz)/\w'.cell? ⟨sg,d*2,none⟩=some (.slice za zl zc)/\w'.cell? ⟨Y,10,none⟩=some (.slice (some ⟨gg,og,none⟩) gl gc)/\w'.cell? ⟨gg,og+k,none⟩=some (.int .i64 V)) [0,1,2,3,4,5,6,7,8,9,10,11,12,13] [15] [0,1,2,3,4,5,6,7,8,9,10,11,12,13] 5 (by kernel_rfl) (by kernel_rfl) rfl ⟨x7,s0,OA,v0⟩ ?_;intro Q' hQ' lD;simp only [pk];refine aD ?_;refine ax ?_;have hba:=au w3 (.cells #[.int .i64 V] 3);have Ta:=(Turn.of_below o3 (R+2005) hba).drew;replace HXB:=af (HXB.out.turn Ta (fun h=>h));replace eP:=af (eP.out.turn Ta (fun h=>h));replace H1:=af (H1.out.turn Ta (fun _ h=>h.elim));replace HT:=af (HT.out.turn Ta (fun h=>h) (fun h=>h) (fun h=>h));replace HRW:=af (HRW.out.turn Ta (fun h=>h));replace Oz:=af (Oz.out.turn Ta (fun h=>h));replace rU:=af (rU.out.trans Ta (fun _ h=>h.elim));replace s0:=Ta.cell s0 (fun h=>h);replace v0:=Ta.cell v0 (fun h=>h);have hnw:∀ ad,some (⟨w3.heap.size,0,none⟩:Addr)=some ad->∀ j u,[Value.int .i64 V][j]?=some u->(w3.alloc (.cells #[.int .i64 V] 3)).drew.cell? (ad.add j)=some u:=fun ad had j u hu=>bC w3 [.int .i64 V] 3 ad had j u hu;generalize ext o3 w3.heap.size (R+2005)=o4 at *;clear Ta hba x7 OA;refine aB (i:=14) (by kernel_rfl) ?_;simp only [pk];go_wp2_with fail;have Xj:=af hnw;have EK:=af (And.intro (HXB.out.cell 7 _ rfl) (And.intro s0 (And.intro (eP.out.cell 10 _ rfl) v0)));clear hnw s0 v0;refine ⟨by intros;exact EK.out,?_⟩;refine aB (i:=15) (by kernel_rfl) ?_;simp only [pk];go_wp2_with (at_builtin;refine aU ?_);refine dR ?_;refine nZ rfl _ _ 27 rfl o4 (R+10+d) 3 i0 _ 8 Tryz.underlying27 HIF.out hz0 hz1 hz2 rfl (.slice za zl zc) (bB (hs d ++ r.aP.strs d)) rfl Oz.out (some ⟨w3.heap.size,0,none⟩) 1 1 [.int .i64 V] rfl rfl (fun h=>by cases h) Xj.out (by simp [Value.oneCell']) (by rw [aX,List.length_append,<- SE.out];have:=HZL.out;unfold maxLen;omega) (bA (by rw [aX,List.length_append,<- SE.out];have:=HZL.out;omega)) ?_;intro v7 w7 T7 O7;have hm2:=H1.out.most;have hd2:=HD2.out;have htl:=rP.out;obtain ⟨iM,iN,hv7⟩:=O7.slice;obtain ⟨L7,hL7⟩:∃ x,(bB (hs d ++ r.aP.strs d) ++ [Value.int .i64 V]).length=x:=⟨_,rfl⟩;rw [hL7] at hv7;subst hv7;obtain ⟨sg',YJ,-,FR,hfz,-⟩:=H1.out.sW hd2;cases YJ
   obtain ⟨hs7,TS⟩:=H1.out.Ri (d:=d) (z:=⟨iM,L7,iN⟩) (l:=[V]) hd2 rfl T7 (by rw [<- List.append_assoc,bB,List.map_append];exact O7);obtain ⟨gg',og',egg,-,-,-,Xm,-⟩:=Ints.at HRW.out (by rw [List.length_append,List.length_cons];exact Nat.lt_of_lt_of_le (Nat.succ_pos l.length) (Nat.le_add_left _ _));cases egg
   have hx7:=(HXB.out.turn T7 (by omega)).cell 7 _ rfl;have hy7:=(eP.out.turn T7 (by omega)).cell 10 _ rfl;have s7:=T7.cell EK.out.2.1 (by show ¬ (o4 sg=R+10+d);rw [FR];omega);have v7:=T7.cell EK.out.2.2.2 (by show ¬ (o4 gg=R+10+d);rw [Xm];omega);have f7:w7.frozen? ⟨sg,d*2,none⟩=false:=by
    obtain ⟨_,_,_,_,e,_,hf7,_⟩:=bQ (H1.out.streams.turn T7 (by omega)).1 (by rw [jW (sz:=2) (fun _=>rfl)];omega);cases e
    exact hf7 _
   have HSV:=af (And.intro hx7 (And.intro s7 (And.intro hy7 v7)));have HX8:=af (HXB.out.turn TS (by omega));have zL:=af (eP.out.turn TS (by omega));have HT8:=af (HT.out.turn TS (by omega) (by omega) (by omega));have YW:=af (HRW.out.turn TS (by omega));have YX:=af (rU.out.trans TS (fun x hx=>by rcases hx with rfl | rfl <;> unfold eu <;> omega));have HR8:=af hs7;generalize ext o4 _ (R+10+d)=o8 at *;clear hs7 TS T7 O7 hx7 hy7 v7 hL7 FR hfz Xm hm2 hd2 htl lD HXB eP HT HRW rU H1 Oz EK Xj;go_wp2_with fail;refine ⟨by intros;exact HSV.out,?_⟩;refine aJ (ks:=[16,17,18]) (fun _ _ hx h=>⟨hx.cell h.1,hx.cell h.2.1,hx.cell h.2.2.1,hx.cell h.2.2.2⟩) (by kernel_rfl) ?_;simp only [pk]
   go_upto_region 20 with fail
   obtain ⟨w8,hw8⟩:∃ x,w7.setCell ⟨sg,d*2,none⟩ (.slice iM L7 iN)=x:=⟨_,rfl⟩;change Hid (fA (w7.setCell ⟨sg,d*2,none⟩ (.slice iM L7 iN)) _ _ _ _ _ _ _ _ _ _ _) at HR8;change Hid (dZ (w7.setCell ⟨sg,d*2,none⟩ (.slice iM L7 iN)) _ _ _ _ _) at HX8 zL;change Hid (oC (w7.setCell ⟨sg,d*2,none⟩ (.slice iM L7 iN)) _ _ _ _ _ _ _) at HT8;change Hid (Ints (w7.setCell ⟨sg,d*2,none⟩ (.slice iM L7 iN)) _ _ _ _) at YW;change Hid (Turn _ _ _ _ (w7.setCell ⟨sg,d*2,none⟩ (.slice iM L7 iN))) at YX;rw [hw8] at HR8 HX8 zL HT8 YW YX ⊢;clear hw8 f7 HSV s7;obtain ⟨hxg,hxh,Bq,hxn,hxw,hxk,hiff,hwl⟩:=HX.out;have d8:=zL.out.cell 8 _ rfl;have f8:=zL.out.frozen 8;obtain ⟨zC,Bp⟩:=zL.out.set 8 (.int .i64 (A1:Int));simp only [List.setIfInBounds_toArray,List.set_cons_zero,List.set_cons_succ] at zC;have Hy:=HR8.out.most.1;have htl:=rP.out;have BI:=HT8.out.turn Bp (by omega) (by omega) (by omega);have hW9:=YW.out.turn Bp (by omega);have hat:zA x1 (gv t ++ [V])=A1:=by
    unfold zA;rw [hxg,if_pos rfl,hxh,List.length_append,List.length_singleton,HKE.out,HFU.out.1,HI.out,<- HA1.out,HAI.out];rfl
   have Hw:oC (w8.setCell ⟨Y,8,none⟩ (.int .i64 (A1:Int))) o8 R g t x1 (gv t ++ [V]) ⟨pa,pl,pc,ia,il,ic,oa,ol,oc,ka,kl,kc,sa,sl,sc,some ⟨gb,off,none⟩,dl,dc,ha,hl,hc,some ⟨gg,og,none⟩,gl,gc⟩ :=
    ⟨BI.vp,BI.vi,BI.vo,by rw [hxk];exact BI.vk,BI.src,BI.dst,by rw [hxh];exact BI.hand,fun _=>by rw [Bq,List.append_assoc];exact hW9,fun _=>by have:=HRS.out;rw [HGL.out,List.length_cons] at this;rw [Bq,List.length_append,List.length_singleton];omega,by rw [hxk];exact BI.kp⟩
   have eT:Hid (YU W o1 R g caps (K+1) ⟨aa,ac,ae,ec,ai,nc,ao,uc,cv,cc,some ⟨tg,0,none⟩,tc,some ⟨sg,0,none⟩,dz,fl⟩ #[.string g.name,.slice aa g.actors.length ac,.slice ae g.edges.length ec,.slice ai g.ins.length nc,.slice ao g.outs.length uc,.slice cv caps.length cc,.slice (some ⟨tg,0,none⟩) g.actors.length tc,.slice (some ⟨sg,0,none⟩) (aR g) dz,.slice (some ⟨fl,0,none⟩) 1 1] r t Y Z _) :=
    af ⟨o8,_,_,_,_,_,x1,gv t ++ [V],⟨pa,pl,pc,ia,il,ic,oa,ol,oc,ka,kl,kc,sa,sl,sc,some ⟨gb,off,none⟩,dl,dc,ha,hl,hc,some ⟨gg,og,none⟩,gl,gc⟩,YX.out.trans Bp (wV (by omega)),(HR8.out.mono (K':=K+1) (by omega)).turn Bp (fun k hk=>by rw [hk];unfold jY;omega),vT.out,by unfold taskX iw;rw [Rl.out,hxn,hat,hxw];exact zC,Hw,HX8.out.turn Bp (by omega),hxg,by rw [hxh];exact HFU.out.1,HS2.out,hiff,hwl⟩
   clear hxg hxh Bq hxn hxw hxk hiff hwl zC Bp Hy htl BI hW9 hat Hw;go_wp2_with fail
   go_meet
   case rel=>exact eT.out
 case rest =>
  obtain ⟨q,r1,hs1,gv1,tv1,sv1,x1,g1,v1,TM,Ns,NS,YZ,Y0,hXm,hxg,hxh,hst,hiff,hxw⟩:=hcut;obtain ⟨SG,pl1,pc1,ia1,il1,ic1,Zr,Zt,vV,ka1,kl1,kc1,sa1,sl1,sc1,da1,dl1,dc1,ha1,hl1,hc1,ga1,gl1,gc1⟩:=v1;unfold taskX iw at YZ;obtain ⟨N1,hN1⟩:∃ x,x1.n=x:=⟨_,rfl⟩;obtain ⟨A1,hA1⟩:∃ x,zA x1 g1=x:=⟨_,rfl⟩;obtain ⟨W1,hW1⟩:∃ x,x1.whole=x:=⟨_,rfl⟩;rw [Rl.out,hN1,hA1,hW1] at YZ;rw [hW1] at hxw;dsimp only at YZ;obtain ⟨O,hO⟩:∃ x,fH (aF g t)=x:=⟨_,rfl⟩;have hgo:=Y0.rest hxg;rw [hO] at hgo;have OB:A1=I+1+g1.length:=by rw [<- hA1,zA,hxg,if_pos rfl,hxh,HI.out]
  have QO:O<=4096:=by rw [<- hO];exact Nat.le_trans (gZ sI.out) (Nat.mul_le_mul_left 64 Hf.out)
  obtain ⟨I1,hI1⟩:∃ x,I+1=x:=⟨_,rfl⟩;obtain ⟨I2,hI2⟩:∃ x,I1+O=x:=⟨_,rfl⟩;obtain ⟨aaH,aaI,aaJ⟩:=NT OB hgo hI1 hI2 hI5 QO;have hfin:A1=I2↔x1.port=(aF g t).length:=by rw [hiff,<- List.length_eq_zero_iff];exact aaH
  obtain ⟨hw1,hw2⟩:=add_one aaJ hI1;obtain ⟨hw3,hw4⟩:=pq aaI;rw [hI2] at hw3 hw4;obtain ⟨W2,hW2⟩:∃ x,W1+1=x:=⟨_,rfl⟩;obtain ⟨SK,YV⟩:=add_one hxw hW2;have YH:=af hfin;have HST:=af hst;have Iu:=af hN1;have HA1:=af hA1;have HW1:=af hW1;have HW2:=af hW2;have HXG:=af hxg;have HFL:=af NS;replace HXB:=af hXm;replace eP:=af YZ;have HXT:=af Y0;have Zu:=af Ns;have rU:=af (qG.out.trans TM (fun _ h=>h));have y8:=YZ.cell 8 _ rfl;have y3:=YZ.cell 3 _ rfl;have HOE:=af hO;clear TM Ns NS YZ Y0 hXm hxg hxh hst hiff hN1 hA1 hW1 hO hgo OB QO hfin hI1 hI2 hW2 hxw aaH aaI aaJ H1 HT qG hni abL abM;go_wp2_with fail;refine fC (fun w'=>Below wc.heap.size wc w'/\w'.cell? ⟨Y,8,none⟩=some (.int .i64 (A1:Nat))/\w'.cell? ⟨Y,3,none⟩=some (.slice Zr Zt vV)) [0,1,2,3,4,5,6,7,8,9] [] (by kernel_rfl) (by kernel_rfl) rfl ⟨cK (n:=1) (Below.refl _ _),y8,y3⟩ ?_;simp only [pk];refine fD ?_;refine gT (.int .i64 (O:Nat)) 49 #[.slice Zr Zt vV] (by rfl) (fun wz=>by go_simp) (fun wz hz=>?_) ?_
  ·
   have:=rA (o:=fun _=>0) (c:=0) (HXT.out.vo.has.below hz.1) sI.out Hf.out;rw [HOE.out] at this;refine this.mono ?_;rintro e wy ⟨rfl,rfl⟩;exact ⟨rfl,hz⟩
  simp only [pt];refine fD ?_;refine iI ?_;intro w4 hS;have T4:=Turn.of_below q (R+2005) hS.1;replace HXB:=af (HXB.out.turn T4 (fun h=>h));replace eP:=af (eP.out.turn T4 (fun h=>h));replace HXT:=af (HXT.out.turn T4 (fun h=>h) (fun h=>h) (fun h=>h));replace Zu:=af (Zu.out.turn T4 (fun _ h=>h.elim));replace rU:=af (rU.out.trans T4 (fun _ h=>h.elim));generalize ext q wc.heap.size (R+2005)=q4 at *;have Hy:=Zu.out.most.1;have htl:=rP.out;clear T4 hS y8 y3 hw1 hw2 hw3 hw4
  by_cases hd:A1=I2
  ·
   have hpt:=YH.out.1 hd;obtain ⟨x2,hx2⟩:∃ x,kH (ay g t).length { x1 with whole:=x1.whole+1 }=x:=⟨_,rfl⟩;have hstep:F=(⟨⟨upd r1.aP.tasks t x2,r1.aP.strs⟩,none⟩,true):=by rw [<- QN.out,HST.out,<- hx2];unfold jR;rw [if_pos hpt]
   subst hstep;have hxn:x2.n=N1:=by rw [<- hx2];exact Iu.out
   have hxk:x2.keep=x1.keep:=by rw [<- hx2];rfl
   have hxw:x2.whole=W2:=by rw [<- hx2,<- HW2.out,<- HW1.out];rfl
   have Bq:x2.gives=false:=by rw [<- hx2];rfl
   have Y1:x2.hand.flatten=[]:=by rw [<- hx2];simp [kH]
   have aaK:zA x2 []=0:=by unfold zA;rw [Bq,Y1];rfl
   have d8:=eP.out.cell 8 _ rfl;have d9:=eP.out.cell 9 _ rfl;have d11:=eP.out.cell 11 _ rfl;have f8:=eP.out.frozen 8;have f9:=eP.out.frozen 9;have f11:=eP.out.frozen 11;obtain ⟨ny,TY1⟩:=eP.out.set 8 (.int .i64 0);obtain ⟨hY2,TY2⟩:=ny.set 9 (.slice none 0 0);obtain ⟨hY3,TY3⟩:=hY2.set 11 (.int .i64 (W2:Int));simp only [List.setIfInBounds_toArray,List.set_cons_zero,List.set_cons_succ] at hY3;have TY:=(TY1.trans TY2 (fun _ h=>h)).trans TY3 (fun _ h=>h);have HG9:=af (Zu.out.turn TY (fun k hk=>by rw [hk];unfold jY;omega));have HX9:=af (HXB.out.turn TY (by omega));have K7:=af (HXT.out.turn TY (by omega) (by omega) (by omega));have HY9:=af hY3;have aaL:=af (rU.out.trans TY (wV (by omega)));have hdi:(A1:Int)=I2:=by rw [hd]
   clear hpt hx2 ny TY1 hY2 TY2 hY3 TY3 TY Hy htl
   go_upto_region 25 with fail
   obtain ⟨w5,SK⟩:∃ x,((w4.setCell ⟨Y,8,none⟩ (.int .i64 0)).setCell ⟨Y,9,none⟩ (.slice none 0 0)).setCell ⟨Y,11,none⟩ (.int .i64 (W2:Int))=x:=⟨_,rfl⟩;rw [SK] at HG9 HX9 K7 HY9 aaL ⊢;clear SK d8 d9 d11 f8 f9 f11;have Hw:oC w5 q4 R g t x2 [] ⟨SG,pl1,pc1,ia1,il1,ic1,Zr,Zt,vV,ka1,kl1,kc1,sa1,sl1,sc1,da1,dl1,dc1,none,0,0,ga1,gl1,gc1⟩ :=
    ⟨K7.out.vp,K7.out.vi,K7.out.vo,by rw [hxk];exact K7.out.vk,K7.out.src,K7.out.dst,by rw [Y1];exact .inl ⟨rfl,none,0,rfl⟩,fun e=>absurd e (by rw [Bq];simp),fun e=>absurd e (by rw [Bq];simp),by rw [hxk];exact K7.out.kp⟩
   obtain ⟨lS,lT⟩:=HG9.out.zU (tg:=tg) rP.out rfl Hw (fl:=none) (by unfold iK;rw [HFL.out]);unfold taskX iw at lS lT;dsimp only at lS lT;rw [Rl.out,hxn,aaK,hxw] at lS lT;have eT:=af lS;have YT:=af (aaL.out.trans lT (wV (by omega)));obtain ⟨tg',VU,-,-,hfz,-,hcl⟩:=(HG9.out).pF rP.out;cases VU
   unfold taskX iw at hcl;obtain ⟨a0,a1,a2,a3,a4,a5,a6,a7,a8,a9,qF,pK⟩:=Bf hcl;have g0:=hfz (t*12);have g1:=hfz (t*12+1);have g2:=hfz (t*12+2);have g3:=hfz (t*12+3);have g4:=hfz (t*12+4);have g5:=hfz (t*12+5);have g6:=hfz (t*12+6);have g7:=hfz (t*12+7);have g8:=hfz (t*12+8);have g9:=hfz (t*12+9);have g10:=hfz (t*12+10);have g11:=hfz (t*12+11);clear hcl hfz;obtain ⟨y0,y1,y2,y3,y4,y5,y6,y7,y8,y9,OA,y11⟩:=Rh HY9.out;have x6:=HX9.out.cell 6 _ rfl;clear lS lT Hw hxn hxk hxw Bq Y1 aaK;go_wp2_with fail;go_ret;exact ⟨_,_,_,_,_,rfl,YT.out,eT.out⟩
  ·
   have hnp:¬ x1.port=(aF g t).length:=fun e=>hd (YH.out.2 e);have hstep:F=(⟨⟨upd r1.aP.tasks t x1,r1.aP.strs⟩,none⟩,true):=by rw [<- QN.out,HST.out];unfold jR;rw [if_neg hnp]
   subst hstep;obtain ⟨hdi,hdb⟩:=zV hd;obtain ⟨lS,lT⟩:=Zu.out.zU (tg:=tg) rP.out rfl HXT.out (fl:=none) (by unfold iK;rw [HFL.out]);unfold taskX iw at lS lT;dsimp only at lS lT;rw [Rl.out,Iu.out,HA1.out,HW1.out] at lS lT;have eT:=af lS;have YT:=af (rU.out.trans lT (wV (by omega)));obtain ⟨tg',VU,-,-,hfz,-,hcl⟩:=(Zu.out).pF rP.out;cases VU
   unfold taskX iw at hcl;obtain ⟨a0,a1,a2,a3,a4,a5,a6,a7,a8,a9,qF,pK⟩:=Bf hcl;have g0:=hfz (t*12);have g1:=hfz (t*12+1);have g2:=hfz (t*12+2);have g3:=hfz (t*12+3);have g4:=hfz (t*12+4);have g5:=hfz (t*12+5);have g6:=hfz (t*12+6);have g7:=hfz (t*12+7);have g8:=hfz (t*12+8);have g9:=hfz (t*12+9);have g10:=hfz (t*12+10);have g11:=hfz (t*12+11);clear hcl hfz;obtain ⟨y0,y1,y2,y3,y4,y5,y6,y7,y8,y9,OA,y11⟩:=Rh eP.out;have x6:=HXB.out.cell 6 _ rfl;clear hnp lS lT Hy htl;go_wp2_with fail;go_ret;exact ⟨_,_,_,_,_,rfl,YT.out,eT.out⟩
end
theorem Kj {g:av}{caps:List Int}{r:bH}{k:Int}(h:mr g caps r k=false):iG g caps r k=(r,false):=by
 unfold iG
 by_cases h0:k < 0
 ·
  rw [if_pos h0]
 ·
  rw [if_neg h0];unfold mr at h
  by_cases h1:k < 0\/(g.actors.length:Int)<=k
  ·
   exact um (.inl (by omega))
  ·
   rw [if_neg h1] at h;cases hf:r.failed with
   | some a=>unfold eX;rw [hf]
   | none =>
    rw [hf] at h;exact um (.inr h)
section
variable {w:World} {o:Col} {R K M:Nat} {g:av} {caps:List Int} {r:bH} {hs gv:Nat->List Int} {H:iH} {tv:Nat->wU} {sv:Nat->rT}
theorem yB (h:fA w o R g caps K r hs gv H tv sv)(hG:BS g caps)(hK:vS g M r.aP)(hM:M<=100000000000000)(hN:∀ d,(hs d).length+(r.aP.strs d).length<=16000000000000)(k:Int) :
  Calls Tryz.prog 27 #[.agg (dP g caps H).toArray,.int .i64 k] w (Bn w o R g caps (K+1) H (iG g caps r k).1 (.bool (iG g caps r k).2)):=by
 have Js:∀ d,(hs d).length+(r.aP.strs d).length<=100000000000000:=fun d=>Nat.le_trans (hN d) (by decide);cases hb:mr g caps r k with
 | true =>
  have hin:0<=k/\k < (g.actors.length:Int)/\r.failed=none:=by
   unfold mr at hb
   by_cases h1:k < 0\/(g.actors.length:Int)<=k
   ·
    rw [if_pos h1] at hb;cases hb
   ·
    rw [if_neg h1] at hb;cases hf:r.failed with
    | some a=>rw [hf] at hb;cases hb
    | none=>exact ⟨by omega,by omega,rfl⟩
  obtain ⟨t,rfl⟩:∃ t:Nat,k=t:=⟨k.toNat,by omega⟩;have ht:t < g.actors.length:=by omega
  have hr:isReady g caps r.aP t=true:=by
   unfold mr at hb;rw [if_neg (by omega),hin.2.2] at hb;exact hb
  rw [lQ]
  by_cases hnt:(r.aP.tasks t).gives=true\/¬ (r.aP.tasks t).port < (ay g t).length
  ·
   exact Ki h hG hK hM hN ht hin.2.2 hr hnt
  ·
   have hg:(r.aP.tasks t).gives=false:=by cases hg:(r.aP.tasks t).gives with
    | true=>exact absurd (.inl hg) hnt
    | false=>rfl
   have hp:(r.aP.tasks t).port < (ay g t).length:=Decidable.byContradiction fun e=>hnt (.inr e);exact Ke h hG hK Js ht hin.2.2 hr hg hp
 | false =>
  rw [Kj hb];have hrd:∀ w1,Below w.heap.size w w1->Calls Tryz.prog 48 #[.agg (dP g caps H).toArray,.int .i64 k] w1 (fq (.bool false) w1):=fun w1 hw=>by
   have:=Bj (h.below hw) hG hK Js k;rw [hb] at this;exact this
  have H0:=af h;unfold dP at hrd ⊢;obtain ⟨aa,ac,ae,ec,ai,nc,ao,uc,cv,cc,ta,tc,sa',dz,fl⟩:=H;dsimp only at hrd ⊢;have BG:=af hrd;clear h hG hK hM hN Js hb hrd;have lH:=au w (.cells #[.string g.name,.slice aa g.actors.length ac,.slice ae g.edges.length ec,.slice ai g.ins.length nc,.slice ao g.outs.length uc,.slice cv caps.length cc,.slice ta g.actors.length tc,.slice sa' (aR g) dz,.slice (some ⟨fl,0,none⟩) 1 1] 37);have hX:=heap_alloc_new w (.cells #[.string g.name,.slice aa g.actors.length ac,.slice ae g.edges.length ec,.slice ai g.ins.length nc,.slice ao g.outs.length uc,.slice cv caps.length cc,.slice ta g.actors.length tc,.slice sa' (aR g) dz,.slice (some ⟨fl,0,none⟩) 1 1] 37);have pO:=af lH;obtain ⟨x0,x1,x2,x3,x4,x5,x6,x7,x8⟩:=ou hX;clear lH hX;go_enter Tryz.func27,Tryz.ntmps27;go_wp2_with fail;refine (BG.out _ pO.out).mono ?_;rintro e w1 ⟨rfl,hb1⟩;have HB1:=af (pO.out.trans (hb1.mono pO.out.size));clear x0 x1 x2 x3 x4 x5 x6 x7 x8;clear hb1;go_wp2;go_ret;exact ⟨ext o w.heap.size 0,hs,gv,tv,sv,rfl,(Turn.of_below o 0 HB1.out).mono (fun _ h=>h.elim),(H0.out.mono (K':=K+1) (by omega)).below HB1.out⟩
end
theorem Dt {g:av}{caps:List Int}{l:List Int}{r:bH}{j:Nat}(h:j < l.length)(he:¬ dY g caps r=[]):iF g caps (l.drop j) r=((iF g caps (l.drop (j+1)) (eX g caps r ((dY g caps r)[nY l[j] (dY g caps r).length]?.getD 0)).1).1,(iF g caps (l.drop (j+1)) (eX g caps r ((dY g caps r)[nY l[j] (dY g caps r).length]?.getD 0)).1).2+1):=by
 rw [List.drop_eq_getElem_cons h,iF,if_neg he]
theorem Du {g:av}{caps:List Int}{l:List Int}{r:bH}(he:dY g caps r=[]):iF g caps l r=(r,0):=by
 cases l with
 | nil=>rfl
 | cons p l=>rw [iF,if_pos he]
theorem yC (g:av)(caps:List Int)(r:bH):(dY g caps r).length<=g.actors.length:=by
 unfold dY;cases r.failed with
 | some t=>simp
 | none=>exact Nat.le_trans (List.length_filter_le _ _) (by simp)
theorem LD (p:Int){L:Nat}(hL:0 < L):Int.tmod (Int.tmod p L+L) L=((nY p L:Nat):Int)/\nY p L < L/\-(L:Int) < Int.tmod p L/\Int.tmod p L < L:=by
 have h0:(0:Int) < L:=by omega
 have e1:0<=p % (L:Int):=Int.emod_nonneg p (by omega);have e2:p % (L:Int) < L:=Int.emod_lt_of_pos p h0;have hz:(nY p L:Int)=p % (L:Int):=Int.toNat_of_nonneg e1;have h1:-(L:Int) < Int.tmod p L/\Int.tmod p L < L:=by
  refine ⟨?_,Int.tmod_lt_of_pos p h0⟩;have:=Int.lt_tmod_of_pos p h0;exact this
 refine ⟨?_,by omega,h1⟩;rw [hz];have h2:0<=Int.tmod p L+L:=by omega
 rw [Int.tmod_eq_emod_of_nonneg h2,Int.add_emod_right];have h3:Int.tmod p L=p - L*Int.tdiv p L:=by have:=Int.mul_tdiv_add_tmod p L;omega
 rw [h3,Int.sub_mul_emod_self_left]
theorem RB {w:World}{o:Col}{R b c:Nat}{g:av}{caps:List Int}{M:Nat}{J:Nat->Nat}{qs:bR}{tb:Nat->Nat}{r:bH}{v:bO}{ao:Option Addr}{n cap:Nat}{l:List Int}(h:fw w o R b g caps M J qs tb r v)(hG:BS g caps)(hl:Ints w o c (.slice ao n cap) l)(hc:¬ bV R c)(hf:∀ x∈l,Fits x)(hM:M+l.length < 27000000000000) :
  Calls Tryz.prog 28 #[.pointer (some ⟨b,0,none⟩),.slice ao n cap] w (A8 w o R b g caps (M+l.length) J qs tb (iF g caps l r).1 (.int .i64 (iF g caps l r).2)):=by
 obtain rfl:n=l.length:=Ints.len hl;obtain ⟨F,hF⟩:∃ F,iF g caps l r=F:=⟨_,rfl⟩;rw [hF];have HF:=af (show iF g caps (l.drop 0) r=F from hF);have H:=af h;have HG:=af hG;have HL:=af hl;have HC:=af hc;have YH:=af hf;have HM:=af hM;clear h hG hl hc hF hf hM;go_enter Tryz.func28,Tryz.ntmps28;go_wp2_with fail
 go_loopw [10] (fun i wl=>∃ (j:Nat) (r':bH) (o':Col) (v':bO),j<=l.length/\i=.int .i64 j/\Turn o o' (bV R) w wl/\fw wl o' R b g caps (M+j) J qs tb r' v'/\(iF g caps (l.drop j) r').1=F.1/\(iF g caps (l.drop j) r').2+j=F.2) (fun i _=>l.length - (intOf i).toNat)
 case atStart=>exact ⟨0,r,o,v,Nat.zero_le _,rfl,Turn.refl _ _ _,H.out,by rw [HF.out],by rw [HF.out];rfl⟩
 case round =>
  obtain ⟨j,r',o',v',hj,rfl,T,hR,e1,e2⟩:=hrel;have HT:=af T;have HR:=af hR;have HE:=af (And.intro e1 e2);clear T hR e1 e2;have hlm:l.length<=27000000000000:=by have:=HM.out;omega
  by_cases hlt:j < l.length
  ·
   have bX:(j:Int) < l.length:=by omega
   obtain ⟨lb,lo,rfl,-,hcp,-,-,hcl⟩:=Ints.at (HL.out.turn HT.out HC.out) (by omega);have PD:(l.length:Int)<=cap:=by omega
   have cj:=hcl j hlt;rw [List.getElem?_eq_getElem hlt] at cj;change wr.cell? _=some (iv l[j]) at cj;obtain ⟨p,hp⟩:∃ p,l[j]=p:=⟨_,rfl⟩;rw [hp] at cj;have HP:=af hp;have hpf:=YH.out l[j] (List.getElem_mem hlt);rw [hp] at hpf;have HPF:=af hpf;have VY:=vJ HR.out.mem HG.out.linked HG.out.caps HR.out.ok (fun d=>Nat.le_of_lt (HR.out.lt (by have:=HM.out;omega) d));have zJ:=yC g caps r';have h32:=HR.out.mem.few.1;obtain ⟨L,hL⟩:∃ L,(dY g caps r').length=L:=⟨_,rfl⟩;have hLI:(jO g caps r').length=L:=by unfold jO;rw [List.length_map,hL]
   unfold kr at VY;rw [hLI] at VY;rw [hL] at zJ;have hL32:L<=32:=by omega
   have BG:=af VY;have BV:=af hL;clear hcl hp hpf VY zJ h32 hL hLI hcp;go_wp2_with fail;refine BG.out.mono ?_;rintro e w1 ⟨x,rfl,hO,hB⟩;obtain ⟨sa,sc,rfl⟩:=aA hO;have HB:=af hB;have HO:=af hO;clear hO hB cj
   by_cases hL0:L=0
   ·
    subst hL0;go_wp2_with fail;go_ret;have hnil:dY g caps r'=[]:=List.eq_nil_of_length_eq_zero BV.out;obtain ⟨e1,e2⟩:=HE.out;rw [Du hnil] at e1 e2;have hb:=HR.out.turn (Turn.of_below o' 0 HB.out) (fun _ h=>h.elim);refine ⟨ext o' wr.heap.size 0,v',?_,HT.out.trans ((Turn.of_below o' 0 HB.out).mono (fun _ h=>h.elim)) (fun _ h=>h),?_⟩
    ·
     rw [<- e2];simp
    ·
     rw [<- e1];exact hb.mono (by omega)
   ·
    have hLz:((L:Int) == 0)=false:=by rw [beq_eq_false_iff_ne];omega
    obtain ⟨k1,k2,k3,k4⟩:=LD p (L:=L) (by omega);have hwr:wrap64 (p.tmod L+L)=p.tmod L+L:=IntWalk.wrap64_in _ (by omega);rw [<- hwr] at k1;obtain ⟨z,hz⟩:∃ z,nY p L=z:=⟨_,rfl⟩;rw [hz] at k1 k2;have HZ:=af hz;have hzi:(z:Int) < L:=by omega
    have hO:=(Own.made o' 0 HO.out).vals;have hI:Ints w1 (ext o' wr.heap.size 0) 0 (.slice sa L sc) (jO g caps r'):=hO;have hlr:(jO g caps r').length=L:=by unfold jO;rw [List.length_map,BV.out]
    obtain ⟨gr,ro,rfl,-,hcp,-,-,hcl⟩:=hI.at (by omega);have aaM:(L:Int)<=sc:=by omega
    have cz:=hcl z (by omega);obtain ⟨t,ht⟩:∃ t,(dY g caps r')[z]?.getD 0=t:=⟨_,rfl⟩;have hzt:(jO g caps r')[z]?.getD 0=(t:Int):=by
     have hzl:z < (dY g caps r').length:=by rw [BV.out];exact k2
     rw [<- ht];unfold jO;rw [List.getElem?_map,List.getElem?_eq_getElem hzl];rfl
    rw [hzt] at cz;change w1.cell? _=some (.int .i64 (t:Int)) at cz;have K7:=af ht;have Fx:=af (HR.out.turn (Turn.of_below o' 0 HB.out) (fun _ h=>h.elim));have hT1:=af (HT.out.trans ((Turn.of_below o' 0 HB.out).mono (fun _ h=>h.elim)) (fun _ h=>h));generalize ext o' wr.heap.size 0=o1 at *;clear k2 k3 k4 hwr hz hO hI hlr hcp hcl hzt ht;go_wp2_with fail;refine (wM (t:Int) Fx.out HG.out (by have:=HM.out;omega)).mono ?_;rw [lQ];rintro e w2 ⟨o2,v2,rfl,T2,hR2⟩;have HR2:=af hR2;have HT2:=af (hT1.out.trans T2 (fun _ h=>h));have hne:¬ dY g caps r'=[]:=fun h=>hL0 (by have:=BV.out;rw [h] at this;exact this.symm);obtain ⟨e1,e2⟩:=HE.out;rw [Dt hlt hne,BV.out,HP.out,HZ.out,K7.out] at e1 e2;have HE2:=af (And.intro e1 e2);clear T2 hR2 e1 e2 hne;go_wp2;go_roundw
    case rel=>exact ⟨j+1,_,_,_,hlt,by go_num,HT2.out,HR2.out,HE2.out.1,by have:=HE2.out.2;omega⟩
    case measure=>simp [intOf];omega
  ·
   obtain rfl:j=l.length:=by omega
   have bX:¬ ((l.length:Int) < l.length):=by omega
   go_wp2_with fail;go_ret;obtain ⟨e1,e2⟩:=HE.out;rw [List.drop_length] at e1 e2;refine ⟨o',v',?_,HT.out,?_⟩
   ·
    have:l.length=F.2:=by rw [<- e2];show l.length=0+l.length;omega
    rw [<- this];rfl
   ·
    rw [<- e1];exact HR.out
theorem RD (p:Int){L:Nat}(hL:0 < L)(hl:L<=64):(0<=Int.tmod p L->Int.tmod p L=((nY p L:Nat):Int))/\(Int.tmod p L < 0->wrap64 (Int.tmod p L+L)=((nY p L:Nat):Int)/\IntKind.i64.wrap (Int.tmod p L+L)=((nY p L:Nat):Int))/\nY p L < L/\wrap64 (Int.tmod p L)=Int.tmod p L/\IntKind.i64.wrap (Int.tmod p L)=Int.tmod p L:=by
 obtain ⟨k1,k2,k3,k4⟩:=LD p hL;have hz:(nY p L:Int)=p % (L:Int):=Int.toNat_of_nonneg (Int.emod_nonneg p (by omega));have h3:Int.tmod p L=p - L*Int.tdiv p L:=by have:=Int.mul_tdiv_add_tmod p L;omega
 have hm:Int.tmod p L % (L:Int)=p % (L:Int):=by rw [h3,Int.sub_mul_emod_self_left]
 refine ⟨fun h=>?_,fun h=>?_,k2,IntWalk.wrap64_in _ (by omega),IntWalk.i64_in _ (by omega)⟩
 ·
  rw [hz,<- hm,Int.emod_eq_of_lt h k4]
 ·
  have e:Int.tmod p L+L=((nY p L:Nat):Int):=by
   rw [hz,<- hm,<- Int.add_emod_right (a:=Int.tmod p L),Int.emod_eq_of_lt (by omega) (by omega)]
  rw [IntWalk.wrap64_in _ (by omega),IntWalk.i64_in _ (by omega)];exact ⟨e,e⟩
structure H8 (g:av) (M B:Nat) (r:bH):Prop where
 ok:vS g M r.aP
 len:∀ d,(r.aP.strs d).length<=B+M
theorem H8.mono {g:av}{M M' B:Nat}{r:bH}(h:H8 g M B r)(hm:M<=M'):H8 g M' B r:=⟨h.ok.mono hm,fun d=>Nat.le_trans (h.len d) (by omega)⟩
theorem H8.step {g:av}{caps:List Int}{M B:Nat}{r:bH}(h:H8 g M B r)(hga:fG g)(t:Nat):H8 g (M+1) B (eX g caps r t).1:=by
 have same:H8 g (M+1) B r:=h.mono (by omega);unfold eX;cases hf:r.failed with
 | some a=>exact same
 | none =>
  simp only;cases hs:iJ g caps r.aP t with
  | waits=>exact same
  | fails=>exact ⟨same.ok,same.len⟩
  | goes s' =>
   refine ⟨h.ok.step hga hs,fun d=>?_⟩;obtain ⟨ht,k⟩:=pY.1 hs;have hl:=h.len d;cases k with
   | give x hg hf2 hx =>
    show (upd r.aP.strs (toP g t (r.aP.tasks t).port) (r.aP.strs (toP g t (r.aP.tasks t).port) ++ [lu (r.aP.tasks t)]) d).length<=B+(M+1)
    by_cases e:d=toP g t (r.aP.tasks t).port
    ·
     subst e;rw [upd_same,List.length_append,List.length_singleton];omega
    ·
     rw [aO e];omega
   | take x v l hg hp hv hx =>
    show (upd r.aP.strs (bY g t (r.aP.tasks t).port) l d).length<=B+(M+1)
    by_cases e:d=bY g t (r.aP.tasks t).port
    ·
     subst e;rw [upd_same];rw [hv,List.length_cons] at hl;omega
    ·
     rw [aO e];omega
   | fire x hg hp he hx=>show (r.aP.strs d).length<=B+(M+1);omega
section
variable {w:World} {o:Col} {R K M B:Nat} {g:av} {caps:List Int} {r:bH} {hs gv:Nat->List Int} {H:iH} {tv:Nat->wU} {sv:Nat->rT}
theorem NU {c:Nat}{aq:Option Addr}{n cap:Nat}{l:List Int}(h:fA w o R g caps K r hs gv H tv sv)(hG:BS g caps)(hX:H8 g M B r)(hb:K+B+2*(M+l.length)<=15000000000000)(hl:Ints w o c (.slice aq n cap) l)(hc:¬ eu R c)(hf:∀ x∈l,Fits x) :
  Calls Tryz.prog 29 #[.agg (dP g caps H).toArray,.slice aq n cap] w (Bn w o R g caps (K+l.length) H (iF g caps l r).1 (.int .i64 (iF g caps l r).2)):=by
 obtain rfl:n=l.length:=Ints.len hl;obtain ⟨F,hF⟩:∃ F,iF g caps l r=F:=⟨_,rfl⟩;rw [hF];have HF:=af (show iF g caps (l.drop 0) r=F from hF);have HG:=af hG;have HXO:=af hX;have HB0:=af hb;have YH:=af hf;have HC:=af hc;have hstep:∀ (W:World) (q:Col) (j:Nat) (rr:bH) (hh gg:Nat->List Int) (tt:Nat->wU) (ss:Nat->rT) (k:Int),fA W q R g caps (K+j) rr hh gg H tt ss->H8 g (M+j) B rr->j < l.length->Calls Tryz.prog 27 #[.agg (dP g caps H).toArray,.int .i64 k] W (Bn W q R g caps (K+j+1) H (iG g caps rr k).1 (.bool (iG g caps rr k).2)):=fun _ _ _ _ _ _ _ _ k h1 h2 hj=>yB h1 hG h2.ok (by omega) (fun d=>by have:=h1.gone d;have:=h2.len d;omega) k;have qI:∀ (W:World) (q:Col) (j:Nat) (rr:bH) (hh gg:Nat->List Int) (tt:Nat->wU) (ss:Nat->rT),fA W q R g caps (K+j) rr hh gg H tt ss->H8 g (M+j) B rr->j < l.length->Calls Tryz.prog 34 #[.agg (dP g caps H).toArray] W (kr W (jO g caps rr)):=fun _ _ _ _ _ _ _ _ h1 h2 hj=>rD h1 hG h2.ok (fun d=>by have:=h1.gone d;have:=h2.len d;omega);unfold dP at hstep qI ⊢;obtain ⟨aa,ac,ae,ec,ai,nc,ao,uc,cv,cc,ta,tc,sa',dz,fl⟩:=H;dsimp only at hstep qI ⊢;have LF:=af hstep;have abN:=af qI;have lH:=au w (.cells #[.string g.name,.slice aa g.actors.length ac,.slice ae g.edges.length ec,.slice ai g.ins.length nc,.slice ao g.outs.length uc,.slice cv caps.length cc,.slice ta g.actors.length tc,.slice sa' (aR g) dz,.slice (some ⟨fl,0,none⟩) 1 1] 37);have NV:=dQ (w:=w) o (R+2220) #[.string g.name,.slice aa g.actors.length ac,.slice ae g.edges.length ec,.slice ai g.ins.length nc,.slice ao g.outs.length uc,.slice cv caps.length cc,.slice ta g.actors.length tc,.slice sa' (aR g) dz,.slice (some ⟨fl,0,none⟩) 1 1] 37;have T1:=Turn.of_below o (R+2220) lH;have H1:=af (h.turn T1 (fun _ h=>h.elim));have HXB:=af NV;have HL:=af hl;have qG:=af (T1.mono (D:=eu R) (fun _ h=>h.elim));generalize ext o w.heap.size (R+2220)=o1 at *;clear h hG hX hb hf hF hstep qI lH NV T1 hl hc;go_enter Tryz.func29,Tryz.ntmps29;go_wp2_with fail;obtain ⟨Z,hZ⟩:∃ x,w.heap.size=x:=⟨_,rfl⟩;rw [hZ] at HXB ⊢;clear hZ
 go_loopw [5] (fun i wl=>∃ (j:Nat) (r':bH) (o':Col) (hs' SF:Nat->List Int) (tv':Nat->wU) (Py:Nat->rT),j<=l.length/\i=.int .i64 j/\Turn o o' (eu R) w wl/\fA wl o' R g caps (K+j) r' hs' SF ⟨aa,ac,ae,ec,ai,nc,ao,uc,cv,cc,ta,tc,sa',dz,fl⟩ tv' Py/\H8 g (M+j) B r'/\dZ wl o' (R+2220) Z 37 #[.string g.name,.slice aa g.actors.length ac,.slice ae g.edges.length ec,.slice ai g.ins.length nc,.slice ao g.outs.length uc,.slice cv caps.length cc,.slice ta g.actors.length tc,.slice sa' (aR g) dz,.slice (some ⟨fl,0,none⟩) 1 1]/\(iF g caps (l.drop j) r').1=F.1/\(iF g caps (l.drop j) r').2+j=F.2) (fun i _=>l.length - (intOf i).toNat)
 case atStart=>exact ⟨0,r,o1,hs,gv,tv,sv,Nat.zero_le _,rfl,qG.out,H1.out,HXO.out,HXB.out,by rw [HF.out],by rw [HF.out];rfl⟩
 case round =>
  clear qG H1 HXB;obtain ⟨j,r',o',hs',SF,tv',Py,hj,rfl,T,hR,Y2,NV,e1,e2⟩:=hrel;have HT:=af T;have HR:=af hR;have Ns:=af Y2;have HXB:=af NV;have HE:=af (And.intro e1 e2);have hlm:l.length<=15000000000000:=by have:=HB0.out;omega
  by_cases hlt:j < l.length
  ·
   have bX:(j:Int) < l.length:=Int.ofNat_lt.2 hlt;obtain ⟨lb,lo,rfl,-,hcp,-,-,hcl⟩:=Ints.at (HL.out.turn T HC.out) (Nat.lt_of_le_of_lt (Nat.zero_le _) hlt);have PD:(l.length:Int)<=cap:=Int.ofNat_le.2 hcp;have cj:=hcl j hlt;rw [List.getElem?_eq_getElem hlt] at cj;change wr.cell? _=some (iv l[j]) at cj;obtain ⟨p,hp⟩:∃ p,l[j]=p:=⟨_,rfl⟩;rw [hp] at cj;have HP:=af hp;have zJ:=yC g caps r';have h32:=hR.most.1;obtain ⟨L,hL⟩:∃ L,(dY g caps r').length=L:=⟨_,rfl⟩;have hLI:(jO g caps r').length=L:=by unfold jO;rw [List.length_map,hL]
   have VY:=abN.out _ _ _ _ _ _ _ _ hR Y2 hlt;unfold kr at VY;rw [hLI] at VY;rw [hL] at zJ;have hL32:L<=32:=Nat.le_trans zJ h32;have BG:=af VY;have BV:=af hL;obtain ⟨x0,x1,x2,x3,x4,x5,x6,x7,x8⟩:=jD NV;clear hcl hp VY zJ h32 hL hLI hcp T hR Y2 NV e1 e2;go_wp2_with fail;refine BG.out.mono ?_;rintro e w1 ⟨x,rfl,hO,hB⟩;obtain ⟨sa,sc,rfl⟩:=aA hO;have T2:=Turn.of_below o' (R+2221) hB;have HT2:=af (HT.out.trans T2 (fun _ h=>h.elim));have HR2:=af (HR.out.turn T2 (fun _ h=>h.elim));have Y3:=af (HXB.out.turn T2 (fun h=>h));have hI:Ints w1 (ext o' wr.heap.size (R+2221)) (R+2221) (.slice sa L sc) (jO g caps r'):=(Own.made o' (R+2221) hO).vals;have Gs:=af hI;have cj:=cell_later hB cj;generalize ext o' wr.heap.size (R+2221)=q2 at *;clear x0 x1 x2 x3 x4 x5 x6 x7 x8;clear T2 hI hO HR HXB HT BG hB
   by_cases hL0:L=0
   ·
    subst hL0;have hnil:dY g caps r'=[]:=List.eq_nil_of_length_eq_zero BV.out;obtain ⟨e1,e2⟩:=HE.out;rw [Du hnil] at e1 e2;have e3:F=(r',j):=by rw [show F=(F.1,F.2) from rfl,<- e1,<- e2];simp
    subst e3;clear hnil e1 e2 cj;go_wp2_with fail;go_ret;exact ⟨q2,_,_,_,_,rfl,HT2.out,HR2.out.mono (by omega)⟩
   ·
    have hLp:0 < L:=Nat.pos_of_ne_zero hL0;obtain ⟨k1,k2,k3,k4,k5⟩:=RD p hLp (Nat.le_trans hL32 (by decide));obtain ⟨z,hz⟩:∃ z,nY p L=z:=⟨_,rfl⟩;rw [hz] at k1 k2 k3;have HZ:=af hz;obtain ⟨hLi,hLb⟩:=zV hL0;have hlr:(jO g caps r').length=L:=by unfold jO;rw [List.length_map,BV.out]
    obtain ⟨gr,ro,rfl,-,hcp,-,-,hcl⟩:=Gs.out.at (by rw [hlr];exact hLp);have aaM:(L:Int)<=sc:=Int.ofNat_le.2 hcp;have hzL:(z:Int) < L:=Int.ofNat_lt.2 k3;have cz:=hcl z (by rw [hlr];exact k3);obtain ⟨t,ht⟩:∃ t,(dY g caps r')[z]?.getD 0=t:=⟨_,rfl⟩;have hzt:(jO g caps r')[z]?.getD 0=(t:Int):=by
     have hzl:z < (dY g caps r').length:=by rw [BV.out];exact k3
     rw [<- ht];unfold jO;rw [List.getElem?_map,List.getElem?_eq_getElem hzl];rfl
    rw [hzt] at cz;change w1.cell? _=some (.int .i64 (t:Int)) at cz;have hne:¬ dY g caps r'=[]:=fun h=>hL0 (by have:=BV.out;rw [h] at this;exact this.symm);obtain ⟨e1,e2⟩:=HE.out;rw [Dt hlt hne,BV.out,HP.out,HZ.out,ht] at e1 e2;have HE2:Hid ((iF g caps (l.drop (j+1)) (eX g caps r' t).1).1=F.1/\(iF g caps (l.drop (j+1)) (eX g caps r' t).1).2+(j+1)=F.2):=af ⟨e1,by rw [<- e2];show _+(j+1)=_+1+j;rw [Nat.add_assoc,Nat.add_comm 1 j]⟩;have aaN:=Y3.out;obtain ⟨x0,x1,x2,x3,x4,x5,x6,x7,x8⟩:=jD aaN;clear hz hlr hcp hcl ht hzt hne e1 e2 aaN Gs hL32 k3;obtain ⟨y,hy⟩:∃ y,Int.tmod p L=y:=⟨_,rfl⟩;rw [hy] at k1 k2 k4 k5
    by_cases hs0:y < 0
    ·
     obtain ⟨k6,k7⟩:=k2 hs0;clear k1 k2;go_wp2_with fail;refine aM (fun w'=>w'.cell? ⟨Z,0,none⟩=some (.string g.name)/\w'.cell? ⟨Z,1,none⟩=some (.slice aa g.actors.length ac)/\w'.cell? ⟨Z,2,none⟩=some (.slice ae g.edges.length ec)/\w'.cell? ⟨Z,3,none⟩=some (.slice ai g.ins.length nc)/\w'.cell? ⟨Z,4,none⟩=some (.slice ao g.outs.length uc)/\w'.cell? ⟨Z,5,none⟩=some (.slice cv caps.length cc)/\w'.cell? ⟨Z,6,none⟩=some (.slice ta g.actors.length tc)/\w'.cell? ⟨Z,7,none⟩=some (.slice sa' (aR g) dz)/\w'.cell? ⟨Z,8,none⟩=some (.slice (some ⟨fl,0,none⟩) 1 1)/\w'.cell? ⟨gr,ro+z,none⟩=some (.int .i64 (t:Int))) [0,1,2,3,4] [5] (by kernel_rfl) (by kernel_rfl) rfl (fun _ _ hx h=>⟨hx.cell h.1,hx.cell h.2.1,hx.cell h.2.2.1,hx.cell h.2.2.2.1,hx.cell h.2.2.2.2.1,hx.cell h.2.2.2.2.2.1,hx.cell h.2.2.2.2.2.2.1,hx.cell h.2.2.2.2.2.2.2.1,hx.cell h.2.2.2.2.2.2.2.2.1,hx.cell h.2.2.2.2.2.2.2.2.2⟩) ⟨x0,x1,x2,x3,x4,x5,x6,x7,x8,cz⟩ ?_;intro Q5 hQ5;simp only [pk];refine aD ?_;refine ax ?_;go_wp2_with fail;have T0:=(Turn.refl q2 (fun _=>False) w1).drew;refine (LF.out _ _ _ _ _ _ _ _ (t:Int) (HR2.out.turn T0 (fun _ h=>h.elim)) Ns.out hlt).mono ?_;rw [lQ];rintro e w2 ⟨o2,hs2,gv2,tv2,sv2,rfl,T2,hR2⟩;have HT3:=af ((HT2.out.trans T0 (fun _ h=>h.elim)).trans T2 (fun _ h=>h));have HB3:=af ((Y3.out.turn T0 (fun h=>h)).turn T2 (by unfold eu;omega));have HR3:=af hR2;have SL:=af (Ns.out.step (caps:=caps) HG.out.acts t);clear x0 x1 x2 x3 x4 x5 x6 x7 x8;clear T0 T2 hR2 cz;go_wp2;go_roundw
     case rel=>exact ⟨j+1,_,_,_,_,_,_,hlt,by go_num,HT3.out,HR3.out,SL.out,HB3.out,HE2.out.1,HE2.out.2⟩
     case measure=>simp [intOf];omega
    ·
     have k6:=k1 (Int.not_lt.1 hs0);subst k6;clear k1 k2;go_wp2_with fail;refine aM (fun w'=>w'.cell? ⟨Z,0,none⟩=some (.string g.name)/\w'.cell? ⟨Z,1,none⟩=some (.slice aa g.actors.length ac)/\w'.cell? ⟨Z,2,none⟩=some (.slice ae g.edges.length ec)/\w'.cell? ⟨Z,3,none⟩=some (.slice ai g.ins.length nc)/\w'.cell? ⟨Z,4,none⟩=some (.slice ao g.outs.length uc)/\w'.cell? ⟨Z,5,none⟩=some (.slice cv caps.length cc)/\w'.cell? ⟨Z,6,none⟩=some (.slice ta g.actors.length tc)/\w'.cell? ⟨Z,7,none⟩=some (.slice sa' (aR g) dz)/\w'.cell? ⟨Z,8,none⟩=some (.slice (some ⟨fl,0,none⟩) 1 1)/\w'.cell? ⟨gr,ro+z,none⟩=some (.int .i64 (t:Int))) [0,1,2,3,4] [5] (by kernel_rfl) (by kernel_rfl) rfl (fun _ _ hx h=>⟨hx.cell h.1,hx.cell h.2.1,hx.cell h.2.2.1,hx.cell h.2.2.2.1,hx.cell h.2.2.2.2.1,hx.cell h.2.2.2.2.2.1,hx.cell h.2.2.2.2.2.2.1,hx.cell h.2.2.2.2.2.2.2.1,hx.cell h.2.2.2.2.2.2.2.2.1,hx.cell h.2.2.2.2.2.2.2.2.2⟩) ⟨x0,x1,x2,x3,x4,x5,x6,x7,x8,cz⟩ ?_;intro Q5 hQ5;simp only [pk];refine aD ?_;refine ax ?_;go_wp2_with fail;have T0:=(Turn.refl q2 (fun _=>False) w1).drew;refine (LF.out _ _ _ _ _ _ _ _ (t:Int) (HR2.out.turn T0 (fun _ h=>h.elim)) Ns.out hlt).mono ?_;rw [lQ];rintro e w2 ⟨o2,hs2,gv2,tv2,sv2,rfl,T2,hR2⟩;have HT3:=af ((HT2.out.trans T0 (fun _ h=>h.elim)).trans T2 (fun _ h=>h));have HB3:=af ((Y3.out.turn T0 (fun h=>h)).turn T2 (by unfold eu;omega));have HR3:=af hR2;have SL:=af (Ns.out.step (caps:=caps) HG.out.acts t);clear x0 x1 x2 x3 x4 x5 x6 x7 x8;clear T0 T2 hR2 cz;go_wp2;go_roundw
     case rel=>exact ⟨j+1,_,_,_,_,_,_,hlt,by go_num,HT3.out,HR3.out,SL.out,HB3.out,HE2.out.1,HE2.out.2⟩
     case measure=>simp [intOf];omega
  ·
   obtain rfl:j=l.length:=Nat.le_antisymm hj (Nat.not_lt.1 hlt);obtain ⟨e1,e2⟩:=HE.out;rw [List.drop_length] at e1 e2;have e3:F=(r',l.length):=by rw [show F=(F.1,F.2) from rfl,<- e1,<- e2];simp [iF]
   subst e3;clear e1 e2 T hR Y2 NV;go_wp2_with fail;go_ret;exact ⟨o',_,_,_,_,rfl,HT.out,HR.out⟩
end
section
variable {w:World} {o:Col} {R K M B:Nat} {g:av} {caps:List Int} {r:bH} {hs gv:Nat->List Int} {H:iH} {tv:Nat->wU} {sv:Nat->rT}
theorem H9 (h:fA w o R g caps K r hs gv H tv sv)(hG:BS g caps)(hX:H8 g M B r)(hb:K+B+2*(M+131072)<=15000000000000)(k:Int) :
  Calls Tryz.prog 30 #[.agg (dP g caps H).toArray,.int .i64 k] w (Bn w o R g caps (K+131072) H (bS g caps (min k 4096).toNat r).1 (.int .i64 (bS g caps (min k 4096).toNat r).2)):=by
 obtain ⟨Q,hQ⟩:∃ Q,(min k 4096).toNat=Q:=⟨_,rfl⟩;obtain ⟨F,hF⟩:∃ F,bS g caps Q r=F:=⟨_,rfl⟩;rw [hQ,hF];have hQ4:Q<=4096:=by omega
 have hlo:∀ j:Nat,j < Q->(j:Int) < k:=fun j hj=>by omega
 have hhi:∀ j:Nat,(j:Int) < k->j < 4096->j < Q:=fun j h1 h2=>by omega
 have HLO:=af hlo;have HHI:=af hhi;have HF:=af (show bS g caps (Q - 0) r=F from hF);have HG:=af hG;have HXO:=af hX;have HB0:=af hb;have hn32:g.actors.length<=32:=h.most.1;have hstep:∀ (W:World) (q:Col) (j:Nat) (rr:bH) (hh gg:Nat->List Int) (tt:Nat->wU) (ss:Nat->rT) (k:Int),fA W q R g caps (K+j) rr hh gg H tt ss->H8 g (M+j) B rr->j < 131072->Calls Tryz.prog 27 #[.agg (dP g caps H).toArray,.int .i64 k] W (Bn W q R g caps (K+j+1) H (iG g caps rr k).1 (.bool (iG g caps rr k).2)):=fun _ _ _ _ _ _ _ _ k h1 h2 hj=>yB h1 hG h2.ok (by omega) (fun d=>by have:=h1.gone d;have:=h2.len d;omega) k;unfold dP at hstep ⊢;obtain ⟨aa,ac,ae,ec,ai,nc,ao,uc,cv,cc,ta,tc,sa',dz,fl⟩:=H;dsimp only at hstep ⊢;have LF:=af hstep;have lH:=au w (.cells #[.string g.name,.slice aa g.actors.length ac,.slice ae g.edges.length ec,.slice ai g.ins.length nc,.slice ao g.outs.length uc,.slice cv caps.length cc,.slice ta g.actors.length tc,.slice sa' (aR g) dz,.slice (some ⟨fl,0,none⟩) 1 1] 37);have NV:=dQ (w:=w) o (R+2220) #[.string g.name,.slice aa g.actors.length ac,.slice ae g.edges.length ec,.slice ai g.ins.length nc,.slice ao g.outs.length uc,.slice cv caps.length cc,.slice ta g.actors.length tc,.slice sa' (aR g) dz,.slice (some ⟨fl,0,none⟩) 1 1] 37;have T1:=Turn.of_below o (R+2220) lH;have H1:=af (h.turn T1 (fun _ h=>h.elim));have HXB:=af NV;have qG:=af (T1.mono (D:=eu R) (fun _ h=>h.elim));generalize ext o w.heap.size (R+2220)=o1 at *;clear h hG hX hb hF hstep lH NV T1 hQ hlo hhi;go_enter Tryz.func30,Tryz.ntmps30;go_wp2_with fail;obtain ⟨Z,hZ⟩:∃ x,w.heap.size=x:=⟨_,rfl⟩;rw [hZ] at HXB ⊢;clear hZ
 go_loopw [5,6] (fun d i wl=>∃ (j D:Nat) (r':bH) (o':Col) (hs' SF:Nat->List Int) (tv':Nat->wU) (Py:Nat->rT),j<=Q/\i=.int .i64 j/\d=.int .i64 D/\D<=32*j/\Turn o o' (eu R) w wl/\fA wl o' R g caps (K+32*j) r' hs' SF ⟨aa,ac,ae,ec,ai,nc,ao,uc,cv,cc,ta,tc,sa',dz,fl⟩ tv' Py/\H8 g (M+32*j) B r'/\dZ wl o' (R+2220) Z 37 #[.string g.name,.slice aa g.actors.length ac,.slice ae g.edges.length ec,.slice ai g.ins.length nc,.slice ao g.outs.length uc,.slice cv caps.length cc,.slice ta g.actors.length tc,.slice sa' (aR g) dz,.slice (some ⟨fl,0,none⟩) 1 1]/\(bS g caps (Q - j) r').1=F.1/\(bS g caps (Q - j) r').2+D=F.2) (fun _ i _=>Q - (intOf i).toNat)
 case atStart=>exact ⟨0,0,r,o1,hs,gv,tv,sv,Nat.zero_le _,rfl,rfl,Nat.zero_le _,qG.out,H1.out,HXO.out,HXB.out,by rw [HF.out],by rw [HF.out];rfl⟩
 case round =>
  clear qG H1 HXB;obtain ⟨j,D,r',o',hs',SF,tv',Py,hj,rfl,rfl,hD,T,hR,Y2,NV,e1,e2⟩:=hrel;have HT:=af T;have HR:=af hR;have Ns:=af Y2;have HXB:=af NV;have HE:=af (And.intro e1 e2);clear T hR Y2 NV e1 e2
  by_cases hlt:j < Q
  ·
   have hjk:=HLO.out j hlt;have hj4:(j:Int) < 4096:=by omega
   obtain ⟨G,Xc⟩:∃ G,fM g caps (List.range g.actors.length) r'=G:=⟨_,rfl⟩;have xA:=af Xc;clear Xc;have aaO:=HXB.out;obtain ⟨x0,x1,x2,x3,x4,x5,x6,x7,x8⟩:=jD aaO;clear aaO;go_wp2_with fail;clear x0 x1 x2 x3 x4 x5 x6 x7 x8
   go_loopw [5,8] (fun d i wl=>∃ (a c:Nat) (r2:bH) (o2:Col) (hs2 gv2:Nat->List Int) (tv2:Nat->wU) (sv2:Nat->rT),a<=g.actors.length/\i=.int .i64 a/\d=.int .i64 ((D+c:Nat):Int)/\c<=a/\Turn o o2 (eu R) w wl/\fA wl o2 R g caps (K+(32*j+a)) r2 hs2 gv2 ⟨aa,ac,ae,ec,ai,nc,ao,uc,cv,cc,ta,tc,sa',dz,fl⟩ tv2 sv2/\H8 g (M+(32*j+a)) B r2/\dZ wl o2 (R+2220) Z 37 #[.string g.name,.slice aa g.actors.length ac,.slice ae g.edges.length ec,.slice ai g.ins.length nc,.slice ao g.outs.length uc,.slice cv caps.length cc,.slice ta g.actors.length tc,.slice sa' (aR g) dz,.slice (some ⟨fl,0,none⟩) 1 1]/\(fM g caps ((List.range g.actors.length).drop a) r2).1=G.1/\(fM g caps ((List.range g.actors.length).drop a) r2).2+c=G.2) (fun _ i _=>g.actors.length - (intOf i).toNat)
   case atStart=>exact ⟨0,0,r',o',hs',SF,tv',Py,Nat.zero_le _,rfl,rfl,Nat.le_refl _,HT.out,HR.out,Ns.out,HXB.out,by rw [List.drop_zero,xA.out],by rw [List.drop_zero,xA.out];rfl⟩
   case round =>
    clear HT HR Ns HXB;obtain ⟨a,c,r2,o2,hs2,gv2,tv2,sv2,ha,rfl,rfl,hc,T2,hR2,hX2,hB2,q1,q2⟩:=hrel;have HT2:=af T2;have HR2:=af hR2;have Nv:=af hX2;have HB2:=af hB2;have HQ:=af (And.intro q1 q2);obtain ⟨E,hE⟩:∃ E,D+c=E:=⟨_,rfl⟩;rw [hE];obtain ⟨x0,x1,x2,x3,x4,x5,x6,x7,x8⟩:=jD hB2;clear T2 hR2 hX2 hB2 q1 q2
    by_cases hat:a < g.actors.length
    ·
     have aaw:(a:Int) < (g.actors.length:Int):=Int.ofNat_lt.2 hat;have hE5:E<=1000000:=by omega
     have hm7:32*j+a < 131072:=by omega
     obtain ⟨E1,hE1⟩:∃ x,E+1=x:=⟨_,rfl⟩;obtain ⟨hw1,hw2⟩:=add_one (a:=E) (Nat.le_trans hE5 (by decide)) hE1;have HE2:=af hE;have SA:=af hE1;clear hE hE1;go_wp2_with fail;refine (LF.out _ _ _ _ _ _ _ _ (a:Int) HR2.out Nv.out hm7).mono ?_;rw [lQ];rintro e w3 ⟨o3,hs3,gv3,tv3,sv3,rfl,T3,R3⟩;have HT3:=af (HT2.out.trans T3 (fun _ h=>h));have HB3:=af (HB2.out.turn T3 (by unfold eu;omega));have HR3:=af R3;have SL:=af (Nv.out.step (caps:=caps) HG.out.acts a);have HD:=af (vM (g:=g) (caps:=caps) (r:=r2) hat);clear x0 x1 x2 x3 x4 x5 x6 x7 x8;clear T3 R3;cases hz:(eX g caps r2 a).2 with
     | true =>
      have HZ:=af hz;clear hz;go_wp2_with fail;go_roundw
      case rel =>
       obtain ⟨q1,q2⟩:=HQ.out;rw [HD.out,HZ.out] at q1 q2;exact ⟨a+1,c+1,_,o3,_,_,_,_,hat,by go_num,by rw [<- Nat.add_assoc,HE2.out,SA.out],by omega,HT3.out,HR3.out,SL.out,HB3.out,q1,by simp at q2;omega⟩
      case measure=>simp [intOf];omega
     | false =>
      have HZ:=af hz;clear hz;go_wp2_with fail;go_roundw
      case rel =>
       obtain ⟨q1,q2⟩:=HQ.out;rw [HD.out,HZ.out] at q1 q2;exact ⟨a+1,c,_,o3,_,_,_,_,hat,by go_num,by rw [HE2.out],by omega,HT3.out,HR3.out,SL.out,HB3.out,q1,by simp at q2;omega⟩
      case measure=>simp [intOf];omega
    ·
     have han:a=g.actors.length:=Nat.le_antisymm ha (Nat.not_lt.1 hat);have hfin:r2=G.1/\c=G.2:=by
      obtain ⟨q1,q2⟩:=HQ.out;rw [List.drop_eq_nil_of_le (by simp;omega)] at q1 q2;exact ⟨q1,by simpa [fM] using q2⟩
     have eT:=af hfin;have Xd:Q - j=(Q - (j+1))+1:=by omega
     have Xe:=af Xd;have hni:¬ (a:Int) < (g.actors.length:Int):=fun h=>hat (Int.ofNat_lt.1 h);have HAN:=af han;clear hfin Xd hat han
     by_cases hc0:c=0
     ·
      obtain rfl:E=D:=by omega
      have hEq:((E:Int) == (E:Int))=true:=by simp
      have mD:=af hc0;obtain ⟨e1,e2⟩:=HE.out;rw [Xe.out,tq (by rw [xA.out,<- eT.out.2];exact mD.out)] at e1 e2;rw [xA.out,<- eT.out.1] at e1;have e3:F=(r2,E):=by rw [show F=(F.1,F.2) from rfl,<- e1,<- e2];simp
      subst e3;have HXR:Hid (Bn w o R g caps (K+131072) ⟨aa,ac,ae,ec,ai,nc,ao,uc,cv,cc,ta,tc,sa',dz,fl⟩ r2 (.int .i64 E) (.returned (.int .i64 E)) wr):=af ⟨o2,_,_,_,_,rfl,HT2.out,HR2.out.mono (by omega)⟩;clear hc0 hE e1 e2;go_wp2_with fail;go_ret;exact HXR.out
     ·
      have hne:¬ E=D:=by omega
      obtain ⟨hEi,hEq⟩:=zV hne;have mD:=af (And.intro hc0 hE);clear hc0 hE hne;go_wp2_with fail;go_roundw
      case rel =>
       obtain ⟨e1,e2⟩:=HE.out;rw [Xe.out,tu (by rw [xA.out,<- eT.out.2];exact mD.out.1),xA.out,<- eT.out.1,<- eT.out.2] at e1 e2;exact ⟨j+1,E,r2,o2,_,_,_,_,hlt,by go_num,rfl,by have:=mD.out.2;omega,HT2.out,HR2.out.mono (by omega),Nv.out.mono (by omega),HB2.out,e1,by have:=mD.out.2;dsimp only at e2;omega⟩
      case measure=>simp [intOf];omega
  ·
   obtain rfl:j=Q:=Nat.le_antisymm hj (Nat.not_lt.1 hlt);obtain ⟨e1,e2⟩:=HE.out;rw [Nat.sub_self] at e1 e2;have e3:F=(r',D):=by rw [show F=(F.1,F.2) from rfl,<- e1,<- e2];simp [bS]
   subst e3;have eT:Hid (Bn w o R g caps (K+131072) ⟨aa,ac,ae,ec,ai,nc,ao,uc,cv,cc,ta,tc,sa',dz,fl⟩ r' (.int .i64 D) (.returned (.int .i64 D)) wr):=af ⟨o',_,_,_,_,rfl,HT.out,HR.out.mono (by omega)⟩;clear e1 e2
   by_cases hjk:(j:Int) < k
   ·
    have h4:¬ (j:Int) < 4096:=fun h4=>hlt (HHI.out j hjk (by omega));go_wp2_with fail;go_ret;exact eT.out
   ·
    go_wp2_with fail;go_ret;exact eT.out
end
theorem Ia {g:av}(h:lq g=0):g.actors.length<=32/\g.edges.length<=96/\g.ins.length<=16/\g.outs.length<=16:=by
 unfold lq at h
 split at h
 ·
  cases h
 split at h
 ·
  cases h
 split at h
 ·
  cases h
 split at h
 ·
  cases h
 split at h
 ·
  cases h
 split at h
 ·
  cases h
 omega
theorem NW {w w':World}{is os:List Int}{e:Ending}(o:Col)(M:Nat)(h:KP w is os e w'):∃ vi vo o',e=.returned (.tuple #[vi,vo])/\Turn o o' (fun _=>False) w w'/\Own w' o' (M+3) 3 1 vi is.length (bB is)/\Own w' o' (M+4) 3 1 vo os.length (bB os):=by
 obtain ⟨g1,c1,g2,c2,rfl,h1,h2,hne,hb⟩:=h;have l1:=(h1.lt g1 rfl).1;have l2:=(h2.lt g2 rfl).1;refine ⟨_,_,fun k=>if k=g1 then M+3 else if k < w.heap.size then o k else M+4,rfl,⟨aG.of_below hb _,fun k hk=>?_⟩,⟨bI h1 (fun _ _=>Nat.zero_le _),fun k hk=>?_⟩,⟨bI h2 (fun _ _=>Nat.zero_le _),fun k hk=>?_⟩⟩
 ·
  show (if k=g1 then M+3 else if k < w.heap.size then o k else M+4)=o k
  rw [if_neg (by omega),if_pos hk]
 ·
  cases hk
  show (if g1=g1 then M+3 else if g1 < w.heap.size then o g1 else M+4)=M+3
  rw [if_pos rfl]
 ·
  cases hk
  show (if g2=g1 then M+3 else if g2 < w.heap.size then o g2 else M+4)=M+4
  rw [if_neg (Ne.symm hne),if_neg (by omega)]
theorem Ib:(Tryz.prog.info? 77).map (fun i=>(i.zero,i.size,i.bytes))=some (some .nilIface,1,16):=by kernel_rfl
theorem NY:(Tryz.prog.info? 75).map (fun i=>(i.zero,i.size,i.bytes))=some (some .nilIface,1,16):=by kernel_rfl
theorem Kk:(Tryz.prog.info? 60).map (fun i=>(i.zero,i.size,i.bytes))=some (some (.pointer none),1,8):=by kernel_rfl
theorem Dv:(Tryz.prog.info? 73).map (fun i=>(i.zero,i.size,i.bytes))=some (some (.agg #[.pointer none]),1,8):=by kernel_rfl
theorem Kl:(Tryz.prog.info? 80).map (fun i=>(i.zero,i.size,i.bytes))=some (some (.pointer none),1,8):=by kernel_rfl
theorem Dw (n:Nat):madeCells (Value.cells .nilIface) (n*1)=(List.replicate n Value.nilIface).toArray:=by
 rw [<- Array.toList_inj,Nat.mul_one];simp [madeCells,Value.cells,Nat.mod_one,List.map_const']
theorem LG (n:Nat)(hn:n<=100000)(w:World):(Instr.makeSlice 61 (.int .i64 (n:Int)) (.int .i64 (n:Int))).run Tryz.prog w=.ok (.slice (some ⟨w.heap.size,0,none⟩) n n) (w.alloc (.cells (List.replicate n Value.nilIface).toArray 77)):=by
 obtain ⟨i0,hi,hz0,hz1,hz2⟩:=info_parts Ib;have h:=run_make (P:=Tryz.prog) (w:=w) 61 77 i0 _ Tryz.underlying61 hi hz0 .i64 .i64 n n (by omega) (Int.le_refl _) (by rw [hz2];omega) (by omega);rw [h,Int.toNat_natCast,hz1,Dw]
theorem VZ (n:Nat)(hn:n<=100000)(w:World):(Instr.makeSlice 62 (.int .i64 (n:Int)) (.int .i64 (n:Int))).run Tryz.prog w=.ok (.slice (some ⟨w.heap.size,0,none⟩) n n) (w.alloc (.cells (List.replicate n Value.nilIface).toArray 75)):=by
 obtain ⟨i0,hi,hz0,hz1,hz2⟩:=info_parts NY;have h:=run_make (P:=Tryz.prog) (w:=w) 62 75 i0 _ Tryz.underlying62 hi hz0 .i64 .i64 n n (by omega) (Int.le_refl _) (by rw [hz2];omega) (by omega);rw [h,Int.toNat_natCast,hz1,Dw]
theorem dA {w:World}(q:Col)(c:Nat)(cs:Array Value)(t:TypeId):dZ (w.alloc (.cells cs t)) (ext q w.heap.size c) c w.heap.size t cs:=⟨heap_alloc_new w _,dI (Nat.le_refl _)⟩
def aaP (w:World)(o:Col)(M b n:Nat)(bd sv dv iv ov:Value)(e:Ending)(w':World):Prop:=∃ o' h,e=.returned (.tuple #[])/\Turn o o' (fun c=>c=M) w w'/\dZ w' o' M b 64 #[bd,sv,dv,iv,ov,.slice (some ⟨h,0,none⟩) n n,.slice none 0 0,.int .i64 0,.bool false,.int .i64 0]/\dZ w' o' (M+7) h 27 (List.replicate n (.slice none 0 0)).toArray
theorem Km {w:World}{o:Col}{M b n ic:Nat}{ia:Option Addr}{bd sv dv ov:Value}(h:dZ w o M b 64 #[bd,sv,dv,.slice ia n ic,ov,.slice none 0 0,.slice none 0 0,.int .i64 0,.bool false,.int .i64 0])(hn:n<=16):Calls Tryz.prog 15 #[.pointer (some ⟨b,0,none⟩)] w (aaP w o M b n bd sv dv (.slice ia n ic) ov):=by
 have hmk:=Lg n (by omega) w;obtain ⟨zi,hzi⟩:∃ x,(List.replicate n (Value.slice none 0 0)).toArray=x:=⟨_,rfl⟩;rw [hzi] at hmk;have Ow:=af hzi;have c3:=h.cell 3 _ rfl;have hba:=au w (.cells zi 27);have T1:=Turn.of_below o (M+7) hba;have hb1:=h.turn T1 (fun h=>h);have c5:=hb1.cell 5 _ rfl;have c6:=hb1.cell 6 _ rfl;have c7:=hb1.cell 7 _ rfl;have c8:=hb1.cell 8 _ rfl;have f5:=hb1.frozen 5;have f6:=hb1.frozen 6;have f7:=hb1.frozen 7;have f8:=hb1.frozen 8;have HB1:=af hb1;have HT1:=af T1;clear h hba T1 hb1 hzi hn;go_enter Tryz.func15,Tryz.ntmps15;go_wp2;go_end0
 have hzi:=Ow.out;have T1:=HT1.out;have B0:=HB1.out;obtain ⟨B1,S1⟩:=B0.set 5 (.slice (some ⟨w.heap.size,0,none⟩) n n);obtain ⟨B2,S2⟩:=B1.set 6 (.slice none 0 0);obtain ⟨B3,S3⟩:=B2.set 7 (.int .i64 0);obtain ⟨B4,S4⟩:=B3.set 8 (.bool false);have S:=((S1.trans S2 (fun _ h=>h)).trans S3 (fun _ h=>h)).trans S4 (fun _ h=>h);have TT:=(T1.mono (D:=fun x=>x=M) (fun _ h=>h.elim)).trans S (fun _ h=>h);have N0:dZ (w.alloc (.cells zi 27)) (ext o w.heap.size (M+7)) (M+7) w.heap.size 27 zi:=⟨heap_alloc_new w _,dI (Nat.le_refl _)⟩;have N1:=N0.turn S (fun h=>by omega);refine ⟨_,w.heap.size,rfl,TT,B4,?_⟩;rw [hzi];exact N1
theorem nA {w w':World}{o:Col}{c:Nat}{e:TypeId}{size n m:Nat}{v v':Value}{xs ys:List Value}(h:Own w o c e size v n xs)(h1:w'.ownsRow 0 e size v' m ys)(h2:w.grownBy w' v.ownBlock)(h3:v'.ownBlock=v.ownBlock\/v'.ownBlock=some w.heap.size):Turn o (ext o w.heap.size c) (fun x=>x=c) w w'/\Own w' (ext o w.heap.size c) c e size v' m ys:=by
 refine ⟨Turn.kT o c ((aG.refl (fun k=>v.ownBlock=some k) w).grown h2 (fun k hk _=>hk)) (fun k _ hk=>h.2 k hk),h1,fun k hk=>?_⟩
 rcases h3 with h3 | h3
 ·
  rw [h3] at hk;exact (dm (h.1.lt k hk).2).trans (h.2 k hk)
 ·
  rw [h3] at hk;have:=Option.some.inj hk;exact dI (by omega)
theorem Dx {w w':World}{b:Nat}{C:Int}{l:List Int}{r:Option Nat}{N:Nat}(o:Col)(c:Nat)(hb:Below w.heap.size w w')(h:IQ w' w.heap.size b C l r N)(hN:N<=256):Turn o (ext o w.heap.size c) (fun _=>False) w w'/\xw w' (ext o w.heap.size c) c b C l 256:=by
 obtain ⟨v,g,zs,h1,h2,h3,h4,h5,h6,h7,h8,h9,h10,h11⟩:=h;refine ⟨Turn.of_below o c hb,r,⟨v,g,zs,h1,bI h2 (fun _ _=>Nat.zero_le _),h3,h4,h5,h6,by omega,h8,h9,Nat.zero_le _,h11⟩,dI h10,fun k hk=>dI ?_⟩;rw [<- h5] at hk;exact (h2.lt k hk).1
theorem RF {w:World}{o:Col}{M b h gs gd bp:Nat}{g:av}{t:Nat}{vi vo:Value}{qs:bR}(a:fE)(ha:g.actors[t]?=some a)(hA:Act w o (M+1) (M+2) bp a.tag a.params (eB a.tag a.params) 0)
  (hB:dZ w o M b 64 #[.pointer (some ⟨bp,0,none⟩),.slice (some ⟨gs,0,none⟩) (ay g t).length (ay g t).length,.slice (some ⟨gd,0,none⟩) (aF g t).length (aF g t).length,vi,vo,.slice (some ⟨h,0,none⟩) (ay g t).length (ay g t).length,.slice none 0 0,.int .i64 0,.bool false,.int .i64 0])
  (hI:Own w o (M+3) 3 1 vi (ay g t).length (bB (ay g t))) (hO:Own w o (M+4) 3 1 vo (aF g t).length (bB (aF g t)))
  (hS:dZ w o (M+5) gs 77 (List.replicate (ay g t).length Value.nilIface).toArray) (hD:dZ w o (M+6) gd 75 (List.replicate (aF g t).length Value.nilIface).toArray) (hH:dZ w o (M+7) h 27 (List.replicate (ay g t).length (.slice none 0 0)).toArray) (hi:(ay g t).length<=16) (ho:(aF g t).length<=16) :
  mU w o M b g t (fO g t) ⟨bp,.slice (some ⟨gs,0,none⟩) (ay g t).length (ay g t).length,.slice (some ⟨gd,0,none⟩) (aF g t).length (aF g t).length,vi,vo,h,List.replicate (ay g t).length (.slice none 0 0),.slice none 0 0,[]⟩ (iT qs g t 0) (toS qs g t 0):=by
 have hk:oZ g t=eB a.tag a.params:=by unfold oZ;rw [ha]
 refine ⟨hB,fun a' ha'=>?_,hI.vals,hO.vals,⟨gs,rfl,by rw [JR];exact hS⟩,⟨gd,rfl,by rw [QT];exact hD⟩,xZ _ _ _ _,Eu _ _ _ _,⟨by simp [fO],hH,fun k hk2=>?_⟩,.inl ⟨rfl,rfl⟩,⟨hi,ho,by simp [fO];exact hi,by simp [fO]⟩⟩
 ·
  rw [ha] at ha';cases ha'
  show Act w o (M+1) (M+2) bp a.tag a.params (oZ g t) 0
  rw [hk];exact hA
 ·
  have e1:(fO g t).hand[k]=[]:=by simp [fO]
  rw [e1];simp only [List.getElem_replicate];exact bT.nil _ _ _ _
def EQ (q:Col)(w:World)(M tb nI nO:Nat)(bd vi vo:Value)(wx:World):Prop:=∃ q' gs gd,Turn q q' (fun c=>c=M) w wx/\dZ wx q' M tb 64 #[bd,.slice (some ⟨gs,0,none⟩) nI nI,.slice (some ⟨gd,0,none⟩) nO nO,vi,vo,.slice none 0 0,.slice none 0 0,.int .i64 0,.bool false,.int .i64 0] /\
 dZ wx q' (M+5) gs 77 (List.replicate nI Value.nilIface).toArray/\dZ wx q' (M+6) gd 75 (List.replicate nO Value.nilIface).toArray
section
variable {q:Col} {w wd:World} {M tb nI nO:Nat} {bd vi vo:Value} {zi zo:Array Value}
theorem RG (T:Turn q q (fun c=>c=M) w wd)(B:dZ wd q M tb 64 #[bd,.slice none 0 0,.slice none 0 0,vi,vo,.slice none 0 0,.slice none 0 0,.int .i64 0,.bool false,.int .i64 0])(hi:(List.replicate nI Value.nilIface).toArray=zi)(ho:(List.replicate nO Value.nilIface).toArray=zo) :
  EQ q w M tb nI nO bd vi vo ((((wd.alloc (.cells zi 77)).alloc (.cells zo 75)).setCell ⟨tb,1,none⟩ (.slice (some ⟨wd.heap.size,0,none⟩) nI nI)).setCell ⟨tb,2,none⟩ (.slice (some ⟨wd.heap.size+1,0,none⟩) nO nO)):=by
 have T1:=Turn.of_below q (M+5) (au wd (.cells zi 77));have N1:=dA (w:=wd) q (M+5) zi 77;have B1:=B.turn T1 (fun h=>h);have T2:=Turn.of_below (ext q wd.heap.size (M+5)) (M+6) (au (wd.alloc (.cells zi 77)) (.cells zo 75));have N2:=dA (w:=wd.alloc (.cells zi 77)) (ext q wd.heap.size (M+5)) (M+6) zo 75;have M1:=N1.turn T2 (fun h=>h);have B2:=B1.turn T2 (fun h=>h);obtain ⟨B3,S3⟩:=B2.set 1 (.slice (some ⟨wd.heap.size,0,none⟩) nI nI);obtain ⟨B4,S4⟩:=B3.set 2 (.slice (some ⟨wd.heap.size+1,0,none⟩) nO nO);have S:=S3.trans S4 (fun _ h=>h);refine ⟨_,wd.heap.size,wd.heap.size+1,((T.trans (T1.mono (D:=fun c=>c=M) (fun _ h=>h.elim)) (fun _ h=>h)).trans (T2.mono (D:=fun c=>c=M) (fun _ h=>h.elim)) (fun _ h=>h)).trans S (fun _ h=>h),B4,?_,?_⟩
 ·
  rw [hi];exact M1.turn S (fun h=>by omega)
 ·
  rw [ho];have:=N2.turn S (fun h=>by omega);simpa using this
theorem RH (T:Turn q q (fun c=>c=M) w wd)(B:dZ wd q M tb 64 #[bd,.slice none 0 0,.slice none 0 0,vi,vo,.slice none 0 0,.slice none 0 0,.int .i64 0,.bool false,.int .i64 0])(hi:(List.replicate nI Value.nilIface).toArray=zi)(ho:(List.replicate nO Value.nilIface).toArray=zo) :
  EQ q w M tb nI nO bd vi vo ((((wd.alloc (.cells zi 77)).setCell ⟨tb,1,none⟩ (.slice (some ⟨wd.heap.size,0,none⟩) nI nI)).alloc (.cells zo 75)).setCell ⟨tb,2,none⟩ (.slice (some ⟨wd.heap.size+1,0,none⟩) nO nO)):=by
 have T1:=Turn.of_below q (M+5) (au wd (.cells zi 77));have N1:=dA (w:=wd) q (M+5) zi 77;have B1:=B.turn T1 (fun h=>h);obtain ⟨B3,S3⟩:=B1.set 1 (.slice (some ⟨wd.heap.size,0,none⟩) nI nI);have T2:=Turn.of_below (ext q wd.heap.size (M+5)) (M+6) (au ((wd.alloc (.cells zi 77)).setCell ⟨tb,1,none⟩ (.slice (some ⟨wd.heap.size,0,none⟩) nI nI)) (.cells zo 75));have N2:=dA (w:=(wd.alloc (.cells zi 77)).setCell ⟨tb,1,none⟩ (.slice (some ⟨wd.heap.size,0,none⟩) nI nI)) (ext q wd.heap.size (M+5)) (M+6) zo 75;have M1:=(N1.turn S3 (fun h=>by omega)).turn T2 (fun h=>h);have B2:=B3.turn T2 (fun h=>h);obtain ⟨B4,S4⟩:=B2.set 2 (.slice (some ⟨wd.heap.size+1,0,none⟩) nO nO);refine ⟨_,wd.heap.size,wd.heap.size+1,((((T.trans (T1.mono (D:=fun c=>c=M) (fun _ h=>h.elim)) (fun _ h=>h)).trans S3 (fun _ h=>h))).trans (T2.mono (D:=fun c=>c=M) (fun _ h=>h.elim)) (fun _ h=>h)).trans S4 (fun _ h=>h),B4,?_,?_⟩
 ·
  rw [hi];exact M1.turn S4 (fun h=>by omega)
 ·
  rw [ho];have:=N2.turn S4 (fun h=>by omega);simpa [World.setCell] using this
theorem RJ (T:Turn q q (fun c=>c=M) w wd)(B:dZ wd q M tb 64 #[bd,.slice none 0 0,.slice none 0 0,vi,vo,.slice none 0 0,.slice none 0 0,.int .i64 0,.bool false,.int .i64 0])(hi:(List.replicate nI Value.nilIface).toArray=zi)(ho:(List.replicate nO Value.nilIface).toArray=zo) :
  EQ q w M tb nI nO bd vi vo ((((wd.alloc (.cells zo 75)).alloc (.cells zi 77)).setCell ⟨tb,1,none⟩ (.slice (some ⟨wd.heap.size+1,0,none⟩) nI nI)).setCell ⟨tb,2,none⟩ (.slice (some ⟨wd.heap.size,0,none⟩) nO nO)):=by
 have T1:=Turn.of_below q (M+6) (au wd (.cells zo 75));have N1:=dA (w:=wd) q (M+6) zo 75;have B1:=B.turn T1 (fun h=>h);have T2:=Turn.of_below (ext q wd.heap.size (M+6)) (M+5) (au (wd.alloc (.cells zo 75)) (.cells zi 77));have N2:=dA (w:=wd.alloc (.cells zo 75)) (ext q wd.heap.size (M+6)) (M+5) zi 77;have M1:=N1.turn T2 (fun h=>h);have B2:=B1.turn T2 (fun h=>h);obtain ⟨B3,S3⟩:=B2.set 1 (.slice (some ⟨wd.heap.size+1,0,none⟩) nI nI);obtain ⟨B4,S4⟩:=B3.set 2 (.slice (some ⟨wd.heap.size,0,none⟩) nO nO);have S:=S3.trans S4 (fun _ h=>h);refine ⟨_,wd.heap.size+1,wd.heap.size,((T.trans (T1.mono (D:=fun c=>c=M) (fun _ h=>h.elim)) (fun _ h=>h)).trans (T2.mono (D:=fun c=>c=M) (fun _ h=>h.elim)) (fun _ h=>h)).trans S (fun _ h=>h),B4,?_,?_⟩
 ·
  rw [hi];have:=N2.turn S (fun h=>by omega);simpa using this
 ·
  rw [ho];exact M1.turn S (fun h=>by omega)
end
def ER (w:World)(o:Col)(R:Nat)(g:av)(caps:List Int)(e:Ending)(w':World):Prop :=
 (newE g caps≠0->e=.returned (.tuple #[.pointer none,.int .i64 (newE g caps)])/\Below w.heap.size w w') /\
 (newE g caps=0->∃ b o' qs v,e=.returned (.tuple #[.pointer (some ⟨b,0,none⟩),.int .i64 0])/\Turn o o' (fun _=>False) w w'/\fw w' o' R b g caps 256 (fun _=>256) qs v.tb ⟨bN g,none⟩ v/\BS g caps/\∀ k,w.heap.size<=k->R<=o' k/\o' k < R+6010)
theorem ES {w w':World}{o:Col}{R:Nat}{g:av}{caps:List Int}{E:Int}(hE:newE g caps=E)(h0:E≠0)(hb:Below w.heap.size w w'):ER w o R g caps (.returned (.tuple #[.pointer none,.int .i64 E])) w' :=
 ⟨fun _=>⟨by rw [hE],hb⟩,fun h=>absurd (hE.symm.trans h) h0⟩
theorem RN {w w':World}{o q:Col}{R b:Nat}{g:av}{caps:List Int}{qs:bR}{v:bO}(hR:1<=R)(hE:newE g caps=0)(K:Kept w.heap.size q w w')(h:fw w' q R b g caps 256 (fun _=>256) qs v.tb ⟨bN g,none⟩ v)(hG:BS g caps):ER w o R g caps (.returned (.tuple #[.pointer (some ⟨b,0,none⟩),.int .i64 0])) w':=by
 refine ⟨fun h=>absurd hE h,fun _=>⟨b,fun k=>if k < w.heap.size then o k else if R<=q k/\q k < R+6000 then q k else R+6009,qs,v,rfl,⟨aG.of_below K.below _,fun k hk=>by simp [hk]⟩,h.dO (fun k hk=>?_),hG,fun k hk=>?_⟩⟩
 ·
  have:¬ k < w.heap.size:=fun hlt=>by
   have:=K.old k hlt;unfold bV at hk;omega
  unfold bV at hk;simp only [if_neg this];rw [if_pos (by omega)]
 ·
  simp only [if_neg (Nat.not_lt.2 hk)]
  split <;> omega
structure NewAt (w0 w:World) (q:Col) (R b X:Nat) (g:av) (caps:List Int) (qs:bR) (nT nE nI nO F B:Nat) (v:bO) (gv:Array Value):Prop where
 kept:Kept w0.heap.size q w0 w
 graph:dZ w q (R+6000) X 26 gv
 half:iL w q R b g caps qs nT nE nI nO F B v
theorem NewAt.turn {w0 w w':World}{q q':Col}{C:Nat->Prop}{R b X:Nat}{g:av}{caps:List Int}{qs:bR}{nT nE nI nO F B:Nat}{v:bO}{gv:Array Value}(h:NewAt w0 w q R b X g caps qs nT nE nI nO F B v gv)(T:Turn q q' C w w')(hC0:¬ C 0)(hX:¬ C (R+6000))(hC:∀ k,C k->bV R k->R+100+64*nT<=k/\k < R+4000):NewAt w0 w' q' R b X g caps qs nT nE nI nO F B v gv :=
 ⟨h.kept.turn T hC0,h.graph.turn T hX,h.half.turn T hC⟩
theorem NewAt.later {w0 w w':World}{q:Col}{R b X:Nat}{g:av}{caps:List Int}{qs:bR}{nT nE nI nO F B:Nat}{v:bO}{gv:Array Value}(h:NewAt w0 w q R b X g caps qs nT nE nI nO F B v gv)(c:Nat)(hb:Below w.heap.size w w'):NewAt w0 w' (ext q w.heap.size c) R b X g caps qs nT nE nI nO F B v gv:=h.turn (Turn.of_below q c hb) (fun h=>h) (fun h=>h) (fun _ h=>h.elim)
theorem Kn {w:World}{q:Col}{R:Nat}(g:av)(caps:List Int)(hf:g.actors.length<=32/\g.edges.length<=96/\g.ins.length<=16/\g.outs.length<=16):iL (w.alloc (.cells #[.slice none 0 0,.slice none 0 0,.slice none 0 0,.slice none 0 0,.int .i64 (-1)] 53)) (ext q w.heap.size R) R w.heap.size g caps (fun _=>0) 0 0 0 0 0 0 ⟨.slice none 0 0,.slice none 0 0,.slice none 0 0,.slice none 0 0,fun _=>0,fun _=>⟨0,.nilIface,.nilIface,.nilIface,.nilIface,0,[],.nilIface,[]⟩,fun _=>.nilIface⟩ :=
 ⟨dA q R _ _,Own.nil _ _ _ _ _,Own.nil _ _ _ _ _,Own.nil _ _ _ _ _,Own.nil _ _ _ _ _,fun t ht=>by omega,fun d hd=>by omega,fun d _ hd=>by omega,⟨by omega,by omega,by omega,by omega⟩,hf⟩
theorem Ic (w:World)(o:Col)(R:Nat)(hR:1<=R)(v:Value)(g:av)(caps:List Int){ca:Option Addr}{nc cc:Nat}(hv:dK w v g)(hz:mO g)(hc:Has w (.slice ca nc cc) (bB caps))(hcb:caps.length<=17600000000000)
  (hfp:∀ a∈g.actors,∀ x∈a.params,Fits x) (hfs:∀ e∈g.edges,∀ x∈e.start,Fits x) (hfc:∀ c∈caps,Fits c):Calls Tryz.prog 5 #[v,.slice ca nc cc] w (ER w o R g caps):=by
 obtain ⟨va,ve,vi,vo,rfl,ra,re,ri,ro⟩:=hv.shape;obtain ⟨aa,ac,rfl⟩:=ra.slice;obtain ⟨ae,ec,rfl⟩:=re.slice;obtain ⟨ai,ic,rfl⟩:=ri.slice;obtain ⟨ao,oc,rfl⟩:=ro.slice;obtain rfl:nc=caps.length:=by simpa using cu.len hc
 have HG:=af hv;have rV:=af ra;have nV:=af re;have qE:=af ri;have sI:=af ro;have HZ:=af hz;have HC:=af hc;have Zo:=af hfp;have HFS:=af hfs;have HFC:=af hfc;clear hv ra re ri ro hz hc hfp hfs hfc;have hb1:=au w (.cells #[.string g.name,.slice aa g.actors.length ac,.slice ae g.edges.length ec,.slice ai g.ins.length ic,.slice ao g.outs.length oc] 26);have T1:=Turn.of_below (fun _=>0) (R+6000) hb1;have hX:=dA (w:=w) (fun _=>0) (R+6000) #[.string g.name,.slice aa g.actors.length ac,.slice ae g.edges.length ec,.slice ai g.ins.length ic,.slice ao g.outs.length oc] 26;have K1:=(Kept.start w).turn T1 (fun h=>h);have HX:=af hX;have HK:=af K1;have x0:=hX.cell 0 _ rfl;have x1:=hX.cell 1 _ rfl;have x2:=hX.cell 2 _ rfl;have x3:=hX.cell 3 _ rfl;have x4:=hX.cell 4 _ rfl;generalize ext (fun _=>0) w.heap.size (R+6000)=q0 at *;clear T1 hX K1 hb1;obtain ⟨E,hE⟩:∃ x,jH g=x:=⟨_,rfl⟩;have HE:=af hE;clear hE
 by_cases h0:E≠0
 ·
  have hb:(E != 0)=true:=by rw [bne_iff_ne];exact h0
  have H0:=af h0;clear h0;go_enter Tryz.func5,Tryz.ntmps5;go_wp2_with fail;refine (vC _ _ g (HG.out.below HK.out.below) HZ.out).mono ?_;rintro e w2 ⟨rfl,hb2⟩;rw [HE.out];have HB2:=af (HK.out.below.trans (hb2.mono HK.out.size));clear hb2;go_wp2;go_ret2;exact ES (by unfold newE;rw [HE.out,if_pos H0.out]) H0.out HB2.out
 obtain rfl:E=0:=by simpa using h0
 clear h0
 by_cases h1:¬ caps.length=g.edges.length
 ·
  have hb:((caps.length:Int) != (g.edges.length:Int))=true:=by rw [bne_iff_ne];omega
  have H1:=af h1;clear h1;go_enter Tryz.func5,Tryz.ntmps5;go_wp2_with fail;refine (vC _ _ g (HG.out.below HK.out.below) HZ.out).mono ?_;rintro e w2 ⟨rfl,hb2⟩;rw [HE.out];have HB2:=af (HK.out.below.trans (hb2.mono HK.out.size));have x2:=(HX.out.turn (Turn.of_below q0 0 hb2) (fun h=>h)).cell 2 _ rfl;clear hb2;go_wp2;go_ret2;exact ES (by unfold newE;rw [if_neg (by rw [HE.out];decide),if_pos H1.out]) (by decide) HB2.out
 have h1:caps.length=g.edges.length:=Decidable.not_not.1 h1;have hb:((caps.length:Int) != (g.edges.length:Int))=false:=by rw [bne_eq_false_iff_eq];omega
 have H1:=af h1;have HS:=af (Gu HE.out);have hf:=Ia HS.out.head;have HF:=af hf;clear hf h1;go_enter Tryz.func5,Tryz.ntmps5;go_wp2_with fail;refine (vC _ _ g (HG.out.below HK.out.below) HZ.out).mono ?_;rintro e w2 ⟨rfl,hb2⟩;rw [HE.out];have T2:=Turn.of_below q0 (R+6001) hb2;have zb:=af (HK.out.turn T2 (fun h=>h));have hX2:=HX.out.turn T2 (fun h=>h);have Nv:=af hX2;have x1:=hX2.cell 1 _ rfl;have x2:=hX2.cell 2 _ rfl;generalize ext q0 _ (R+6001)=q2 at *;clear T2 hX2 hb2 HK HX x0 x3 x4;have T3:=Turn.of_below q2 R (au w2 (.cells #[.slice none 0 0,.slice none 0 0,.slice none 0 0,.slice none 0 0,.int .i64 (-1)] 53));have HN:=af (NewAt.mk (zb.out.turn T3 (fun h=>h)) (Nv.out.turn T3 (fun h=>h)) (Kn (w:=w2) (q:=q2) (R:=R) g caps HF.out));have x1:=HN.out.graph.cell 1 _ rfl;generalize ext q2 _ R=q3 at *;generalize (⟨.slice none 0 0,.slice none 0 0,.slice none 0 0,.slice none 0 0,fun _=>0,fun _=>⟨0,.nilIface,.nilIface,.nilIface,.nilIface,0,[],.nilIface,[]⟩,fun _=>.nilIface⟩:bO)=v0 at *;clear T3 zb Nv;go_wp2_with fail;obtain ⟨w3,hw3⟩:∃ x,w2.alloc (.cells #[.slice none 0 0,.slice none 0 0,.slice none 0 0,.slice none 0 0,.int .i64 (-1)] 53)=x:=⟨_,rfl⟩;rw [hw3] at HN x1 ⊢;obtain ⟨b,hbe⟩:∃ x,w2.heap.size=x:=⟨_,rfl⟩;rw [hbe] at HN ⊢;clear hbe hw3 hb x2
 go_loopw [41] (fun i wz=>∃ (k:Nat) (q:Col) (v:bO),k<=g.actors.length/\i=.int .i64 k/\NewAt w wz q R b w.heap.size g caps (fun _=>0) k 0 0 0 0 0 v #[.string g.name,.slice aa g.actors.length ac,.slice ae g.edges.length ec,.slice ai g.ins.length ic,.slice ao g.outs.length oc]) (fun i _=>g.actors.length - (intOf i).toNat)
 case atStart=>exact ⟨0,_,v0,Nat.zero_le _,rfl,HN.out⟩
 case round =>
  clear HN x1;obtain ⟨k,q,v,hk,rfl,hN⟩:=hrel;have HN:=af hN;clear hN
  by_cases hlt:k < g.actors.length
  ·
   have bX:(k:Int) < g.actors.length:=by omega
   obtain ⟨b0,off,rfl,hcap,hb0,hrec⟩:=rV.out.at (by omega);obtain ⟨cs,hcs,mY,hcl⟩:=hrec k hlt;obtain ⟨xs,rfl,hst⟩:=mY;have c0:=cell_later HN.out.kept.below (hcl 0 (by omega));have c1:=cell_later HN.out.kept.below (hcl 1 (by omega));have c2:=cell_later HN.out.kept.below (hcl 2 (by omega));simp at c0 c1 c2;have fu:(g.actors.length:Int)<=ac:=by omega
   obtain ⟨sa,sc,hxs⟩:=Ints.slice hst;subst hxs;have HST:=af hst;clear hrec hcl hcs hst hb0 hcap;have hba:=List.getElem_mem hlt;have hgo:=HS.out.good _ hba;have hag:g.actors[k]?=some g.actors[k]:=List.getElem?_eq_getElem hlt;have NZ:ay g k=bJ g.actors[k].tag g.actors[k].params:=by unfold ay;rw [hag]
   have N7:aF g k=aV g.actors[k].tag g.actors[k].params:=by unfold aF;rw [hag]
   have uR:=qh hgo;rw [<- NZ,<- N7] at uR;have N8:=af hgo;have LH:=af hag;have aaQ:=af NZ;have aaR:=af N7;have uL:=af uR;have aaS:=af (Zo.out _ hba);obtain ⟨a,hae⟩:∃ a,g.actors[k]=a:=⟨_,rfl⟩;rw [hae] at c0 c1 c2 HST N8 LH aaQ aaR aaS;clear hba hgo hag NZ N7 uR;go_wp2_with fail;obtain ⟨w4,hw4⟩:∃ x,wr.alloc (.cells #[.string a.name,.int .u8 a.tag,.slice sa a.params.length sc] 56)=x:=⟨_,rfl⟩;have V3:=af (HN.out.later (R+6001) (au wr (.cells #[.string a.name,.int .u8 a.tag,.slice sa a.params.length sc] 56)));rw [hw4] at V3 ⊢;generalize ext q wr.heap.size (R+6001)=q4 at *;clear hw4 HN c0 c1 c2;obtain ⟨M,hM⟩:∃ M,R+100+64*k=M:=⟨_,rfl⟩;have HM:=af hM;clear hM;refine (UB q4 (M+1) (M+2) (by omega) N8.out aaS.out (HST.out.below V3.out.kept.below)).mono ?_;rintro e w5 ⟨bp,q5,rfl,T5,hA⟩;have Ry:=af (V3.out.turn T5 (fun h=>h) (fun h=>h) (fun _ h=>h.elim));have T6:=Turn.of_below q5 M (au w5 (.cells #[.pointer (some ⟨bp,0,none⟩),.slice none 0 0,.slice none 0 0,.slice none 0 0,.slice none 0 0,.slice none 0 0,.slice none 0 0,.int .i64 0,.bool false,.int .i64 0] 64));have HB6:=af (dA (w:=w5) q5 M #[.pointer (some ⟨bp,0,none⟩),.slice none 0 0,.slice none 0 0,.slice none 0 0,.slice none 0 0,.slice none 0 0,.slice none 0 0,.int .i64 0,.bool false,.int .i64 0] 64);have pQ:=af (hA.turn T6 (fun h=>h) (fun h=>h));have HN6:=af (Ry.out.turn T6 (fun h=>h) (fun h=>h) (fun _ h=>h.elim));generalize ext q5 w5.heap.size M=q6 at *;clear T5 hA T6 V3 Ry;go_wp2_with fail;obtain ⟨w6,YV⟩:∃ x,w5.alloc (.cells #[.pointer (some ⟨bp,0,none⟩),.slice none 0 0,.slice none 0 0,.slice none 0 0,.slice none 0 0,.slice none 0 0,.slice none 0 0,.int .i64 0,.bool false,.int .i64 0] 64)=x:=⟨_,rfl⟩;obtain ⟨tb,htb⟩:∃ x,w5.heap.size=x:=⟨_,rfl⟩;rw [YV] at HB6 pQ HN6 ⊢;rw [htb] at HB6 ⊢;clear YV htb;refine (Ml pQ.out).mono ?_;intro e w7 hRt;obtain ⟨vi,vo,q7,rfl,T7,oi,oo⟩:=NW q6 M hRt;rw [<- aaQ.out] at oi;rw [<- aaR.out] at oo;obtain ⟨ia,ic,rfl⟩:=oi.slice;obtain ⟨oa,LJ,rfl⟩:=oo.slice;have Zv:=HB6.out.turn T7 (fun h=>h);have c3:=Zv.cell 3 _ rfl;have c4:=Zv.cell 4 _ rfl;have f3:=Zv.frozen 3;have f4:=Zv.frozen 4;obtain ⟨hB8,S8⟩:=Zv.set 3 (.slice ia (ay g k).length ic);obtain ⟨hB9,S9⟩:=hB8.set 4 (.slice oa (aF g k).length LJ);have T9:=S8.trans S9 (fun _ h=>h);have hmt:∀ c,c=M->bV R c->R+100+64*k<=c/\c < R+4000:=fun c hc hm=>by have:=HM.out;have:=HF.out.1;omega
   have HMT:=af hmt;have rX:=af (oi.turn T9 (by omega));have rY:=af (oo.turn T9 (by omega));have V4:=af ((pQ.out.turn T7 (fun h=>h) (fun h=>h)).turn T9 (by omega) (by omega));have YI:=af ((HN6.out.turn T7 (fun h=>h) (fun h=>h) (fun _ h=>h.elim)).turn T9 (by have:=HM.out;omega) (by have:=HM.out;have:=HF.out.1;omega) hmt);have aaT:dZ _ q7 M tb 64 #[.pointer (some ⟨bp,0,none⟩),.slice none 0 0,.slice none 0 0,.slice ia (ay g k).length ic,.slice oa (aF g k).length LJ,.slice none 0 0,.slice none 0 0,.int .i64 0,.bool false,.int .i64 0]:=hB9;have Kg:=af aaT;clear T7 oi oo Zv hB8 S8 hB9 aaT S9 T9 hmt HB6 pQ HN6 hRt;obtain ⟨nI,NK⟩:∃ x,(ay g k).length=x:=⟨_,rfl⟩;obtain ⟨nO,SN⟩:∃ x,(aF g k).length=x:=⟨_,rfl⟩;have Zw:=af NK;have oO:=af SN;rw [NK] at Kg rX uL ⊢;rw [SN] at Kg rY uL ⊢;rw [SN] at rX;rw [NK] at rY;rw [NK,SN] at V4 YI;clear NK SN;go_wp2_with fail;obtain ⟨w8,hw8⟩:∃ x,(w7.setCell ⟨tb,3,none⟩ (.slice ia nI ic)).setCell ⟨tb,4,none⟩ (.slice oa nO LJ)=x:=⟨_,rfl⟩;rw [hw8] at Kg rX rY V4 YI ⊢;clear hw8 c3 c4 f3 f4;have c3:=Kg.out.cell 3 _ rfl;have c4:=Kg.out.cell 4 _ rfl;have Pv:=LG nI (by have:=uL.out;omega);have hmo:=VZ nO (by have:=uL.out;omega);obtain ⟨zi,hzi⟩:∃ x,(List.replicate nI Value.nilIface).toArray=x:=⟨_,rfl⟩;obtain ⟨zo,Y4⟩:∃ x,(List.replicate nO Value.nilIface).toArray=x:=⟨_,rfl⟩;rw [hzi] at Pv;rw [Y4] at hmo;have Ow:=af hzi;have Zx:=af Y4;clear hzi Y4
   go_cut [70] from 70 to 88 (fun _ wx=>EQ q7 w8 M tb nI nO (.pointer (some ⟨bp,0,none⟩)) (.slice ia nI ic) (.slice oa nO LJ) wx)
   case first =>
    refine cB (fun w'=>w'.cell? ⟨tb,3,none⟩=some (.slice ia nI ic)/\w'.cell? ⟨tb,4,none⟩=some (.slice oa nO LJ)) [0,1,2,3,4,5,6,8,9,10,11,12,14,15] [7,13,16] [0,1,2,3,4,5,6,8,9,10,11,12] 8 (by kernel_rfl) (by kernel_rfl) rfl ⟨c3,c4⟩ ?_;intro Q' hQ' lD;simp only [pk];refine aD ?_;refine ax ?_;obtain ⟨wd,hwd⟩:∃ x,w8.drew=x:=⟨_,rfl⟩;have T0:Turn q7 q7 (fun _=>False) w8 wd:=by rw [<- hwd];exact (Turn.refl q7 _ w8).drew
    have B0:=Kg.out.turn T0 (fun h=>h);have TD:=T0.mono (D:=fun c=>c=M) (fun _ h=>h.elim);rw [hwd];have pa:=af (RG TD B0 Ow.out Zx.out);have pb:=af (RH TD B0 Ow.out Zx.out);have pc:=af (RJ TD B0 Ow.out Zx.out);have B1:=B0.turn (Turn.of_below q7 (M+5) (au wd (.cells zi 77))) (fun h=>h);have B3:=B0.turn (Turn.of_below q7 (M+6) (au wd (.cells zo 75))) (fun h=>h);have B2:=B1.turn (Turn.of_below (ext q7 wd.heap.size (M+5)) (M+6) (au (wd.alloc (.cells zi 77)) (.cells zo 75))) (fun h=>h);have B4:=B3.turn (Turn.of_below (ext q7 wd.heap.size (M+6)) (M+5) (au (wd.alloc (.cells zo 75)) (.cells zi 77))) (fun h=>h);have HB1:=af B1;have HB2:=af B2;have HB3:=af B3;have xV:=af B4;clear T0 B0 TD hwd B1 B2 B3 B4 c3 c4;have s1:(wd.alloc (.cells zi 77)).cell? ⟨tb,3,none⟩=some (.slice ia nI ic)/\(wd.alloc (.cells zi 77)).cell? ⟨tb,4,none⟩=some (.slice oa nO LJ):=⟨HB1.out.cell 3 _ rfl,HB1.out.cell 4 _ rfl⟩;have s2:((wd.alloc (.cells zi 77)).alloc (.cells zo 75)).cell? ⟨tb,3,none⟩=some (.slice ia nI ic)/\((wd.alloc (.cells zi 77)).alloc (.cells zo 75)).cell? ⟨tb,4,none⟩=some (.slice oa nO LJ):=⟨HB2.out.cell 3 _ rfl,HB2.out.cell 4 _ rfl⟩;have s3:(wd.alloc (.cells zo 75)).cell? ⟨tb,3,none⟩=some (.slice ia nI ic)/\(wd.alloc (.cells zo 75)).cell? ⟨tb,4,none⟩=some (.slice oa nO LJ):=⟨HB3.out.cell 3 _ rfl,HB3.out.cell 4 _ rfl⟩;have s4:((wd.alloc (.cells zo 75)).alloc (.cells zi 77)).cell? ⟨tb,3,none⟩=some (.slice ia nI ic)/\((wd.alloc (.cells zo 75)).alloc (.cells zi 77)).cell? ⟨tb,4,none⟩=some (.slice oa nO LJ):=⟨xV.out.cell 3 _ rfl,xV.out.cell 4 _ rfl⟩;have HS1:=af s1;have HS2:=af s2;have Ym:=af s3;have Zl:=af s4;clear s1 s2 s3 s4;refine fZ (i:=7) (k:=13) (by kernel_rfl) ?_ ?_
    ·
     simp only [pk];go_wp2_with fail;refine ⟨by intros;exact HS1.out,?_⟩;refine dM (r:=[14,15]) (n:=5) lD (by kernel_rfl) HS1.out ?_;simp only [pk];refine aD ?_;refine ax ?_;refine fZ (i:=13) (k:=16) (by kernel_rfl) ?_ ?_
     ·
      simp only [pk];go_wp2_with fail;refine ⟨by intros;exact HS2.out,?_⟩;refine aB (i:=16) (by kernel_rfl) ?_;simp only [pk];have z1:=HB2.out.cell 1 _ rfl;have g1:=HB2.out.frozen 1;have z2:=HB2.out.cell 2 _ rfl;have g2:=HB2.out.frozen 2;obtain ⟨B5,-⟩:=HB2.out.set 1 (.slice (some ⟨wd.heap.size,0,none⟩) nI nI);have s5:=And.intro (B5.cell 3 (.slice ia nI ic) rfl) (B5.cell 4 (.slice oa nO LJ) rfl);have VW:=af s5;clear s5 B5;go_wp2_with fail;refine ⟨by intros;exact VW.out,?_⟩;clear lD;refine aJ (ks:=[17,18,19]) (fun _ _ hx h=>⟨hx.cell h.1,hx.cell h.2⟩) (by kernel_rfl) ?_;simp only [pk];go_wp2
      go_meet
      case rel=>exact pa.out
     ·
      simp only [pk];have z1:=HB1.out.cell 1 _ rfl;have g1:=HB1.out.frozen 1;obtain ⟨B5,-⟩:=HB1.out.set 1 (.slice (some ⟨wd.heap.size,0,none⟩) nI nI);have s5:=And.intro (B5.cell 3 (.slice ia nI ic) rfl) (B5.cell 4 (.slice oa nO LJ) rfl);have VW:=af s5;have B6:=B5.turn (Turn.of_below (ext q7 wd.heap.size (M+5)) (M+6) (au _ (.cells zo 75))) (fun h=>h);have HS6:=af (And.intro (B6.cell 3 (.slice ia nI ic) rfl) (B6.cell 4 (.slice oa nO LJ) rfl));have z2:=B6.cell 2 _ rfl;have g2:=B6.frozen 2;clear s5 B5 B6;go_wp2_with fail;refine ⟨by intros;exact VW.out,?_⟩;refine aB (i:=13) (by kernel_rfl) ?_;simp only [pk];go_wp2_with fail;refine ⟨by intros;exact HS6.out,?_⟩;clear lD;refine aJ (ks:=[17,18,19]) (fun _ _ hx h=>⟨hx.cell h.1,hx.cell h.2⟩) (by kernel_rfl) ?_;simp only [pk];go_wp2
      go_meet
      case rel=>exact pb.out
    ·
     simp only [pk];go_wp2_with fail;refine ⟨by intros;exact Ym.out,?_⟩;refine aB (i:=7) (by kernel_rfl) ?_;simp only [pk];have Y5:=LG nI (by have:=uL.out;omega);rw [Ow.out] at Y5;go_wp2_with fail;refine ⟨by intros;exact Zl.out,?_⟩;refine dM (r:=[14,15]) (n:=4) lD (by kernel_rfl) Zl.out ?_;simp only [pk];refine aD ?_;refine ax ?_;refine aB (i:=16) (by kernel_rfl) ?_;simp only [pk];have z1:=xV.out.cell 1 _ rfl;have g1:=xV.out.frozen 1;have z2:=xV.out.cell 2 _ rfl;have g2:=xV.out.frozen 2;obtain ⟨B5,-⟩:=xV.out.set 1 (.slice (some ⟨wd.heap.size+1,0,none⟩) nI nI);have VW:=af (And.intro (B5.cell 3 (.slice ia nI ic) rfl) (B5.cell 4 (.slice oa nO LJ) rfl));clear B5;go_wp2_with fail;refine ⟨by intros;exact VW.out,?_⟩;clear lD;refine aJ (ks:=[17,18,19]) (fun _ _ hx h=>⟨hx.cell h.1,hx.cell h.2⟩) (by kernel_rfl) ?_;simp only [pk];go_wp2
     go_meet
     case rel=>exact pc.out
   case rest =>
    clear c3 c4 Pv hmo;obtain ⟨q8,gs,gd,T8,hB,hSb,hDb⟩:=hcut;have HB8:=af hB;have HSB:=af hSb;have Y6:=af hDb;have aaU:=af (rX.out.turn T8 (by omega));have aaV:=af (rY.out.turn T8 (by omega));have Dy:=af (V4.out.turn T8 (by omega) (by omega));have zW:=af (YI.out.turn T8 (by have:=HM.out;omega) (by have:=HM.out;have:=HF.out.1;omega) HMT.out);clear T8 hB hSb hDb rX rY V4 YI Kg;go_wp2_with fail;refine (Km HB8.out (by have:=uL.out;omega)).mono ?_;rintro e wb ⟨q9,hh,rfl,T9,hB9,hH⟩;have aaW:=aaU.out.turn T9 (by omega);have aaX:=aaV.out.turn T9 (by omega);have hA9:=Dy.out.turn T9 (by omega) (by omega);have V5:=zW.out.turn T9 (by have:=HM.out;omega) (by have:=HM.out;have:=HF.out.1;omega) HMT.out;have hS9:=HSB.out.turn T9 (by omega);have hD9:=Y6.out.turn T9 (by omega);have hbn:=au wb (.cells #[.pointer (some ⟨tb,0,none⟩)] 60);have Tn:=Turn.of_below q9 (R+6001) hbn;have hB':=hB9.turn Tn (fun h=>h);have hH':=hH.turn Tn (fun h=>h);have aaY:=aaW.turn Tn (fun h=>h);have aaZ:=aaX.turn Tn (fun h=>h);have hA':=hA9.turn Tn (fun h=>h) (fun h=>h);have hN':=V5.turn Tn (fun h=>h) (fun h=>h) (fun _ h=>h.elim);have hS':=hS9.turn Tn (fun h=>h);have hD':=hD9.turn Tn (fun h=>h);have hrb:=V5.half.blk;unfold jC at hrb;have c0:=hrb.cell 0 _ rfl;change wb.cell? _=some v.tasks at c0;have hown:=hN'.half.tasks;obtain ⟨ta,tc,oF⟩:=hown.slice;rw [oF] at c0;obtain ⟨i0,hi,hz0,hz1,hz2⟩:=info_parts Kk;have HI:=af hi;have HOWN:=af hown;have BF:=af oF;have HBX:=af hB';have HHX:=af hH';have aa0:=af aaY;have aa1:=af aaZ;have HAX:=af hA';have HNX:=af hN';have HSX:=af hS';have HDX:=af hD';generalize ext q9 wb.heap.size (R+6001)=qx at *;clear hi hown oF hB' hH' aaY aaZ hA' hN' hS' hD' hrb hbn Tn hB9 hH aaW aaX hA9 V5 hS9 hD9 T9 HB8 HSB Y6 aaU aaV Dy zW;go_wp2_with (at_builtin;refine aU ?_);refine dR ?_;refine aS rfl _ _ 49 rfl 0 60 i0 _ 1 8 Tryz.underlying49 HI.out hz0 hz1 hz2 rfl (.slice ta k tc) k ((List.range k).map fun t=>gG (v.tb t)) rfl (by have:=HOWN.out.1;rw [BF.out] at this;exact this) (some ⟨wb.heap.size,0,none⟩) 1 1 [.pointer (some ⟨tb,0,none⟩)] rfl rfl (fun h=>by cases h) (bC wb [.pointer (some ⟨tb,0,none⟩)] 60) (by simp [Value.oneCell']) (by have:=HF.out.1;unfold maxLen;omega) (bA (by have:=HF.out.1;omega)) (Nat.zero_le _) ?_;intro v7 w7 k1 k20 _ k4;rw [<- BF.out] at k20 k4;obtain ⟨T7,O7⟩:=nA HOWN.out k1 k20 k4;obtain ⟨iM,iN,rfl⟩:=O7.slice;have pu:=HNX.out.half.blk.turn T7 (by omega);have e0:=pu.cell 0 v.tasks (by simp [jC]);have g0:=pu.frozen 0;obtain ⟨hB0,S0⟩:=pu.set 0 (.slice iM (k+1) iN);have hBr:dZ (w7.setCell ⟨b,0,none⟩ (.slice iM (k+1) iN)) (ext qx (wb.alloc (.cells #[.pointer (some ⟨tb,0,none⟩)] 60)).heap.size (R+1)) R b 53 (jC ⟨bN g,none⟩ { v with tasks:=.slice iM (k+1) iN }).toArray:=hB0;have TT:=(T7.mono (D:=fun c=>c=R\/c=R+1) (fun c h=>.inr h)).trans (S0.mono (D:=fun c=>c=R\/c=R+1) (fun c h=>.inl h)) (fun _ h=>h);have hM:=HM.out;have hHT:mU (w7.setCell ⟨b,0,none⟩ (.slice iM (k+1) iN)) (ext qx (wb.alloc (.cells #[.pointer (some ⟨tb,0,none⟩)] 60)).heap.size (R+1)) (R+100+64*k) tb g k (fO g k) ⟨bp,.slice (some ⟨gs,0,none⟩) (ay g k).length (ay g k).length,.slice (some ⟨gd,0,none⟩) (aF g k).length (aF g k).length,.slice ia nI ic,.slice oa nO LJ,hh,List.replicate (ay g k).length (.slice none 0 0),.slice none 0 0,[]⟩ (iT (fun _=>0) g k 0) (toS (fun _=>0) g k 0):=by
     rw [hM];have t1:=HBX.out.turn TT (by omega);have t2:=HHX.out.turn TT (by omega);have t3:=aa0.out.turn TT (by omega);have t4:=aa1.out.turn TT (by omega);have t5:=HAX.out.turn TT (by omega) (by omega);have t6:=HSX.out.turn TT (by omega);have t7:=HDX.out.turn TT (by omega);have l:=uL.out;have e1:=Zw.out;have e2:=oO.out;refine RF a LH.out t5 ?_ ?_ ?_ ?_ ?_ ?_ (by omega) (by omega)
     ·
      rw [e1,e2];exact t1
     ·
      rw [e1];exact t3
     ·
      rw [e2];exact t4
     ·
      rw [e1];exact t6
     ·
      rw [e2];exact t7
     ·
      rw [e1];exact t2
    have tF:=af (NewAt.mk (HNX.out.kept.turn TT (by omega)) (HNX.out.graph.turn TT (by omega)) (HNX.out.half.zT hlt (TT.mono (fun c hc=>by rcases hc with hc | hc;exact .inl hc;exact .inr (.inl hc))) hBr (O7.turn S0 (by omega)) hHT));clear hHT TT hBr hB0 S0 pu T7 O7 k1 k20 k4 HBX HHX aa0 aa1 HAX HSX HDX HNX HOWN hM;have hf1:=HF.out.1;go_wp2;go_roundw
    case rel=>exact ⟨k+1,_,_,hlt,by go_num,tF.out⟩
    case measure=>simp [intOf];omega
  ·
   obtain rfl:k=g.actors.length:=by omega
   have bX:¬ ((g.actors.length:Int) < g.actors.length):=by omega
   have x2:=HN.out.graph.cell 2 _ rfl;clear hk hlt;go_wp2_with fail
   go_loopw [104] (fun i wz=>∃ (k:Nat) (q:Col) (qs:bR) (v:bO),k<=g.edges.length/\i=.int .i64 k/\NewAt w wz q R b w.heap.size g caps qs g.actors.length k 0 0 k k v #[.string g.name,.slice aa g.actors.length ac,.slice ae g.edges.length ec,.slice ai g.ins.length ic,.slice ao g.outs.length oc]/\∀ c∈caps.take k,0<=c) (fun i _=>g.edges.length - (intOf i).toNat)
   case atStart=>exact ⟨0,_,_,v,Nat.zero_le _,rfl,HN.out,by simp⟩
   case round =>
    clear HN x2;obtain ⟨k,q,qs,v,hk,rfl,hN,hpos⟩:=hrel;have HN:=af hN;have Ko:=af hpos;clear hN hpos
    by_cases hlt:k < g.edges.length
    ·
     have bX:(k:Int) < g.edges.length:=by omega
     obtain ⟨b0,off,rfl,hcap,hb0,hrec⟩:=nV.out.at (by omega);obtain ⟨cs,hcs,mY,hcl⟩:=hrec k hlt;obtain ⟨xs,rfl,hst⟩:=mY;have c0:=cell_later HN.out.kept.below (hcl 0 (by omega));have c1:=cell_later HN.out.kept.below (hcl 1 (by omega));have c2:=cell_later HN.out.kept.below (hcl 2 (by omega));have c3:=cell_later HN.out.kept.below (hcl 3 (by omega));have c4:=cell_later HN.out.kept.below (hcl 4 (by omega));simp at c0 c1 c2 c3 c4;have fu:(g.edges.length:Int)<=ec:=by omega
     obtain ⟨sa,sc,hxs⟩:=Ints.slice hst;subst hxs;have HST:=af hst;obtain ⟨ed,hed⟩:∃ x,g.edges[k]=x:=⟨_,rfl⟩;have Y7:=af hed;have hee:qW g k=ed:=by unfold qW;rw [List.getElem?_eq_getElem hlt];exact hed
     have Sz:=af hee;rw [hed] at c0 c1 c2 c3 c4 HST;clear hrec hcl hcs hst hb0 hcap hed hee;obtain ⟨b1,off1,rfl,-,RP,-,-,hcc⟩:=Ints.at HC.out (by have:=H1.out;omega);have hck:=cell_later HN.out.kept.below (hcc k (by have:=H1.out;omega));obtain ⟨C,hC⟩:∃ x,caps[k]?.getD 0=x:=⟨_,rfl⟩;have Y8:=af hC;rw [hC] at hck;change wr.cell? _=some (.int .i64 C) at hck;have Y9:(caps.length:Int)<=cc:=by omega
     have hkc:(k:Int) < caps.length:=by have:=H1.out;omega
     clear hcc hC RP;have hby:=au wr (.cells #[.int .i64 ed.src,.int .i64 ed.dw,.int .i64 ed.dst,.int .i64 ed.dx,.slice sa ed.start.length sc] 68);have Ty:=Turn.of_below q (R+6002) hby
     have hY:=dA (w:=wr) q (R+6002) #[.int .i64 ed.src,.int .i64 ed.dw,.int .i64 ed.dst,.int .i64 ed.dx,.slice sa ed.start.length sc] 68;have FQ:=cell_later hby hck;have y4:=hY.cell 4 _ rfl;have HY:=af hY;have BX:=af (HN.out.turn Ty (fun h=>h) (fun h=>h) (fun _ h=>h.elim));generalize ext q wr.heap.size (R+6002)=qy at *;clear Ty hY hby hck;go_wp2_with fail;obtain ⟨wy,vE⟩:∃ x,wr.alloc (.cells #[.int .i64 ed.src,.int .i64 ed.dw,.int .i64 ed.dst,.int .i64 ed.dx,.slice sa ed.start.length sc] 68)=x:=⟨_,rfl⟩;obtain ⟨Y,uJ⟩:∃ x,wr.heap.size=x:=⟨_,rfl⟩;rw [vE] at HY BX FQ y4 ⊢;rw [uJ] at HY y4 ⊢;clear vE uJ HN c0 c1 c2 c3 c4
     by_cases hC0:C < 0
     ·
      have mD:=af hC0;refine ko (fun w'=>w'.cell? ⟨b1,off1+k,none⟩=some (.int .i64 C)/\w'.cell? ⟨Y,4,none⟩=some (.slice sa ed.start.length sc)) [0,1,2,3,4,5] 6 [7,8,9] [6,10] 2 (by kernel_rfl) (by kernel_rfl) rfl ⟨FQ,y4⟩ ?_;intro Q' hQ';simp only [pk];refine aD ?_;refine ax ?_;go_wp2_with fail;refine (MU _ C _ hC0).mono ?_;rintro e wq ⟨rfl,rfl⟩;go_wp2;refine ⟨⟨FQ,y4⟩,?_⟩;refine aD ?_;refine ax ?_;refine aB (i:=10) (by kernel_rfl) ?_;simp only [pk];go_wp2;refine ⟨by intros;exact ⟨FQ,y4⟩,?_⟩;refine aJ (ks:=[11]) (fun _ _ hx h=>⟨hx.cell h.1,hx.cell h.2⟩) (by kernel_rfl) ?_;simp only [pk];have hbf:=BX.out.kept.below;have HBF:=af hbf;clear hbf;go_wp2;go_ret2;refine ES ?_ (by decide) (HBF.out.drew);unfold newE;rw [if_neg (by rw [HE.out];decide),if_neg (by rw [H1.out];simp),if_pos];refine List.any_eq_true.2 ⟨C,?_,by simpa using mD.out⟩;have hkl:k < caps.length:=by have:=H1.out;omega
      have e:=Y8.out;rw [List.getElem?_eq_getElem hkl] at e;exact e ▸ List.getElem_mem hkl
     ·
      have U9:0<=C:=by omega
      have hkl:k < caps.length:=by have:=H1.out;omega
      have hCm:C∈caps:=by
       have e:=Y8.out;rw [List.getElem?_eq_getElem hkl] at e;exact e ▸ List.getElem_mem hkl
      have Xn:oK caps k=C:=by
       have e:=Y8.out;unfold oK;rw [List.getElem?_eq_getElem hkl] at e ⊢;exact e
      have hC2:C<=9223372036854775807:=by have:=HFC.out C hCm;unfold Fits at this;omega
      have KV:=af U9;have BB:=af hC2;have HCD:=af Xn;have HKL:=af hkl;clear hC0 U9 hC2 Xn hCm hkl;have tH:=HS.out.edge k hlt;rw [Y7.out] at tH;obtain ⟨⟨a1,a2⟩,⟨a3,a4⟩,-,⟨a5,a6⟩,⟨a7,a8⟩,-,a9⟩:=tH;obtain ⟨f,hf⟩:=Int.eq_ofNat_of_zero_le a1;obtain ⟨fp,hfp⟩:=Int.eq_ofNat_of_zero_le a3;obtain ⟨t,ht⟩:=Int.eq_ofNat_of_zero_le a5;obtain ⟨tp,htp⟩:=Int.eq_ofNat_of_zero_le a7;have hto:=HS.out.Lc hlt;have jA:=HS.out.CV hlt;rw [Y7.out,hf,hfp] at hto;rw [Y7.out,ht,htp] at jA;rw [hf,hfp,Int.toNat_natCast] at a4;rw [ht,htp,Int.toNat_natCast] at a8;rw [hf] at a2;rw [ht] at a6;simp only [Int.toNat_natCast] at hto jA;have SH:=af hto;have tJ:=af jA;have HA2:=af (show f < g.actors.length by omega);have pQ:=af (show t < g.actors.length by omega);have HA4:=af (show fp < (aF g f).length by omega);have Dy:=af (show tp < (ay g t).length by omega);have V4:=af a9;have HF1:=af hf;have Yd:=af hfp;have BP:=af ht;have Qo:=af htp;clear a1 a2 a3 a4 a5 a6 a7 a8 a9 hf hfp ht htp hto jA;refine ko (fun w'=>w'.cell? ⟨b1,off1+k,none⟩=some (.int .i64 C)/\w'.cell? ⟨Y,4,none⟩=some (.slice sa ed.start.length sc)) [0,1,2,3,4,5] 6 [7,8,9] [6,10] 2 (by kernel_rfl) (by kernel_rfl) rfl ⟨FQ,y4⟩ ?_;intro Q' hQ';simp only [pk];refine aD ?_;refine ax ?_;go_wp2_with fail;have zH:=HST.out.below BX.out.kept.below.drew;obtain ⟨hnone,hnews⟩:=cu.news zH;refine (AZ _ C sa sc ed.start KV.out BB.out hnone hnews (by have:=V4.out;omega)).mono ?_;clear zH hnone hnews;rintro e wq ⟨qb,r,rfl,hbq,Xf⟩;have Ie:=(BX.out.turn ((Turn.refl qy (fun _=>False) wy).drew) (fun h=>h) (fun h=>h) (fun _ h=>h.elim));have hYd:=HY.out.turn ((Turn.refl qy (fun _=>False) wy).drew) (fun h=>h);obtain ⟨Tq,hQA⟩:=Dx qy (R+4000+k) hbq Xf V4.out;have Fj:=Ie.turn Tq (fun h=>h) (fun h=>h) (fun _ h=>h.elim);have Zp:=hYd.turn Tq (fun h=>h);have aa2:=cell_later hbq FQ;have y4q:=Zp.cell 4 _ rfl;have Tz:=Turn.of_below (ext qy wy.drew.heap.size (R+4000+k)) (R+6003) (au wq (.cells #[.pointer (some ⟨qb,0,none⟩)] 73));have hZ:=dA (w:=wq) (ext qy wy.drew.heap.size (R+4000+k)) (R+6003) #[.pointer (some ⟨qb,0,none⟩)] 73;have Xi:=af hZ;have Zy:=af (hQA.turn Tz (fun h=>h));have SQ:=af (Zp.turn Tz (fun h=>h));replace Fj:=af (Fj.turn Tz (fun h=>h) (fun h=>h) (fun _ h=>h.elim));generalize ext (ext qy wy.drew.heap.size (R+4000+k)) wq.heap.size (R+6003)=qz at *;have Za:=af aa2;have Zb:=af y4q;clear Tq hQA Zp hYd Ie hZ Tz Xf hbq HY BX FQ y4 aa2 y4q;go_wp2;refine ⟨⟨Za.out,Zb.out⟩,?_⟩;refine aD ?_;refine ax ?_;refine aB (i:=10) (by kernel_rfl) ?_;simp only [pk];go_wp2;refine ⟨by intros;exact ⟨Za.out,Zb.out⟩,?_⟩;refine aJ (ks:=[11]) (fun _ _ hx h=>⟨hx.cell h.1,hx.cell h.2⟩) (by kernel_rfl) ?_;simp only [pk];clear Za Zb;go_wp2_with fail;obtain ⟨wz,hwz⟩:∃ x,wq.alloc (.cells #[.pointer (some ⟨qb,0,none⟩)] 73)=x:=⟨_,rfl⟩;obtain ⟨Z,SI⟩:∃ x,wq.heap.size=x:=⟨_,rfl⟩;rw [hwz] at Xi Zy SQ Fj ⊢;rw [SI] at Xi ⊢;clear hwz SI;have hrb:=Fj.out.half.blk;unfold jC at hrb;have c1:=hrb.cell 1 _ rfl;change wz.cell? _=some v.edges at c1;have z0:=Xi.out.cell 0 _ rfl;have hown:=Fj.out.half.edges;obtain ⟨ea,Zz,RQ⟩:=hown.slice;rw [RQ] at c1;obtain ⟨i0,hi,hz0,hz1,hz2⟩:=info_parts Dv;have HI:=af hi;have Jt:=af RQ;clear hrb hown RQ hi;refine aM (fun w'=>w'.cell? ⟨b,1,none⟩=some (.slice ea k Zz)/\w'.cell? ⟨Z,0,none⟩=some (.pointer (some ⟨qb,0,none⟩))) [0,1,2,3,4,5] [6,7,8,9,10] (by kernel_rfl) (by kernel_rfl) rfl (fun _ _ hx h=>⟨hx.cell h.1,hx.cell h.2⟩) ⟨c1,z0⟩ ?_;intro Q' hQ';simp only [pk];refine aD ?_;refine ax ?_;have hbn:=au wz.drew (.cells #[.pointer (some ⟨qb,0,none⟩)] 73);have T0:Turn qz qz (fun _=>False) wz wz.drew:=(Turn.refl qz _ wz).drew;have Tn:=T0.trans (Turn.of_below qz (R+6003) hbn) (fun _ h=>h);have rW:=af (Fj.out.turn Tn (fun h=>h) (fun h=>h) (fun _ h=>h.elim));have HQn:=af (Zy.out.turn Tn (fun h=>h));have SV:=af (SQ.out.turn Tn (fun h=>h));have HZn:=af (Xi.out.turn Tn (fun h=>h));have e1:=rW.out.half.blk.cell 1 v.edges (by simp [jC]);generalize ext qz wz.drew.heap.size (R+6003)=qn at *;clear hbn T0 Tn Fj Zy SQ Xi c1 z0;go_wp2_with (at_builtin;refine aU ?_);refine dR ?_;refine aS rfl _ _ 50 rfl 0 73 i0 _ 1 8 Tryz.underlying50 HI.out hz0 hz1 hz2 rfl (.slice ea k Zz) k ((List.range k).map fun d=>gG (qs d)) rfl (by have:=rW.out.half.edges.1;rw [Jt.out] at this;exact this) (some ⟨wz.drew.heap.size,0,none⟩) 1 1 [.pointer (some ⟨qb,0,none⟩)] rfl rfl (fun h=>by cases h) (bC wz.drew [.pointer (some ⟨qb,0,none⟩)] 73) (by simp [Value.oneCell']) (by have:=HF.out.2.1;unfold maxLen;omega) (bA (by have:=HF.out.2.1;omega)) (Nat.zero_le _) ?_;intro v7 w7 k1 k20 _ k4;change (wz.drew.alloc (.cells #[.pointer (some ⟨qb,0,none⟩)] 73)).grownBy w7 _ at k20;rw [<- Jt.out] at k20 k4;obtain ⟨T7,O7⟩:=nA rW.out.half.edges k1 k20 k4;obtain ⟨iM,iN,rfl⟩:=O7.slice;have pu:=rW.out.half.blk.turn T7 (by omega);have e0:=pu.cell 1 v.edges (by simp [jC]);have g0:=pu.frozen 1;obtain ⟨hB0,S0⟩:=pu.set 1 (.slice iM (k+1) iN);have hBr:dZ (w7.setCell ⟨b,1,none⟩ (.slice iM (k+1) iN)) (ext qn (wz.drew.alloc (.cells #[.pointer (some ⟨qb,0,none⟩)] 73)).heap.size (R+2)) R b 53 (jC ⟨bN g,none⟩ { v with edges:=.slice iM (k+1) iN }).toArray:=hB0;have TT:=(T7.mono (D:=fun c=>c=R\/c=R+2) (fun c h=>.inr h)).trans (S0.mono (D:=fun c=>c=R\/c=R+2) (fun c h=>.inl h)) (fun _ h=>h);have Zc:=HQn.out.turn TT (by omega);rw [<- HCD.out,<- Sz.out] at Zc;have Ig:=NewAt.mk (rW.out.kept.turn TT (by omega)) (rW.out.graph.turn TT (by omega)) (rW.out.half.Vv hlt TT hBr (O7.turn S0 (by omega)) Zc);have Fh:=SV.out.turn TT (by omega);have hZ8:=HZn.out.turn TT (by omega);obtain ⟨v8,Xo⟩:∃ x,({ v with edges:=.slice iM (k+1) iN }:bO)=x:=⟨_,rfl⟩;rw [Xo] at Ig;have zW:=af Ig;have zL:=af Fh;have HZ8:=af hZ8;generalize ext qn (wz.drew.alloc (.cells #[.pointer (some ⟨qb,0,none⟩)] 73)).heap.size (R+2)=q8 at *;clear hBr TT Zc Ig Fh hZ8 Xo hB0 S0 pu T7 O7 k1 k20 k4 rW HQn SV HZn e1;go_wp2_with fail;obtain ⟨w8,hw8⟩:∃ x,w7.setCell ⟨b,1,none⟩ (.slice iM (k+1) iN)=x:=⟨_,rfl⟩;rw [hw8] at zW zL HZ8 ⊢;clear hw8 e0 g0;have hrb:=zW.out.half.blk;have c0:=hrb.cell 0 v8.tasks (by simp [jC]);have Kq:=zW.out.half.tasks.vals;obtain ⟨ta,tc,oF⟩:=Kq.slice;simp only [List.length_map,List.length_range] at oF;rw [oF] at c0 Kq;obtain ⟨tg,uN,rfl,-,htc,-,-,hcells⟩:=Kq.at (by have:=HA2.out;simp;omega);have tf:w8.cell? ⟨tg,uN+f,none⟩=some (.pointer (some ⟨v8.tb f,0,none⟩)):=by
       rw [hcells f (by have:=HA2.out;simp;omega)];simp [HA2.out,gG]
      have tt:w8.cell? ⟨tg,uN+t,none⟩=some (.pointer (some ⟨v8.tb t,0,none⟩)):=by
       rw [hcells t (by have:=pQ.out;simp;omega)];simp [pQ.out,gG]
      have hTf:=zW.out.half.task f HA2.out;have OC:=zW.out.half.task t pQ.out;obtain ⟨gd,hgd,hD⟩:=hTf.dst;obtain ⟨gs,hgs,hS⟩:=OC.src;have d2:=hTf.blk.cell 2 (v8.tv f).dst (by simp [iX]);have d1:=OC.blk.cell 1 (v8.tv t).src (by simp [iX]);rw [hgd] at d2;rw [hgs] at d1;have y0:=zL.out.cell 0 _ rfl;have y1:=zL.out.cell 1 _ rfl;have y2:=zL.out.cell 2 _ rfl;have y3:=zL.out.cell 3 _ rfl;change w8.cell? _=some (.int .i64 ed.src) at y0;change w8.cell? _=some (.int .i64 ed.dw) at y1;change w8.cell? _=some (.int .i64 ed.dst) at y2;change w8.cell? _=some (.int .i64 ed.dx) at y3;rw [HF1.out] at y0;rw [Yd.out] at y1;rw [BP.out] at y2;rw [Qo.out] at y3;have z0:=HZ8.out.cell 0 _ rfl;change w8.cell? _=some (.pointer (some ⟨qb,0,none⟩)) at z0;have Ie:=af (zW.out.turn ((Turn.refl q8 (fun _=>False) w8).drew) (fun h=>h) (fun h=>h) (fun _ h=>h.elim));obtain ⟨L1,S1⟩:=Ie.out.half.A9 (t:=f) (p:=fp) (gd:=gd) HA2.out SH.out (by omega) hgd;have hdv:sP (upd qs k qb) g f fp=.iface 73 (.agg #[.pointer (some ⟨qb,0,none⟩)]):=by
       unfold sP;rw [SH.out,if_pos hlt,upd_same]
      have hsv:vG (upd qs k qb) g t tp=.iface 73 (.agg #[.pointer (some ⟨qb,0,none⟩)]):=by
       unfold vG;rw [tJ.out,upd_same]
      rw [hdv] at L1 S1;obtain ⟨L2,S2⟩:=L1.sU (t:=t) (q:=tp) (gs:=gs) pQ.out tJ.out (by omega) hgs;rw [hsv] at L2 S2;have hLf:=HF.out.1;have hff:=HA2.out;have Wz:=pQ.out;have tF:=af (NewAt.mk ((Ie.out.kept.turn S1 (by omega)).turn S2 (by omega)) ((Ie.out.graph.turn S1 (by omega)).turn S2 (by omega)) L2);obtain ⟨x0,hx0⟩:∃ x,(toS (upd qs k qb) g f k)[fp]?=some x:=⟨_,List.getElem?_eq_getElem (by rw [Eu];exact HA4.out)⟩;have u0:=hD.cell fp x0 (by simpa using hx0);have g0:=hD.frozen fp;obtain ⟨gs2,e2,hS2⟩:=(L1.task t pQ.out).src;rw [hgs] at e2;cases e2
      obtain ⟨x1,hx1⟩:∃ x,(iT (upd qs k qb) g t k)[tp]?=some x:=⟨_,List.getElem?_eq_getElem (by rw [xZ];exact Dy.out)⟩;have u1:=hS2.cell tp x1 (by simpa using hx1);have g1:=hS2.frozen tp;change (w8.setCell ⟨gd,fp,none⟩ (.iface 73 (.agg #[.pointer (some ⟨qb,0,none⟩)]))).cell? _=_ at u1;change (w8.setCell ⟨gd,fp,none⟩ (.iface 73 (.agg #[.pointer (some ⟨qb,0,none⟩)]))).frozen? _=_ at g1;have hpos:∀ c∈caps.take (k+1),0<=c:=by
       intro c hc;obtain ⟨i,hi,rfl⟩:=List.mem_take_iff_getElem.1 hc
       by_cases hik:i < k
       ·
        exact Ko.out _ (List.mem_take_iff_getElem.2 ⟨i,by omega,rfl⟩)
       ·
        obtain rfl:i=k:=by omega
        have e:=Y8.out;rw [List.getElem?_eq_getElem HKL.out] at e;have e':C=caps[i]:=e.symm;exact e' ▸ KV.out
      have RS:=af hpos;obtain ⟨bf,hbf⟩:∃ x,v8.tb f=x:=⟨_,rfl⟩;obtain ⟨bt,hbt⟩:∃ x,v8.tb t=x:=⟨_,rfl⟩;obtain ⟨nf,hnf⟩:∃ x,(aF g f).length=x:=⟨_,rfl⟩;obtain ⟨nt,hnt⟩:∃ x,(ay g t).length=x:=⟨_,rfl⟩;rw [hbf] at tf d2;rw [hbt] at tt d1;rw [hnf] at d2;rw [hnt] at d1;have q1:(fp:Int) < nf:=by have:=HA4.out;omega
      have q2:(tp:Int) < nt:=by have:=Dy.out;omega
      have q3:(f:Int) < g.actors.length:=by omega
      have q4:(t:Int) < g.actors.length:=by omega
      have q5:(g.actors.length:Int)<=tc:=by omega
      have GN:=HF.out.2.1;have hTg:q8 tg=R+1:=by
       obtain ⟨_,_,e,-,-,-,ho,-⟩:=Kq.at (by simp;omega);have:=Option.some.inj e;cases this
       exact ho
      have s31:(w8.drew.setCell ⟨gd,fp,none⟩ (.iface 73 (.agg #[.pointer (some ⟨qb,0,none⟩)]))).cell? ⟨b,0,none⟩=some (.slice (some ⟨tg,uN,none⟩) g.actors.length tc)/\(w8.drew.setCell ⟨gd,fp,none⟩ (.iface 73 (.agg #[.pointer (some ⟨qb,0,none⟩)]))).cell? ⟨tg,uN+f,none⟩=some (.pointer (some ⟨bf,0,none⟩))/\(w8.drew.setCell ⟨gd,fp,none⟩ (.iface 73 (.agg #[.pointer (some ⟨qb,0,none⟩)]))).cell? ⟨bf,2,none⟩=some (.slice (some ⟨gd,0,none⟩) nf nf)/\(w8.drew.setCell ⟨gd,fp,none⟩ (.iface 73 (.agg #[.pointer (some ⟨qb,0,none⟩)]))).cell? ⟨Y,0,none⟩=some (.int .i64 (f:Int))/\(w8.drew.setCell ⟨gd,fp,none⟩ (.iface 73 (.agg #[.pointer (some ⟨qb,0,none⟩)]))).cell? ⟨Y,1,none⟩=some (.int .i64 (fp:Int))/\(w8.drew.setCell ⟨gd,fp,none⟩ (.iface 73 (.agg #[.pointer (some ⟨qb,0,none⟩)]))).cell? ⟨tg,uN+t,none⟩=some (.pointer (some ⟨bt,0,none⟩))/\(w8.drew.setCell ⟨gd,fp,none⟩ (.iface 73 (.agg #[.pointer (some ⟨qb,0,none⟩)]))).cell? ⟨bt,1,none⟩=some (.slice (some ⟨gs,0,none⟩) nt nt)/\(w8.drew.setCell ⟨gd,fp,none⟩ (.iface 73 (.agg #[.pointer (some ⟨qb,0,none⟩)]))).cell? ⟨Y,2,none⟩=some (.int .i64 (t:Int))/\(w8.drew.setCell ⟨gd,fp,none⟩ (.iface 73 (.agg #[.pointer (some ⟨qb,0,none⟩)]))).cell? ⟨Y,3,none⟩=some (.int .i64 (tp:Int))/\(w8.drew.setCell ⟨gd,fp,none⟩ (.iface 73 (.agg #[.pointer (some ⟨qb,0,none⟩)]))).cell? ⟨Z,0,none⟩=some (.pointer (some ⟨qb,0,none⟩)):=by
       have kb:=hrb.2;have kY:=zL.out.2;have kZ:=HZ8.out.2;have kf:=hTf.blk.2;have kt:=OC.blk.2;rw [hbf] at kf;rw [hbt] at kt;exact ⟨S1.cell c0 (by show ¬ (q8 b=_);omega),S1.cell tf (by show ¬ (q8 tg=_);omega),S1.cell d2 (by show ¬ (q8 bf=_);omega),S1.cell y0 (by show ¬ (q8 Y=_);omega),S1.cell y1 (by show ¬ (q8 Y=_);omega),S1.cell tt (by show ¬ (q8 tg=_);omega),S1.cell d1 (by show ¬ (q8 bt=_);omega),S1.cell y2 (by show ¬ (q8 Y=_);omega),S1.cell y3 (by show ¬ (q8 Y=_);omega),S1.cell z0 (by show ¬ (q8 Z=_);omega)⟩
      have abO:=af s31;clear s31 hTg hrb Kq oF htc hcells hTf OC hgd hD hgs hS hdv hsv L1 S1 L2 S2 hS2 hx0 hx1 hpos hbf hbt hnf hnt hff Wz Ie zW zL HZ8;refine jF (fun w'=>w'.cell? ⟨b,0,none⟩=some (.slice (some ⟨tg,uN,none⟩) g.actors.length tc)/\w'.cell? ⟨tg,uN+f,none⟩=some (.pointer (some ⟨bf,0,none⟩))/\w'.cell? ⟨bf,2,none⟩=some (.slice (some ⟨gd,0,none⟩) nf nf)/\w'.cell? ⟨Y,0,none⟩=some (.int .i64 (f:Int))/\w'.cell? ⟨Y,1,none⟩=some (.int .i64 (fp:Int))/\w'.cell? ⟨tg,uN+t,none⟩=some (.pointer (some ⟨bt,0,none⟩))/\w'.cell? ⟨bt,1,none⟩=some (.slice (some ⟨gs,0,none⟩) nt nt)/\w'.cell? ⟨Y,2,none⟩=some (.int .i64 (t:Int))/\w'.cell? ⟨Y,3,none⟩=some (.int .i64 (tp:Int))/\w'.cell? ⟨Z,0,none⟩=some (.pointer (some ⟨qb,0,none⟩)))
       [0,1,2,3,4,5,6,7,8,9,10,11,12,13,14,15,16,17,18,19,20,21,22,23,24,25,26,27,28,29,30] [] 31 [32,33] (by kernel_rfl) (by kernel_rfl) (by kernel_rfl) rfl (fun _ _ hx h=>⟨hx.cell h.1,hx.cell h.2.1,hx.cell h.2.2.1,hx.cell h.2.2.2.1,hx.cell h.2.2.2.2.1,hx.cell h.2.2.2.2.2.1,hx.cell h.2.2.2.2.2.2.1,hx.cell h.2.2.2.2.2.2.2.1,hx.cell h.2.2.2.2.2.2.2.2.1,hx.cell h.2.2.2.2.2.2.2.2.2⟩) ⟨c0,tf,d2,y0,y1,tt,d1,y2,y3,z0⟩ ?_
      intro Q' hQ';simp only [pk];refine aD ?_;refine ax ?_;clear c0 tf d2 y0 y1 tt d1 y2 y3 z0;go_wp2;refine ⟨abO.out,?_⟩;go_wp2;go_roundw
      case rel=>exact ⟨k+1,_,_,_,hlt,by go_num,tF.out,RS.out⟩
      case measure=>simp [intOf];omega
    ·
     obtain rfl:k=g.edges.length:=by omega
     have bX:¬ ((g.edges.length:Int) < g.edges.length):=by omega
     have x3:=HN.out.graph.cell 3 _ rfl;have Ih:∀ c∈caps,0<=c:=by
      intro c hc;refine Ko.out c ?_;rw [<- H1.out,List.take_length];exact hc
     have HCP:=af Ih;clear hk hlt Ih Ko;go_wp2_with fail
     go_loopw [169] (fun i wz=>∃ (k:Nat) (q:Col) (qs:bR) (v:bO),k<=g.ins.length/\i=.int .i64 k/\NewAt w wz q R b w.heap.size g caps qs g.actors.length g.edges.length k 0 (g.edges.length+k) (g.edges.length+k) v #[.string g.name,.slice aa g.actors.length ac,.slice ae g.edges.length ec,.slice ai g.ins.length ic,.slice ao g.outs.length oc]) (fun i _=>g.ins.length - (intOf i).toNat)
     case atStart=>exact ⟨0,_,_,v,Nat.zero_le _,rfl,HN.out⟩
     case round =>
      clear HN x3;obtain ⟨k,q,qs,v,hk,rfl,hN⟩:=hrel;have HN:=af hN;clear hN
      by_cases hlt:k < g.ins.length
      ·
       have bX:(k:Int) < g.ins.length:=by omega
       obtain ⟨b0,off,rfl,hcap,hb0,hrec⟩:=qE.out.at (by omega);obtain ⟨cs,hcs,mY,hcl⟩:=hrec k hlt;obtain rfl:=mY;have c0:=cell_later HN.out.kept.below (hcl 0 (by omega));have c1:=cell_later HN.out.kept.below (hcl 1 (by omega));have c2:=cell_later HN.out.kept.below (hcl 2 (by omega));simp at c0 c1 c2;have fu:(g.ins.length:Int)<=ic:=by omega
       obtain ⟨pt,hpt⟩:∃ x,g.ins[k]=x:=⟨_,rfl⟩;have RU:=af hpt;rw [hpt] at c0 c1 c2;clear hrec hcl hcs hb0 hcap hpt;have tH:=HS.out.ins k hlt;rw [RU.out] at tH;obtain ⟨⟨a5,a6⟩,⟨a7,a8⟩,-⟩:=tH;obtain ⟨t,ht⟩:=Int.eq_ofNat_of_zero_le a5;obtain ⟨tp,htp⟩:=Int.eq_ofNat_of_zero_le a7;have jA:=HS.out.Ld hlt;rw [RU.out,ht,htp] at jA;rw [ht,htp,Int.toNat_natCast] at a8;rw [ht] at a6;simp only [Int.toNat_natCast] at jA;have tJ:=af jA;have pQ:=af (show t < g.actors.length by omega);have Dy:=af (show tp < (ay g t).length by omega);have BP:=af ht;have Qo:=af htp;clear a5 a6 a7 a8 ht htp jA;have hby:=au wr (.cells #[.string pt.name,.int .i64 pt.aW,.int .i64 pt.port] 79);have Ty:=Turn.of_below q (R+6002) hby
       have HY:=af (dA (w:=wr) q (R+6002) #[.string pt.name,.int .i64 pt.aW,.int .i64 pt.port] 79);have BX:=af (HN.out.turn Ty (fun h=>h) (fun h=>h) (fun _ h=>h.elim));generalize ext q wr.heap.size (R+6002)=qy at *;clear Ty hby
       go_wp2_with fail;obtain ⟨wy,vE⟩:∃ x,wr.alloc (.cells #[.string pt.name,.int .i64 pt.aW,.int .i64 pt.port] 79)=x:=⟨_,rfl⟩;obtain ⟨Y,uJ⟩:∃ x,wr.heap.size=x:=⟨_,rfl⟩;rw [vE] at HY BX ⊢;rw [uJ] at HY ⊢;clear vE uJ HN c0 c1 c2;refine (AZ wy 9223372036854775807 none 0 [] (by decide) (by decide) (fun _=>rfl) (fun _ h=>by cases h) (by decide)).mono ?_;rintro e wq ⟨qb,r,rfl,hbq,Xf⟩;obtain ⟨Tq,hQA⟩:=Dx qy (R+4000+(g.edges.length+k)) hbq Xf (by decide);have Zy:=af hQA;have SQ:=af (HY.out.turn Tq (fun h=>h));have Fj:=af (BX.out.turn Tq (fun h=>h) (fun h=>h) (fun _ h=>h.elim));generalize ext qy wy.heap.size (R+4000+(g.edges.length+k))=qz at *;have hrb:=Fj.out.half.blk;unfold jC at hrb;have c1:=hrb.cell 2 _ rfl;change wq.cell? _=some v.inputs at c1;have hown:=Fj.out.half.inputs;obtain ⟨ea,Zz,RQ⟩:=hown.slice;rw [RQ] at c1;obtain ⟨i0,hi,hz0,hz1,hz2⟩:=info_parts Dv;have HI:=af hi;have Jt:=af RQ;clear Tq hQA Xf hbq HY BX hrb hown RQ hi;have hbn:=au wq (.cells #[.pointer (some ⟨qb,0,none⟩)] 73);have Tn:=Turn.of_below qz (R+6003) hbn;have rW:=af (Fj.out.turn Tn (fun h=>h) (fun h=>h) (fun _ h=>h.elim));have HQn:=af (Zy.out.turn Tn (fun h=>h));have SV:=af (SQ.out.turn Tn (fun h=>h));have e1:=rW.out.half.blk.cell 2 v.inputs (by simp [jC]);generalize ext qz wq.heap.size (R+6003)=qn at *;clear hbn Tn Fj Zy SQ;go_wp2_with (at_builtin;refine aU ?_);refine dR ?_;refine aS rfl _ _ 50 rfl 0 73 i0 _ 1 8 Tryz.underlying50 HI.out hz0 hz1 hz2 rfl (.slice ea k Zz) k ((List.range k).map fun d=>gG (qs (g.edges.length+d))) rfl (by have:=rW.out.half.inputs.1;rw [Jt.out] at this;exact this) (some ⟨wq.heap.size,0,none⟩) 1 1 [.pointer (some ⟨qb,0,none⟩)] rfl rfl (fun h=>by cases h) (bC wq [.pointer (some ⟨qb,0,none⟩)] 73) (by simp [Value.oneCell']) (by have:=HF.out.2.2.1;unfold maxLen;omega) (bA (by have:=HF.out.2.2.1;omega)) (Nat.zero_le _) ?_;intro v7 w7 k1 k20 _ k4;rw [<- Jt.out] at k20 k4;obtain ⟨T7,O7⟩:=nA rW.out.half.inputs k1 k20 k4;obtain ⟨iM,iN,rfl⟩:=O7.slice;have pu:=rW.out.half.blk.turn T7 (by omega);have e0:=pu.cell 2 v.inputs (by simp [jC]);have g0:=pu.frozen 2;obtain ⟨hB0,S0⟩:=pu.set 2 (.slice iM (k+1) iN);have hBr:dZ (w7.setCell ⟨b,2,none⟩ (.slice iM (k+1) iN)) (ext qn (wq.alloc (.cells #[.pointer (some ⟨qb,0,none⟩)] 73)).heap.size (R+3)) R b 53 (jC ⟨bN g,none⟩ { v with inputs:=.slice iM (k+1) iN }).toArray:=hB0;have TT:=(T7.mono (D:=fun c=>c=R\/c=R+3) (fun c h=>.inr h)).trans (S0.mono (D:=fun c=>c=R\/c=R+3) (fun c h=>.inl h)) (fun _ h=>h);have Zc:=HQn.out.turn TT (by omega);have hcD:oK caps (g.edges.length+k)=9223372036854775807:=by
        unfold oK;rw [List.getElem?_eq_none (by have:=H1.out;omega)];rfl
       rw [<- hcD] at Zc;have Ig:=NewAt.mk (rW.out.kept.turn TT (by omega)) (rW.out.graph.turn TT (by omega)) (rW.out.half.QW hlt TT hBr (O7.turn S0 (by omega)) Zc);have Fh:=SV.out.turn TT (by omega);obtain ⟨v8,Xo⟩:∃ x,({ v with inputs:=.slice iM (k+1) iN }:bO)=x:=⟨_,rfl⟩;rw [Xo] at Ig;have zW:=af Ig;have zL:=af Fh;generalize ext qn (wq.alloc (.cells #[.pointer (some ⟨qb,0,none⟩)] 73)).heap.size (R+3)=q8 at *;clear hBr TT Zc Ig Fh Xo hB0 S0 pu T7 O7 k1 k20 k4 rW HQn SV e1 hcD c1;go_wp2_with fail;obtain ⟨w8,hw8⟩:∃ x,w7.setCell ⟨b,2,none⟩ (.slice iM (k+1) iN)=x:=⟨_,rfl⟩;rw [hw8] at zW zL ⊢;clear hw8 e0 g0;have hrb:=zW.out.half.blk;have c0:=hrb.cell 0 v8.tasks (by simp [jC]);have Kq:=zW.out.half.tasks.vals;obtain ⟨ta,tc,oF⟩:=Kq.slice;simp only [List.length_map,List.length_range] at oF;rw [oF] at c0 Kq;obtain ⟨tg,uN,rfl,-,htc,-,-,hcells⟩:=Kq.at (by have:=pQ.out;simp;omega);have tt:w8.cell? ⟨tg,uN+t,none⟩=some (.pointer (some ⟨v8.tb t,0,none⟩)):=by
        rw [hcells t (by have:=pQ.out;simp;omega)];simp [pQ.out,gG]
       have OC:=zW.out.half.task t pQ.out;obtain ⟨gs,hgs,hS⟩:=OC.src;have d1:=OC.blk.cell 1 (v8.tv t).src (by simp [iX]);rw [hgs] at d1;have y2:=zL.out.cell 1 _ rfl;have y3:=zL.out.cell 2 _ rfl;change w8.cell? _=some (.int .i64 pt.aW) at y2;change w8.cell? _=some (.int .i64 pt.port) at y3;rw [BP.out] at y2;rw [Qo.out] at y3;have Ie:=af (zW.out.turn ((Turn.refl q8 (fun _=>False) w8).drew) (fun h=>h) (fun h=>h) (fun _ h=>h.elim));have hsv:vG (upd qs (g.edges.length+k) qb) g t tp=.iface 73 (.agg #[.pointer (some ⟨qb,0,none⟩)]):=by
        unfold vG;rw [tJ.out,upd_same]
       obtain ⟨L2,S2⟩:=Ie.out.half.sU (t:=t) (q:=tp) (gs:=gs) pQ.out tJ.out (by omega) hgs;rw [hsv] at L2 S2;have hLf:=HF.out.1;have Wz:=pQ.out;have tF:=af (NewAt.mk (Ie.out.kept.turn S2 (by omega)) (Ie.out.graph.turn S2 (by omega)) (L2.pass (n:=k) (m:=k+1) HS.out (by omega) (by omega)));obtain ⟨x1,hx1⟩:∃ x,(iT (upd qs (g.edges.length+k) qb) g t (g.edges.length+k))[tp]?=some x:=⟨_,List.getElem?_eq_getElem (by rw [xZ];exact Dy.out)⟩;have u1:=hS.cell tp x1 (by simpa using hx1);have g1:=hS.frozen tp;obtain ⟨bt,hbt⟩:∃ x,v8.tb t=x:=⟨_,rfl⟩;obtain ⟨nt,hnt⟩:∃ x,(ay g t).length=x:=⟨_,rfl⟩;rw [hbt] at tt d1;rw [hnt] at d1;have q2:(tp:Int) < nt:=by have:=Dy.out;omega
       have q4:(t:Int) < g.actors.length:=by omega
       have q5:(g.actors.length:Int)<=tc:=by omega
       have GN:=HF.out.2.2.1;clear hrb Kq oF htc hcells OC hgs hS hsv L2 S2 hx1 hbt hnt Wz Ie zW zL;refine aM (fun w'=>w'.cell? ⟨b,0,none⟩=some (.slice (some ⟨tg,uN,none⟩) g.actors.length tc)/\w'.cell? ⟨tg,uN+t,none⟩=some (.pointer (some ⟨bt,0,none⟩))/\w'.cell? ⟨bt,1,none⟩=some (.slice (some ⟨gs,0,none⟩) nt nt)/\w'.cell? ⟨Y,1,none⟩=some (.int .i64 (t:Int))/\w'.cell? ⟨Y,2,none⟩=some (.int .i64 (tp:Int)))
        [0,1,2,3,4,5,6,7,8,9,10,11,12,13,14,15] [16,17] (by kernel_rfl) (by kernel_rfl) rfl (fun _ _ hx h=>⟨hx.cell h.1,hx.cell h.2.1,hx.cell h.2.2.1,hx.cell h.2.2.2.1,hx.cell h.2.2.2.2⟩) ⟨c0,tt,d1,y2,y3⟩ ?_
       intro Q' hQ';simp only [pk];refine aD ?_;refine ax ?_;clear c0 tt d1 y2 y3;go_wp2;go_roundw
       case rel=>exact ⟨k+1,_,_,_,hlt,by go_num,tF.out⟩
       case measure=>simp [intOf];omega
      ·
       obtain rfl:k=g.ins.length:=by omega
       have bX:¬ ((g.ins.length:Int) < g.ins.length):=by omega
       have x4:=HN.out.graph.cell 4 _ rfl;clear hk hlt;go_wp2_with fail
       go_loopw [209] (fun i wz=>∃ (k:Nat) (q:Col) (qs:bR) (v:bO),k<=g.outs.length/\i=.int .i64 k/\NewAt w wz q R b w.heap.size g caps qs g.actors.length g.edges.length g.ins.length k (g.edges.length+g.ins.length) (g.edges.length+g.ins.length+k) v #[.string g.name,.slice aa g.actors.length ac,.slice ae g.edges.length ec,.slice ai g.ins.length ic,.slice ao g.outs.length oc]) (fun i _=>g.outs.length - (intOf i).toNat)
       case atStart=>exact ⟨0,_,_,v,Nat.zero_le _,rfl,HN.out⟩
       case round =>
        clear HN x4;obtain ⟨k,q,qs,v,hk,rfl,hN⟩:=hrel;have HN:=af hN;clear hN
        by_cases hlt:k < g.outs.length
        ·
         have bX:(k:Int) < g.outs.length:=by omega
         obtain ⟨b0,off,rfl,hcap,hb0,hrec⟩:=sI.out.at (by omega);obtain ⟨cs,hcs,mY,hcl⟩:=hrec k hlt;obtain rfl:=mY;have c0:=cell_later HN.out.kept.below (hcl 0 (by omega));have c1:=cell_later HN.out.kept.below (hcl 1 (by omega));have c2:=cell_later HN.out.kept.below (hcl 2 (by omega));simp at c0 c1 c2;have fu:(g.outs.length:Int)<=oc:=by omega
         obtain ⟨pt,hpt⟩:∃ x,g.outs[k]=x:=⟨_,rfl⟩;have RU:=af hpt;rw [hpt] at c0 c1 c2;clear hrec hcl hcs hb0 hcap hpt;have tH:=HS.out.outs k hlt;rw [RU.out] at tH;obtain ⟨⟨a5,a6⟩,⟨a7,a8⟩,-⟩:=tH;obtain ⟨t,ht⟩:=Int.eq_ofNat_of_zero_le a5;obtain ⟨tp,htp⟩:=Int.eq_ofNat_of_zero_le a7;have hto:=HS.out.QA hlt;rw [RU.out,ht,htp] at hto;rw [ht,htp,Int.toNat_natCast] at a8;rw [ht] at a6;simp only [Int.toNat_natCast] at hto;have SH:=af hto;have pQ:=af (show t < g.actors.length by omega);have Dy:=af (show tp < (aF g t).length by omega);have BP:=af ht;have Qo:=af htp;clear a5 a6 a7 a8 ht htp hto;have hby:=au wr (.cells #[.string pt.name,.int .i64 pt.aW,.int .i64 pt.port] 79);have Ty:=Turn.of_below q (R+6002) hby
         have hY:=dA (w:=wr) q (R+6002) #[.string pt.name,.int .i64 pt.aW,.int .i64 pt.port] 79;have hNy:=HN.out.turn Ty (fun h=>h) (fun h=>h) (fun _ h=>h.elim);generalize ext q wr.heap.size (R+6002)=qy at *;obtain ⟨Y,uJ⟩:∃ x,wr.heap.size=x:=⟨_,rfl⟩;have hsz:(wr.alloc (.cells #[.string pt.name,.int .i64 pt.aW,.int .i64 pt.port] 79)).heap.size=Y+1:=by rw [World.size_alloc,uJ]
         rw [uJ] at hY;have hYE:=af uJ;obtain ⟨wy,vE⟩:∃ x,wr.alloc (.cells #[.string pt.name,.int .i64 pt.aW,.int .i64 pt.port] 79)=x:=⟨_,rfl⟩;rw [vE] at hY hNy hsz;have Tt:=Turn.of_below qy (R+4000+(g.edges.length+g.ins.length+k)) (au wy (.cells #[.slice none 0 0] 82));have hT:=dA (w:=wy) qy (R+4000+(g.edges.length+g.ins.length+k)) #[.slice none 0 0] 82;rw [hsz] at hT Tt;have HTq:=af hT;have SQ:=af (hY.turn Tt (fun h=>h));have Fj:=af (hNy.turn Tt (fun h=>h) (fun h=>h) (fun _ h=>h.elim));rw [<- vE] at HTq SQ Fj;generalize ext qy (Y+1) (R+4000+(g.edges.length+g.ins.length+k))=qz at *;have hrb:=Fj.out.half.blk;unfold jC at hrb;have c3:=hrb.cell 3 _ rfl;change World.cell? _ _=some v.tapes at c3;have hown:=Fj.out.half.tapes;obtain ⟨ea,Zz,RQ⟩:=hown.slice;rw [RQ] at c3;obtain ⟨i0,hi,hz0,hz1,hz2⟩:=info_parts Kl;have HI:=af hi;have Jt:=af RQ;clear Ty Tt hT hY hNy hsz hby hrb hown RQ hi vE HN;have hbn:=au ((wr.alloc (.cells #[.string pt.name,.int .i64 pt.aW,.int .i64 pt.port] 79)).alloc (.cells #[.slice none 0 0] 82)) (.cells #[.pointer (some ⟨Y+1,0,none⟩)] 80);have Tn:=Turn.of_below qz (R+6003) hbn;have rW:=af (Fj.out.turn Tn (fun h=>h) (fun h=>h) (fun _ h=>h.elim));have HTn:=af (HTq.out.turn Tn (fun h=>h));have SV:=af (SQ.out.turn Tn (fun h=>h));have e1:=rW.out.half.blk.cell 3 v.tapes (by simp [jC]);generalize ext qz _ (R+6003)=qn at *;clear hbn Tn Fj HTq SQ;subst uJ;go_wp2_with (at_builtin;refine aU ?_);refine dR ?_;obtain ⟨wt,hwt⟩:∃ x,(wr.alloc (.cells #[.string pt.name,.int .i64 pt.aW,.int .i64 pt.port] 79)).alloc (.cells #[.slice none 0 0] 82)=x:=⟨_,rfl⟩;have hts:wt.heap.size=wr.heap.size+2:=by rw [<- hwt];simp
         have hna:=oW (w:=wt) (n:=wr.heap.size+2) hts.symm [.pointer (some ⟨wr.heap.size+1,0,none⟩)] 80;obtain ⟨Y,uJ⟩:∃ x,wr.heap.size=x:=⟨_,rfl⟩;rw [hwt] at rW HTn SV c3 e1 ⊢;rw [uJ] at rW HTn SV e1 hna hts ⊢;clear hwt uJ c3 c0 c1 c2;refine aS rfl _ _ 51 rfl 0 80 i0 _ 1 8 Tryz.underlying51 HI.out hz0 hz1 hz2 rfl (.slice ea k Zz) k ((List.range k).map fun d=>gG (qs (g.edges.length+g.ins.length+d))) rfl (by have:=rW.out.half.tapes.1;rw [Jt.out] at this;exact this) (some ⟨Y+2,0,none⟩) 1 1 [.pointer (some ⟨Y+1,0,none⟩)] rfl rfl (fun h=>by cases h) hna (by simp [Value.oneCell']) (by have:=HF.out.2.2.2;unfold maxLen;omega) (bA (by have:=HF.out.2.2.2;omega)) (Nat.zero_le _) ?_;intro v7 w7 k1 k20 _ k4;rw [<- Jt.out] at k20 k4;obtain ⟨T7,O7⟩:=nA rW.out.half.tapes k1 k20 k4;obtain ⟨iM,iN,rfl⟩:=O7.slice;have pu:=rW.out.half.blk.turn T7 (by omega);have e0:=pu.cell 3 v.tapes (by simp [jC]);have g0:=pu.frozen 3;obtain ⟨hB0,S0⟩:=pu.set 3 (.slice iM (k+1) iN);have hBr:dZ (w7.setCell ⟨b,3,none⟩ (.slice iM (k+1) iN)) (ext qn (wt.alloc (.cells #[.pointer (some ⟨Y+1,0,none⟩)] 80)).heap.size (R+4)) R b 53 (jC ⟨bN g,none⟩ { v with tapes:=.slice iM (k+1) iN }).toArray:=hB0;have TT:=(T7.mono (D:=fun c=>c=R\/c=R+4) (fun c h=>.inr h)).trans (S0.mono (D:=fun c=>c=R\/c=R+4) (fun c h=>.inl h)) (fun _ h=>h);have Ig:=NewAt.mk (rW.out.kept.turn TT (by omega)) (rW.out.graph.turn TT (by omega)) (rW.out.half.Vw hlt TT hBr (O7.turn S0 (by omega)) (HTn.out.turn TT (by omega)));have Fh:=SV.out.turn TT (by omega);obtain ⟨v8,Xo⟩:∃ x,({ v with tapes:=.slice iM (k+1) iN,rows:=upd v.rows (g.edges.length+g.ins.length+k) (.slice none 0 0) }:bO)=x:=⟨_,rfl⟩;rw [Xo] at Ig;have zW:=af Ig;have zL:=af Fh;generalize ext qn (wt.alloc (.cells #[.pointer (some ⟨Y+1,0,none⟩)] 80)).heap.size (R+4)=q8 at *;clear hBr TT Ig Fh Xo hB0 S0 pu T7 O7 k1 k20 k4 rW HTn SV e1 hna hts;go_wp2_with fail;obtain ⟨w8,hw8⟩:∃ x,w7.setCell ⟨b,3,none⟩ (.slice iM (k+1) iN)=x:=⟨_,rfl⟩;rw [hw8] at zW zL ⊢;clear hw8 e0 g0;have hrb:=zW.out.half.blk;have c0:=hrb.cell 0 v8.tasks (by simp [jC]);have Kq:=zW.out.half.tasks.vals;obtain ⟨ta,tc,oF⟩:=Kq.slice;simp only [List.length_map,List.length_range] at oF;rw [oF] at c0 Kq;obtain ⟨tg,uN,rfl,-,htc,-,-,hcells⟩:=Kq.at (by have:=pQ.out;simp;omega);have tt:w8.cell? ⟨tg,uN+t,none⟩=some (.pointer (some ⟨v8.tb t,0,none⟩)):=by
          rw [hcells t (by have:=pQ.out;simp;omega)];simp [pQ.out,gG]
         have OC:=zW.out.half.task t pQ.out;obtain ⟨gs,hgs,hS⟩:=OC.dst;have d1:=OC.blk.cell 2 (v8.tv t).dst (by simp [iX]);rw [hgs] at d1;have y2:=zL.out.cell 1 _ rfl;have y3:=zL.out.cell 2 _ rfl;change w8.cell? _=some (.int .i64 pt.aW) at y2;change w8.cell? _=some (.int .i64 pt.port) at y3;rw [BP.out] at y2;rw [Qo.out] at y3;have Ie:=af (zW.out.turn ((Turn.refl q8 (fun _=>False) w8).drew) (fun h=>h) (fun h=>h) (fun _ h=>h.elim));have hsv:sP (upd qs (g.edges.length+g.ins.length+k) (Y+1)) g t tp=.iface 80 (.pointer (some ⟨Y+1,0,none⟩)):=by
          unfold sP;rw [SH.out,if_neg (by omega),upd_same]
         obtain ⟨L2,S2⟩:=Ie.out.half.A9 (t:=t) (p:=tp) (gd:=gs) pQ.out SH.out (by omega) hgs;rw [hsv] at L2 S2;have hLf:=HF.out.1;have Wz:=pQ.out;have tF:=af (NewAt.mk (Ie.out.kept.turn S2 (by omega)) (Ie.out.graph.turn S2 (by omega)) L2);obtain ⟨x1,hx1⟩:∃ x,(toS (upd qs (g.edges.length+g.ins.length+k) (Y+1)) g t (g.edges.length+g.ins.length+k))[tp]?=some x:=⟨_,List.getElem?_eq_getElem (by rw [Eu];exact Dy.out)⟩;have u1:=hS.cell tp x1 (by simpa using hx1);have g1:=hS.frozen tp;obtain ⟨bt,hbt⟩:∃ x,v8.tb t=x:=⟨_,rfl⟩;obtain ⟨nt,hnt⟩:∃ x,(aF g t).length=x:=⟨_,rfl⟩;rw [hbt] at tt d1;rw [hnt] at d1;have q2:(tp:Int) < nt:=by have:=Dy.out;omega
         have q4:(t:Int) < g.actors.length:=by omega
         have q5:(g.actors.length:Int)<=tc:=by omega
         have GN:=HF.out.2.2.2;clear hrb Kq oF htc hcells OC hgs hS hsv L2 S2 hx1 hbt hnt Wz Ie zW zL;refine aM (fun w'=>w'.cell? ⟨b,0,none⟩=some (.slice (some ⟨tg,uN,none⟩) g.actors.length tc)/\w'.cell? ⟨tg,uN+t,none⟩=some (.pointer (some ⟨bt,0,none⟩))/\w'.cell? ⟨bt,2,none⟩=some (.slice (some ⟨gs,0,none⟩) nt nt)/\w'.cell? ⟨Y,1,none⟩=some (.int .i64 (t:Int))/\w'.cell? ⟨Y,2,none⟩=some (.int .i64 (tp:Int)))
          [0,1,2,3,4,5,6,7,8,9,10,11,12,13,14] [15,16] (by kernel_rfl) (by kernel_rfl) rfl (fun _ _ hx h=>⟨hx.cell h.1,hx.cell h.2.1,hx.cell h.2.2.1,hx.cell h.2.2.2.1,hx.cell h.2.2.2.2⟩) ⟨c0,tt,d1,y2,y3⟩ ?_
         intro Q' hQ';simp only [pk];refine aD ?_;refine ax ?_;clear c0 tt d1 y2 y3;go_wp2;go_roundw
         case rel=>exact ⟨k+1,_,_,_,hlt,by go_num,tF.out⟩
         case measure=>simp [intOf];omega
        ·
         obtain rfl:k=g.outs.length:=by omega
         have bX:¬ ((g.outs.length:Int) < g.outs.length):=by omega
         have hA:fG g:=⟨HS.out.good,Zo.out⟩;have hL:Linked g:=⟨fun t p ht hp=>HS.out.Lf ht hp,fun t q ht hq=>HS.out.Le ht hq⟩;have hO:=Yu HS.out hA HFS.out;have eT:=af (RN (o:=o) hR (by
          unfold newE;rw [if_neg (by rw [HE.out];decide),if_neg (by rw [H1.out];simp),if_neg];intro h;obtain ⟨c,h1,h2⟩:=List.any_eq_true.1 h;have:=HCP.out c h1;simp at h2;omega) HN.out.kept (fw.mk (HN.out.half.whole HS.out) hO.1 hO.2 (fun _=>by decide) rfl) ⟨hL,hA,H1.out⟩)
         clear hk hlt hA hL hO;go_wp2;go_ret2;exact eT.out
end Go.Proofs.YtepjkmnhmcjbkaaGreat
