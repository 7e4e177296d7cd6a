import Derived.Test.YtepjkmnhmcjbkaaGreatDynPlaysZ4
import Derived.Test.YtepjkmnhmcjbkaaGreatDynPlaysZ3
import Derived.Test.YtepjkmnhmcjbkaaGreatDynPlaysZ2
import Derived.Test.YtepjkmnhmcjbkaaGreatDynPlaysZ1
set_option linter.unusedVariables false
set_option linter.unusedSimpArgs false
set_option maxRecDepth 100000
set_option maxHeartbeats 20000000
namespace Go.Proofs.YtepjkmnhmcjbkaaGreat
open Go.RowKit
def Gv (x:Int)(w:World)(e:Ending)(w':World):Prop:=(∃ k it en:Int,e=.returned (.agg #[.int .i64 x,.int .u8 k,.int .i64 it,.int .i64 en]))/\Below w.heap.size w w'
def zk (g:av):Int:=if 32 < g.actors.length then 81 else if 96 < g.edges.length then 81 else if 16 < g.ins.length then 81 else if 16 < g.outs.length then 81 else 0
theorem jV {w:World}{Z:Nat}{a b c d z0 z1 z2 z3:Value}(h:w.heap[Z]?=some (.cells #[z0,z1,z2,z3] 125 (0,0))):((((w.setCell ⟨Z,0,none⟩ a).setCell ⟨Z,1,none⟩ b).setCell ⟨Z,2,none⟩ c).setCell ⟨Z,3,none⟩ d).heap[Z]?=some (.cells #[a,b,c,d] 125 (0,0)) :=
 block_setCell (block_setCell (block_setCell (block_setCell h 0 a) 1 b) 2 c) 3 d
theorem iE {w w1:World}{Z:Nat}(h:Below w.heap.size w w1)(hZ:w.heap.size<=Z)(a b c d:Value):Below w.heap.size w ((((w1.setCell ⟨Z,0,none⟩ a).setCell ⟨Z,1,none⟩ b).setCell ⟨Z,2,none⟩ c).setCell ⟨Z,3,none⟩ d) :=
 h.trans (aG.below (((((aG.refl (fun k=>k=Z) w1).setCell (p:=⟨Z,0,none⟩) (fun _=>rfl) a).setCell (p:=⟨Z,1,none⟩) (fun _=>rfl) b).setCell (p:=⟨Z,2,none⟩) (fun _=>rfl) c).setCell (p:=⟨Z,3,none⟩) (fun _=>rfl) d) h.size (fun k hk e=>by omega))
theorem Eh {g:av}{j:Nat}(h:j < g.actors.length):iY g j (g.actors.drop j)=if nR g j g.actors[j]≠0 then nR g j g.actors[j] else iY g (j+1) (g.actors.drop (j+1)):=by rw [List.drop_eq_getElem_cons h,iY]
theorem Gw {g:av}{j:Nat}(h:j < g.edges.length):kI g j (g.edges.drop j)=if p9 g j g.edges[j]≠0 then p9 g j g.edges[j] else kI g (j+1) (g.edges.drop (j+1)):=by rw [List.drop_eq_getElem_cons h,kI]
theorem MQ {g:av}{j:Nat}(h:j < g.ins.length):u6 g j (g.ins.drop j)=if Mt g j g.ins[j]≠0 then Mt g j g.ins[j] else u6 g (j+1) (g.ins.drop (j+1)):=by rw [List.drop_eq_getElem_cons h,u6]
theorem Jr {g:av}{j:Nat}(h:j < g.outs.length):nU g j (g.outs.drop j)=if xL g j g.outs[j]≠0 then xL g j g.outs[j] else nU g (j+1) (g.outs.drop (j+1)):=by rw [List.drop_eq_getElem_cons h,nU]
theorem MR {g:av}(h1:nameP g.name=true)(h2:¬ g.actors.length=0):lq g=zk g:=by
 unfold lq zk;rw [h1];simp only [Bool.not_true,Bool.false_eq_true,if_false];rw [if_neg h2]
theorem Qt {g:av}(h:zk g=0):g.actors.length<=32/\g.edges.length<=96/\g.ins.length<=16/\g.outs.length<=16:=by
 unfold zk at h
 split at h
 ·
  cases h
 split at h
 ·
  cases h
 split at h
 ·
  cases h
 split at h
 ·
  cases h
 omega
structure wK (w w':World) (gv:Array Value):Prop where
 below:Below w.heap.size w w'
 box:w'.heap[w.heap.size]?=some (.cells gv 26 (0,0))
 res:w'.heap[w.heap.size+1]?=some (.cells #[.int .i64 0,.int .u8 0,.int .i64 0,.int .i64 0] 125 (0,0))
theorem wK.later {w w1 w2:World}{gv:Array Value}(h:wK w w1 gv)(hb:Below w1.heap.size w1 w2):wK w w2 gv :=
 ⟨h.below.trans (hb.mono h.below.size),(hb.block _ (block_lt h.box)).trans h.box,(hb.block _ (block_lt h.res)).trans h.res⟩
theorem Qu (w:World)(v:Value)(g:av)(h:dK w v g):Calls Tryz.prog 65 #[v] w (Gv (zk g) w):=by
 obtain ⟨va,ve,vi,vo,rfl,ra,re,ri,ro⟩:=h.shape;obtain ⟨aa,ac,rfl⟩:=ra.slice;obtain ⟨ae,ec,rfl⟩:=re.slice;obtain ⟨ai,ic,rfl⟩:=ri.slice;obtain ⟨ao,oc,rfl⟩:=ro.slice;have HG:=af h;have rV:=af ra;have nV:=af re;have qE:=af ri;have sI:=af ro;have hb:=au w (.cells #[.string g.name,.slice aa g.actors.length ac,.slice ae g.edges.length ec,.slice ai g.ins.length ic,.slice ao g.outs.length oc] 26);have HB:=af hb;have hX:=heap_alloc_new w (.cells #[.string g.name,.slice aa g.actors.length ac,.slice ae g.edges.length ec,.slice ai g.ins.length ic,.slice ao g.outs.length oc] 26);have HXB:=af hX;have x0:=ah _ _ hX 0 _ rfl;have x1:=ah _ _ hX 1 _ rfl;have x2:=ah _ _ hX 2 _ rfl;have x3:=ah _ _ hX 3 _ rfl;have x4:=ah _ _ hX 4 _ rfl;clear h ra re ri ro hb hX;obtain ⟨N,hN⟩:∃ N,zk g=N:=⟨_,rfl⟩;rw [hN];unfold zk at hN;have HN:=af hN;clear hN
 by_cases lY:32 < g.actors.length
 ·
  have e:N=81:=by rw [<- HN.out,if_pos lY]
  have Qv:(32:Int) < g.actors.length:=by omega
  subst e;clear lY;go_enter Tryz.func65,Tryz.ntmps65;go_wp2;refine bodyPost_ret_by (results_cell_row rfl _ _ _ _ _ _ _ rfl (gq [.cells #[.string g.name,.slice aa g.actors.length ac,.slice ae g.edges.length ec,.slice ai g.ins.length ic,.slice ao g.outs.length oc] 26,.cells #[.int .i64 81,.int .u8 1,.int .i64 32,.int .i64 0] 125] w 1 _ rfl) Tryz.underlying125 rfl (by kernel_rfl)) rfl ?_;exact ⟨⟨_,_,_,rfl⟩,(ja [_,_] w).1⟩
 have Qv:¬ (32:Int) < g.actors.length:=by omega
 by_cases sN:96 < g.edges.length
 ·
  have e:N=81:=by rw [<- HN.out,if_neg lY,if_pos sN]
  have Ve:(96:Int) < g.edges.length:=by omega
  subst e;clear lY sN;go_enter Tryz.func65,Tryz.ntmps65;go_wp2;refine bodyPost_ret_by (results_cell_row rfl _ _ _ _ _ _ _ rfl (gq [.cells #[.string g.name,.slice aa g.actors.length ac,.slice ae g.edges.length ec,.slice ai g.ins.length ic,.slice ao g.outs.length oc] 26,.cells #[.int .i64 81,.int .u8 2,.int .i64 96,.int .i64 0] 125] w 1 _ rfl) Tryz.underlying125 rfl (by kernel_rfl)) rfl ?_;exact ⟨⟨_,_,_,rfl⟩,(ja [_,_] w).1⟩
 have Ve:¬ (96:Int) < g.edges.length:=by omega
 by_cases hins:16 < g.ins.length
 ·
  have e:N=81:=by rw [<- HN.out,if_neg lY,if_neg sN,if_pos hins]
  have aag:(16:Int) < g.ins.length:=by omega
  subst e;clear lY sN hins;go_enter Tryz.func65,Tryz.ntmps65;go_wp2;refine bodyPost_ret_by (results_cell_row rfl _ _ _ _ _ _ _ rfl (gq [.cells #[.string g.name,.slice aa g.actors.length ac,.slice ae g.edges.length ec,.slice ai g.ins.length ic,.slice ao g.outs.length oc] 26,.cells #[.int .i64 81,.int .u8 3,.int .i64 16,.int .i64 0] 125] w 1 _ rfl) Tryz.underlying125 rfl (by kernel_rfl)) rfl ?_;exact ⟨⟨_,_,_,rfl⟩,(ja [_,_] w).1⟩
 have aag:¬ (16:Int) < g.ins.length:=by omega
 by_cases Lb:16 < g.outs.length
 ·
  have e:N=81:=by rw [<- HN.out,if_neg lY,if_neg sN,if_neg hins,if_pos Lb]
  have Yf:(16:Int) < g.outs.length:=by omega
  subst e;clear lY sN hins Lb;go_enter Tryz.func65,Tryz.ntmps65;go_wp2;refine bodyPost_ret_by (results_cell_row rfl _ _ _ _ _ _ _ rfl (gq [.cells #[.string g.name,.slice aa g.actors.length ac,.slice ae g.edges.length ec,.slice ai g.ins.length ic,.slice ao g.outs.length oc] 26,.cells #[.int .i64 81,.int .u8 4,.int .i64 16,.int .i64 0] 125] w 1 _ rfl) Tryz.underlying125 rfl (by kernel_rfl)) rfl ?_;exact ⟨⟨_,_,_,rfl⟩,(ja [_,_] w).1⟩
 have Yf:¬ (16:Int) < g.outs.length:=by omega
 have e:N=0:=by rw [<- HN.out,if_neg lY,if_neg sN,if_neg hins,if_neg Lb]
 subst e;clear lY sN hins Lb;go_enter Tryz.func65,Tryz.ntmps65;go_wp2;refine bodyPost_ret_by (results_cell_row rfl _ _ _ _ _ _ _ rfl (gq [.cells #[.string g.name,.slice aa g.actors.length ac,.slice ae g.edges.length ec,.slice ai g.ins.length ic,.slice ao g.outs.length oc] 26,.cells #[.int .i64 0,.int .u8 0,.int .i64 0,.int .i64 0] 125] w 1 _ rfl) Tryz.underlying125 rfl (by kernel_rfl)) rfl ?_;exact ⟨⟨_,_,_,rfl⟩,(ja [_,_] w).1⟩
theorem MS (w:World)(v:Value)(g:av)(h:dK w v g)(hs:mO g):Calls Tryz.prog 44 #[v] w (Gv (I5 g) w):=by
 obtain ⟨va,ve,vi,vo,rfl,ra,re,ri,ro⟩:=h.shape;obtain ⟨aa,ac,rfl⟩:=ra.slice;obtain ⟨ae,ec,rfl⟩:=re.slice;obtain ⟨ai,ic,rfl⟩:=ri.slice;obtain ⟨ao,oc,rfl⟩:=ro.slice;have HG:=af h;have Fa:=af hs;clear ra re ri ro h hs;have hb1:=au w (.cells #[.string g.name,.slice aa g.actors.length ac,.slice ae g.edges.length ec,.slice ai g.ins.length ic,.slice ao g.outs.length oc] 26);have hX:=heap_alloc_new w (.cells #[.string g.name,.slice aa g.actors.length ac,.slice ae g.edges.length ec,.slice ai g.ins.length ic,.slice ao g.outs.length oc] 26);have hsz:(w.alloc (.cells #[.string g.name,.slice aa g.actors.length ac,.slice ae g.edges.length ec,.slice ai g.ins.length ic,.slice ao g.outs.length oc] 26)).heap.size=w.heap.size+1:=by simp
 have hb2:=au (w.alloc (.cells #[.string g.name,.slice aa g.actors.length ac,.slice ae g.edges.length ec,.slice ai g.ins.length ic,.slice ao g.outs.length oc] 26)) (.cells #[.int .i64 0,.int .u8 0,.int .i64 0,.int .i64 0] 125);have hZ:=heap_alloc_new (w.alloc (.cells #[.string g.name,.slice aa g.actors.length ac,.slice ae g.edges.length ec,.slice ai g.ins.length ic,.slice ao g.outs.length oc] 26)) (.cells #[.int .i64 0,.int .u8 0,.int .i64 0,.int .i64 0] 125);rw [hsz] at hZ;have HF:=af (wK.mk (hb1.trans (hb2.mono hb1.size)) ((hb2.block _ (block_lt hX)).trans hX) hZ);obtain ⟨w2,hw2⟩:∃ x,(w.alloc (.cells #[.string g.name,.slice aa g.actors.length ac,.slice ae g.edges.length ec,.slice ai g.ins.length ic,.slice ao g.outs.length oc] 26)).alloc (.cells #[.int .i64 0,.int .u8 0,.int .i64 0,.int .i64 0] 125)=x:=⟨_,rfl⟩;rw [hw2] at HF;have HW2:=af hw2;clear hb1 hX hsz hb2 hZ hw2;have hEq:=HW2.out;obtain ⟨N,hN⟩:∃ N,I5 g=N:=⟨_,rfl⟩;rw [hN];unfold I5 at hN;have HN:=af hN;clear hN;obtain ⟨E,hE⟩:∃ E,nameP g.name=E:=⟨_,rfl⟩;have HE:=af hE;clear hE hEq;go_enter Tryz.func44,Tryz.ntmps44;go_wp2_with fail;rw [HW2.out];refine (tX _ _ Fa.out.1).mono ?_;rintro e _ ⟨rfl,rfl⟩;rw [HE.out];cases E with
 | false =>
  have e:N=82:=by
   have hh:lq g=82:=by unfold lq;rw [HE.out];rfl
   rw [<- HN.out,hh];rfl
  subst e;have z0:=ah _ _ HF.out.res 0 _ rfl;have z1:=ah _ _ HF.out.res 1 _ rfl;have z2:=ah _ _ HF.out.res 2 _ rfl;have z3:=ah _ _ HF.out.res 3 _ rfl;have f0:=aj HF.out.res 0;have f1:=aj HF.out.res 1;have f2:=aj HF.out.res 2;have f3:=aj HF.out.res 3;go_wp2;refine bodyPost_ret_by (results_cell_row rfl _ _ _ _ _ _ _ rfl (jV HF.out.res) Tryz.underlying125 rfl (by kernel_rfl)) rfl ?_;exact ⟨⟨_,_,_,rfl⟩,iE HF.out.below (Nat.le_succ _) _ _ _ _⟩
 | true =>
  by_cases h0:g.actors.length=0
  ·
   have e:N=80:=by
    have hh:lq g=80:=by unfold lq;rw [HE.out];simp only [Bool.not_true,Bool.false_eq_true,if_false];rw [if_pos h0]
    rw [<- HN.out,hh];rfl
   subst e;have x1:=ah _ _ HF.out.box 1 _ rfl;have h0i:((g.actors.length:Int) == 0)=true:=by rw [beq_iff_eq];omega
   clear h0;have z0:=ah _ _ HF.out.res 0 _ rfl;have z1:=ah _ _ HF.out.res 1 _ rfl;have z2:=ah _ _ HF.out.res 2 _ rfl;have z3:=ah _ _ HF.out.res 3 _ rfl;have f0:=aj HF.out.res 0;have f1:=aj HF.out.res 1;have f2:=aj HF.out.res 2;have f3:=aj HF.out.res 3;go_wp2;refine bodyPost_ret_by (results_cell_row rfl _ _ _ _ _ _ _ rfl (jV HF.out.res) Tryz.underlying125 rfl (by kernel_rfl)) rfl ?_;exact ⟨⟨_,_,_,rfl⟩,iE HF.out.below (Nat.le_succ _) _ _ _ _⟩
  have h0i:((g.actors.length:Int) == 0)=false:=by rw [beq_eq_false_iff_ne];omega
  have hh:=MR HE.out h0;have HH:=af hh;clear h0 hh;have x0:=ah _ _ HF.out.box 0 _ rfl;have x1:=ah _ _ HF.out.box 1 _ rfl;have x2:=ah _ _ HF.out.box 2 _ rfl;have x3:=ah _ _ HF.out.box 3 _ rfl;have x4:=ah _ _ HF.out.box 4 _ rfl;go_wp2_with fail;refine (Qu _ _ g (HG.out.below HF.out.below)).mono ?_;rintro e w3 ⟨⟨kd,it,en,rfl⟩,hb3⟩;obtain ⟨M,hM⟩:∃ M,zk g=M:=⟨_,rfl⟩;rw [hM];have HM:=af hM;have BP:=af ((HF.out.later hb3).later (au w3 (.cells #[.int .i64 M,.int .u8 kd,.int .i64 it,.int .i64 en] 125)));clear hM hb3 x0 x1 x2 x3 x4
  by_cases hM0:M=0
  ·
   subst hM0;have zJ:=Qt HM.out;have qV:=af zJ;have Js:(if iY g 0 g.actors≠0 then iY g 0 g.actors else if kI g 0 g.edges≠0 then kI g 0 g.edges else if u6 g 0 g.ins≠0 then u6 g 0 g.ins else if nU g 0 g.outs≠0 then nU g 0 g.outs else yU g)=N:=by
    rw [<- HN.out,HH.out,HM.out];exact (if_neg (fun h=>h rfl)).symm
   have pJ:=af Js;clear zJ Js HN;go_wp2_with fail;obtain ⟨w4,hw4⟩:∃ x,w3.alloc (.cells #[.int .i64 0,.int .u8 kd,.int .i64 it,.int .i64 en] 125)=x:=⟨_,rfl⟩;rw [hw4] at BP ⊢;clear hw4;obtain ⟨EA,hEA⟩:∃ x,iY g 0 g.actors=x:=⟨_,rfl⟩;have Jt:=af hEA
   go_loopw [4] (fun x wl=>∃ j:Nat,j<=g.actors.length/\x=.int .i64 j/\wK w wl #[.string g.name,.slice aa g.actors.length ac,.slice ae g.edges.length ec,.slice ai g.ins.length ic,.slice ao g.outs.length oc]/\iY g j (g.actors.drop j)=EA) (fun x _=>g.actors.length - (intOf x).toNat)
   case atStart=>exact ⟨0,Nat.zero_le _,rfl,BP.out,hEA⟩
   case round =>
    clear hEA;obtain ⟨j,hj,rfl,hK,hr⟩:=hrel;have HK:=af hK;have HRR:=af hr;clear hK hr;have hlm:g.actors.length<=96:=by have:=qV.out;omega
    have x0:=ah _ _ HK.out.box 0 _ rfl;have x1:=ah _ _ HK.out.box 1 _ rfl;have x2:=ah _ _ HK.out.box 2 _ rfl;have x3:=ah _ _ HK.out.box 3 _ rfl;have x4:=ah _ _ HK.out.box 4 _ rfl
    by_cases hlt:j < g.actors.length
    ·
     have bX:(j:Int) < g.actors.length:=by omega
     go_wp2_with fail;refine (Jk _ _ g j (HG.out.below HK.out.below) Fa.out hlt (by omega)).mono ?_;rintro e w5 ⟨rfl,hb5⟩;have hst:=HRR.out;rw [Eh hlt] at hst;obtain ⟨e5,Qw⟩:∃ x,nR g j g.actors[j]=x:=⟨_,rfl⟩;rw [Qw] at hst ⊢;have jc:=af (HK.out.later hb5);clear hb5 Qw x0 x1 x2 x3 x4
     by_cases hz:e5=0
     ·
      subst hz;rw [if_neg (fun h=>h rfl)] at hst;have HST:=af hst;clear hst;go_wp2;go_roundw
      case rel=>exact ⟨j+1,hlt,by go_num,jc.out,HST.out⟩
      case measure=>simp [intOf];omega
     ·
      rw [if_pos hz] at hst;have e:e5=N:=by
       rw [hst];have hne:EA≠0:=by rw [<- hst];exact hz
       rw [<- pJ.out,Jt.out,if_pos hne]
      have hb:(e5 != 0)=true:=by rw [bne_iff_ne];exact hz
      subst e;clear hz hst;have z0:=ah _ _ jc.out.res 0 _ rfl;have z1:=ah _ _ jc.out.res 1 _ rfl;have z2:=ah _ _ jc.out.res 2 _ rfl;have z3:=ah _ _ jc.out.res 3 _ rfl;have f0:=aj jc.out.res 0;have f1:=aj jc.out.res 1;have f2:=aj jc.out.res 2;have f3:=aj jc.out.res 3;go_wp2;refine bodyPost_ret_by (results_cell_row rfl _ _ _ _ _ _ _ rfl (jV jc.out.res) Tryz.underlying125 rfl (by kernel_rfl)) rfl ?_;exact ⟨⟨_,_,_,rfl⟩,iE jc.out.below (Nat.le_succ _) _ _ _ _⟩
    ·
     obtain rfl:j=g.actors.length:=by omega
     have bX:¬ ((g.actors.length:Int) < g.actors.length):=by omega
     have hz:EA=0:=by
      have:=HRR.out;rw [List.drop_length] at this;exact this.symm
     have Qx:=af hz;clear hlt hj hz;have hgd:AX g:=qU _ 0 (by rw [Jt.out];exact Qx.out);have vw:=af hgd;clear hgd;go_wp2_with fail;obtain ⟨EE,WM⟩:∃ x,kI g 0 g.edges=x:=⟨_,rfl⟩;have Sz:=af WM
     go_loopw [6] (fun x wl=>∃ j:Nat,j<=g.edges.length/\x=.int .i64 j/\wK w wl #[.string g.name,.slice aa g.actors.length ac,.slice ae g.edges.length ec,.slice ai g.ins.length ic,.slice ao g.outs.length oc]/\kI g j (g.edges.drop j)=EE) (fun x _=>g.edges.length - (intOf x).toNat)
     case atStart=>exact ⟨0,Nat.zero_le _,rfl,HK.out,WM⟩
     case round =>
      clear WM;obtain ⟨j,hj,rfl,hK,hr⟩:=hrel;have HK:=af hK;have HRR:=af hr;clear hK hr;have hlm:g.edges.length<=96:=by have:=qV.out;omega
      have x0:=ah _ _ HK.out.box 0 _ rfl;have x1:=ah _ _ HK.out.box 1 _ rfl;have x2:=ah _ _ HK.out.box 2 _ rfl;have x3:=ah _ _ HK.out.box 3 _ rfl;have x4:=ah _ _ HK.out.box 4 _ rfl
      by_cases hlt:j < g.edges.length
      ·
       have bX:(j:Int) < g.edges.length:=by omega
       go_wp2_with fail;refine (ML _ _ g j (HG.out.below HK.out.below) vw.out hlt (by omega)).mono ?_;rintro e w5 ⟨kk,rfl,hb5⟩;have hst:=HRR.out;rw [Gw hlt] at hst;obtain ⟨e5,Qw⟩:∃ x,p9 g j g.edges[j]=x:=⟨_,rfl⟩;rw [Qw] at hst ⊢;have jc:=af (HK.out.later hb5);clear hb5 Qw x0 x1 x2 x3 x4
       by_cases hz:e5=0
       ·
        subst hz;rw [if_neg (fun h=>h rfl)] at hst;have HST:=af hst;clear hst;go_wp2;go_roundw
        case rel=>exact ⟨j+1,hlt,by go_num,jc.out,HST.out⟩
        case measure=>simp [intOf];omega
       ·
        rw [if_pos hz] at hst;have e:e5=N:=by
         rw [hst];have hne:EE≠0:=by rw [<- hst];exact hz
         rw [<- pJ.out,Sz.out,Jt.out,Qx.out,if_neg (fun h=>h rfl),if_pos hne]
        have hb:(e5 != 0)=true:=by rw [bne_iff_ne];exact hz
        subst e;clear hz hst;have z0:=ah _ _ jc.out.res 0 _ rfl;have z1:=ah _ _ jc.out.res 1 _ rfl;have z2:=ah _ _ jc.out.res 2 _ rfl;have z3:=ah _ _ jc.out.res 3 _ rfl;have f0:=aj jc.out.res 0;have f1:=aj jc.out.res 1;have f2:=aj jc.out.res 2;have f3:=aj jc.out.res 3;go_wp2;refine bodyPost_ret_by (results_cell_row rfl _ _ _ _ _ _ _ rfl (jV jc.out.res) Tryz.underlying125 rfl (by kernel_rfl)) rfl ?_;exact ⟨⟨_,_,_,rfl⟩,iE jc.out.below (Nat.le_succ _) _ _ _ _⟩
      ·
       obtain rfl:j=g.edges.length:=by omega
       have bX:¬ ((g.edges.length:Int) < g.edges.length):=by omega
       have hz:EE=0:=by
        have:=HRR.out;rw [List.drop_length] at this;exact this.symm
       have Yg:=af hz;clear hlt hj hz;go_wp2_with fail;obtain ⟨EI,hEI⟩:∃ x,u6 g 0 g.ins=x:=⟨_,rfl⟩;have HEI:=af hEI
       go_loopw [9] (fun x wl=>∃ j:Nat,j<=g.ins.length/\x=.int .i64 j/\wK w wl #[.string g.name,.slice aa g.actors.length ac,.slice ae g.edges.length ec,.slice ai g.ins.length ic,.slice ao g.outs.length oc]/\u6 g j (g.ins.drop j)=EI) (fun x _=>g.ins.length - (intOf x).toNat)
       case atStart=>exact ⟨0,Nat.zero_le _,rfl,HK.out,hEI⟩
       case round =>
        clear hEI;obtain ⟨j,hj,rfl,hK,hr⟩:=hrel;have HK:=af hK;have HRR:=af hr;clear hK hr;have hlm:g.ins.length<=96:=by have:=qV.out;omega
        have x0:=ah _ _ HK.out.box 0 _ rfl;have x1:=ah _ _ HK.out.box 1 _ rfl;have x2:=ah _ _ HK.out.box 2 _ rfl;have x3:=ah _ _ HK.out.box 3 _ rfl;have x4:=ah _ _ HK.out.box 4 _ rfl
        by_cases hlt:j < g.ins.length
        ·
         have bX:(j:Int) < g.ins.length:=by omega
         go_wp2_with fail;refine (Va _ _ g j (HG.out.below HK.out.below) Fa.out vw.out hlt ⟨by have:=qV.out;omega,by have:=qV.out;omega,by have:=qV.out;omega,by have:=qV.out;omega⟩).mono ?_;rintro e w5 ⟨kk,rfl,hb5⟩;have hst:=HRR.out;rw [MQ hlt] at hst;obtain ⟨e5,Qw⟩:∃ x,Mt g j g.ins[j]=x:=⟨_,rfl⟩;rw [Qw] at hst ⊢;have jc:=af (HK.out.later hb5);clear hb5 Qw x0 x1 x2 x3 x4
         by_cases hz:e5=0
         ·
          subst hz;rw [if_neg (fun h=>h rfl)] at hst;have HST:=af hst;clear hst;go_wp2;go_roundw
          case rel=>exact ⟨j+1,hlt,by go_num,jc.out,HST.out⟩
          case measure=>simp [intOf];omega
         ·
          rw [if_pos hz] at hst;have e:e5=N:=by
           rw [hst];have hne:EI≠0:=by rw [<- hst];exact hz
           rw [<- pJ.out,HEI.out,Jt.out,Qx.out,if_neg (fun h=>h rfl),Sz.out,Yg.out,if_neg (fun h=>h rfl),if_pos hne]
          have hb:(e5 != 0)=true:=by rw [bne_iff_ne];exact hz
          subst e;clear hz hst;have z0:=ah _ _ jc.out.res 0 _ rfl;have z1:=ah _ _ jc.out.res 1 _ rfl;have z2:=ah _ _ jc.out.res 2 _ rfl;have z3:=ah _ _ jc.out.res 3 _ rfl;have f0:=aj jc.out.res 0;have f1:=aj jc.out.res 1;have f2:=aj jc.out.res 2;have f3:=aj jc.out.res 3;go_wp2;refine bodyPost_ret_by (results_cell_row rfl _ _ _ _ _ _ _ rfl (jV jc.out.res) Tryz.underlying125 rfl (by kernel_rfl)) rfl ?_;exact ⟨⟨_,_,_,rfl⟩,iE jc.out.below (Nat.le_succ _) _ _ _ _⟩
        ·
         obtain rfl:j=g.ins.length:=by omega
         have bX:¬ ((g.ins.length:Int) < g.ins.length):=by omega
         have hz:EI=0:=by
          have:=HRR.out;rw [List.drop_length] at this;exact this.symm
         have aah:=af hz;clear hlt hj hz;go_wp2_with fail;obtain ⟨EO,hEO⟩:∃ x,nU g 0 g.outs=x:=⟨_,rfl⟩;have HEO:=af hEO
         go_loopw [12] (fun x wl=>∃ j:Nat,j<=g.outs.length/\x=.int .i64 j/\wK w wl #[.string g.name,.slice aa g.actors.length ac,.slice ae g.edges.length ec,.slice ai g.ins.length ic,.slice ao g.outs.length oc]/\nU g j (g.outs.drop j)=EO) (fun x _=>g.outs.length - (intOf x).toNat)
         case atStart=>exact ⟨0,Nat.zero_le _,rfl,HK.out,hEO⟩
         case round =>
          clear hEO;obtain ⟨j,hj,rfl,hK,hr⟩:=hrel;have HK:=af hK;have HRR:=af hr;clear hK hr;have hlm:g.outs.length<=96:=by have:=qV.out;omega
          have x0:=ah _ _ HK.out.box 0 _ rfl;have x1:=ah _ _ HK.out.box 1 _ rfl;have x2:=ah _ _ HK.out.box 2 _ rfl;have x3:=ah _ _ HK.out.box 3 _ rfl;have x4:=ah _ _ HK.out.box 4 _ rfl
          by_cases hlt:j < g.outs.length
          ·
           have bX:(j:Int) < g.outs.length:=by omega
           go_wp2_with fail;refine (Qr _ _ g j (HG.out.below HK.out.below) Fa.out vw.out hlt ⟨by have:=qV.out;omega,by have:=qV.out;omega,by have:=qV.out;omega,by have:=qV.out;omega⟩).mono ?_;rintro e w5 ⟨kk,rfl,hb5⟩;have hst:=HRR.out;rw [Jr hlt] at hst;obtain ⟨e5,Qw⟩:∃ x,xL g j g.outs[j]=x:=⟨_,rfl⟩;rw [Qw] at hst ⊢;have jc:=af (HK.out.later hb5);clear hb5 Qw x0 x1 x2 x3 x4
           by_cases hz:e5=0
           ·
            subst hz;rw [if_neg (fun h=>h rfl)] at hst;have HST:=af hst;clear hst;go_wp2;go_roundw
            case rel=>exact ⟨j+1,hlt,by go_num,jc.out,HST.out⟩
            case measure=>simp [intOf];omega
           ·
            rw [if_pos hz] at hst;have e:e5=N:=by
             rw [hst];have hne:EO≠0:=by rw [<- hst];exact hz
             rw [<- pJ.out,HEO.out,Jt.out,Qx.out,if_neg (fun h=>h rfl),Sz.out,Yg.out,if_neg (fun h=>h rfl),HEI.out,aah.out,if_neg (fun h=>h rfl),if_pos hne]
            have hb:(e5 != 0)=true:=by rw [bne_iff_ne];exact hz
            subst e;clear hz hst;have z0:=ah _ _ jc.out.res 0 _ rfl;have z1:=ah _ _ jc.out.res 1 _ rfl;have z2:=ah _ _ jc.out.res 2 _ rfl;have z3:=ah _ _ jc.out.res 3 _ rfl;have f0:=aj jc.out.res 0;have f1:=aj jc.out.res 1;have f2:=aj jc.out.res 2;have f3:=aj jc.out.res 3;go_wp2;refine bodyPost_ret_by (results_cell_row rfl _ _ _ _ _ _ _ rfl (jV jc.out.res) Tryz.underlying125 rfl (by kernel_rfl)) rfl ?_;exact ⟨⟨_,_,_,rfl⟩,iE jc.out.below (Nat.le_succ _) _ _ _ _⟩
          ·
           obtain rfl:j=g.outs.length:=by omega
           have bX:¬ ((g.outs.length:Int) < g.outs.length):=by omega
           have hz:EO=0:=by
            have:=HRR.out;rw [List.drop_length] at this;exact this.symm
           have abz:=af hz;clear hlt hj hz;have hop:yU g=N:=by
            rw [<- pJ.out,Jt.out,Qx.out,if_neg (fun h=>h rfl),Sz.out,Yg.out,if_neg (fun h=>h rfl),HEI.out,aah.out,if_neg (fun h=>h rfl),HEO.out,abz.out,if_neg (fun h=>h rfl)]
           have uK:=af hop;clear hop;go_wp2_with fail
           go_loopw [15] (fun x wl=>∃ j:Nat,j<=g.actors.length/\x=.int .i64 j/\wK w wl #[.string g.name,.slice aa g.actors.length ac,.slice ae g.edges.length ec,.slice ai g.ins.length ic,.slice ao g.outs.length oc]/\∀ k,k < j->mJ g k=false) (fun x _=>g.actors.length - (intOf x).toNat)
           case atStart=>exact ⟨0,Nat.zero_le _,rfl,HK.out,fun k hk=>by omega⟩
           case round =>
            obtain ⟨j,hj,rfl,hK,hr⟩:=hrel;have Fg:=af hK;have sI:=af hr;clear hK hr;have hlm:g.actors.length<=96:=by have:=qV.out;omega
            have x0:=ah _ _ Fg.out.box 0 _ rfl;have x1:=ah _ _ Fg.out.box 1 _ rfl;have x2:=ah _ _ Fg.out.box 2 _ rfl;have x3:=ah _ _ Fg.out.box 3 _ rfl;have x4:=ah _ _ Fg.out.box 4 _ rfl
            by_cases hlt:j < g.actors.length
            ·
             have bX:(j:Int) < g.actors.length:=by omega
             go_wp2_with fail;refine (MO _ _ g j (HG.out.below Fg.out.below) vw.out hlt ⟨by have:=qV.out;omega,by have:=qV.out;omega,by have:=qV.out;omega,by have:=qV.out;omega⟩).mono ?_;rintro e w5 ⟨rfl,hb5⟩;obtain ⟨T,hT⟩:∃ x,mJ g j=x:=⟨_,rfl⟩;rw [hT];have HT:=af hT;have jc:=af (Fg.out.later hb5);clear hb5 hT x0 x1 x2 x3 x4;cases T with
             | false =>
              go_wp2;go_roundw
              case rel=>exact ⟨j+1,hlt,by go_num,jc.out,fun k hk=>by
               by_cases e:k=j
               ·
                subst e;exact HT.out
               ·
                exact sI.out k (by omega)⟩
              case measure=>simp [intOf];omega
             | true =>
              have e:N=87:=by
               rw [<- uK.out];unfold yU;rw [if_pos];exact List.any_eq_true.2 ⟨j,List.mem_range.2 hlt,HT.out⟩
              subst e;have z0:=ah _ _ jc.out.res 0 _ rfl;have z1:=ah _ _ jc.out.res 1 _ rfl;have z2:=ah _ _ jc.out.res 2 _ rfl;have z3:=ah _ _ jc.out.res 3 _ rfl;have f0:=aj jc.out.res 0;have f1:=aj jc.out.res 1;have f2:=aj jc.out.res 2;have f3:=aj jc.out.res 3;go_wp2;refine bodyPost_ret_by (results_cell_row rfl _ _ _ _ _ _ _ rfl (jV jc.out.res) Tryz.underlying125 rfl (by kernel_rfl)) rfl ?_;exact ⟨⟨_,_,_,rfl⟩,iE jc.out.below (Nat.le_succ _) _ _ _ _⟩
            ·
             obtain rfl:j=g.actors.length:=by omega
             have bX:¬ ((g.actors.length:Int) < g.actors.length):=by omega
             have e:N=0:=by
              rw [<- uK.out];unfold yU;rw [if_neg];intro h;obtain ⟨k,hk,h2⟩:=List.any_eq_true.1 h;rw [sI.out k (List.mem_range.1 hk)] at h2;cases h2
             subst e;clear hlt hj;have z0:=ah _ _ Fg.out.res 0 _ rfl;have z1:=ah _ _ Fg.out.res 1 _ rfl;have z2:=ah _ _ Fg.out.res 2 _ rfl;have z3:=ah _ _ Fg.out.res 3 _ rfl;have f0:=aj Fg.out.res 0;have f1:=aj Fg.out.res 1;have f2:=aj Fg.out.res 2;have f3:=aj Fg.out.res 3;go_wp2;refine bodyPost_ret_by (results_cell_row rfl _ _ _ _ _ _ _ rfl (jV Fg.out.res) Tryz.underlying125 rfl (by kernel_rfl)) rfl ?_;exact ⟨⟨_,_,_,rfl⟩,iE Fg.out.below (Nat.le_succ _) _ _ _ _⟩
  ·
   have e:M=N:=by
    rw [<- HN.out,HH.out,HM.out];exact (if_pos hM0).symm
   have hb:(M != 0)=true:=by rw [bne_iff_ne];exact hM0
   subst e;clear hM0;have z0:=ah _ _ BP.out.res 0 _ rfl;have z1:=ah _ _ BP.out.res 1 _ rfl;have z2:=ah _ _ BP.out.res 2 _ rfl;have z3:=ah _ _ BP.out.res 3 _ rfl;have f0:=aj BP.out.res 0;have f1:=aj BP.out.res 1;have f2:=aj BP.out.res 2;have f3:=aj BP.out.res 3;go_wp2;refine bodyPost_ret_by (results_cell_row rfl _ _ _ _ _ _ _ rfl (jV BP.out.res) Tryz.underlying125 rfl (by kernel_rfl)) rfl ?_;exact ⟨⟨_,_,_,rfl⟩,iE BP.out.below (Nat.le_succ _) _ _ _ _⟩
theorem Ju (x:Int)(b c d:Value)(w:World):(Instr.field 125 (.agg #[.int .i64 x,b,c,d]) 0).run Tryz.prog w=.ok (.int .i64 x) w:=by kernel_rfl
theorem Jv (w:World)(v:Value)(g:av)(h:dK w v g)(hs:mO g):Calls Tryz.prog 17 #[v] w (fq (.int .i64 (jH g)) w):=by
 rw [<- Cx];obtain ⟨va,ve,vi,vo,rfl,_⟩:=h.shape;have hb:=au w (.cells #[.string g.name,va,ve,vi,vo] 26);have hX:=heap_alloc_new w (.cells #[.string g.name,va,ve,vi,vo] 26);have x0:=ah _ _ hX 0 _ rfl;have x1:=ah _ _ hX 1 _ rfl;have x2:=ah _ _ hX 2 _ rfl;have x3:=ah _ _ hX 3 _ rfl;have x4:=ah _ _ hX 4 _ rfl;have HF:=af (MS _ _ g (h.below hb) hs);have HB:=af hb;obtain ⟨N,hN⟩:∃ N,I5 g=N:=⟨_,rfl⟩;rw [hN] at HF ⊢;clear h hs hb hX hN;go_enter Tryz.func17,Tryz.ntmps17;go_wp2_with fail;refine HF.out.mono ?_;rintro e w2 ⟨⟨k,it,en,rfl⟩,hb2⟩;have HB2:=af (HB.out.trans (hb2.mono HB.out.size));clear hb2;have hfc:=Ju N (.int .u8 k) (.int .i64 it) (.int .i64 en) w2;go_wp2;go_ret;exact ⟨rfl,HB2.out⟩
end Go.Proofs.YtepjkmnhmcjbkaaGreat
namespace Go.Proofs.YtepjkmnhmcjbkaaGreat
structure bH where
 aP:pX
 failed:Option Nat
def eX (g:av)(caps:List Int)(r:bH)(t:Nat):bH × Bool :=
 match r.failed with
 | some _=>(r,false)
 | none=>match iJ g caps r.aP t with
  | .waits=>(r,false)
  | .fails=>(⟨r.aP,some t⟩,true)
  | .goes s=>(⟨s,none⟩,true)
def isReady (g:av)(caps:List Int)(s:pX)(t:Nat):Bool:=match iJ g caps s t with | .waits=>false | _=>true
def dY (g:av)(caps:List Int)(r:bH):List Nat:=match r.failed with | some _=>[] | none=>(List.range g.actors.length).filter (isReady g caps r.aP)
def nY (p:Int)(n:Nat):Nat:=(Int.emod p n).toNat
def iF (g:av)(caps:List Int):List Int->bH->bH × Nat
 | [],r=>(r,0)
 | p :: l,r=>if dY g caps r=[] then (r,0) else ((iF g caps l (eX g caps r ((dY g caps r)[nY p (dY g caps r).length]?.getD 0)).1).1,(iF g caps l (eX g caps r ((dY g caps r)[nY p (dY g caps r).length]?.getD 0)).1).2+1)
def fM (g:av)(caps:List Int):List Nat->bH->bH × Nat
 | [],r=>(r,0)
 | t :: l,r=>((fM g caps l (eX g caps r t).1).1,(fM g caps l (eX g caps r t).1).2+(if (eX g caps r t).2 then 1 else 0))
def bS (g:av)(caps:List Int):Nat->bH->bH × Nat
 | 0,r=>(r,0)
 | n+1,r=>if (fM g caps (List.range g.actors.length) r).2=0 then ((fM g caps (List.range g.actors.length) r).1,0)
  else ((bS g caps n (fM g caps (List.range g.actors.length) r).1).1,(bS g caps n (fM g caps (List.range g.actors.length) r).1).2+(fM g caps (List.range g.actors.length) r).2)
def Yh (g:av)(s:pX)(k:Nat):List Int:=s.strs (g.edges.length+g.ins.length+k)
structure abY (g:av) (caps Qy:List Int):Prop where
 len:caps.length=g.edges.length
 len':Qy.length=g.edges.length
 le:∀ d (h:d < caps.length) (h':d < Qy.length),caps[d]<=Qy[d]
theorem ug {t:Int}{ps:List Int}(h:aC t ps):(∀ x∈bJ t ps,1<=x/\x<=64)/\∀ x∈aV t ps,1<=x/\x<=64:=by
 have hm:∀ (a b:Int),1<=a->1<=b->1<=a*b:=fun a b ha hb=>by
  have:=Int.mul_le_mul ha hb (by omega) (by omega);omega
 have hrep:∀ (n:Nat) (a x:Int),x∈List.replicate n a->x=a:=fun n a x hx=>List.eq_of_mem_replicate hx
 rcases h with ⟨rfl,h⟩ | ⟨rfl,h⟩ | ⟨rfl,h⟩ | ⟨rfl,h⟩ | ⟨rfl,h⟩ | ⟨rfl,h⟩ | ⟨rfl,h⟩ | ⟨rfl,h⟩ | ⟨rfl,h⟩ | ⟨rfl,h⟩ | ⟨rfl,h⟩
 ·
  exact ⟨fun x hx=>by simp [bJ] at hx;omega,fun x hx=>by simp [aV] at hx;omega⟩
 ·
  obtain ⟨_,h1,h2⟩:=h;exact ⟨fun x hx=>by simp [bJ] at hx;omega,fun x hx=>by simp [aV] at hx;omega⟩
 ·
  obtain ⟨_,h1,h2⟩:=h;exact ⟨fun x hx=>by simp [bJ] at hx;omega,fun x hx=>by simp [aV] at hx;omega⟩
 ·
  obtain ⟨_,⟨h1,h2⟩,⟨h3,h4⟩,h5⟩:=h;have:=hm _ _ h1 h3;exact ⟨fun x hx=>by simp [bJ] at hx;omega,fun x hx=>by simp [aV] at hx;omega⟩
 ·
  obtain ⟨_,⟨h1,h2⟩,⟨h3,h4⟩,h5⟩:=h;have:=hm _ _ h1 h3;exact ⟨fun x hx=>by simp [bJ] at hx;omega,fun x hx=>by simp [aV] at hx;omega⟩
 ·
  exact ⟨fun x hx=>by simp [bJ] at hx;omega,fun x hx=>by simp [aV] at hx;omega⟩
 ·
  exact ⟨fun x hx=>by simp [bJ] at hx;omega,fun x hx=>by simp [aV] at hx;omega⟩
 ·
  exact ⟨fun x hx=>by simp [bJ] at hx;omega,fun x hx=>by simp [aV] at hx;omega⟩
 ·
  exact ⟨fun x hx=>by simp [bJ] at hx;omega,fun x hx=>by simp [aV] at hx;omega⟩
 ·
  exact ⟨fun x hx=>by simp [bJ] at hx,fun x hx=>by simp [aV] at hx;omega⟩
 ·
  obtain ⟨_,h1,h2⟩:=h;exact ⟨fun x hx=>by simp [bJ] at hx;omega,fun x hx=>by simp [aV] at hx⟩
def rI (g:av)(t q:Nat):Int:=(ay g t)[q]?.getD 0
def rO (g:av)(t q:Nat):Int:=(aF g t)[q]?.getD 0
structure fG (g:av):Prop where
 good:∀ a∈g.actors,aC a.tag a.params
 fits:∀ a∈g.actors,∀ x∈a.params,Fits x
theorem Jw {g:av}(h:fG g){t q:Nat}(hq:q < (ay g t).length):1<=rI g t q/\rI g t q<=64:=by
 have key:∀ x∈ay g t,1<=x/\x<=64:=by
  unfold ay;cases ha:g.actors[t]? with
  | none=>intro x hx;cases hx
  | some a=>exact (ug (h.good a (List.mem_of_getElem? ha))).1
 unfold rI;rw [List.getElem?_eq_getElem hq];exact key _ (List.getElem_mem hq)
theorem Ei {g:av}(h:fG g){t q:Nat}(hq:q < (aF g t).length):1<=rO g t q/\rO g t q<=64:=by
 have key:∀ x∈aF g t,1<=x/\x<=64:=by
  unfold aF;cases ha:g.actors[t]? with
  | none=>intro x hx;cases hx
  | some a=>exact (ug (h.good a (List.mem_of_getElem? ha))).2
 unfold rO;rw [List.getElem?_eq_getElem hq];exact key _ (List.getElem_mem hq)
def bD (l:List (List Int))(q:Nat):Int:=((l[q]?.getD []).length:Int)
structure xu (g:av) (t s:Nat) (x:bW):Prop where
 hlen:x.hand.length=(ay g t).length
 hfit:∀ l∈x.hand,∀ z∈l,Fits z
 Jy:∀ l∈x.bg,∀ z∈l,Fits z
 Ej:∀ z∈x.keep,Fits z
 num:0<=x.n/\x.n<=s
 whole:x.whole<=s
 take:x.gives=false->x.bg=[]/\x.port<=(ay g t).length/\(∀ q,q < x.port->bD x.hand q=rI g t q)/\(∀ q,x.port < q->bD x.hand q=0)/\(x.port < (ay g t).length->bD x.hand x.port < rI g t x.port)
 give:x.gives=true->x.port < (aF g t).length/\x.bg.length=(aF g t).length/\(∀ q,q < (ay g t).length->bD x.hand q=rI g t q)/\(∀ p,p < x.port->bD x.bg p=0)/\(∀ p,x.port < p->p < (aF g t).length->bD x.bg p=rO g t p)/\1<=bD x.bg x.port/\bD x.bg x.port<=rO g t x.port
theorem xu.later {g:av}{t s s':Nat}{x:bW}(h:xu g t s x)(hs:s<=s'):xu g t s' x:={ h with num:=⟨h.num.1,by have:=h.num.2;omega⟩,whole:=by have:=h.whole;omega }
theorem CQ {l:List (List Int)}{k q:Nat}{v:List Int}(hk:k < l.length):bD (l.set k v) q=if q=k then (v.length:Int) else bD l q:=by
 unfold bD
 by_cases h:q=k
 ·
  subst h;rw [if_pos rfl,List.getElem?_set_self hk];rfl
 ·
  rw [if_neg h,List.getElem?_set_ne (Ne.symm h)]
theorem uh {l:List (List Int)}{q:Nat}(hq:l.length<=q):bD l q=0:=by
 unfold bD;rw [List.getElem?_eq_none hq];rfl
theorem CS {n q:Nat}:bD (List.replicate n []) q=0:=by
 unfold bD;rw [List.getElem?_replicate]
 split <;> rfl
theorem Gx {g:av}{t s:Nat}{x:bW}(hg:fG g)(hk:∀ z∈x.keep,Fits z)(hn:0<=x.n/\x.n<=s)(hw:x.whole<=s):xu g t s (kH (ay g t).length x) where
 hlen:=by simp [kH]
 hfit:=fun l hl=>by
  have:l=[]:=List.eq_of_mem_replicate hl;subst this;exact fun z hz=>by cases hz
 Jy:=fun l hl=>by cases hl
 Ej:=hk
 num:=hn
 whole:=hw
 take:=fun _=>⟨rfl,Nat.zero_le _,fun q hq=>by simp [kH] at hq,fun q _=>CS,fun hp=>by
  have:=Jw hg (t:=t) (q:=0) hp;show bD (List.replicate _ []) 0 < rI g t 0
  rw [CS];omega⟩
 give:=fun h=>by cases h
theorem Vf {g:av}{t s:Nat}{x:bW}{v:Int}(hg:fG g)(h:xu g t s x)(hgv:x.gives=false)(hp:x.port < (ay g t).length)(hv:Fits v):xu g t s (l8 (rI g t x.port) x v):=by
 obtain ⟨t1,t2,t3,t4,t5⟩:=h.take hgv;have t5:=t5 hp;have hh:x.port < x.hand.length:=by rw [h.hlen];exact hp
 have hl:∀ q,bD (l8 (rI g t x.port) x v).hand q=if q=x.port then bD x.hand x.port+1 else bD x.hand q:=fun q=>by
  show bD (x.hand.set x.port ((x.hand[x.port]?.getD []) ++ [v])) q=_
  rw [CQ hh]
  split
  ·
   unfold bD;rw [List.length_append];simp
  ·
   rfl
 have hpn:(l8 (rI g t x.port) x v).port=if bD x.hand x.port+1=rI g t x.port then x.port+1 else x.port:=rfl;refine ⟨by rw [<- h.hlen];exact List.length_set,fun l hm=>?_,h.Jy,h.Ej,h.num,h.whole,fun _=>⟨t1,?_,fun q hq=>?_,fun q hq=>?_,fun hq=>?_⟩,fun hc=>?_⟩
 ·
  rcases List.mem_or_eq_of_mem_set hm with hm | rfl
  ·
   exact h.hfit l hm
  ·
   intro z hz
   rcases List.mem_append.1 hz with hz | hz
   ·
    rw [List.getElem?_eq_getElem hh] at hz;exact h.hfit _ (List.getElem_mem hh) z hz
   ·
    obtain rfl:z=v:=by simpa using hz
    exact hv
 ·
  rw [hpn];split <;> omega
 ·
  rw [hl];rw [hpn] at hq
  split at hq
  ·
   rename_i e
   split
   ·
    rename_i e2;rw [e2];exact e
   ·
    exact t3 q (by omega)
  ·
   rw [if_neg (by omega)];exact t3 q hq
 ·
  rw [hl];rw [hpn] at hq;have:q≠x.port:=by split at hq <;> omega
  rw [if_neg this];exact t4 q (by split at hq <;> omega)
 ·
  rw [hl];rw [hpn] at hq ⊢
  split
  ·
   rename_i e
   rw [if_neg (by omega),t4 _ (by omega)];rw [if_pos e] at hq;have:=Jw hg hq;omega
  ·
   rename_i e
   rw [if_pos rfl];omega
 ·
  have:x.gives=true:=hc;rw [hgv] at this;cases this
theorem CU {g:av}{t s:Nat}{x:bW}(hg:fG g)(hlen:x.hand.length=(ay g t).length)(hfit:∀ l∈x.hand,∀ z∈l,Fits z)(Jy:∀ l∈x.bg,∀ z∈l,Fits z)(Ej:∀ z∈x.keep,Fits z)(num:0<=x.n/\x.n<=s)(whole:x.whole+1<=s)(hgv:x.gives=true)(hpo:x.port<=(aF g t).length)
  (hgl:x.bg.length=(aF g t).length) (hh:∀ q,q < (ay g t).length->bD x.hand q=rI g t q) (h1:∀ p,p < x.port->bD x.bg p=0) (h2:∀ p,x.port < p->p < (aF g t).length->bD x.bg p=rO g t p) (h3:x.port < (aF g t).length->1<=bD x.bg x.port/\bD x.bg x.port<=rO g t x.port) :
  xu g t s (jR (ay g t).length (aF g t).length x):=by
 unfold jR
 split
 ·
  exact Gx hg Ej num whole
 ·
  rename_i hne
  have hlt:x.port < (aF g t).length:=by omega
  exact ⟨hlen,hfit,Jy,Ej,num,by omega,(fun h=>by rw [hgv] at h;exact absurd h (by decide)),fun _=>⟨hlt,hgl,hh,h1,h2,h3 hlt⟩⟩
theorem Vg {g:av}{t s:Nat}{x:bW}(hg:fG g)(h:xu g t s x)(hgv:x.gives=true):xu g t (s+1) (sG (ay g t).length (aF g t).length x):=by
 obtain ⟨g1,g2,g3,g4,g5,g6,g7⟩:=h.give hgv;have hgl:x.port < x.bg.length:=by rw [g2];exact g1
 obtain ⟨r,hr⟩:∃ r,(x.bg[x.port]?.getD [])=r:=⟨_,rfl⟩;have hrl:bD x.bg x.port=(r.length:Int):=by rw [<- hr];rfl
 have hl:∀ q,bD (x.bg.set x.port r.tail) q=if q=x.port then (r.tail.length:Int) else bD x.bg q:=fun q=>CQ hgl;unfold sG;rw [hr];refine CU hg h.hlen h.hfit (fun l hm=>?_) h.Ej ⟨h.num.1,by have:=h.num.2;show x.n<=_;omega⟩ (by have:=h.whole;show x.whole+1<=_;omega) hgv (by show (if r.tail=[] then x.port+1 else x.port)<=_;split <;> omega) (by show (x.bg.set x.port r.tail).length=_;rw [List.length_set,g2]) g3 (fun p hp=>?_) (fun p hp hp2=>?_) (fun hp=>?_)
 ·
  rcases List.mem_or_eq_of_mem_set hm with hm | rfl
  ·
   exact h.Jy l hm
  ·
   intro z hz;have hz:=List.mem_of_mem_tail hz;rw [<- hr,List.getElem?_eq_getElem hgl] at hz;exact h.Jy _ (List.getElem_mem hgl) z hz
 ·
  show bD (x.bg.set x.port r.tail) p=0
  rw [hl];have hp:p < (if r.tail=[] then x.port+1 else x.port):=hp
  split at hp
  ·
   rename_i e
   split
   ·
    rw [e];rfl
   ·
    exact g4 p (by omega)
  ·
   rw [if_neg (by omega)];exact g4 p hp
 ·
  show bD (x.bg.set x.port r.tail) p=_
  rw [hl];have hp:(if r.tail=[] then x.port+1 else x.port) < p:=hp;rw [if_neg (by split at hp <;> omega)];exact g5 p (by split at hp <;> omega) hp2
 ·
  show 1<=bD (x.bg.set x.port r.tail) (if r.tail=[] then x.port+1 else x.port)/\bD (x.bg.set x.port r.tail) (if r.tail=[] then x.port+1 else x.port)<=rO g t (if r.tail=[] then x.port+1 else x.port)
  have hp:(if r.tail=[] then x.port+1 else x.port) < (aF g t).length:=hp;rw [hl]
  split
  ·
   rename_i e
   rw [if_pos e] at hp;rw [if_neg (by omega),g5 _ (by omega) hp];have:=Ei hg hp;omega
  ·
   rename_i e
   rw [if_pos rfl];have e1:r.tail.length=r.length - 1:=List.length_tail;have e2:r.tail.length≠0:=fun h=>e (List.eq_nil_of_length_eq_zero h);omega
theorem Qz {g:av}{t s:Nat}{x:bW}(hg:fG g)(ht:t < g.actors.length)(h:xu g t s x)(hgv:x.gives=false)(hp:¬ x.port < (ay g t).length)(he:(dV g t x).err=0):xu g t (s+1) (uZ (ay g t).length (aF g t).length x (dV g t x)):=by
 obtain ⟨t1,t2,t3,t4,t5⟩:=h.take hgv;have hpe:x.port=(ay g t).length:=by omega
 have ha:g.actors[t]?=some g.actors[t]:=List.getElem?_eq_getElem ht;have hgood:=hg.good _ (List.getElem_mem ht);have hpf:=hg.fits _ (List.getElem_mem ht);have eI:ay g t=bJ g.actors[t].tag g.actors[t].params:=by unfold ay;rw [ha]
 have eO:aF g t=aV g.actors[t].tag g.actors[t].params:=by unfold aF;rw [ha]
 have eS:dV g t x=iD g.actors[t].tag g.actors[t].params x.keep x.n x.hand:=by unfold dV;rw [ha]
 have hsh:∃ outs keep',fT g.actors[t].tag g.actors[t].params x.keep x.hand=some (outs,keep')/\dV g t x=⟨0,outs,keep',x.n+1⟩/\x.hand.map (fun l=>(l.length:Int))=bJ g.actors[t].tag g.actors[t].params:=by
  rw [eS] at he ⊢;unfold iD at he ⊢
  split at he
  ·
   rename_i hfit
   rw [if_pos hfit]
   split at he
   ·
    rename_i outs keep' hr
    exact ⟨outs,keep',hr,rfl,hfit⟩
   ·
    cases he
  ·
   cases he
 obtain ⟨outs,keep',hr,hs,hfit⟩:=hsh;have uR:=nD hgood hfit hr;have hfits:=Ct hpf h.Ej h.hfit hr;have WU:outs.length=(aF g t).length:=by have:=congrArg List.length uR;rw [List.length_map] at this;rw [eO];exact this
 have hol:∀ p,p < (aF g t).length->bD outs p=rO g t p:=fun p hp=>by
  have h1:=congrArg (fun l:List Int=>l[p]?.getD 0) uR;unfold bD rO;rw [eO,<- h1,List.getElem?_map,List.getElem?_eq_getElem (by rw [WU];exact hp)];rfl
 rw [hs];unfold uZ;refine CU hg h.hlen h.hfit hfits.1 hfits.2 ⟨by have:=h.num.1;show 0<=x.n+1;omega,by have:=h.num.2;show x.n+1<=_;omega⟩ (by have:=h.whole;show x.whole+1<=_;omega) rfl (Nat.zero_le _) WU (fun q hq=>?_) (fun p hp=>absurd hp (Nat.not_lt_zero _)) (fun p _ hp2=>hol p hp2) (fun hp=>?_)
 ·
  exact t3 q (by rw [hpe];exact hq)
 ·
  show 1<=bD outs 0/\bD outs 0<=rO g t 0
  have hp:0 < (aF g t).length:=hp;rw [hol 0 hp];have:=Ei hg hp;omega
structure vS (g:av) (s:Nat) (r:pX):Prop where
 task:∀ t,t < g.actors.length->xu g t s (r.tasks t)
 fits:∀ d,∀ z∈r.strs d,Fits z
theorem vS.step {g:av}{caps:List Int}{s t:Nat}{r r1:pX}(hg:fG g)(h:vS g s r)(hs:iJ g caps r t=.goes r1):vS g (s+1) r1:=by
 obtain ⟨ht,k⟩:=pY.1 hs;have hT:=h.task t ht;have key:∀ {x:bW},xu g t (s+1) x->∀ u,u < g.actors.length->xu g u (s+1) (upd r.tasks t x u):=fun hx u hu=>by
  by_cases e:u=t
  ·
   subst e;rw [upd_same];exact hx
  ·
   rw [aO e];exact (h.task u hu).later (by omega)
 have fit:∀ {d:Nat} {l:List Int},(∀ z∈l,Fits z)->∀ e,∀ z∈upd r.strs d l e,Fits z:=fun {d l} hl e=>by
  by_cases hd:e=d
  ·
   subst hd;rw [upd_same];exact hl
  ·
   rw [aO hd];exact h.fits e
 cases k with
 | give x hgv hf hx =>
  subst hx;refine ⟨key (Vg hg hT hgv),fit fun z hz=>?_⟩
  rcases List.mem_append.1 hz with hz | hz
  ·
   exact h.fits _ z hz
  ·
   obtain rfl:z=lu (r.tasks t):=by simpa using hz
   obtain ⟨g1,g2,_⟩:=hT.give hgv;unfold lu;rw [List.getElem?_eq_getElem (by rw [g2];exact g1)];simp only [Option.getD_some];cases hl:(r.tasks t).bg[(r.tasks t).port]'(by rw [g2];exact g1) with
   | nil=>show Fits 0;unfold Fits;omega
   | cons y l=>exact hT.Jy _ (List.getElem_mem (by rw [g2];exact g1)) y (by rw [hl];exact List.mem_cons_self)
 | take x v l hgv hp hv hx =>
  subst hx;have hfv:Fits v:=h.fits _ v (by rw [hv];exact List.mem_cons_self);exact ⟨key ((Vf hg hT hgv hp hfv).later (by omega)),fit fun z hz=>h.fits _ z (by rw [hv];exact List.mem_cons_of_mem _ hz)⟩
 | fire x hgv hp he hx =>
  subst hx;exact ⟨key (Qz hg ht hT hgv hp he),h.fits⟩
structure abZ (g:av):Prop where
 ends:∀ k (h:k < g.edges.length),∃ u p v q:Nat,g.edges[k].src=u/\g.edges[k].dw=p/\g.edges[k].dst=v/\g.edges[k].dx=q/\u < g.actors.length/\v < g.actors.length/\p < (aF g u).length/\q < (ay g v).length/\toP g u p=k/\bY g v q=k
def qW (g:av)(k:Nat):jw:=g.edges[k]?.getD ⟨0,0,0,0,[]⟩
theorem lZ {α:Type}{l:List α}{p:α->Bool}{k:Nat}(hk:k < l.length)(h:p l[k]=true)(hf:(l.take k).any p=false):l.findIdx? p=some k:=by
 rw [List.findIdx?_eq_some_iff_getElem];refine ⟨hk,h,fun j hj=>?_⟩;rw [List.any_eq_false] at hf;have hjl:j < l.length:=by omega
 exact hf l[j] (List.mem_take_iff_getElem.2 ⟨j,by omega,rfl⟩)
theorem Sound.Lc {g:av}(h:Sound g){k:Nat}(hk:k < g.edges.length):toP g g.edges[k].src.toNat g.edges[k].dw.toNat=k:=by
 obtain ⟨a1,a2,a3,_⟩:=h.edge k hk;unfold toP;rw [lZ (k:=k) hk (by simp;omega) ?_];unfold outT at a3;simp only [List.take_zero,List.any_nil,Bool.or_false] at a3;rw [Int.toNat_of_nonneg a1.1,Int.toNat_of_nonneg a2.1];exact a3
theorem Sound.CV {g:av}(h:Sound g){k:Nat}(hk:k < g.edges.length):bY g g.edges[k].dst.toNat g.edges[k].dx.toNat=k:=by
 obtain ⟨_,_,_,a1,a2,a3,_⟩:=h.edge k hk;unfold bY;rw [lZ (k:=k) hk (by simp;omega) ?_];unfold inT at a3;simp only [List.take_zero,List.any_nil,Bool.or_false] at a3;rw [Int.toNat_of_nonneg a1.1,Int.toNat_of_nonneg a2.1];exact a3
theorem Sound.Ld {g:av}(h:Sound g){k:Nat}(hk:k < g.ins.length):bY g g.ins[k].aW.toNat g.ins[k].port.toNat=g.edges.length+k:=by
 obtain ⟨a1,a2,a3⟩:=h.ins k hk;unfold inT at a3;rw [Bool.or_eq_false_iff,List.take_length] at a3;unfold bY;rw [Int.toNat_of_nonneg a1.1,Int.toNat_of_nonneg a2.1];have e:g.edges.findIdx? (fun e=>decide (e.dst=g.ins[k].aW) && decide (e.dx=g.ins[k].port))=none:=by
  rw [List.findIdx?_eq_none_iff];intro x hx;have:=List.any_eq_false.1 a3.1 x hx
  simpa using this
 rw [e];simp only;rw [lZ (k:=k) hk (by simp) a3.2]
theorem Sound.QA {g:av}(h:Sound g){k:Nat}(hk:k < g.outs.length):toP g g.outs[k].aW.toNat g.outs[k].port.toNat=g.edges.length+g.ins.length+k:=by
 obtain ⟨a1,a2,a3⟩:=h.outs k hk;unfold outT at a3;rw [Bool.or_eq_false_iff,List.take_length] at a3;unfold toP;rw [Int.toNat_of_nonneg a1.1,Int.toNat_of_nonneg a2.1];have e:g.edges.findIdx? (fun e=>decide (e.src=g.outs[k].aW) && decide (e.dw=g.outs[k].port))=none:=by
  rw [List.findIdx?_eq_none_iff];intro x hx;have:=List.any_eq_false.1 a3.1 x hx
  simpa using this
 rw [e];simp only;rw [lZ (k:=k) hk (by simp) a3.2]
theorem Sound.Le {g:av}(h:Sound g){t q:Nat}(ht:t < g.actors.length)(hq:q < (ay g t).length):bY g t q < g.edges.length+g.ins.length:=by
 have hI:=h.allI t q ht hq;unfold inT at hI;rw [List.take_length,List.take_length] at hI;unfold bY;cases h1:g.edges.findIdx? (fun e=>decide (e.dst=(t:Int)) && decide (e.dx=(q:Int))) with
 | some i =>
  obtain ⟨hi,_⟩:=List.findIdx?_eq_some_iff_getElem.1 h1;simp only;omega
 | none =>
  cases h2:g.ins.findIdx? (fun e=>decide (e.aW=(t:Int)) && decide (e.port=(q:Int))) with
  | some i =>
   obtain ⟨hi,_⟩:=List.findIdx?_eq_some_iff_getElem.1 h2;simp only;omega
  | none =>
   rw [List.findIdx?_eq_none_iff] at h1 h2;rw [Bool.or_eq_true,List.any_eq_true,List.any_eq_true] at hI
   rcases hI with ⟨x,hx,hp⟩ | ⟨x,hx,hp⟩
   ·
    rw [h1 x hx] at hp;cases hp
   ·
    rw [h2 x hx] at hp;cases hp
theorem Sound.Lf {g:av}(h:Sound g){t q:Nat}(ht:t < g.actors.length)(hq:q < (aF g t).length):toP g t q < g.edges.length\/(g.edges.length+g.ins.length<=toP g t q/\toP g t q < g.edges.length+g.ins.length+g.outs.length):=by
 have hI:=h.aby t q ht hq;unfold outT at hI;rw [List.take_length,List.take_length] at hI;unfold toP;cases h1:g.edges.findIdx? (fun e=>decide (e.src=(t:Int)) && decide (e.dw=(q:Int))) with
 | some i =>
  obtain ⟨hi,_⟩:=List.findIdx?_eq_some_iff_getElem.1 h1;simp only;omega
 | none =>
  cases h2:g.outs.findIdx? (fun e=>decide (e.aW=(t:Int)) && decide (e.port=(q:Int))) with
  | some i =>
   obtain ⟨hi,_⟩:=List.findIdx?_eq_some_iff_getElem.1 h2;simp only;omega
  | none =>
   rw [List.findIdx?_eq_none_iff] at h1 h2;rw [Bool.or_eq_true,List.any_eq_true,List.any_eq_true] at hI
   rcases hI with ⟨x,hx,hp⟩ | ⟨x,hx,hp⟩
   ·
    rw [h1 x hx] at hp;cases hp
   ·
    rw [h2 x hx] at hp;cases hp
open Go.RowKit
theorem sO (w:World)(b:Nat)(sa:Option Addr)(n cap:Nat)(g:Nat)(hg:g<=n)(hn:n<=maxLen)
  (h1:w.cell? ⟨b,1,none⟩=some (.slice sa n cap))
  (h2:w.cell? ⟨b,2,none⟩=some (.int .i64 g)) :
  Calls Tryz.prog 53 #[.pointer (some ⟨b,0,none⟩)] w fun e w'=>e=.returned (.int .i64 ((n:Int) - g))/\∃ m,w'=w.drewN m:=by
 unfold maxLen at hn;go_enter Tryz.func53,Tryz.ntmps53;go_wp2;go_quiet (fail);go_wp2;go_ret;exact ⟨rfl,_,rfl⟩
theorem CW (w:World)(b:Nat)(C:Int)(sa:Option Addr)(n cap:Nat)(g:Nat)(hg:g<=n)(hn:n<=maxLen)
  (hC:0<=C) (hC':C<=9223372036854775807)
  (h0:w.cell? ⟨b,0,none⟩=some (.int .i64 C))
  (h1:w.cell? ⟨b,1,none⟩=some (.slice sa n cap))
  (h2:w.cell? ⟨b,2,none⟩=some (.int .i64 g)) :
  Calls Tryz.prog 92 #[.pointer (some ⟨b,0,none⟩)] w fun e w'=>e=.returned (.int .i64 (max 0 (C - ((n:Int) - g))))/\∃ m,w'=w.drewN m:=by
 unfold maxLen at hn;go_enter Tryz.func92,Tryz.ntmps92;go_wp2;go_quiet ((go_at_call 53;go_must (exact Calls.quiet_of (sO _ _ _ _ _ _ hg hn h1 h2))));go_wp2
 all_goals
  go_ret;exact ⟨wo (by show _=max _ _;omega),_,rfl⟩
theorem Jz:(Tryz.prog.info? 3).map (fun i=>(i.zero,i.size,i.bytes))=some (some (.int .i64 0),1,8):=by kernel_rfl
theorem QB (w:World)(b:Nat)(C X:Int)(v:Value)(n:Nat)(xs:List Value)(g:Nat)(hg:g<=n)(hn:n < 27000000000000)(base:Nat)(hb:base<=w.heap.size)
  (hC:0<=C) (hC':C<=9223372036854775807) (hroom:(n:Int) - g < C)
  (hQ:w.heap[b]?=some (.cells #[.int .i64 C,v,.int .i64 g] 123 (0,0)))
  (hown:w.ownsRow base 3 1 v n xs) (hvb:v.ownBlock≠some b) :
  Calls Tryz.prog 77 #[.pointer (some ⟨b,0,none⟩),.int .i64 X] w fun e w'=>e=.returned (.bool true)/\aG (fun k=>k=b\/v.ownBlock=some k) w w' /\
   ∃ v',w'.heap[b]?=some (.cells #[.int .i64 C,v',.int .i64 g] 123 (0,0))/\w'.ownsRow base 3 1 v' (n+1) (xs ++ [.int .i64 X])/\(v'.ownBlock=v.ownBlock\/∃ k,v'.ownBlock=some k/\w.heap.size<=k):=by
 obtain ⟨sa,cap,rfl⟩:=aA hown;obtain ⟨i0,hi,hz0,hz1,hz2⟩:=info_parts Jz;have h0:=ah w b hQ 0 (.int .i64 C) rfl;have h1:=ah w b hQ 1 (.slice sa n cap) rfl;have h2:=ah w b hQ 2 (.int .i64 g) rfl;have hbw:=block_lt hQ;go_enter Tryz.func77,Tryz.ntmps77;go_wp2_with fail;refine (CW _ b C sa n cap g hg (by unfold maxLen;omega) hC hC' h0 h1 h2).mono ?_;rintro e w' ⟨rfl,m,rfl⟩;have Hn:=af hn;clear hn;go_wp2_with (at_builtin;refine aU ?_);refine dR ?_;refine aS rfl _ _ 27 rfl base 3 i0 _ 1 8 Tryz.underlying27 hi hz0 hz1 hz2 rfl (.slice sa n cap) n xs rfl (hown.alloc (.cells #[.int .i64 X] 3)) (some ⟨w.heap.size,0,none⟩) 1 1 [.int .i64 X] rfl rfl (fun h=>by cases h) (bC w [.int .i64 X] 3) (by simp [Value.oneCell']) (by have:=Hn.out;unfold maxLen;omega) (bA (by have:=Hn.out;omega)) (gy hb _) ?_;intro v' w2 g1 g20 _ g4;obtain ⟨sa',cap',rfl⟩:=aA g1;have g2:(w.alloc (.cells #[.int .i64 X] 3)).grownBy w2 (Value.slice sa n cap).ownBlock:=⟨g20.os,g20.tape,g20.output,g20.size,g20.block⟩;clear g20;have CX:=kJ (aI hQ (.cells #[.int .i64 X] 3)) g2 hvb;have c4:=ah w2 b CX 1 (.slice sa n cap) rfl;have f4:=aj CX 1;go_wp2;have hm2:aG (fun k=>k=b\/(Value.slice sa n cap).ownBlock=some k) w w2:=((aG.refl _ _).alloc (.cells #[.int .i64 X] 3)).grown g2 (fun k hk _=>.inr hk);go_ret;refine ⟨rfl,hm2.setCell (fun _=>.inl rfl) _,_,?_,ownsRow_setCell_other g1 ?_ _,?_⟩
 ·
  exact block_setCell CX 1 _
 ·
  rcases g4 with g4 | g4
  ·
   rw [g4];exact hvb
  ·
   rw [g4];intro h;have:=Option.some.inj h;simp at this;omega
 ·
  rcases g4 with g4 | g4
  ·
   exact .inl g4
  ·
   exact .inr ⟨_,g4,by simp⟩
theorem Vh (w:World)(b:Nat)(C X:Int)(v:Value)(n g:Nat)(xs:List Value)(base:Nat)(hn:n<=27000000000000)(hg:g < n)(hg2:g < 32)
  (hQ:w.heap[b]?=some (.cells #[.int .i64 C,v,.int .i64 g] 123 (0,0)))
  (hown:w.ownsRow base 3 1 v n xs) (hvb:v.ownBlock≠some b) (hx:xs[g]?=some (.int .i64 X)) :
  Calls Tryz.prog 127 #[.pointer (some ⟨b,0,none⟩)] w fun e w'=>e=.returned (.tuple #[.int .i64 X,.bool true])/\aG (fun k=>k=b) w w' /\
   w'.heap[b]?=some (.cells #[.int .i64 C,v,.int .i64 (g+1:Nat)] 123 (0,0)):=by
 obtain ⟨sa,cap,rfl⟩:=aA hown;obtain ⟨_,hnc,gl,hgl,rfl,hcl,hfl,aai⟩:=bQ hown (by have:=(List.getElem?_eq_some_iff.1 hx).1;omega);have hbl:b≠gl:=fun h=>hvb (by simp [Value.ownBlock,h]);have h1:=ah w b hQ 1 (.slice (some ⟨gl,0,none⟩) n cap) rfl;have h2:=ah w b hQ 2 (.int .i64 g) rfl;have f2:=aj hQ 2;have f1:=aj hQ 1;have hX:=hcl g _ hx;have hbw:=block_lt hQ;have hlg:(g:Int) < n:=by omega
 have hd:decide ((32:Int) < (g:Int)+1)=false:=by simp;omega
 go_enter Tryz.func127,Tryz.ntmps127;go_wp2_with fail;refine (sO _ b (some ⟨gl,0,none⟩) n cap g (by omega) (by unfold maxLen;omega) h1 h2).mono ?_;rintro e w' ⟨rfl,m,rfl⟩;clear hfl;have hcl':=af hcl;clear hcl;go_wp2;go_quiet (fail);go_wp2;go_quiet (fail);go_wp2;go_ret2;refine ⟨rfl,?_,?_⟩
 ·
  repeat (first | exact aG.refl _ _ | refine aG.setCell ?_ (by first | (intro h;simp at h;done) | (intro _;rfl)) _ | refine aG.alloc ?_ _ | refine aG.drewN ?_ _ | refine aG.drew ?_)
 ·
  exact block_setCell hQ 2 _
theorem Vi (w:World)(b:Nat)(C X:Int)(v:Value)(n g:Nat)(xs:List Value)(base:Nat)(hn:n<=27000000000000)(hg:g < n)(hg2:32<=g)(hg3:2*(g+1)<=n)
  (hQ:w.heap[b]?=some (.cells #[.int .i64 C,v,.int .i64 g] 123 (0,0)))
  (hown:w.ownsRow base 3 1 v n xs) (hvb:v.ownBlock≠some b) (hx:xs[g]?=some (.int .i64 X)) :
  Calls Tryz.prog 127 #[.pointer (some ⟨b,0,none⟩)] w fun e w'=>e=.returned (.tuple #[.int .i64 X,.bool true])/\aG (fun k=>k=b) w w' /\
   w'.heap[b]?=some (.cells #[.int .i64 C,v,.int .i64 (g+1:Nat)] 123 (0,0)):=by
 obtain ⟨sa,cap,rfl⟩:=aA hown;obtain ⟨_,hnc,gl,hgl,rfl,hcl,hfl,aai⟩:=bQ hown (by have:=(List.getElem?_eq_some_iff.1 hx).1;omega);have hbl:b≠gl:=fun h=>hvb (by simp [Value.ownBlock,h]);have h1:=ah w b hQ 1 (.slice (some ⟨gl,0,none⟩) n cap) rfl;have h2:=ah w b hQ 2 (.int .i64 g) rfl;have f2:=aj hQ 2;have f1:=aj hQ 1;have hX:=hcl g _ hx;have hbw:=block_lt hQ;have hlg:(g:Int) < n:=by omega
 have hd:decide ((32:Int) < (g:Int)+1)=true:=by simp;omega
 have hd2:decide ((n:Int) < 2*((g:Int)+1))=false:=by simp;omega
 go_enter Tryz.func127,Tryz.ntmps127;go_wp2_with fail;refine (sO _ b (some ⟨gl,0,none⟩) n cap g (by omega) (by unfold maxLen;omega) h1 h2).mono ?_;rintro e w' ⟨rfl,m,rfl⟩;clear hfl;have hcl':=af hcl;clear hcl;go_wp2;go_quiet (fail);go_wp2;go_quiet (fail);go_wp2;go_ret2;refine ⟨rfl,?_,?_⟩
 ·
  repeat (first | exact aG.refl _ _ | refine aG.setCell ?_ (by first | (intro h;simp at h;done) | (intro _;rfl)) _ | refine aG.alloc ?_ _ | refine aG.drewN ?_ _ | refine aG.drew ?_)
 ·
  exact block_setCell hQ 2 _
theorem Vj (w:World)(b:Nat)(C X:Int)(v:Value)(n g:Nat)(xs:List Value)(base:Nat)(hn:n<=27000000000000)(hg:g < n)(hg2:32<=g)(hg3:n < 2*(g+1))(hb:base<=w.heap.size)(hone:∀ u∈xs,u.oneCell'=true)
  (hQ:w.heap[b]?=some (.cells #[.int .i64 C,v,.int .i64 g] 123 (0,0)))
  (hown:w.ownsRow base 3 1 v n xs) (hvb:v.ownBlock≠some b) (hx:xs[g]?=some (.int .i64 X)) :
  Calls Tryz.prog 127 #[.pointer (some ⟨b,0,none⟩)] w fun e w'=>e=.returned (.tuple #[.int .i64 X,.bool true])/\aG (fun k=>k=b) w w' /\
   ∃ v',w'.heap[b]?=some (.cells #[.int .i64 C,v',.int .i64 0] 123 (0,0))/\w'.ownsRow base 3 1 v' (n - (g+1)) (xs.drop (g+1))/\(∃ k,v'.ownBlock=some k/\w.heap.size<=k):=by
 obtain ⟨sa,cap,rfl⟩:=aA hown;obtain ⟨_,hnc,gl,hgl,rfl,hcl,hfl,aai⟩:=bQ hown (by have:=(List.getElem?_eq_some_iff.1 hx).1;omega);have hbl:b≠gl:=fun h=>hvb (by simp [Value.ownBlock,h]);have h1:=ah w b hQ 1 (.slice (some ⟨gl,0,none⟩) n cap) rfl;have h2:=ah w b hQ 2 (.int .i64 g) rfl;have f2:=aj hQ 2;have f1:=aj hQ 1;have hX:=hcl g _ hx;have hbw:=block_lt hQ;have hlg:(g:Int) < n:=by omega
 have hd:decide ((32:Int) < (g:Int)+1)=true:=by simp;omega
 have hd2:decide ((n:Int) < 2*((g:Int)+1))=true:=by simp;omega
 obtain ⟨i0,hi,hz0,hz1,hz2⟩:=info_parts Jz;go_enter Tryz.func127,Tryz.ntmps127;go_wp2_with fail;refine (sO _ b (some ⟨gl,0,none⟩) n cap g (by omega) (by unfold maxLen;omega) h1 h2).mono ?_;rintro e w' ⟨rfl,m,rfl⟩;clear hfl;have hcl':=af hcl;clear hcl;go_wp2;go_quiet (fail);go_wp2;go_quiet (fail);go_wp2;refine Iz (fun w2=>w2.heap[b]?=some (.cells #[.int .i64 C,.slice (some ⟨gl,0,none⟩) n cap,.int .i64 (g+1)] 123 (0,0))/\aG (fun k=>k=b) w w2/\(∀ j u,xs[j]?=some u->w2.cell? ⟨gl,j,none⟩=some u)) ?_ ?_
 ·
  refine ⟨block_setCell hQ 2 _,?_,fun j u hu=>?_⟩
  ·
   repeat (first | exact aG.refl _ _ | refine aG.setCell ?_ (by first | (intro h;simp at h;done) | (intro _;rfl)) _ | refine aG.alloc ?_ _ | refine aG.drewN ?_ _ | refine aG.drew ?_)
  ·
   rw [<- hcl'.out j u hu];exact World.cell?_of_block (w:=w) (Below.heap_setCell w _ _ gl hbl.symm)
 clear h1 h2 f2 f1 hX;rintro w2 ⟨lD,hm2,DW⟩;have h3:=ah w2 b lD 1 (.slice (some ⟨gl,0,none⟩) n cap) rfl;have h4:=ah w2 b lD 2 (.int .i64 (g+1)) rfl;have hw2:=block_lt lD;have hb2:base<=w2.heap.size:=Nat.le_trans hb hm2.size;have hle:(g:Int)+1<=n:=by omega
 have hg0:(0:Int)<=(g:Int)+1:=by omega
 by_cases hcg:cap=g+1
 ·
  obtain rfl:n=g+1:=by omega
  subst hcg;refine aM (fun w'=>w'.cell? ⟨b,1,none⟩=some (.slice (some ⟨gl,0,none⟩) (g+1) (g+1))/\w'.cell? ⟨b,2,none⟩=some (.int .i64 (g+1))) [0,2,3,4,5,6,7,8,9,10] [1,11,12,13,14] (by kernel_rfl) (by kernel_rfl) rfl (fun _ _ hx h=>⟨hx.cell h.1,hx.cell h.2⟩) ⟨h3,h4⟩ ?_;intro Q' hQ';simp only [aQ,List.flatMap_cons,List.flatMap_nil,List.drop_succ_cons,List.drop_zero,List.take_succ_cons,List.take_zero,List.cons_append,List.nil_append,List.append_nil];refine aD ?_;refine ax ?_;refine wpList_plain rfl fun K hK=>?_
  go_simp
  refine hK _ _ ?_;clear hK K;have hown0:=World.ownsRow_made (e:=3) (size:=1) w2 #[] 0 hb2 (Nat.zero_le _) rfl;refine aS rfl _ _ 27 rfl base 3 i0 _ 1 8 Tryz.underlying27 hi hz0 hz1 hz2 rfl (.slice (some ⟨w2.heap.size,0,none⟩) 0 0) 0 [] rfl hown0 (some ⟨gl,0,none⟩) 0 _ [] rfl rfl (fun h=>by cases h)
   (fun _ _ _ _ hu=>by simp at hu) (fun u hu=>by simp at hu) (by unfold maxLen;omega) (bA (by omega)) (gy hb2 _) ?_
  intro v' w3 g1 g20 _ g4;have g2:=zY g20;clear g20;simp only [Nat.zero_add,List.nil_append] at g1;obtain ⟨sa',cap',rfl⟩:=aA g1;have hdrop:xs.drop (g+1)=[]:=List.drop_eq_nil_of_le (by rw [hown.1];omega);have Yi:(Value.slice (some ⟨w2.heap.size,0,none⟩) 0 0).ownBlock≠some b:=fun h=>by have:=Option.some.inj h;simp at this;omega
  have CX:=kJ (aI lD (.cells #[] 3)) g2 Yi;have Zj:aG (fun k=>k=b) w w3:=(hm2.alloc (.cells #[] 3)).grown g2 (fun k hk hlt=>by have:=Option.some.inj hk;have:=hm2.size;simp at *;omega);have c31:=ah w3 b CX 1 (.slice (some ⟨gl,0,none⟩) (g+1) (g+1)) rfl;have c32:=ah w3 b CX 2 (.int .i64 (g+1)) rfl;have f31:=aj CX 1;have f32:=aj CX 2;have Aq:∃ k,(Value.slice sa' 0 cap').ownBlock=some k/\w2.heap.size<=k:=by
   rcases g4 with g4 | g4
   ·
    exact ⟨_,g4,Nat.le_refl _⟩
   ·
    exact ⟨_,g4,by simp⟩
  have hsz2:=hm2.size;clear lD h3 h4 g2 g4 hown DW hown0 hQ;go_wp2;go_ret2;refine ⟨rfl,?_,_,block_setCell (block_setCell CX 1 _) 2 _,?_,?_⟩
  ·
   repeat (first | exact Zj | refine aG.setCell ?_ (by intro _;rfl) _)
  ·
   obtain ⟨k,hk,hk2⟩:=Aq;have hkb:k≠b:=by omega
   repeat (first | exact g1 | refine ownsRow_setCell_other ?_ (by rw [hk];intro h;exact hkb (Option.some.inj h)) _)
  ·
   obtain ⟨k,hk,hk2⟩:=Aq;exact ⟨k,hk,by omega⟩
 have acn:¬ (cap:Int)=(g:Int)+1:=by omega
 refine aM (fun w'=>w'.cell? ⟨b,1,none⟩=some (.slice (some ⟨gl,0,none⟩) n cap)/\w'.cell? ⟨b,2,none⟩=some (.int .i64 (g+1))) [0,2,3,4,5,6,7,8,9,10] [1,11,12,13,14] (by kernel_rfl) (by kernel_rfl) rfl (fun _ _ hx h=>⟨hx.cell h.1,hx.cell h.2⟩) ⟨h3,h4⟩ ?_;intro Q' hQ';simp only [aQ,List.flatMap_cons,List.flatMap_nil,List.drop_succ_cons,List.drop_zero,List.take_succ_cons,List.take_zero,List.cons_append,List.nil_append,List.append_nil];refine aD ?_;refine ax ?_;refine wpList_plain rfl fun K hK=>?_
 go_simp
 refine hK _ _ ?_;clear hK K;have hown0:=World.ownsRow_made (e:=3) (size:=1) w2 #[] 0 hb2 (Nat.zero_le _) rfl;refine aS rfl _ _ 27 rfl base 3 i0 _ 1 8 Tryz.underlying27 hi hz0 hz1 hz2 rfl (.slice (some ⟨w2.heap.size,0,none⟩) 0 0) 0 [] rfl hown0 (some ⟨gl,g+1,none⟩) (n - (g+1)) _ (xs.drop (g+1)) rfl (by rw [List.length_drop,hown.1];omega) (fun h=>by cases h)
  (by exact Fp (fun j u hu=>ca (DW j u hu)) rfl) (fun u hu=>hone u (List.mem_of_mem_drop hu)) (by unfold maxLen;omega) (bA (by omega)) (gy hb2 _) ?_
 intro v' w3 g1 g20 _ g4;have g2:=zY g20;clear g20;simp only [Nat.zero_add,List.nil_append] at g1;obtain ⟨sa',cap',rfl⟩:=aA g1;have Yi:(Value.slice (some ⟨w2.heap.size,0,none⟩) 0 0).ownBlock≠some b:=fun h=>by have:=Option.some.inj h;simp at this;omega
 have CX:=kJ (aI lD (.cells #[] 3)) g2 Yi;have Zj:aG (fun k=>k=b) w w3:=(hm2.alloc (.cells #[] 3)).grown g2 (fun k hk hlt=>by have:=Option.some.inj hk;have:=hm2.size;simp at *;omega);have c31:=ah w3 b CX 1 (.slice (some ⟨gl,0,none⟩) n cap) rfl;have c32:=ah w3 b CX 2 (.int .i64 (g+1)) rfl;have f31:=aj CX 1;have f32:=aj CX 2;have Aq:∃ k,(Value.slice sa' (n - (g+1)) cap').ownBlock=some k/\w2.heap.size<=k:=by
  rcases g4 with g4 | g4
  ·
   exact ⟨_,g4,Nat.le_refl _⟩
  ·
   exact ⟨_,g4,by simp⟩
 have hsz2:=hm2.size;clear lD h3 h4 g2 g4 hown DW hown0 hQ;go_wp2;go_ret2;refine ⟨rfl,?_,_,block_setCell (block_setCell CX 1 _) 2 _,?_,?_⟩
 ·
  repeat (first | exact Zj | refine aG.setCell ?_ (by intro _;rfl) _)
 ·
  obtain ⟨k,hk,hk2⟩:=Aq;have hkb:k≠b:=by omega
  repeat (first | exact g1 | refine ownsRow_setCell_other ?_ (by rw [hk];intro h;exact hkb (Option.some.inj h)) _)
 ·
  obtain ⟨k,hk,hk2⟩:=Aq;exact ⟨k,hk,by omega⟩
theorem Vk (w:World)(C:Int)(x:Value)(h:C < 0) :
  Calls Tryz.prog 16 #[.int .i64 C,x] w fun e w'=>e=.returned (.tuple #[.pointer none,.int .i64 240])/\w'=w:=by
 go_enter Tryz.func16,Tryz.ntmps16;go_wp2;go_ret2;exact ⟨rfl,rfl⟩
theorem QC (w:World)(C:Int)(ao:Option Addr)(m c:Nat)(news:List Value)(hC:0<=C)(hl:news.length=m*1)(hnone:ao=none->m=0)(hnews:∀ ad,ao=some ad->∀ j u,news[j]?=some u->w.cell? (ad.add j)=some u)(h1:∀ u∈news,u.oneCell'=true)
  (hn:m<=27000000000000) :
  Calls Tryz.prog 16 #[.int .i64 C,.slice ao m c] w fun e w'=>∃ b v,e=.returned (.tuple #[.pointer (some ⟨b,0,none⟩),.int .i64 0])/\Below w.heap.size w w'/\w.heap.size<=b /\
   w'.heap[b]?=some (.cells #[.int .i64 C,v,.int .i64 0] 123 (0,0))/\w'.ownsRow w.heap.size 3 1 v m news/\v.ownBlock≠some b/\v.ownBlock≠none:=by
 obtain ⟨i0,hi,hz0,hz1,hz2⟩:=info_parts Jz;have hnC:¬ C < 0:=by omega
 have Hn:=af hn;clear hn;go_enter Tryz.func16,Tryz.ntmps16;go_wp2_with (at_builtin;refine aU ?_);refine dR ?_;have hown0:=World.ownsRow_made (e:=3) (size:=1) w #[] 0 (Nat.le_refl _) (Nat.zero_le _) rfl;refine aS rfl _ _ 27 rfl w.heap.size 3 i0 _ 1 8 Tryz.underlying27 hi hz0 hz1 hz2 rfl (.slice (some ⟨w.heap.size,0,none⟩) 0 0) 0 [] rfl hown0 ao m c news rfl hl hnone (fun ad had j u hu=>ca (hnews ad had j u hu)) h1 (by have:=Hn.out;unfold maxLen;omega) (bA (by have:=Hn.out;omega)) (gy (Nat.le_refl _) _) ?_;intro v' w2 g1 g2 _ g4;simp only [Nat.zero_add,List.nil_append] at g1;obtain ⟨sa',cap',rfl⟩:=aA g1;have hlt:=g1.lt;go_wp2;go_ret2;refine ⟨w2.heap.size,_,rfl,?_,?_,heap_alloc_new w2 _,g1.alloc _,?_,by rcases g4 with g4 | g4 <;> rw [g4] <;> simp [Value.ownBlock]⟩
 ·
  exact (((Below.refl _ _).alloc (Nat.le_refl _) _).grown g2 (by simp) (fun k hk=>by simp [Value.ownBlock] at hk;omega)).alloc (by have:=g2.size;simp at this;omega) _
 ·
  have:=g2.size;simp at this;omega
 ·
  intro h;have:=(hlt _ h).2;omega
def IQ (w:World)(base b:Nat)(C:Int)(l:List Int)(r:Option Nat)(N:Nat):Prop :=
 ∃ (v:Value) (g:Nat) (zs:List Int),w.heap[b]?=some (.cells #[.int .i64 C,v,.int .i64 (g:Int)] 123 (0,0))/\w.ownsRow base 3 1 v zs.length (zs.map (Value.int .i64))/\g<=zs.length/\zs.drop g=l /\
  v.ownBlock=r/\r≠some b/\zs.length<=N/\0<=C/\C<=9223372036854775807/\base<=b/\r≠none
theorem IQ.frame {w w':World}{base b:Nat}{C:Int}{l:List Int}{r:Option Nat}{N:Nat}{F:Nat->Prop}(h:IQ w base b C l r N)(hm:aG F w w')(hb:¬ F b)(hr:∀ k,r=some k->¬ F k):IQ w' base b C l r N:=by
 obtain ⟨v,g,zs,h1,h2,h3,h4,h5,h6⟩:=h;exact ⟨v,g,zs,aN h1 hm hb,eD h2 hm (fun k hk=>hr k (h5 ▸ hk)),h3,h4,h5,h6⟩
theorem IQ.lt {w:World}{base b:Nat}{C:Int}{l:List Int}{r:Option Nat}{N:Nat}(h:IQ w base b C l r N):b < w.heap.size/\base<=b/\(∀ k,r=some k->base<=k/\k < w.heap.size/\k≠b)/\0<=C/\C<=9223372036854775807/\l.length<=N:=by
 obtain ⟨v,g,zs,h1,h2,h3,h4,h5,h6,h7,h8,h9,h10,h11⟩:=h;refine ⟨block_lt h1,h10,fun k hk=>⟨(h2.lt k (h5.trans hk)).1,(h2.lt k (h5.trans hk)).2,fun e=>h6 (by rw [hk,e])⟩,h8,h9,?_⟩;rw [<- h4,List.length_drop];omega
theorem IQ.mono {w:World}{base b:Nat}{C:Int}{l:List Int}{r:Option Nat}{N N':Nat}(h:IQ w base b C l r N)(hN:N<=N'):IQ w base b C l r N':=by
 obtain ⟨v,g,zs,h1,h2,h3,h4,h5,h6,h7,h8⟩:=h;exact ⟨v,g,zs,h1,h2,h3,h4,h5,h6,Nat.le_trans h7 hN,h8⟩
theorem IQ.parts {w:World}{base b:Nat}{C:Int}{l:List Int}{r:Option Nat}{N:Nat}(h:IQ w base b C l r N):∃ (sa:Option Addr) (n cap g:Nat),g<=n/\n - g=l.length/\n<=N /\
  w.cell? ⟨b,0,none⟩=some (.int .i64 C)/\w.cell? ⟨b,1,none⟩=some (.slice sa n cap)/\w.cell? ⟨b,2,none⟩=some (.int .i64 (g:Int)):=by
 obtain ⟨v,g,zs,h1,h2,h3,h4,h5,h6,h7,h8⟩:=h;obtain ⟨sa,cap,rfl⟩:=aA h2;exact ⟨sa,zs.length,cap,g,h3,by rw [<- h4,List.length_drop],h7,ah w b h1 0 _ rfl,ah w b h1 1 _ rfl,ah w b h1 2 _ rfl⟩
theorem Gy (zs:List Int):∀ u∈zs.map (Value.int .i64),u.oneCell'=true:=ints_oneCell .i64 zs
theorem QD {w:World}{base b:Nat}{C:Int}{l:List Int}{r:Option Nat}{N:Nat}(h:IQ w base b C l r N)(hN:N<=27000000000000) :
  Calls Tryz.prog 53 #[.pointer (some ⟨b,0,none⟩)] w fun e w'=>e=.returned (.int .i64 (l.length:Int))/\∃ m,w'=w.drewN m:=by
 obtain ⟨sa,n,cap,g,hg,hl,hn,_,c1,c2⟩:=h.parts;refine (sO w b sa n cap g hg (by unfold maxLen;omega) c1 c2).mono ?_;rintro e w' ⟨rfl,m,rfl⟩;exact ⟨wo (by omega),m,rfl⟩
theorem Vl {w:World}{base b:Nat}{C:Int}{l:List Int}{r:Option Nat}{N:Nat}(h:IQ w base b C l r N)(hN:N<=27000000000000) :
  Calls Tryz.prog 92 #[.pointer (some ⟨b,0,none⟩)] w fun e w'=>e=.returned (.int .i64 (max 0 (C - (l.length:Int))))/\∃ m,w'=w.drewN m:=by
 obtain ⟨sa,n,cap,g,hg,hl,hn,c0,c1,c2⟩:=h.parts;obtain ⟨_,_,_,hC,hC',_⟩:=h.lt;refine (CW w b C sa n cap g hg (by unfold maxLen;omega) hC hC' c0 c1 c2).mono ?_;rintro e w' ⟨rfl,m,rfl⟩;exact ⟨wo (by show max _ _=max _ _;omega),m,rfl⟩
theorem JA {w:World}{base b:Nat}{C X:Int}{l:List Int}{r:Option Nat}{N:Nat}(h:IQ w base b C l r N)(hN:N < 27000000000000)(hb:base<=w.heap.size)(hf:(l.length:Int) < C) :
  Calls Tryz.prog 77 #[.pointer (some ⟨b,0,none⟩),.int .i64 X] w fun e w'=>e=.returned (.bool true)/\∃ r',IQ w' base b C (l ++ [X]) r' (N+1)/\aG (fun k=>k=b\/r=some k) w w'/\(r'=r\/∃ k,r'=some k/\w.heap.size<=k):=by
 obtain ⟨v,g,zs,h1,h2,h3,h4,h5,h6,h7,h8,h9,h10,h11⟩:=h;have hl:zs.length - g=l.length:=by rw [<- h4,List.length_drop]
 refine (QB w b C X v zs.length (zs.map (Value.int .i64)) g h3 (by omega) base hb h8 h9 (by omega) h1 h2 (by rw [h5];exact h6)).mono ?_;rintro e w' ⟨rfl,hm,v',q1,q2,q3⟩;subst h5;refine ⟨rfl,v'.ownBlock,⟨v',g,zs ++ [X],q1,by simpa using q2,by simp;omega,?_,rfl,?_,by simp;omega,h8,h9,h10,(by rcases q3 with q3 | ⟨k,q3,_⟩ <;> rw [q3] <;> first | exact h11 | simp)⟩,hm,q3⟩
 ·
  rw [List.drop_append_of_le_length h3,h4]
 ·
  rcases q3 with q3 | ⟨k,q3,q4⟩
  ·
   rw [q3];exact h6
  ·
   rw [q3];intro e;have:=Option.some.inj e;have:=block_lt h1;omega
theorem drop_cons {zs l:List Int}{g:Nat}{x:Int}(h:zs.drop g=x :: l):g < zs.length/\zs[g]?=some x/\zs.drop (g+1)=l:=by
 have hlt:g < zs.length:=by
  rcases Nat.lt_or_ge g zs.length with h1 | h1
  ·
   exact h1
  ·
   rw [List.drop_eq_nil_of_le h1] at h;cases h
 rw [List.drop_eq_getElem_cons hlt] at h
 injection h with h1 h2
 exact ⟨hlt,by rw [List.getElem?_eq_getElem hlt,h1],h2⟩
theorem El {w:World}{base b:Nat}{C x:Int}{l:List Int}{r:Option Nat}{N:Nat}(h:IQ w base b C (x :: l) r N)(hN:N<=27000000000000)(hb:base<=w.heap.size) :
  Calls Tryz.prog 127 #[.pointer (some ⟨b,0,none⟩)] w fun e w'=>e=.returned (.tuple #[.int .i64 x,.bool true])/\∃ r',IQ w' base b C l r' N/\aG (fun k=>k=b) w w'/\(r'=r\/∃ k,r'=some k/\w.heap.size<=k):=by
 obtain ⟨v,g,zs,h1,h2,h3,h4,h5,h6,h7,h8,h9,h10,h11⟩:=h;obtain ⟨hg,hx,hd⟩:=drop_cons h4;have hx':(zs.map (Value.int .i64))[g]?=some (.int .i64 x):=by simp [hx]
 have keep:∀ (e:Ending) (w':World),(e=.returned (.tuple #[.int .i64 x,.bool true])/\aG (fun k=>k=b) w w'/\w'.heap[b]?=some (.cells #[.int .i64 C,v,.int .i64 (g+1:Nat)] 123 (0,0))) ->
   e=.returned (.tuple #[.int .i64 x,.bool true])/\∃ r',IQ w' base b C l r' N/\aG (fun k=>k=b) w w'/\(r'=r\/∃ k,r'=some k/\w.heap.size<=k):=by
  rintro e w' ⟨rfl,hm,q1⟩;exact ⟨rfl,r,⟨v,g+1,zs,q1,eD h2 hm (fun k hk e=>h6 (by rw [<- h5,hk,e])),hg,hd,h5,h6,h7,h8,h9,h10,h11⟩,hm,.inl rfl⟩
 by_cases c1:g < 32
 ·
  exact (Vh w b C x v zs.length g _ base (by omega) hg c1 h1 h2 (by rw [h5];exact h6) hx').mono keep
 ·
  by_cases c2:2*(g+1)<=zs.length
  ·
   exact (Vi w b C x v zs.length g _ base (by omega) hg (by omega) c2 h1 h2 (by rw [h5];exact h6) hx').mono keep
  ·
   refine (Vj w b C x v zs.length g _ base (by omega) hg (by omega) (by omega) hb (Gy zs) h1 h2 (by rw [h5];exact h6) hx').mono ?_;rintro e w' ⟨rfl,hm,v',q1,q2,k,q3,q4⟩;have hbw:=block_lt h1;refine ⟨rfl,some k,⟨v',0,l,by simpa using q1,?_,Nat.zero_le _,rfl,q3,fun e=>by have:=Option.some.inj e;omega,?_,h8,h9,h10,by simp⟩,hm,.inr ⟨k,rfl,q4⟩⟩
   ·
    have:zs.length - (g+1)=l.length:=by rw [<- hd,List.length_drop]
    rw [this,<- List.map_drop,hd] at q2;exact q2
   ·
    rw [<- hd,List.length_drop];omega
theorem MU (w:World)(C:Int)(x:Value)(h:C < 0) :
 Calls Tryz.prog 16 #[.int .i64 C,x] w fun e w'=>e=.returned (.tuple #[.pointer none,.int .i64 240])/\w'=w:=Vk w C x h
theorem AZ (w:World)(C:Int)(ao:Option Addr)(c:Nat)(zs:List Int)(hC:0<=C)(hC':C<=9223372036854775807)(hnone:ao=none->zs.length=0)(hnews:∀ ad,ao=some ad->∀ j u,(zs.map (Value.int .i64))[j]?=some u->w.cell? (ad.add j)=some u)(hn:zs.length<=27000000000000) :
  Calls Tryz.prog 16 #[.int .i64 C,.slice ao zs.length c] w fun e w'=>∃ b r,e=.returned (.tuple #[.pointer (some ⟨b,0,none⟩),.int .i64 0])/\Below w.heap.size w w'/\IQ w' w.heap.size b C zs r zs.length:=by
 refine (QC w C ao zs.length c (zs.map (Value.int .i64)) hC (by simp) hnone hnews (Gy zs) hn).mono ?_;rintro e w' ⟨b,v,rfl,hb,hbb,q1,q2,q3,q4⟩;exact ⟨b,v.ownBlock,rfl,hb,v,0,zs,by simpa using q1,q2,Nat.zero_le _,rfl,rfl,q3,Nat.le_refl _,hC,hC',hbb,q4⟩
def bT (w:World)(o:Col)(c:Nat)(e:TypeId)(v:Value)(xs:List Value):Prop :=
 (xs=[]/\v=.slice none 0 0) \/
 ∃ g off cap cur,v=.slice (some ⟨g,off,none⟩) xs.length cap/\w.heap[g]?=some (.cells cur e (0,0))/\o g=c/\xs.length<=cap/\off+cap<=cur.size/\cap<=maxLen/\(cur.toList.drop off).take xs.length=xs
theorem bT.nil (w:World)(o:Col)(c:Nat)(e:TypeId):bT w o c e (.slice none 0 0) []:=.inl ⟨rfl,rfl⟩
theorem bT.turn {w w':World}{o o':Col}{C:Nat->Prop}{c:Nat}{e:TypeId}{v:Value}{xs:List Value}(h:bT w o c e v xs)(T:Turn o o' C w w')(hc:¬ C c):bT w' o' c e v xs:=by
 rcases h with h | ⟨g,off,cap,cur,h1,h2,h3,h4,h5,h6,h7⟩
 ·
  exact .inl h
 ·
  obtain ⟨k1,k2⟩:=T.block h2 (by rw [h3];exact hc);exact .inr ⟨g,off,cap,cur,h1,k1,k2.trans h3,h4,h5,h6,h7⟩
theorem bT.slice {w:World}{o:Col}{c:Nat}{e:TypeId}{v:Value}{xs:List Value}(h:bT w o c e v xs):∃ ao cap,v=.slice ao xs.length cap:=by
 rcases h with ⟨rfl,h⟩ | ⟨g,off,cap,cur,h1,_⟩
 ·
  exact ⟨none,0,h⟩
 ·
  exact ⟨_,_,h1⟩
theorem bT.vals {w:World}{o:Col}{c:Nat}{e:TypeId}{v:Value}{xs:List Value}(h:bT w o c e v xs):cu w o c v xs:=by
 rcases h with ⟨rfl,h⟩ | ⟨g,off,cap,cur,h1,h2,h3,h4,h5,h6,h7⟩
 ·
  exact .inl ⟨rfl,_,_,h⟩
 ·
  by_cases hp:0 < xs.length
  ·
   refine .inr ⟨hp,g,off,cap,h1,h4,block_lt h2,h3,fun k hk=>?_⟩;have h8:xs[k]?=cur.toList[off+k]?:=by
    rw [<- h7,List.getElem?_take_of_lt hk,List.getElem?_drop]
   have h9:off+k < cur.size:=by omega
   rw [h8];refine ah w g h2 (off+k) _ ?_;rw [<- Array.getElem?_toList];rw [List.getElem?_eq_getElem (by simpa using h9)];rfl
  ·
   have:xs=[]:=List.eq_nil_of_length_eq_zero (by omega);subst this;exact .inl ⟨rfl,_,_,h1⟩
theorem bT.drop {w:World}{o:Col}{c:Nat}{e:TypeId}{g off n cap:Nat}{xs:List Value}(h:bT w o c e (.slice (some ⟨g,off,none⟩) n cap) xs){k:Nat}(hk:k<=xs.length)(_hc:cap≠k):bT w o c e (.slice (some ⟨g,off+k,none⟩) (n - k) (cap - k)) (xs.drop k):=by
 rcases h with ⟨_,h⟩ | ⟨g,off,cap,cur,h1,h2,h3,h4,h5,h6,h7⟩
 ·
  cases h
 ·
  cases h1
  refine .inr ⟨g,off+k,cap - k,cur,by rw [List.length_drop],h2,h3,by rw [List.length_drop];omega,by omega,by omega,?_⟩;rw [List.length_drop,<- List.drop_drop,<- List.drop_take,h7]
theorem bT.empty {w:World}{o:Col}{c:Nat}{e:TypeId}{g off n cap:Nat}{xs:List Value}(h:bT w o c e (.slice (some ⟨g,off,none⟩) n cap) xs):bT w o c e (.slice (some ⟨g,off,none⟩) 0 0) []:=by
 rcases h with ⟨_,h⟩ | ⟨g,off,cap,cur,h1,h2,h3,h4,h5,h6,h7⟩
 ·
  cases h
 ·
  cases h1
  exact .inr ⟨g,off,0,cur,rfl,h2,h3,Nat.le_refl _,by omega,by omega,rfl⟩
theorem bT.JB {w:World}{o:Col}{c:Nat}{e:TypeId}{v:Value}{n:Nat}{xs:List Value}(h:Own w o c e 1 v n xs):bT w o c e v xs:=by
 obtain ⟨⟨hl,h⟩,ho⟩:=h;rw [Nat.mul_one] at hl
 rcases h with ⟨rfl,h⟩ | ⟨g,cap,cur,rfl,_,h2,h3,h4,h5,h6⟩
 ·
  exact .inl ⟨List.eq_nil_of_length_eq_zero (by omega),rfl⟩
 ·
  refine .inr ⟨g,0,cap,cur,by rw [hl],h2,ho g rfl,by omega,by omega,h4,?_⟩;rw [Nat.mul_one] at h6;rw [List.drop_zero,hl,h6]
theorem Em {P:Program}(w:World)(t ty e:TypeId)(i:TypeInfo)(ht:P.underlying t=some (.slice e))(hi:P.info? e=some i)(h1s:i.size=1)
  (g off sLen sCap:Nat) (cur:Array Value) (hg:w.heap[g]?=some (.cells cur e (0,0)))
  (a:Addr) (m c:Nat) (news:List Value) (hl:news.length=m) (hnews:∀ j u,news[j]?=some u->w.cell? (a.add j)=some u) (h1:∀ u∈news,u.oneCell'=true)
  (hroom:sLen+m<=sCap) (hfit:off+sCap<=cur.size) :
  (Builtin.append_ #[t,t] ty #[.slice (some ⟨g,off,none⟩) sLen sCap,.slice (some a) m c]).run P w =
   .ok (.slice (some ⟨g,off,none⟩) (sLen+m) sCap) (w.setRow g (cur.toList.take (off+sLen) ++ news ++ cur.toList.drop (off+sLen+news.length)).toArray):=by
 have hf:=run_firstCells_some (P:=P) w i.size m a m c news (by rw [h1s,hl,Nat.mul_one]) hnews;have hst:=run_storeCells_at P g (off+sLen) e news 0 cur w hg (by omega) h1;simp only [Nat.add_zero] at hst;rw [h1s] at hf;simp [Builtin.append_,run_underlying ht,sizeOf,typeInfo,hi,Builtin.lenOf,hroom,hf,Addr.add_lit,hst,h1s]
theorem Gz {P:Program}(w:World)(o:Col)(k:Nat)(t ty e:TypeId)(i:TypeInfo)(z:Value)(bytes:Nat)(ht:P.underlying t=some (.slice e))(hi:P.info? e=some i)(hz:i.zero=some z)
  (hsize:i.size=1) (hby:i.bytes=bytes) (hzs:z.cells.size=1)
  (v:Value) (xs:List Value) (hown:bT w o k e v xs)
  (ao:Option Addr) (m c:Nat) (news:List Value) (hl:news.length=m) (hnone:ao=none->m=0) (hnews:∀ a,ao=some a->∀ j u,news[j]?=some u->w.cell? (a.add j)=some u) (h1:∀ u∈news,u.oneCell'=true)
  (h63:xs.length+m<=maxLen) (hgrow:∀ old,old < xs.length+m->Builtin.nextslicecap (xs.length+m) old*bytes<=281474976710656) :
  ∃ v' w',(Builtin.append_ #[t,t] ty #[v,.slice ao m c]).run P w=.ok v' w'/\Turn o (ext o w.heap.size k) (fun x=>x=k) w w'/\bT w' (ext o w.heap.size k) k e v' (xs ++ news):=by
 have T0:Turn o (ext o w.heap.size k) (fun x=>x=k) w w:=⟨aG.refl _ _,fun j hj=>dm hj⟩;have hlo:(xs ++ news).length=xs.length+m:=by rw [List.length_append,hl]
 cases ao with
 | none =>
  obtain rfl:=hnone rfl;have hn:news=[]:=List.eq_nil_of_length_eq_zero hl;subst hn;rw [List.append_nil];refine ⟨v,w,?_,T0,?_⟩
  ·
   rcases hown with ⟨rfl,rfl⟩ | ⟨g,off,cap,cur,rfl,h2,h3,h4,h5,h6,h7⟩
   ·
    simp [Builtin.append_,run_underlying ht,sizeOf,typeInfo,hi,Builtin.lenOf,Builtin.firstCells]
   ·
    simp [Builtin.append_,run_underlying ht,sizeOf,typeInfo,hi,Builtin.lenOf,Builtin.firstCells,h4,storeCells]
  ·
   rcases hown with h | ⟨g,off,cap,cur,h1,h2,h3,h⟩
   ·
    exact .inl h
   ·
    exact .inr ⟨g,off,cap,cur,h1,h2,(dm (block_lt h2)).trans h3,h⟩
 | some a =>
  have hnews:=hnews a rfl;have hsmall:xs.length+m<=9223372036854775807:=by simp only [maxLen] at h63;omega
  have grown:∀ (old:Nat),old < xs.length+m ->
    Turn o (ext o w.heap.size k) (fun x=>x=k) w (w.drew.alloc (.cells (xs.toArray ++ news.toArray ++ Builtin.zeroCells z.cells (grownCap w (xs.length+m) old e - (xs.length+m))) e)) /\
    bT (w.drew.alloc (.cells (xs.toArray ++ news.toArray ++ Builtin.zeroCells z.cells (grownCap w (xs.length+m) old e - (xs.length+m))) e)) (ext o w.heap.size k) k e (.slice (some ⟨w.heap.size,0,none⟩) (xs.length+m) (grownCap w (xs.length+m) old e)) (xs ++ news):=by
   intro old ho;have hge:=grownCap_ge w (xs.length+m) old e;have hcm:grownCap w (xs.length+m) old e<=maxLen:=grownCap_le_maxLen w (xs.length+m) old e h63;have hb:Below w.heap.size w (w.drew.alloc (.cells (xs.toArray ++ news.toArray ++ Builtin.zeroCells z.cells (grownCap w (xs.length+m) old e - (xs.length+m))) e)):=⟨rfl,rfl,rfl,by simp,fun k hk=>Below.heap_alloc w.drew _ k (by simpa using hk)⟩;refine ⟨(Turn.of_below o k hb).mono (fun _ h=>h.elim),.inr ⟨w.heap.size,0,_,_,by rw [hlo],heap_alloc_new w.drew _,dI (Nat.le_refl _),by rw [hlo];exact hge,?_,hcm,?_⟩⟩
   ·
    simp only [Array.size_append,List.size_toArray,size_zeroCells,hzs,hl];omega
   ·
    simp only [Array.toList_append,List.append_assoc,List.drop_zero];rw [<- List.append_assoc];exact List.take_left
  rcases hown with ⟨rfl,rfl⟩ | ⟨g,off,cap,cur,rfl,h2,h3,h4,h5,h6,h7⟩
  ·
   by_cases hm:m=0
   ·
    subst hm;have hn:news=[]:=List.eq_nil_of_length_eq_zero hl;subst hn;refine ⟨.slice none 0 0,w,?_,T0,bT.nil _ _ _ _⟩;simp [Builtin.append_,run_underlying ht,sizeOf,typeInfo,hi,Builtin.lenOf,Builtin.firstCells,loadCells,loadCellsFrom]
   ·
    have hb0:=hgrow 0 (by simp;omega);simp only [List.length_nil,Nat.zero_add,nextslicecap_zero (need:=m) (by omega)] at hb0;have hr:=run_append_nil (P:=P) w t ty e i z ht hi hz a m c news (by rw [hsize,hl,Nat.mul_one]) hnews (by omega) (by have:=hsmall;simp at this;omega) (by rw [hby];exact hb0);have hgr:=grown 0 (by simp;omega);simp only [List.length_nil,Nat.zero_add,List.nil_append,Array.empty_append] at hgr ⊢;exact ⟨_,_,hr,hgr.1,hgr.2⟩
  ·
   by_cases hroom:xs.length+m<=cap
   ·
    have hr:=Em (P:=P) w t ty e i ht hi hsize g off xs.length cap cur h2 a m c news hl hnews h1 hroom h5;have hm:aG (fun j=>j=g) w (w.setRow g (cur.toList.take (off+xs.length) ++ news ++ cur.toList.drop (off+xs.length+news.length)).toArray):=⟨rfl,rfl,rfl,by simp,fun j _ hj=>setRow_other w g j _ hj⟩;refine ⟨_,_,hr,Turn.kT o k hm (fun j _ e=>by rw [e];exact h3),.inr ⟨g,off,cap,_,by rw [hlo],setRow_heap w g cur _ e _ h2,(dm (block_lt h2)).trans h3,by rw [hlo];exact hroom,?_,h6,?_⟩⟩
    ·
     simp only [List.size_toArray,List.length_append,List.length_take,List.length_drop,Array.length_toList];omega
    ·
     simp only [hlo];have e1:(cur.toList.take (off+xs.length)).drop off=xs:=by rw [List.drop_take,Nat.add_sub_cancel_left,h7]
     have hlt:(cur.toList.take (off+xs.length)).length=off+xs.length:=by
      have hcl:cur.toList.length=cur.size:=Array.length_toList;rw [List.length_take];omega
     rw [List.append_assoc,List.drop_append_of_le_length (by rw [hlt];omega),e1,<- List.append_assoc,<- hlo];exact List.take_left
   ·
    have holds:∀ j u,xs[j]?=some u->w.cell? ((⟨g,off,none⟩:Addr).add j)=some u:=fun j u hu=>by
     have hj:=(List.getElem?_eq_some_iff.1 hu).1;rw [Addr.add_lit];refine ah w g h2 (off+j) u ?_;rw [<- h7,List.getElem?_take_of_lt hj,List.getElem?_drop] at hu;rw [<- Array.getElem?_toList];exact hu
    have hr:=run_append_grow (P:=P) w t ty e i z ht hi hz ⟨g,off,none⟩ xs.length cap xs (by rw [hsize,Nat.mul_one]) holds a m c news (by rw [hsize,hl,Nat.mul_one]) hnews (by omega) (by omega) (by rw [hby];exact hgrow cap (by omega));have hgr:=grown cap (by omega);exact ⟨_,_,hr,hgr.1,hgr.2⟩
theorem nZ {P:Program}{w:World}{ops:Array Oper}{rest:List Oper}{op:Oper}{a:Go.Act}{Q:Exit->Go.Act->World->Prop}(hgd:op.guard=none)(s x:Operand)(t:TypeId)
  (ho:op.op=.call { callee:=.builtin .append,args:=#[s,x],argTypes:=#[t,t] })
  (o:Col) (k:Nat) (e:TypeId) (i:TypeInfo) (z:Value) (bytes:Nat) (ht:P.underlying t=some (.slice e)) (hi:P.info? e=some i) (hz:i.zero=some z)
  (hsize:i.size=1) (hby:i.bytes=bytes) (hzs:z.cells.size=1)
  (v:Value) (xs:List Value) (hs:a.eval s=v) (hown:bT w o k e v xs)
  (ao:Option Addr) (m c:Nat) (news:List Value) (hx:a.eval x=.slice ao m c) (hl:news.length=m) (hnone:ao=none->m=0) (hnews:∀ ad,ao=some ad->∀ j u,news[j]?=some u->w.cell? (ad.add j)=some u) (h1:∀ u∈news,u.oneCell'=true)
  (h63:xs.length+m<=maxLen) (hgrow:∀ old,old < xs.length+m->Builtin.nextslicecap (xs.length+m) old*bytes<=281474976710656)
  (h:∀ v' w',Turn o (ext o w.heap.size k) (fun x=>x=k) w w'->bT w' (ext o w.heap.size k) k e v' (xs ++ news)->wpList P ops Q rest (a.put op.dst v') w'):wpList P ops Q (op :: rest) a w:=by
 refine wpList_plain hgd fun K hK=>?_;obtain ⟨v',w',hr,h2,h3⟩:=Gz (P:=P) w o k t op.type e i z bytes ht hi hz hsize hby hzs v xs hown ao m c news hl hnone hnews h1 h63 hgrow;unfold Oper.wp execOp;simp only [ho,resolve,invoke,builtin,Sem.run_bind,Sem.run_pure,Result.andThen_ok,List.map_toArray,List.map_cons,List.map_nil,hs,hx,hr];exact hK _ _ (h v' w' h2 h3)
def xw (w:World)(o:Col)(c b:Nat)(C:Int)(l:List Int)(N:Nat):Prop:=∃ r,IQ w 0 b C l r N/\o b=c/\∀ k,r=some k->o k=c
theorem xw.turn {w w':World}{o o':Col}{C:Nat->Prop}{c b:Nat}{cap:Int}{l:List Int}{N:Nat}(h:xw w o c b cap l N)(T:Turn o o' C w w')(hc:¬ C c):xw w' o' c b cap l N:=by
 obtain ⟨r,h1,h2,h3⟩:=h;obtain ⟨hb,_,hr,_⟩:=h1.lt;refine ⟨r,h1.frame T.mods (by rw [h2];exact hc) (fun k hk=>by rw [h3 k hk];exact hc),(T.same b hb).trans h2,fun k hk=>(T.same k (hr k hk).2.1).trans (h3 k hk)⟩
theorem xw.mono {w:World}{o:Col}{c b:Nat}{cap:Int}{l:List Int}{N N':Nat}(h:xw w o c b cap l N)(hN:N<=N'):xw w o c b cap l N':=by
 obtain ⟨r,h1,h2,h3⟩:=h;exact ⟨r,h1.mono hN,h2,h3⟩
structure jf where
 body:Nat
 src:Value
 dst:Value
 ins:Value
 outs:Value
 hand:Nat
 hvs:List Value
 bg:Value
 GA:List Value
abbrev bR:=Nat->Nat
def vG (qs:bR)(g:av)(t q:Nat):Value:=.iface 73 (.agg #[.pointer (some ⟨qs (bY g t q),0,none⟩)])
def sP (qs:bR)(g:av)(t p:Nat):Value:=if toP g t p < g.edges.length then .iface 73 (.agg #[.pointer (some ⟨qs (toP g t p),0,none⟩)]) else .iface 80 (.pointer (some ⟨qs (toP g t p),0,none⟩))
structure vH (w:World) (o:Col) (c d g:Nat) (l:List (List Int)) (vs:List Value):Prop where
 len:vs.length=l.length
 blk:dZ w o c g 27 vs.toArray
 row:∀ k (h:k < l.length),bT w o (d+k) 3 (vs[k]'(by rw [len];exact h)) (bB l[k])
theorem vH.turn {w w':World}{o o':Col}{C:Nat->Prop}{c d g:Nat}{l:List (List Int)}{vs:List Value}(h:vH w o c d g l vs)(T:Turn o o' C w w')(hc:¬ C c)(hd:∀ k,k < l.length->¬ C (d+k)):vH w' o' c d g l vs :=
 ⟨h.len,h.blk.turn T hc,fun k hk=>(h.row k hk).turn T (hd k hk)⟩
def iX (x:bW)(v:jf)(nI:Nat):List Value:=[.pointer (some ⟨v.body,0,none⟩),v.src,v.dst,v.ins,v.outs,.slice (some ⟨v.hand,0,none⟩) nI nI,v.bg,.int .i64 (x.port:Int),.bool x.gives,.int .i64 (x.whole:Int)]
def sQ (w:World)(o:Col)(c d:Nat)(x:bW)(v:jf):Prop :=
 (x.gives=false/\v.bg=.slice none 0 0)\/(x.gives=true/\Own w o c 27 1 v.bg x.bg.length v.GA/\v.GA.length=x.bg.length/\∀ k (h:k < x.bg.length),bT w o (d+k) 3 (v.GA[k]?.getD undef) (bB x.bg[k]))
theorem sQ.turn {w w':World}{o o':Col}{C:Nat->Prop}{c d:Nat}{x:bW}{v:jf}(h:sQ w o c d x v)(T:Turn o o' C w w')(hc:¬ C c)(hd:∀ k,k < x.bg.length->¬ C (d+k)):sQ w' o' c d x v:=by
 rcases h with h | ⟨h1,h4,h5,h6⟩
 ·
  exact .inl h
 ·
  exact .inr ⟨h1,h4.turn T hc,h5,fun k hk=>(h6 k hk).turn T (hd k hk)⟩
structure dW (w:World) (o:Col) (M b:Nat) (g:av) (qs:bR) (t:Nat) (x:bW) (v:jf):Prop where
 blk:dZ w o M b 64 (iX x v (ay g t).length).toArray
 act:∀ a,g.actors[t]?=some a->Act w o (M+1) (M+2) v.body a.tag a.params x.keep x.n
 ins:Ints w o (M+3) v.ins (ay g t)
 outs:Ints w o (M+4) v.outs (aF g t)
 src:cu w o (M+5) v.src ((List.range (ay g t).length).map (vG qs g t))
 dst:cu w o (M+6) v.dst ((List.range (aF g t).length).map (sP qs g t))
 hand:vH w o (M+7) (M+16) v.hand x.hand v.hvs
 bg:sQ w o (M+8) (M+32) x v
 few:(ay g t).length<=16/\(aF g t).length<=16/\x.hand.length<=16/\x.bg.length<=16
def dG (M x:Nat):Prop:=M<=x/\x < M+48
theorem dW.turn {w w':World}{o o':Col}{C:Nat->Prop}{M b:Nat}{g:av}{qs:bR}{t:Nat}{x:bW}{v:jf}(h:dW w o M b g qs t x v)(T:Turn o o' C w w')(hC:∀ k,C k->¬ dG M k):dW w' o' M b g qs t x v:=by
 have hc:∀ j,j < 48->¬ C (M+j):=fun j hj hcc=>hC _ hcc ⟨by omega,by omega⟩;have h0:¬ C M:=hc 0 (by omega);obtain ⟨_,_,f3,f4⟩:=h.few;exact ⟨h.blk.turn T h0,fun a ha=>(h.act a ha).turn T (hc 1 (by omega)) (hc 2 (by omega)),h.ins.turn T (hc 3 (by omega)),h.outs.turn T (hc 4 (by omega)),h.src.turn T (hc 5 (by omega)),h.dst.turn T (hc 6 (by omega)),h.hand.turn T (hc 7 (by omega)) (fun k hk=>by rw [Nat.add_assoc];exact hc _ (by omega)),h.bg.turn T (hc 8 (by omega)) (fun k hk=>by rw [Nat.add_assoc];exact hc _ (by omega)),h.few⟩
structure bO where
 tasks:Value
 edges:Value
 inputs:Value
 tapes:Value
 tb:Nat->Nat
 tv:Nat->jf
 rows:Nat->Value
def oK (caps:List Int)(d:Nat):Int:=caps[d]?.getD 9223372036854775807
def jC (r:bH)(v:bO):List Value:=[v.tasks,v.edges,v.inputs,v.tapes,.int .i64 (match r.failed with | some t=>(t:Int) | none=>-1)]
def gG (b:Nat):Value:=.pointer (some ⟨b,0,none⟩)
def jg (g:av)(M:Nat)(J:Nat->Nat)(d:Nat):Nat:=if g.edges.length<=d/\d < g.edges.length+g.ins.length then J (d - g.edges.length) else M
def oQ (g:av)(N:Nat->Nat)(d:Nat):Nat:=if g.edges.length<=d/\d < g.edges.length+g.ins.length then N d else N d+1
theorem qi (g:av)(N:Nat->Nat)(d:Nat):N d<=oQ g N d:=by unfold oQ;split <;> omega
theorem JC {g:av}{N:Nat->Nat}{d:Nat}(h:d < g.edges.length):oQ g N d=N d+1:=by unfold oQ;rw [if_neg (by omega)]
theorem MV (g:av)(M:Nat)(J:Nat->Nat):oQ g (jg g M J)=jg g (M+1) J:=by
 funext d
 unfold oQ jg
 split <;> rfl
theorem qj {g:av}{M M':Nat}{J:Nat->Nat}(h:M<=M')(d:Nat):jg g M J d<=jg g M' J d:=by unfold jg;split <;> omega
theorem CY {g:av}{M:Nat}{J:Nat->Nat}{d:Nat}(h:g.edges.length+g.ins.length<=d):jg g M J d=M:=by unfold jg;rw [if_neg (by omega)]
theorem MW {g:av}{M:Nat}{J:Nat->Nat}{d:Nat}(h:d < g.edges.length):jg g M J d=M:=by unfold jg;rw [if_neg (by omega)]
theorem wL {g:av}{M:Nat}{J:Nat->Nat}{k:Nat}(h:k < g.ins.length):jg g M J (g.edges.length+k)=J k:=by unfold jg;rw [if_pos (by omega),Nat.add_sub_cancel_left]
structure fU (w:World) (o:Col) (R b:Nat) (g:av) (caps:List Int) (N:Nat->Nat) (qs:bR) (r:bH) (v:bO):Prop where
 blk:dZ w o R b 53 (jC r v).toArray
 tasks:cu w o (R+1) v.tasks ((List.range g.actors.length).map fun t=>gG (v.tb t))
 edges:cu w o (R+2) v.edges ((List.range g.edges.length).map fun d=>gG (qs d))
 inputs:cu w o (R+3) v.inputs ((List.range g.ins.length).map fun d=>gG (qs (g.edges.length+d)))
 tapes:cu w o (R+4) v.tapes ((List.range g.outs.length).map fun d=>gG (qs (g.edges.length+g.ins.length+d)))
 task:∀ t,t < g.actors.length->dW w o (R+100+64*t) (v.tb t) g qs t (r.aP.tasks t) (v.tv t)
 queue:∀ d,d < g.edges.length+g.ins.length->xw w o (R+4000+d) (qs d) (oK caps d) (r.aP.strs d) (N d)
 tape:∀ d,g.edges.length+g.ins.length<=d->d < g.edges.length+g.ins.length+g.outs.length->dZ w o (R+4000+d) (qs d) 82 #[v.rows d]/\Own w o (R+5000+d) 3 1 (v.rows d) (r.aP.strs d).length (bB (r.aP.strs d))
 few:g.actors.length<=32/\g.edges.length<=96/\g.ins.length<=16/\g.outs.length<=16
def bV (R x:Nat):Prop:=R<=x/\x < R+6000
theorem fU.turn {w w':World}{o o':Col}{C:Nat->Prop}{R b:Nat}{g:av}{caps:List Int}{N:Nat->Nat}{qs:bR}{r:bH}{v:bO}(h:fU w o R b g caps N qs r v)(T:Turn o o' C w w')(hC:∀ k,C k->¬ bV R k):fU w' o' R b g caps N qs r v:=by
 have hc:∀ j,j < 6000->¬ C (R+j):=fun j hj hcc=>hC _ hcc ⟨by omega,by omega⟩;have h0:¬ C R:=hc 0 (by omega);obtain ⟨f1,f2,f3,f4⟩:=h.few;refine ⟨h.blk.turn T h0,h.tasks.turn T (hc 1 (by omega)),h.edges.turn T (hc 2 (by omega)),h.inputs.turn T (hc 3 (by omega)),h.tapes.turn T (hc 4 (by omega)),fun t ht=>(h.task t ht).turn T (fun k hk hm=>hC k hk ⟨?_,?_⟩),fun d hd=>(h.queue d hd).turn T (by rw [Nat.add_assoc];exact hc _ (by omega)),fun d hd hd2=>⟨(h.tape d hd hd2).1.turn T (by rw [Nat.add_assoc];exact hc _ (by omega)),(h.tape d hd hd2).2.turn T (by rw [Nat.add_assoc];exact hc _ (by omega))⟩,h.few⟩
 ·
  unfold dG at hm;omega
 ·
  unfold dG at hm;omega
theorem JD (b:Nat)(w:World):(method 332 73 (.agg #[.pointer (some ⟨b,0,none⟩)]) "pianola/dyn.waits").run Tryz.prog w=.ok (126,.agg #[.pointer (some ⟨b,0,none⟩)]) w:=by kernel_rfl
theorem MX (b:Nat)(w:World):(method 332 73 (.agg #[.pointer (some ⟨b,0,none⟩)]) "pianola/dyn.take").run Tryz.prog w=.ok (125,.agg #[.pointer (some ⟨b,0,none⟩)]) w:=by kernel_rfl
theorem JE (b:Nat)(w:World):(method 332 73 (.agg #[.pointer (some ⟨b,0,none⟩)]) "pianola/dyn.full").run Tryz.prog w=.ok (124,.agg #[.pointer (some ⟨b,0,none⟩)]) w:=by kernel_rfl
theorem JF (b:Nat)(w:World):(method 332 73 (.agg #[.pointer (some ⟨b,0,none⟩)]) "pianola/dyn.give").run Tryz.prog w=.ok (52,.agg #[.pointer (some ⟨b,0,none⟩)]) w:=by kernel_rfl
theorem JG (b:Nat)(w:World):(method 332 80 (.pointer (some ⟨b,0,none⟩)) "pianola/dyn.full").run Tryz.prog w=.ok (128,.pointer (some ⟨b,0,none⟩)) w:=by kernel_rfl
theorem JH (b:Nat)(w:World):(method 332 80 (.pointer (some ⟨b,0,none⟩)) "pianola/dyn.give").run Tryz.prog w=.ok (129,.pointer (some ⟨b,0,none⟩)) w:=by kernel_rfl
theorem JI {w:World}{o:Col}{c b:Nat}{C:Int}{l:List Int}{N:Nat}(h:xw w o c b C l N)(hN:N<=27000000000000):Calls Tryz.prog 126 #[.agg #[.pointer (some ⟨b,0,none⟩)]] w (fq (.bool (decide (l.length=0))) w):=by
 have E9:((l.length:Int) == 0)=decide (l.length=0):=by
  by_cases h:l.length=0
  ·
   rw [decide_eq_true h,beq_iff_eq];omega
  ·
   rw [decide_eq_false h,beq_eq_false_iff_ne];omega
 generalize decide (l.length=0)=z at E9 ⊢;have hbx:=au w (.cells #[.pointer (some ⟨b,0,none⟩)] 73);have x0:=ah _ _ (heap_alloc_new w (.cells #[.pointer (some ⟨b,0,none⟩)] 73)) 0 _ rfl;have hq:=h.turn (Turn.of_below o 7 hbx) (fun h=>h);obtain ⟨r,hi,hb,hr⟩:=hq;have HB:=af hbx;have HI:=af hi;clear hbx h hi;go_enter Tryz.func126,Tryz.ntmps126;go_wp2_with fail;refine (QD HI.out hN).mono ?_;rintro e w1 ⟨rfl,m,rfl⟩;clear hb hr HI hN;go_wp2;go_ret;exact ⟨rfl,cK (n:=m) HB.out⟩
theorem MZ {w:World}{o:Col}{c b:Nat}{C:Int}{l:List Int}{N:Nat}(h:xw w o c b C l N)(hN:N<=27000000000000):Calls Tryz.prog 124 #[.agg #[.pointer (some ⟨b,0,none⟩)]] w (fq (.bool (decide (C<=l.length))) w):=by
 have E9:(max 0 (C - (l.length:Int)) == 0)=decide (C<=l.length):=by
  by_cases h:C<=l.length
  ·
   rw [decide_eq_true h,beq_iff_eq];omega
  ·
   rw [decide_eq_false h,beq_eq_false_iff_ne];omega
 generalize decide (C<=(l.length:Int))=z at E9 ⊢;have hbx:=au w (.cells #[.pointer (some ⟨b,0,none⟩)] 73);have x0:=ah _ _ (heap_alloc_new w (.cells #[.pointer (some ⟨b,0,none⟩)] 73)) 0 _ rfl;have hq:=h.turn (Turn.of_below o 7 hbx) (fun h=>h);obtain ⟨r,hi,hb,hr⟩:=hq;have HB:=af hbx;have HI:=af hi;clear hbx h hi;go_enter Tryz.func124,Tryz.ntmps124;go_wp2_with fail;refine (Vl HI.out hN).mono ?_;rintro e w1 ⟨rfl,m,rfl⟩;clear hb hr HI hN;generalize max 0 (C - (l.length:Int))=R at E9 ⊢;go_wp2;go_ret;exact ⟨rfl,cK (n:=m) HB.out⟩
def aaj (w:World)(o:Col)(c b:Nat)(C:Int)(l:List Int)(N:Nat)(v:Value)(e:Ending)(w':World):Prop:=∃ o',e=.returned v/\Turn o o' (fun x=>x=c) w w'/\xw w' o' c b C l N
theorem QE {w w':World}{o:Col}{c b:Nat}{C:Int}{l:List Int}{N:Nat}{r r':Option Nat}{F:Nat->Prop}(hi:IQ w' 0 b C l r' N)(hm:aG F w w')(hF:∀ k,k < w.heap.size->F k->o k=c)(hbl:b < w.heap.size)(hb:o b=c)(hr:∀ k,r=some k->o k=c/\k < w.heap.size)(h4:r'=r\/∃ k,r'=some k/\w.heap.size<=k) :
  Turn o (ext o w.heap.size c) (fun x=>x=c) w w'/\xw w' (ext o w.heap.size c) c b C l N:=by
 refine ⟨⟨hm.mono hF,fun k hk=>dm hk⟩,r',hi,(dm hbl).trans hb,fun k hk=>?_⟩
 rcases h4 with rfl | ⟨k',e1,e2⟩
 ·
  obtain ⟨h1,h2⟩:=hr k hk;exact (dm h2).trans h1
 ·
  rw [e1] at hk;cases hk
  exact dI e2
theorem CZ {w:World}{o:Col}{c b:Nat}{C:Int}{l:List Int}{N:Nat}(X:Int)(h:xw w o c b C l N)(hN:N < 27000000000000)(hl:(l.length:Int) < C):Calls Tryz.prog 52 #[.agg #[.pointer (some ⟨b,0,none⟩)],.int .i64 X] w (aaj w o c b C (l ++ [X]) (N+1) (.tuple #[])):=by
 obtain ⟨r0,hi0,hb0,hr0⟩:=h;obtain ⟨l1,_,l3,_⟩:=hi0.lt;have hbx:=au w (.cells #[.pointer (some ⟨b,0,none⟩)] 73);have x0:=ah _ _ (heap_alloc_new w (.cells #[.pointer (some ⟨b,0,none⟩)] 73)) 0 _ rfl;have hm0:=(aG.refl (fun k=>k=b\/r0=some k) w).alloc (.cells #[.pointer (some ⟨b,0,none⟩)] 73);have hi1:=hi0.frame ((aG.refl (fun _=>False) w).alloc (.cells #[.pointer (some ⟨b,0,none⟩)] 73)) (fun h=>h) (fun _ _ h=>h);have HI:=af hi1;have HM:=af hm0;have HS:=af hbx.size;have HL:=af (And.intro l1 (And.intro hb0 (And.intro hr0 l3)));clear hi0 hb0 hr0 l1 l3 hbx hm0 hi1;go_enter Tryz.func52,Tryz.ntmps52;go_wp2_with fail;refine (JA HI.out hN (Nat.zero_le _) hl).mono ?_;rintro e w1 ⟨rfl,r',hq,hm,h4⟩;have HQ:=af hq;have Yb:=af hm;have H4:=af h4;clear hq hm h4 x0 hl;go_wp2;go_end0
 obtain ⟨l1,hb0,hr0,l3⟩:=HL.out;obtain ⟨T,Q⟩:=QE (r:=r0) HQ.out (HM.out.trans Yb.out (fun _ _ h=>h) (fun _ _ h=>h)) (fun k hk hF=>by
  rcases hF with rfl | hF
  ·
   exact hb0
  ·
   exact hr0 k hF) l1 hb0 (fun k hk=>⟨hr0 k hk,(l3 k hk).2.1⟩) (by
  rcases H4.out with h | ⟨k,h,hk⟩
  ·
   exact .inl h
  ·
   exact .inr ⟨k,h,Nat.le_trans HS.out hk⟩)
 exact ⟨_,rfl,T,Q⟩
theorem M4 {w:World}{o:Col}{c b:Nat}{C x:Int}{l:List Int}{N:Nat}(h:xw w o c b C (x :: l) N)(hN:N<=27000000000000):Calls Tryz.prog 125 #[.agg #[.pointer (some ⟨b,0,none⟩)]] w (aaj w o c b C l N (.int .i64 x)):=by
 obtain ⟨r0,hi0,hb0,hr0⟩:=h;obtain ⟨l1,_,l3,_⟩:=hi0.lt;have hbx:=au w (.cells #[.pointer (some ⟨b,0,none⟩)] 73);have x0:=ah _ _ (heap_alloc_new w (.cells #[.pointer (some ⟨b,0,none⟩)] 73)) 0 _ rfl;have hm0:=(aG.refl (fun k=>k=b) w).alloc (.cells #[.pointer (some ⟨b,0,none⟩)] 73);have hi1:=hi0.frame ((aG.refl (fun _=>False) w).alloc (.cells #[.pointer (some ⟨b,0,none⟩)] 73)) (fun h=>h) (fun _ _ h=>h);have HI:=af hi1;have HM:=af hm0;have HS:=af hbx.size;have HL:=af (And.intro l1 (And.intro hb0 (And.intro hr0 l3)));clear hi0 hb0 hr0 l1 l3 hbx hm0 hi1;go_enter Tryz.func125,Tryz.ntmps125;go_wp2_with fail;refine (El HI.out hN (Nat.zero_le _)).mono ?_;rintro e w1 ⟨rfl,r',hq,hm,h4⟩;have HQ:=af hq;have Yb:=af hm;have H4:=af h4;clear hq hm h4 x0;go_wp2;go_ret;obtain ⟨l1,hb0,hr0,l3⟩:=HL.out;obtain ⟨T,Q⟩:=QE (r:=r0) HQ.out (HM.out.trans Yb.out (fun _ _ h=>h) (fun _ _ h=>h)) (fun k hk hF=>by rw [show k=b from hF];exact hb0) l1 hb0 (fun k hk=>⟨hr0 k hk,(l3 k hk).2.1⟩) (by
  rcases H4.out with h | ⟨k,h,hk⟩
  ·
   exact .inl h
  ·
   exact .inr ⟨k,h,Nat.le_trans HS.out hk⟩)
 exact ⟨_,rfl,T,Q⟩
theorem M5 (w:World)(b:Nat):Calls Tryz.prog 128 #[.pointer (some ⟨b,0,none⟩)] w (pW (.bool false) w):=by
 go_enter Tryz.func128,Tryz.ntmps128;go_wp2;go_ret;exact ⟨rfl,rfl⟩
theorem Lg (n:Nat)(hn:n<=100000)(w:World):(Instr.makeSlice 43 (.int .i64 (n:Int)) (.int .i64 (n:Int))).run Tryz.prog w=.ok (.slice (some ⟨w.heap.size,0,none⟩) n n) (w.alloc (.cells (List.replicate n (.slice none 0 0)).toArray 27)):=by
 obtain ⟨i0,hi,hz0,hz1,hz2⟩:=info_parts lK;have h:=run_make (P:=Tryz.prog) (w:=w) 43 27 i0 _ Tryz.underlying43 hi hz0 .i64 .i64 n n (by omega) (Int.le_refl _) (by rw [hz2];omega) (by omega);have e:madeCells (Value.cells (.slice none 0 0)) (n*1)=(List.replicate n (.slice none 0 0)).toArray:=by rw [<- xK n]
 rw [h,Int.toNat_natCast,hz1,e]
def Lh (w:World)(o:Col)(M b:Nat)(g:av)(qs:bR)(t:Nat)(x':bW)(e:Ending)(w':World):Prop:=∃ o' v',e=.returned (.tuple #[])/\Turn o o' (dG M) w w'/\dW w' o' M b g qs t x' v'
theorem oh (M:Nat):∀ x,x=M->dG M x:=fun x h=>by subst h;unfold dG;omega
theorem JJ {w:World}{o:Col}{M b:Nat}{g:av}{qs:bR}{t:Nat}{x:bW}{v:jf}(h:dW w o M b g qs t x v):Calls Tryz.prog 15 #[.pointer (some ⟨b,0,none⟩)] w (Lh w o M b g qs t (kH (ay g t).length x)):=by
 have H:=af h;obtain ⟨ia,ic,hia⟩:=h.ins.slice;have hb:=h.blk;unfold iX at hb;rw [hia] at hb;have HIA:=af hia;obtain ⟨n,hn⟩:∃ x,(ay g t).length=x:=⟨_,rfl⟩;have HN:=af hn;have hn16:n<=16:=by rw [<- hn];exact h.few.1
 rw [hn] at hb;have hmk:=Lg n (by omega) w;obtain ⟨zi,hzi⟩:∃ x,(List.replicate n (Value.slice none 0 0)).toArray=x:=⟨_,rfl⟩;rw [hzi] at hmk;have Ow:=af hzi;have c3:=hb.cell 3 _ rfl;have hba:=au w (.cells zi 27);have T1:=Turn.of_below o (M+7) hba;have hb1:=hb.turn T1 (fun h=>h);have c5:=hb1.cell 5 _ rfl;have c6:=hb1.cell 6 _ rfl;have c7:=hb1.cell 7 _ rfl;have c8:=hb1.cell 8 _ rfl;have f5:=hb1.frozen 5;have f6:=hb1.frozen 6;have f7:=hb1.frozen 7;have f8:=hb1.frozen 8;have HB1:=af hb1;have HT1:=af T1;clear h hb hn hia hba T1 hb1 hzi hn16;go_enter Tryz.func15,Tryz.ntmps15;go_wp2;go_end0
 have h:=H.out;have hn:=HN.out;have hzi:=Ow.out;have hia:=HIA.out;have T1:=HT1.out;have B0:=HB1.out;obtain ⟨B1,S1⟩:=B0.set 5 (.slice (some ⟨w.heap.size,0,none⟩) n n);obtain ⟨B2,S2⟩:=B1.set 6 (.slice none 0 0);obtain ⟨B3,S3⟩:=B2.set 7 (.int .i64 0);obtain ⟨B4,S4⟩:=B3.set 8 (.bool false);have S:=((S1.trans S2 (fun _ h=>h)).trans S3 (fun _ h=>h)).trans S4 (fun _ h=>h);have TT:=(T1.mono (D:=fun x=>x=M) (fun _ h=>h.elim)).trans S (fun _ h=>h);have N0:dZ (w.alloc (.cells zi 27)) (ext o w.heap.size (M+7)) (M+7) w.heap.size 27 zi:=⟨heap_alloc_new w _,dI (Nat.le_refl _)⟩;have N1:=N0.turn S (fun h=>by omega);refine ⟨_,{ v with hand:=w.heap.size,hvs:=List.replicate n (.slice none 0 0),bg:=.slice none 0 0,GA:=[] },rfl,TT.mono (oh M),?_⟩;have hC:∀ j,0 < j->¬ (M+j=M):=fun j hj=>by omega
 refine ⟨?_,fun a ha=>(h.act a ha).turn TT (hC 1 (by omega)) (hC 2 (by omega)),h.ins.turn TT (hC 3 (by omega)),h.outs.turn TT (hC 4 (by omega)),h.src.turn TT (hC 5 (by omega)),h.dst.turn TT (hC 6 (by omega)),⟨?_,?_,fun k hk=>?_⟩,.inl ⟨rfl,rfl⟩,?_⟩
 ·
  have hcs:#[Value.pointer (some ⟨v.body,0,none⟩),v.src,v.dst,.slice ia n ic,v.outs,.slice (some ⟨w.heap.size,0,none⟩) n n,.slice none 0 0,.int .i64 0,.bool false,.int .i64 (x.whole:Int)]=(iX (kH (ay g t).length x) { v with hand:=w.heap.size,hvs:=List.replicate n (.slice none 0 0),bg:=.slice none 0 0,GA:=[] } (ay g t).length).toArray:=by
   rw [hn] at hia ⊢;unfold iX kH;simp [hia]
  rw [<- hcs];exact B4
 ·
  show (List.replicate n (Value.slice none 0 0)).length=(List.replicate (ay g t).length []).length
  simp [hn]
 ·
  show dZ _ _ _ _ _ (List.replicate n (Value.slice none 0 0)).toArray
  rw [hzi];exact N1
 ·
  have:k < n:=by
   have:(kH (ay g t).length x).hand.length=(ay g t).length:=by simp [kH]
   omega
  have e1:(kH (ay g t).length x).hand[k]=[]:=by simp [kH]
  rw [e1];simp only [List.getElem_replicate];exact bT.nil _ _ _ _
 ·
  obtain ⟨f1,f2,f3,f4⟩:=h.few;refine ⟨f1,f2,?_,Nat.zero_le _⟩;simp only [kH,List.length_replicate];omega
theorem dW.drewN {w:World}{o:Col}{M b:Nat}{g:av}{qs:bR}{t:Nat}{x:bW}{v:jf}(h:dW w o M b g qs t x v)(m:Nat):dW (w.drewN m) o M b g qs t x v:=h.turn ((Turn.refl o (fun _=>False) w).drewN m) (fun _ h=>h.elim)
theorem dW.fields {w:World}{o:Col}{M b:Nat}{g:av}{qs:bR}{t:Nat}{x x':bW}{v:jf}(h:dW w o M b g qs t x v){i:Nat}{u:Value}(hb:(iX x v (ay g t).length).toArray.setIfInBounds i u=(iX x' v (ay g t).length).toArray)(hk:x'.keep=x.keep)(hn:x'.n=x.n)(hh:x'.hand=x.hand)(hg:x'.bg=x.bg)(hs:x'.gives=x.gives) :
  dW (w.setCell ⟨b,i,none⟩ u) o M b g qs t x' v/\Turn o o (fun c=>c=M) w (w.setCell ⟨b,i,none⟩ u):=by
 obtain ⟨B,S⟩:=h.blk.set i u;rw [hb] at B;have hC:∀ j,0 < j->¬ (M+j=M):=fun j hj=>by omega
 refine ⟨⟨B,fun a ha=>by rw [hk,hn];exact (h.act a ha).turn S (hC 1 (by omega)) (hC 2 (by omega)),h.ins.turn S (hC 3 (by omega)),h.outs.turn S (hC 4 (by omega)),h.src.turn S (hC 5 (by omega)),h.dst.turn S (hC 6 (by omega)),?_,?_,by rw [hh,hg];exact h.few⟩,S⟩
 ·
  rw [hh];exact h.hand.turn S (hC 7 (by omega)) (fun k _=>by omega)
 ·
  have k:=h.bg.turn S (hC 8 (by omega)) (fun k _=>by omega);unfold sQ at k ⊢;rw [hs,hg];exact k
theorem sS {w:World}{o:Col}{M b:Nat}{g:av}{qs:bR}{t:Nat}{x:bW}{v:jf}(h:dW w o M b g qs t x v)(hw:x.whole < 4611686018427387904)(_hp:x.port<=1000):Calls Tryz.prog 73 #[.pointer (some ⟨b,0,none⟩)] w (Lh w o M b g qs t (jR (ay g t).length (aF g t).length x)):=by
 have H:=af h;obtain ⟨oa,oc,hoa⟩:=h.outs.slice;have hb:=h.blk;unfold iX at hb;rw [hoa] at hb;have HOA:=af hoa;obtain ⟨n,hn⟩:∃ x,(aF g t).length=x:=⟨_,rfl⟩;have hn16:n<=16:=by rw [<- hn];exact h.few.2.1
 have HN:=af hn;rw [hn] at hb ⊢;have c4:=hb.cell 4 _ rfl;have c7:=hb.cell 7 _ rfl;have c9:=hb.cell 9 _ rfl;have f9:=hb.frozen 9;obtain ⟨p,hpe⟩:∃ p,x.port=p:=⟨_,rfl⟩;obtain ⟨W,hW⟩:∃ p,(x.whole:Int)=p:=⟨_,rfl⟩;have HW:=af hW;have HPE:=af hpe;unfold jR;have hwr:IntKind.i64.wrap (W+1)=W+1:=IntWalk.i64_in _ (by omega);rw [hpe] at c7 _hp ⊢;rw [hW] at c9;have HB:=af hb;clear hoa hn hb hpe hW h
 by_cases hpn:p=n
 ·
  rw [if_pos hpn];have hpi:((p:Int) == (n:Int))=true:=by rw [beq_iff_eq];omega
  have HS:=af (fun (m:Nat)=>(H.out.drewN m).fields (x':={ x with whole:=x.whole+1 }) (i:=9) (u:=.int .i64 (W+1)) (by rw [<- HW.out];unfold iX;simp) rfl rfl rfl rfl rfl);clear hpn;go_enter Tryz.func73,Tryz.ntmps73;go_wp2;go_quiet (fail)
  rename_i m
  go_wp2_with fail;refine (JJ (HS.out _).1).mono ?_;rintro e w2 ⟨o',v',rfl,T,TA⟩;have HT:=af T;have BF:=af TA;clear T TA;go_wp2;go_end0
  exact ⟨o',v',rfl,(((Turn.refl o (dG M) w).drewN _).trans ((HS.out _).2.mono (oh M)) (fun _ h=>h)).trans HT.out (fun _ h=>h),BF.out⟩
 ·
  rw [if_neg hpn];have hpi:((p:Int) == (n:Int))=false:=by rw [beq_eq_false_iff_ne];omega
  clear hpn;go_enter Tryz.func73,Tryz.ntmps73;go_wp2;go_quiet (fail);go_wp2;go_end0
  exact ⟨o,v,rfl,(Turn.refl o (dG M) w).drewN _,H.out.drewN _⟩
structure Linked (g:av):Prop where
 out:∀ t p,t < g.actors.length->p < (aF g t).length->toP g t p < g.edges.length\/(g.edges.length+g.ins.length<=toP g t p/\toP g t p < g.edges.length+g.ins.length+g.outs.length)
 inn:∀ t q,t < g.actors.length->q < (ay g t).length->bY g t q < g.edges.length+g.ins.length
theorem oU {g:av}{caps:List Int}{s:pX}{t:Nat}(ht:t < g.actors.length)(h:(s.tasks t).gives=true):isReady g caps s t=!(rM caps s (toP g t (s.tasks t).port)):=by
 unfold isReady iJ;rw [if_neg (by omega),if_pos h];cases hf:rM caps s (toP g t (s.tasks t).port) <;> simp
theorem oV {g:av}{caps:List Int}{s:pX}{t:Nat}(ht:t < g.actors.length)(h:(s.tasks t).gives=false)(hp:(s.tasks t).port < (ay g t).length):isReady g caps s t=!(decide ((s.strs (bY g t (s.tasks t).port)).length=0)):=by
 unfold isReady iJ;rw [if_neg (by omega),if_neg (by simp [h]),if_pos hp];cases hs:s.strs (bY g t (s.tasks t).port) <;> simp
theorem zm {g:av}{caps:List Int}{s:pX}{t:Nat}(ht:t < g.actors.length)(h:(s.tasks t).gives=false)(hp:¬ (s.tasks t).port < (ay g t).length):isReady g caps s t=true:=by
 unfold isReady iJ;rw [if_neg (by omega),if_neg (by simp [h]),if_neg hp]
 by_cases he:(dV g t (s.tasks t)).err≠0
 ·
  rw [if_pos he]
 ·
  rw [if_neg he]
theorem C8 {caps:List Int}{s:pX}{d:Nat}(hd:d < caps.length):rM caps s d=decide (oK caps d<=(s.strs d).length):=by
 unfold rM oK;rw [List.getElem?_eq_getElem hd];rfl
theorem M6 {caps:List Int}{s:pX}{d:Nat}(hd:caps.length<=d):rM caps s d=false:=by
 unfold rM;rw [List.getElem?_eq_none hd]
theorem xw.below {w w':World}{o:Col}{c b:Nat}{C:Int}{l:List Int}{N:Nat}(h:xw w o c b C l N)(hb:Below w.heap.size w w'):xw w' (ext o w.heap.size 0) c b C l N:=h.turn (Turn.of_below o 0 hb) (fun h=>h)
theorem En {w:World}{b gd fd cd n p:Nat}{ch:Value}{z:Bool}(c8:w.cell? ⟨b,8,none⟩=some (.bool true))(c1:w.cell? ⟨b,2,none⟩=some (.slice (some ⟨gd,fd,none⟩) n cd))(c7:w.cell? ⟨b,7,none⟩=some (.int .i64 (p:Int)))(ce:w.cell? ⟨gd,fd+p,none⟩=some ch)(hp:p < n)(hcd:n<=cd)
  (hch:(∃ q,ch=.iface 73 (.agg #[.pointer (some ⟨q,0,none⟩)])/\∀ w',Below w.heap.size w w'->Calls Tryz.prog 124 #[.agg #[.pointer (some ⟨q,0,none⟩)]] w' (fq (.bool z) w'))\/(∃ q,ch=.iface 80 (.pointer (some ⟨q,0,none⟩))/\z=false)) :
  Calls Tryz.prog 46 #[.pointer (some ⟨b,0,none⟩)] w (fq (.bool (!z)) w):=by
 have hpi:(p:Int) < n:=by omega
 have hci:(n:Int)<=cd:=by omega
 rcases hch with ⟨q,rfl,hq⟩ | ⟨q,rfl,rfl⟩
 ·
  have hd:=JE q;have HQ:=af hq;clear hq;go_enter Tryz.func46,Tryz.ntmps46;go_wp2_with fail;refine aM (fun w'=>w'.cell? ⟨b,2,none⟩=some (.slice (some ⟨gd,fd,none⟩) n cd)/\w'.cell? ⟨b,7,none⟩=some (.int .i64 (p:Int))/\w'.cell? ⟨gd,fd+p,none⟩=some (.iface 73 (.agg #[.pointer (some ⟨q,0,none⟩)]))) [0,1,2,3,4,5,6,7,8,9] [10,11,12] (by kernel_rfl) (by kernel_rfl) rfl (fun _ _ hx h=>⟨hx.cell h.1,hx.cell h.2.1,hx.cell h.2.2⟩) ⟨c1,c7,ce⟩ ?_;intro Q' hQ';simp only [pk];refine aD ?_;refine ax ?_;go_wp2_with fail;refine (HQ.out _ (Below.drew (Below.refl _ _))).mono ?_;rintro e w2 ⟨rfl,h2⟩;have H2:=af h2;clear h2;go_wp2_with fail;go_ret;exact ⟨rfl,(Below.drew (Below.refl _ _)).trans H2.out⟩
 ·
  have hd:=JG q;go_enter Tryz.func46,Tryz.ntmps46;go_wp2_with fail;refine aM (fun w'=>w'.cell? ⟨b,2,none⟩=some (.slice (some ⟨gd,fd,none⟩) n cd)/\w'.cell? ⟨b,7,none⟩=some (.int .i64 (p:Int))/\w'.cell? ⟨gd,fd+p,none⟩=some (.iface 80 (.pointer (some ⟨q,0,none⟩)))) [0,1,2,3,4,5,6,7,8,9] [10,11,12] (by kernel_rfl) (by kernel_rfl) rfl (fun _ _ hx h=>⟨hx.cell h.1,hx.cell h.2.1,hx.cell h.2.2⟩) ⟨c1,c7,ce⟩ ?_;intro Q' hQ';simp only [pk];refine aD ?_;refine ax ?_;go_wp2_with fail;refine (M5 _ _).mono ?_;rintro e w2 ⟨rfl,rfl⟩;go_wp2_with fail;go_ret;exact ⟨rfl,Below.drew (Below.refl _ _)⟩
theorem Eo {w:World}{b gd fd cd n p q k ik:Nat}{ia:Option Addr}{z:Bool}(c8:w.cell? ⟨b,8,none⟩=some (.bool false))(c1:w.cell? ⟨b,1,none⟩=some (.slice (some ⟨gd,fd,none⟩) n cd))(c7:w.cell? ⟨b,7,none⟩=some (.int .i64 (p:Int)))(ce:w.cell? ⟨gd,fd+p,none⟩=some (.iface 73 (.agg #[.pointer (some ⟨q,0,none⟩)])))(c3:w.cell? ⟨b,3,none⟩=some (.slice ia k ik))(hk:p < k)(hp:p < n)(hcd:n<=cd)
  (hq:∀ w',Below w.heap.size w w'->Calls Tryz.prog 126 #[.agg #[.pointer (some ⟨q,0,none⟩)]] w' (fq (.bool z) w')) :
  Calls Tryz.prog 46 #[.pointer (some ⟨b,0,none⟩)] w (fq (.bool (!z)) w):=by
 have hpi:(p:Int) < n:=by omega
 have hci:(n:Int)<=cd:=by omega
 have hpk:((p:Int) == (k:Int))=false:=by rw [beq_eq_false_iff_ne];omega
 have hd:=JD q;have HQ:=af hq;clear hq hk;go_enter Tryz.func46,Tryz.ntmps46;go_wp2_with fail;refine aM (fun w'=>w'.cell? ⟨b,1,none⟩=some (.slice (some ⟨gd,fd,none⟩) n cd)/\w'.cell? ⟨b,7,none⟩=some (.int .i64 (p:Int))/\w'.cell? ⟨gd,fd+p,none⟩=some (.iface 73 (.agg #[.pointer (some ⟨q,0,none⟩)]))/\w'.cell? ⟨b,3,none⟩=some (.slice ia k ik)) [0,1,2,3,4,5,6,7,8,9,10,11,12,13,14,15,16,17,18,19,20] [21,22,23,24] (by kernel_rfl) (by kernel_rfl) rfl (fun _ _ hx h=>⟨hx.cell h.1,hx.cell h.2.1,hx.cell h.2.2.1,hx.cell h.2.2.2⟩) ⟨c1,c7,ce,c3⟩ ?_;intro Q' hQ';simp only [pk];refine aD ?_;refine ax ?_;go_wp2_with fail;refine (HQ.out _ (Below.drew (Below.refl _ _))).mono ?_;rintro e w2 ⟨rfl,h2⟩;have H2:=af h2;clear h2;go_wp2_with fail;go_ret;exact ⟨rfl,(Below.drew (Below.refl _ _)).trans H2.out⟩
theorem Ep {w:World}{b p ik:Nat}{ia:Option Addr}(c8:w.cell? ⟨b,8,none⟩=some (.bool false))(c7:w.cell? ⟨b,7,none⟩=some (.int .i64 (p:Int)))(c3:w.cell? ⟨b,3,none⟩=some (.slice ia p ik)) :
  Calls Tryz.prog 46 #[.pointer (some ⟨b,0,none⟩)] w (fq (.bool true) w):=by
 go_enter Tryz.func46,Tryz.ntmps46;go_wp2_with fail;refine aM (fun w'=>w'.cell? ⟨b,7,none⟩=some (.int .i64 (p:Int))/\w'.cell? ⟨b,3,none⟩=some (.slice ia p ik)) [0,1,2,3,4,5,6,7,8,9,10,11,12,13,14,15,16,17,18,19,20] [21,22,23,24] (by kernel_rfl) (by kernel_rfl) rfl (fun _ _ hx h=>⟨hx.cell h.1,hx.cell h.2⟩) ⟨c7,c3⟩ ?_;intro Q' hQ';simp only [pk];refine aD ?_;refine ax ?_;go_wp2_with fail;go_ret;exact ⟨rfl,Below.drew (Below.refl _ _)⟩
theorem uj {w:World}{o:Col}{c:Nat}{v:Value}{vs:List Value}(h:cu w o c v vs){k:Nat}(hk:k < vs.length):∃ g off cap,v=.slice (some ⟨g,off,none⟩) vs.length cap/\vs.length<=cap/\w.cell? ⟨g,off+k,none⟩=some vs[k]:=by
 obtain ⟨ao,cap,rfl⟩:=h.slice;obtain ⟨g,off,rfl,_,h2,_,_,h5⟩:=h.at (by omega);exact ⟨g,off,cap,rfl,h2,by rw [h5 k hk,List.getElem?_eq_getElem hk];rfl⟩
theorem A7 {w:World}{o:Col}{R b:Nat}{g:av}{caps:List Int}{N:Nat->Nat}{s:Nat}{qs:bR}{r:bH}{v:bO}(h:fU w o R b g caps N qs r v)(hL:Linked g)(hcl:caps.length=g.edges.length)(hK:vS g s r.aP)(hN:∀ d,N d<=27000000000000){t:Nat}(ht:t < g.actors.length) :
  Calls Tryz.prog 46 #[gG (v.tb t)] w (fq (.bool (isReady g caps r.aP t)) w):=by
 have hT:=h.task t ht;have hO:=hK.task t ht;have hb:=hT.blk;unfold iX at hb;have c8:=hb.cell 8 _ rfl;have c7:=hb.cell 7 _ rfl
 by_cases hg:(r.aP.tasks t).gives=true
 ·
  rw [oU ht hg];have hp:=(hO.give hg).1;obtain ⟨gd,fd,cd,e1,e2,e3⟩:=uj hT.dst (k:=(r.aP.tasks t).port) (by simpa using hp);have c1:=hb.cell 2 _ rfl;rw [hg] at c8;simp only [List.length_map,List.length_range,List.getElem_map,List.getElem_range] at e1 e2 e3;change w.cell? _=some (v.tv t).dst at c1;rw [e1] at c1;refine En c8 c1 c7 e3 hp e2 ?_;unfold sP
  by_cases hd:toP g t (r.aP.tasks t).port < g.edges.length
  ·
   rw [if_pos hd,C8 (by omega)];refine .inl ⟨_,rfl,fun w' hw'=>?_⟩;exact MZ ((h.queue _ (by omega)).below hw') (hN _)
  ·
   rw [if_neg hd,M6 (by omega)];exact .inr ⟨_,rfl,rfl⟩
 ·
  have hg:(r.aP.tasks t).gives=false:=by simpa using hg
  rw [hg] at c8;obtain ⟨ia,ic,hia⟩:=hT.ins.slice;have c3:=hb.cell 3 _ rfl;change w.cell? _=some (v.tv t).ins at c3;rw [hia] at c3
  by_cases hp:(r.aP.tasks t).port < (ay g t).length
  ·
   rw [oV ht hg hp];obtain ⟨gd,fd,cd,e1,e2,e3⟩:=uj hT.src (k:=(r.aP.tasks t).port) (by simpa using hp);have c1:=hb.cell 1 _ rfl;simp only [List.length_map,List.length_range,List.getElem_map,List.getElem_range] at e1 e2 e3;change w.cell? _=some (v.tv t).src at c1;rw [e1] at c1;exact Eo c8 c1 c7 e3 c3 hp hp e2 (fun w' hw'=>JI ((h.queue _ (hL.inn t _ ht hp)).below hw') (hN _))
  ·
   rw [zm ht hg hp];have he:(r.aP.tasks t).port=(ay g t).length:=by have:=(hO.take hg).2.1;omega
   rw [<- he] at c3;exact Ep c8 c7 c3
def xW (w:World)(o:Col)(c d b:Nat)(v:Value)(l:List Int):Prop:=dZ w o c b 82 #[v]/\Own w o d 3 1 v l.length (bB l)
def aak (w:World)(o:Col)(c d b:Nat)(l:List Int)(e:Ending)(w':World):Prop:=∃ o' v',e=.returned (.tuple #[])/\Turn o o' (fun x=>x=c\/x=d) w w'/\xW w' o' c d b v' l
theorem M7 {w:World}{o:Col}{c d b:Nat}{v:Value}{l:List Int}(X:Int)(h:xW w o c d b v l)(hcd:c≠d)(hl:l.length < 27000000000000):Calls Tryz.prog 129 #[.pointer (some ⟨b,0,none⟩),.int .i64 X] w (aak w o c d b (l ++ [X])):=by
 obtain ⟨hB,hO⟩:=h;obtain ⟨sa,cap,rfl⟩:=hO.slice;obtain ⟨i0,hi,hz0,hz1,hz2⟩:=info_parts bU;have h0:=hB.cell 0 _ rfl;have hvb:(Value.slice sa l.length cap).ownBlock≠some b:=fun hh=>hcd (by rw [<- hB.2,hO.2 _ hh]);obtain ⟨n,hn⟩:∃ x,l.length=x:=⟨_,rfl⟩;rw [hn] at h0 hO hl hvb;have HN:=af hn;have HB:=af hB;have HO:=af hO;have Hl:=af hl;rw [hn] at hB;have HB':=af hB;clear hB hO hl hn;go_enter Tryz.func129,Tryz.ntmps129;go_wp2_with (at_builtin;refine aU ?_);refine dR ?_;refine aS rfl _ _ 27 rfl 0 3 i0 _ 1 8 Tryz.underlying27 hi hz0 hz1 hz2 rfl (.slice sa n cap) n (bB l) rfl (HO.out.1.alloc (.cells #[.int .i64 X] 3)) (some ⟨w.heap.size,0,none⟩) 1 1 [.int .i64 X] rfl rfl (fun h=>by cases h) (bC w [.int .i64 X] 3) (by simp [Value.oneCell']) (by have:=Hl.out;unfold maxLen;omega) (bA (by have:=Hl.out;omega)) (Nat.zero_le _) ?_;intro v' w2 g1 g20 _ g4;obtain ⟨sa',cap',rfl⟩:=aA g1;have g2:(w.alloc (.cells #[.int .i64 X] 3)).grownBy w2 (Value.slice sa n cap).ownBlock:=⟨g20.os,g20.tape,g20.output,g20.size,g20.block⟩;clear g20;have CX:=kJ (aI HB'.out.1 (.cells #[.int .i64 X] 3)) g2 hvb;have c4:=ah w2 b CX 0 (.slice sa n cap) rfl;have f4:=aj CX 0;have hm2:aG (fun k=>k=b\/(Value.slice sa n cap).ownBlock=some k) w w2:=((aG.refl _ _).alloc (.cells #[.int .i64 X] 3)).grown g2 (fun k hk _=>.inr hk);have Yb:=af hm2;have Ox:=af g1;have HG2:=af g2;have HG4:=af g4;have HQ3:=af CX;clear hm2 g1 g2 g4 CX;go_wp2;go_end0
 have hbl:=HB'.out.lt;have ho:=HO.out;have hnew:∀ k,(Value.slice sa' (n+1) cap').ownBlock=some k->(ext o w.heap.size d) k=d:=fun k hk=>by
  rcases HG4.out with g4 | g4
  ·
   rw [g4] at hk;rw [dm (ho.1.lt _ hk).2];exact ho.2 k hk
  ·
   rw [g4] at hk;cases hk
   exact dI (by simp)
 refine ⟨ext o w.heap.size d,_,rfl,⟨(Yb.out.setCell (fun _=>.inl rfl) _).mono (fun k hk hF=>?_),fun k hk=>dm hk⟩,⟨block_setCell HQ3.out 0 _,(dm hbl).trans HB'.out.2⟩,?_,hnew⟩
 ·
  rcases hF with rfl | hF
  ·
   exact .inl HB'.out.2
  ·
   exact .inr (ho.2 k hF)
 ·
  have e1:(l ++ [X]).length=n+1:=by rw [List.length_append,HN.out];rfl
  have e2:bB (l ++ [X])=bB l ++ [.int .i64 X]:=by simp [bB]
  rw [e1,e2];refine ownsRow_setCell_other Ox.out ?_ _
  rcases HG4.out with g4 | g4
  ·
   rw [g4];exact hvb
  ·
   rw [g4];intro h;have:=Option.some.inj h;simp at this;omega
theorem Own.setAt {w:World}{o:Col}{c:Nat}{e:TypeId}{size g cap n:Nat}{xs:List Value}(h:Own w o c e size (.slice (some ⟨g,0,none⟩) n cap) n xs){i:Nat}(_hi:i < xs.length)(u:Value) :
  Own (w.setCell ⟨g,i,none⟩ u) o c e size (.slice (some ⟨g,0,none⟩) n cap) n (xs.set i u)/\Turn o o (fun x=>x=c) w (w.setCell ⟨g,i,none⟩ u):=by
 obtain ⟨⟨hl,h⟩,ho⟩:=h
 rcases h with ⟨h,_⟩ | ⟨g',cap',cur,h1,hb,h2,h3,h4,h5,h6⟩
 ·
  cases h
 ·
  cases h1
  refine ⟨⟨⟨by rw [List.length_set];exact hl,.inr ⟨g,cap,cur.setIfInBounds i u,rfl,hb,block_setCell h2 i u,h3,h4,by rw [Array.size_setIfInBounds];exact h5,?_⟩⟩,ho⟩,⟨(aG.refl (fun k=>o k=c) w).setCell (p:=⟨g,i,none⟩) (fun _=>ho g rfl) u,fun _ _=>rfl⟩⟩;rw [Array.toList_setIfInBounds,List.take_set,h6]
theorem Own.frozenAt {w:World}{o:Col}{c:Nat}{e:TypeId}{size g cap n m:Nat}{xs:List Value}(h:Own w o c e size (.slice (some ⟨g,0,none⟩) n cap) m xs)(i:Nat):w.frozen? ⟨g,i,none⟩=false:=by
 obtain ⟨⟨hl,h⟩,ho⟩:=h
 rcases h with ⟨h,_⟩ | ⟨g',cap',cur,h1,hb,h2,h3,h4,h5,h6⟩
 ·
  cases h
 ·
  cases h1
  exact aj h2 i
theorem Own.addr {w:World}{o:Col}{c:Nat}{e:TypeId}{size n:Nat}{v:Value}{xs:List Value}(h:Own w o c e size v n xs)(hp:0 < n):∃ g cap,v=.slice (some ⟨g,0,none⟩) n cap/\n<=cap/\w.heap[g]?.isSome=true:=by
 rcases h.1.2 with ⟨_,h0⟩ | ⟨g,cap,cur,h1,hb,h2,h3,_⟩
 ·
  omega
 ·
  exact ⟨g,cap,h1,h3,by rw [h2];rfl⟩
theorem Own.cellAt {w:World}{o:Col}{c:Nat}{e:TypeId}{size g n cap:Nat}{xs:List Value}(h:Own w o c e size (.slice (some ⟨g,0,none⟩) n cap) n xs){i:Nat}{u:Value}(hu:xs[i]?=some u):w.cell? ⟨g,i,none⟩=some u:=by
 have:=h.1.cells (g:=g) rfl i u hu;rw [Addr.add_lit] at this
 simpa using this
theorem sQ.some {w:World}{o:Col}{c d:Nat}{x:bW}{v:jf}(h:sQ w o c d x v)(hp:0 < x.bg.length):(x.gives=false/\v.bg=.slice none 0 0)\/(x.gives=true/\∃ g cap,v.bg=.slice (some ⟨g,0,none⟩) x.bg.length cap/\x.bg.length<=cap/\Own w o c 27 1 v.bg x.bg.length v.GA/\v.GA.length=x.bg.length/\∀ k (h:k < x.bg.length),bT w o (d+k) 3 (v.GA[k]?.getD undef) (bB x.bg[k])):=by
 rcases h with h | ⟨h1,h2,h3,h4⟩
 ·
  exact .inl h
 ·
  obtain ⟨g,cap,e1,e2,_⟩:=h2.addr hp;exact .inr ⟨h1,g,cap,e1,e2,h2,h3,h4⟩
theorem bT.cut {w:World}{o:Col}{c:Nat}{e:TypeId}{g off n cap:Nat}{xs:List Value}(h:bT w o c e (.slice (some ⟨g,off,none⟩) n cap) xs){k:Nat}(hk:k<=xs.length):bT w o c e (.slice (if cap=k then some ⟨g,off,none⟩ else some ⟨g,off+k,none⟩) (n - k) (cap - k)) (xs.drop k):=by
 by_cases hc:cap=k
 ·
  rw [if_pos hc];have h0:=h.empty
  rcases h with ⟨_,h⟩ | ⟨g',off',cap',cur,h1,h2,h3,h4,_⟩
  ·
   cases h
  ·
   cases h1
   have e:k=xs.length:=by omega
   rw [show xs.length - k=0 by omega,show cap - k=0 by omega,e,List.drop_length];exact h0
 ·
  rw [if_neg hc];exact h.drop hk hc
theorem bT.some {w:World}{o:Col}{c:Nat}{e:TypeId}{v:Value}{xs:List Value}(h:bT w o c e v xs)(hp:0 < xs.length):∃ g off cap,v=.slice (some ⟨g,off,none⟩) xs.length cap/\xs.length<=cap/\cap<=maxLen:=by
 rcases h with ⟨rfl,_⟩ | ⟨g,off,cap,cur,h1,_,_,h4,_,h6,_⟩
 ·
  simp at hp
 ·
  exact ⟨g,off,cap,h1,h4,h6⟩
theorem dW.Vm {w:World}{o:Col}{M b:Nat}{g:av}{qs:bR}{t:Nat}{x:bW}{v:jf}(h:dW w o M b g qs t x v)(hg:x.gives=true){g0 cap:Nat}(hv:v.bg=.slice (some ⟨g0,0,none⟩) x.bg.length cap){p:Nat}(hp:p < x.bg.length){u:Value}{l:List Int}(hu:bT w o (M+32+p) 3 u (bB l)) :
  dW (w.setCell ⟨g0,p,none⟩ u) o M b g qs t { x with bg:=x.bg.set p l } { v with GA:=v.GA.set p u }/\Turn o o (fun c=>c=M+8) w (w.setCell ⟨g0,p,none⟩ u):=by
 rcases h.bg.some (by omega) with k | ⟨k1,g1,GD,k2,k3,k4,k5,k6⟩
 ·
  rw [hg] at k;cases k.1
 ·
  rw [hv] at k2;simp only [Value.slice.injEq,Option.some.injEq,Addr.mk.injEq] at k2;obtain ⟨⟨rfl,-⟩,-,rfl⟩:=k2;rw [hv] at k4;obtain ⟨B,S⟩:=k4.setAt (i:=p) (by omega) u;have hC:∀ j,j≠8->¬ (M+j=M+8):=fun j hj=>by omega
  obtain ⟨f1,f2,f3,f4⟩:=h.few;refine ⟨⟨?_,fun a ha=>(h.act a ha).turn S (hC 1 (by omega)) (hC 2 (by omega)),h.ins.turn S (hC 3 (by omega)),h.outs.turn S (hC 4 (by omega)),h.src.turn S (hC 5 (by omega)),h.dst.turn S (hC 6 (by omega)),h.hand.turn S (hC 7 (by omega)) (fun k _=>by omega),.inr ⟨k1,?_,?_,fun k hk=>?_⟩,f1,f2,f3,by simpa using f4⟩,S⟩
  ·
   exact h.blk.turn S (by omega)
  ·
   show Own _ _ _ _ _ v.bg (x.bg.set p l).length _
   rw [List.length_set,hv];exact B
  ·
   show (v.GA.set p u).length=(x.bg.set p l).length
   simp [k5]
  ·
   have hk':k < x.bg.length:=by simpa using hk
   show bT _ _ _ _ ((v.GA.set p u)[k]?.getD undef) (bB (x.bg.set p l)[k])
   by_cases e:p=k
   ·
    subst e;rw [List.getElem?_set_self (by omega),List.getElem_set_self];exact hu.turn S (by omega)
   ·
    rw [List.getElem?_set_ne e,List.getElem_set_ne e];exact (k6 k hk').turn S (by omega)
theorem dW.Vn {w w7:World}{o o7:Col}{M b:Nat}{g:av}{qs:bR}{t:Nat}{x:bW}{v:jf}(h:dW w o M b g qs t x v){p:Nat}(hp:p < x.hand.length)(T:Turn o o7 (fun c=>c=M+16+p) w w7){u:Value}{l:List Int}(hu:bT w7 o7 (M+16+p) 3 u (bB l)) :
  dW (w7.setCell ⟨v.hand,p,none⟩ u) o7 M b g qs t { x with hand:=x.hand.set p l } { v with hvs:=v.hvs.set p u }/\Turn o7 o7 (fun c=>c=M+7) w7 (w7.setCell ⟨v.hand,p,none⟩ u):=by
 obtain ⟨f1,f2,f3,f4⟩:=h.few;obtain ⟨B,S⟩:=(h.hand.blk.turn T (by omega)).set p u;have TS:=(T.mono (D:=fun c=>c=M+16+p\/c=M+7) (fun c hc=>.inl hc)).trans (S.mono (D:=fun c=>c=M+16+p\/c=M+7) (fun c hc=>.inr hc)) (fun _ h=>h);have hC:∀ j,j≠7->j < 16->¬ (M+j=M+16+p\/M+j=M+7):=fun j hj hj2=>by omega
 refine ⟨⟨h.blk.turn TS (by omega),fun a ha=>(h.act a ha).turn TS (hC 1 (by omega) (by omega)) (hC 2 (by omega) (by omega)),h.ins.turn TS (hC 3 (by omega) (by omega)),h.outs.turn TS (hC 4 (by omega) (by omega)),h.src.turn TS (hC 5 (by omega) (by omega)),h.dst.turn TS (hC 6 (by omega) (by omega)),⟨?_,?_,fun k hk=>?_⟩,h.bg.turn TS (hC 8 (by omega) (by omega)) (fun k _=>by omega),f1,f2,by simpa using f3,f4⟩,S⟩
 ·
  show (v.hvs.set p u).length=(x.hand.set p l).length
  simp [h.hand.len]
 ·
  show dZ _ _ _ _ _ (v.hvs.set p u).toArray
  simpa using B
 ·
  have hk':k < x.hand.length:=by simpa using hk
  have hkv:k < v.hvs.length:=by rw [h.hand.len];exact hk'
  show bT _ _ _ _ ((v.hvs.set p u)[k]'(by simpa using hkv)) (bB (x.hand.set p l)[k])
  by_cases e:p=k
  ·
   subst e;rw [List.getElem_set_self,List.getElem_set_self];exact hu.turn S (by omega)
  ·
   rw [List.getElem_set_ne e,List.getElem_set_ne e];exact (h.hand.row k hk').turn TS (by omega)
def StepT (w:World)(o:Col)(C:Nat->Prop)(F:Col->World->Prop)(M b:Nat)(g:av)(qs:bR)(t:Nat)(x':bW)(e:Ending)(w':World):Prop :=
 ∃ o2 w2 o' v',e=.returned (.bool true)/\Turn o o2 C w w2/\F o2 w2/\Turn o2 o' (dG M) w2 w'/\dW w' o' M b g qs t x' v'
def WV (w:World)(o:Col)(C:Nat->Prop)(F:Col->World->Prop)(v:Value)(e:Ending)(w':World):Prop:=∃ o',e=.returned v/\Turn o o' C w w'/\F o' w'
theorem zn {w:World}{o:Col}{M b s:Nat}{g:av}{qs:bR}{t:Nat}{x:bW}{v:jf}{C:Nat->Prop}{F:Col->World->Prop}{f:FuncId}{ty:TypeId}{cv:Value}(h:dW w o M b g qs t x v)(hg:x.gives=true)(hO:xu g t s x)(hs:s < 4611686018427387904)
  (hd:∀ w,(method 332 ty cv "pianola/dyn.give").run Tryz.prog w=.ok (f,cv) w) (hcf:∀ (args:Array Value) (w:World),(callFunc f args).run Tryz.prog w=.ok (.enter f args) w) (hv:sP qs g t x.port=.iface ty cv) (hC:∀ k,C k->¬ dG M k)
  (hcall:Calls Tryz.prog f #[cv,.int .i64 (lu x)] w.drew (WV w.drew o C F (.tuple #[]))) :
  Calls Tryz.prog 47 #[.pointer (some ⟨b,0,none⟩)] w (StepT w o C F M b g qs t (sG (ay g t).length (aF g t).length x)):=by
 obtain ⟨hp,hgl,-,-,-,hl1,hl2⟩:=hO.give hg;have Yj:x.whole < 4611686018427387904:=by have:=hO.whole;omega
 have hb:=h.blk;unfold iX at hb;have c8:=hb.cell 8 _ rfl;have c7:=hb.cell 7 _ rfl;have c2:=hb.cell 2 _ rfl;have c6:=hb.cell 6 _ rfl;change w.cell? _=some v.dst at c2;change w.cell? _=some v.bg at c6;change w.cell? _=some (.bool x.gives) at c8;rw [hg] at c8;obtain ⟨gd,fd,cd,e1,e2,e3⟩:=uj h.dst (k:=x.port) (by simpa using hp);simp only [List.length_map,List.length_range,List.getElem_map,List.getElem_range] at e1 e2 e3;rw [e1] at c2;rw [hv] at e3;have C9:=h.bg.some (by omega)
 rcases C9 with k | ⟨k1,g1,GD,k2,k3,k4,k5,k6⟩
 ·
  rw [hg] at k;cases k.1
 ·
  rw [k2] at c6;have hpg:x.port < x.bg.length:=by omega
  have Yk:=k6 x.port hpg;obtain ⟨z,zs,hz⟩:∃ z zs,x.bg[x.port]=z :: zs:=by
   have:bD x.bg x.port=(x.bg[x.port].length:Int):=by unfold bD;rw [List.getElem?_eq_getElem hpg];rfl
   cases hh:x.bg[x.port] with
   | nil=>rw [this,hh] at hl1;simp at hl1
   | cons z zs=>exact ⟨z,zs,rfl⟩
  have hgd:x.bg[x.port]?.getD []=z :: zs:=by rw [List.getElem?_eq_getElem hpg,hz];rfl
  have hnx:lu x=z:=by unfold lu;rw [hgd];rfl
  have zq:sG (ay g t).length (aF g t).length x=jR (ay g t).length (aF g t).length { x with bg:=x.bg.set x.port zs,port:=if zs=[] then x.port+1 else x.port }:=by
   unfold sG;rw [hgd];rfl
  rw [hz] at Yk;obtain ⟨gg,og,cg,q1,q2,q3⟩:=Yk.some (by simp [bB]);have e4:(bB (z :: zs)).length=zs.length+1:=by simp [bB]
  rw [e4] at q1 q2;have hgv:x.port < v.GA.length:=by omega
  have q0:v.GA[x.port]?=some (.slice (some ⟨gg,og,none⟩) (zs.length+1) cg):=by
   rw [<- q1,List.getElem?_eq_getElem hgv];rfl
  have cr:=(by rw [k2] at k4;exact k4:Own w o (M+8) 27 1 (.slice (some ⟨g1,0,none⟩) x.bg.length GD) x.bg.length v.GA).cellAt q0;have QF:=Yk.vals;rw [q1] at QF;have cz:=(uj QF (k:=0) (by simp [bB]));obtain ⟨gg',og',cg',u1,u2,cz⟩:=cz;simp only [Value.slice.injEq,Option.some.injEq,Addr.mk.injEq] at u1;obtain ⟨⟨rfl,rfl,-⟩,-,rfl⟩:=u1;rw [Nat.add_zero] at cz;change w.cell? _=some (Value.int .i64 z) at cz;rw [q1] at Yk;rw [hnx] at hcall;obtain ⟨n,hn⟩:∃ n,(aF g t).length=n:=⟨_,rfl⟩;rw [hn] at hp hgl e1 e2 c2;rw [hgl] at c6 k3;obtain ⟨p,hpe⟩:∃ p,x.port=p:=⟨_,rfl⟩;change w.cell? _=some (.int .i64 (x.port:Int)) at c7;rw [hpe] at c7 e3 cr hp Yk hpg;obtain ⟨L,hL⟩:∃ L,zs.length=L:=⟨_,rfl⟩;rw [hL] at cr q2;have hpi:(p:Int) < (n:Int):=by omega
  have abA:(n:Int)<=cd:=by omega
  have M8:(n:Int)<=GD:=by omega
  have hLi:((L:Int)+1)<=cg:=by omega
  have hL0:(0:Int) < (L:Int)+1:=by omega
  have hL1:(1:Int)<=(L:Int)+1:=by omega
  have H:=af h;have HO:=af hO;have HC:=af hC;have KX:=af k4;have HK6:=af Yk;have zb:=af k2;have HG:=af (And.intro hn (And.intro hpe (And.intro hL (And.intro hgl (And.intro hg (And.intro Yj (And.intro zq hpg)))))));have HQ0:=af q0;obtain ⟨X',QG⟩:∃ y,sG (ay g t).length (aF g t).length x=y:=⟨_,rfl⟩;rw [QG];have Yl:=af QG;clear QG;clear k1 h hO hC k4 k6 Yk k2 hn hpe hL hgl hg Yj zq hpg hb e1 hnx hgd hz q0 q1 QF u2 hl1 hl2 hgv k5 e4 hv hs;go_enter Tryz.func47,Tryz.ntmps47;go_wp2_with fail;refine aM (fun w'=>w'.cell? ⟨b,2,none⟩=some (.slice (some ⟨gd,fd,none⟩) n cd)/\w'.cell? ⟨b,7,none⟩=some (.int .i64 (p:Int))/\w'.cell? ⟨gd,fd+p,none⟩=some (.iface ty cv)/\w'.cell? ⟨b,6,none⟩=some (.slice (some ⟨g1,0,none⟩) n GD)/\w'.cell? ⟨g1,p,none⟩=some (.slice (some ⟨gg,og,none⟩) (L+1) cg)/\w'.cell? ⟨gg,og,none⟩=some (.int .i64 z)) [0,1,2,3,4,5,6,7,8,9,10,11,12,13,14,15,16,17,18,19,20,21,22,23] [24] (by kernel_rfl) (by kernel_rfl) rfl (fun _ _ hx h=>⟨hx.cell h.1,hx.cell h.2.1,hx.cell h.2.2.1,hx.cell h.2.2.2.1,hx.cell h.2.2.2.2.1,hx.cell h.2.2.2.2.2⟩) ⟨c2,c7,e3,c6,cr,cz⟩ ?_;intro Q' hQ';simp only [pk];refine aD ?_;refine ax ?_;go_wp2_with fail;refine hcall.mono ?_;rintro e w2 ⟨o2,rfl,T,hF⟩;have T0:Turn o o2 C w w2:=((Turn.refl o C w).drew).trans T (fun _ h=>h);obtain ⟨hn,hpe,hL,hgl,hg,Yj,zq,hpg⟩:=HG.out;have TA:=H.out.turn T0 HC.out;have hb:=TA.blk;unfold iX at hb;have c7:=hb.cell 7 _ rfl;have c6:=hb.cell 6 _ rfl;change w2.cell? _=some v.bg at c6;change w2.cell? _=some (.int .i64 (x.port:Int)) at c7;rw [zb.out,hgl] at c6;rw [hpe] at c7;have k4:=KX.out.turn T0 (fun hc=>HC.out _ hc (by unfold dG;omega));rw [zb.out] at k4;have cr:=k4.cellAt HQ0.out;rw [hL,hpe] at cr;have fr:=k4.frozenAt p;have k6:=(HK6.out.turn T0 (fun hc=>HC.out _ hc (by unfold dG;have:=H.out.few.2.2.2;omega))).cut (k:=1) (by simp [bB]);rw [hL] at k6;have HT0:=af T0;have HF:=af hF;have BF:=af TA;have HU:=af k6;clear T hF T0 hn hpe hL hgl hg Yj zq hpg TA hb k4 k6;go_wp2_with fail;refine aM (fun w'=>w'.cell? ⟨b,7,none⟩=some (.int .i64 (p:Int))/\w'.cell? ⟨b,6,none⟩=some (.slice (some ⟨g1,0,none⟩) n GD)/\w'.cell? ⟨g1,p,none⟩=some (.slice (some ⟨gg,og,none⟩) (L+1) cg)) [0,1,2,3,4,5,6,7,8,9,10,11,12,13,14,15,16,17,18,19] [20] (by kernel_rfl) (by kernel_rfl) rfl (fun _ _ hx h=>⟨hx.cell h.1,hx.cell h.2.1,hx.cell h.2.2⟩) ⟨c7,c6,cr⟩ ?_;intro Q' hQ';simp only [pk];refine aD ?_;refine ax ?_;have hu:=HU.out;simp only [Nat.add_sub_cancel] at hu;change bT w2 o2 (M+32+p) 3 _ (bB zs) at hu;generalize (if cg=1 then some (⟨gg,og,none⟩:Addr) else some ⟨gg,og+1,none⟩)=pa at hu ⊢;obtain ⟨TA3,S3⟩:=BF.out.Vm (by have:=HG.out;exact this.2.2.2.2.1) zb.out (p:=p) (by have:=HG.out;exact this.2.2.2.2.2.2.2) hu;have HU3:=af hu;clear hu c6 c7;have hb3:=TA3.blk;unfold iX at hb3;have c7:=hb3.cell 7 _ rfl;have c6:=hb3.cell 6 _ rfl;have f7:=hb3.frozen 7;change World.cell? _ _=some v.bg at c6;change World.cell? _ _=some (.int .i64 (x.port:Int)) at c7;rw [zb.out,show x.bg.length=n from HG.out.2.2.2.1] at c6;rw [show x.port=p from HG.out.2.1] at c7;have cr3:(w2.setCell ⟨g1,p,none⟩ (.slice pa L (cg - 1))).cell? ⟨g1,p,none⟩=some (.slice pa L (cg - 1)):=by
   have k4:=KX.out.turn HT0.out (fun hc=>HC.out _ hc (by unfold dG;omega));rw [zb.out] at k4;have q0:=HQ0.out;rw [show x.port=p from HG.out.2.1] at q0;refine (k4.setAt (i:=p) (List.getElem?_eq_some_iff.1 q0).1 _).1.cellAt ?_;exact List.getElem?_set_self (List.getElem?_eq_some_iff.1 q0).1
  have aal:=af TA3;have Ym:=af S3;clear TA3 S3 hb3;go_wp2_with fail;clear cr fr;refine aM (fun w'=>w'.cell? ⟨b,7,none⟩=some (.int .i64 (p:Int))/\w'.cell? ⟨b,6,none⟩=some (.slice (some ⟨g1,0,none⟩) n GD)/\w'.cell? ⟨g1,p,none⟩=some (.slice pa L (cg - 1))) [0,1,2,3,4,5,6,7,8,9,10,11] [] (by kernel_rfl) (by kernel_rfl) rfl (fun _ _ hx h=>⟨hx.cell h.1,hx.cell h.2.1,hx.cell h.2.2⟩) ⟨c7,c6,cr3⟩ ?_;intro Q' hQ';simp only [pk];refine aD ?_;refine ax ?_
  by_cases hL0:L=0
  ·
   have hLz:((L:Int) == 0)=true:=by rw [beq_iff_eq];omega
   have hwr:IntKind.i64.wrap ((p:Int)+1)=(p:Int)+1:=IntWalk.i64_in _ (by have:=H.out.few.2.1;have:=HG.out.1;omega);have HL0:=af hL0;clear hL0 hL1;obtain ⟨Zk,S4⟩:=aal.out.fields (x':={ x with bg:=x.bg.set p zs,port:=p+1 }) (i:=7) (u:=.int .i64 ((p:Int)+1)) (by unfold iX;simp) rfl rfl rfl rfl rfl;have QH:=af (Zk.drewN 2);have Zl:=af S4;clear Zk S4;go_wp2_with fail;refine (sS QH.out HG.out.2.2.2.2.2.1 (by have:=H.out.few.2.1;have:=HG.out.1;show p+1<=1000;omega)).mono ?_;rintro e w5 ⟨o5,v5,rfl,T5,WW⟩;have zI:=af T5;have QI:=af WW;clear T5 WW;go_wp2_with fail;go_ret;refine ⟨o2,w2,o5,v5,rfl,HT0.out,HF.out,?_,?_⟩
   ·
    exact ((((Ym.out.mono (fun c hc=>by rw [hc];unfold dG;omega)).trans (Zl.out.mono (oh M)) (fun _ h=>h)).drewN 2).trans zI.out (fun _ h=>h))
   ·
    obtain ⟨-,hpe,hL,-,-,-,zq,-⟩:=HG.out;have hzs:zs=[]:=List.eq_nil_of_length_eq_zero (by rw [hL];exact HL0.out);rw [<- Yl.out,zq,if_pos hzs,hpe];exact QI.out
  ·
   have hLz:((L:Int) == 0)=false:=by rw [beq_eq_false_iff_ne];omega
   have HL0:=af hL0;clear hL0;have QH:=af (aal.out.drewN 2);go_wp2_with fail;refine (sS QH.out HG.out.2.2.2.2.2.1 (by have:=H.out.few.2.1;have:=HG.out.1;have:=HG.out.2.1;show x.port<=1000;omega)).mono ?_;rintro e w5 ⟨o5,v5,rfl,T5,WW⟩;have zI:=af T5;have QI:=af WW;clear T5 WW;go_wp2_with fail;go_ret;refine ⟨o2,w2,o5,v5,rfl,HT0.out,HF.out,?_,?_⟩
   ·
    exact (((Ym.out.mono (fun c hc=>by rw [hc];unfold dG;omega)).drewN 2).trans zI.out (fun _ h=>h))
   ·
    obtain ⟨-,hpe,hL,-,-,-,zq,-⟩:=HG.out;have hzs:¬ zs=[]:=fun h=>HL0.out (by rw [<- hL,h];rfl);rw [<- Yl.out,zq,if_neg hzs,hpe];have:=QI.out;rw [hpe] at this;exact this
theorem om {w:World}{o:Col}{c:Nat}{v:Value}{vs:List Value}(h:cu w o c v vs){k:Nat}(hk:k < vs.length):∃ g off cap,v=.slice (some ⟨g,off,none⟩) vs.length cap/\vs.length<=cap/\w.cell? ⟨g,off+k,none⟩=some vs[k]/\o g=c:=by
 obtain ⟨ao,cap,rfl⟩:=h.slice;obtain ⟨g,off,rfl,_,h2,_,h4,h5⟩:=h.at (by omega);exact ⟨g,off,cap,rfl,h2,by rw [h5 k hk,List.getElem?_eq_getElem hk];rfl,h4⟩
theorem GH {w:World}{o:Col}{M b s:Nat}{g:av}{qs:bR}{t:Nat}{x:bW}{v:jf}{C:Nat->Prop}{F:Col->World->Prop}{X:Int}(h:dW w o M b g qs t x v)(hg:x.gives=false)(hO:xu g t s x)(hga:fG g)(hp:x.port < (ay g t).length)(hC:∀ k,C k->¬ dG M k)
  (hcall:∀ m,Calls Tryz.prog 125 #[.agg #[.pointer (some ⟨qs (bY g t x.port),0,none⟩)]] (w.drewN m) (WV (w.drewN m) o C F (.int .i64 X))) :
  Calls Tryz.prog 47 #[.pointer (some ⟨b,0,none⟩)] w (StepT w o C F M b g qs t (l8 (rI g t x.port) x X)):=by
 obtain ⟨C9,hpl,hfull,hnone,hless⟩:=hO.take hg;have hlp:=hless hp;have hr:=Jw hga hp;have hb:=h.blk;unfold iX at hb;have c8:=hb.cell 8 _ rfl;have c7:=hb.cell 7 _ rfl;have c1:=hb.cell 1 _ rfl;have c3:=hb.cell 3 _ rfl;have c5:=hb.cell 5 _ rfl;change w.cell? _=some v.src at c1;change w.cell? _=some v.ins at c3;change w.cell? _=some (.bool x.gives) at c8;change w.cell? _=some (.slice (some ⟨v.hand,0,none⟩) (ay g t).length (ay g t).length) at c5;change w.cell? _=some (.int .i64 (x.port:Int)) at c7;rw [hg] at c8;obtain ⟨gd,fd,cd,e1,e2,e3,aam⟩:=om h.src (k:=x.port) (by simpa using hp);simp only [List.length_map,List.length_range,List.getElem_map,List.getElem_range] at e1 e2 e3;rw [e1] at c1;obtain ⟨gi,fi,ci,i1,i2,i3,aan⟩:=om h.ins (k:=x.port) (by simpa [bB] using hp);simp only [aX] at i1 i2;have i4:(bB (ay g t))[x.port]'(by simpa [bB] using hp)=.int .i64 (rI g t x.port):=by
  unfold rI;rw [List.getElem?_eq_getElem hp];simp [bB]
 rw [i4] at i3;rw [i1] at c3;have hhl:=hO.hlen;have Yn:x.port < x.hand.length:=by omega
 have hrow:=h.hand.row x.port Yn;have hhv:x.port < v.hvs.length:=by rw [h.hand.len];exact Yn
 have ch:=h.hand.blk.cell x.port (v.hvs[x.port]'hhv) (by rw [List.getElem?_toArray,List.getElem?_eq_getElem hhv]);obtain ⟨ra,rc,hrv⟩:=hrow.slice;rw [aX] at hrv;rw [hrv] at ch hrow;have hlen:bD x.hand x.port=(x.hand[x.port].length:Int):=by unfold bD;rw [List.getElem?_eq_getElem Yn];rfl
 obtain ⟨l,hl⟩:∃ l,x.hand[x.port]=l:=⟨_,rfl⟩;have hgl:x.hand[x.port]?.getD []=l:=by rw [List.getElem?_eq_getElem Yn,hl];rfl
 rw [hl] at ch hrow hlen;rw [hlen] at hlp;have QJ:l8 (rI g t x.port) x X={ x with hand:=x.hand.set x.port (l ++ [X]),port:=if ((l.length:Int)+1=rI g t x.port) then x.port+1 else x.port }:=by
  unfold l8;rw [hgl]
 obtain ⟨RI,BQ⟩:∃ r,rI g t x.port=r:=⟨_,rfl⟩;rw [BQ] at i3 hlp hr QJ ⊢;obtain ⟨n,hn⟩:∃ n,(ay g t).length=n:=⟨_,rfl⟩;rw [hn] at hp hhl e1 e2 c1 c3 c5 i1 i2;have hn16:n<=16:=by rw [<- hn];exact h.few.1
 obtain ⟨p,hpe⟩:∃ p,x.port=p:=⟨_,rfl⟩;obtain ⟨q,hq⟩:∃ q,qs (bY g t x.port)=q:=⟨_,rfl⟩;have hsrc:vG qs g t x.port=.iface 73 (.agg #[.pointer (some ⟨q,0,none⟩)]):=by unfold vG;rw [hq]
 rw [hsrc] at e3;rw [hq] at hcall;rw [hpe] at c7 e3 ch hp hrow Yn i3;obtain ⟨L,hL⟩:∃ L,l.length=L:=⟨_,rfl⟩;rw [hL] at ch hlp;have hpi:(p:Int) < (n:Int):=by omega
 have abA:(n:Int)<=cd:=by omega
 have abv:(n:Int)<=ci:=by omega
 have hd:=MX q;obtain ⟨i0,hi,hz0,hz1,hz2⟩:=info_parts bU;have H:=af h;have Vo:=af (And.intro aam aan);clear aam aan;have HC:=af hC;have HR:=af hrow;have HI:=af hi;have HG:=af (And.intro hn (And.intro hpe (And.intro hL (And.intro Yn (And.intro hg (And.intro QJ hhl))))));have aao:=af (hcall 2);have HLP:=af (And.intro hlp hr);obtain ⟨X',QG⟩:∃ y,l8 RI x X=y:=⟨_,rfl⟩;rw [QG];have Yl:=af QG;clear QG h hC hrow hi hn hpe hL Yn hg QJ hhl hcall hlp hr C9 hpl hfull hnone hless hO hga hb e1 i1 i4 hlen hl hgl BQ hsrc hq hhv hrv;go_enter Tryz.func47,Tryz.ntmps47;go_wp2_with fail;refine aM (fun w'=>w'.cell? ⟨b,7,none⟩=some (.int .i64 (p:Int))/\w'.cell? ⟨b,3,none⟩=some (.slice (some ⟨gi,fi,none⟩) n ci)) [0,1,2,3,4,5,6,7,8,9] [10] (by kernel_rfl) (by kernel_rfl) rfl (fun _ _ hx h=>⟨hx.cell h.1,hx.cell h.2⟩) ⟨c7,c3⟩ ?_;intro Q' hQ';simp only [pk];refine aD ?_;refine ax ?_;go_wp2_with fail;refine cZ (fun w'=>w'.cell? ⟨b,5,none⟩=some (.slice (some ⟨v.hand,0,none⟩) n n)/\w'.cell? ⟨b,7,none⟩=some (.int .i64 (p:Int))/\w'.cell? ⟨v.hand,p,none⟩=some (.slice ra L rc)/\w'.cell? ⟨b,1,none⟩=some (.slice (some ⟨gd,fd,none⟩) n cd)/\w'.cell? ⟨gd,fd+p,none⟩=some (.iface 73 (.agg #[.pointer (some ⟨q,0,none⟩)]))) [0,1,2,3,4,5,6,7,8,9,10,11,12,13,14,15,16,17,18,19,20,21,22,23,24,25,26,27] [28,30] 5 (by kernel_rfl) (by kernel_rfl) rfl ⟨c5,c7,ch,c1,e3⟩ ?_;intro Q' hQ';simp only [pk];refine aD ?_;refine ax ?_;refine aB (i:=28) (by kernel_rfl) ?_;simp only [pk];go_wp2_with fail;refine aao.out.mono ?_;rintro e w2 ⟨o2,rfl,T,hF⟩;have T0:Turn o o2 C w w2:=((Turn.refl o C w).drewN 2).trans T (fun _ h=>h);have HT0:=af T0;have HF:=af hF;have TA:=H.out.turn T0 HC.out;have BF:=af TA;have hb2:=TA.blk;have no:∀ j,j < 48->¬ C (M+j):=fun j hj hc=>HC.out _ hc (by unfold dG;omega);have d5:=T0.cell c5 (by show ¬ C (o b);rw [H.out.blk.2];exact no 0 (by omega));have d7:=T0.cell c7 (by show ¬ C (o b);rw [H.out.blk.2];exact no 0 (by omega));have d1:=T0.cell c1 (by show ¬ C (o b);rw [H.out.blk.2];exact no 0 (by omega));have dh:=T0.cell ch (by show ¬ C (o v.hand);rw [H.out.hand.blk.2];exact no 7 (by omega));have d3:=T0.cell c3 (by show ¬ C (o b);rw [H.out.blk.2];exact no 0 (by omega));have de:=T0.cell e3 (by show ¬ C (o gd);rw [Vo.out.1];exact no 5 (by omega));have di:=T0.cell i3 (by show ¬ C (o gi);rw [Vo.out.2];exact no 3 (by omega));have hcg:=(T0.same gd (World.block_lt_of_cell? _ _ e3)).trans Vo.out.1;have hci:=(T0.same gi (World.block_lt_of_cell? _ _ i3)).trans Vo.out.2;have HR2:=af (HR.out.turn T0 (by have:=H.out.few.2.2.1;have:=HG.out.2.2.2.1;rw [Nat.add_assoc];exact no _ (by omega)));clear T0 hF TA hb2 no T c5 c7 c1 ch c3 e3 i3;go_wp2_with fail;refine ⟨fun _ _=>⟨d5,d7,dh,d1,de⟩,?_⟩;refine aB (i:=29) (by kernel_rfl) ?_;simp only [pk];go_wp2_with fail;have abB:=af di;have aap:=(dm (c:=0) (World.block_lt_of_cell? _ _ de)).trans hcg;have aaq:=(dm (c:=0) (World.block_lt_of_cell? _ _ di)).trans hci;have QK:=af (And.intro aap aaq);clear hcg hci aap aaq;have Tb:=Turn.of_below o2 0 (au w2 (.cells #[.int .i64 X] 3));have HTB:=af Tb;have d5:=Tb.cell d5 (fun h=>h);have d7:=Tb.cell d7 (fun h=>h);have dh:=Tb.cell dh (fun h=>h);have d1:=Tb.cell d1 (fun h=>h);have d3:=Tb.cell d3 (fun h=>h);have de:=Tb.cell de (fun h=>h);have di:=Tb.cell di (fun h=>h);clear Tb;refine ⟨fun _ _=>⟨d5,d7,dh,d1,de⟩,?_⟩;refine aB (i:=30) (by kernel_rfl) ?_;simp only [pk];go_wp2_with (at_builtin;refine aU ?_);refine dR ?_;refine nZ rfl _ _ 27 rfl (ext o2 w2.heap.size 0) (M+16+p) 3 i0 _ 8 Tryz.underlying27 HI.out hz0 hz1 hz2 rfl (.slice ra L rc) (bB l) rfl (by have:=HR2.out.turn HTB.out (fun h=>h);rw [HG.out.2.2.1] at this;exact this) (some ⟨w2.heap.size,0,none⟩) 1 1 [.int .i64 X] rfl rfl (fun h=>by cases h) (bC w2 [.int .i64 X] 3) (by simp [Value.oneCell']) (by rw [aX];have:=HLP.out;have:=HG.out.2.2.1;unfold maxLen;omega) (bA (by rw [aX];have:=HLP.out;have:=HG.out.2.2.1;omega)) ?_;intro v7 w7 T7 O7;obtain ⟨iM,iN,hv7⟩:=O7.slice;have aar:(bB l ++ [Value.int .i64 X]).length=L+1:=by simp [bB,HG.out.2.2.1]
 rw [aar] at hv7;subst hv7;have hOB:(ext o2 w2.heap.size 0) b=M:=(HTB.out.same b (by have:=BF.out.blk.lt;exact this)).trans BF.out.blk.2;have TAb:=BF.out.turn HTB.out (fun _ h=>h.elim);have hHB:(ext o2 w2.heap.size 0) v.hand=M+7:=TAb.hand.blk.2;have d5:=T7.cell d5 (by show ¬ _=_;rw [hOB];omega);have d7:=T7.cell d7 (by show ¬ _=_;rw [hOB];omega);have dh:=T7.cell dh (by show ¬ _=_;rw [hHB];omega);have d1:=T7.cell d1 (by show ¬ _=_;rw [hOB];omega);have d3:=T7.cell d3 (by show ¬ _=_;rw [hOB];omega);have de:=T7.cell de (by show ¬ (ext o2 w2.heap.size 0) gd=_;rw [QK.out.1];omega);have di:=T7.cell di (by show ¬ (ext o2 w2.heap.size 0) gi=_;rw [QK.out.2];omega);have X7:=TAb.hand.blk.turn T7 (by omega);have fh:=X7.frozen p;have K5:=af T7;have HO7:=af O7;have HTAB:=af TAb;clear T7 O7 hOB hHB X7 aar TAb;go_wp2_with fail;refine ⟨fun _=>⟨d5,d7,dh,d1,de⟩,?_⟩;refine aJ (ks:=[31,32]) (fun _ _ hx h=>⟨hx.cell h.1,hx.cell h.2.1,hx.cell h.2.2.1,hx.cell h.2.2.2.1,hx.cell h.2.2.2.2⟩) (by kernel_rfl) ?_;simp only [pk];go_wp2_with fail;have hO7:=HO7.out;rw [show bB l ++ [Value.int .i64 X]=bB (l ++ [X]) by simp [bB]] at hO7;obtain ⟨TA8,S8⟩:=HTAB.out.Vn (by exact HG.out.2.2.2.1) K5.out hO7;have Vp:=TA8.blk;unfold iX at Vp;have g7:=Vp.cell 7 _ rfl;have g5:=Vp.cell 5 _ rfl;have f7:=Vp.frozen 7;change World.cell? _ _=some (.slice (some ⟨v.hand,0,none⟩) (ay g t).length (ay g t).length) at g5;change World.cell? _ _=some (.int .i64 (x.port:Int)) at g7;rw [HG.out.2.1] at g7;rw [HG.out.1] at g5;have gh:(w7.setCell ⟨v.hand,p,none⟩ (.slice iM (L+1) iN)).cell? ⟨v.hand,p,none⟩=some (.slice iM (L+1) iN):=TA8.hand.blk.cell p _ (by
  have:p < v.hvs.length:=by rw [H.out.hand.len];exact HG.out.2.2.2.1
  show (v.hvs.set p (.slice iM (L+1) iN)).toArray[p]?=_
  rw [List.getElem?_toArray,List.getElem?_set_self this])
 have g3:=S8.cell d3 (by show ¬ _=_;rw [(K5.out.same b HTAB.out.blk.lt).trans HTAB.out.blk.2];omega);have gx:=S8.cell di (by show ¬ _=_;rw [(K5.out.same gi (Nat.lt_of_lt_of_le (World.block_lt_of_cell? _ _ abB.out) (by simp))).trans QK.out.2];omega);have aas:=af TA8;have HS8:=af S8;clear TA8 S8 Vp d5 d7 dh d1 d3 de di fh hO7;refine aM (fun w'=>w'.cell? ⟨b,5,none⟩=some (.slice (some ⟨v.hand,0,none⟩) n n)/\w'.cell? ⟨b,7,none⟩=some (.int .i64 (p:Int))/\w'.cell? ⟨v.hand,p,none⟩=some (.slice iM (L+1) iN)/\w'.cell? ⟨b,3,none⟩=some (.slice (some ⟨gi,fi,none⟩) n ci)/\w'.cell? ⟨gi,fi+p,none⟩=some (.int .i64 RI)) [0,1,2,3,4,5,6,7,8,9,10,11,12,13,14,15,16,17,18,19,20,21] [] (by kernel_rfl) (by kernel_rfl) rfl (fun _ _ hx h=>⟨hx.cell h.1,hx.cell h.2.1,hx.cell h.2.2.1,hx.cell h.2.2.2.1,hx.cell h.2.2.2.2⟩) ⟨g5,g7,gh,g3,gx⟩ ?_;intro Q' hQ';simp only [pk];refine aD ?_;refine ax ?_;have hST:Turn o2 (ext (ext o2 w2.heap.size 0) (w2.alloc (.cells #[.int .i64 X] 3)).heap.size (M+16+p)) (dG M) w2 (w7.setCell ⟨v.hand,p,none⟩ (.slice iM (L+1) iN)) :=
  ((HTB.out.mono (D:=dG M) (fun _ h=>h.elim)).trans (K5.out.mono (D:=dG M) (fun c hc=>by have:=HTAB.out.few.2.2.1;have:=HG.out.2.2.2.1;rw [hc];unfold dG;omega)) (fun _ h=>h)).trans (HS8.out.mono (D:=dG M) (fun c hc=>by rw [hc];unfold dG;omega)) (fun _ h=>h)
 have HST:=af hST;clear hST
 by_cases hLR:(L:Int)+1=RI
 ·
  have E9:((L:Int)+1 == RI)=true:=by rw [beq_iff_eq];omega
  have hwr:IntKind.i64.wrap ((p:Int)+1)=(p:Int)+1:=IntWalk.i64_in _ (by omega);have HLR:=af hLR;clear hLR;obtain ⟨TA9,S9⟩:=aas.out.fields (x':={ x with hand:=x.hand.set p (l ++ [X]),port:=p+1 }) (i:=7) (u:=.int .i64 ((p:Int)+1)) (by unfold iX;simp) rfl rfl rfl rfl rfl;have abC:=af TA9;have Yo:=af S9;clear TA9 S9;go_wp2_with fail;go_ret;have hX:X'={ x with hand:=x.hand.set p (l ++ [X]),port:=p+1 }:=by
   rw [<- Yl.out,HG.out.2.2.2.2.2.1,if_pos (by rw [HG.out.2.2.1];exact HLR.out),HG.out.2.1]
  rw [hX];exact ⟨o2,w2,_,_,rfl,HT0.out,HF.out,(HST.out.trans (Yo.out.mono (oh M)) (fun _ h=>h)).drewN 1,abC.out.drewN 1⟩
 ·
  have E9:((L:Int)+1 == RI)=false:=by rw [beq_eq_false_iff_ne];omega
  have HLR:=af hLR;clear hLR;go_wp2_with fail;go_ret;have hX:X'={ x with hand:=x.hand.set p (l ++ [X]) }:=by
   rw [<- Yl.out,HG.out.2.2.2.2.2.1,if_neg (by rw [HG.out.2.2.1];exact HLR.out),HG.out.2.1]
  rw [hX];exact ⟨o2,w2,_,_,rfl,HT0.out,HF.out,HST.out.drewN 1,aas.out.drewN 1⟩
end Go.Proofs.YtepjkmnhmcjbkaaGreat
