import Derived.Test.YtepjkmnhmcjbkaaGreatDynPlaysZ6
import Derived.Test.YtepjkmnhmcjbkaaGreatDynPlaysZ9
import Derived.Test.YtepjkmnhmcjbkaaGreatDynPlaysZ4
import Derived.Test.YtepjkmnhmcjbkaaGreatDynPlaysZ1
import Derived.Test.YtepjkmnhmcjbkaaGreatDynPlaysZ3
import Derived.Test.YtepjkmnhmcjbkaaGreatDynPlaysZ2
import Derived.Test.YtepjkmnhmcjbkaaGreatDynPlaysZ8
set_option linter.unusedVariables false
set_option linter.unusedSimpArgs false
set_option maxRecDepth 100000
set_option maxHeartbeats 20000000
namespace Go.Proofs.YtepjkmnhmcjbkaaGreat
open Go.RowKit
def LK (w:World)(R:Nat)(g:av)(gv:List Value)(caps:List Int)(e:Ending)(w':World):Prop :=
 (newE g caps≠0->e=.returned (.tuple #[.agg #[.string { data:=#[] },.slice none 0 0,.slice none 0 0,.slice none 0 0,.slice none 0 0,.slice none 0 0,.slice none 0 0,.slice none 0 0,.slice none 0 0],.int .i64 (newE g caps)])/\Below w.heap.size w w') /\
 (newE g caps=0->∃ b q v,e=.returned (.tuple #[.agg (zK gv v).toArray,.int .i64 0])/\Kept w.heap.size q w w'/\jP w' q R b g gv caps g.actors.length (g.edges.length+g.ins.length+g.outs.length) (g.edges.length+g.ins.length) (g.edges.length+g.ins.length+g.outs.length) v)
theorem ET {w w':World}{R:Nat}{g:av}{gv:List Value}{caps:List Int}{E:Int}(hE:newE g caps=E)(h0:E≠0)(hb:Below w.heap.size w w'):LK w R g gv caps (.returned (.tuple #[.agg #[.string { data:=#[] },.slice none 0 0,.slice none 0 0,.slice none 0 0,.slice none 0 0,.slice none 0 0,.slice none 0 0,.slice none 0 0,.slice none 0 0],.int .i64 E])) w' :=
 ⟨fun _=>⟨by rw [hE],hb⟩,fun h=>absurd (hE.symm.trans h) h0⟩
structure jB (w0 w:World) (q:Col) (R b:Nat) (g:av) (gv:List Value) (caps:List Int) (nT nS F B:Nat) (v:Ew):Prop where
 kept:Kept w0.heap.size q w0 w
 box:dZ w q (R+6) w0.heap.size 26 gv.toArray
 res:dZ w q (R+7) (w0.heap.size+1) 37 #[.string { data:=#[] },.slice none 0 0,.slice none 0 0,.slice none 0 0,.slice none 0 0,.slice none 0 0,.slice none 0 0,.slice none 0 0,.slice none 0 0]
 half:jP w q R b g gv caps nT nS F B v
theorem jB.turn {w0 w w':World}{q q':Col}{C:Nat->Prop}{R b:Nat}{g:av}{gv:List Value}{caps:List Int}{nT nS F B:Nat}{v:Ew}(h:jB w0 w q R b g gv caps nT nS F B v)(T:Turn q q' C w w')(hC0:¬ C 0)(hC:∀ k,C k->¬ jY R k):jB w0 w' q' R b g gv caps nT nS F B v :=
 ⟨h.kept.turn T hC0,h.box.turn T (fun hc=>hC _ hc (by unfold jY;omega)),h.res.turn T (fun hc=>hC _ hc (by unfold jY;omega)),h.half.turn T hC⟩
theorem wW {w:World}{Z:Nat}{a0 a1 a2 a3 a4 a5 a6 a7 a8 z0 z1 z2 z3 z4 z5 z6 z7 z8:Value}(h:w.heap[Z]?=some (.cells #[z0,z1,z2,z3,z4,z5,z6,z7,z8] 37 (0,0))) :
  (((((((((w.setCell ⟨Z,0,none⟩ a0).setCell ⟨Z,1,none⟩ a1).setCell ⟨Z,2,none⟩ a2).setCell ⟨Z,3,none⟩ a3).setCell ⟨Z,4,none⟩ a4).setCell ⟨Z,5,none⟩ a5).setCell ⟨Z,6,none⟩ a6).setCell ⟨Z,7,none⟩ a7).setCell ⟨Z,8,none⟩ a8).heap[Z]?=some (.cells #[a0,a1,a2,a3,a4,a5,a6,a7,a8] 37 (0,0)):=by
 have h0:=block_setCell h 0 a0;simp only [List.setIfInBounds_toArray,List.set_cons_zero] at h0;have h1:=block_setCell h0 1 a1;simp only [List.setIfInBounds_toArray,List.set_cons_zero,List.set_cons_succ] at h1;have h2:=block_setCell h1 2 a2;simp only [List.setIfInBounds_toArray,List.set_cons_zero,List.set_cons_succ] at h2;have h3:=block_setCell h2 3 a3;simp only [List.setIfInBounds_toArray,List.set_cons_zero,List.set_cons_succ] at h3;have h4:=block_setCell h3 4 a4;simp only [List.setIfInBounds_toArray,List.set_cons_zero,List.set_cons_succ] at h4;have h5:=block_setCell h4 5 a5;simp only [List.setIfInBounds_toArray,List.set_cons_zero,List.set_cons_succ] at h5;have h6:=block_setCell h5 6 a6;simp only [List.setIfInBounds_toArray,List.set_cons_zero,List.set_cons_succ] at h6;have h7:=block_setCell h6 7 a7;simp only [List.setIfInBounds_toArray,List.set_cons_zero,List.set_cons_succ] at h7;have h8:=block_setCell h7 8 a8;simp only [List.setIfInBounds_toArray,List.set_cons_zero,List.set_cons_succ] at h8;exact h8
theorem Br (w:World)(Z:Nat)(a0 a1 a2 a3 a4 a5 a6 a7 a8:Value):aG (fun k=>k=Z) w (((((((((w.setCell ⟨Z,0,none⟩ a0).setCell ⟨Z,1,none⟩ a1).setCell ⟨Z,2,none⟩ a2).setCell ⟨Z,3,none⟩ a3).setCell ⟨Z,4,none⟩ a4).setCell ⟨Z,5,none⟩ a5).setCell ⟨Z,6,none⟩ a6).setCell ⟨Z,7,none⟩ a7).setCell ⟨Z,8,none⟩ a8) :=
 (((((((((aG.refl (fun k=>k=Z) w).setCell (p:=⟨Z,0,none⟩) (fun _=>rfl) a0).setCell (p:=⟨Z,1,none⟩) (fun _=>rfl) a1).setCell (p:=⟨Z,2,none⟩) (fun _=>rfl) a2).setCell (p:=⟨Z,3,none⟩) (fun _=>rfl) a3).setCell (p:=⟨Z,4,none⟩) (fun _=>rfl) a4).setCell (p:=⟨Z,5,none⟩) (fun _=>rfl) a5).setCell (p:=⟨Z,6,none⟩) (fun _=>rfl) a6).setCell (p:=⟨Z,7,none⟩) (fun _=>rfl) a7).setCell (p:=⟨Z,8,none⟩) (fun _=>rfl) a8
theorem yD {w w1:World}{Z:Nat}(h:Below w.heap.size w w1)(hZ:w.heap.size<=Z)(a0 a1 a2 a3 a4 a5 a6 a7 a8:Value):Below w.heap.size w (((((((((w1.setCell ⟨Z,0,none⟩ a0).setCell ⟨Z,1,none⟩ a1).setCell ⟨Z,2,none⟩ a2).setCell ⟨Z,3,none⟩ a3).setCell ⟨Z,4,none⟩ a4).setCell ⟨Z,5,none⟩ a5).setCell ⟨Z,6,none⟩ a6).setCell ⟨Z,7,none⟩ a7).setCell ⟨Z,8,none⟩ a8) :=
 h.trans (aG.below (Br w1 Z a0 a1 a2 a3 a4 a5 a6 a7 a8) h.size (fun k hk e=>by omega))
theorem dH {w:World}{o:Col}{c X:Nat}{n va ve vi vo:Value}(h:dZ w o c X 26 #[n,va,ve,vi,vo]):w.cell? ⟨X,0,none⟩=some n/\w.cell? ⟨X,1,none⟩=some va/\w.cell? ⟨X,2,none⟩=some ve/\w.cell? ⟨X,3,none⟩=some vi/\w.cell? ⟨X,4,none⟩=some vo:=⟨h.cell 0 _ rfl,h.cell 1 _ rfl,h.cell 2 _ rfl,h.cell 3 _ rfl,h.cell 4 _ rfl⟩
theorem V6 {g:av}(hS:Sound g){t:Nat}(ht:t < g.actors.length):zw g t g.edges.length=zw g t (g.edges.length+g.ins.length):=by
 refine List.ext_getElem (by simp [zw]) fun i h1 h2=>?_;simp only [zw,List.getElem_map,List.getElem_range];have hi:i < (aF g t).length:=by simpa [zw] using h1
 rcases hS.Lf ht hi with h | h
 ·
  rw [if_pos (by omega),if_pos (by omega)]
 ·
  rw [if_neg (by omega),if_neg (by omega)]
theorem jB.pass {w0 w:World}{q:Col}{R b:Nat}{g:av}{gv:List Value}{caps:List Int}{nS F:Nat}{v:Ew}(h:jB w0 w q R b g gv caps g.actors.length nS F g.edges.length v)(hS:Sound g):jB w0 w q R b g gv caps g.actors.length nS F (g.edges.length+g.ins.length) v:=by
 refine { h with half:={ h.half with task:=fun t ht=>?_ } };have k:=h.half.task t ht;obtain ⟨gd,e2,b2⟩:=k.dst;rw [V6 hS ht] at b2;exact { k with dst:=⟨gd,e2,b2⟩ }
theorem jP.aa3 {w w':World}{o o':Col}{R b:Nat}{g:av}{gv:List Value}{caps:List Int}{nT nS F B:Nat}{v:Ew}(h:jP w o R b g gv caps nT nS F B v)(T:Turn o o' (fun c=>c=R+7) w w'):jP w' o' R b g gv caps nT nS F B v :=
 ⟨h.aP.turn T (by omega),h.caps.turn T (by omega),h.fail.turn T (by omega),h.tasks.turn T (by omega),h.streams.turn T (by omega),fun t ht=>(h.task t ht).turn T (by omega) (by omega) (by omega),fun d hd=>(h.all d hd).turn T (by omega),h.most⟩
theorem Ii {w:World}{o:Col}{c Z:Nat}{cs:Array Value}(h:dZ w o c Z 37 cs)(a0 a1 a2 a3 a4 a5 a6 a7 a8:Value):Turn o o (fun x=>x=c) w (((((((((w.setCell ⟨Z,0,none⟩ a0).setCell ⟨Z,1,none⟩ a1).setCell ⟨Z,2,none⟩ a2).setCell ⟨Z,3,none⟩ a3).setCell ⟨Z,4,none⟩ a4).setCell ⟨Z,5,none⟩ a5).setCell ⟨Z,6,none⟩ a6).setCell ⟨Z,7,none⟩ a7).setCell ⟨Z,8,none⟩ a8) :=
 ⟨(Br w Z a0 a1 a2 a3 a4 a5 a6 a7 a8).mono (fun k _ e=>by rw [e];exact h.2),fun _ _=>rfl⟩
def RV (w0:World)(R:Nat)(g:av)(gv:List Value)(caps:List Int)(p:Value)(wx:World):Prop:=∃ b q v,p=.pointer (some ⟨b,0,none⟩)/\jB w0 wx q R b g gv caps 0 0 0 0 v
theorem qp {w0 w:World}{q:Col}{R b fb:Nat}{g:av}{gn va ve vi vo sv:Value}{caps:List Int}(hR:1<=R)(K:Kept w0.heap.size q w0 w)(hX:dZ w q (R+6) w0.heap.size 26 #[gn,va,ve,vi,vo])(hZ:dZ w q (R+7) (w0.heap.size+1) 37 #[.string { data:=#[] },.slice none 0 0,.slice none 0 0,.slice none 0 0,.slice none 0 0,.slice none 0 0,.slice none 0 0,.slice none 0 0,.slice none 0 0])(hC:Own w q (R+3) 3 1 sv caps.length (bB caps))(hF:dZ w q (R+4) fb 3 #[.int .i64 (-1)])(hB:dZ w q (R+5) b 37 #[.string { data:=#[] },.slice none 0 0,.slice none 0 0,.slice none 0 0,.slice none 0 0,.slice none 0 0,.slice none 0 0,.slice none 0 0,.slice none 0 0]) :
  RV w0 R g [gn,va,ve,vi,vo] caps (.pointer (some ⟨b,0,none⟩)) (((((((((w.setCell ⟨b,0,none⟩ gn).setCell ⟨b,1,none⟩ va).setCell ⟨b,2,none⟩ ve).setCell ⟨b,3,none⟩ vi).setCell ⟨b,4,none⟩ vo).setCell ⟨b,5,none⟩ sv).setCell ⟨b,6,none⟩ (.slice none 0 0)).setCell ⟨b,7,none⟩ (.slice none 0 0)).setCell ⟨b,8,none⟩ (.slice (some ⟨fb,0,none⟩) 1 1)):=by
 have T:Turn q q (fun c=>c=R+5) w (((((((((w.setCell ⟨b,0,none⟩ gn).setCell ⟨b,1,none⟩ va).setCell ⟨b,2,none⟩ ve).setCell ⟨b,3,none⟩ vi).setCell ⟨b,4,none⟩ vo).setCell ⟨b,5,none⟩ sv).setCell ⟨b,6,none⟩ (.slice none 0 0)).setCell ⟨b,7,none⟩ (.slice none 0 0)).setCell ⟨b,8,none⟩ (.slice (some ⟨fb,0,none⟩) 1 1)) :=
  ⟨(Br w b _ _ _ _ _ _ _ _ _).mono (fun k _ e=>by rw [e];exact hB.2),fun _ _=>rfl⟩
 refine ⟨b,q,⟨sv,.slice none 0 0,.slice none 0 0,fb,fun _=>⟨.nilIface,.nilIface,.nilIface,.nilIface,.nilIface,.nilIface⟩,fun _=>.nilIface⟩,rfl,K.turn T (by omega),hX.turn T (by omega),hZ.turn T (by omega),⟨⟨wW hB.1,hB.2⟩,(hC.turn T (by omega)).vals,hF.turn T (by omega),Own.nil _ _ _ _ _,Own.nil _ _ _ _ _,fun t ht=>by omega,fun d hd=>by omega,⟨by omega,by omega⟩⟩⟩
theorem Bt:(Tryz.prog.info? 88).map (fun i=>(i.zero,i.size,i.bytes))=some (some (.agg #[.int .u8 0,.slice none 0 0,.slice none 0 0,.slice none 0 0,.slice none 0 0,.int .i64 0,.slice none 0 0,.slice none 0 0,.int .i64 0,.slice none 0 0,.slice none 0 0,.int .i64 0]),12,224):=by kernel_rfl
theorem rF:(Tryz.prog.info? 90).map (fun i=>(i.zero,i.size,i.bytes))=some (some (.agg #[.slice none 0 0,.int .i64 0]),2,32):=by kernel_rfl
theorem LM {w:World}{o:Col}{c Z:Nat}{a0 a1 a2 a3 a4 a5 z0 z1 z2 z3 z4 z5:Value}(h:dZ w o c Z 84 #[z0,z1,z2,z3,z4,z5]) :
  dZ ((((((w.setCell ⟨Z,0,none⟩ a0).setCell ⟨Z,1,none⟩ a1).setCell ⟨Z,2,none⟩ a2).setCell ⟨Z,3,none⟩ a3).setCell ⟨Z,4,none⟩ a4).setCell ⟨Z,5,none⟩ a5) o c Z 84 #[a0,a1,a2,a3,a4,a5]/\Turn o o (fun x=>x=c) w ((((((w.setCell ⟨Z,0,none⟩ a0).setCell ⟨Z,1,none⟩ a1).setCell ⟨Z,2,none⟩ a2).setCell ⟨Z,3,none⟩ a3).setCell ⟨Z,4,none⟩ a4).setCell ⟨Z,5,none⟩ a5):=by
 obtain ⟨h1,t1⟩:=h.set 0 a0;obtain ⟨h2,t2⟩:=h1.set 1 a1;obtain ⟨h3,t3⟩:=h2.set 2 a2;obtain ⟨h4,t4⟩:=h3.set 3 a3;obtain ⟨h5,t5⟩:=h4.set 4 a4;obtain ⟨h6,t6⟩:=h5.set 5 a5;exact ⟨h6,((((t1.trans t2 (fun _ h=>h)).trans t3 (fun _ h=>h)).trans t4 (fun _ h=>h)).trans t5 (fun _ h=>h)).trans t6 (fun _ h=>h)⟩
def Kr (w0:World)(R b k:Nat)(g:av)(gv:List Value)(caps:List Int)(v:Ew)(a:fE)(pp ee:Value)(wx:World):Prop :=
 ∃ q X vp vi vo vk,pp=.pointer (some ⟨X,0,none⟩)/\ee=.int .i64 0/\jB w0 wx q R b g gv caps k 0 0 0 v/\dZ wx q (R+3000) X 84 #[.int .u8 a.tag,vp,vi,vo,vk,.int .i64 0] /\
  Ints wx q (R+3) vp a.params/\Ints wx q (R+3) vi (bJ a.tag a.params)/\Ints wx q (R+3) vo (aV a.tag a.params)/\Ints wx q (R+3) vk (eB a.tag a.params)
theorem Bu (n:Nat)(hn:n<=100000)(w:World):(Instr.makeSlice 27 (.int .i64 (n:Int)) (.int .i64 (n:Int))).run Tryz.prog w=.ok (.slice (some ⟨w.heap.size,0,none⟩) n n) (w.alloc (.cells (bB (List.replicate n 0)).toArray 3)):=by
 obtain ⟨i0,hi,hz0,hz1,hz2⟩:=info_parts bU;have h:=run_make (P:=Tryz.prog) (w:=w) 27 3 i0 _ Tryz.underlying27 hi hz0 .i64 .i64 n n (by omega) (Int.le_refl _) (by rw [hz2];omega) (by omega);have e:madeCells (Value.cells (.int .i64 0)) (n*1)=(bB (List.replicate n 0)).toArray:=by rw [<- lM n]
 rw [h,Int.toNat_natCast,hz1,e]
theorem rG {w0 w:World}{q:Col}{R b X c k nS F B:Nat}{g:av}{n va ve vi vo:Value}{caps:List Int}{v:Ew}{a0 a1 a2 a3 a4 a5 vt:Value}(hN:jB w0 w q R b g [n,va,ve,vi,vo] caps k nS F B v)(ht:v.tasks=vt)(hA:dZ w q c X 84 #[a0,a1,a2,a3,a4,a5]):w.cell? ⟨b,6,none⟩=some vt/\w.cell? ⟨X,0,none⟩=some a0/\w.cell? ⟨X,1,none⟩=some a1/\w.cell? ⟨X,2,none⟩=some a2/\w.cell? ⟨X,3,none⟩=some a3/\w.cell? ⟨X,4,none⟩=some a4/\w.cell? ⟨X,5,none⟩=some a5 :=
 ⟨by rw [<- ht];exact hN.half.aP.cell 6 v.tasks rfl,hA.cell 0 _ rfl,hA.cell 1 _ rfl,hA.cell 2 _ rfl,hA.cell 3 _ rfl,hA.cell 4 _ rfl,hA.cell 5 _ rfl⟩
theorem Ij (w:World)(R:Nat)(hR:1<=R)(g:av)(caps:List Int){aa ae ai ao:Option Addr}{ac ec ic oc:Nat}{ca:Option Addr}{nc cc:Nat}(hv:dK w (.agg #[.string g.name,.slice aa g.actors.length ac,.slice ae g.edges.length ec,.slice ai g.ins.length ic,.slice ao g.outs.length oc]) g)(hz:mO g)(hc:Has w (.slice ca nc cc) (bB caps))(hcb:caps.length<=17600000000000):Calls Tryz.prog 6 #[.agg #[.string g.name,.slice aa g.actors.length ac,.slice ae g.edges.length ec,.slice ai g.ins.length ic,.slice ao g.outs.length oc],.slice ca nc cc] w (LK w R g [.string g.name,.slice aa g.actors.length ac,.slice ae g.edges.length ec,.slice ai g.ins.length ic,.slice ao g.outs.length oc] caps):=by
 obtain ⟨_,_,_,_,e0,ra,re,ri,ro⟩:=hv.shape;obtain rfl:nc=caps.length:=by simpa using cu.len hc
 simp only [Value.agg.injEq,Array.mk.injEq,List.cons.injEq,and_true,true_and] at e0;obtain ⟨rfl,rfl,rfl,rfl⟩:=e0;have HG:=af hv;have rV:=af ra;have nV:=af re;have qE:=af ri;have sI:=af ro;have Xi:=af hz;have HC:=af hc;clear hv ra re ri ro hz hc;have hb1:=au w (.cells #[.string g.name,.slice aa g.actors.length ac,.slice ae g.edges.length ec,.slice ai g.ins.length ic,.slice ao g.outs.length oc] 26);have T1:=Turn.of_below (fun _=>0) (R+6) hb1;have hX:=dA (w:=w) (fun _=>0) (R+6) #[.string g.name,.slice aa g.actors.length ac,.slice ae g.edges.length ec,.slice ai g.ins.length ic,.slice ao g.outs.length oc] 26;have hsz:(w.alloc (.cells #[.string g.name,.slice aa g.actors.length ac,.slice ae g.edges.length ec,.slice ai g.ins.length ic,.slice ao g.outs.length oc] 26)).heap.size=w.heap.size+1:=by simp
 have hb2:=au (w.alloc (.cells #[.string g.name,.slice aa g.actors.length ac,.slice ae g.edges.length ec,.slice ai g.ins.length ic,.slice ao g.outs.length oc] 26)) (.cells #[.string { data:=#[] },.slice none 0 0,.slice none 0 0,.slice none 0 0,.slice none 0 0,.slice none 0 0,.slice none 0 0,.slice none 0 0,.slice none 0 0] 37);have T2:=Turn.of_below (ext (fun _=>0) w.heap.size (R+6)) (R+7) hb2;have hZ:=dA (w:=w.alloc (.cells #[.string g.name,.slice aa g.actors.length ac,.slice ae g.edges.length ec,.slice ai g.ins.length ic,.slice ao g.outs.length oc] 26)) (ext (fun _=>0) w.heap.size (R+6)) (R+7) #[.string { data:=#[] },.slice none 0 0,.slice none 0 0,.slice none 0 0,.slice none 0 0,.slice none 0 0,.slice none 0 0,.slice none 0 0,.slice none 0 0] 37;have HK:=af (((Kept.start w).turn T1 (fun h=>h)).turn T2 (fun h=>h));have HX:=af (hX.turn T2 (fun h=>h));rw [hsz] at hZ HK HX;have HZ:=af hZ;generalize ext (ext (fun _=>0) w.heap.size (R+6)) (w.heap.size+1) (R+7)=q1 at *;obtain ⟨w1,hw1⟩:∃ x,(w.alloc (.cells #[.string g.name,.slice aa g.actors.length ac,.slice ae g.edges.length ec,.slice ai g.ins.length ic,.slice ao g.outs.length oc] 26)).alloc (.cells #[.string { data:=#[] },.slice none 0 0,.slice none 0 0,.slice none 0 0,.slice none 0 0,.slice none 0 0,.slice none 0 0,.slice none 0 0,.slice none 0 0] 37)=x:=⟨_,rfl⟩;have x:=dH (HX.out);clear hb1 T1 hX hsz hb2 T2 hZ;obtain ⟨x0,x1,x2,x3,x4⟩:=x;rw [hw1] at HK HX HZ x0 x1 x2 x3 x4;go_enter Tryz.func6,Tryz.ntmps6;go_wp2_with fail;clear hw1;refine (Jv _ _ g (HG.out.below HK.out.below) Xi.out).mono ?_;rintro e w2 ⟨rfl,hb2⟩;obtain ⟨E,hE⟩:∃ x,jH g=x:=⟨_,rfl⟩;rw [hE];have HE:=af hE;have T2:=Turn.of_below q1 (R+8) hb2;have zb:=af (HK.out.turn T2 (fun h=>h));have Nv:=af (HX.out.turn T2 (fun h=>h));have HZ2:=af (HZ.out.turn T2 (fun h=>h));generalize ext q1 _ (R+8)=q2 at *;clear hE T2 hb2 x0 x1 x2 x3 x4 HK HX HZ
 by_cases h0:E=0
 ·
  subst h0;obtain ⟨x0,x1,x2,x3,x4⟩:=dH Nv.out
  by_cases h1:caps.length=g.edges.length
  ·
   have hbb:((caps.length:Int) != (g.edges.length:Int))=false:=by rw [bne_eq_false_iff_eq];omega
   have H1:=af h1;have HS:=af (Gu HE.out);have HF:=af (Ia HS.out.head);clear h1;go_wp2_with fail
   go_cut [7] from 28 to 33 (fun p wx=>RV w R g [.string g.name,.slice aa g.actors.length ac,.slice ae g.edges.length ec,.slice ai g.ins.length ic,.slice ao g.outs.length oc] caps p wx)
   case first =>
    refine cB (fun w'=>w'.cell? ⟨w.heap.size,0,none⟩=some (.string g.name)/\w'.cell? ⟨w.heap.size,1,none⟩=some (.slice aa g.actors.length ac)/\w'.cell? ⟨w.heap.size,2,none⟩=some (.slice ae g.edges.length ec)/\w'.cell? ⟨w.heap.size,3,none⟩=some (.slice ai g.ins.length ic)/\w'.cell? ⟨w.heap.size,4,none⟩=some (.slice ao g.outs.length oc)) [0,1,4] [2] [0,1] 5 (by kernel_rfl) (by kernel_rfl) rfl ⟨x0,x1,x2,x3,x4⟩ ?_;intro Q' hQ' lD;simp only [pk];refine aD ?_;refine ax ?_;obtain ⟨wd,hwd⟩:∃ x,w2.drew=x:=⟨_,rfl⟩;obtain ⟨qd,hqd⟩:∃ x,q2=x:=⟨_,rfl⟩;have T0:Turn q2 q2 (fun _=>False) w2 wd:=by rw [<- hwd];exact (Turn.refl q2 _ w2).drew
    have HK:=af (zb.out.turn T0 (fun h=>h));have HX:=af (Nv.out.turn T0 (fun h=>h));have HZ:=af (HZ2.out.turn T0 (fun h=>h));rw [hqd] at HK HX HZ;rw [hwd];clear T0 hwd hqd x0 x1 x2 x3 x4 zb Nv HZ2;refine Es (i:=2) (k:=3) (m:=5) (by kernel_rfl) ?_ ?_ ?_
    ·
     simp only [pk];go_wp2_with fail;refine (gW _ ca caps.length cc caps (HC.out.below HK.out.below) hcb).mono ?_;rintro e zX ⟨vc,rfl,vV,hbN⟩;obtain ⟨sa,sc,rfl⟩:=aA vV;have TN:=Turn.of_below qd (R+3) hbN;have HCAP:=af (Own.made qd (R+3) vV);replace HK:=af (HK.out.turn TN (fun h=>h));replace HX:=af (HX.out.turn TN (fun h=>h));replace HZ:=af (HZ.out.turn TN (fun h=>h));generalize ext qd wd.heap.size (R+3)=Dz at *;clear hbN TN vV;go_wp2_with fail;refine ⟨by intros;exact dH HX.out,?_⟩;refine fZ (i:=3) (k:=5) (by kernel_rfl) ?_ ?_
     ·
      simp only [pk];have hbN:=au zX (.cells #[.int .i64 (-1)] 3);have TN:=Turn.of_below Dz (R+4) hbN;have tK:=af (dA (w:=zX) Dz (R+4) #[.int .i64 (-1)] 3);replace HK:=af (HK.out.turn TN (fun h=>h));replace HX:=af (HX.out.turn TN (fun h=>h));replace HZ:=af (HZ.out.turn TN (fun h=>h));replace HCAP:=af (HCAP.out.turn TN (fun h=>h));generalize ext Dz zX.heap.size (R+4)=Bv at *;clear hbN TN;go_wp2_with fail;obtain ⟨yE,mF⟩:∃ x,zX.alloc (.cells #[.int .i64 (-1)] 3)=x:=⟨_,rfl⟩;obtain ⟨fb,qw⟩:∃ x,zX.heap.size=x:=⟨_,rfl⟩;rw [mF] at HK HX HZ HCAP tK ⊢;rw [qw] at tK ⊢;clear mF qw;refine ⟨by intros;exact dH HX.out,?_⟩;refine dM (r:=[4]) (n:=2) lD (by kernel_rfl) (dH HX.out) ?_;simp only [pk];refine aD ?_;refine ax ?_;refine aB (i:=5) (by kernel_rfl) ?_;simp only [pk];have hbN:=au yE (.cells #[.string { data:=#[] },.slice none 0 0,.slice none 0 0,.slice none 0 0,.slice none 0 0,.slice none 0 0,.slice none 0 0,.slice none 0 0,.slice none 0 0] 37);have TN:=Turn.of_below Bv (R+5) hbN;have qA:=af (dA (w:=yE) Bv (R+5) #[.string { data:=#[] },.slice none 0 0,.slice none 0 0,.slice none 0 0,.slice none 0 0,.slice none 0 0,.slice none 0 0,.slice none 0 0,.slice none 0 0] 37);replace HK:=af (HK.out.turn TN (fun h=>h));replace HX:=af (HX.out.turn TN (fun h=>h));replace HZ:=af (HZ.out.turn TN (fun h=>h));replace HCAP:=af (HCAP.out.turn TN (fun h=>h));replace tK:=af (tK.out.turn TN (fun h=>h));generalize ext Bv yE.heap.size (R+5)=qS3 at *;clear hbN TN;go_wp2_with fail;obtain ⟨wS3,mF⟩:∃ x,yE.alloc (.cells #[.string { data:=#[] },.slice none 0 0,.slice none 0 0,.slice none 0 0,.slice none 0 0,.slice none 0 0,.slice none 0 0,.slice none 0 0,.slice none 0 0] 37)=x:=⟨_,rfl⟩;obtain ⟨rb,qw⟩:∃ x,yE.heap.size=x:=⟨_,rfl⟩;rw [mF] at HK HX HZ HCAP tK qA ⊢;rw [qw] at qA ⊢;clear mF qw;refine ⟨by intros;exact dH HX.out,?_⟩;have hrb:=qA.out;have z0:=hrb.cell 0 _ rfl;have z1:=hrb.cell 1 _ rfl;have z2:=hrb.cell 2 _ rfl;have z3:=hrb.cell 3 _ rfl;have z4:=hrb.cell 4 _ rfl;have z5:=hrb.cell 5 _ rfl;have z6:=hrb.cell 6 _ rfl;have z7:=hrb.cell 7 _ rfl;have z8:=hrb.cell 8 _ rfl;have f0:=hrb.frozen 0;have f1:=hrb.frozen 1;have f2:=hrb.frozen 2;have f3:=hrb.frozen 3;have f4:=hrb.frozen 4;have f5:=hrb.frozen 5;have f6:=hrb.frozen 6;have f7:=hrb.frozen 7;have f8:=hrb.frozen 8;have eT:=af (qp (g:=g) hR HK.out HX.out HZ.out HCAP.out tK.out qA.out);clear hrb lD;refine aJ (ks:=[6]) (fun _ _ hx h=>⟨hx.cell h.1,hx.cell h.2.1,hx.cell h.2.2.1,hx.cell h.2.2.2.1,hx.cell h.2.2.2.2⟩) (by kernel_rfl) ?_;simp only [pk];go_wp2
      go_meet
      case rel=>exact eT.out
     ·
      simp only [pk];have hbN:=au zX (.cells #[.string { data:=#[] },.slice none 0 0,.slice none 0 0,.slice none 0 0,.slice none 0 0,.slice none 0 0,.slice none 0 0,.slice none 0 0,.slice none 0 0] 37);have TN:=Turn.of_below Dz (R+5) hbN;have qA:=af (dA (w:=zX) Dz (R+5) #[.string { data:=#[] },.slice none 0 0,.slice none 0 0,.slice none 0 0,.slice none 0 0,.slice none 0 0,.slice none 0 0,.slice none 0 0,.slice none 0 0] 37);replace HK:=af (HK.out.turn TN (fun h=>h));replace HX:=af (HX.out.turn TN (fun h=>h));replace HZ:=af (HZ.out.turn TN (fun h=>h));replace HCAP:=af (HCAP.out.turn TN (fun h=>h));generalize ext Dz zX.heap.size (R+5)=Bv at *;clear hbN TN;go_wp2_with fail;obtain ⟨yE,mF⟩:∃ x,zX.alloc (.cells #[.string { data:=#[] },.slice none 0 0,.slice none 0 0,.slice none 0 0,.slice none 0 0,.slice none 0 0,.slice none 0 0,.slice none 0 0,.slice none 0 0] 37)=x:=⟨_,rfl⟩;obtain ⟨rb,qw⟩:∃ x,zX.heap.size=x:=⟨_,rfl⟩;rw [mF] at HK HX HZ HCAP qA ⊢;rw [qw] at qA ⊢;clear mF qw;refine ⟨by intros;exact dH HX.out,?_⟩;refine aB (i:=3) (by kernel_rfl) ?_;simp only [pk];have hbN:=au yE (.cells #[.int .i64 (-1)] 3);have TN:=Turn.of_below Bv (R+4) hbN;have tK:=af (dA (w:=yE) Bv (R+4) #[.int .i64 (-1)] 3);replace HK:=af (HK.out.turn TN (fun h=>h));replace HX:=af (HX.out.turn TN (fun h=>h));replace HZ:=af (HZ.out.turn TN (fun h=>h));replace HCAP:=af (HCAP.out.turn TN (fun h=>h));replace qA:=af (qA.out.turn TN (fun h=>h));generalize ext Bv yE.heap.size (R+4)=qS3 at *;clear hbN TN;go_wp2_with fail;obtain ⟨wS3,mF⟩:∃ x,yE.alloc (.cells #[.int .i64 (-1)] 3)=x:=⟨_,rfl⟩;obtain ⟨fb,qw⟩:∃ x,yE.heap.size=x:=⟨_,rfl⟩;rw [mF] at HK HX HZ HCAP qA tK ⊢;rw [qw] at tK ⊢;clear mF qw;refine ⟨by intros;exact dH HX.out,?_⟩;refine dM (r:=[4]) (n:=1) lD (by kernel_rfl) (dH HX.out) ?_;simp only [pk];refine aD ?_;refine ax ?_;have hrb:=qA.out;have z0:=hrb.cell 0 _ rfl;have z1:=hrb.cell 1 _ rfl;have z2:=hrb.cell 2 _ rfl;have z3:=hrb.cell 3 _ rfl;have z4:=hrb.cell 4 _ rfl;have z5:=hrb.cell 5 _ rfl;have z6:=hrb.cell 6 _ rfl;have z7:=hrb.cell 7 _ rfl;have z8:=hrb.cell 8 _ rfl;have f0:=hrb.frozen 0;have f1:=hrb.frozen 1;have f2:=hrb.frozen 2;have f3:=hrb.frozen 3;have f4:=hrb.frozen 4;have f5:=hrb.frozen 5;have f6:=hrb.frozen 6;have f7:=hrb.frozen 7;have f8:=hrb.frozen 8;have eT:=af (qp (g:=g) hR HK.out HX.out HZ.out HCAP.out tK.out qA.out);clear hrb lD;refine aJ (ks:=[6]) (fun _ _ hx h=>⟨hx.cell h.1,hx.cell h.2.1,hx.cell h.2.2.1,hx.cell h.2.2.2.1,hx.cell h.2.2.2.2⟩) (by kernel_rfl) ?_;simp only [pk];go_wp2
      go_meet
      case rel=>exact eT.out
    ·
     simp only [pk];have hbN:=au wd (.cells #[.int .i64 (-1)] 3);have TN:=Turn.of_below qd (R+4) hbN;have tK:=af (dA (w:=wd) qd (R+4) #[.int .i64 (-1)] 3);replace HK:=af (HK.out.turn TN (fun h=>h));replace HX:=af (HX.out.turn TN (fun h=>h));replace HZ:=af (HZ.out.turn TN (fun h=>h));generalize ext qd wd.heap.size (R+4)=Dz at *;clear hbN TN;go_wp2_with fail;obtain ⟨zX,mF⟩:∃ x,wd.alloc (.cells #[.int .i64 (-1)] 3)=x:=⟨_,rfl⟩;obtain ⟨fb,qw⟩:∃ x,wd.heap.size=x:=⟨_,rfl⟩;rw [mF] at HK HX HZ tK ⊢;rw [qw] at tK ⊢;clear mF qw;refine ⟨by intros;exact dH HX.out,?_⟩;refine fZ (i:=2) (k:=5) (by kernel_rfl) ?_ ?_
     ·
      simp only [pk];go_wp2_with fail;refine (gW _ ca caps.length cc caps (HC.out.below HK.out.below) hcb).mono ?_;rintro e yE ⟨vc,rfl,vV,hbN⟩;obtain ⟨sa,sc,rfl⟩:=aA vV;have TN:=Turn.of_below Dz (R+3) hbN;have HCAP:=af (Own.made Dz (R+3) vV);replace HK:=af (HK.out.turn TN (fun h=>h));replace HX:=af (HX.out.turn TN (fun h=>h));replace HZ:=af (HZ.out.turn TN (fun h=>h));replace tK:=af (tK.out.turn TN (fun h=>h));generalize ext Dz zX.heap.size (R+3)=Bv at *;clear hbN TN vV;go_wp2_with fail;refine ⟨by intros;exact dH HX.out,?_⟩;refine dM (r:=[4]) (n:=2) lD (by kernel_rfl) (dH HX.out) ?_;simp only [pk];refine aD ?_;refine ax ?_;refine aB (i:=5) (by kernel_rfl) ?_;simp only [pk];have hbN:=au yE (.cells #[.string { data:=#[] },.slice none 0 0,.slice none 0 0,.slice none 0 0,.slice none 0 0,.slice none 0 0,.slice none 0 0,.slice none 0 0,.slice none 0 0] 37);have TN:=Turn.of_below Bv (R+5) hbN;have qA:=af (dA (w:=yE) Bv (R+5) #[.string { data:=#[] },.slice none 0 0,.slice none 0 0,.slice none 0 0,.slice none 0 0,.slice none 0 0,.slice none 0 0,.slice none 0 0,.slice none 0 0] 37);replace HK:=af (HK.out.turn TN (fun h=>h));replace HX:=af (HX.out.turn TN (fun h=>h));replace HZ:=af (HZ.out.turn TN (fun h=>h));replace tK:=af (tK.out.turn TN (fun h=>h));replace HCAP:=af (HCAP.out.turn TN (fun h=>h));generalize ext Bv yE.heap.size (R+5)=qS3 at *;clear hbN TN;go_wp2_with fail;obtain ⟨wS3,mF⟩:∃ x,yE.alloc (.cells #[.string { data:=#[] },.slice none 0 0,.slice none 0 0,.slice none 0 0,.slice none 0 0,.slice none 0 0,.slice none 0 0,.slice none 0 0,.slice none 0 0] 37)=x:=⟨_,rfl⟩;obtain ⟨rb,qw⟩:∃ x,yE.heap.size=x:=⟨_,rfl⟩;rw [mF] at HK HX HZ tK HCAP qA ⊢;rw [qw] at qA ⊢;clear mF qw;refine ⟨by intros;exact dH HX.out,?_⟩;have hrb:=qA.out;have z0:=hrb.cell 0 _ rfl;have z1:=hrb.cell 1 _ rfl;have z2:=hrb.cell 2 _ rfl;have z3:=hrb.cell 3 _ rfl;have z4:=hrb.cell 4 _ rfl;have z5:=hrb.cell 5 _ rfl;have z6:=hrb.cell 6 _ rfl;have z7:=hrb.cell 7 _ rfl;have z8:=hrb.cell 8 _ rfl;have f0:=hrb.frozen 0;have f1:=hrb.frozen 1;have f2:=hrb.frozen 2;have f3:=hrb.frozen 3;have f4:=hrb.frozen 4;have f5:=hrb.frozen 5;have f6:=hrb.frozen 6;have f7:=hrb.frozen 7;have f8:=hrb.frozen 8;have eT:=af (qp (g:=g) hR HK.out HX.out HZ.out HCAP.out tK.out qA.out);clear hrb lD;refine aJ (ks:=[6]) (fun _ _ hx h=>⟨hx.cell h.1,hx.cell h.2.1,hx.cell h.2.2.1,hx.cell h.2.2.2.1,hx.cell h.2.2.2.2⟩) (by kernel_rfl) ?_;simp only [pk];go_wp2
      go_meet
      case rel=>exact eT.out
     ·
      simp only [pk];have hbN:=au zX (.cells #[.string { data:=#[] },.slice none 0 0,.slice none 0 0,.slice none 0 0,.slice none 0 0,.slice none 0 0,.slice none 0 0,.slice none 0 0,.slice none 0 0] 37);have TN:=Turn.of_below Dz (R+5) hbN;have qA:=af (dA (w:=zX) Dz (R+5) #[.string { data:=#[] },.slice none 0 0,.slice none 0 0,.slice none 0 0,.slice none 0 0,.slice none 0 0,.slice none 0 0,.slice none 0 0,.slice none 0 0] 37);replace HK:=af (HK.out.turn TN (fun h=>h));replace HX:=af (HX.out.turn TN (fun h=>h));replace HZ:=af (HZ.out.turn TN (fun h=>h));replace tK:=af (tK.out.turn TN (fun h=>h));generalize ext Dz zX.heap.size (R+5)=Bv at *;clear hbN TN;go_wp2_with fail;obtain ⟨yE,mF⟩:∃ x,zX.alloc (.cells #[.string { data:=#[] },.slice none 0 0,.slice none 0 0,.slice none 0 0,.slice none 0 0,.slice none 0 0,.slice none 0 0,.slice none 0 0,.slice none 0 0] 37)=x:=⟨_,rfl⟩;obtain ⟨rb,qw⟩:∃ x,zX.heap.size=x:=⟨_,rfl⟩;rw [mF] at HK HX HZ tK qA ⊢;rw [qw] at qA ⊢;clear mF qw;refine ⟨by intros;exact dH HX.out,?_⟩;refine aB (i:=2) (by kernel_rfl) ?_;simp only [pk];go_wp2_with fail;refine (gW _ ca caps.length cc caps (HC.out.below HK.out.below) hcb).mono ?_;rintro e wS3 ⟨vc,rfl,vV,hbN⟩;obtain ⟨sa,sc,rfl⟩:=aA vV;have TN:=Turn.of_below Bv (R+3) hbN;have HCAP:=af (Own.made Bv (R+3) vV);replace HK:=af (HK.out.turn TN (fun h=>h));replace HX:=af (HX.out.turn TN (fun h=>h));replace HZ:=af (HZ.out.turn TN (fun h=>h));replace tK:=af (tK.out.turn TN (fun h=>h));replace qA:=af (qA.out.turn TN (fun h=>h));generalize ext Bv yE.heap.size (R+3)=qS3 at *;clear hbN TN vV;go_wp2_with fail;refine ⟨by intros;exact dH HX.out,?_⟩;refine dM (r:=[4]) (n:=1) lD (by kernel_rfl) (dH HX.out) ?_;simp only [pk];refine aD ?_;refine ax ?_;have hrb:=qA.out;have z0:=hrb.cell 0 _ rfl;have z1:=hrb.cell 1 _ rfl;have z2:=hrb.cell 2 _ rfl;have z3:=hrb.cell 3 _ rfl;have z4:=hrb.cell 4 _ rfl;have z5:=hrb.cell 5 _ rfl;have z6:=hrb.cell 6 _ rfl;have z7:=hrb.cell 7 _ rfl;have z8:=hrb.cell 8 _ rfl;have f0:=hrb.frozen 0;have f1:=hrb.frozen 1;have f2:=hrb.frozen 2;have f3:=hrb.frozen 3;have f4:=hrb.frozen 4;have f5:=hrb.frozen 5;have f6:=hrb.frozen 6;have f7:=hrb.frozen 7;have f8:=hrb.frozen 8;have eT:=af (qp (g:=g) hR HK.out HX.out HZ.out HCAP.out tK.out qA.out);clear hrb lD;refine aJ (ks:=[6]) (fun _ _ hx h=>⟨hx.cell h.1,hx.cell h.2.1,hx.cell h.2.2.1,hx.cell h.2.2.2.1,hx.cell h.2.2.2.2⟩) (by kernel_rfl) ?_;simp only [pk];go_wp2
      go_meet
      case rel=>exact eT.out
    ·
     simp only [pk];have hbN:=au wd (.cells #[.string { data:=#[] },.slice none 0 0,.slice none 0 0,.slice none 0 0,.slice none 0 0,.slice none 0 0,.slice none 0 0,.slice none 0 0,.slice none 0 0] 37);have TN:=Turn.of_below qd (R+5) hbN;have qA:=af (dA (w:=wd) qd (R+5) #[.string { data:=#[] },.slice none 0 0,.slice none 0 0,.slice none 0 0,.slice none 0 0,.slice none 0 0,.slice none 0 0,.slice none 0 0,.slice none 0 0] 37);replace HK:=af (HK.out.turn TN (fun h=>h));replace HX:=af (HX.out.turn TN (fun h=>h));replace HZ:=af (HZ.out.turn TN (fun h=>h));generalize ext qd wd.heap.size (R+5)=Dz at *;clear hbN TN;go_wp2_with fail;obtain ⟨zX,mF⟩:∃ x,wd.alloc (.cells #[.string { data:=#[] },.slice none 0 0,.slice none 0 0,.slice none 0 0,.slice none 0 0,.slice none 0 0,.slice none 0 0,.slice none 0 0,.slice none 0 0] 37)=x:=⟨_,rfl⟩;obtain ⟨rb,qw⟩:∃ x,wd.heap.size=x:=⟨_,rfl⟩;rw [mF] at HK HX HZ qA ⊢;rw [qw] at qA ⊢;clear mF qw;refine ⟨by intros;exact dH HX.out,?_⟩;refine fZ (i:=2) (k:=3) (by kernel_rfl) ?_ ?_
     ·
      simp only [pk];go_wp2_with fail;refine (gW _ ca caps.length cc caps (HC.out.below HK.out.below) hcb).mono ?_;rintro e yE ⟨vc,rfl,vV,hbN⟩;obtain ⟨sa,sc,rfl⟩:=aA vV;have TN:=Turn.of_below Dz (R+3) hbN;have HCAP:=af (Own.made Dz (R+3) vV);replace HK:=af (HK.out.turn TN (fun h=>h));replace HX:=af (HX.out.turn TN (fun h=>h));replace HZ:=af (HZ.out.turn TN (fun h=>h));replace qA:=af (qA.out.turn TN (fun h=>h));generalize ext Dz zX.heap.size (R+3)=Bv at *;clear hbN TN vV;go_wp2_with fail;refine ⟨by intros;exact dH HX.out,?_⟩;refine aB (i:=3) (by kernel_rfl) ?_;simp only [pk];have hbN:=au yE (.cells #[.int .i64 (-1)] 3);have TN:=Turn.of_below Bv (R+4) hbN;have tK:=af (dA (w:=yE) Bv (R+4) #[.int .i64 (-1)] 3);replace HK:=af (HK.out.turn TN (fun h=>h));replace HX:=af (HX.out.turn TN (fun h=>h));replace HZ:=af (HZ.out.turn TN (fun h=>h));replace qA:=af (qA.out.turn TN (fun h=>h));replace HCAP:=af (HCAP.out.turn TN (fun h=>h));generalize ext Bv yE.heap.size (R+4)=qS3 at *;clear hbN TN;go_wp2_with fail;obtain ⟨wS3,mF⟩:∃ x,yE.alloc (.cells #[.int .i64 (-1)] 3)=x:=⟨_,rfl⟩;obtain ⟨fb,qw⟩:∃ x,yE.heap.size=x:=⟨_,rfl⟩;rw [mF] at HK HX HZ qA HCAP tK ⊢;rw [qw] at tK ⊢;clear mF qw;refine ⟨by intros;exact dH HX.out,?_⟩;refine dM (r:=[4]) (n:=1) lD (by kernel_rfl) (dH HX.out) ?_;simp only [pk];refine aD ?_;refine ax ?_;have hrb:=qA.out;have z0:=hrb.cell 0 _ rfl;have z1:=hrb.cell 1 _ rfl;have z2:=hrb.cell 2 _ rfl;have z3:=hrb.cell 3 _ rfl;have z4:=hrb.cell 4 _ rfl;have z5:=hrb.cell 5 _ rfl;have z6:=hrb.cell 6 _ rfl;have z7:=hrb.cell 7 _ rfl;have z8:=hrb.cell 8 _ rfl;have f0:=hrb.frozen 0;have f1:=hrb.frozen 1;have f2:=hrb.frozen 2;have f3:=hrb.frozen 3;have f4:=hrb.frozen 4;have f5:=hrb.frozen 5;have f6:=hrb.frozen 6;have f7:=hrb.frozen 7;have f8:=hrb.frozen 8;have eT:=af (qp (g:=g) hR HK.out HX.out HZ.out HCAP.out tK.out qA.out);clear hrb lD;refine aJ (ks:=[6]) (fun _ _ hx h=>⟨hx.cell h.1,hx.cell h.2.1,hx.cell h.2.2.1,hx.cell h.2.2.2.1,hx.cell h.2.2.2.2⟩) (by kernel_rfl) ?_;simp only [pk];go_wp2
      go_meet
      case rel=>exact eT.out
     ·
      simp only [pk];have hbN:=au zX (.cells #[.int .i64 (-1)] 3);have TN:=Turn.of_below Dz (R+4) hbN;have tK:=af (dA (w:=zX) Dz (R+4) #[.int .i64 (-1)] 3);replace HK:=af (HK.out.turn TN (fun h=>h));replace HX:=af (HX.out.turn TN (fun h=>h));replace HZ:=af (HZ.out.turn TN (fun h=>h));replace qA:=af (qA.out.turn TN (fun h=>h));generalize ext Dz zX.heap.size (R+4)=Bv at *;clear hbN TN;go_wp2_with fail;obtain ⟨yE,mF⟩:∃ x,zX.alloc (.cells #[.int .i64 (-1)] 3)=x:=⟨_,rfl⟩;obtain ⟨fb,qw⟩:∃ x,zX.heap.size=x:=⟨_,rfl⟩;rw [mF] at HK HX HZ qA tK ⊢;rw [qw] at tK ⊢;clear mF qw;refine ⟨by intros;exact dH HX.out,?_⟩;refine aB (i:=2) (by kernel_rfl) ?_;simp only [pk];go_wp2_with fail;refine (gW _ ca caps.length cc caps (HC.out.below HK.out.below) hcb).mono ?_;rintro e wS3 ⟨vc,rfl,vV,hbN⟩;obtain ⟨sa,sc,rfl⟩:=aA vV;have TN:=Turn.of_below Bv (R+3) hbN;have HCAP:=af (Own.made Bv (R+3) vV);replace HK:=af (HK.out.turn TN (fun h=>h));replace HX:=af (HX.out.turn TN (fun h=>h));replace HZ:=af (HZ.out.turn TN (fun h=>h));replace qA:=af (qA.out.turn TN (fun h=>h));replace tK:=af (tK.out.turn TN (fun h=>h));generalize ext Bv yE.heap.size (R+3)=qS3 at *;clear hbN TN vV;go_wp2_with fail;refine ⟨by intros;exact dH HX.out,?_⟩;refine dM (r:=[4]) (n:=1) lD (by kernel_rfl) (dH HX.out) ?_;simp only [pk];refine aD ?_;refine ax ?_;have hrb:=qA.out;have z0:=hrb.cell 0 _ rfl;have z1:=hrb.cell 1 _ rfl;have z2:=hrb.cell 2 _ rfl;have z3:=hrb.cell 3 _ rfl;have z4:=hrb.cell 4 _ rfl;have z5:=hrb.cell 5 _ rfl;have z6:=hrb.cell 6 _ rfl;have z7:=hrb.cell 7 _ rfl;have z8:=hrb.cell 8 _ rfl;have f0:=hrb.frozen 0;have f1:=hrb.frozen 1;have f2:=hrb.frozen 2;have f3:=hrb.frozen 3;have f4:=hrb.frozen 4;have f5:=hrb.frozen 5;have f6:=hrb.frozen 6;have f7:=hrb.frozen 7;have f8:=hrb.frozen 8;have eT:=af (qp (g:=g) hR HK.out HX.out HZ.out HCAP.out tK.out qA.out);clear hrb lD;refine aJ (ks:=[6]) (fun _ _ hx h=>⟨hx.cell h.1,hx.cell h.2.1,hx.cell h.2.2.1,hx.cell h.2.2.2.1,hx.cell h.2.2.2.2⟩) (by kernel_rfl) ?_;simp only [pk];go_wp2
      go_meet
      case rel=>exact eT.out
   case rest =>
    obtain ⟨b,q,v,rfl,hN⟩:=hcut;have HN:=af hN;clear hN x0 x1 x2 x3 x4 hbb zb Nv HZ2;have x1:=HN.out.box.cell 1 _ rfl;go_wp2_with fail
    go_loopw [8] (fun i wz=>∃ (k:Nat) (q:Col) (v:Ew),k<=g.actors.length/\i=.int .i64 k/\jB w wz q R b g [.string g.name,.slice aa g.actors.length ac,.slice ae g.edges.length ec,.slice ai g.ins.length ic,.slice ao g.outs.length oc] caps k 0 0 0 v) (fun i _=>g.actors.length - (intOf i).toNat)
    case atStart=>exact ⟨0,_,v,Nat.zero_le _,rfl,HN.out⟩
    case round =>
     clear HN x1;obtain ⟨k,q,v,hk,rfl,hN⟩:=hrel;have HN:=af hN;clear hN;have x1:=HN.out.box.cell 1 _ rfl
     by_cases hlt:k < g.actors.length
     ·
      have bX:(k:Int) < g.actors.length:=by omega
      obtain ⟨b0,off,haa,hcap,hb0,hrec⟩:=rV.out.at (by omega);change wr.cell? _=some (.slice aa g.actors.length ac) at x1;rw [haa] at x1;obtain ⟨cs,hcs,mY,hcl⟩:=hrec k hlt;obtain ⟨xs,rfl,hst⟩:=mY;have c1:=cell_later HN.out.kept.below (hcl 1 (by omega));have c2:=cell_later HN.out.kept.below (hcl 2 (by omega));simp at c1 c2;have fu:(g.actors.length:Int)<=ac:=by omega
      obtain ⟨sa,sc,hxs⟩:=Ints.slice hst;subst hxs;have HST:=af hst;clear hrec hcl hcs hst hb0 hcap haa;have hba:=List.getElem_mem hlt;have hgo:=HS.out.good _ hba;have hag:g.actors[k]?=some g.actors[k]:=List.getElem?_eq_getElem hlt;have N8:=af hgo;have LH:=af hag;obtain ⟨a,hae⟩:∃ a,g.actors[k]=a:=⟨_,rfl⟩;rw [hae] at c1 c2 HST N8 LH;clear hba hgo hag hae;go_wp2_with fail
      go_cut [9,10] from 33 to 70 (fun pp ee wx=>Kr w R b k g [.string g.name,.slice aa g.actors.length ac,.slice ae g.edges.length ec,.slice ai g.ins.length ic,.slice ao g.outs.length oc] caps v a pp ee wx)
      case first =>
       refine lC (fun w'=>w'.cell? ⟨w.heap.size,1,none⟩=some (.slice (some ⟨b0,off,none⟩) g.actors.length ac)/\w'.cell? ⟨b0,off+k*3+1,none⟩=some (.int .u8 a.tag)/\w'.cell? ⟨b0,off+k*3+2,none⟩=some (.slice sa a.params.length sc)) [0,1,2,3,4,5,6,7,8,9,10,11] 12 16 [13,14,15] [12] 2 (by kernel_rfl) (by kernel_rfl) rfl ⟨x1,c1,c2⟩ ?_;intro Q' hQ';simp only [pk];refine aD ?_;refine ax ?_;have Gq:=af (HN.out.turn (Turn.refl q (fun _=>False) wr).drew (fun h=>h) (fun _ h=>h.elim));have d1:wr.drew.cell? _=_:=x1;have d2:wr.drew.cell? _=_:=c1;have d3:wr.drew.cell? _=_:=c2;obtain ⟨wd,hwd⟩:∃ x,wr.drew=x:=⟨_,rfl⟩;rw [hwd] at Gq d1 d2 d3 ⊢;have Xp:=af (And.intro d1 (And.intro d2 d3));clear hwd HN x1 c1 c2 d1 d2 d3;refine ⟨?_,?_⟩
       ·
        go_wp2_with fail;refine (Ls _ a.tag sa a.params.length sc a.params N8.out (HST.out.below Gq.out.kept.below)).mono ?_;rintro e w5 ⟨vp,vi,vo,vk,rfl,op,oi,oo,ok,hb5⟩;obtain ⟨DC,DF,rfl⟩:=aA op;obtain ⟨Kt,Ku,rfl⟩:=aA oi;obtain ⟨Kv,Kw,rfl⟩:=aA oo;obtain ⟨Ky,Kz,rfl⟩:=aA ok;have T5:=Turn.of_below q (R+3) hb5;have Ry:=af (Gq.out.turn T5 (fun h=>h) (fun _ h=>h.elim));have OP:=Own.made q (R+3) op;have OI:=Own.made q (R+3) oi;have OO:=Own.made q (R+3) oo;have OK:=Own.made q (R+3) ok;have y1:=cell_later hb5 Xp.out.1;have y2:=cell_later hb5 Xp.out.2.1;have y3:=cell_later hb5 Xp.out.2.2;have uK:=af OP.vals;have rX:=af OI.vals;have rY:=af OO.vals;have vW:=af OK.vals;have KA:=af (And.intro y1 (And.intro y2 y3));generalize ext q wd.heap.size (R+3)=q5 at *;clear T5 OP OI OO OK op oi oo ok hb5 y1 y2 y3 Xp Gq;go_wp2;refine ⟨KA.out,?_⟩;refine aD ?_;refine ax ?_;refine aB (i:=16) (by kernel_rfl) ?_;simp only [pk];have hba:=au w5 (.cells #[.int .u8 0,.slice none 0 0,.slice none 0 0,.slice none 0 0,.slice none 0 0,.int .i64 0] 84);have T6:=Turn.of_below q5 (R+3000) hba;have mE:=af (dA (w:=w5) q5 (R+3000) #[.int .u8 0,.slice none 0 0,.slice none 0 0,.slice none 0 0,.slice none 0 0,.int .i64 0] 84);replace KA:=af (And.intro (cell_later hba KA.out.1) (And.intro (cell_later hba KA.out.2.1) (cell_later hba KA.out.2.2)));replace Ry:=af (Ry.out.turn T6 (fun h=>h) (fun _ h=>h.elim));replace uK:=af (uK.out.turn T6 (fun h=>h));replace rX:=af (rX.out.turn T6 (fun h=>h));replace rY:=af (rY.out.turn T6 (fun h=>h));replace vW:=af (vW.out.turn T6 (fun h=>h));generalize ext q5 w5.heap.size (R+3000)=q6 at *;clear hba T6;go_wp2_with fail;obtain ⟨w6,YV⟩:∃ x,w5.alloc (.cells #[.int .u8 0,.slice none 0 0,.slice none 0 0,.slice none 0 0,.slice none 0 0,.int .i64 0] 84)=x:=⟨_,rfl⟩;obtain ⟨X,pE⟩:∃ x,w5.heap.size=x:=⟨_,rfl⟩;rw [YV] at mE KA Ry uK rX rY vW ⊢;rw [pE] at mE ⊢;clear YV pE;refine ⟨by intros;exact KA.out,?_⟩;have hab:=mE.out;have z0:=hab.cell 0 _ rfl;have f0:=hab.frozen 0;have z1:=hab.cell 1 _ rfl;have f1:=hab.frozen 1;have z2:=hab.cell 2 _ rfl;have f2:=hab.frozen 2;have z3:=hab.cell 3 _ rfl;have f3:=hab.frozen 3;have z4:=hab.cell 4 _ rfl;have f4:=hab.frozen 4;have z5:=hab.cell 5 _ rfl;have f5:=hab.frozen 5;obtain ⟨B1,S1⟩:=LM (a0:=.int .u8 a.tag) (a1:=.slice DC a.params.length DF) (a2:=.slice Kt (bJ a.tag a.params).length Ku) (a3:=.slice Kv (aV a.tag a.params).length Kw) (a4:=.slice Ky (eB a.tag a.params).length Kz) (a5:=.int .i64 0) hab;have eT:Hid (Kr w R b k g [.string g.name,.slice aa g.actors.length ac,.slice ae g.edges.length ec,.slice ai g.ins.length ic,.slice ao g.outs.length oc] caps v a (.pointer (some ⟨X,0,none⟩)) (.int .i64 0) _):=af ⟨q6,X,_,_,_,_,rfl,rfl,Ry.out.turn S1 (by omega) (fun c hc=>by unfold jY;omega),B1,uK.out.turn S1 (by omega),rX.out.turn S1 (by omega),rY.out.turn S1 (by omega),vW.out.turn S1 (by omega)⟩;clear hab B1 S1;refine aJ (ks:=[17,18]) (fun _ _ hx h=>⟨hx.cell h.1,hx.cell h.2.1,hx.cell h.2.2⟩) (by kernel_rfl) ?_;simp only [pk];go_wp2
        go_meet
        case rel=>exact eT.out
       ·
        have hba:=au wd (.cells #[.int .u8 0,.slice none 0 0,.slice none 0 0,.slice none 0 0,.slice none 0 0,.int .i64 0] 84);have T6:=Turn.of_below q (R+3000) hba;have mE:=af (dA (w:=wd) q (R+3000) #[.int .u8 0,.slice none 0 0,.slice none 0 0,.slice none 0 0,.slice none 0 0,.int .i64 0] 84);have KA:=af (And.intro (cell_later hba Xp.out.1) (And.intro (cell_later hba Xp.out.2.1) (cell_later hba Xp.out.2.2)));have V3:=af (Gq.out.turn T6 (fun h=>h) (fun _ h=>h.elim));generalize ext q wd.heap.size (R+3000)=q4 at *;clear hba T6;go_wp2_with fail;obtain ⟨w4,hw4⟩:∃ x,wd.alloc (.cells #[.int .u8 0,.slice none 0 0,.slice none 0 0,.slice none 0 0,.slice none 0 0,.int .i64 0] 84)=x:=⟨_,rfl⟩;obtain ⟨X,pE⟩:∃ x,wd.heap.size=x:=⟨_,rfl⟩;rw [hw4] at mE KA V3 ⊢;rw [pE] at mE ⊢;clear hw4 pE Xp Gq;refine ⟨KA.out,?_⟩;go_wp2_with fail;refine (Ls _ a.tag sa a.params.length sc a.params N8.out (HST.out.below V3.out.kept.below)).mono ?_;rintro e w6 ⟨vp,vi,vo,vk,rfl,op,oi,oo,ok,hb5⟩;obtain ⟨DC,DF,rfl⟩:=aA op;obtain ⟨Kt,Ku,rfl⟩:=aA oi;obtain ⟨Kv,Kw,rfl⟩:=aA oo;obtain ⟨Ky,Kz,rfl⟩:=aA ok;have T5:=Turn.of_below q4 (R+3) hb5;have Ry:=af (V3.out.turn T5 (fun h=>h) (fun _ h=>h.elim));replace mE:=af (mE.out.turn T5 (fun h=>h));have OP:=Own.made q4 (R+3) op;have OI:=Own.made q4 (R+3) oi;have OO:=Own.made q4 (R+3) oo;have OK:=Own.made q4 (R+3) ok;replace KA:=af (And.intro (cell_later hb5 KA.out.1) (And.intro (cell_later hb5 KA.out.2.1) (cell_later hb5 KA.out.2.2)));have uK:=af OP.vals;have rX:=af OI.vals;have rY:=af OO.vals;have vW:=af OK.vals;generalize ext q4 w4.heap.size (R+3)=q6 at *;clear T5 OP OI OO OK op oi oo ok hb5 V3;go_wp2;refine ⟨KA.out,?_⟩;refine aD ?_;refine ax ?_;have hab:=mE.out;have z0:=hab.cell 0 _ rfl;have f0:=hab.frozen 0;have z1:=hab.cell 1 _ rfl;have f1:=hab.frozen 1;have z2:=hab.cell 2 _ rfl;have f2:=hab.frozen 2;have z3:=hab.cell 3 _ rfl;have f3:=hab.frozen 3;have z4:=hab.cell 4 _ rfl;have f4:=hab.frozen 4;have z5:=hab.cell 5 _ rfl;have f5:=hab.frozen 5;obtain ⟨B1,S1⟩:=LM (a0:=.int .u8 a.tag) (a1:=.slice DC a.params.length DF) (a2:=.slice Kt (bJ a.tag a.params).length Ku) (a3:=.slice Kv (aV a.tag a.params).length Kw) (a4:=.slice Ky (eB a.tag a.params).length Kz) (a5:=.int .i64 0) hab;have eT:Hid (Kr w R b k g [.string g.name,.slice aa g.actors.length ac,.slice ae g.edges.length ec,.slice ai g.ins.length ic,.slice ao g.outs.length oc] caps v a (.pointer (some ⟨X,0,none⟩)) (.int .i64 0) _):=af ⟨q6,X,_,_,_,_,rfl,rfl,Ry.out.turn S1 (by omega) (fun c hc=>by unfold jY;omega),B1,uK.out.turn S1 (by omega),rX.out.turn S1 (by omega),rY.out.turn S1 (by omega),vW.out.turn S1 (by omega)⟩;clear hab B1 S1;refine aJ (ks:=[17,18]) (fun _ _ hx h=>⟨hx.cell h.1,hx.cell h.2.1,hx.cell h.2.2⟩) (by kernel_rfl) ?_;simp only [pk];go_wp2
        go_meet
        case rel=>exact eT.out
      case rest =>
       clear HN x1 c1 c2;obtain ⟨qa,X,vp,vi,vo,vk,rfl,rfl,hN,hA,hp,hi,ho,hkk⟩:=hcut;obtain ⟨DC,DF,rfl⟩:=Ints.slice hp;obtain ⟨Kt,Ku,rfl⟩:=Ints.slice hi;obtain ⟨Kv,Kw,rfl⟩:=Ints.slice ho;obtain ⟨Ky,Kz,rfl⟩:=Ints.slice hkk;have uR:=qh N8.out;obtain ⟨ta,tc,oF⟩:=hN.half.tasks.slice;obtain ⟨nI,NK⟩:∃ x,(bJ a.tag a.params).length=x:=⟨_,rfl⟩;obtain ⟨nO,SN⟩:∃ x,(aV a.tag a.params).length=x:=⟨_,rfl⟩;rw [NK,SN] at hA uR;rw [NK] at hi;rw [SN] at ho;have uL:=af uR;have Zw:=af NK;have oO:=af SN;have BF:=af oF;have HN:=af hN;have mE:=af hA;have uK:=af hp;have rX:=af hi;have rY:=af ho;have vW:=af hkk;clear uR NK SN oF hN hA hp hi ho hkk;have Pv:=Bu nI (by have:=uL.out;omega);have hmo:=Bu nO (by have:=uL.out;omega);obtain ⟨zi,hzi⟩:∃ x,(bB (List.replicate nI 0)).toArray=x:=⟨_,rfl⟩;obtain ⟨zo,Y4⟩:∃ x,(bB (List.replicate nO 0)).toArray=x:=⟨_,rfl⟩;rw [hzi] at Pv;rw [Y4] at hmo;have Ow:=af hzi;have Zx:=af Y4;clear hzi Y4;go_wp2_with fail;refine cB (fun w'=>w'.cell? ⟨b,6,none⟩=some (.slice ta k tc)/\w'.cell? ⟨X,0,none⟩=some (.int .u8 a.tag)/\w'.cell? ⟨X,1,none⟩=some (.slice DC a.params.length DF)/\w'.cell? ⟨X,2,none⟩=some (.slice Kt nI Ku)/\w'.cell? ⟨X,3,none⟩=some (.slice Kv nO Kw)/\w'.cell? ⟨X,4,none⟩=some (.slice Ky (eB a.tag a.params).length Kz)/\w'.cell? ⟨X,5,none⟩=some (.int .i64 0)) [0,1,2,3,4,5,7,8,9] [6,10,11] [0,1,2,3,4,5,7,8,9] 7 (by kernel_rfl) (by kernel_rfl) rfl (rG (HN.out.turn (Turn.refl qa (fun _=>False) wc).drew (fun h=>h) (fun _ h=>h.elim)) BF.out (mE.out.turn (Turn.refl qa (fun _=>False) wc).drew (fun h=>h))) ?_;intro Q' hQ' lD;simp only [pk];refine aD ?_;refine ax ?_;replace HN:=af (HN.out.turn (Turn.refl qa (fun _=>False) wc).drew (fun h=>h) (fun _ h=>h.elim));replace mE:=af (mE.out.turn (Turn.refl qa (fun _=>False) wc).drew (fun h=>h));replace uK:=af (uK.out.turn (Turn.refl qa (fun _=>False) wc).drew (fun h=>h));replace rX:=af (rX.out.turn (Turn.refl qa (fun _=>False) wc).drew (fun h=>h));replace rY:=af (rY.out.turn (Turn.refl qa (fun _=>False) wc).drew (fun h=>h));replace vW:=af (vW.out.turn (Turn.refl qa (fun _=>False) wc).drew (fun h=>h));obtain ⟨wd,hwd⟩:∃ x,wc.drew=x:=⟨_,rfl⟩;rw [hwd] at HN mE uK rX rY vW ⊢;clear hwd lD;refine fZ (i:=6) (k:=10) (by kernel_rfl) ?_ ?_
       ·
        simp only [pk];have hbN:=au wd (.cells zi 3);have TN:=Turn.of_below qa (R+1000+2*k) hbN;have xY:=af (dA (w:=wd) qa (R+1000+2*k) zi 3);replace HN:=af (HN.out.turn TN (fun h=>h) (fun _ h=>h.elim));replace mE:=af (mE.out.turn TN (fun h=>h));replace uK:=af (uK.out.turn TN (fun h=>h));replace rX:=af (rX.out.turn TN (fun h=>h));replace rY:=af (rY.out.turn TN (fun h=>h));replace vW:=af (vW.out.turn TN (fun h=>h))
        skip
        generalize ext qa wd.heap.size (R+1000+2*k)=q1 at *;clear hbN TN;go_wp2_with fail;obtain ⟨w1,mF⟩:∃ x,wd.alloc (.cells zi 3)=x:=⟨_,rfl⟩;obtain ⟨gs,qw⟩:∃ x,wd.heap.size=x:=⟨_,rfl⟩;rw [mF] at HN mE uK rX rY vW xY ⊢;rw [qw] at xY ⊢;clear mF qw;refine ⟨by intros;exact rG HN.out BF.out mE.out,?_⟩;refine aB (i:=10) (by kernel_rfl) ?_;simp only [pk];have hbN:=au w1 (.cells zo 3);have TN:=Turn.of_below q1 (R+1001+2*k) hbN;have vw:=af (dA (w:=w1) q1 (R+1001+2*k) zo 3);replace HN:=af (HN.out.turn TN (fun h=>h) (fun _ h=>h.elim));replace mE:=af (mE.out.turn TN (fun h=>h));replace uK:=af (uK.out.turn TN (fun h=>h));replace rX:=af (rX.out.turn TN (fun h=>h));replace rY:=af (rY.out.turn TN (fun h=>h));replace vW:=af (vW.out.turn TN (fun h=>h));replace xY:=af (xY.out.turn TN (fun h=>h));generalize ext q1 w1.heap.size (R+1001+2*k)=q2 at *;clear hbN TN;go_wp2_with fail;obtain ⟨w2,mF⟩:∃ x,w1.alloc (.cells zo 3)=x:=⟨_,rfl⟩;obtain ⟨gd,qw⟩:∃ x,w1.heap.size=x:=⟨_,rfl⟩;rw [mF] at HN mE uK rX rY vW vw ⊢;rw [qw] at vw ⊢;rw [mF] at xY;clear mF qw;refine ⟨by intros;exact rG HN.out BF.out mE.out,?_⟩;refine aB (i:=11) (by kernel_rfl) ?_;simp only [pk];go_wp2;refine ⟨by intros;exact rG HN.out BF.out mE.out,?_⟩;refine aJ (ks:=[12,13,14,15]) (fun _ _ hx h=>⟨hx.cell h.1,hx.cell h.2.1,hx.cell h.2.2.1,hx.cell h.2.2.2.1,hx.cell h.2.2.2.2.1,hx.cell h.2.2.2.2.2.1,hx.cell h.2.2.2.2.2.2⟩) (by kernel_rfl) ?_;simp only [pk];obtain ⟨i0,hi,hz0,hz1,hz2⟩:=info_parts Bt;have HI:=af hi;have hbn:=au w2 (.cells #[.int .u8 a.tag,.slice DC a.params.length DF,.slice Kt nI Ku,.slice Kv nO Kw,.slice Ky (eB a.tag a.params).length Kz,.int .i64 0,.slice (some ⟨gs,0,none⟩) nI nI,.slice (some ⟨gd,0,none⟩) nO nO,.int .i64 0,.slice none 0 0,.slice none 0 0,.int .i64 0] 88);have TN:=Turn.of_below q2 (R+3002) hbn;replace HN:=af (HN.out.turn TN (fun h=>h) (fun _ h=>h.elim));replace uK:=af (uK.out.turn TN (fun h=>h));replace rX:=af (rX.out.turn TN (fun h=>h));replace rY:=af (rY.out.turn TN (fun h=>h));replace vW:=af (vW.out.turn TN (fun h=>h));replace xY:=af (xY.out.turn TN (fun h=>h));replace vw:=af (vw.out.turn TN (fun h=>h));generalize ext q2 w2.heap.size (R+3002)=qn at *;clear hi hbn TN mE;go_wp2_with (at_builtin;refine aU ?_);refine dR ?_;refine aS rfl _ _ 34 rfl 0 88 i0 _ 12 224 Tryz.underlying34 HI.out hz0 hz1 hz2 rfl (.slice ta k tc) k ((List.range k).flatMap (iA g v.tv)) rfl (by have:=HN.out.half.tasks.1;rw [BF.out] at this;exact this) (some ⟨w2.heap.size,0,none⟩) 1 1 [.int .u8 a.tag,.slice DC a.params.length DF,.slice Kt nI Ku,.slice Kv nO Kw,.slice Ky (eB a.tag a.params).length Kz,.int .i64 0,.slice (some ⟨gs,0,none⟩) nI nI,.slice (some ⟨gd,0,none⟩) nO nO,.int .i64 0,.slice none 0 0,.slice none 0 0,.int .i64 0] rfl rfl (fun h=>by cases h) (bC w2 [.int .u8 a.tag,.slice DC a.params.length DF,.slice Kt nI Ku,.slice Kv nO Kw,.slice Ky (eB a.tag a.params).length Kz,.int .i64 0,.slice (some ⟨gs,0,none⟩) nI nI,.slice (some ⟨gd,0,none⟩) nO nO,.int .i64 0,.slice none 0 0,.slice none 0 0,.int .i64 0] 88) (by simp [Value.oneCell']) (by have:=HF.out.1;unfold maxLen;omega) (bA (by have:=HF.out.1;omega)) (Nat.zero_le _) ?_;intro v7 w7 k1 k20 _ k4;rw [<- BF.out] at k20 k4;obtain ⟨T7,O7⟩:=nA HN.out.half.tasks k1 k20 k4;obtain ⟨iM,iN,rfl⟩:=O7.slice;generalize ext qn _ (R+1)=qo at *;have pu:=HN.out.half.aP.turn T7 (by omega);have e0:=pu.cell 6 v.tasks rfl;have g0:=pu.frozen 6;obtain ⟨hB0,S0⟩:=pu.set 6 (.slice iM (k+1) iN);have hB1:dZ (w7.setCell ⟨b,6,none⟩ (.slice iM (k+1) iN)) qo (R+5) b 37 (zK [.string g.name,.slice aa g.actors.length ac,.slice ae g.edges.length ec,.slice ai g.ins.length ic,.slice ao g.outs.length oc] { v with tasks:=.slice iM (k+1) iN }).toArray:=hB0;have TT:=(T7.mono (D:=fun c=>c=R+5\/c=R+1) (fun c h=>.inr h)).trans (S0.mono (D:=fun c=>c=R+5\/c=R+1) (fun c h=>.inl h)) (fun _ h=>h);have hps:jh g k=a.params:=by unfold jh;rw [LH.out]
        have ND:eH g k=a.tag:=by unfold eH;rw [LH.out]
        have NZ:ay g k=bJ a.tag a.params:=by unfold ay;rw [LH.out]
        have N7:aF g k=aV a.tag a.params:=by unfold aF;rw [LH.out]
        have hkT:oZ g k=eB a.tag a.params:=by unfold oZ;rw [LH.out]
        have hT:qZ (w7.setCell ⟨b,6,none⟩ (.slice iM (k+1) iN)) qo R g k ⟨.slice DC a.params.length DF,.slice Kt nI Ku,.slice Kv nO Kw,.slice Ky (eB a.tag a.params).length Kz,.slice (some ⟨gs,0,none⟩) nI nI,.slice (some ⟨gd,0,none⟩) nO nO⟩ 0 0:=by
         refine ⟨?_,?_,?_,?_,⟨gs,?_,?_⟩,⟨gd,?_,?_⟩⟩
         ·
          rw [hps];exact uK.out.turn TT (by omega)
         ·
          rw [NZ];exact rX.out.turn TT (by omega)
         ·
          rw [N7];exact rY.out.turn TT (by omega)
         ·
          rw [hkT];exact vW.out.turn TT (by omega)
         ·
          rw [NZ,Zw.out]
         ·
          rw [Ba,NZ,Zw.out,Ow.out];exact xY.out.turn TT (by omega)
         ·
          rw [N7,oO.out]
         ·
          rw [GR,N7,oO.out,Zx.out];exact vw.out.turn TT (by omega)
        have hO:Own (w7.setCell ⟨b,6,none⟩ (.slice iM (k+1) iN)) qo (R+1) 88 12 (.slice iM (k+1) iN) (k+1) ((List.range k).flatMap (iA g v.tv) ++ iA g (fun _=>⟨.slice DC a.params.length DF,.slice Kt nI Ku,.slice Kv nO Kw,.slice Ky (eB a.tag a.params).length Kz,.slice (some ⟨gs,0,none⟩) nI nI,.slice (some ⟨gd,0,none⟩) nO nO⟩) k):=by
         unfold iA;rw [ND];exact O7.turn S0 (by omega)
        have tF:=af (jB.mk (HN.out.kept.turn TT (by omega)) (HN.out.box.turn TT (by omega)) (HN.out.res.turn TT (by omega)) (HN.out.half.zT (by have:=HF.out.1;omega) TT hB1 hO hT));have hlt2:k+1<=g.actors.length:=hlt;have hf1:=HF.out.1;clear hT hO TT hB0 hB1 S0 pu T7 O7 k1 k20 k4 uK rX rY vW xY vw HN hps ND NZ N7 hkT;go_wp2;go_roundw
        case rel=>exact ⟨k+1,_,_,hlt2,by go_num,tF.out⟩
        case measure=>simp [intOf];omega
       ·
        simp only [pk];have hbN:=au wd (.cells zo 3);have TN:=Turn.of_below qa (R+1001+2*k) hbN;have vw:=af (dA (w:=wd) qa (R+1001+2*k) zo 3);replace HN:=af (HN.out.turn TN (fun h=>h) (fun _ h=>h.elim));replace mE:=af (mE.out.turn TN (fun h=>h));replace uK:=af (uK.out.turn TN (fun h=>h));replace rX:=af (rX.out.turn TN (fun h=>h));replace rY:=af (rY.out.turn TN (fun h=>h));replace vW:=af (vW.out.turn TN (fun h=>h))
        skip
        generalize ext qa wd.heap.size (R+1001+2*k)=q1 at *;clear hbN TN;go_wp2_with fail;obtain ⟨w1,mF⟩:∃ x,wd.alloc (.cells zo 3)=x:=⟨_,rfl⟩;obtain ⟨gd,qw⟩:∃ x,wd.heap.size=x:=⟨_,rfl⟩;rw [mF] at HN mE uK rX rY vW vw ⊢;rw [qw] at vw ⊢;clear mF qw;refine ⟨by intros;exact rG HN.out BF.out mE.out,?_⟩;refine aB (i:=6) (by kernel_rfl) ?_;simp only [pk];have Y5:=Bu nI (by have:=uL.out;omega);rw [Ow.out] at Y5;have hbN:=au w1 (.cells zi 3);have TN:=Turn.of_below q1 (R+1000+2*k) hbN;have xY:=af (dA (w:=w1) q1 (R+1000+2*k) zi 3);replace HN:=af (HN.out.turn TN (fun h=>h) (fun _ h=>h.elim));replace mE:=af (mE.out.turn TN (fun h=>h));replace uK:=af (uK.out.turn TN (fun h=>h));replace rX:=af (rX.out.turn TN (fun h=>h));replace rY:=af (rY.out.turn TN (fun h=>h));replace vW:=af (vW.out.turn TN (fun h=>h));replace vw:=af (vw.out.turn TN (fun h=>h));generalize ext q1 w1.heap.size (R+1000+2*k)=q2 at *;clear hbN TN;go_wp2_with fail;obtain ⟨w2,mF⟩:∃ x,w1.alloc (.cells zi 3)=x:=⟨_,rfl⟩;obtain ⟨gs,qw⟩:∃ x,w1.heap.size=x:=⟨_,rfl⟩;rw [mF] at HN mE uK rX rY vW xY ⊢;rw [qw] at xY ⊢;rw [mF] at vw;clear mF qw;refine ⟨by intros;exact rG HN.out BF.out mE.out,?_⟩;refine aB (i:=11) (by kernel_rfl) ?_;simp only [pk];go_wp2;refine ⟨by intros;exact rG HN.out BF.out mE.out,?_⟩;refine aJ (ks:=[12,13,14,15]) (fun _ _ hx h=>⟨hx.cell h.1,hx.cell h.2.1,hx.cell h.2.2.1,hx.cell h.2.2.2.1,hx.cell h.2.2.2.2.1,hx.cell h.2.2.2.2.2.1,hx.cell h.2.2.2.2.2.2⟩) (by kernel_rfl) ?_;simp only [pk];obtain ⟨i0,hi,hz0,hz1,hz2⟩:=info_parts Bt;have HI:=af hi;have hbn:=au w2 (.cells #[.int .u8 a.tag,.slice DC a.params.length DF,.slice Kt nI Ku,.slice Kv nO Kw,.slice Ky (eB a.tag a.params).length Kz,.int .i64 0,.slice (some ⟨gs,0,none⟩) nI nI,.slice (some ⟨gd,0,none⟩) nO nO,.int .i64 0,.slice none 0 0,.slice none 0 0,.int .i64 0] 88);have TN:=Turn.of_below q2 (R+3002) hbn;replace HN:=af (HN.out.turn TN (fun h=>h) (fun _ h=>h.elim));replace uK:=af (uK.out.turn TN (fun h=>h));replace rX:=af (rX.out.turn TN (fun h=>h));replace rY:=af (rY.out.turn TN (fun h=>h));replace vW:=af (vW.out.turn TN (fun h=>h));replace xY:=af (xY.out.turn TN (fun h=>h));replace vw:=af (vw.out.turn TN (fun h=>h));generalize ext q2 w2.heap.size (R+3002)=qn at *;clear hi hbn TN mE;go_wp2_with (at_builtin;refine aU ?_);refine dR ?_;refine aS rfl _ _ 34 rfl 0 88 i0 _ 12 224 Tryz.underlying34 HI.out hz0 hz1 hz2 rfl (.slice ta k tc) k ((List.range k).flatMap (iA g v.tv)) rfl (by have:=HN.out.half.tasks.1;rw [BF.out] at this;exact this) (some ⟨w2.heap.size,0,none⟩) 1 1 [.int .u8 a.tag,.slice DC a.params.length DF,.slice Kt nI Ku,.slice Kv nO Kw,.slice Ky (eB a.tag a.params).length Kz,.int .i64 0,.slice (some ⟨gs,0,none⟩) nI nI,.slice (some ⟨gd,0,none⟩) nO nO,.int .i64 0,.slice none 0 0,.slice none 0 0,.int .i64 0] rfl rfl (fun h=>by cases h) (bC w2 [.int .u8 a.tag,.slice DC a.params.length DF,.slice Kt nI Ku,.slice Kv nO Kw,.slice Ky (eB a.tag a.params).length Kz,.int .i64 0,.slice (some ⟨gs,0,none⟩) nI nI,.slice (some ⟨gd,0,none⟩) nO nO,.int .i64 0,.slice none 0 0,.slice none 0 0,.int .i64 0] 88) (by simp [Value.oneCell']) (by have:=HF.out.1;unfold maxLen;omega) (bA (by have:=HF.out.1;omega)) (Nat.zero_le _) ?_;intro v7 w7 k1 k20 _ k4;rw [<- BF.out] at k20 k4;obtain ⟨T7,O7⟩:=nA HN.out.half.tasks k1 k20 k4;obtain ⟨iM,iN,rfl⟩:=O7.slice;generalize ext qn _ (R+1)=qo at *;have pu:=HN.out.half.aP.turn T7 (by omega);have e0:=pu.cell 6 v.tasks rfl;have g0:=pu.frozen 6;obtain ⟨hB0,S0⟩:=pu.set 6 (.slice iM (k+1) iN);have hB1:dZ (w7.setCell ⟨b,6,none⟩ (.slice iM (k+1) iN)) qo (R+5) b 37 (zK [.string g.name,.slice aa g.actors.length ac,.slice ae g.edges.length ec,.slice ai g.ins.length ic,.slice ao g.outs.length oc] { v with tasks:=.slice iM (k+1) iN }).toArray:=hB0;have TT:=(T7.mono (D:=fun c=>c=R+5\/c=R+1) (fun c h=>.inr h)).trans (S0.mono (D:=fun c=>c=R+5\/c=R+1) (fun c h=>.inl h)) (fun _ h=>h);have hps:jh g k=a.params:=by unfold jh;rw [LH.out]
        have ND:eH g k=a.tag:=by unfold eH;rw [LH.out]
        have NZ:ay g k=bJ a.tag a.params:=by unfold ay;rw [LH.out]
        have N7:aF g k=aV a.tag a.params:=by unfold aF;rw [LH.out]
        have hkT:oZ g k=eB a.tag a.params:=by unfold oZ;rw [LH.out]
        have hT:qZ (w7.setCell ⟨b,6,none⟩ (.slice iM (k+1) iN)) qo R g k ⟨.slice DC a.params.length DF,.slice Kt nI Ku,.slice Kv nO Kw,.slice Ky (eB a.tag a.params).length Kz,.slice (some ⟨gs,0,none⟩) nI nI,.slice (some ⟨gd,0,none⟩) nO nO⟩ 0 0:=by
         refine ⟨?_,?_,?_,?_,⟨gs,?_,?_⟩,⟨gd,?_,?_⟩⟩
         ·
          rw [hps];exact uK.out.turn TT (by omega)
         ·
          rw [NZ];exact rX.out.turn TT (by omega)
         ·
          rw [N7];exact rY.out.turn TT (by omega)
         ·
          rw [hkT];exact vW.out.turn TT (by omega)
         ·
          rw [NZ,Zw.out]
         ·
          rw [Ba,NZ,Zw.out,Ow.out];exact xY.out.turn TT (by omega)
         ·
          rw [N7,oO.out]
         ·
          rw [GR,N7,oO.out,Zx.out];exact vw.out.turn TT (by omega)
        have hO:Own (w7.setCell ⟨b,6,none⟩ (.slice iM (k+1) iN)) qo (R+1) 88 12 (.slice iM (k+1) iN) (k+1) ((List.range k).flatMap (iA g v.tv) ++ iA g (fun _=>⟨.slice DC a.params.length DF,.slice Kt nI Ku,.slice Kv nO Kw,.slice Ky (eB a.tag a.params).length Kz,.slice (some ⟨gs,0,none⟩) nI nI,.slice (some ⟨gd,0,none⟩) nO nO⟩) k):=by
         unfold iA;rw [ND];exact O7.turn S0 (by omega)
        have tF:=af (jB.mk (HN.out.kept.turn TT (by omega)) (HN.out.box.turn TT (by omega)) (HN.out.res.turn TT (by omega)) (HN.out.half.zT (by have:=HF.out.1;omega) TT hB1 hO hT));have hlt2:k+1<=g.actors.length:=hlt;have hf1:=HF.out.1;clear hT hO TT hB0 hB1 S0 pu T7 O7 k1 k20 k4 uK rX rY vW xY vw HN hps ND NZ N7 hkT;go_wp2;go_roundw
        case rel=>exact ⟨k+1,_,_,hlt2,by go_num,tF.out⟩
        case measure=>simp [intOf];omega
     ·
      obtain rfl:k=g.actors.length:=by omega
      have bX:¬ ((g.actors.length:Int) < g.actors.length):=by omega
      have x2:=HN.out.box.cell 2 _ rfl;clear hk hlt;go_wp2_with fail
      go_loopw [11] (fun i wz=>∃ (k:Nat) (q:Col) (v:Ew),k<=g.edges.length/\i=.int .i64 k/\jB w wz q R b g [.string g.name,.slice aa g.actors.length ac,.slice ae g.edges.length ec,.slice ai g.ins.length ic,.slice ao g.outs.length oc] caps g.actors.length k k k v/\∀ c∈caps.take k,0<=c) (fun i _=>g.edges.length - (intOf i).toNat)
      case atStart=>exact ⟨0,_,v,Nat.zero_le _,rfl,HN.out,by simp⟩
      case round =>
       clear HN x1 x2 bX;obtain ⟨k,q,v,hk,rfl,hN,hpos⟩:=hrel;have HN:=af hN;have Ko:=af hpos;clear hN hpos;have x2:=HN.out.box.cell 2 _ rfl;change wr.cell? _=some (.slice ae g.edges.length ec) at x2
       by_cases hlt:k < g.edges.length
       ·
        have bX:(k:Int) < g.edges.length:=by omega
        obtain ⟨b0,off,hae,hcap,hb0,hrec⟩:=nV.out.at (by omega);rw [hae] at x2;obtain ⟨cs,hcs,mY,hcl⟩:=hrec k hlt;obtain ⟨xs,rfl,hst⟩:=mY;have c0:=cell_later HN.out.kept.below (hcl 0 (by omega));have c1:=cell_later HN.out.kept.below (hcl 1 (by omega));have c2:=cell_later HN.out.kept.below (hcl 2 (by omega));have c3:=cell_later HN.out.kept.below (hcl 3 (by omega));have c4:=cell_later HN.out.kept.below (hcl 4 (by omega));simp at c0 c1 c2 c3 c4;have fu:(g.edges.length:Int)<=ec:=by omega
        obtain ⟨sa,sc,hxs⟩:=Ints.slice hst;subst hxs;have HST:=af hst;obtain ⟨ed,hed⟩:∃ x,g.edges[k]=x:=⟨_,rfl⟩;have Y7:=af hed;have hee:qW g k=ed:=by unfold qW;rw [List.getElem?_eq_getElem hlt];exact hed
        have Sz:=af hee;rw [hed] at c0 c1 c2 c3 c4 HST;clear hrec hcl hcs hst hb0 hcap hed hee hae;obtain ⟨b1,off1,hca,-,RP,-,-,hcc⟩:=Ints.at HC.out (by have:=H1.out;omega);have hck:=cell_later HN.out.kept.below (hcc k (by have:=H1.out;omega));obtain ⟨C,hC⟩:∃ x,caps[k]?.getD 0=x:=⟨_,rfl⟩;have Y8:=af hC;rw [hC] at hck;change wr.cell? _=some (.int .i64 C) at hck;have Y9:(caps.length:Int)<=cc:=by omega
        have hkc:(k:Int) < caps.length:=by have:=H1.out;omega
        have hkl:k < caps.length:=by omega
        have hCm:C∈caps:=by
         have e:=Y8.out;rw [List.getElem?_eq_getElem hkl] at e;exact e ▸ List.getElem_mem hkl
        have HKL:=af hkl;have HCM:=af hCm;clear hcc hC RP hkl hCm;subst hca
        by_cases hC0:C < 0
        ·
         have mD:=af hC0;have z0:=(HN.out.res).cell 0 _ rfl;have z1:=(HN.out.res).cell 1 _ rfl;have z2:=(HN.out.res).cell 2 _ rfl;have z3:=(HN.out.res).cell 3 _ rfl;have z4:=(HN.out.res).cell 4 _ rfl;have z5:=(HN.out.res).cell 5 _ rfl;have z6:=(HN.out.res).cell 6 _ rfl;have z7:=(HN.out.res).cell 7 _ rfl;have z8:=(HN.out.res).cell 8 _ rfl;have f0:=(HN.out.res).frozen 0;have f1:=(HN.out.res).frozen 1;have f2:=(HN.out.res).frozen 2;have f3:=(HN.out.res).frozen 3;have f4:=(HN.out.res).frozen 4;have f5:=(HN.out.res).frozen 5;have f6:=(HN.out.res).frozen 6;have f7:=(HN.out.res).frozen 7;have f8:=(HN.out.res).frozen 8;go_wp2;refine bodyPost_ret_by (eY rfl _ _ _ _ _ _ _ rfl (wW (HN.out.res).1) Tryz.underlying37 rfl (by kernel_rfl)) rfl ?_;refine ET ?_ ?_ (yD HN.out.kept.below (Nat.le_succ _) _ _ _ _ _ _ _ _ _)
         ·
          unfold newE;rw [if_neg (by rw [HE.out];decide),if_neg (by rw [H1.out];simp),if_pos];exact List.any_eq_true.2 ⟨C,HCM.out,by simpa using mD.out⟩
         ·
          decide
        ·
         have U9:0<=C:=by omega
         have KV:=af U9;have abP:=fu;clear U9;have hby:=au wr (.cells #[.int .i64 ed.src,.int .i64 ed.dw,.int .i64 ed.dst,.int .i64 ed.dx,.slice sa ed.start.length sc] 68);have Ty:=Turn.of_below q (R+3001) hby
         have hY:=dA (w:=wr) q (R+3001) #[.int .i64 ed.src,.int .i64 ed.dw,.int .i64 ed.dst,.int .i64 ed.dx,.slice sa ed.start.length sc] 68;have HY:=af hY;have BX:=af (HN.out.turn Ty (fun h=>h) (fun _ h=>h.elim));generalize ext q wr.heap.size (R+3001)=qy at *;clear Ty hY hby
         go_wp2_with fail;obtain ⟨wy,vE⟩:∃ x,wr.alloc (.cells #[.int .i64 ed.src,.int .i64 ed.dw,.int .i64 ed.dst,.int .i64 ed.dx,.slice sa ed.start.length sc] 68)=x:=⟨_,rfl⟩;obtain ⟨Y,uJ⟩:∃ x,wr.heap.size=x:=⟨_,rfl⟩;rw [vE] at HY BX ⊢;rw [uJ] at HY ⊢;clear vE uJ HN c0 c1 c2 c3 c4 x2 hck hC0;have tH:=HS.out.edge k hlt;rw [Y7.out] at tH;obtain ⟨⟨a1,a2⟩,⟨a3,a4⟩,-,⟨a5,a6⟩,⟨a7,a8⟩,-,a9⟩:=tH;obtain ⟨f,hf⟩:=Int.eq_ofNat_of_zero_le a1;obtain ⟨fp,hfp⟩:=Int.eq_ofNat_of_zero_le a3;obtain ⟨t,ht⟩:=Int.eq_ofNat_of_zero_le a5;obtain ⟨tp,htp⟩:=Int.eq_ofNat_of_zero_le a7;have hto:=HS.out.Lc hlt;have jA:=HS.out.CV hlt;rw [Y7.out,hf,hfp] at hto;rw [Y7.out,ht,htp] at jA;rw [hf,hfp,Int.toNat_natCast] at a4;rw [ht,htp,Int.toNat_natCast] at a8;rw [hf] at a2;rw [ht] at a6;simp only [Int.toNat_natCast] at hto jA;have SH:=af hto;have tJ:=af jA;have HA2:=af (show f < g.actors.length by omega);have pQ:=af (show t < g.actors.length by omega);have HA4:=af (show fp < (aF g f).length by omega);have Dy:=af (show tp < (ay g t).length by omega);have V4:=af a9;have y0:=HY.out.cell 0 _ rfl;have y1:=HY.out.cell 1 _ rfl;have y2:=HY.out.cell 2 _ rfl;have y3:=HY.out.cell 3 _ rfl;have y4:=HY.out.cell 4 _ rfl;change wy.cell? _=some (.int .i64 ed.src) at y0;change wy.cell? _=some (.int .i64 ed.dw) at y1;change wy.cell? _=some (.int .i64 ed.dst) at y2;change wy.cell? _=some (.int .i64 ed.dx) at y3;change wy.cell? _=some (.slice sa ed.start.length sc) at y4;rw [hf] at y0;rw [hfp] at y1;rw [ht] at y2;rw [htp] at y3;have kY:=HY.out.2;clear a1 a2 a3 a4 a5 a6 a7 a8 a9 hf hfp ht htp hto jA;obtain ⟨tg,tc,oF,htc,ND,hcells⟩:=BX.out.half.wO HA2.out;have x6:wy.cell? ⟨b,6,none⟩=some v.tasks:=BX.out.half.aP.cell 6 v.tasks rfl;rw [oF] at x6;obtain ⟨gd,hgd,hD⟩:=(BX.out.half.task f HA2.out).dst;have d7:=hcells 7 (v.tv f).dst (by omega) rfl;rw [hgd] at d7;obtain ⟨gs,hgs,hSS⟩:=(BX.out.half.task t pQ.out).src;obtain ⟨tg2,tc2,aa4,-,-,LP⟩:=BX.out.half.wO pQ.out;rw [oF] at aa4;cases aa4
         have d6:=LP 6 (v.tv t).src (by omega) rfl;rw [hgs] at d6;obtain ⟨vs,RX,Bw⟩:=BX.out.half.streams.slice;have x7:wy.cell? ⟨b,7,none⟩=some v.streams:=BX.out.half.aP.cell 7 v.streams rfl;rw [Bw] at x7;have Ik:=af Bw;obtain ⟨nf,hnf⟩:∃ x,(aF g f).length=x:=⟨_,rfl⟩;obtain ⟨nt,hnt⟩:∃ x,(ay g t).length=x:=⟨_,rfl⟩;obtain ⟨z0,hz0⟩:∃ x,(bB (zw g f k))[fp]?=some x:=⟨_,List.getElem?_eq_getElem (by have:=l5 g f k;have:=HA4.out;simp [bB];omega)⟩;have u0:=hD.cell fp z0 (by simpa using hz0);have g0:=hD.frozen fp;obtain ⟨z1,hz1⟩:∃ x,(bB (ku g t k))[tp]?=some x:=⟨_,List.getElem?_eq_getElem (by have:=jl g t k;have:=Dy.out;simp [bB];omega)⟩;have kb:=BX.out.half.aP.2;have kD:=hD.2;have T0:Turn qy qy (fun _=>False) wy wy.drew:=(Turn.refl qy _ wy).drew;have hN0:=BX.out.turn T0 (fun h=>h) (fun _ h=>h.elim);obtain ⟨L1,S1⟩:=hN0.half.A9 (t:=f) (p:=fp) (gd:=gd) HA2.out SH.out (by omega) hgd;have hlf:=HF.out.1;have hN1:jB w (wy.drew.setCell ⟨gd,fp,none⟩ (.int .i64 (k:Int))) qy R b g [.string g.name,.slice aa g.actors.length ac,.slice ae g.edges.length ec,.slice ai g.ins.length ic,.slice ao g.outs.length oc] caps g.actors.length k k (k+1) v:=⟨hN0.kept.turn S1 (by omega),hN0.box.turn S1 (by have:=HA2.out;omega),hN0.res.turn S1 (by have:=HA2.out;omega),L1⟩;have hf2:=HA2.out;have ht2:=pQ.out;have x6b:(wy.drew.setCell ⟨gd,fp,none⟩ (.int .i64 (k:Int))).cell? _=_:=S1.cell (show wy.drew.cell? _=_ from x6) (by show ¬ (qy b=_);omega);have d6b:(wy.drew.setCell ⟨gd,fp,none⟩ (.int .i64 (k:Int))).cell? _=_:=S1.cell (show wy.drew.cell? _=_ from d6) (by show ¬ (qy tg=_);omega);have y2b:(wy.drew.setCell ⟨gd,fp,none⟩ (.int .i64 (k:Int))).cell? _=_:=S1.cell (show wy.drew.cell? _=_ from y2) (by show ¬ (qy Y=_);omega);have y3b:(wy.drew.setCell ⟨gd,fp,none⟩ (.int .i64 (k:Int))).cell? _=_:=S1.cell (show wy.drew.cell? _=_ from y3) (by show ¬ (qy Y=_);omega);have y4b:(wy.drew.setCell ⟨gd,fp,none⟩ (.int .i64 (k:Int))).cell? _=_:=S1.cell (show wy.drew.cell? _=_ from y4) (by show ¬ (qy Y=_);omega);have x7b:(wy.drew.setCell ⟨gd,fp,none⟩ (.int .i64 (k:Int))).cell? _=_:=S1.cell (show wy.drew.cell? _=_ from x7) (by show ¬ (qy b=_);omega);obtain ⟨gs2,e2,hS2⟩:=(L1.task t pQ.out).src;rw [hgs] at e2;cases e2
         have u1:=hS2.cell tp z1 (by simpa using hz1);have g1:=hS2.frozen tp;have Iu:=af hN1;have Y6:=af (And.intro x6b (And.intro y2b (And.intro d6b (And.intro y3b (And.intro y4b x7b)))));have HU1:=af (And.intro u1 g1);have xY:=af hgs;rw [hnf] at d7;rw [hnt] at Y6 xY;have q1:(fp:Int) < nf:=by have:=HA4.out;omega
         have q2:(tp:Int) < nt:=by have:=Dy.out;omega
         have q3:(f:Int) < g.actors.length:=by omega
         have q4:(t:Int) < g.actors.length:=by omega
         have q5:(g.actors.length:Int)<=tc:=by omega
         have HNT:=af hnt;clear hN1 x6b d6b y2b y3b y4b x7b u1 g1 hS2 L1 S1 hN0 T0 kD hSS hD hgs hgd hcells LP oF htc hnf hnt hz0 hz1 Bw d6 y2 y3 y4 x7 hf2 ht2 hlf;refine aM (fun w'=>w'.cell? ⟨b,6,none⟩=some (.slice (some ⟨tg,0,none⟩) g.actors.length tc)/\w'.cell? ⟨Y,0,none⟩=some (.int .i64 (f:Int))/\w'.cell? ⟨tg,f*12+7,none⟩=some (.slice (some ⟨gd,0,none⟩) nf nf)/\w'.cell? ⟨Y,1,none⟩=some (.int .i64 (fp:Int))) [0,1,2,3,4,5,6,7,8,9] [10,11] (by kernel_rfl) (by kernel_rfl) rfl (fun _ _ hx h=>⟨hx.cell h.1,hx.cell h.2.1,hx.cell h.2.2.1,hx.cell h.2.2.2⟩) ⟨x6,y0,d7,y1⟩ ?_;intro Q' hQ';simp only [pk];refine aD ?_;refine ax ?_;clear x6 y0 d7 y1;go_wp2_with fail;obtain ⟨wz,hwz⟩:∃ x,wy.drew.setCell ⟨gd,fp,none⟩ (.int .i64 (k:Int))=x:=⟨_,rfl⟩;rw [hwz] at Iu Y6 HU1;change (wy.setCell ⟨gd,fp,none⟩ (.int .i64 (k:Int))).drew=wz at hwz;rw [hwz];clear hwz BX HY;obtain ⟨e1,e2,e3,e4,e5,e6⟩:=Y6.out;have hN1:=Iu.out;have T1:Turn qy qy (fun _=>False) wz wz.drew:=(Turn.refl qy _ wz).drew;have hN0:=hN1.turn T1 (fun h=>h) (fun _ h=>h.elim);obtain ⟨L2,S2⟩:=hN0.half.sU (t:=t) (q:=tp) (gs:=gs) pQ.out tJ.out (by omega) (by rw [xY.out,HNT.out]);have hlf:=HF.out.1;have ht2:=pQ.out;have Js:jB w (wz.drew.setCell ⟨gs,tp,none⟩ (.int .i64 (k:Int))) qy R b g [.string g.name,.slice aa g.actors.length ac,.slice ae g.edges.length ec,.slice ai g.ins.length ic,.slice ao g.outs.length oc] caps g.actors.length k (k+1) (k+1) v:=⟨hN0.kept.turn S2 (by omega),hN0.box.turn S2 (by omega),hN0.res.turn S2 (by omega),L2⟩;have y4c:(wz.drew.setCell ⟨gs,tp,none⟩ (.int .i64 (k:Int))).cell? _=_:=S2.cell (show wz.drew.cell? _=_ from e5) (by show ¬ (qy Y=_);omega);have Xq:(wz.drew.setCell ⟨gs,tp,none⟩ (.int .i64 (k:Int))).cell? _=_:=S2.cell (show wz.drew.cell? _=_ from e6) (by show ¬ (qy b=_);omega);obtain ⟨u1,g1⟩:=HU1.out;have pJ:=af Js;have HYX:=af (And.intro y4c Xq);clear y4c Xq L2 S2 hN0 T1 hN1 Js Iu e5 e6 hlf ht2;refine aM (fun w'=>w'.cell? ⟨b,6,none⟩=some (.slice (some ⟨tg,0,none⟩) g.actors.length tc)/\w'.cell? ⟨Y,2,none⟩=some (.int .i64 (t:Int))/\w'.cell? ⟨tg,t*12+6,none⟩=some (.slice (some ⟨gs,0,none⟩) nt nt)/\w'.cell? ⟨Y,3,none⟩=some (.int .i64 (tp:Int))) [0,1,2,3,4,5,6,7,8,9] [10,11] (by kernel_rfl) (by kernel_rfl) rfl (fun _ _ hx h=>⟨hx.cell h.1,hx.cell h.2.1,hx.cell h.2.2.1,hx.cell h.2.2.2⟩) ⟨e1,e2,e3,e4⟩ ?_;intro Q' hQ';simp only [pk];refine aD ?_;refine ax ?_;clear e1 e2 e3 e4 Y6 HU1;go_wp2_with fail;obtain ⟨wa,LQ⟩:∃ x,wz.drew.setCell ⟨gs,tp,none⟩ (.int .i64 (k:Int))=x:=⟨_,rfl⟩;rw [LQ] at pJ HYX;change (wz.setCell ⟨gs,tp,none⟩ (.int .i64 (k:Int))).drew=wa at LQ;rw [LQ];clear LQ u1 g1;obtain ⟨i0,hi,hz0,hz1,hz2⟩:=info_parts rF;have HI:=af hi;clear hi;refine cB (fun w'=>w'.cell? ⟨Y,4,none⟩=some (.slice sa ed.start.length sc)/\w'.cell? ⟨b,7,none⟩=some (.slice vs k RX)) [0,1,2,3] [4,5] [0,1,2,3] 6 (by kernel_rfl) (by kernel_rfl) rfl HYX.out ?_;intro Q' hQ' lD;simp only [pk];refine aD ?_;refine ax ?_;have Ec:=af (pJ.out.turn (Turn.refl qy (fun _=>False) wa).drew (fun h=>h) (fun _ h=>h.elim));obtain ⟨wb,hwb⟩:∃ x,wa.drew=x:=⟨_,rfl⟩;have hyx:wa.drew.cell? ⟨Y,4,none⟩=some (.slice sa ed.start.length sc)/\wa.drew.cell? ⟨b,7,none⟩=some (.slice vs k RX):=HYX.out;rw [hwb] at Ec hyx ⊢;have ZA:=af hyx;clear hwb pJ HYX hyx lD;refine aB (i:=4) (by kernel_rfl) ?_;simp only [pk];go_wp2_with fail;refine (gW _ sa ed.start.length sc ed.start (HST.out.below Ec.out.kept.below) (by have:=V4.out;omega)).mono ?_;rintro e wc2 ⟨vc,rfl,vV,hbN⟩;obtain ⟨DC,DF,rfl⟩:=aA vV;have TN:=Turn.of_below qy (R+10+k) hbN;have V7:=af (Own.made qy (R+10+k) vV);replace ZA:=af (And.intro (cell_later hbN ZA.out.1) (cell_later hbN ZA.out.2));replace Ec:=af (Ec.out.turn TN (fun h=>h) (fun _ h=>h.elim));generalize ext qy wb.heap.size (R+10+k)=qc at *;clear hbN TN vV;go_wp2;refine ⟨by intros;exact ZA.out,?_⟩;refine aB (i:=5) (by kernel_rfl) ?_;simp only [pk];go_wp2;refine ⟨by intros;exact ZA.out,?_⟩;refine aJ (ks:=[6,7,8,9]) (fun _ _ hx h=>⟨hx.cell h.1,hx.cell h.2⟩) (by kernel_rfl) ?_;simp only [pk];clear ZA;have hbn:=au wc2 (.cells #[.slice DC ed.start.length DF,.int .i64 0] 90);have TN:=Turn.of_below qc (R+3002) hbn;replace Ec:=af (Ec.out.turn TN (fun h=>h) (fun _ h=>h.elim));replace V7:=af (V7.out.turn TN (fun h=>h));generalize ext qc wc2.heap.size (R+3002)=qn at *;clear hbn TN;go_wp2_with (at_builtin;refine aU ?_);refine dR ?_;refine aS rfl _ _ 35 rfl 0 90 i0 _ 2 32 Tryz.underlying35 HI.out hz0 hz1 hz2 rfl (.slice vs k RX) k ((List.range k).flatMap (ql v.sv)) rfl (by have:=Ec.out.half.streams.1;rw [Ik.out] at this;exact this) (some ⟨wc2.heap.size,0,none⟩) 1 1 [.slice DC ed.start.length DF,.int .i64 0] rfl rfl (fun h=>by cases h) (bC wc2 [.slice DC ed.start.length DF,.int .i64 0] 90) (by simp [Value.oneCell']) (by have:=HF.out.2.1;unfold maxLen;omega) (bA (by have:=HF.out.2.1;omega)) (Nat.zero_le _) ?_;intro v7 w7 k1 k20 _ k4;rw [<- Ik.out] at k20 k4;obtain ⟨T7,O7⟩:=nA Ec.out.half.streams k1 k20 k4;obtain ⟨iM,iN,rfl⟩:=O7.slice;generalize ext qn _ (R+2)=qo at *;have pu:=Ec.out.half.aP.turn T7 (by omega);have e0:=pu.cell 7 v.streams rfl;have g0:=pu.frozen 7;obtain ⟨hB0,S0⟩:=pu.set 7 (.slice iM (k+1) iN);have hB1:dZ (w7.setCell ⟨b,7,none⟩ (.slice iM (k+1) iN)) qo (R+5) b 37 (zK [.string g.name,.slice aa g.actors.length ac,.slice ae g.edges.length ec,.slice ai g.ins.length ic,.slice ao g.outs.length oc] { v with streams:=.slice iM (k+1) iN }).toArray:=hB0;have TT:=(T7.mono (D:=fun c=>c=R+5\/c=R+2) (fun c h=>.inr h)).trans (S0.mono (D:=fun c=>c=R+5\/c=R+2) (fun c h=>.inl h)) (fun _ h=>h);have hrow:Own (w7.setCell ⟨b,7,none⟩ (.slice iM (k+1) iN)) qo (R+10+k) 3 1 (.slice DC ed.start.length DF) ((bN g).strs k).length (bB ((bN g).strs k)):=by
          have e:(bN g).strs k=ed.start:=by unfold bN;simp only [hlt,if_true];rw [Sz.out]
          rw [e];exact V7.out.turn TT (by omega)
         have hle:=HF.out.2.1;have tF:=af (jB.mk (Ec.out.kept.turn TT (by omega)) (Ec.out.box.turn TT (by omega)) (Ec.out.res.turn TT (by omega)) (Ec.out.half.yh (by omega) TT hB1 (O7.turn S0 (by omega)) hrow));have hpos:∀ c∈caps.take (k+1),0<=c:=by
          intro c hc;obtain ⟨i,hi,rfl⟩:=List.mem_take_iff_getElem.1 hc
          by_cases hik:i < k
          ·
           exact Ko.out _ (List.mem_take_iff_getElem.2 ⟨i,by omega,rfl⟩)
          ·
           obtain rfl:i=k:=by omega
           have e:=Y8.out;rw [List.getElem?_eq_getElem HKL.out] at e;have e':C=caps[i]:=e.symm;exact e' ▸ KV.out
         have RS:=af hpos;clear hpos hrow TT hB0 hB1 S0 pu T7 O7 k1 k20 k4 Ec V7;go_wp2;go_roundw
         case rel=>exact ⟨k+1,_,_,hlt,by go_num,tF.out,RS.out⟩
         case measure=>simp [intOf];omega
       ·
        obtain rfl:k=g.edges.length:=by omega
        have bX:¬ ((g.edges.length:Int) < g.edges.length):=by omega
        have Ih:∀ c∈caps,0<=c:=by
         intro c hc;refine Ko.out c ?_;rw [<- H1.out,List.take_length];exact hc
        have HCP:=af Ih;have x3:=HN.out.box.cell 3 _ rfl;clear hk hlt Ih Ko;go_wp2_with fail
        go_loopw [13] (fun i wz=>∃ (k:Nat) (q:Col) (v:Ew),k<=g.ins.length/\i=.int .i64 k/\jB w wz q R b g [.string g.name,.slice aa g.actors.length ac,.slice ae g.edges.length ec,.slice ai g.ins.length ic,.slice ao g.outs.length oc] caps g.actors.length (g.edges.length+k) (g.edges.length+k) (g.edges.length) v) (fun i _=>g.ins.length - (intOf i).toNat)
        case atStart=>exact ⟨0,_,v,Nat.zero_le _,rfl,HN.out⟩
        case round =>
         clear HN x3;obtain ⟨k,q,v,hk,rfl,hN⟩:=hrel;have HN:=af hN;clear hN;have x3:=HN.out.box.cell 3 _ rfl;change wr.cell? _=some (.slice ai g.ins.length ic) at x3
         by_cases hlt:k < g.ins.length
         ·
          have bX:(k:Int) < g.ins.length:=by omega
          obtain ⟨b0,off,hae,hcap,hb0,hrec⟩:=qE.out.at (by omega);rw [hae] at x3;obtain ⟨cs,hcs,mY,hcl⟩:=hrec k hlt;obtain rfl:=mY;have c1:=cell_later HN.out.kept.below (hcl 1 (by omega));have c2:=cell_later HN.out.kept.below (hcl 2 (by omega));simp at c1 c2;have fu:(g.ins.length:Int)<=ic:=by omega
          obtain ⟨pt,hpt⟩:∃ x,g.ins[k]=x:=⟨_,rfl⟩;have RU:=af hpt;rw [hpt] at c1 c2;clear hrec hcl hcs hb0 hcap hpt hae;have tH:=HS.out.ins k hlt;rw [RU.out] at tH;obtain ⟨⟨a5,a6⟩,⟨a7,a8⟩,-⟩:=tH;obtain ⟨t,ht⟩:=Int.eq_ofNat_of_zero_le a5;obtain ⟨tp,htp⟩:=Int.eq_ofNat_of_zero_le a7;have jA:=HS.out.Ld hlt;rw [RU.out,ht,htp] at jA;rw [ht,htp,Int.toNat_natCast] at a8;rw [ht] at a6;rw [ht] at c1;rw [htp] at c2;simp only [Int.toNat_natCast] at jA;have tJ:=af jA;have pQ:=af (show t < g.actors.length by omega);have Dy:=af (show tp < (ay g t).length by omega);clear a5 a6 a7 a8 ht htp jA;obtain ⟨n,hn⟩:∃ x,g.edges.length+k=x:=⟨_,rfl⟩;have Bh:=af hn;have hN:=HN.out;rw [hn] at hN;obtain ⟨tg,tc,oF,htc,ND,hcells⟩:=hN.half.wO pQ.out;have x6:wr.cell? ⟨b,6,none⟩=some v.tasks:=hN.half.aP.cell 6 v.tasks rfl;rw [oF] at x6;obtain ⟨gs,hgs,hSS⟩:=(hN.half.task t pQ.out).src;have d6:=hcells 6 (v.tv t).src (by omega) rfl;rw [hgs] at d6;obtain ⟨vs,RX,Bw⟩:=hN.half.streams.slice;have x7:wr.cell? ⟨b,7,none⟩=some v.streams:=hN.half.aP.cell 7 v.streams rfl;rw [Bw] at x7;have Ik:=af Bw;obtain ⟨nt,hnt⟩:∃ x,(ay g t).length=x:=⟨_,rfl⟩;obtain ⟨z1,hz1⟩:∃ x,(bB (ku g t (n)))[tp]?=some x:=⟨_,List.getElem?_eq_getElem (by have:=jl g t (n);have:=Dy.out;simp [bB];omega)⟩;have u1:=hSS.cell tp z1 (by simpa using hz1);have g1:=hSS.frozen tp;have hN0:=hN.turn (Turn.refl q (fun _=>False) wr).drew (fun h=>h) (fun _ h=>h.elim);obtain ⟨L2,S2⟩:=hN0.half.sU (t:=t) (q:=tp) (gs:=gs) pQ.out (tJ.out.trans Bh.out) (by omega) hgs;have hlf:=HF.out.1;have ht2:=pQ.out;have kb:=hN.half.aP.2;have Js:=jB.mk (hN0.kept.turn S2 (by omega)) (hN0.box.turn S2 (by omega)) (hN0.res.turn S2 (by omega)) L2;have Xq:(wr.drew.setCell ⟨gs,tp,none⟩ (.int .i64 (n:Int))).cell? _=_:=S2.cell (show wr.drew.cell? _=_ from x7) (by show ¬ (q b=_);omega);rw [hnt] at d6;have q2:(tp:Int) < nt:=by have:=Dy.out;omega
          have q4:(t:Int) < g.actors.length:=by omega
          have q5:(g.actors.length:Int)<=tc:=by omega
          have pJ:=af Js;have K6:=af Xq;clear Js Xq S2 L2 hN0 hz1 hnt Bw hSS hgs oF htc ND hcells hN hn kb HN hlf ht2;go_wp2_with fail;refine aM (fun w'=>w'.cell? ⟨b,6,none⟩=some (.slice (some ⟨tg,0,none⟩) g.actors.length tc)/\w'.cell? ⟨w.heap.size,3,none⟩=some (.slice (some ⟨b0,off,none⟩) g.ins.length ic)/\w'.cell? ⟨b0,off+k*3+1,none⟩=some (.int .i64 (t:Int))/\w'.cell? ⟨b0,off+k*3+2,none⟩=some (.int .i64 (tp:Int))/\w'.cell? ⟨tg,t*12+6,none⟩=some (.slice (some ⟨gs,0,none⟩) nt nt)/\w'.cell? ⟨b,7,none⟩=some (.slice vs n RX)) [0,1,2,3,4,5,6,7,8,9,10,11,12,13,14,15,16,17,18,19] [20,21] (by kernel_rfl) (by kernel_rfl) rfl (fun _ _ hx h=>⟨hx.cell h.1,hx.cell h.2.1,hx.cell h.2.2.1,hx.cell h.2.2.2.1,hx.cell h.2.2.2.2.1,hx.cell h.2.2.2.2.2⟩) ⟨x6,x3,c1,c2,d6,x7⟩ ?_;intro Q' hQ';simp only [pk];refine aD ?_;refine ax ?_;clear x6 x3 c1 c2 d6;have d7:wr.drew.cell? ⟨b,7,none⟩=some (.slice vs n RX):=x7;have y7:=K6.out;clear x7 d7
          go_upto_region 25 with fail
          obtain ⟨wa,LQ⟩:∃ x,wr.drew.setCell ⟨gs,tp,none⟩ (.int .i64 (n:Int))=x:=⟨_,rfl⟩;rw [LQ] at pJ K6 y7;change (wr.setCell ⟨gs,tp,none⟩ (.int .i64 (n:Int))).drew=wa at LQ;rw [LQ];clear LQ u1 g1;obtain ⟨i0,hi,hz0,hz1,hz2⟩:=info_parts rF;have HI:=af hi;have hbn:=au wa (.cells #[.slice none 0 0,.int .i64 0] 90);have TN:=Turn.of_below q (R+3002) hbn;replace pJ:=af (pJ.out.turn TN (fun h=>h) (fun _ h=>h.elim));generalize ext q wa.heap.size (R+3002)=qn at *;clear hi hbn TN;go_wp2_with (at_builtin;refine aU ?_);refine dR ?_;refine aS rfl _ _ 35 rfl 0 90 i0 _ 2 32 Tryz.underlying35 HI.out hz0 hz1 hz2 rfl (.slice vs n RX) n ((List.range n).flatMap (ql v.sv)) rfl (by have:=pJ.out.half.streams.1;rw [Ik.out] at this;exact this) (some ⟨wa.heap.size,0,none⟩) 1 1 [.slice none 0 0,.int .i64 0] rfl rfl (fun h=>by cases h) (bC wa [.slice none 0 0,.int .i64 0] 90) (by simp [Value.oneCell']) (by have:=HF.out;have:=Bh.out;unfold maxLen;omega) (bA (by have:=HF.out;have:=Bh.out;omega)) (Nat.zero_le _) ?_;intro v7 w7 k1 k20 _ k4;rw [<- Ik.out] at k20 k4;obtain ⟨T7,O7⟩:=nA pJ.out.half.streams k1 k20 k4;obtain ⟨iM,iN,rfl⟩:=O7.slice;generalize ext qn _ (R+2)=qo at *;have pu:=pJ.out.half.aP.turn T7 (by omega);have e0:=pu.cell 7 v.streams rfl;have g0:=pu.frozen 7;obtain ⟨hB0,S0⟩:=pu.set 7 (.slice iM (n+1) iN);have hB1:dZ (w7.setCell ⟨b,7,none⟩ (.slice iM (n+1) iN)) qo (R+5) b 37 (zK [.string g.name,.slice aa g.actors.length ac,.slice ae g.edges.length ec,.slice ai g.ins.length ic,.slice ao g.outs.length oc] { v with streams:=.slice iM (n+1) iN }).toArray:=hB0;have TT:=(T7.mono (D:=fun c=>c=R+5\/c=R+2) (fun c h=>.inr h)).trans (S0.mono (D:=fun c=>c=R+5\/c=R+2) (fun c h=>.inl h)) (fun _ h=>h);obtain ⟨hf1,hf2,hf3,hf4⟩:=HF.out;have hnn:=Bh.out;have hrow:Own (w7.setCell ⟨b,7,none⟩ (.slice iM (n+1) iN)) qo (R+10+n) 3 1 (.slice none 0 0) ((bN g).strs n).length (bB ((bN g).strs n)):=by
           have e:(bN g).strs n=[]:=by unfold bN;simp only [];rw [if_neg (by omega)]
           rw [e];exact Own.nil _ _ _ _ _
          have Ig:=jB.mk (pJ.out.kept.turn TT (by omega)) (pJ.out.box.turn TT (by omega)) (pJ.out.res.turn TT (by omega)) (pJ.out.half.yh (by omega) TT hB1 (O7.turn S0 (by omega)) hrow);have V5:∀ m,m=n+1->jB w _ qo R b g [.string g.name,.slice aa g.actors.length ac,.slice ae g.edges.length ec,.slice ai g.ins.length ic,.slice ao g.outs.length oc] caps g.actors.length m m g.edges.length _:=fun m hm=>by subst hm;exact Ig
          have tF:=af (V5 (g.edges.length+(k+1)) (by omega));clear Ig V5 hrow TT hB0 hB1 S0 pu T7 O7 k1 k20 k4 pJ hnn Bh K6;go_wp2;go_roundw
          case rel=>exact ⟨k+1,_,_,hlt,by go_num,tF.out⟩
          case measure=>simp [intOf];omega
         ·
          obtain rfl:k=g.ins.length:=by omega
          have bX:¬ ((g.ins.length:Int) < g.ins.length):=by omega
          have x4:=HN.out.box.cell 4 _ rfl;replace HN:=af (HN.out.pass HS.out);clear hk hlt;go_wp2_with fail
          go_loopw [14] (fun i wz=>∃ (k:Nat) (q:Col) (v:Ew),k<=g.outs.length/\i=.int .i64 k/\jB w wz q R b g [.string g.name,.slice aa g.actors.length ac,.slice ae g.edges.length ec,.slice ai g.ins.length ic,.slice ao g.outs.length oc] caps g.actors.length (g.edges.length+g.ins.length+k) (g.edges.length+g.ins.length) (g.edges.length+g.ins.length+k) v) (fun i _=>g.outs.length - (intOf i).toNat)
          case atStart=>exact ⟨0,_,v,Nat.zero_le _,rfl,HN.out⟩
          case round =>
           clear HN x4;obtain ⟨k,q,v,hk,rfl,hN⟩:=hrel;have HN:=af hN;clear hN;have x4:=HN.out.box.cell 4 _ rfl;change wr.cell? _=some (.slice ao g.outs.length oc) at x4
           by_cases hlt:k < g.outs.length
           ·
            have bX:(k:Int) < g.outs.length:=by omega
            obtain ⟨b0,off,hae,hcap,hb0,hrec⟩:=sI.out.at (by omega);rw [hae] at x4;obtain ⟨cs,hcs,mY,hcl⟩:=hrec k hlt;obtain rfl:=mY;have c1:=cell_later HN.out.kept.below (hcl 1 (by omega));have c2:=cell_later HN.out.kept.below (hcl 2 (by omega));simp at c1 c2;have fu:(g.outs.length:Int)<=oc:=by omega
            obtain ⟨pt,hpt⟩:∃ x,g.outs[k]=x:=⟨_,rfl⟩;have RU:=af hpt;rw [hpt] at c1 c2;clear hrec hcl hcs hb0 hcap hpt hae;have tH:=HS.out.outs k hlt;rw [RU.out] at tH;obtain ⟨⟨a5,a6⟩,⟨a7,a8⟩,-⟩:=tH;obtain ⟨t,ht⟩:=Int.eq_ofNat_of_zero_le a5;obtain ⟨tp,htp⟩:=Int.eq_ofNat_of_zero_le a7;have jA:=HS.out.QA hlt;rw [RU.out,ht,htp] at jA;rw [ht,htp,Int.toNat_natCast] at a8;rw [ht] at a6;rw [ht] at c1;rw [htp] at c2;simp only [Int.toNat_natCast] at jA;have tJ:=af jA;have pQ:=af (show t < g.actors.length by omega);have Dy:=af (show tp < (aF g t).length by omega);clear a5 a6 a7 a8 ht htp jA;obtain ⟨n,hn⟩:∃ x,g.edges.length+g.ins.length+k=x:=⟨_,rfl⟩;have Bh:=af hn;have hN:=HN.out;rw [hn] at hN;obtain ⟨tg,tc,oF,htc,ND,hcells⟩:=hN.half.wO pQ.out;have x6:wr.cell? ⟨b,6,none⟩=some v.tasks:=hN.half.aP.cell 6 v.tasks rfl;rw [oF] at x6;obtain ⟨gs,hgs,hSS⟩:=(hN.half.task t pQ.out).dst;have d6:=hcells 7 (v.tv t).dst (by omega) rfl;rw [hgs] at d6;obtain ⟨vs,RX,Bw⟩:=hN.half.streams.slice;have x7:wr.cell? ⟨b,7,none⟩=some v.streams:=hN.half.aP.cell 7 v.streams rfl;rw [Bw] at x7;have Ik:=af Bw;obtain ⟨nt,hnt⟩:∃ x,(aF g t).length=x:=⟨_,rfl⟩;obtain ⟨z1,hz1⟩:∃ x,(bB (zw g t (n)))[tp]?=some x:=⟨_,List.getElem?_eq_getElem (by have:=l5 g t (n);have:=Dy.out;simp [bB];omega)⟩;have u1:=hSS.cell tp z1 (by simpa using hz1);have g1:=hSS.frozen tp;have hN0:=hN.turn (Turn.refl q (fun _=>False) wr).drew (fun h=>h) (fun _ h=>h.elim);obtain ⟨L2,S2⟩:=hN0.half.A9 (t:=t) (p:=tp) (gd:=gs) pQ.out (tJ.out.trans Bh.out) (by omega) hgs;have hlf:=HF.out.1;have ht2:=pQ.out;have kb:=hN.half.aP.2;have Js:=jB.mk (hN0.kept.turn S2 (by omega)) (hN0.box.turn S2 (by omega)) (hN0.res.turn S2 (by omega)) L2;have Xq:(wr.drew.setCell ⟨gs,tp,none⟩ (.int .i64 (n:Int))).cell? _=_:=S2.cell (show wr.drew.cell? _=_ from x7) (by show ¬ (q b=_);omega);rw [hnt] at d6;have q2:(tp:Int) < nt:=by have:=Dy.out;omega
            have q4:(t:Int) < g.actors.length:=by omega
            have q5:(g.actors.length:Int)<=tc:=by omega
            have pJ:=af Js;have K6:=af Xq;clear Js Xq S2 L2 hN0 hz1 hnt Bw hSS hgs oF htc ND hcells hN hn kb HN hlf ht2;go_wp2_with fail;refine aM (fun w'=>w'.cell? ⟨b,6,none⟩=some (.slice (some ⟨tg,0,none⟩) g.actors.length tc)/\w'.cell? ⟨w.heap.size,4,none⟩=some (.slice (some ⟨b0,off,none⟩) g.outs.length oc)/\w'.cell? ⟨b0,off+k*3+1,none⟩=some (.int .i64 (t:Int))/\w'.cell? ⟨b0,off+k*3+2,none⟩=some (.int .i64 (tp:Int))/\w'.cell? ⟨tg,t*12+7,none⟩=some (.slice (some ⟨gs,0,none⟩) nt nt)/\w'.cell? ⟨b,7,none⟩=some (.slice vs n RX)) [0,1,2,3,4,5,6,7,8,9,10,11,12,13,14,15,16,17,18,19] [20,21] (by kernel_rfl) (by kernel_rfl) rfl (fun _ _ hx h=>⟨hx.cell h.1,hx.cell h.2.1,hx.cell h.2.2.1,hx.cell h.2.2.2.1,hx.cell h.2.2.2.2.1,hx.cell h.2.2.2.2.2⟩) ⟨x6,x4,c1,c2,d6,x7⟩ ?_;intro Q' hQ';simp only [pk];refine aD ?_;refine ax ?_;clear x6 x4 c1 c2 d6;have d7:wr.drew.cell? ⟨b,7,none⟩=some (.slice vs n RX):=x7;have y7:=K6.out;clear x7 d7
            go_upto_region 30 with fail
            obtain ⟨wa,LQ⟩:∃ x,wr.drew.setCell ⟨gs,tp,none⟩ (.int .i64 (n:Int))=x:=⟨_,rfl⟩;rw [LQ] at pJ K6 y7;change (wr.setCell ⟨gs,tp,none⟩ (.int .i64 (n:Int))).drew=wa at LQ;rw [LQ];clear LQ u1 g1;obtain ⟨i0,hi,hz0,hz1,hz2⟩:=info_parts rF;have HI:=af hi;have hbn:=au wa (.cells #[.slice none 0 0,.int .i64 0] 90);have TN:=Turn.of_below q (R+3002) hbn;replace pJ:=af (pJ.out.turn TN (fun h=>h) (fun _ h=>h.elim));generalize ext q wa.heap.size (R+3002)=qn at *;clear hi hbn TN;go_wp2_with (at_builtin;refine aU ?_);refine dR ?_;refine aS rfl _ _ 35 rfl 0 90 i0 _ 2 32 Tryz.underlying35 HI.out hz0 hz1 hz2 rfl (.slice vs n RX) n ((List.range n).flatMap (ql v.sv)) rfl (by have:=pJ.out.half.streams.1;rw [Ik.out] at this;exact this) (some ⟨wa.heap.size,0,none⟩) 1 1 [.slice none 0 0,.int .i64 0] rfl rfl (fun h=>by cases h) (bC wa [.slice none 0 0,.int .i64 0] 90) (by simp [Value.oneCell']) (by have:=HF.out;have:=Bh.out;unfold maxLen;omega) (bA (by have:=HF.out;have:=Bh.out;omega)) (Nat.zero_le _) ?_;intro v7 w7 k1 k20 _ k4;rw [<- Ik.out] at k20 k4;obtain ⟨T7,O7⟩:=nA pJ.out.half.streams k1 k20 k4;obtain ⟨iM,iN,rfl⟩:=O7.slice;generalize ext qn _ (R+2)=qo at *;have pu:=pJ.out.half.aP.turn T7 (by omega);have e0:=pu.cell 7 v.streams rfl;have g0:=pu.frozen 7;obtain ⟨hB0,S0⟩:=pu.set 7 (.slice iM (n+1) iN);have hB1:dZ (w7.setCell ⟨b,7,none⟩ (.slice iM (n+1) iN)) qo (R+5) b 37 (zK [.string g.name,.slice aa g.actors.length ac,.slice ae g.edges.length ec,.slice ai g.ins.length ic,.slice ao g.outs.length oc] { v with streams:=.slice iM (n+1) iN }).toArray:=hB0;have TT:=(T7.mono (D:=fun c=>c=R+5\/c=R+2) (fun c h=>.inr h)).trans (S0.mono (D:=fun c=>c=R+5\/c=R+2) (fun c h=>.inl h)) (fun _ h=>h);obtain ⟨hf1,hf2,hf3,hf4⟩:=HF.out;have hnn:=Bh.out;have hrow:Own (w7.setCell ⟨b,7,none⟩ (.slice iM (n+1) iN)) qo (R+10+n) 3 1 (.slice none 0 0) ((bN g).strs n).length (bB ((bN g).strs n)):=by
             have e:(bN g).strs n=[]:=by unfold bN;simp only [];rw [if_neg (by omega)]
             rw [e];exact Own.nil _ _ _ _ _
            have Ig:=jB.mk (pJ.out.kept.turn TT (by omega)) (pJ.out.box.turn TT (by omega)) (pJ.out.res.turn TT (by omega)) (pJ.out.half.yh (by omega) TT hB1 (O7.turn S0 (by omega)) hrow);have V5:∀ m,m=n+1->jB w _ qo R b g [.string g.name,.slice aa g.actors.length ac,.slice ae g.edges.length ec,.slice ai g.ins.length ic,.slice ao g.outs.length oc] caps g.actors.length m (g.edges.length+g.ins.length) m _:=fun m hm=>by subst hm;exact Ig
            have tF:=af (V5 (g.edges.length+g.ins.length+(k+1)) (by omega));clear Ig V5 hrow TT hB0 hB1 S0 pu T7 O7 k1 k20 k4 pJ hnn Bh K6;go_wp2;go_roundw
            case rel=>exact ⟨k+1,_,_,hlt,by go_num,tF.out⟩
            case measure=>simp [intOf];omega
           ·
            obtain rfl:k=g.outs.length:=by omega
            have bX:¬ ((g.outs.length:Int) < g.outs.length):=by omega
            clear hk hlt;have hf:=HN.out.half;obtain ⟨cva,cvc,hcv⟩:=Ints.slice hf.caps;obtain ⟨tva,tvc,htv⟩:=hf.tasks.slice;obtain ⟨sva,svc,hsv⟩:=hf.streams.slice;have r0:=hf.aP.cell 0 _ rfl;have r1:=hf.aP.cell 1 _ rfl;have r2:=hf.aP.cell 2 _ rfl;have r3:=hf.aP.cell 3 _ rfl;have r4:=hf.aP.cell 4 _ rfl;have r5:wr.cell? ⟨b,5,none⟩=some v.caps:=hf.aP.cell 5 _ rfl;have r6:wr.cell? ⟨b,6,none⟩=some v.tasks:=hf.aP.cell 6 _ rfl;have r7:wr.cell? ⟨b,7,none⟩=some v.streams:=hf.aP.cell 7 _ rfl;have r8:wr.cell? ⟨b,8,none⟩=some (.slice (some ⟨v.fail,0,none⟩) 1 1):=hf.aP.cell 8 _ rfl;change wr.cell? _=some (.string g.name) at r0;change wr.cell? _=some (.slice aa g.actors.length ac) at r1;change wr.cell? _=some (.slice ae g.edges.length ec) at r2;change wr.cell? _=some (.slice ai g.ins.length ic) at r3;change wr.cell? _=some (.slice ao g.outs.length oc) at r4;rw [hcv] at r5;rw [htv] at r6;rw [hsv] at r7;have HCV:=af hcv;have HTV:=af htv;have HSV:=af hsv;clear hf hcv htv hsv;have z0:=(HN.out.res).cell 0 _ rfl;have z1:=(HN.out.res).cell 1 _ rfl;have z2:=(HN.out.res).cell 2 _ rfl;have z3:=(HN.out.res).cell 3 _ rfl;have z4:=(HN.out.res).cell 4 _ rfl;have z5:=(HN.out.res).cell 5 _ rfl;have z6:=(HN.out.res).cell 6 _ rfl;have z7:=(HN.out.res).cell 7 _ rfl;have z8:=(HN.out.res).cell 8 _ rfl;have f0:=(HN.out.res).frozen 0;have f1:=(HN.out.res).frozen 1;have f2:=(HN.out.res).frozen 2;have f3:=(HN.out.res).frozen 3;have f4:=(HN.out.res).frozen 4;have f5:=(HN.out.res).frozen 5;have f6:=(HN.out.res).frozen 6;have f7:=(HN.out.res).frozen 7;have f8:=(HN.out.res).frozen 8;go_wp2;refine bodyPost_ret_by (eY rfl _ _ _ _ _ _ _ rfl (wW (HN.out.res).1) Tryz.underlying37 rfl (by kernel_rfl)) rfl ?_;have hE:newE g caps=0:=by
             unfold newE;rw [if_neg (by rw [HE.out];decide),if_neg (by rw [H1.out];simp),if_neg];intro h;obtain ⟨c,hc,hd⟩:=List.any_eq_true.1 h;have:=HCP.out c hc;simp at hd;omega
            refine ⟨fun h=>absurd hE h,fun _=>⟨b,q,v,?_,?_,?_⟩⟩
            ·
             unfold zK;rw [HCV.out,HTV.out,HSV.out];rfl
            ·
             exact HN.out.kept.turn (Ii HN.out.res _ _ _ _ _ _ _ _ _) (by omega)
            ·
             exact HN.out.half.aa3 (Ii HN.out.res _ _ _ _ _ _ _ _ _)
  ·
   have hbb:((caps.length:Int) != (g.edges.length:Int))=true:=by rw [bne_iff_ne];omega
   have H1:=af h1;clear h1;have z0:=(HZ2.out).cell 0 _ rfl;have z1:=(HZ2.out).cell 1 _ rfl;have z2:=(HZ2.out).cell 2 _ rfl;have z3:=(HZ2.out).cell 3 _ rfl;have z4:=(HZ2.out).cell 4 _ rfl;have z5:=(HZ2.out).cell 5 _ rfl;have z6:=(HZ2.out).cell 6 _ rfl;have z7:=(HZ2.out).cell 7 _ rfl;have z8:=(HZ2.out).cell 8 _ rfl;have f0:=(HZ2.out).frozen 0;have f1:=(HZ2.out).frozen 1;have f2:=(HZ2.out).frozen 2;have f3:=(HZ2.out).frozen 3;have f4:=(HZ2.out).frozen 4;have f5:=(HZ2.out).frozen 5;have f6:=(HZ2.out).frozen 6;have f7:=(HZ2.out).frozen 7;have f8:=(HZ2.out).frozen 8;go_wp2;refine bodyPost_ret_by (eY rfl _ _ _ _ _ _ _ rfl (wW (HZ2.out).1) Tryz.underlying37 rfl (by kernel_rfl)) rfl ?_;refine ET ?_ ?_ (yD zb.out.below (Nat.le_succ _) _ _ _ _ _ _ _ _ _)
   ·
    unfold newE;rw [if_neg (by rw [HE.out];decide),if_pos H1.out]
   ·
    decide
 ·
  have hbb:(E != 0)=true:=by rw [bne_iff_ne];exact h0
  have H0:=af h0;clear h0;have z0:=(HZ2.out).cell 0 _ rfl;have z1:=(HZ2.out).cell 1 _ rfl;have z2:=(HZ2.out).cell 2 _ rfl;have z3:=(HZ2.out).cell 3 _ rfl;have z4:=(HZ2.out).cell 4 _ rfl;have z5:=(HZ2.out).cell 5 _ rfl;have z6:=(HZ2.out).cell 6 _ rfl;have z7:=(HZ2.out).cell 7 _ rfl;have z8:=(HZ2.out).cell 8 _ rfl;have f0:=(HZ2.out).frozen 0;have f1:=(HZ2.out).frozen 1;have f2:=(HZ2.out).frozen 2;have f3:=(HZ2.out).frozen 3;have f4:=(HZ2.out).frozen 4;have f5:=(HZ2.out).frozen 5;have f6:=(HZ2.out).frozen 6;have f7:=(HZ2.out).frozen 7;have f8:=(HZ2.out).frozen 8;go_wp2;refine bodyPost_ret_by (eY rfl _ _ _ _ _ _ _ rfl (wW (HZ2.out).1) Tryz.underlying37 rfl (by kernel_rfl)) rfl ?_;refine ET ?_ ?_ (yD zb.out.below (Nat.le_succ _) _ _ _ _ _ _ _ _ _)
  ·
   unfold newE;rw [HE.out,if_pos H0.out]
  ·
   exact H0.out
theorem Zd {g:av}(ha:fG g){t:Nat}(ht:t < g.actors.length):EF g t (oZ g t):=by
 have hg:=(rC ha ht).1;unfold EF oZ;unfold eH jh at hg ⊢;rw [List.getElem?_eq_getElem ht] at hg ⊢;dsimp only at hg ⊢;refine ⟨fun e=>?_,fun e=>?_⟩
 ·
  rw [e] at hg ⊢;have:1<=g.actors[t].params.length:=by unfold aC at hg;omega
  show _=(List.replicate (g.actors[t].params.length - 1) (0:Int)).length+1
  rw [List.length_replicate];omega
 ·
  rcases e with e | e <;> rw [e] <;> rfl
theorem RY {w:World}{o:Col}{R t:Nat}{g:av}{tv0:Nat->Yz}(ha:fG g)(ht:t < g.actors.length)(h:qZ w o R g t (tv0 t) (g.edges.length+g.ins.length) (aR g)):∃ kv:wU,iA g tv0 t=taskX g (fO g t) [] kv t/\oC w o R g t (fO g t) [] kv:=by
 obtain ⟨pa,pc,e1⟩:=h.vp.slice;obtain ⟨ia,ic,e2⟩:=h.vi.slice;obtain ⟨oa,oc,e3⟩:=h.vo.slice;obtain ⟨ka,kc,e4⟩:=h.vk.slice;obtain ⟨gs,e5,b5⟩:=h.src;obtain ⟨gd,e6,b6⟩:=h.dst;have hh:(fO g t).hand.flatten=[]:=by simp [fO]
 have hs:Ints w o (R+1000+2*t) (.slice (some ⟨gs,0,none⟩) (ay g t).length (ay g t).length) (ku g t (g.edges.length+g.ins.length)):=by
  have:=lU (w:=w) (o:=o) (c:=R+1000+2*t) (ao:=some ⟨gs,0,none⟩) (vs:=bB (ku g t (g.edges.length+g.ins.length))) (cap:=(ay g t).length) (by rw [aX,jl];exact Nat.le_refl _) (fun e=>by cases e) (fun a e=>by cases e;rfl) (fun ad had j u hu=>by
   obtain rfl:=Option.some.inj had;rw [Addr.add_lit,Nat.zero_add];exact b5.cell j u (by simpa using hu)) (fun a e _=>by cases e;exact b5.2)
  rw [aX,jl] at this;exact this
 have hd:Ints w o (R+1001+2*t) (.slice (some ⟨gd,0,none⟩) (aF g t).length (aF g t).length) (zw g t (aR g)):=by
  have:=lU (w:=w) (o:=o) (c:=R+1001+2*t) (ao:=some ⟨gd,0,none⟩) (vs:=bB (zw g t (aR g))) (cap:=(aF g t).length) (by rw [aX,l5];exact Nat.le_refl _) (fun e=>by cases e) (fun a e=>by cases e;rfl) (fun ad had j u hu=>by
   obtain rfl:=Option.some.inj had;rw [Addr.add_lit,Nat.zero_add];exact b6.cell j u (by simpa using hu)) (fun a e _=>by cases e;exact b6.2)
  rw [aX,l5] at this;exact this
 have h1:=h.vp;have h2:=h.vi;have h3:=h.vo;have h4:=h.vk;rw [e1] at h1;rw [e2] at h2;rw [e3] at h3;rw [e4] at h4;refine ⟨⟨pa,(jh g t).length,pc,ia,(ay g t).length,ic,oa,(aF g t).length,oc,ka,(oZ g t).length,kc,some ⟨gs,0,none⟩,(ay g t).length,(ay g t).length,some ⟨gd,0,none⟩,(aF g t).length,(aF g t).length,none,0,0,none,0,0⟩,?_,⟨h1,h2,h3,h4,hs,hd,by rw [hh];exact .inl ⟨rfl,none,0,rfl⟩,fun e=>(by cases e),fun e=>(by cases e),Zd ha ht⟩⟩;unfold iA taskX iw;rw [e1,e2,e3,e4,e5,e6];have hat:zA (fO g t) []=0:=by unfold zA;rw [hh];rfl
 rw [hat];rfl
theorem KC {w:World}{q:Col}{R b:Nat}{g:av}{caps:List Int}{v:Ew}{aa ae ai ao:Option Addr}{ac ec ic oc:Nat}(ha:fG g)(h:jP w q R b g [.string g.name,.slice aa g.actors.length ac,.slice ae g.edges.length ec,.slice ai g.ins.length ic,.slice ao g.outs.length oc] caps g.actors.length (aR g) (g.edges.length+g.ins.length) (aR g) v) :
  ∃ H tv sv,zK [.string g.name,.slice aa g.actors.length ac,.slice ae g.edges.length ec,.slice ai g.ins.length ic,.slice ao g.outs.length oc] v=dP g caps H/\fA w q R g caps 0 ⟨bN g,none⟩ (fun _=>[]) (fun _=>[]) H tv sv:=by
 obtain ⟨ca,cc,e1⟩:=h.caps.slice;obtain ⟨ta,tc,e2⟩:=h.tasks.slice;obtain ⟨sa,sc,e3⟩:=h.streams.slice;have ht:∀ t:Nat,∃ kv:wU,t < g.actors.length->iA g v.tv t=taskX g (fO g t) [] kv t/\oC w q R g t (fO g t) [] kv:=fun t=>by
  by_cases hlt:t < g.actors.length
  ·
   obtain ⟨kv,k1,k2⟩:=RY ha hlt (h.task t hlt);exact ⟨kv,fun _=>⟨k1,k2⟩⟩
  ·
   exact ⟨⟨none,0,0,none,0,0,none,0,0,none,0,0,none,0,0,none,0,0,none,0,0,none,0,0⟩,fun h=>absurd h hlt⟩
 have hs:∀ d:Nat,∃ z:rT,d < aR g->v.sv d=z.v:=fun d=>by
  by_cases hlt:d < aR g
  ·
   obtain ⟨a,c,e⟩:=(h.all d hlt).slice;exact ⟨⟨a,_,c⟩,fun _=>e⟩
  ·
   exact ⟨⟨none,0,0⟩,fun h=>absurd h hlt⟩
 obtain ⟨tf,htf⟩:=Classical.axiomOfChoice ht;obtain ⟨sf,hsf⟩:=Classical.axiomOfChoice hs;have h2:=h.tasks;have h3:=h.streams;rw [e2,o9 (h:=fun t=>taskX g (fO g t) [] (tf t) t) (fun t hlt=>(htf t hlt).1)] at h2;rw [e3,o9 (h:=fun d=>vL (sf d) []) (fun d hlt=>by
  unfold ql vL;rw [hsf d hlt];rfl)] at h3
 have h1:=h.caps;rw [e1] at h1;refine ⟨⟨aa,ac,ae,ec,ai,ic,ao,oc,ca,cc,ta,tc,sa,sc,v.fail⟩,tf,sf,?_,h1,h.fail,h2,h3,fun t hlt=>(htf t hlt).2,fun d hlt=>?_,fun d=>Nat.le_refl _,fun d _=>rfl,h.most⟩
 ·
  unfold zK dP;rw [e1,e2,e3];rfl
 ·
  have:=bT.JB (h.all d hlt);rw [hsf d hlt] at this;exact this
def oL (i n:Nat):List Int:=(List.range n).map fun (k:Nat)=>(i:Int)*1000003+k
def OD (i n:Nat):List Int:=(List.range n).map fun (k:Nat)=>-(i:Int)*1000003 - k - 1
theorem qB (i n:Nat):(oL i n).length=n:=by simp [oL]
theorem V8 (i n:Nat):(OD i n).length=n:=by simp [OD]
theorem RZ (i k:Nat):OD i (k+1)=OD i k ++ [-(i:Int)*1000003 - k - 1]:=by simp [OD,List.range_succ]
theorem N9 (i k:Nat):oL i (k+1)=oL i k ++ [(i:Int)*1000003+k]:=by simp [oL,List.range_succ]
theorem Il (i n k:Nat)(h:k < n):(oL i n)[k]?=some ((i:Int)*1000003+k):=by simp [oL,h]
theorem V9 (i n k:Nat)(h:k < n):(OD i n)[k]?=some (-(i:Int)*1000003 - k - 1):=by simp [OD,h]
theorem R4 {zs:List Int}{i k:Nat}(hk:k < zs.length)(h:zs.take k=oL i k):(zs.set k ((i:Int)*1000003+k)).take (k+1)=oL i (k+1):=by
 rw [N9,<- h,List.take_succ_eq_append_getElem (by simpa using hk),List.take_set_of_le (Nat.le_refl _)];simp
def tL (ov:Value)(vs:List Value):Col:=fun k=>if ov.ownBlock=some k then 1 else
 match (List.range vs.length).find? (fun i=>decide ((vs[i]?.getD undef).ownBlock=some k)) with
 | some i=>10+i
 | none=>0
theorem KD {ov:Value}{vs:List Value}{i k:Nat}(hi:i < vs.length)(h:(vs[i]?.getD undef).ownBlock=some k)(hov:ov.ownBlock≠some k)
  (hd:∀ i j B,i < j->j < vs.length->(vs[i]?.getD undef).ownBlock=some B->(vs[j]?.getD undef).ownBlock≠some B):tL ov vs k=10+i:=by
 unfold tL;rw [if_neg hov]
 split
 ·
  rename_i j hj
  have h1:=List.find?_some hj;have h2:=List.mem_of_find?_eq_some hj;simp at h1 h2;have:j=i:=by
   rcases Nat.lt_trichotomy i j with hlt | rfl | hlt
   ·
    exact absurd h1 (by simpa using hd i j k hlt h2 h)
   ·
    rfl
   ·
    exact absurd h (hd j i k hlt hi (by simpa using h1))
  omega
 ·
  rename_i hn
  have:=List.find?_eq_none.1 hn i (List.mem_range.2 hi);simp [h] at this
theorem Oa {ov:Value}{vs:List Value}{k:Nat}(h:10<=tL ov vs k):∃ i,i < vs.length/\(vs[i]?.getD undef).ownBlock=some k:=by
 unfold tL at h
 split at h
 ·
  omega
 ·
  split at h
  ·
   rename_i j hj
   have h1:=List.find?_some hj;have h2:=List.mem_of_find?_eq_some hj;exact ⟨j,List.mem_range.1 h2,by simpa using h1⟩
  ·
   omega
section
variable {o o':Col} {w w':World}
def uT (w:World)(o:Col)(c:Nat)(u:Value)(l:List Int):Prop :=
 ∃ ao cap,u=.slice ao l.length cap/\l.length<=cap/\(0 < l.length->∃ g,ao=some ⟨g,0,none⟩/\g < w.heap.size/\o g=c/\∀ k,k < l.length->w.cell? ⟨g,k,none⟩=some (iv (l[k]?.getD 0)))
theorem uT.turn {C:Nat->Prop}{c:Nat}{u:Value}{l:List Int}(h:uT w o c u l)(T:Turn o o' C w w')(hc:¬ C c):uT w' o' c u l:=by
 obtain ⟨ao,cap,h1,h2,h3⟩:=h;refine ⟨ao,cap,h1,h2,fun hp=>?_⟩;obtain ⟨g,h4,h5,h6,h7⟩:=h3 hp;exact ⟨g,h4,Nat.lt_of_lt_of_le h5 T.size,(T.same g h5).trans h6,fun k hk=>T.cell (h7 k hk) (by show ¬ C (o g);rw [h6];exact hc)⟩
theorem Own.cap {c e n:Nat}{sa:Option Addr}{len cap:Nat}{xs:List Value}(h:Own w o c e 1 (.slice sa len cap) n xs):len=n/\n<=cap:=by
 rcases h.1.2 with ⟨h0,h1⟩ | ⟨g,cap',cur,hv,_,_,hnc,_⟩
 ·
  cases h0;subst h1;simp
 ·
  cases hv;exact ⟨rfl,hnc⟩
theorem Own.aa5 {c e n:Nat}{u:Value}{l:List Int}(h:Own w o c e 1 u n (bB l)):uT w o c u l:=by
 obtain ⟨ao,cap,rfl⟩:=h.slice;have hn:=h.len;rw [aX] at hn;subst hn;refine ⟨ao,cap,rfl,h.cap.2,fun hp=>?_⟩;obtain ⟨_,_,g,_,rfl,hcl,_,hg⟩:=bQ h.1 (by simpa using hp);exact ⟨g,rfl,hg,h.2 g rfl,fun k hk=>hcl k _ (by simp [hk])⟩
theorem uT.app {c n:Nat}{u v v':Value}{l:List Int}{xs news:List Value}{e m:Nat}{tmp:Obj}(hr:uT w o c u l)(hp:∀ k,k < l.length->xs[k]?=some (iv (l[k]?.getD 0)))(hx:xs.length=n)
  (k1:w'.ownsRow 0 e 1 v' m (xs ++ news)) (k2:(w.alloc tmp).grownBy w' v.ownBlock) (k4:v'.ownBlock=v.ownBlock\/v'.ownBlock=some (w.alloc tmp).heap.size/\(w.alloc tmp).grownBy w' none) (ho:∀ k,k < w.heap.size->o' k=o k):uT w' o' c u l:=by
 obtain ⟨ao,cap,h1,h2,h3⟩:=hr;refine ⟨ao,cap,h1,h2,fun hp0=>?_⟩;obtain ⟨g,h4,h5,h6,h7⟩:=h3 hp0;have hsz:g < (w.alloc tmp).heap.size:=by simp;omega
 refine ⟨g,h4,Nat.lt_of_lt_of_le hsz k2.size,(ho g h5).trans h6,fun k hk=>?_⟩
 by_cases hg:v.ownBlock=some g
 ·
  rcases k4 with k4 | ⟨_,k4⟩
  ·
   obtain ⟨s',c',rfl⟩:=aA k1;have hxk:=(List.getElem?_eq_some_iff.1 (hp k hk)).1;obtain ⟨_,_,g',_,e',hcl,_⟩:=bQ k1 (by simp;omega);subst e';have:g'=g:=Option.some.inj (k4.trans hg);subst this;exact hcl k _ (by rw [List.getElem?_append_left hxk];exact hp k hk)
  ·
   exact (World.cell?_of_block (w:=w.alloc tmp) (k4.block g hsz (by simp))).trans (ca (h7 k hk))
 ·
  exact (World.cell?_of_block (w:=w.alloc tmp) (k2.block g hsz (fun e=>hg e.symm))).trans (ca (h7 k hk))
end
def LU (w:World)(o:Col)(vs:List Value)(ns:List Nat)(i k:Nat):Prop :=
 ∀ j,j < vs.length->∃ zs:List Int,zs.length=ns[j]?.getD 0/\(j < i->zs=oL j (ns[j]?.getD 0))/\(j=i->zs.take k=oL i k)/\Own w o (10+j) 3 1 (vs[j]?.getD undef) (ns[j]?.getD 0) (bB zs)
def Ob (w:World)(o:Col)(L:Nat)(vs:List Value)(i:Nat):Prop :=
 ∃ ls:List Value,ls.length=vs.length/\(∀ j,j < i->ls[j]?=vs[j]?)/\Own w o 2 27 1 (.slice (some ⟨L,0,none⟩) vs.length vs.length) vs.length ls
def grew (i k j:Nat):Nat:=if j < i then 16 else if j=i then k else 0
def Wd (w:World)(o:Col)(L:Nat)(vs:List Value)(ns:List Nat)(i k:Nat):Prop :=
 (∀ j,j < vs.length->uT w o (10+j) (vs[j]?.getD undef) (oL j (ns[j]?.getD 0))) /\
  ∃ ls:List Value,ls.length=vs.length/\Own w o 2 27 1 (.slice (some ⟨L,0,none⟩) vs.length vs.length) vs.length ls /\
   ∀ j,j < vs.length->Own w o (10+j) 3 1 (ls[j]?.getD undef) (ns[j]?.getD 0+grew i k j) (bB (oL j (ns[j]?.getD 0) ++ OD j (grew i k j)))
theorem LU.step {w:World}{o:Col}{vs:List Value}{ns:List Nat}{i k g n cap:Nat}(h:LU w o vs ns i k)(hi:i < vs.length)(hv:vs[i]?.getD undef=.slice (some ⟨g,0,none⟩) n cap)(hn:ns[i]?.getD 0=n)(hk:k < n) :
  LU (w.setCell ⟨g,k,none⟩ (.int .i64 ((i:Int)*1000003+k))) o vs ns i (k+1)/\Turn o o (fun x=>x=10+i) w (w.setCell ⟨g,k,none⟩ (.int .i64 ((i:Int)*1000003+k))):=by
 obtain ⟨zs,h1,h2,h3,h4⟩:=h i hi;have hog:o g=10+i:=h4.2 g (by rw [hv];rfl);have T:Turn o o (fun x=>x=10+i) w (w.setCell ⟨g,k,none⟩ (.int .i64 ((i:Int)*1000003+k))) :=
  ⟨(aG.refl (fun k=>o k=10+i) w).setCell (p:=⟨g,k,none⟩) (fun _=>hog) _,fun _ _=>rfl⟩
 refine ⟨fun j hj=>?_,T⟩
 by_cases e:j=i
 ·
  subst e;rw [hv,hn] at h4;obtain ⟨h5,_⟩:=h4.1.stored k (.int .i64 ((j:Int)*1000003+k));refine ⟨zs.set k ((j:Int)*1000003+k),by simpa using h1,fun hlt=>absurd hlt (Nat.lt_irrefl _),fun _=>R4 (by omega) (h3 rfl),?_⟩;rw [hv,hn];refine ⟨by rw [show bB (zs.set k ((j:Int)*1000003+k))=(bB zs).set k (.int .i64 ((j:Int)*1000003+k)) by simp [List.map_set]];exact h5,fun b hb=>?_⟩;have:=h4.2 b hb;exact this
 ·
  obtain ⟨zs,h1,h2,h3,h4⟩:=h j hj;exact ⟨zs,h1,h2,fun e'=>absurd e' e,h4.turn T (by show ¬ 10+j=10+i;omega)⟩
theorem LU.next {w:World}{o:Col}{vs:List Value}{ns:List Nat}{i k:Nat}(h:LU w o vs ns i k)(hk:ns[i]?.getD 0=k):LU w o vs ns (i+1) 0:=fun j hj=>by
 obtain ⟨zs,h1,h2,h3,h4⟩:=h j hj;refine ⟨zs,h1,fun hlt=>?_,fun _=>by simp [oL],h4⟩
 by_cases e:j=i
 ·
  subst e;have:=h3 rfl
  rwa [List.take_of_length_le (by omega),<- hk] at this
 ·
  exact h2 (by omega)
theorem LU.turn {w w':World}{o o':Col}{C:Nat->Prop}{vs:List Value}{ns:List Nat}{i k:Nat}(h:LU w o vs ns i k)(T:Turn o o' C w w')(hC:∀ j,¬ C (10+j)):LU w' o' vs ns i k:=fun j hj=>by
 obtain ⟨zs,h1,h2,h3,h4⟩:=h j hj;exact ⟨zs,h1,h2,h3,h4.turn T (hC j)⟩
theorem LU.done {w:World}{o:Col}{L:Nat}{vs:List Value}{ns:List Nat}(h:LU w o vs ns vs.length 0)(hl:Ob w o L vs vs.length):Wd w o L vs ns 0 0:=by
 obtain ⟨ls,h1,h2,h3⟩:=hl;have hall:∀ j,j < vs.length->Own w o (10+j) 3 1 (vs[j]?.getD undef) (ns[j]?.getD 0) (bB (oL j (ns[j]?.getD 0))):=fun j hj=>by
  obtain ⟨zs,_,h5,_,h6⟩:=h j hj
  rwa [h5 hj] at h6
 refine ⟨fun j hj=>(hall j hj).aa5,ls,h1,h3,fun j hj=>?_⟩;rw [h2 j hj]
 simpa [grew,OD] using hall j hj
theorem Ob.step {w:World}{o:Col}{L i:Nat}{vs:List Value}(h:Ob w o L vs i)(hi:i < vs.length):Ob (w.setCell ⟨L,i,none⟩ (vs[i]?.getD undef)) o L vs (i+1)/\Turn o o (fun x=>x=2) w (w.setCell ⟨L,i,none⟩ (vs[i]?.getD undef)):=by
 obtain ⟨ls,h1,h2,h3⟩:=h;obtain ⟨h4,_⟩:=h3.1.stored i (vs[i]?.getD undef);have hL:=h3.2 L rfl;refine ⟨⟨ls.set i (vs[i]?.getD undef),by simpa using h1,fun j hj=>?_,h4,h3.2⟩,⟨(aG.refl (fun k=>o k=2) w).setCell (p:=⟨L,i,none⟩) (fun _=>hL) _,fun _ _=>rfl⟩⟩
 by_cases e:j=i
 ·
  subst e;rw [List.getElem?_set_self (by omega)];simp [hi]
 ·
  rw [List.getElem?_set_ne (Ne.symm e)];exact h2 j (by omega)
theorem Ob.turn {w w':World}{o o':Col}{C:Nat->Prop}{L i:Nat}{vs:List Value}(h:Ob w o L vs i)(T:Turn o o' C w w')(hC:¬ C 2):Ob w' o' L vs i:=by
 obtain ⟨ls,h1,h2,h3⟩:=h;exact ⟨ls,h1,h2,h3.turn T hC⟩
theorem Wd.next {w:World}{o:Col}{L:Nat}{vs:List Value}{ns:List Nat}{i:Nat}(h:Wd w o L vs ns i 16):Wd w o L vs ns (i+1) 0:=by
 obtain ⟨h1,ls,h2,h3,h4⟩:=h;refine ⟨h1,ls,h2,h3,fun j hj=>?_⟩;have e:grew (i+1) 0 j=grew i 16 j:=by
  rcases Nat.lt_trichotomy j i with h | h | h
  ·
   simp [grew,h,show j < i+1 by omega]
  ·
   simp [grew,h]
  ·
   simp [grew,show ¬ j < i+1 by omega,show ¬ j < i by omega,show ¬ j=i by omega]
 rw [e];exact h4 j hj
theorem Wd.step {w w2:World}{o:Col}{L:Nat}{vs ls:List Value}{ns:List Nat}{i k:Nat}{v':Value}{tmp:Obj}(h1:∀ j,j < vs.length->uT w o (10+j) (vs[j]?.getD undef) (oL j (ns[j]?.getD 0)))
  (h2:ls.length=vs.length) (h3:Own w o 2 27 1 (.slice (some ⟨L,0,none⟩) vs.length vs.length) vs.length ls)
  (h4:∀ j,j < vs.length->Own w o (10+j) 3 1 (ls[j]?.getD undef) (ns[j]?.getD 0+grew i k j) (bB (oL j (ns[j]?.getD 0) ++ OD j (grew i k j)))) (hi:i < vs.length)
  (k1:w2.ownsRow 0 3 1 v' (ns[i]?.getD 0+k+1) (bB (oL i (ns[i]?.getD 0) ++ OD i k) ++ [.int .i64 (-(i:Int)*1000003 - k - 1)])) (k2:(w.alloc tmp).grownBy w2 (ls[i]?.getD undef).ownBlock)
  (k4:v'.ownBlock=(ls[i]?.getD undef).ownBlock\/v'.ownBlock=some (w.alloc tmp).heap.size/\(w.alloc tmp).grownBy w2 none) :
  Own w2 (ext o w.heap.size (10+i)) 2 27 1 (.slice (some ⟨L,0,none⟩) vs.length vs.length) vs.length ls/\Wd (w2.setCell ⟨L,i,none⟩ v') (ext o w.heap.size (10+i)) L vs ns i (k+1) /\
   Turn o (ext o w.heap.size (10+i)) (fun x=>x=10+i\/x=2) w (w2.setCell ⟨L,i,none⟩ v'):=by
 have hown:=h4 i hi;have hgi:grew i k i=k:=by simp [grew]
 rw [hgi] at hown;have T:Turn o (ext o w.heap.size (10+i)) (fun x=>x=10+i) w w2 :=
  Turn.kT o (10+i) (((aG.refl (fun b=>(ls[i]?.getD undef).ownBlock=some b) w).alloc tmp).grown k2 (fun b hb _=>hb)) (fun b _ hb=>hown.2 b hb)
 have h3':=h3.turn T (by show ¬ 2=10+i;omega);have hL:(ext o w.heap.size (10+i)) L=2:=h3'.2 L rfl;have T2:Turn (ext o w.heap.size (10+i)) (ext o w.heap.size (10+i)) (fun x=>x=2) w2 (w2.setCell ⟨L,i,none⟩ v') :=
  ⟨(aG.refl (fun k=>(ext o w.heap.size (10+i)) k=2) w2).setCell (p:=⟨L,i,none⟩) (fun _=>hL) _,fun _ _=>rfl⟩
 obtain ⟨h6,_⟩:=h3'.1.stored i v';refine ⟨h3',⟨fun j hj=>?_,ls.set i v',by simpa using h2,⟨h6,h3'.2⟩,fun j hj=>?_⟩,(T.mono (fun _ h=>.inl h)).trans T2 (fun _ h=>.inr h)⟩
 ·
  refine uT.turn ?_ T2 (by show ¬ 10+j=2;omega)
  by_cases e:j=i
  ·
   subst e;refine (h1 j hj).app (xs:=bB (oL j (ns[j]?.getD 0) ++ OD j k)) (fun q hq=>?_) rfl k1 k2 k4 (fun _ hk=>dm hk);rw [qB] at hq;simp [oL,List.getElem?_append_left,hq]
  ·
   exact (h1 j hj).turn T (by show ¬ 10+j=10+i;omega)
 ·
  refine Own.turn ?_ T2 (by show ¬ 10+j=2;omega)
  by_cases e:j=i
  ·
   subst e;rw [List.getElem?_set_self (by omega)];have hg2:grew j (k+1) j=k+1:=by simp [grew]
   rw [hg2,RZ,<- List.append_assoc];refine ⟨by simpa [Nat.add_assoc] using k1,fun b hb=>?_⟩
   rcases k4 with k4 | ⟨k4,_⟩
   ·
    rw [Option.getD_some,k4] at hb;exact (dm (hown.1.lt b hb).2).trans (hown.2 b hb)
   ·
    rw [Option.getD_some,k4] at hb;have:=Option.some.inj hb;simp at this;exact dI (by omega)
  ·
   rw [List.getElem?_set_ne (Ne.symm e)];have hg2:grew i (k+1) j=grew i k j:=by simp [grew,e]
   rw [hg2];exact (h4 j hj).turn T (by show ¬ 10+j=10+i;omega)
theorem Oc {w:World}{o:Col}{c:Nat}{ov:Value}{xss:List (List Int)}(h:kX w o c ov xss)(hl:∀ l∈xss,l.length<=17600000000000) :
  ∃ (vs:List Value) (ns:List Nat) (o':Col),vs.length=xss.length/\(∀ j:Nat,ns[j]?.getD 0<=17600000000000)/\Own w o' 1 27 1 ov vs.length vs/\LU w o' vs ns 0 0/\∀ k,k < w.heap.size->o' k=2\/10<=o' k->o k=c:=by
 obtain ⟨vs,h1,h2,h3,h4,h5⟩:=h;refine ⟨vs,xss.map List.length,tL ov vs,h1,fun j=>?_,⟨h2.1,fun k hk=>by simp [tL,hk]⟩,fun j hj=>?_,fun k hk h10=>?_⟩
 ·
  by_cases hj:j < xss.length
  ·
   simpa [hj] using hl _ (List.getElem_mem hj)
  ·
   simp [show xss.length<=j by omega]
 ·
  have hj':j < xss.length:=by omega
  have e:(xss.map List.length)[j]?.getD 0=(xss[j]?.getD []).length:=by simp [hj']
  refine ⟨xss[j]?.getD [],e.symm,fun hlt=>absurd hlt (Nat.not_lt_zero _),fun _=>by simp [oL],?_⟩;rw [e];exact ⟨(h3 j hj').1,fun b hb=>KD hj hb (h5 j b hj' hb) (fun i j B hij hj=>h4 i j B hij (by omega))⟩
 ·
  have h10:10<=tL ov vs k:=by
   rcases h10 with h | h
   ·
    exfalso
    unfold tL at h
    repeat' (split at h)
    all_goals omega
   ·
    exact h
  obtain ⟨i,hi,hb⟩:=Oa h10;exact (h3 i (by omega)).2 k hb
theorem KE (n:Nat):(madeCells (Value.cells (.slice none 0 0)) (n*1)).toList=List.replicate n (.slice none 0 0):=by
 rw [Nat.mul_one];simp [madeCells,Value.cells,Nat.mod_one,List.map_const']
theorem Od {w:World}{o:Col}{c:Nat}{ov:Value}{xss:List (List Int)}(h:kX w o c ov xss)(hm:xss.length<=5864062014805)(hl:∀ l∈xss,l.length<=17600000000000) :
  Calls Tryz.prog 9 #[ov] w fun e w'=>e=.returned (.bool true)/\aG (fun k=>o k=c) w w':=by
 obtain ⟨vs,ns,o',hvs,hns,OV,A1,hoc⟩:=Oc h hl;obtain ⟨i0,hi,hz0,hz1,hz2⟩:=info_parts bU;obtain ⟨j0,ji,XK,jz1,XL⟩:=info_parts lK;rw [<- hvs] at hm;have HM:=af hm;have HNS:=af hns;have HOC:=af hoc;have Pv:(vs.length:Int)<=5864062014805:=by omega
 clear h hl hm hvs hns hoc;obtain ⟨w1,hr,hown,hg⟩:=run_make_full (P:=Tryz.prog) w w.heap.size 43 27 j0 _ 1 (by kernel_rfl) ji XK jz1 .i64 .i64 vs.length (by rw [XL];have:=HM.out;omega) (by have:=HM.out;unfold maxLen;omega) (Nat.le_refl _);obtain ⟨oa,oc,rfl⟩:=OV.slice;go_enter Tryz.func9,Tryz.ntmps9;go_wp2_with fail;obtain ⟨L,GN⟩:∃ L,L=w.heap.size:=⟨_,rfl⟩;have T1:Turn o' (ext o' w.heap.size 2) (fun _=>False) w w1:=Turn.kT o' 2 ((aG.refl (fun _=>False) w).grown hg (fun k hk _=>by cases hk)) (fun _ _ h=>h);have OV1:=OV.turn T1 (fun h=>h);have A11:=A1.turn T1 (fun _ h=>h);rw [KE] at hown;have L1:Ob w1 (ext o' w.heap.size 2) w.heap.size vs 0:=⟨List.replicate vs.length (.slice none 0 0),by simp,fun j hj=>absurd hj (Nat.not_lt_zero _),bI hown (fun _ _=>Nat.zero_le _),fun k hk=>dI (by rw [<- Option.some.inj hk];exact Nat.le_refl _)⟩;rw [<- GN] at L1 T1 OV1 A11 ⊢;have HT1:=af T1;have HL1:=af L1;have aa6:=af OV1;have HA1:=af A11;clear OV A1 hown hg hr T1 OV1 A11 L1 GN;generalize ext o' L 2=o1 at *
 go_loopw [4,5] (fun i _ wr=>∃ n:Nat,n<=vs.length/\i=.int .i64 n/\Own wr o1 1 27 1 (.slice oa vs.length oc) vs.length vs/\LU wr o1 vs ns n 0/\Ob wr o1 L vs n/\Turn o1 o1 (fun x=>x=2\/10<=x) w1 wr) (fun i _ _=>vs.length - (intOf i).toNat)
 case atStart=>exact ⟨0,Nat.zero_le _,rfl,aa6.out,HA1.out,HL1.out,Turn.refl _ _ _⟩
 case round =>
  clear HL1 aa6 HA1;obtain ⟨i,hi1,rfl,OV,A1,L1,T⟩:=hrel
  by_cases hlt:i < vs.length
  ·
   have OV0:=OV;obtain ⟨_,hcp,gA,_,rfl,hcA,_,_⟩:=bQ OV.1 (by omega);have cA:=hcA i (vs[i]?.getD undef) (by simp [hlt]);have bX:(i:Int) < vs.length:=by omega
   have PD:(vs.length:Int)<=oc:=by omega
   obtain ⟨zs,hz1,_,_,ZB⟩:=A1 i hlt;obtain ⟨ga,gc,hge⟩:=ZB.slice;have hnb:=HNS.out i;have xA:=af hge;obtain ⟨n,hn⟩:∃ n,ns[i]?.getD 0=n:=⟨_,rfl⟩;rw [hn] at xA hnb;rw [hge,hn] at cA;have u7:=af hn;have EU:=af OV0;have HA:=af A1;have HL:=af L1;have HT:=af T;have abQ:(n:Int)<=17600000000000:=by omega
   clear OV OV0 A1 L1 T hz1 ZB hge hn hcA;go_wp2_with fail
   go_loopw [5] (fun kk wq=>∃ k:Nat,k<=n/\kk=.int .i64 k/\Own wq o1 1 27 1 (.slice (some ⟨gA,0,none⟩) vs.length oc) vs.length vs/\LU wq o1 vs ns i k/\Ob wq o1 L vs i/\Turn o1 o1 (fun x=>x=2\/10<=x) w1 wq) (fun kk _=>n - (intOf kk).toNat)
   case atStart=>exact ⟨0,Nat.zero_le _,rfl,EU.out,HA.out,HL.out,HT.out⟩
   case round =>
    clear cA EU HA HL HT;obtain ⟨k,hk,rfl,OV,A1,L1,T⟩:=hrel;obtain ⟨_,_,gA',_,e,hcA,_,_⟩:=bQ OV.1 (by omega);cases e
    have cA:=hcA i (vs[i]?.getD undef) (by simp [hlt]);rw [xA.out] at cA;obtain ⟨ls,hls,_,hLo⟩:=L1;obtain ⟨_,_,gL,_,e,OE,R5,_⟩:=bQ hLo.1 (by omega);cases e
    have cL:=OE i (ls[i]?.getD undef) (by simp [show i < ls.length by omega]);have fL:=R5 i
    by_cases hkn:k < n
    ·
     obtain ⟨zs,hz1,_,_,ZB⟩:=A1 i hlt;rw [xA.out,u7.out] at ZB;rw [u7.out] at hz1;obtain ⟨_,hgc,g,_,rfl,hcg,hfg,_⟩:=bQ ZB.1 (by rw [aX];omega);have cg:=hcg k (iv (zs[k]?.getD 0)) (by simp [show k < zs.length by omega]);have fg:=hfg k;have Ze:(k:Int) < n:=by omega
     have aaG:(n:Int)<=gc:=by omega
     have EU:=af OV;have HA:=af A1;have HL:=af (show Ob wr o1 L vs i from ⟨ls,hls,‹_›,hLo⟩);have HT:=af T;clear OV A1 T ZB hz1 hcg hfg hcA OE R5 hLo;generalize zs[k]?.getD 0=z at *;go_wp2;go_roundw
     case rel =>
      obtain ⟨S1,S2⟩:=HA.out.step hlt xA.out u7.out hkn;exact ⟨k+1,by omega,by go_num,EU.out.turn S2 (by show ¬ 1=10+i;omega),S1,HL.out.turn S2 (by show ¬ 2=10+i;omega),HT.out.trans S2 (fun x hx=>.inr (by omega))⟩
     case measure=>simp [intOf];omega
    ·
     obtain rfl:k=n:=by omega
     have Ze:¬ (k:Int) < k:=by omega
     have EU:=af OV;have HA:=af (A1.next u7.out);have HL:=af (Ob.step (show Ob wr o1 L vs i from ⟨ls,hls,‹_›,hLo⟩) hlt);have HT:=af T;clear OV A1 T hcA OE R5 hLo;generalize ls[i]?.getD undef=lv at *;go_wp2;go_roundw
     case rel =>
      obtain ⟨S1,S2⟩:=HL.out;rw [xA.out] at S1 S2;exact ⟨i+1,by omega,by go_num,EU.out.turn S2 (by decide),HA.out.turn S2 (fun j h=>by omega),S1,HT.out.trans S2 (fun x hx=>.inl hx)⟩
     case measure=>simp [intOf];omega
  ·
   obtain rfl:i=vs.length:=by omega
   have EU:=af OV;have HAP:=af (A1.done L1);have HT:=af T;clear OV A1 L1 T;go_wp2_with fail
   go_loopw [6,7] (fun i _ wr=>∃ n:Nat,n<=vs.length/\i=.int .i64 n/\∃ o2,Own wr o2 1 27 1 (.slice oa vs.length oc) vs.length vs/\Wd wr o2 L vs ns n 0/\Turn o1 o2 (fun x=>x=2\/10<=x) w1 wr) (fun i _ _=>vs.length - (intOf i).toNat)
   case atStart=>exact ⟨0,Nat.zero_le _,rfl,o1,EU.out,HAP.out,HT.out⟩
   case round =>
    clear EU HAP HT;obtain ⟨i,hi1,rfl,o2,OV,A2,T⟩:=hrel
    by_cases hlt:i < vs.length
    ·
     have bX:(i:Int) < vs.length:=by omega
     have EU:=af OV;have HA:=af A2;have HT:=af T;clear OV A2 T;go_wp2_with fail
     go_loopw [7] (fun kk wq=>∃ k:Nat,k<=16/\kk=.int .i64 k/\∃ o2,Own wq o2 1 27 1 (.slice oa vs.length oc) vs.length vs/\Wd wq o2 L vs ns i k/\Turn o1 o2 (fun x=>x=2\/10<=x) w1 wq) (fun kk _=>16 - (intOf kk).toNat)
     case atStart=>exact ⟨0,Nat.zero_le _,rfl,o2,EU.out,HA.out,HT.out⟩
     case round =>
      clear EU HA HT;clear o2;obtain ⟨k,hk,rfl,o2,OV,A2,T⟩:=hrel
      by_cases acH:k < 16
      ·
       have hki:(k:Int) < 16:=by omega
       obtain ⟨h1,ls,h2,h3,h4⟩:=A2;obtain ⟨_,_,gL,_,e,OE,R5,_⟩:=bQ h3.1 (by omega);cases e
       have cL:=OE i (ls[i]?.getD undef) (by simp [show i < ls.length by omega]);have fL:=R5 i;have hrow:=(h4 i hlt).1;rw [show grew i k i=k by simp [grew]] at hrow;obtain ⟨sl,cl,hle⟩:=aA hrow;rw [hle] at hrow cL;have hnb:=HNS.out i;have HST:=af (fun (w2:World) (v':Value) (tmp:Obj)=>Wd.step (w:=wr) (w2:=w2) (v':=v') (tmp:=tmp) h1 h2 h3 h4 hlt);have uL:=af hle;have EU:=af OV;have HT:=af T;clear h1 h3 h4 OV T OE R5 hle;obtain ⟨n,hn⟩:∃ n,ns[i]?.getD 0=n:=⟨_,rfl⟩;rw [hn] at hrow cL hnb HST uL;clear hn;go_wp2_with (at_builtin;refine aU ?_);refine dR ?_;rw [uL.out] at HST;refine yM rfl _ _ 27 rfl 0 3 i0 _ 1 8 Tryz.underlying27 hi hz0 hz1 hz2 rfl (.slice sl (n+k) cl) (n+k) _ rfl (hrow.alloc (.cells #[.int .i64 (-(i:Int)*1000003 - k - 1)] 3)) (some ⟨wr.heap.size,0,none⟩) 1 1 [.int .i64 (-(i:Int)*1000003 - k - 1)] rfl rfl (fun h=>by cases h) (bC wr [.int .i64 (-(i:Int)*1000003 - k - 1)] 3) (by simp [Value.oneCell']) (by unfold maxLen;omega) (bA (by omega)) (Nat.zero_le _) ?_;intro v' w2 g1 g20 _ g4;have g2:(wr.alloc (.cells #[.int .i64 (-(i:Int)*1000003 - k - 1)] 3)).grownBy w2 (Value.slice sl (n+k) cl).ownBlock:=⟨g20.os,g20.tape,g20.output,g20.size,g20.block⟩;obtain ⟨S1,S2,S3⟩:=HST.out w2 v' _ g1 g2 g4;have HS2:=af S2;have Ym:=af S3;obtain ⟨_,_,gL,_,e,OE,R5,_⟩:=bQ S1.1 (by omega);cases e
       have cL2:=OE i (ls[i]?.getD undef) (by simp [show i < ls.length by omega]);rw [uL.out] at cL2;have fL2:=R5 i;obtain ⟨s',c',rfl⟩:=aA g1;clear g1 g20 g2 g4 S1 S2 S3 OE R5 hrow HST cL fL;go_wp2;go_roundw
       case rel=>exact ⟨k+1,by omega,by go_num,_,EU.out.turn Ym.out (by intro h;omega),HS2.out,HT.out.trans Ym.out (fun x hx=>by omega)⟩
       case measure=>simp [intOf];omega
      ·
       obtain rfl:k=16:=by omega
       have EU:=af OV;have HA:=af A2.next
       have HT:=af T;clear OV A2 T;go_wp2;go_roundw
       case rel=>exact ⟨i+1,by omega,by go_num,o2,EU.out,HA.out,HT.out⟩
       case measure=>simp [intOf];omega
    ·
     obtain rfl:i=vs.length:=by omega
     have Xr:aG (fun k=>o k=c) w wr:=HT1.out.mods.trans T.mods (fun _ _ h=>h.elim) (fun k hk h=>HOC.out k hk (by rw [<- HT1.out.same k hk];exact h));have HMO:=af Xr;have EU:=af OV;have HA:=af A2;clear Xr OV A2 T HT1;obtain ⟨W,hW⟩:∃ W,W=wr:=⟨_,rfl⟩;rw [<- hW] at HMO EU HA ⊢;clear hW;go_wp2_with fail
     go_loopw [8,9,10] (fun i _ _ wq=>∃ n:Nat,n<=vs.length/\i=.int .i64 n/\∃ m,wq=W.drewN m) (fun i _ _ _=>vs.length - (intOf i).toNat)
     case atStart=>exact ⟨0,Nat.zero_le _,rfl,0,rfl⟩
     case round =>
      obtain ⟨i,hi1,rfl,m,rfl⟩:=hrel
      by_cases hlt:i < vs.length
      ·
       obtain ⟨_,hcp,gA,_,rfl,hcA,_,_⟩:=bQ EU.out.1 (by omega);have cA:=hcA i (vs[i]?.getD undef) (by simp [hlt]);have bX:(i:Int) < vs.length:=by omega
       have PD:(vs.length:Int)<=oc:=by omega
       obtain ⟨h1,ls,h2,h3,h4⟩:=HA.out;obtain ⟨_,_,gL,_,e,OE,R5,_⟩:=bQ h3.1 (by omega);cases e
       have cL:=OE i (ls[i]?.getD undef) (by simp [show i < ls.length by omega]);have hrow:=(h4 i hlt).1;rw [show grew vs.length 0 i=16 by simp [grew,hlt]] at hrow;obtain ⟨sl,cl,hle⟩:=aA hrow;rw [hle] at hrow cL;obtain ⟨ga,gc,uH,hgc,hcg⟩:=h1 i hlt;rw [qB] at uH hgc hcg;rw [uH] at cA;have hnb:=HNS.out i;obtain ⟨n,hn⟩:∃ n,ns[i]?.getD 0=n:=⟨_,rfl⟩;rw [hn] at hrow cL hnb cA hgc hcg;obtain ⟨_,hcl,gl,_,rfl,hcells,_⟩:=bQ hrow (by simp [qB,V8]);have hV:∀ k,k < n->W.cell? ⟨gl,k,none⟩=some (.int .i64 ((i:Int)*1000003+k)):=fun k hk=>hcells k _ (by
        rw [List.getElem?_map,List.getElem?_append_left (by rw [qB];exact hk),Il i n k hk];rfl)
       have hM:∀ k,k < 16->W.cell? ⟨gl,n+k,none⟩=some (.int .i64 (-(i:Int)*1000003 - k - 1)):=fun k hk=>hcells (n+k) _ (by
        rw [List.getElem?_map,List.getElem?_append_right (by rw [qB];omega),qB,Nat.add_sub_cancel_left,V9 i 16 k hk];rfl)
       have HV:=af hV;have HMM:=af hM;have HCG:=af hcg;have abQ:(n:Int)<=17600000000000:=by omega
       have acI:(n:Int)+16<=cl:=by omega
       have aaG:(n:Int)<=gc:=by omega
       clear hV hM hcg h1 h3 h4 hcA OE R5 hcells hrow hle uH hn;go_wp2_with fail
       go_loopw [9] (fun kk wq=>∃ k:Nat,k<=n/\kk=.int .i64 k/\∃ m,wq=W.drewN m) (fun kk _=>n - (intOf kk).toNat)
       case atStart=>exact ⟨0,Nat.zero_le _,rfl,_,rfl⟩
       case round =>
        obtain ⟨k,hk,rfl,m,rfl⟩:=hrel
        by_cases hkn:k < n
        ·
         obtain ⟨g,rfl,_,_,hcc⟩:=HCG.out (by omega);have c1:=hcc k hkn;rw [show (oL i n)[k]?.getD 0=(i:Int)*1000003+k by rw [Il i n k hkn];rfl] at c1;have c2:=HV.out k hkn;have Ze:(k:Int) < n:=by omega
         have hkn2:(k:Int) < (n:Int)+16:=by omega
         clear hcc;go_wp2;go_roundw
         case rel=>exact ⟨k+1,by omega,by go_num,_,rfl⟩
         case measure=>simp [intOf];omega
        ·
         obtain rfl:k=n:=by omega
         have Ze:¬ (k:Int) < k:=by omega
         go_wp2_with fail
         go_loopw [10] (fun kk wq=>∃ j:Nat,j<=16/\kk=.int .i64 j/\∃ m,wq=W.drewN m) (fun kk _=>16 - (intOf kk).toNat)
         case atStart=>exact ⟨0,by omega,rfl,_,rfl⟩
         case round =>
          obtain ⟨j,hj,rfl,m,rfl⟩:=hrel
          by_cases abR:j < 16
          ·
           have c3:=HMM.out j abR;have hki:(j:Int) < 16:=by omega
           have acJ:(k:Int)+j < (k:Int)+16:=by omega
           have acK:(0:Int)<=(k:Int)+j:=by omega
           go_wp2;go_quiet (fail);go_wp2;go_roundw
           case rel=>exact ⟨j+1,by omega,by go_num,_,rfl⟩
           case measure=>simp [intOf];omega
          ·
           obtain rfl:j=16:=by omega
           go_wp2;go_roundw
           case rel=>exact ⟨i+1,by omega,by go_num,_,rfl⟩
           case measure=>simp [intOf];omega
      ·
       obtain rfl:i=vs.length:=by omega
       go_wp2;go_ret;exact ⟨rfl,SY HMO.out⟩
theorem wX (w:World)(zs:List Int)(g cap:Nat)(ao:Option Addr)(zc:Nat)(hz:zs.length<=17600000000000)(h:KU w g zs.length cap zs)(hv:Has w (.slice ao zs.length zc) (bB zs)) :
  Calls Tryz.prog 7 #[.slice (some ⟨g,0,none⟩) zs.length cap,.slice ao zs.length zc] w fun e w'=>e=.returned (.bool true)/\∃ m,w'=w.drewN m:=by
 have HZ:=af hz;have hzi:(zs.length:Int)+4<=4611686018427387904:=by omega
 have hs:=h.has (c:=cap) (by have:=h.2.1;omega);obtain ⟨_,hcap,hg,_,hmk⟩:=h;have HM:=af hmk;have fu:(zs.length:Int)+4<=cap:=by omega
 clear hz hmk;go_enter Tryz.func7,Tryz.ntmps7;go_wp2_with fail;refine (gQ hs hv (by have:=HZ.out;omega)).mono ?_;rintro e w1 ⟨rfl,m1,rfl⟩;go_wp2_with fail
 go_loopw [6] (fun i wr=>∃ k:Nat,zs.length<=k/\k<=zs.length+4/\i=.int .i64 k/\∃ m,wr=w.drewN m) (fun i _=>zs.length+4 - (intOf i).toNat)
 case atStart=>exact ⟨zs.length,Nat.le_refl _,by omega,rfl,_,rfl⟩
 case round =>
  obtain ⟨k,hk0,hk,rfl,m,rfl⟩:=hrel
  by_cases hlt:k < zs.length+4
  ·
   have hc:=HM.out k hk0 hlt;have bX:(k:Int) < (zs.length:Int)+4:=by omega
   go_wp2;go_roundw
   case rel=>exact ⟨k+1,by omega,by omega,by go_num,_,rfl⟩
   case measure=>simp [intOf];omega
  ·
   have bX:¬ (k:Int) < (zs.length:Int)+4:=by omega
   go_wp2;go_ret;exact ⟨rfl,_,rfl⟩
theorem qC {w:World}{v:Value}{zs:List Int}(hz:zs.length<=17600000000000)(hv:Has w v (bB zs)) :
  Calls Tryz.prog 4 #[v] w fun e w'=>∃ g cap,e=.returned (.slice (some ⟨g,0,none⟩) zs.length cap) /\
   w'.ownsRow w.heap.size 3 1 (.slice (some ⟨g,0,none⟩) (zs.length+4) cap) (zs.length+4) ((zs ++ List.replicate 4 (-7770777)).map (Value.int .i64))/\Below w.heap.size w w':=by
 obtain ⟨ao,cap,rfl⟩:=hv.slice;obtain ⟨h1,h2⟩:=hv.news;rw [aX] at h1 ⊢;exact P7 w zs ao cap hz h1 h2
section
variable {o:Col} {w:World} {c:Nat}
def marks:List Int:=List.replicate 4 (-7770777)
theorem Oe {w:World}{base e n m:Nat}{sa:Option Addr}{cap:Nat}{xs:List Value}(h:w.ownsRow base e 1 (.slice sa n cap) n xs)(hp:0 < n)(hm:m<=n):w.ownsRow base e 1 (.slice sa m cap) m (xs.take m):=by
 have hl:=h.1;refine ⟨by simp at hl ⊢;omega,?_⟩
 rcases h.2 with ⟨h1,h2⟩ | ⟨g,cap',cur,hv,hb,hg,hnc,hmx,hcs,ht⟩
 ·
  omega
 ·
  cases hv
  refine .inr ⟨g,cap,cur,rfl,hb,hg,by omega,hmx,hcs,?_⟩;rw [<- ht,List.take_take]
  congr 1
  omega
theorem Own.R6 {g cap:Nat}{zs:List Int}(h:Own w o c 3 1 (.slice (some ⟨g,0,none⟩) (zs.length+4) cap) (zs.length+4) (bB (zs ++ marks))):Own w o c 3 1 (.slice (some ⟨g,0,none⟩) zs.length cap) zs.length (bB zs):=by
 refine ⟨?_,fun k hk=>h.2 k hk⟩;have:=Oe (m:=zs.length) h.1 (by omega) (by omega)
 rwa [show (bB (zs ++ marks)).take zs.length=bB zs by simp [bB]] at this
end
structure Duo (w:World) (o:Col) (b:Nat) (g:av) (caps:List Int) (M K B:Nat) (qs:bR) (tb:Nat->Nat) (H:iH) (r:bH):Prop where
 G:BS g caps
 sz:M<=3000000000000/\K<=3000000000000/\B<=3000000000000
 two:∃ J v hs gv tv sv,fw w o 1 b g caps M J qs tb r v/\(∀ k,J k<=B)/\fA w o 10000 g caps K r hs gv H tv sv
def LV (k:Nat):Prop:=bV 1 k\/eu 10000 k
section
variable {w:World} {o:Col} {b M K B:Nat} {g:av} {caps:List Int} {qs:bR} {tb:Nat->Nat} {H:iH} {r:bH}
theorem Duo.turn {w':World}{o':Col}{C:Nat->Prop}(h:Duo w o b g caps M K B qs tb H r)(T:Turn o o' C w w')(hC:∀ k,C k->¬ bV 1 k/\¬ jY 10000 k):Duo w' o' b g caps M K B qs tb H r:=by
 obtain ⟨J,v,hs,gv,tv,sv,h1,h2,h3⟩:=h.two;exact ⟨h.G,h.sz,J,v,hs,gv,tv,sv,h1.turn T fun k hk=>(hC k hk).1,h2,h3.turn T fun k hk=>(hC k hk).2⟩
theorem Duo.quiet {w':World}{o':Col}(h:Duo w o b g caps M K B qs tb H r)(T:Turn o o' (fun _=>False) w w'):Duo w' o' b g caps M K B qs tb H r:=h.turn T fun _ h=>h.elim
theorem EW {J:Nat->Nat}(hJ:∀ k,J k<=B)(d:Nat):jg g M J d<=B+M:=by
 unfold jg
 split
 ·
  exact Nat.le_trans (hJ _) (Nat.le_add_right _ _)
 ·
  exact Nat.le_add_left _ _
theorem vN {J:Nat->Nat}{v:bO}(h:fw w o 1 b g caps M J qs tb r v)(hJ:∀ k,J k<=B):H8 g M B r:=⟨h.ok,fun d=>Nat.le_trans (h.len d) (EW hJ d)⟩
theorem Duo.rdy (h:Duo w o b g caps M K B qs tb H r):Calls Tryz.prog 33 #[.pointer (some ⟨b,0,none⟩)] w (kr w (jO g caps r))/\Calls Tryz.prog 34 #[.agg (dP g caps H).toArray] w (kr w (jO g caps r)):=by
 obtain ⟨J,v,hs,gv,tv,sv,h1,h2,h3⟩:=h.two;obtain ⟨z1,z2,z3⟩:=h.sz;exact ⟨vJ h1.mem h.G.linked h.G.caps h1.ok (fun d=>by have:=EW (g:=g) (M:=M) h2 d;omega),rD h3 h.G h1.ok (fun d=>by have:=h3.gone d;have:=(vN h1 h2).len d;omega)⟩
theorem Duo.halt (h:Duo w o b g caps M K B qs tb H r):Calls Tryz.prog 23 #[.pointer (some ⟨b,0,none⟩)] w (fq (.int .u8 (uS g caps r)) w)/\Calls Tryz.prog 35 #[.agg (dP g caps H).toArray] w (fq (.int .u8 (uS g caps r)) w):=by
 obtain ⟨J,v,hs,gv,tv,sv,h1,h2,h3⟩:=h.two;obtain ⟨z1,z2,z3⟩:=h.sz;exact ⟨Db h1.mem h.G.linked h.G.caps h1.ok (fun d=>by have:=EW (g:=g) (M:=M) h2 d;omega),NJ h3 h.G h1.ok (fun d=>by have:=h3.gone d;have:=(vN h1 h2).len d;omega)⟩
theorem Duo.failed (h:Duo w o b g caps M K B qs tb H r):Calls Tryz.prog 24 #[.pointer (some ⟨b,0,none⟩)] w (pW (.int .i64 (iK r)) w)/\w.cell? ⟨H.fail,0,none⟩=some (.int .i64 (iK r)):=by
 obtain ⟨J,v,hs,gv,tv,sv,h1,h2,h3⟩:=h.two;exact ⟨zu h1.mem,h3.fail.cell 0 _ rfl⟩
theorem Duo.qD {fl tc ac ec nc uc cc dz:Nat}{aa ae ai ao cv ta sa':Option Addr}(h:Duo w o b g caps M K B qs tb ⟨aa,ac,ae,ec,ai,nc,ao,uc,cv,cc,ta,tc,sa',dz,fl⟩ r):w.cell? ⟨fl,0,none⟩=some (.int .i64 (iK r)):=h.failed.2
theorem Duo.out (h:Duo w o b g caps M K B qs tb H r)(k:Int):Calls Tryz.prog 25 #[.pointer (some ⟨b,0,none⟩),.int .i64 k] w (kr w (yA g r k))/\Calls Tryz.prog 36 #[.agg (dP g caps H).toArray,.int .i64 k] w (EM w (yA g r k))/\(yA g r k).length<=17000000000000:=by
 obtain ⟨J,v,hs,gv,tv,sv,h1,h2,h3⟩:=h.two;obtain ⟨z1,z2,z3⟩:=h.sz;have hl:=(vN h1 h2).len;refine ⟨Ht k h1.mem (fun d _=>by have:=hl d;omega),NM h3 h.G.caps k,?_⟩;unfold yA
 split
 ·
  unfold Yh;have:=hl (g.edges.length+g.ins.length+k.toNat);omega
 ·
  exact Nat.zero_le _
theorem Duo.count (h:Duo w o b g caps M K B qs tb H r):Calls Tryz.prog 37 #[.pointer (some ⟨b,0,none⟩)] w (kr w (pG g r))/\Calls Tryz.prog 38 #[.agg (dP g caps H).toArray] w (kr w (pG g r))/\(pG g r).length<=128:=by
 obtain ⟨J,v,hs,gv,tv,sv,h1,h2,h3⟩:=h.two;obtain ⟨z1,z2,z3⟩:=h.sz;refine ⟨J9 h1.mem (fun d=>by have:=EW (g:=g) (M:=M) h2 d;omega),Kb h3 h.G.caps (fun d=>by have:=h3.gone d;have:=(vN h1 h2).len d;omega),?_⟩;unfold pG;rw [List.length_map,List.length_range];have:=h3.most.2;unfold aR at this;omega
theorem Duo.fired (h:Duo w o b g caps M K B qs tb H r):Calls Tryz.prog 39 #[.pointer (some ⟨b,0,none⟩)] w (kr w (pI g r))/\Calls Tryz.prog 40 #[.agg (dP g caps H).toArray] w (kr w (pI g r))/\(pI g r).length<=128:=by
 obtain ⟨J,v,hs,gv,tv,sv,h1,h2,h3⟩:=h.two;refine ⟨J8 h1.mem,Ka h3,?_⟩;unfold pI;rw [List.length_map,List.length_range];have:=h3.most.1;omega
theorem Duo.few (h:Duo w o b g caps M K B qs tb H r):(jO g caps r).length<=128/\g.outs.length<=128:=by
 obtain ⟨J,v,hs,gv,tv,sv,h1,h2,h3⟩:=h.two;have h4:=yC g caps r;have h5:=h3.most;unfold aR at h5;refine ⟨?_,by omega⟩;unfold jO;rw [List.length_map];omega
structure Half (w:World) (o:Col) (b:Nat) (g:av) (caps:List Int) (M M' K B B':Nat) (qs:bR) (tb:Nat->Nat) (H:iH) (r r':bH):Prop where
 G:BS g caps
 sz:M<=3000000000000/\K<=3000000000000/\B<=3000000000000
 old:H8 g M B r
 two:∃ J v hs gv tv sv,fw w o 1 b g caps M' J qs tb r' v/\(∀ k,J k<=B')/\fA w o 10000 g caps K r hs gv H tv sv
variable {M' B':Nat} {r':bH}
theorem Half.turn {w':World}{o':Col}{C:Nat->Prop}(h:Half w o b g caps M M' K B B' qs tb H r r')(T:Turn o o' C w w')(hC:∀ k,C k->¬ bV 1 k/\¬ jY 10000 k):Half w' o' b g caps M M' K B B' qs tb H r r':=by
 obtain ⟨J,v,hs,gv,tv,sv,h1,h2,h3⟩:=h.two;exact ⟨h.G,h.sz,h.old,J,v,hs,gv,tv,sv,h1.turn T fun k hk=>(hC k hk).1,h2,h3.turn T fun k hk=>(hC k hk).2⟩
theorem Half.quiet {w':World}{o':Col}(h:Half w o b g caps M M' K B B' qs tb H r r')(T:Turn o o' (fun _=>False) w w'):Half w' o' b g caps M M' K B B' qs tb H r r':=h.turn T fun _ h=>h.elim
theorem zD {k:Nat}(h:bV 1 k):¬ jY 10000 k:=by unfold bV at h;unfold jY;omega
theorem Im {k:Nat}(h:eu 10000 k):¬ bV 1 k:=by unfold eu at h;unfold bV;omega
def wY (w:World)(o:Col)(b:Nat)(g:av)(caps:List Int)(M M' K B B':Nat)(qs:bR)(tb:Nat->Nat)(H:iH)(r r':bH)(y:Value)(e:Ending)(w':World):Prop :=
 ∃ o',e=.returned y/\Turn o o' (bV 1) w w'/\Half w' o' b g caps M M' K B B' qs tb H r r'
def EX (w:World)(o:Col)(b:Nat)(g:av)(caps:List Int)(M' K' B':Nat)(qs:bR)(tb:Nat->Nat)(H:iH)(r':bH)(y:Value)(e:Ending)(w':World):Prop :=
 ∃ o',e=.returned y/\Turn o o' (eu 10000) w w'/\Duo w' o' b g caps M' K' B' qs tb H r'
theorem EY (h:Duo w o b g caps M K B qs tb H r){y:Value}{e:Ending}{w':World}{J:Nat->Nat}{v:bO}{hs gv:Nat->List Int}{tv:Nat->wU}{sv:Nat->rT}(h1:fw w o 1 b g caps M J qs tb r v)(h2:∀ k,J k<=B)(h3:fA w o 10000 g caps K r hs gv H tv sv)(hr:A8 w o 1 b g caps M' J qs tb r' y e w') :
  wY w o b g caps M M' K B B qs tb H r r' y e w':=by
 obtain ⟨o',v',rfl,T,h4⟩:=hr;exact ⟨o',rfl,T,h.G,h.sz,vN h1 h2,J,v',hs,gv,tv,sv,h4,h2,h3.turn T fun _=>zD⟩
theorem EZ {K':Nat}(h:Half w o b g caps M M' K B B' qs tb H r r')(hz:M'<=3000000000000/\K'<=3000000000000/\B'<=3000000000000){y:Value}{e:Ending}{w':World}{J:Nat->Nat}{v:bO}(h1:fw w o 1 b g caps M' J qs tb r' v)(h2:∀ k,J k<=B')(hr:Bn w o 10000 g caps K' H r' y e w') :
  EX w o b g caps M' K' B' qs tb H r' y e w':=by
 obtain ⟨o',hs',SF,tv',Py,rfl,T,h4⟩:=hr;exact ⟨o',rfl,T,h.G,hz,J,v,hs',SF,tv',Py,h1.turn T fun _=>Im,h2,h4⟩
theorem Duo.aa7 (h:Duo w o b g caps M K B qs tb H r)(k:Int):Calls Tryz.prog 26 #[.pointer (some ⟨b,0,none⟩),.int .i64 k] w (wY w o b g caps M (M+1) K B B qs tb H r (iG g caps r k).1 (.bool (iG g caps r k).2)):=by
 obtain ⟨J,v,hs,gv,tv,sv,h1,h2,h3⟩:=h.two;obtain ⟨z1,z2,z3⟩:=h.sz;exact (wM k h1 h.G (by omega)).mono fun e w' hr=>EY h h1 h2 h3 hr
theorem Half.aa8 {k:Int}(h:Half w o b g caps M (M+1) K B B qs tb H r (iG g caps r k).1)(hz:M+1<=3000000000000/\K+1<=3000000000000/\B<=3000000000000):Calls Tryz.prog 27 #[.agg (dP g caps H).toArray,.int .i64 k] w (EX w o b g caps (M+1) (K+1) B qs tb H (iG g caps r k).1 (.bool (iG g caps r k).2)):=by
 obtain ⟨J,v,hs,gv,tv,sv,h1,h2,h3⟩:=h.two;exact (yB h3 h.G h.old.ok (by omega) (fun d=>by have:=h3.gone d;have:=h.old.len d;omega) k).mono fun e w' hr=>EZ h hz h1 h2 hr
theorem Duo.aa9 {c n cap:Nat}{aq:Option Addr}{l:List Int}(h:Duo w o b g caps M K B qs tb H r)(hl:Ints w o c (.slice aq n cap) l)(hc:¬ bV 1 c)(hf:∀ x∈l,Fits x)(hz:l.length<=1000000000000):Calls Tryz.prog 28 #[.pointer (some ⟨b,0,none⟩),.slice aq n cap] w (wY w o b g caps M (M+l.length) K B B qs tb H r (iF g caps l r).1 (.int .i64 (iF g caps l r).2)):=by
 obtain ⟨J,v,hs,gv,tv,sv,h1,h2,h3⟩:=h.two;obtain ⟨z1,z2,z3⟩:=h.sz;exact (RB h1 h.G hl hc hf (by omega)).mono fun e w' hr=>EY h h1 h2 h3 hr
theorem Half.abb {c n cap:Nat}{aq:Option Addr}{l:List Int}(h:Half w o b g caps M (M+l.length) K B B qs tb H r (iF g caps l r).1)(hl:Ints w o c (.slice aq n cap) l)(hc:¬ eu 10000 c)(hf:∀ x∈l,Fits x)(hl1:l.length<=1000000000000)(hz:M+l.length<=3000000000000/\K+l.length<=3000000000000/\B<=3000000000000):Calls Tryz.prog 29 #[.agg (dP g caps H).toArray,.slice aq n cap] w (EX w o b g caps (M+l.length) (K+l.length) B qs tb H (iF g caps l r).1 (.int .i64 (iF g caps l r).2)):=by
 obtain ⟨J,v,hs,gv,tv,sv,h1,h2,h3⟩:=h.two;exact (NU h3 h.G h.old (by omega) hl hc hf).mono fun e w' hr=>EZ h hz h1 h2 hr
theorem Duo.Wi (h:Duo w o b g caps M K B qs tb H r)(k:Int):Calls Tryz.prog 22 #[.pointer (some ⟨b,0,none⟩),.int .i64 k] w (wY w o b g caps M (M+131072) K B B qs tb H r (bS g caps (min k 4096).toNat r).1 (.int .i64 (bS g caps (min k 4096).toNat r).2)):=by
 obtain ⟨J,v,hs,gv,tv,sv,h1,h2,h3⟩:=h.two;obtain ⟨z1,z2,z3⟩:=h.sz;exact (Bl k h1 h.G (by omega)).mono fun e w' hr=>EY h h1 h2 h3 hr
theorem Half.Wj {k:Int}(h:Half w o b g caps M (M+131072) K B B qs tb H r (bS g caps (min k 4096).toNat r).1)(hz:M+131072<=3000000000000/\K+131072<=3000000000000/\B<=3000000000000):Calls Tryz.prog 30 #[.agg (dP g caps H).toArray,.int .i64 k] w (EX w o b g caps (M+131072) (K+131072) B qs tb H (bS g caps (min k 4096).toNat r).1 (.int .i64 (bS g caps (min k 4096).toNat r).2)):=by
 obtain ⟨J,v,hs,gv,tv,sv,h1,h2,h3⟩:=h.two;exact (H9 h3 h.G h.old (by omega) k).mono fun e w' hr=>EZ h hz h1 h2 hr
def R7 (g:av)(k:Int)(l:List Int)(r:bH):bH:=if 0<=k/\k < g.ins.length then Dq g k.toNat l r else r
def R8 (g:av)(k:Int):Int:=if 0<=k/\k < g.ins.length then 0 else 1
theorem Duo.abd {c n cap:Nat}{aq:Option Addr}{l:List Int}(h:Duo w o b g caps M K B qs tb H r)(k:Int)(hl:Ints w o c (.slice aq n cap) l)(hc:¬ bV 1 c)(hf:∀ x∈l,Fits x)(hz:l.length<=1000000000000):Calls Tryz.prog 31 #[.pointer (some ⟨b,0,none⟩),.int .i64 k,.slice aq n cap] w (wY w o b g caps M M K B (B+l.length) qs tb H r (R7 g k l r) (.int .i64 (R8 g k))):=by
 obtain ⟨J,v,hs,gv,tv,sv,h1,h2,h3⟩:=h.two;obtain ⟨z1,z2,z3⟩:=h.sz;unfold R7 R8
 by_cases hk:0<=k/\k < (g.ins.length:Int)
 ·
  rw [if_pos hk,if_pos hk];obtain ⟨i,hi,rfl⟩:∃ i:Nat,i < g.ins.length/\k=i:=⟨k.toNat,by omega,by omega⟩;rw [Int.toNat_natCast];refine (Rp h1 h.G hi hl hc hf (by have:=h2 i;omega)).mono ?_;rintro e w' ⟨o',rfl,T,h4⟩;refine ⟨o',rfl,T,h.G,h.sz,vN h1 h2,_,v,hs,gv,tv,sv,h4,fun j=>?_,h3.turn T fun _=>zD⟩
  by_cases e:j=i
  ·
   subst e;rw [upd_same];have:=h2 j;omega
  ·
   rw [aO e];have:=h2 j;omega
 ·
  rw [if_neg hk,if_neg hk];refine (Ro h1.mem k _ hk).mono ?_;rintro e w' ⟨rfl,rfl⟩;exact ⟨o,rfl,Turn.refl _ _ _,h.G,h.sz,vN h1 h2,J,v,hs,gv,tv,sv,h1,fun j=>by have:=h2 j;omega,h3⟩
theorem Half.abe {c n cap:Nat}{aq:Option Addr}{l:List Int}{k:Int}(h:Half w o b g caps M M K B (B+l.length) qs tb H r (R7 g k l r))(hl:Ints w o c (.slice aq n cap) l)(hc:¬ eu 10000 c)(hl1:l.length<=1000000000000)(hz:B+l.length<=3000000000000):Calls Tryz.prog 32 #[.agg (dP g caps H).toArray,.int .i64 k,.slice aq n cap] w (fun e w'=>∃ o',e=.returned (.int .i64 (R8 g k))/\Turn o o' (eu 10000) w w'/\Duo w' o' b g caps M K (B+l.length) qs tb H (R7 g k l r)):=by
 obtain ⟨J,v,hs,gv,tv,sv,h1,h2,h3⟩:=h.two;obtain ⟨z1,z2,z3⟩:=h.sz;have hZ:M<=3000000000000/\K<=3000000000000/\B+l.length<=3000000000000:=⟨z1,z2,hz⟩;unfold R7 R8 at *
 by_cases hk:0<=k/\k < (g.ins.length:Int)
 ·
  rw [if_pos hk] at h h1 ⊢;rw [if_pos hk];obtain ⟨i,hi,rfl⟩:∃ i:Nat,i < g.ins.length/\k=i:=⟨k.toNat,by omega,by omega⟩;rw [Int.toNat_natCast] at h h1 ⊢;exact (NP h3 h.G.caps hi hl (fun d=>by have:=h3.gone d;have:=h.old.len d;omega)).mono fun e w' hr=>EZ h hZ h1 h2 hr
 ·
  rw [if_neg hk] at h h1 ⊢;rw [if_neg hk];refine (NN w g caps H k _ hk).mono ?_;rintro e w' ⟨rfl,hb⟩;have T:=Turn.of_below o 12100 hb;exact ⟨_,rfl,T.mono (fun _ h=>h.elim),h.G,hZ,J,v,hs,gv,tv,sv,h1.turn T (fun _ h=>h.elim),h2,h3.turn T (fun _ h=>h.elim)⟩
end
theorem Og {w:World}{o:Col}{c n:Nat}{vs:List Value}{xss:List (List Int)}(hl:vs.length=xss.length)(hn:n=w.heap.size)(ho:o n=c)(hr:∀ k,k < xss.length->Own w o c 3 1 (vs[k]?.getD undef) (xss[k]?.getD []).length (bB (xss[k]?.getD [])))
  (hd:∀ i j B,i < j->j < xss.length->(vs[i]?.getD undef).ownBlock=some B->(vs[j]?.getD undef).ownBlock≠some B) (hs:vs.length<=1000):kX (w.alloc (.cells vs.toArray 27)) o c (.slice (some ⟨n,0,none⟩) vs.length vs.length) xss:=by
 subst hn;have T:Turn o o (fun _=>False) w (w.alloc (.cells vs.toArray 27)):=⟨(aG.refl _ _).alloc _,fun _ _=>rfl⟩;refine ⟨vs,hl,⟨⟨by simp,.inr ⟨w.heap.size,vs.length,vs.toArray,rfl,Nat.zero_le _,heap_alloc_new w _,Nat.le_refl _,by unfold maxLen;omega,by simp,by simp [List.take_of_length_le]⟩⟩,fun k hk=>?_⟩,fun k hk=>(hr k hk).turn T (fun h=>h),hd,fun i B hi hB e=>?_⟩
 ·
  obtain rfl:=Option.some.inj hk;exact ho
 ·
  obtain rfl:=Option.some.inj e;exact absurd ((hr i hi).1.lt _ hB).2 (Nat.lt_irrefl _)
def R9 (w:World)(o:Col)(c:Nat)(e:Ending)(w':World):Prop:=e=.returned (.bool true)/\∃ o',Turn o o' (fun x=>x=c) w w'
theorem yF {w:World}{o:Col}{c n:Nat}{sa:Option Addr}{sc:Nat}{l:List Int}(h:Own w o c 3 1 (.slice sa n sc) n (bB l))(hl:n<=17600000000000) :
  Calls Tryz.prog 9 #[.slice (some ⟨w.heap.size,0,none⟩) 1 1] (w.alloc (.cells #[.slice sa n sc] 27)) (R9 w o c):=by
 have hn:n=l.length:=by have:=h.len;rw [aX] at this;omega
 subst hn;have T1:=Turn.of_below o c (au w (.cells #[.slice sa l.length sc] 27));have hO:=Og (w:=w) (o:=ext o w.heap.size c) (c:=c) (n:=w.heap.size) (vs:=[.slice sa l.length sc]) (xss:=[l]) rfl rfl (dI (Nat.le_refl _)) (fun k hk=>by
  obtain rfl:k=0:=by simpa using hk
  exact h.dO (fun j hj=>(dm (h.1.lt j hj).2).trans (h.2 j hj))) (fun i j B hij hj=>by simp at hj;omega) (by simp)
 refine (Od hO (by simp) (fun x hx=>by rw [List.mem_singleton.1 hx];exact hl)).mono ?_;rintro e w' ⟨rfl,hm⟩;exact ⟨rfl,_,(T1.mono (fun _ h=>h.elim)).trans ⟨hm,fun _ _=>rfl⟩ (fun _ h=>h)⟩
theorem uD {w:World}{o:Col}{c n N:Nat}{sa:Option Addr}{sc:Nat}{l:List Int}(h:Own w o c 3 1 (.slice sa n sc) n (bB l))(hl:n<=17600000000000)(hg:∀ k,(Value.slice sa n sc).ownBlock=some k->N<=k)(hN:N<=w.heap.size) :
  Calls Tryz.prog 9 #[.slice (some ⟨w.heap.size,0,none⟩) 1 1] (w.alloc (.cells #[.slice sa n sc] 27)) (fun e w'=>e=.returned (.bool true)/\Below N w w'):=by
 refine (yF (o:=fun k=>if k < N then 0 else 1) (c:=1) (h.dO fun k hk=>if_neg (Nat.not_lt.2 (hg k hk))) hl).mono ?_;rintro e w' ⟨rfl,o',T⟩;exact ⟨rfl,T.below hN fun k hk=>by simp [hk]⟩
end Go.Proofs.YtepjkmnhmcjbkaaGreat
