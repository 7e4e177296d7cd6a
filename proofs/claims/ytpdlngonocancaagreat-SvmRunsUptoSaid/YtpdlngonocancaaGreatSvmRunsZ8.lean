import Derived.Test.YtpdlngonocancaaGreatSvmRunsZ7
import Derived.Deep.CutBlock
import Derived.Test.YtpdlngonocancaaGreatSvmRunsZ3
import Derived.Test.YtpdlngonocancaaGreatSvmRunsZ4
import Derived.Test.YtpdlngonocancaaGreatSvmRunsZ2
set_option linter.unusedVariables false
set_option linter.unusedSimpArgs false
set_option maxRecDepth 100000
set_option maxHeartbeats 20000000
namespace Go.Proofs.YtpdlngonocancaaGreat
open Go.RowKit
theorem Kk:(Tryz.prog.info? 74).map (fun i=>(i.zero,i.size,i.bytes))=some (some (.pointer none),1,8):=by kernel_rfl
theorem Sw:(Tryz.prog.info? 58).map (fun i=>(i.zero,i.size,i.bytes))=some (some opZ,3,24):=by kernel_rfl
theorem Kl:(Tryz.prog.info? 73).map (fun i=>(i.zero,i.size,i.bytes))=some (some (.agg #[.int .i64 0,.int .i64 0,.int .i64 0,.int .i64 0]),4,32):=by kernel_rfl
theorem vV (n:Nat)(hn:n≤100000)(w:World):(Instr.makeSlice 42 (.int .i64 (n:Int)) (.int .i64 (n:Int))).run Tryz.prog w=.ok (.slice (some ⟨w.heap.size,0,none⟩) n n) (w.alloc (.cells (aV (List.replicate n 0)).toArray 3)):=by
 obtain ⟨i0,hi,hz0,hz1,hz2⟩:=info_parts bJ;have h:=run_make (P:=Tryz.prog) (w:=w) 42 3 i0 _ Tryz.underlying42 hi hz0 .i64 .i64 n n (by omega) (Int.le_refl _) (by rw [hz2];omega) (by omega);have e:madeCells (Value.cells (.int .i64 0)) (n*1)=(aV (List.replicate n 0)).toArray:=by rw [← lu n]
 rw [h,Int.toNat_natCast,hz1,e]
theorem vW (n:Nat)(hn:n≤100000)(w:World):(Instr.makeSlice 63 (.int .i64 (n:Int)) (.int .i64 (n:Int))).run Tryz.prog w=.ok (.slice (some ⟨w.heap.size,0,none⟩) n n) (w.alloc (.cells (List.replicate n (.slice none 0 0)).toArray 42)):=by
 obtain ⟨i0,hi,hz0,hz1,hz2⟩:=info_parts je;have h:=run_make (P:=Tryz.prog) (w:=w) 63 42 i0 _ Tryz.underlying63 hi hz0 .i64 .i64 n n (by omega) (Int.le_refl _) (by rw [hz2];omega) (by omega);have e:madeCells (Value.cells (.slice none 0 0)) (n*1)=(List.replicate n (.slice none 0 0)).toArray:=by rw [← wX n]
 rw [h,Int.toNat_natCast,hz1,e]
theorem fJ {w:World}(q:Col)(c:Nat)(cs:Array Value)(t:TypeId):dY (w.alloc (.cells cs t)) (ext q w.heap.size c) c w.heap.size t cs:=⟨heap_alloc_new w _,aW (Nat.le_refl _)⟩
structure First (w0 w:World) (M X:Nat) (P:ay) (vp vl vo:Value) (p:Value):Prop where
 ex:∃ b q ov cb,p=.pointer (some ⟨b,0,none⟩)∧Kept w0.heap.size q w0 w∧dY w q (M+210) X 26 #[.int .i64 P.memory,.int .i64 P.counters,.int .i64 P.ins,.int .i64 P.outs,vp,vl,vo] ∧
  dY w q M b 71 #[.slice none 0 0,.slice none 0 0,.slice none 0 0,.slice none 0 0,ov,.slice none 0 0,.slice none 0 0,.slice (some ⟨cb,0,none⟩) P.counters.toNat P.counters.toNat,.slice none 0 0,.int .i64 0,.int .i64 0,.bool false,.int .i64 0,.int .u8 0,.int .i64 0,.slice none 0 0,.int .u8 0] ∧
  Own w q (M+5) 58 3 ov P.ops.length (opsV P.ops)∧dY w q (M+8) cb 3 (aV (List.replicate P.counters.toNat 0)).toArray
theorem DX {w0 wa:World}{q:Col}{M X cb nc:Nat}{P:ay}{vp vl vo ov:Value}(_hM:1≤M)(hn:P.counters.toNat=nc)(K:Kept w0.heap.size q w0 wa)(hX:dY wa q (M+210) X 26 #[.int .i64 P.memory,.int .i64 P.counters,.int .i64 P.ins,.int .i64 P.outs,vp,vl,vo])(hO:Own wa q (M+5) 58 3 ov P.ops.length (opsV P.ops))(hC:dY wa q (M+8) cb 3 (aV (List.replicate nc 0)).toArray) :
  First w0 (wa.alloc (.cells #[.slice none 0 0,.slice none 0 0,.slice none 0 0,.slice none 0 0,ov,.slice none 0 0,.slice none 0 0,.slice (some ⟨cb,0,none⟩) nc nc,.slice none 0 0,.int .i64 0,.int .i64 0,.bool false,.int .i64 0,.int .u8 0,.int .i64 0,.slice none 0 0,.int .u8 0] 71)) M X P vp vl vo (.pointer (some ⟨wa.heap.size,0,none⟩)):=by
 have T:=Turn.of_below q M (au wa (.cells #[.slice none 0 0,.slice none 0 0,.slice none 0 0,.slice none 0 0,ov,.slice none 0 0,.slice none 0 0,.slice (some ⟨cb,0,none⟩) nc nc,.slice none 0 0,.int .i64 0,.int .i64 0,.bool false,.int .i64 0,.int .u8 0,.int .i64 0,.slice none 0 0,.int .u8 0] 71));subst hn;exact ⟨wa.heap.size,_,ov,cb,rfl,K.turn T (fun h=>h),hX.turn T (fun h=>h),fJ q M _ _,hO.turn T (fun h=>h),hC.turn T (fun h=>h)⟩
structure Second (w0 w:World) (M X b:Nat) (P:ay) (vp vl vo:Value):Prop where
 ex:∃ q v,Kept w0.heap.size q w0 w∧dY w q (M+210) X 26 #[.int .i64 P.memory,.int .i64 P.counters,.int .i64 P.ins,.int .i64 P.outs,vp,vl,vo]∧aN w q M b (j4 P 0) (iN P 0) v
theorem uO {w0 w:World}{q:Col}{M X b gm gf go cb:Nat}{P:ay}{vp vl vo ov:Value}(hP:tX P)(K:Kept w0.heap.size q w0 w)(hX:dY w q (M+210) X 26 #[.int .i64 P.memory,.int .i64 P.counters,.int .i64 P.ins,.int .i64 P.outs,vp,vl,vo])
  (hB:dY w q M b 71 #[.slice (some ⟨gm,0,none⟩) P.memory.toNat P.memory.toNat,.slice none 0 0,.slice (some ⟨gf,0,none⟩) P.ins.toNat P.ins.toNat,.slice (some ⟨go,0,none⟩) P.outs.toNat P.outs.toNat,ov,.slice none 0 0,.slice none 0 0,.slice (some ⟨cb,0,none⟩) P.counters.toNat P.counters.toNat,.slice none 0 0,.int .i64 0,.int .i64 0,.bool false,.int .i64 0,.int .u8 0,.int .i64 0,.slice none 0 0,.int .u8 0])
  (hM:dY w q (M+1) gm 3 (aV (List.replicate P.memory.toNat 0)).toArray) (hF:dY w q (M+3) gf 42 (List.replicate P.ins.toNat (.slice none 0 0)).toArray) (hO:dY w q (M+4) go 42 (List.replicate P.outs.toNat (.slice none 0 0)).toArray) (hOp:Own w q (M+5) 58 3 ov P.ops.length (opsV P.ops)) (hC:dY w q (M+8) cb 3 (aV (List.replicate P.counters.toNat 0)).toArray):Second w0 w M X b P vp vl vo:=by
 have h1:=hP.ins;have h2:=hP.outs;refine ⟨q,⟨gm,.slice none 0 0,gf,go,ov,.slice none 0 0,.slice none 0 0,cb,.slice none 0 0,List.replicate P.ins.toNat (.slice none 0 0),List.replicate P.outs.toNat (.slice none 0 0),[]⟩,K,hX,?_⟩;have hm:dH P 0=List.replicate P.memory.toNat 0:=by unfold dH;rw [List.take_zero];rfl
 refine ⟨?_,by show dY w q (M+1) gm _ (aV (dH P 0)).toArray;rw [hm];exact hM,Own.nil _ _ _ _ _,⟨by simp [iN],hF,fun k hk=>?_⟩,⟨by simp [iN],hO,fun k hk=>?_⟩,hOp,Own.nil _ _ _ _ _,Own.nil _ _ _ _ _,rfl,fun k hk=>?_,hC,bF.nil _ _ _ _,⟨by simp [iN];omega,by simp [iN];omega,by simp [j4]⟩⟩
 ·
  unfold bC iN;simp only [hm,List.length_replicate];exact hB
 ·
  simp only [List.getElem_replicate,iN];exact bF.nil _ _ _ _
 ·
  simp only [List.getElem_replicate,iN];exact bF.nil _ _ _ _
 ·
  simp [j4] at hk
structure BK (w0 w:World) (q:Col) (M X b gm cb:Nat) (P:ay) (vp vl vo Sy c2 c3:Value):Prop where
 kept:Kept w0.heap.size q w0 w
 prog:dY w q (M+210) X 26 #[.int .i64 P.memory,.int .i64 P.counters,.int .i64 P.ins,.int .i64 P.outs,vp,vl,vo]
 blk:dY w q M b 71 #[.slice (some ⟨gm,0,none⟩) P.memory.toNat P.memory.toNat,.slice none 0 0,c2,c3,Sy,.slice none 0 0,.slice none 0 0,.slice (some ⟨cb,0,none⟩) P.counters.toNat P.counters.toNat,.slice none 0 0,.int .i64 0,.int .i64 0,.bool false,.int .i64 0,.int .u8 0,.int .i64 0,.slice none 0 0,.int .u8 0]
 mem:dY w q (M+1) gm 3 (aV (List.replicate P.memory.toNat 0)).toArray
 ops:Own w q (M+5) 58 3 Sy P.ops.length (opsV P.ops)
 cs:dY w q (M+8) cb 3 (aV (List.replicate P.counters.toNat 0)).toArray
theorem BK.turn {w0 w w':World}{q q':Col}{M X b gm cb:Nat}{P:ay}{vp vl vo Sy c2 c3:Value}(h:BK w0 w q M X b gm cb P vp vl vo Sy c2 c3)(T:Turn q q' (fun _=>False) w w'):BK w0 w' q' M X b gm cb P vp vl vo Sy c2 c3 :=
 ⟨h.kept.turn T (fun h=>h),h.prog.turn T (fun h=>h),h.blk.turn T (fun h=>h),h.mem.turn T (fun h=>h),h.ops.turn T (fun h=>h),h.cs.turn T (fun h=>h)⟩
theorem BK.set2 {w0 w:World}{q:Col}{M X b gm cb:Nat}{P:ay}{vp vl vo Sy c2 c3:Value}(hM:1≤M)(h:BK w0 w q M X b gm cb P vp vl vo Sy c2 c3)(u:Value):BK w0 (w.setCell ⟨b,2,none⟩ u) q M X b gm cb P vp vl vo Sy u c3∧Turn q q (fun x=>x=M) w (w.setCell ⟨b,2,none⟩ u):=by
 obtain ⟨s,T⟩:=h.blk.set 2 u;exact ⟨⟨h.kept.turn T (by omega),h.prog.turn T (by omega),s,h.mem.turn T (by omega),h.ops.turn T (by omega),h.cs.turn T (by omega)⟩,T⟩
theorem BK.aan {w0 w:World}{q:Col}{M X b gm cb:Nat}{P:ay}{vp vl vo Sy c2 c3:Value}(hM:1≤M)(h:BK w0 w q M X b gm cb P vp vl vo Sy c2 c3)(u:Value):BK w0 (w.setCell ⟨b,3,none⟩ u) q M X b gm cb P vp vl vo Sy c2 u∧Turn q q (fun x=>x=M) w (w.setCell ⟨b,3,none⟩ u):=by
 obtain ⟨s,T⟩:=h.blk.set 3 u;exact ⟨⟨h.kept.turn T (by omega),h.prog.turn T (by omega),s,h.mem.turn T (by omega),h.ops.turn T (by omega),h.cs.turn T (by omega)⟩,T⟩
theorem Ih (w:World)(o:Col)(M:Nat)(hM:1≤M)(v:Value)(P:ay)(hv:bO w v P)(hps:∀ p∈P.parts,p.params.length≤17600000000000)(hf:iM P):Calls Tryz.prog 6 #[v] w (Fh w o M P):=by
 obtain ⟨vp,vl,vo,rfl,rp,rl,ro⟩:=hv;obtain ⟨ap,cp,rfl⟩:=rp.slice;obtain ⟨al,cl,rfl⟩:=rl.slice;obtain ⟨ao,co,rfl⟩:=ro.slice;have HV:Hid (bO w (.agg #[.int .i64 P.memory,.int .i64 P.counters,.int .i64 P.ins,.int .i64 P.outs,.slice ap P.parts.length cp,.slice al P.lines.length cl,.slice ao P.ops.length co]) P):=Lib.hid ⟨_,_,_,rfl,rp,rl,ro⟩;have Jb:=Lib.hid rp;have mV:=Lib.hid rl;have Gr:=Lib.hid ro;have JG:=Lib.hid hps;have HF:=Lib.hid hf;clear rp rl ro hps hf;have hb1:=au w (.cells #[.int .i64 P.memory,.int .i64 P.counters,.int .i64 P.ins,.int .i64 P.outs,.slice ap P.parts.length cp,.slice al P.lines.length cl,.slice ao P.ops.length co] 26);have T1:=Turn.of_below (fun _=>0) (M+210) hb1;have hX:=fJ (w:=w) (fun _=>0) (M+210) #[.int .i64 P.memory,.int .i64 P.counters,.int .i64 P.ins,.int .i64 P.outs,.slice ap P.parts.length cp,.slice al P.lines.length cl,.slice ao P.ops.length co] 26;have K1:=(Kept.start w).turn T1 (fun h=>h);have HX:=Lib.hid hX;have HK:=Lib.hid K1;have x0:=hX.cell 0 _ rfl;have x1:=hX.cell 1 _ rfl;have x2:=hX.cell 2 _ rfl;have x3:=hX.cell 3 _ rfl;have x4:=hX.cell 4 _ rfl;have x5:=hX.cell 5 _ rfl;have x6:=hX.cell 6 _ rfl;generalize ext (fun _=>0) w.heap.size (M+210)=q0 at *;clear T1 hX K1 hb1;obtain ⟨E,hE⟩:∃ x,lF P=x:=⟨_,rfl⟩
 unfold Fh;rw [hE];have HE:=Lib.hid hE;clear hE
 by_cases h0:E≠0
 ·
  rw [if_pos h0];have hb:(E != 0)=true:=by rw [bne_iff_ne];exact h0
  go_enter Tryz.func6,Tryz.ntmps6
  go_wp2_with fail
  refine (AP _ _ P (HV.out.below HK.out.below) JG.out).mono ?_;rintro e w2 ⟨rfl,hb2⟩;rw [HE.out];have HB2:=Lib.hid (HK.out.below.trans (hb2.mono HK.out.size));clear hb2;go_wp2
  go_ret2
  exact ⟨rfl,HB2.out⟩
 ·
  rw [if_neg h0];obtain rfl:E=0:=by simpa using h0
  clear h0;have hS:bW P=((bW P).1,0):=by
   have:=HE.out;unfold lF at this;rw [← this]
  have hP:=rJ hS
  go_enter Tryz.func6,Tryz.ntmps6
  go_wp2_with fail
  refine (AP _ _ P (HV.out.below HK.out.below) JG.out).mono ?_;rintro e w2 ⟨rfl,hb2⟩;rw [HE.out];have T2:=Turn.of_below q0 (M+211) hb2;have Dg:=Lib.hid (HK.out.turn T2 (fun h=>h));have hX2:=HX.out.turn T2 (fun h=>h);have yO:=Lib.hid hX2;have hc:=hP.counters;obtain ⟨nc,hnc⟩:∃ nc:Nat,P.counters=nc:=⟨P.counters.toNat,by omega⟩
  have x1:=hX2.cell 1 _ rfl;have x6:=hX2.cell 6 _ rfl;rw [hnc] at x1;generalize ext q0 _ (M+211)=q2 at *;clear T2 hX2 hb2 HK HX x0 x2 x3 x4 x5;have HP:=Lib.hid hP;have YE:=Lib.hid hnc;have acy:nc≤17:=by omega
  have hops:=hP.QH;have hmk:=vV nc (by omega);obtain ⟨zs,hzs⟩:∃ x,(aV (List.replicate nc 0)).toArray=x:=⟨_,rfl⟩
  rw [hzs] at hmk;have HZ:=Lib.hid hzs;clear hzs;obtain ⟨i0,hi,hz0,hz1,hz2⟩:=info_parts Sw;have HI:=Lib.hid hi;clear hc hP hS hi
  go_wp2_with fail
  go_cut [5] from 22 to 29 (fun p wx=>First w wx M w.heap.size P (.slice ap P.parts.length cp) (.slice al P.lines.length cl) (.slice ao P.ops.length co) p)
  case first =>
   refine dB (fun w'=>w'.cell? ⟨w.heap.size,1,none⟩=some (.int .i64 (nc:Int))∧w'.cell? ⟨w.heap.size,6,none⟩=some (.slice ao P.ops.length co)) [0,1,3,4] [2,5] [0,1,3,4] 5 (by kernel_rfl) (by kernel_rfl) rfl ⟨x1,x6⟩ ?_;intro Q' hQ' lq;simp only [pk];refine aA ?_;refine av ?_;obtain ⟨wd,hwd⟩:∃ x,w2.drew=x:=⟨_,rfl⟩
   have HKd:=Lib.hid (Dg.out.drewN 1);have HXd:=Lib.hid (yO.out.drewN 1)
   change Hid (Kept _ _ _ w2.drew) at HKd
   change Hid (dY w2.drew _ _ _ _ _) at HXd
   rw [hwd] at HKd HXd ⊢;clear hwd Dg yO x1 x6;have HS:Hid (∀ {w':World} {q':Col} {C:Nat→Prop},Turn q2 q' C wd w'→¬ C (M+210)→w'.cell? ⟨w.heap.size,1,none⟩=some (.int .i64 (nc:Int))∧w'.cell? ⟨w.heap.size,6,none⟩=some (.slice ao P.ops.length co)):=Lib.hid fun T hC=>by
    have h:=HXd.out.turn T hC;refine ⟨?_,h.cell 6 _ rfl⟩;rw [← YE.out];exact h.cell 1 _ rfl
   obtain ⟨KN,co',eo,hnone,-,hnews⟩:=Gr.out.below HKd.out.below;cases eo
   refine iT (i:=2) (k:=5) (by kernel_rfl) ?_ ?_
   ·
    have jL:=Lib.hid hnone;have ou:=Lib.hid hnews;clear hnone hnews;simp only [pk]
    go_wp2_with (at_builtin;refine aM ?_)
    refine bR ?_;refine aR rfl _ _ 24 rfl 0 58 i0 _ 3 24 Tryz.underlying24 HI.out hz0 hz1 hz2 rfl (.slice none 0 0) 0 [] rfl (World.ownsRow_nil wd 0 58 3) ao P.ops.length co (opsV P.ops) rfl (ny _) jL.out ou.out (vE _) (by unfold maxLen;omega) (aZ (by omega)) (Nat.zero_le _) ?_;intro v7 w7 k1 k20 _ k4;have k2:wd.grownBy w7 (Value.slice none 0 0).ownBlock:=k20;have uI:Below wd.heap.size wd w7:=((aI.refl (fun _=>False) wd).grown k2 (fun k hk hlt=>by cases hk)).below (Nat.le_refl _) (fun _ _ h=>h);simp only [Nat.zero_add,List.nil_append] at k1;have T7:=Turn.of_below q2 (M+5) uI;have O7:Own w7 (ext q2 wd.heap.size (M+5)) (M+5) 58 3 v7 P.ops.length (opsV P.ops):=⟨k1,fun k hk=>by
     rcases k4 with k4 | k4
     ·
      rw [k4] at hk;cases hk
     ·
      rw [k4] at hk;exact aW (by have:=Option.some.inj hk;omega)⟩
    have K7:=HKd.out.turn T7 (fun h=>h);have X7:=HXd.out.turn T7 (fun h=>h);obtain ⟨oa,oc,rfl⟩:=O7.slice;have S7:=HS.out T7 (fun h=>h);have Tc:=Turn.of_below (ext q2 wd.heap.size (M+5)) (M+8) (au w7 (.cells zs 3));have C8:=fJ (w:=w7) (ext q2 wd.heap.size (M+5)) (M+8) zs 3;have S8:=HS.out (T7.trans Tc (fun _ h=>h)) (fun h=>h);have iq:=Lib.hid (DX hM (P:=P) (nc:=nc) (by rw [YE.out];rfl) (K7.turn Tc (fun h=>h)) (X7.turn Tc (fun h=>h)) (O7.turn Tc (fun h=>h)) (by rw [HZ.out];exact C8));have hsz:(w7.alloc (.cells zs 3)).heap.size=w7.heap.size+1:=by simp
    rw [hsz] at iq;clear T7 O7 K7 X7 Tc C8 k1 k20 k2 uI k4 lq hsz;go_wp2;refine ⟨by intros;exact S7,?_⟩;refine aG (i:=5) (by kernel_rfl) ?_;simp only [pk]
    go_wp2_with fail
    refine ⟨by intros;exact S8,?_⟩;refine bg (ks:=[6,7,8]) (fun _ _ hx h=>⟨hx.cell h.1,hx.cell h.2⟩) (by kernel_rfl) ?_;simp only [pk];go_wp2
    go_meet
    case rel=>exact iq.out
   ·
    have Tc:=Turn.of_below q2 (M+8) (au wd (.cells zs 3));have C8:=fJ (w:=wd) q2 (M+8) zs 3;have S8:=HS.out Tc (fun h=>h);have hsz:(wd.alloc (.cells zs 3)).heap.size=wd.heap.size+1:=by simp
    have hnews:∀ ad,ao=some ad→∀ j u,(opsV P.ops)[j]?=some u→(wd.alloc (.cells zs 3)).cell? (ad.add j)=some u:=fun ad e j u hu=>cell_later (au wd _) (hnews ad e j u hu)
    have jL:=Lib.hid hnone;have ou:=Lib.hid hnews;have HC8:=Lib.hid C8;have HTc:=Lib.hid Tc;have H7:=Lib.hid S8;clear hnone hnews C8 Tc S8;simp only [pk]
    go_wp2_with fail
    refine ⟨by intros;exact H7.out,?_⟩;refine aG (i:=2) (by kernel_rfl) ?_;simp only [pk];obtain ⟨we,hwe⟩:∃ x,wd.alloc (.cells zs 3)=x:=⟨_,rfl⟩
    rw [hwe] at ou HC8 HTc H7 hsz ⊢;generalize ext q2 wd.heap.size (M+8)=q8 at *;clear hwe
    go_wp2_with (at_builtin;refine aM ?_)
    refine bR ?_;refine aR rfl _ _ 24 rfl 0 58 i0 _ 3 24 Tryz.underlying24 HI.out hz0 hz1 hz2 rfl (.slice none 0 0) 0 [] rfl (World.ownsRow_nil we 0 58 3) ao P.ops.length co (opsV P.ops) rfl (ny _) jL.out ou.out (vE _) (by unfold maxLen;omega) (aZ (by omega)) (Nat.zero_le _) ?_;intro v7 w7 k1 k20 _ k4;have k2:we.grownBy w7 (Value.slice none 0 0).ownBlock:=k20;have uI:Below we.heap.size we w7:=((aI.refl (fun _=>False) we).grown k2 (fun k hk hlt=>by cases hk)).below (Nat.le_refl _) (fun _ _ h=>h);simp only [Nat.zero_add,List.nil_append] at k1;have T7:=Turn.of_below q8 (M+5) uI;have O7:Own w7 (ext q8 we.heap.size (M+5)) (M+5) 58 3 v7 P.ops.length (opsV P.ops):=⟨k1,fun k hk=>by
     rcases k4 with k4 | k4
     ·
      rw [k4] at hk;cases hk
     ·
      rw [k4] at hk;exact aW (by have:=Option.some.inj hk;omega)⟩
    obtain ⟨oa,oc,rfl⟩:=O7.slice;have T78:=HTc.out.trans T7 (fun _ h=>h);have S7:=HS.out T78 (fun h=>h);have iq:=Lib.hid (DX hM (P:=P) (nc:=nc) (by rw [YE.out];rfl) (HKd.out.turn T78 (fun h=>h)) (HXd.out.turn T78 (fun h=>h)) O7 (by rw [HZ.out];exact HC8.out.turn T7 (fun h=>h)));clear T7 O7 T78 k1 k20 k2 uI k4 lq hsz;go_wp2;refine ⟨by intros;exact S7,?_⟩;refine bg (ks:=[6,7,8]) (fun _ _ hx h=>⟨hx.cell h.1,hx.cell h.2⟩) (by kernel_rfl) ?_;simp only [pk];go_wp2
    go_meet
    case rel=>exact iq.out
  case rest =>
   obtain ⟨b,q,ov,cb,rfl,K,hX,hB,hO,hC⟩:=hcut.ex;have hp1:=HP.out.mem;have hp2:=HP.out.ins;have hp3:=HP.out.outs;obtain ⟨nm,hnm⟩:∃ n:Nat,P.memory=n:=⟨P.memory.toNat,by omega⟩
   obtain ⟨ni,hni⟩:∃ n:Nat,P.ins=n:=⟨P.ins.toNat,by omega⟩
   obtain ⟨no,hno⟩:∃ n:Nat,P.outs=n:=⟨P.outs.toNat,by omega⟩
   have acz:nm≤1024:=by omega
   have acA:ni≤16:=by omega
   have QL:no≤16:=by omega
   have x0:=hX.cell 0 _ rfl;rw [hnm] at x0;have mk0:=vV nm (by omega);obtain ⟨zm,hzm⟩:∃ x,(aV (List.replicate nm 0)).toArray=x:=⟨_,rfl⟩
   rw [hzm] at mk0;have c0:=hB.cell 0 _ rfl;have f0:=hB.frozen 0;have Tm:=Turn.of_below q (M+1) (au wc (.cells zm 3));have Bm:=fJ (w:=wc) q (M+1) zm 3;have c0:=(hB.turn Tm (fun h=>h)).cell 0 _ rfl;have f0:=(hB.turn Tm (fun h=>h)).frozen 0;have S1:=(hB.turn Tm (fun h=>h)).set 0 (.slice (some ⟨wc.heap.size,0,none⟩) nm nm);have T1:Turn q (ext q wc.heap.size (M+1)) (fun x=>x=M) wc _:=(Tm.mono (fun _ h=>h.elim)).trans S1.2 (fun _ h=>h);have K1:=K.turn T1 (by omega);have X1:=hX.turn T1 (by omega);have M1:=Bm.turn S1.2 (by omega);have O1:=hO.turn T1 (by omega);have C1:=hC.turn T1 (by omega);have B1:=S1.1;obtain ⟨W,hW⟩:∃ x,(wc.alloc (.cells zm 3)).setCell ⟨b,0,none⟩ (.slice (some ⟨wc.heap.size,0,none⟩) nm nm)=x:=⟨_,rfl⟩
   obtain ⟨gm,hgm⟩:∃ x,wc.heap.size=x:=⟨_,rfl⟩
   rw [hW] at K1 X1 M1 O1 C1 B1;generalize ext q wc.heap.size (M+1)=q1 at *;rw [hgm] at M1 B1;have qP:=Lib.hid K1;have GK:=Lib.hid X1;have EP:=Lib.hid M1;have qJ:=Lib.hid O1;have HC1:=Lib.hid C1;have HB1:=Lib.hid B1;have WW:=Lib.hid hni;have jL:=Lib.hid hno;have NY:=Lib.hid hnm;have HZM:=Lib.hid hzm;have y2:=X1.cell 2 _ rfl;have y3:=X1.cell 3 _ rfl;clear Tm Bm S1 T1 K1 X1 M1 O1 C1 B1 K hX hB hO hC hzm hnm hp1 hp2 hp3;rw [hgm] at hW
   go_wp2_with fail
   try rw [hW]
   clear hW hgm x0 c0 f0 mk0 hmk;rw [hni] at y2;rw [hno] at y3;have mki:=vW ni (by omega);have mko:=vW no (by omega);obtain ⟨zi,hzi⟩:∃ x,(List.replicate ni (Value.slice none 0 0)).toArray=x:=⟨_,rfl⟩
   obtain ⟨zo,hzo⟩:∃ x,(List.replicate no (Value.slice none 0 0)).toArray=x:=⟨_,rfl⟩
   rw [hzi] at mki;rw [hzo] at mko;have HZI:=Lib.hid hzi;have HZO:=Lib.hid hzo;clear hzi hzo hni hno
   go_cut [37] from 37 to 50 (fun _ wx=>Second w wx M w.heap.size b P (.slice ap P.parts.length cp) (.slice al P.lines.length cl) (.slice ao P.ops.length co))
   case first =>
    refine dB (fun w'=>w'.cell? ⟨w.heap.size,2,none⟩=some (.int .i64 (ni:Int))∧w'.cell? ⟨w.heap.size,3,none⟩=some (.int .i64 (no:Int))) [0,1,2,3,5,6,8,9,10] [4,7,11] [0,1,2,3,5,6] 10 (by kernel_rfl) (by kernel_rfl) rfl ⟨y2,y3⟩ ?_;intro Q' hQ' lq;simp only [pk];refine aA ?_;refine av ?_;obtain ⟨wd,hwd⟩:∃ x,W.drew=x:=⟨_,rfl⟩
    have HSX:Hid (BK w wd q1 M w.heap.size b gm cb P (.slice ap P.parts.length cp) (.slice al P.lines.length cl) (.slice ao P.ops.length co) ov (.slice none 0 0) (.slice none 0 0)):=Lib.hid (by
     rw [← hwd];exact ⟨qP.out.drewN 1,GK.out.drewN 1,by rw [NY.out,Int.toNat_natCast];exact HB1.out.drewN 1,by rw [NY.out,Int.toNat_natCast,HZM.out];exact EP.out.drewN 1,qJ.out.drewN 1,HC1.out.drewN 1⟩)
    rw [hwd];clear hwd qP GK HB1 EP qJ HC1 y2 y3;have HS:Hid (∀ {w':World} {q':Col} {c2 c3:Value},BK w w' q' M w.heap.size b gm cb P (.slice ap P.parts.length cp) (.slice al P.lines.length cl) (.slice ao P.ops.length co) ov c2 c3→w'.cell? ⟨w.heap.size,2,none⟩=some (.int .i64 (ni:Int))∧w'.cell? ⟨w.heap.size,3,none⟩=some (.int .i64 (no:Int))):=Lib.hid fun h=>by
     rw [← WW.out,← jL.out];exact ⟨h.prog.cell 2 _ rfl,h.prog.cell 3 _ rfl⟩
    refine iT (i:=4) (k:=7) (by kernel_rfl) ?_ ?_
    ·
     skip
     have T1:=Turn.of_below q1 (M+3) (au wd (.cells zi 42));have N1:=Lib.hid (fJ (w:=wd) q1 (M+3) zi 42);have S1:=Lib.hid (HSX.out.turn T1);simp only [pk]
     go_wp2_with fail
     refine ⟨by intros;exact HS.out S1.out,?_⟩;obtain ⟨gf,hgf⟩:∃ x,wd.heap.size=x:=⟨_,rfl⟩
     obtain ⟨Pe,SA⟩:∃ x,wd.alloc (.cells zi 42)=x:=⟨_,rfl⟩
     rw [SA] at N1 S1 ⊢;generalize ext q1 wd.heap.size (M+3)=Ux at *;rw [hgf] at N1 ⊢;clear T1 SA;have Fj:=N1;refine dQ (r:=[8,9,10]) (n:=6) lq (by kernel_rfl) (HS.out S1.out) ?_;simp only [pk];refine aA ?_;refine av ?_;refine iT (i:=7) (k:=11) (by kernel_rfl) ?_ ?_
     ·
      skip
      have T2:=Turn.of_below Ux (M+4) (au Pe (.cells zo 42));have N2:=Lib.hid (fJ (w:=Pe) Ux (M+4) zo 42);have S2:=Lib.hid (S1.out.turn T2);replace Fj:=Lib.hid (Fj.out.turn T2 (fun h=>h));simp only [pk]
      go_wp2_with fail
      refine ⟨by intros;exact HS.out S2.out,?_⟩;obtain ⟨go,hgo⟩:∃ x,Pe.heap.size=x:=⟨_,rfl⟩
      obtain ⟨WX,Ii⟩:∃ x,Pe.alloc (.cells zo 42)=x:=⟨_,rfl⟩
      rw [Ii] at N2 S2 Fj ⊢;generalize ext Ux Pe.heap.size (M+4)=qa2 at *;rw [hgo] at N2 ⊢;clear T2 Ii;have Ij:=N2;refine aG (i:=11) (by kernel_rfl) ?_;have WY:=S2.out.set2 hM (.slice (some ⟨gf,0,none⟩) ni ni);have S3:=Lib.hid WY.1;have f3:=S2.out.blk.frozen 2;have d3:=S2.out.blk.cell 2 _ rfl;replace Fj:=Lib.hid (Fj.out.turn WY.2 (by omega));replace Ij:=Lib.hid (Ij.out.turn WY.2 (by omega));clear WY;simp only [pk]
      go_wp2_with fail
      refine ⟨by intros;exact HS.out S3.out,?_⟩;obtain ⟨wa3,Ik⟩:∃ x,WX.setCell ⟨b,2,none⟩ (.slice (some ⟨gf,0,none⟩) ni ni)=x:=⟨_,rfl⟩
      rw [Ik] at S3 Fj Ij ⊢;clear Ik f3 d3;clear lq;refine bg (ks:=[12,13,14,15]) (fun _ _ hx h=>⟨hx.cell h.1,hx.cell h.2⟩) (by kernel_rfl) ?_;simp only [pk];have vX:=S3.out.aan hM (.slice (some ⟨go,0,none⟩) no no);have f9:=S3.out.blk.frozen 3;have d9:=S3.out.blk.cell 3 _ rfl;have hfin:=uO HP.out vX.1.kept vX.1.prog (gf:=gf) (go:=go) (by have h:=vX.1.blk;rw [WW.out,jL.out,Int.toNat_natCast,Int.toNat_natCast];exact h) vX.1.mem (by rw [WW.out,Int.toNat_natCast,HZI.out];exact Fj.out.turn vX.2 (by omega)) (by rw [jL.out,Int.toNat_natCast,HZO.out];exact Ij.out.turn vX.2 (by omega)) vX.1.ops vX.1.cs;have iq:=Lib.hid hfin;clear hfin vX;go_wp2
      go_meet
      case rel=>exact iq.out
     ·
      skip
      have S2a:=S1.out.set2 hM (.slice (some ⟨gf,0,none⟩) ni ni);have S2:=Lib.hid S2a.1;have f2:=S1.out.blk.frozen 2;have d2:=S1.out.blk.cell 2 _ rfl;replace Fj:=Lib.hid (Fj.out.turn S2a.2 (by omega));clear S2a;simp only [pk]
      go_wp2_with fail
      refine ⟨by intros;exact HS.out S2.out,?_⟩;obtain ⟨WX,Ii⟩:∃ x,Pe.setCell ⟨b,2,none⟩ (.slice (some ⟨gf,0,none⟩) ni ni)=x:=⟨_,rfl⟩
      rw [Ii] at S2 Fj ⊢;clear Ii f2 d2;refine aG (i:=7) (by kernel_rfl) ?_;have T3:=Turn.of_below Ux (M+4) (au WX (.cells zo 42));have N3:=Lib.hid (fJ (w:=WX) Ux (M+4) zo 42);have S3:=Lib.hid (S2.out.turn T3);replace Fj:=Lib.hid (Fj.out.turn T3 (fun h=>h));simp only [pk]
      go_wp2_with fail
      refine ⟨by intros;exact HS.out S3.out,?_⟩;obtain ⟨go,hgo⟩:∃ x,WX.heap.size=x:=⟨_,rfl⟩
      obtain ⟨wa3,Ik⟩:∃ x,WX.alloc (.cells zo 42)=x:=⟨_,rfl⟩
      rw [Ik] at N3 S3 Fj ⊢;generalize ext Ux WX.heap.size (M+4)=qa3 at *;rw [hgo] at N3 ⊢;clear T3 Ik;have Ij:=N3;clear lq;refine bg (ks:=[12,13,14,15]) (fun _ _ hx h=>⟨hx.cell h.1,hx.cell h.2⟩) (by kernel_rfl) ?_;simp only [pk];have vX:=S3.out.aan hM (.slice (some ⟨go,0,none⟩) no no);have f9:=S3.out.blk.frozen 3;have d9:=S3.out.blk.cell 3 _ rfl;have hfin:=uO HP.out vX.1.kept vX.1.prog (gf:=gf) (go:=go) (by have h:=vX.1.blk;rw [WW.out,jL.out,Int.toNat_natCast,Int.toNat_natCast];exact h) vX.1.mem (by rw [WW.out,Int.toNat_natCast,HZI.out];exact Fj.out.turn vX.2 (by omega)) (by rw [jL.out,Int.toNat_natCast,HZO.out];exact Ij.out.turn vX.2 (by omega)) vX.1.ops vX.1.cs;have iq:=Lib.hid hfin;clear hfin vX;go_wp2
      go_meet
      case rel=>exact iq.out
    ·
     skip
     have T1:=Turn.of_below q1 (M+4) (au wd (.cells zo 42));have N1:=Lib.hid (fJ (w:=wd) q1 (M+4) zo 42);have S1:=Lib.hid (HSX.out.turn T1);simp only [pk]
     go_wp2_with fail
     refine ⟨by intros;exact HS.out S1.out,?_⟩;obtain ⟨go,hgo⟩:∃ x,wd.heap.size=x:=⟨_,rfl⟩
     obtain ⟨Pe,SA⟩:∃ x,wd.alloc (.cells zo 42)=x:=⟨_,rfl⟩
     rw [SA] at N1 S1 ⊢;generalize ext q1 wd.heap.size (M+4)=Ux at *;rw [hgo] at N1 ⊢;clear T1 SA;have Ij:=N1;refine aG (i:=4) (by kernel_rfl) ?_;have T2:=Turn.of_below Ux (M+3) (au Pe (.cells zi 42));have N2:=Lib.hid (fJ (w:=Pe) Ux (M+3) zi 42);have S2:=Lib.hid (S1.out.turn T2);replace Ij:=Lib.hid (Ij.out.turn T2 (fun h=>h));simp only [pk]
     go_wp2_with fail
     refine ⟨by intros;exact HS.out S2.out,?_⟩;obtain ⟨gf,hgf⟩:∃ x,Pe.heap.size=x:=⟨_,rfl⟩
     obtain ⟨WX,Ii⟩:∃ x,Pe.alloc (.cells zi 42)=x:=⟨_,rfl⟩
     rw [Ii] at N2 S2 Ij ⊢;generalize ext Ux Pe.heap.size (M+3)=qa2 at *;rw [hgf] at N2 ⊢;clear T2 Ii;have Fj:=N2;refine dQ (r:=[8,9,10]) (n:=5) lq (by kernel_rfl) (HS.out S2.out) ?_;simp only [pk];refine aA ?_;refine av ?_;refine aG (i:=11) (by kernel_rfl) ?_;have WY:=S2.out.set2 hM (.slice (some ⟨gf,0,none⟩) ni ni);have S3:=Lib.hid WY.1;have f3:=S2.out.blk.frozen 2;have d3:=S2.out.blk.cell 2 _ rfl;replace Fj:=Lib.hid (Fj.out.turn WY.2 (by omega));replace Ij:=Lib.hid (Ij.out.turn WY.2 (by omega));clear WY;simp only [pk]
     go_wp2_with fail
     refine ⟨by intros;exact HS.out S3.out,?_⟩;obtain ⟨wa3,Ik⟩:∃ x,WX.setCell ⟨b,2,none⟩ (.slice (some ⟨gf,0,none⟩) ni ni)=x:=⟨_,rfl⟩
     rw [Ik] at S3 Fj Ij ⊢;clear Ik f3 d3;clear lq;refine bg (ks:=[12,13,14,15]) (fun _ _ hx h=>⟨hx.cell h.1,hx.cell h.2⟩) (by kernel_rfl) ?_;simp only [pk];have vX:=S3.out.aan hM (.slice (some ⟨go,0,none⟩) no no);have f9:=S3.out.blk.frozen 3;have d9:=S3.out.blk.cell 3 _ rfl;have hfin:=uO HP.out vX.1.kept vX.1.prog (gf:=gf) (go:=go) (by have h:=vX.1.blk;rw [WW.out,jL.out,Int.toNat_natCast,Int.toNat_natCast];exact h) vX.1.mem (by rw [WW.out,Int.toNat_natCast,HZI.out];exact Fj.out.turn vX.2 (by omega)) (by rw [jL.out,Int.toNat_natCast,HZO.out];exact Ij.out.turn vX.2 (by omega)) vX.1.ops vX.1.cs;have iq:=Lib.hid hfin;clear hfin vX;go_wp2
     go_meet
     case rel=>exact iq.out
   case rest =>
    obtain ⟨q2,v2,K2,X2,M2⟩:=hcut.ex;have Dg:=Lib.hid K2;have yO:=Lib.hid X2;have J4:=Lib.hid M2;have z5:=X2.cell 5 _ rfl;have hnl:=HP.out.AR;clear K2 X2 M2 qP GK HB1 EP qJ HC1 HZI HZO HZM HZ mki mko y2 y3 acA QL acz acy
    go_wp2_with fail
    clear z5
    go_loopw [54] (fun i wl=>∃ (j:Nat) (q:Col) (v:bV),j≤P.lines.length∧i=.int .i64 j∧Kept w.heap.size q w wl∧dY wl q (M+210) w.heap.size 26 #[.int .i64 P.memory,.int .i64 P.counters,.int .i64 P.ins,.int .i64 P.outs,.slice ap P.parts.length cp,.slice al P.lines.length cl,.slice ao P.ops.length co]∧aN wl q M b (j4 P 0) (iN P j) v) (fun i _=>P.lines.length - (intOf i).toNat)
    case atStart=>exact ⟨0,q2,v2,Nat.zero_le _,rfl,Dg.out,yO.out,J4.out⟩
    case round =>
     clear Dg yO J4;obtain ⟨j,q,v,hj,rfl,hK,hX,hM5⟩:=hrel;have zW:=Lib.hid hK;have ru:=Lib.hid hX;have yP:=Lib.hid hM5;clear hK hX hM5
     by_cases hlt:j < P.lines.length
     ·
      have dG:(j:Int) < P.lines.length:=by omega
      obtain ⟨b0,off,rfl,hcap,hb0,hrec⟩:=(mV.out.below (dU _ _) zW.out.below).at (by omega);obtain ⟨cs,hcs,AO,hcl⟩:=hrec j hlt;obtain ⟨y,rfl,hst⟩:=AO;have c0:=hcl 0 (by omega);have c1:=hcl 1 (by omega);have c2:=hcl 2 (by omega);simp [iV] at c0 c1 c2;have iK:(P.lines.length:Int)≤cl:=by omega
      obtain ⟨sa,sc,hxs⟩:=Ints.slice hst;subst hxs;have hsucc:=oz hlt;have hml:=qm HP.out j hj;have hin:=HP.out.lines _ (List.getElem_mem hlt);have hlm:iN P (j+1)={ iN P j with mem:=Gy (dH P j) P.lines[j],lines:=(P.lines.take j).map dZ ++ [dZ P.lines[j]] }:=by
       unfold iN;rw [hsucc,List.take_succ_eq_append_getElem hlt,List.map_append];rfl
      have HLM:=Lib.hid hlm;have HST:=Lib.hid hst;clear hcl hcs hrec hst hsucc hlm;obtain ⟨⟨ba,bs,st⟩,hae⟩:∃ x,P.lines[j]=x:=⟨_,rfl⟩
      rw [hae] at c0 c1 c2 HST HLM hin;dsimp only at c0 c1 c2 HST hin;obtain ⟨bn,rfl⟩:∃ n:Nat,ba=n:=⟨ba.toNat,by omega⟩
      obtain ⟨sn,rfl⟩:∃ n:Nat,bs=n:=⟨bs.toNat,by omega⟩
      clear hae;have Ty:=Turn.of_below q (M+212) (au wr (.cells #[.int .i64 (bn:Int),.int .i64 (sn:Int),.slice sa st.length sc] 54));have Yb:=fJ (w:=wr) q (M+212) #[.int .i64 (bn:Int),.int .i64 (sn:Int),.slice sa st.length sc] 54;have My:=yP.out.turn Ty (fun _ h=>h.elim);have Xy:=ru.out.turn Ty (fun h=>h);have Ky:=zW.out.turn Ty (fun h=>h);have hSy:=HST.out.below (Ty.below (Nat.le_refl _) (fun _ _ h=>h));obtain ⟨wy,hwy⟩:∃ x,wr.alloc (.cells #[.int .i64 (bn:Int),.int .i64 (sn:Int),.slice sa st.length sc] 54)=x:=⟨_,rfl⟩
      obtain ⟨Y,hY⟩:∃ x,wr.heap.size=x:=⟨_,rfl⟩
      rw [hwy] at My Xy Ky Yb hSy;generalize ext q wr.heap.size (M+212)=qy at *;rw [hY] at Yb;have hmy:dY wy.drew qy (M+1) v.mem 3 (aV (dH P j)).toArray:=My.mem;have YF:=Sr (w:=wy.drew) (base:=bn) hmy (hSy.drewN 1) (by rw [hml];omega) 3;rw [hml,NY.out,Int.toNat_natCast] at YF;have Mz:=(My.drewN 1).NU (l:=(dH P j).take bn ++ st ++ (dH P j).drop (bn+st.length)) YF.2.2 YF.2.1 (by show _=(dH P j).length;rw [List.length_append,List.length_append,List.length_take,List.length_drop];omega);have Xz:=(Xy.drewN 1).turn YF.2.2 (by omega);have Yz:=(Yb.drewN 1).turn YF.2.2 (by omega);have Kz:=(Ky.drewN 1).turn YF.2.2 (by omega);have hcopy:=YF.1;obtain ⟨wz,hwz⟩:∃ x,wy.drew.setRow v.mem (aV ((dH P j).take bn ++ st ++ (dH P j).drop (bn+st.length))).toArray=x:=⟨_,rfl⟩
      change aN (wy.drew.setRow _ _) _ _ _ _ _ _ at Mz
      rw [hwz] at hcopy Mz Xz Yz Kz;have c00:=My.cell 0 (u:=.slice (some ⟨v.mem,0,none⟩) (dH P j).length (dH P j).length) (by unfold bC;rfl);rw [hml,NY.out,Int.toNat_natCast] at c00;have y0:=Yb.cell 0 _ rfl;have y1:=Yb.cell 1 _ rfl;have y2:=Yb.cell 2 _ rfl;have WZ:=Lib.hid Mz;have HXz:=Lib.hid Xz;have HYz:=Lib.hid Yz;have HKz:=Lib.hid Kz;have adZ:(bn:Int)≤nm:=by have:=NY.out;omega
      have hsl:st.length≤1024:=by have:=NY.out;have:=HP.out.mem;omega
      clear Ty My Xy Ky hSy Yb hmy YF Mz Xz Yz Kz hwz hml hin HST;have hll:(iN P j).lines.length=j:=by
       show ((P.lines.take j).map dZ).length=j
       rw [List.length_map,List.length_take];omega
      have hrow:=WZ.out.lines;obtain ⟨la,lc,elv⟩:=hrow.slice
      change Own wz qy (M+2) _ 4 v.lines (iN P j).lines.length (gH (iN P j).lines) at hrow
      change v.lines=.slice la (iN P j).lines.length lc at elv
      rw [hll] at hrow elv;rw [elv] at hrow;have Il:=Lib.hid hrow;have ad1:=Lib.hid elv;have z1:=WZ.out.cell 1 (u:=v.lines) (by unfold bC;rfl);rw [elv] at z1;have yz0:=HYz.out.cell 0 _ rfl;have yz1:=HYz.out.cell 1 _ rfl;have yz2:=HYz.out.cell 2 _ rfl;have FC:=Lib.hid hll;clear hrow elv hll;obtain ⟨i9,hi9,iz0,iz1,iz2⟩:=info_parts Kl;have HI9:=Lib.hid hi9;clear hi9
      by_cases hcn:nm=bn
      ·
       rw [if_pos hcn] at hcopy;subst hcn;rw [Nat.sub_self] at hcopy
       go_wp2_with fail
       refine ax (fun w'=>w'.cell? ⟨b,0,none⟩=some (.slice (some ⟨v.mem,0,none⟩) nm nm)∧w'.cell? ⟨Y,0,none⟩=some (.int .i64 (nm:Int))∧w'.cell? ⟨Y,2,none⟩=some (.slice sa st.length sc)) [0,1,2,3,4,5,6,7,8,9,10] [11] (by kernel_rfl) (by kernel_rfl) rfl (fun _ _ hx h=>⟨hx.cell h.1,hx.cell h.2.1,hx.cell h.2.2⟩) ⟨c00,y0,y2⟩ ?_;intro Q' hQ';simp only [pk];refine aA ?_;refine av ?_
       go_wp2_with fail
       refine ax (fun w'=>w'.cell? ⟨b,1,none⟩=some (.slice la j lc)∧w'.cell? ⟨Y,0,none⟩=some (.int .i64 (nm:Int))∧w'.cell? ⟨Y,1,none⟩=some (.int .i64 sn)∧w'.cell? ⟨Y,2,none⟩=some (.slice sa st.length sc)) [0,1,2,3,4,5,6,7,8,9,10,11] [12,13,14,15,16,17] (by kernel_rfl) (by kernel_rfl) rfl (fun _ _ hx h=>⟨hx.cell h.1,hx.cell h.2.1,hx.cell h.2.2.1,hx.cell h.2.2.2⟩) ⟨z1,yz0,yz1,yz2⟩ ?_;intro Q' hQ';simp only [pk];refine aA ?_;refine av ?_
       go_wp2_with (at_builtin;refine aM ?_)
       refine bR ?_;refine aR rfl _ _ 60 rfl 0 73 i9 _ 4 32 Tryz.underlying60 HI9.out iz0 iz1 iz2 rfl (.slice la j lc) j _ rfl (Il.out.1.alloc (w:=wz.drew) _) (some ⟨wz.heap.size,0,none⟩) 1 1 [.int .i64 (nm:Int),.int .i64 (sn:Int),.int .i64 0,.int .i64 (st.length:Int)] rfl rfl (fun h=>by cases h) (sZ (w:=wz.drew) (n:=wz.heap.size) rfl [.int .i64 (nm:Int),.int .i64 (sn:Int),.int .i64 0,.int .i64 (st.length:Int)] 73) (by simp [Value.oneCell']) (by unfold maxLen;omega) (aZ (by omega)) (Nat.zero_le _) ?_;intro v7 w7 k1 k20 _ k4;have k2:(wz.drew.alloc (.cells #[.int .i64 (nm:Int),.int .i64 (sn:Int),.int .i64 0,.int .i64 (st.length:Int)] 73)).grownBy w7 (Value.slice la j lc).ownBlock:=k20;have QB:aI (fun g=>(Value.slice la j lc).ownBlock=some g) wz.drew w7:=((aI.refl _ wz.drew).alloc _).grown k2 (fun g hg _=>hg);have T7:Turn qy (ext qy wz.drew.heap.size (M+2)) (fun x=>x=M+2) wz.drew w7:=Turn.gN qy (M+2) QB (fun g _ hg=>Il.out.2 g hg);have vY:Own w7 (ext qy wz.drew.heap.size (M+2)) (M+2) 73 4 v7 (j+1) (gH (iN P j).lines ++ [.int .i64 (nm:Int),.int .i64 (sn:Int),.int .i64 0,.int .i64 (st.length:Int)]):=⟨k1,fun g hg=>by
        rcases k4 with k4 | k4
        ·
         rw [k4] at hg;exact (bX (Il.out.1.lt g hg).2).trans (Il.out.2 g hg)
        ·
         rw [k4] at hg;have e:=Option.some.inj hg;simp at e;exact aW (by simp;omega)⟩
       have hle:gH (iN P j).lines ++ [.int .i64 (nm:Int),.int .i64 (sn:Int),.int .i64 0,.int .i64 (st.length:Int)]=gH ((P.lines.take j).map dZ ++ [dZ ⟨(nm:Int),sn,st⟩]):=by
        unfold gH;rw [List.flatMap_append];simp [jc,dZ,iN]
       have hlen:((P.lines.take j).map dZ ++ [dZ ⟨(nm:Int),sn,st⟩]).length=j+1:=by
        have:=FC.out
        change ((P.lines.take j).map dZ).length=j at this
        rw [List.length_append,this];rfl
       rw [hle] at vY;have MM:=(WZ.out.drewN 1).Ig (l:=(P.lines.take j).map dZ ++ [dZ ⟨(nm:Int),sn,st⟩]) (lv:=v7) T7 (by rw [hlen];exact vY);have hfr:=(WZ.out.blk.turn ((Turn.refl qy (fun _=>False) _).drewN 1) (fun h=>h)).turn T7 (by omega);have e1:=hfr.cell 1 v.lines (by simp [bC]);have f1:=hfr.frozen 1;have T9:=((Turn.refl qy (Mine M) wz).drewN 1).trans MM.2 (fun _ h=>h);have HKN:=Lib.hid (HKz.out.turn T9 (by unfold Mine;omega));have J5:=Lib.hid (HXz.out.turn T9 (aO (by omega)));have HMN:Hid (aN (w7.setCell ⟨b,1,none⟩ v7) (ext qy wz.drew.heap.size (M+2)) M b (j4 P 0) (iN P (j+1)) { v with lines:=v7 }):=Lib.hid (by rw [HLM.out];exact MM.1);obtain ⟨JE,xw,rfl⟩:=vY.slice;clear k1 k20 k2 QB T7 vY hle hlen MM hfr T9 k4;go_wp2;go_roundw
       case rel=>exact ⟨j+1,_,_,hlt,by go_num,HKN.out,J5.out,HMN.out⟩
       case measure=>simp [intOf];omega
      ·
       rw [if_neg hcn] at hcopy
       go_wp2_with fail
       refine ax (fun w'=>w'.cell? ⟨b,0,none⟩=some (.slice (some ⟨v.mem,0,none⟩) nm nm)∧w'.cell? ⟨Y,0,none⟩=some (.int .i64 (bn:Int))∧w'.cell? ⟨Y,2,none⟩=some (.slice sa st.length sc)) [0,1,2,3,4,5,6,7,8,9,10] [11] (by kernel_rfl) (by kernel_rfl) rfl (fun _ _ hx h=>⟨hx.cell h.1,hx.cell h.2.1,hx.cell h.2.2⟩) ⟨c00,y0,y2⟩ ?_;intro Q' hQ';simp only [pk];refine aA ?_;refine av ?_
       go_wp2_with fail
       refine ax (fun w'=>w'.cell? ⟨b,1,none⟩=some (.slice la j lc)∧w'.cell? ⟨Y,0,none⟩=some (.int .i64 (bn:Int))∧w'.cell? ⟨Y,1,none⟩=some (.int .i64 sn)∧w'.cell? ⟨Y,2,none⟩=some (.slice sa st.length sc)) [0,1,2,3,4,5,6,7,8,9,10,11] [12,13,14,15,16,17] (by kernel_rfl) (by kernel_rfl) rfl (fun _ _ hx h=>⟨hx.cell h.1,hx.cell h.2.1,hx.cell h.2.2.1,hx.cell h.2.2.2⟩) ⟨z1,yz0,yz1,yz2⟩ ?_;intro Q' hQ';simp only [pk];refine aA ?_;refine av ?_
       go_wp2_with (at_builtin;refine aM ?_)
       refine bR ?_;refine aR rfl _ _ 60 rfl 0 73 i9 _ 4 32 Tryz.underlying60 HI9.out iz0 iz1 iz2 rfl (.slice la j lc) j _ rfl (Il.out.1.alloc (w:=wz.drew) _) (some ⟨wz.heap.size,0,none⟩) 1 1 [.int .i64 (bn:Int),.int .i64 (sn:Int),.int .i64 0,.int .i64 (st.length:Int)] rfl rfl (fun h=>by cases h) (sZ (w:=wz.drew) (n:=wz.heap.size) rfl [.int .i64 (bn:Int),.int .i64 (sn:Int),.int .i64 0,.int .i64 (st.length:Int)] 73) (by simp [Value.oneCell']) (by unfold maxLen;omega) (aZ (by omega)) (Nat.zero_le _) ?_;intro v7 w7 k1 k20 _ k4;have k2:(wz.drew.alloc (.cells #[.int .i64 (bn:Int),.int .i64 (sn:Int),.int .i64 0,.int .i64 (st.length:Int)] 73)).grownBy w7 (Value.slice la j lc).ownBlock:=k20;have QB:aI (fun g=>(Value.slice la j lc).ownBlock=some g) wz.drew w7:=((aI.refl _ wz.drew).alloc _).grown k2 (fun g hg _=>hg);have T7:Turn qy (ext qy wz.drew.heap.size (M+2)) (fun x=>x=M+2) wz.drew w7:=Turn.gN qy (M+2) QB (fun g _ hg=>Il.out.2 g hg);have vY:Own w7 (ext qy wz.drew.heap.size (M+2)) (M+2) 73 4 v7 (j+1) (gH (iN P j).lines ++ [.int .i64 (bn:Int),.int .i64 (sn:Int),.int .i64 0,.int .i64 (st.length:Int)]):=⟨k1,fun g hg=>by
        rcases k4 with k4 | k4
        ·
         rw [k4] at hg;exact (bX (Il.out.1.lt g hg).2).trans (Il.out.2 g hg)
        ·
         rw [k4] at hg;have e:=Option.some.inj hg;simp at e;exact aW (by simp;omega)⟩
       have hle:gH (iN P j).lines ++ [.int .i64 (bn:Int),.int .i64 (sn:Int),.int .i64 0,.int .i64 (st.length:Int)]=gH ((P.lines.take j).map dZ ++ [dZ ⟨(bn:Int),sn,st⟩]):=by
        unfold gH;rw [List.flatMap_append];simp [jc,dZ,iN]
       have hlen:((P.lines.take j).map dZ ++ [dZ ⟨(bn:Int),sn,st⟩]).length=j+1:=by
        have:=FC.out
        change ((P.lines.take j).map dZ).length=j at this
        rw [List.length_append,this];rfl
       rw [hle] at vY;have MM:=(WZ.out.drewN 1).Ig (l:=(P.lines.take j).map dZ ++ [dZ ⟨(bn:Int),sn,st⟩]) (lv:=v7) T7 (by rw [hlen];exact vY);have hfr:=(WZ.out.blk.turn ((Turn.refl qy (fun _=>False) _).drewN 1) (fun h=>h)).turn T7 (by omega);have e1:=hfr.cell 1 v.lines (by simp [bC]);have f1:=hfr.frozen 1;have T9:=((Turn.refl qy (Mine M) wz).drewN 1).trans MM.2 (fun _ h=>h);have HKN:=Lib.hid (HKz.out.turn T9 (by unfold Mine;omega));have J5:=Lib.hid (HXz.out.turn T9 (aO (by omega)));have HMN:Hid (aN (w7.setCell ⟨b,1,none⟩ v7) (ext qy wz.drew.heap.size (M+2)) M b (j4 P 0) (iN P (j+1)) { v with lines:=v7 }):=Lib.hid (by rw [HLM.out];exact MM.1);obtain ⟨JE,xw,rfl⟩:=vY.slice;clear k1 k20 k2 QB T7 vY hle hlen MM hfr T9 k4;go_wp2;go_roundw
       case rel=>exact ⟨j+1,_,_,hlt,by go_num,HKN.out,J5.out,HMN.out⟩
       case measure=>simp [intOf];omega
     ·
      obtain rfl:j=P.lines.length:=by omega
      rw [NW] at yP;have z4:=ru.out.cell 4 _ rfl;have hnp:=HP.out.rH
      go_wp2_with fail
      clear z4
      go_loopw [91] (fun i wl=>∃ (k:Nat) (q:Col) (v:bV),k≤P.parts.length∧i=.int .i64 k∧Kept w.heap.size q w wl∧dY wl q (M+210) w.heap.size 26 #[.int .i64 P.memory,.int .i64 P.counters,.int .i64 P.ins,.int .i64 P.outs,.slice ap P.parts.length cp,.slice al P.lines.length cl,.slice ao P.ops.length co]∧aN wl q M b (j4 P k) (uh P k) v) (fun i _=>P.parts.length - (intOf i).toNat)
      case atStart=>exact ⟨0,q,v,Nat.zero_le _,rfl,zW.out,ru.out,yP.out⟩
      case round =>
       clear zW ru yP;obtain ⟨k,q,v,hk,rfl,hK,hX,hM5⟩:=hrel;have zW:=Lib.hid hK;have ru:=Lib.hid hX;have yP:=Lib.hid hM5;clear hK hX hM5
       by_cases hlt:k < P.parts.length
       ·
        have dG:(k:Int) < P.parts.length:=by omega
        obtain ⟨b0,off,rfl,hcap,hb0,hrec⟩:=(Jb.out.below (dU _ _) zW.out.below).at (by omega);obtain ⟨cs,hcs,AO,hcl⟩:=hrec k hlt;obtain ⟨y,rfl,hst⟩:=AO;have c0:=hcl 0 (by omega);have c1:=hcl 1 (by omega);simp [iU] at c0 c1;have iK:(P.parts.length:Int)≤cp:=by omega
        obtain ⟨sa,sc,hxs⟩:=Ints.slice hst;subst hxs;have hgood:=HP.out.parts _ (List.getElem_mem hlt);have hfit:=HF.out _ (List.getElem_mem hlt);have HST:=Lib.hid hst;rw [← Bj hlt] at c0 c1 hgood hfit HST;clear hcl hcs hrec hst;obtain ⟨tg,htg⟩:∃ x,(partAt P k).tag=x:=⟨_,rfl⟩
        have Tz:=Turn.of_below q (M+213) (au wr (.cells #[.int .u8 (partAt P k).tag,.slice sa (partAt P k).params.length sc] 50));have Zb:=fJ (w:=wr) q (M+213) #[.int .u8 (partAt P k).tag,.slice sa (partAt P k).params.length sc] 50;have Mz:=yP.out.turn Tz (fun _ h=>h.elim);have Xz:=ru.out.turn Tz (fun h=>h);have Kz:=zW.out.turn Tz (fun h=>h);have hSz:=HST.out.below (Tz.below (Nat.le_refl _) (fun _ _ h=>h));obtain ⟨pl,hpl⟩:∃ x,(partAt P k).params.length=x:=⟨_,rfl⟩
        have hgn:=Vt (ext q wr.heap.size (M+213)) (M+64+2*k) (M+65+2*k) (by omega) hgood hfit hSz;have y0:=Zb.cell 0 _ rfl;have y1:=Zb.cell 1 _ rfl;have HGN:=Lib.hid hgn;have HGD:=Lib.hid hgood;have WZ:=Lib.hid Mz;have HXz:=Lib.hid Xz;have HKz:=Lib.hid Kz;generalize ext q wr.heap.size (M+213)=qz at *;clear Tz Zb Mz Xz Kz hSz hgn hgood hfit htg hpl HST
        go_wp2_with fail
        refine HGN.out.mono ?_;rintro e w5 ⟨B,q5,rfl,T5,A5⟩;have Yq:=Lib.hid (WZ.out.turn T5 (fun _ h=>h.elim));have NZ:=Lib.hid (HXz.out.turn T5 (fun h=>h));have N8:=Lib.hid (HKz.out.turn T5 (fun h=>h));have HA6:=Lib.hid A5;clear HGN T5 A5 WZ HXz HKz y0 y1 c0 c1
        go_wp2_with fail
        refine (C9 HA6.out).mono ?_;rintro e w6 ⟨g1,c1,g2,c2,rfl,K1,K2,ZY,hb6⟩;have T6:=Turn.of_below q5 (M+214) hb6;have pR:=Lib.hid (Yq.out.turn T6 (fun _ h=>h.elim));have HX7:=Lib.hid (NZ.out.turn T6 (fun h=>h));have Ja:=Lib.hid (N8.out.turn T6 (fun h=>h));have LC:=Lib.hid (HA6.out.turn T6 (fun h=>h) (fun h=>h));have qP:=Lib.hid K1;have Bn:=Lib.hid (pQ HGD.out);have wJ:=Lib.hid (xI HGD.out);generalize ext q5 _ (M+214)=q7 at *;obtain ⟨is,his⟩:∃ x,bT (partAt P k).tag (partAt P k).params=x:=⟨_,rfl⟩
        rw [his] at qP Bn wJ ⊢;clear K1 K2 ZY hb6 T6 Yq NZ N8 HA6 his;obtain ⟨n,hn⟩:∃ x,is.length=x:=⟨_,rfl⟩
        have JW:=Bn.out.2;rw [hn] at JW qP ⊢;have ER:=Lib.hid hn;clear hn
        go_wp2_with fail
        go_loopw [12,113] (fun sv i wl=>∃ (t:Nat),t≤n∧i=.int .i64 t∧sv=.int .i64 (is.take t).sum∧wl=w6) (fun _ i _=>n - (intOf i).toNat)
        case atStart=>exact ⟨0,Nat.zero_le _,rfl,rfl,rfl⟩
        case round =>
         obtain ⟨t,ht,rfl,rfl,hww⟩:=hrel;subst hww;have hsb:=yX is t Bn.out.1
         by_cases htn:t < n
         ·
          have ad2:(t:Int) < n:=by omega
          have htl:t < is.length:=by have:=ER.out;omega
          have hK1:=qP.out;rw [← ER.out] at hK1;obtain ⟨g1',e1,-,-,-,-,f1⟩:=Lc hK1 htl;obtain rfl:g1=g1':=by simpa using e1
          have hr:=Bn.out.1 _ (List.getElem_mem htl);have hts:(is.take (t+1)).sum=(is.take t).sum+is[t]:=by
           rw [List.take_succ_eq_append_getElem htl,List.sum_append];simp
          rw [show is[t]?.getD 0=is[t] by simp [htl]] at f1;obtain ⟨r,hre⟩:∃ x,is[t]=x:=⟨_,rfl⟩
          rw [hre] at f1 hr hts;obtain ⟨s0,hs0⟩:∃ x,(is.take t).sum=x:=⟨_,rfl⟩
          rw [hs0] at hts hsb ⊢;have ew:IntKind.i64.wrap (s0+r)=s0+r:=IntWalk.i64_in _ (by omega);clear hK1 e1 hre hs0;go_wp2;go_roundw
          case rel=>exact ⟨t+1,htn,by go_num,by rw [hts],trivial⟩
          case measure=>simp [intOf];omega
         ·
          obtain rfl:t=n:=by omega
          have hall:is.take t=is:=List.take_of_length_le (by rw [ER.out];exact Nat.le_refl _);rw [hall] at hsb ⊢;obtain ⟨sm,hsm⟩:∃ x,is.sum=x:=⟨_,rfl⟩
          have HSM:Hid ((kU (partAt P k):Int)=sm):=Lib.hid (wJ.out.trans hsm);rw [hsm] at hsb ⊢;clear hall hsm;have hM7:=pR.out;have hfl:=uN (P:=P) (k:=k) hk;have hB7:Own wr q7 (M+7) 74 1 v.bH k (v.ptrs.map tL):=by
           have:=hM7.bH;rw [hfl] at this;exact this
          have hT7:Own wr q7 (M+6) 3 1 v.takes k (aV (BI P k)):=by
           have:=hM7.takes;rw [hfl] at this;exact this
          have rQ:Hid (v.ptrs.length=k):=Lib.hid (hM7.ptrs.trans hfl);obtain ⟨ba,bc,eb⟩:=hB7.slice;obtain ⟨ta,tc,et⟩:=hT7.slice;rw [eb] at hB7;rw [et] at hT7;have HS:Hid (∀ {w':World} {q':Col},nH w' q' M b (j4 P k) (uh P k) v→w'.cell? ⟨b,6,none⟩=some (.slice ba k bc)∧w'.cell? ⟨b,5,none⟩=some (.slice ta k tc)):=Lib.hid fun h=>by
           rw [← eb,← et];exact ⟨h.blk.cell 6 _ (by simp [bC]),h.blk.cell 5 _ (by simp [bC])⟩
          have hs6:=HS.out hM7.core;obtain ⟨ip,hip,ip0,ip1,ip2⟩:=info_parts Kk;obtain ⟨ii,hii,ii0,ii1,ii2⟩:=info_parts bJ;have HIP:=Lib.hid hip;have WR:=Lib.hid hii;obtain ⟨qd,hqd⟩:∃ x,q7=x:=⟨_,rfl⟩
          have HC:=Lib.hid (hM7.core.turn ((Turn.refl q7 (fun _=>False) wr).drewN 1) (fun _ h=>h.elim));have oQ:=Lib.hid (hB7.turn ((Turn.refl q7 (fun _=>False) wr).drewN 1) (fun h=>h));have qC:=Lib.hid (hT7.turn ((Turn.refl q7 (fun _=>False) wr).drewN 1) (fun h=>h));have HA:=Lib.hid (Act.drewN LC.out 1);have HX:=Lib.hid (HX7.out.drewN 1);have HK:=Lib.hid (Ja.out.drewN 1);rw [hqd] at HC oQ qC HA HX HK
          change Hid (nH wr.drew _ _ _ _ _ _) at HC
          change Hid (Own wr.drew _ _ _ _ _ _ _) at oQ
          change Hid (Own wr.drew _ _ _ _ _ _ _) at qC
          change Hid (Act wr.drew _ _ _ _ _ _ _ _) at HA
          change Hid (dY wr.drew _ _ _ _ _) at HX
          change Hid (Kept _ _ _ wr.drew) at HK
          clear hM7 hB7 hT7 eb et hip hii hqd hfl pR LC HX7 Ja qP hsb
          go_wp2_with fail
          refine dB (fun w'=>w'.cell? ⟨b,6,none⟩=some (.slice ba k bc)∧w'.cell? ⟨b,5,none⟩=some (.slice ta k tc)) [0,1,2,3,4,5,6,9,10,11,12,13] [7,8,14] [0,1,2,3,4,5,6,9,10,11,12,13] 10 (by kernel_rfl) (by kernel_rfl) rfl hs6 ?_;intro Q' hQ' lq;simp only [pk];refine aA ?_;refine av ?_;clear hs6;obtain ⟨wd,hwd⟩:∃ x,wr.drew=x:=⟨_,rfl⟩
          rw [hwd] at HC oQ qC HA HX HK ⊢;clear hwd;refine iT (i:=7) (k:=14) (by kernel_rfl) ?_ ?_
          ·
           skip
           have T1:=Turn.of_below qd (M+215) (au wd (.cells #[tL B] 74));have N1:=fJ (w:=wd) qd (M+215) #[tL B] 74;replace HC:=Lib.hid (HC.out.turn T1 (fun _ h=>h.elim));replace oQ:=Lib.hid (oQ.out.turn T1 (fun h=>h));replace qC:=Lib.hid (qC.out.turn T1 (fun h=>h));replace HA:=Lib.hid (Act.turn HA.out T1 (fun h=>h) (fun h=>h));replace HX:=Lib.hid (HX.out.turn T1 (fun h=>h));replace HK:=Lib.hid (HK.out.turn T1 (fun h=>h));simp only [pk]
           go_wp2_with fail
           refine ⟨by intros;exact HS.out HC.out,?_⟩;obtain ⟨p8,hp8⟩:∃ x,wd.heap.size=x:=⟨_,rfl⟩
           change dM _ _ _ _ _ _ _ _ _ (wd.alloc (.cells #[tL B] 74))
           obtain ⟨Oa,SB⟩:∃ x,wd.alloc (.cells #[tL B] 74)=x:=⟨_,rfl⟩
           rw [SB] at N1 HC oQ qC HA HX HK ⊢;generalize ext qd wd.heap.size (M+215)=qb1 at *;rw [hp8] at N1 ⊢;have Cg:=Lib.hid N1;clear T1 N1 SB hp8;refine iT (i:=8) (k:=14) (by kernel_rfl) ?_ ?_
           ·
            skip
            simp only [pk]
            go_wp2_with (at_builtin;refine aM ?_)
            refine bR ?_;refine aR rfl _ _ 66 rfl 0 74 ip _ 1 8 Tryz.underlying66 HIP.out ip0 ip1 ip2 rfl (.slice ba k bc) k _ rfl oQ.out.1 (some ⟨p8,0,none⟩) 1 1 [tL B] rfl rfl (fun h=>by cases h) (pX Cg.out) (by simp [Value.oneCell',tL]) (by unfold maxLen;omega) (aZ (by omega)) (Nat.zero_le _) ?_;intro v8 w8 k1 k2 _ k4;obtain ⟨q8,T8,L8⟩:=mX oQ.out k1 k2 k4;replace HC:=Lib.hid (HC.out.turn T8 (fun x hx=>by rw [hx];exact .inr ((.inr rfl))));replace qC:=Lib.hid (qC.out.turn T8 (by omega));replace HA:=Lib.hid (Act.turn HA.out T8 (by omega) (by omega));replace HX:=Lib.hid (HX.out.turn T8 (by omega));replace HK:=Lib.hid (HK.out.turn T8 (by omega));replace Cg:=Lib.hid (Cg.out.turn T8 (by omega));replace oQ:=Lib.hid L8;obtain ⟨va,vc,rfl⟩:=L8.slice;clear k1 k2 k4 T8 L8;go_wp2;refine ⟨by intros;exact HS.out HC.out,?_⟩;refine aG (i:=14) (by kernel_rfl) ?_;have T3:=Turn.of_below q8 (M+216) (au w8 (.cells #[.int .i64 sm] 3));have N3:=fJ (w:=w8) q8 (M+216) #[.int .i64 sm] 3;replace HC:=Lib.hid (HC.out.turn T3 (fun _ h=>h.elim));replace oQ:=Lib.hid (oQ.out.turn T3 (fun h=>h));replace qC:=Lib.hid (qC.out.turn T3 (fun h=>h));replace HA:=Lib.hid (Act.turn HA.out T3 (fun h=>h) (fun h=>h));replace HX:=Lib.hid (HX.out.turn T3 (fun h=>h));replace HK:=Lib.hid (HK.out.turn T3 (fun h=>h));replace Cg:=Lib.hid (Cg.out.turn T3 (fun h=>h));simp only [pk]
            go_wp2_with fail
            refine ⟨by intros;exact HS.out HC.out,?_⟩;obtain ⟨RB,Im⟩:∃ x,w8.heap.size=x:=⟨_,rfl⟩
            change dM _ _ _ _ _ _ _ _ _ (w8.alloc (.cells #[.int .i64 sm] 3))
            obtain ⟨wb3,abf⟩:∃ x,w8.alloc (.cells #[.int .i64 sm] 3)=x:=⟨_,rfl⟩
            rw [abf] at N3 HC oQ qC HA HX HK Cg ⊢;generalize ext q8 w8.heap.size (M+216)=qb3 at *;rw [Im] at N3 ⊢;have qR:=Lib.hid N3;clear T3 N3 abf Im;clear lq;refine bg (ks:=[15,16,17,18,19,20,21]) (fun _ _ hx h=>⟨hx.cell h.1,hx.cell h.2⟩) (by kernel_rfl) ?_;simp only [pk]
            go_wp2_with (at_builtin;refine aM ?_)
            refine bR ?_;refine aR rfl _ _ 42 rfl 0 3 ii _ 1 8 Tryz.underlying42 WR.out ii0 ii1 ii2 rfl (.slice ta k tc) k _ rfl qC.out.1 (some ⟨RB,0,none⟩) 1 1 [.int .i64 sm] rfl rfl (fun h=>by cases h) (pX qR.out) (by simp [Value.oneCell']) (by unfold maxLen;omega) (aZ (by omega)) (Nat.zero_le _) ?_;intro v15 w15 k1 k2 _ k4;obtain ⟨q15,T15,SC⟩:=mX qC.out k1 k2 k4;replace HC:=Lib.hid (HC.out.turn T15 (fun x hx=>by rw [hx];exact .inr ((.inl rfl))));replace oQ:=Lib.hid (oQ.out.turn T15 (by omega));replace HA:=Lib.hid (Act.turn HA.out T15 (by omega) (by omega));replace HX:=Lib.hid (HX.out.turn T15 (by omega));replace HK:=Lib.hid (HK.out.turn T15 (by omega));replace Cg:=Lib.hid (Cg.out.turn T15 (by omega));replace qR:=Lib.hid (qR.out.turn T15 (by omega));obtain ⟨ua,uc,rfl⟩:=SC.slice;have MM:=BJ HP.out.rH HC.out hlt rQ.out (by rw [List.map_append];exact oQ.out) (by rw [rW hlt,HSM.out];exact SC) HA.out;have rz:=Lib.hid MM.1;have HKK:=Lib.hid (HK.out.turn MM.2 (by omega));have zZ:=Lib.hid (HX.out.turn MM.2 (by omega));have d6:=HC.out.blk.cell 6 v.bH (by simp [bC]);have d5:=HC.out.blk.cell 5 v.takes (by simp [bC]);have e6:=HC.out.blk.frozen 6;have e5:=HC.out.blk.frozen 5;clear k1 k2 k4 T15 SC MM;go_wp2;go_roundw
            case rel=>exact ⟨k+1,q15,_,hlt,by go_num,HKK.out,zZ.out,rz.out⟩
            case measure=>simp [intOf];omega
           ·
            skip
            have T2:=Turn.of_below qb1 (M+216) (au Oa (.cells #[.int .i64 sm] 3));have N2:=fJ (w:=Oa) qb1 (M+216) #[.int .i64 sm] 3;replace HC:=Lib.hid (HC.out.turn T2 (fun _ h=>h.elim));replace oQ:=Lib.hid (oQ.out.turn T2 (fun h=>h));replace qC:=Lib.hid (qC.out.turn T2 (fun h=>h));replace HA:=Lib.hid (Act.turn HA.out T2 (fun h=>h) (fun h=>h));replace HX:=Lib.hid (HX.out.turn T2 (fun h=>h));replace HK:=Lib.hid (HK.out.turn T2 (fun h=>h));replace Cg:=Lib.hid (Cg.out.turn T2 (fun h=>h));simp only [pk]
            go_wp2_with fail
            refine ⟨by intros;exact HS.out HC.out,?_⟩;obtain ⟨RB,Im⟩:∃ x,Oa.heap.size=x:=⟨_,rfl⟩
            change dM _ _ _ _ _ _ _ _ _ (Oa.alloc (.cells #[.int .i64 sm] 3))
            obtain ⟨wb2,SE⟩:∃ x,Oa.alloc (.cells #[.int .i64 sm] 3)=x:=⟨_,rfl⟩
            rw [SE] at N2 HC oQ qC HA HX HK Cg ⊢;generalize ext qb1 Oa.heap.size (M+216)=qb2 at *;rw [Im] at N2 ⊢;have qR:=Lib.hid N2;clear T2 N2 SE Im;refine aG (i:=8) (by kernel_rfl) ?_;simp only [pk]
            go_wp2_with (at_builtin;refine aM ?_)
            refine bR ?_;refine aR rfl _ _ 66 rfl 0 74 ip _ 1 8 Tryz.underlying66 HIP.out ip0 ip1 ip2 rfl (.slice ba k bc) k _ rfl oQ.out.1 (some ⟨p8,0,none⟩) 1 1 [tL B] rfl rfl (fun h=>by cases h) (pX Cg.out) (by simp [Value.oneCell',tL]) (by unfold maxLen;omega) (aZ (by omega)) (Nat.zero_le _) ?_;intro v8 w8 k1 k2 _ k4;obtain ⟨q8,T8,L8⟩:=mX oQ.out k1 k2 k4;replace HC:=Lib.hid (HC.out.turn T8 (fun x hx=>by rw [hx];exact .inr ((.inr rfl))));replace qC:=Lib.hid (qC.out.turn T8 (by omega));replace HA:=Lib.hid (Act.turn HA.out T8 (by omega) (by omega));replace HX:=Lib.hid (HX.out.turn T8 (by omega));replace HK:=Lib.hid (HK.out.turn T8 (by omega));replace Cg:=Lib.hid (Cg.out.turn T8 (by omega));replace qR:=Lib.hid (qR.out.turn T8 (by omega));replace oQ:=Lib.hid L8;obtain ⟨va,vc,rfl⟩:=L8.slice;clear k1 k2 k4 T8 L8;go_wp2;refine ⟨by intros;exact HS.out HC.out,?_⟩;clear lq;refine bg (ks:=[15,16,17,18,19,20,21]) (fun _ _ hx h=>⟨hx.cell h.1,hx.cell h.2⟩) (by kernel_rfl) ?_;simp only [pk]
            go_wp2_with (at_builtin;refine aM ?_)
            refine bR ?_;refine aR rfl _ _ 42 rfl 0 3 ii _ 1 8 Tryz.underlying42 WR.out ii0 ii1 ii2 rfl (.slice ta k tc) k _ rfl qC.out.1 (some ⟨RB,0,none⟩) 1 1 [.int .i64 sm] rfl rfl (fun h=>by cases h) (pX qR.out) (by simp [Value.oneCell']) (by unfold maxLen;omega) (aZ (by omega)) (Nat.zero_le _) ?_;intro v15 w15 k1 k2 _ k4;obtain ⟨q15,T15,SC⟩:=mX qC.out k1 k2 k4;replace HC:=Lib.hid (HC.out.turn T15 (fun x hx=>by rw [hx];exact .inr ((.inl rfl))));replace oQ:=Lib.hid (oQ.out.turn T15 (by omega));replace HA:=Lib.hid (Act.turn HA.out T15 (by omega) (by omega));replace HX:=Lib.hid (HX.out.turn T15 (by omega));replace HK:=Lib.hid (HK.out.turn T15 (by omega));replace Cg:=Lib.hid (Cg.out.turn T15 (by omega));replace qR:=Lib.hid (qR.out.turn T15 (by omega));obtain ⟨ua,uc,rfl⟩:=SC.slice;have MM:=BJ HP.out.rH HC.out hlt rQ.out (by rw [List.map_append];exact oQ.out) (by rw [rW hlt,HSM.out];exact SC) HA.out;have rz:=Lib.hid MM.1;have HKK:=Lib.hid (HK.out.turn MM.2 (by omega));have zZ:=Lib.hid (HX.out.turn MM.2 (by omega));have d6:=HC.out.blk.cell 6 v.bH (by simp [bC]);have d5:=HC.out.blk.cell 5 v.takes (by simp [bC]);have e6:=HC.out.blk.frozen 6;have e5:=HC.out.blk.frozen 5;clear k1 k2 k4 T15 SC MM;go_wp2;go_roundw
            case rel=>exact ⟨k+1,q15,_,hlt,by go_num,HKK.out,zZ.out,rz.out⟩
            case measure=>simp [intOf];omega
          ·
           skip
           have T1:=Turn.of_below qd (M+216) (au wd (.cells #[.int .i64 sm] 3));have N1:=fJ (w:=wd) qd (M+216) #[.int .i64 sm] 3;replace HC:=Lib.hid (HC.out.turn T1 (fun _ h=>h.elim));replace oQ:=Lib.hid (oQ.out.turn T1 (fun h=>h));replace qC:=Lib.hid (qC.out.turn T1 (fun h=>h));replace HA:=Lib.hid (Act.turn HA.out T1 (fun h=>h) (fun h=>h));replace HX:=Lib.hid (HX.out.turn T1 (fun h=>h));replace HK:=Lib.hid (HK.out.turn T1 (fun h=>h));simp only [pk]
           go_wp2_with fail
           refine ⟨by intros;exact HS.out HC.out,?_⟩;obtain ⟨RB,Im⟩:∃ x,wd.heap.size=x:=⟨_,rfl⟩
           change dM _ _ _ _ _ _ _ _ _ (wd.alloc (.cells #[.int .i64 sm] 3))
           obtain ⟨Oa,SB⟩:∃ x,wd.alloc (.cells #[.int .i64 sm] 3)=x:=⟨_,rfl⟩
           rw [SB] at N1 HC oQ qC HA HX HK ⊢;generalize ext qd wd.heap.size (M+216)=qb1 at *;rw [Im] at N1 ⊢;have qR:=Lib.hid N1;clear T1 N1 SB Im;refine aG (i:=7) (by kernel_rfl) ?_;have T2:=Turn.of_below qb1 (M+215) (au Oa (.cells #[tL B] 74));have N2:=fJ (w:=Oa) qb1 (M+215) #[tL B] 74;replace HC:=Lib.hid (HC.out.turn T2 (fun _ h=>h.elim));replace oQ:=Lib.hid (oQ.out.turn T2 (fun h=>h));replace qC:=Lib.hid (qC.out.turn T2 (fun h=>h));replace HA:=Lib.hid (Act.turn HA.out T2 (fun h=>h) (fun h=>h));replace HX:=Lib.hid (HX.out.turn T2 (fun h=>h));replace HK:=Lib.hid (HK.out.turn T2 (fun h=>h));replace qR:=Lib.hid (qR.out.turn T2 (fun h=>h));simp only [pk]
           go_wp2_with fail
           refine ⟨by intros;exact HS.out HC.out,?_⟩;obtain ⟨p8,hp8⟩:∃ x,Oa.heap.size=x:=⟨_,rfl⟩
           change dM _ _ _ _ _ _ _ _ _ (Oa.alloc (.cells #[tL B] 74))
           obtain ⟨wb2,SE⟩:∃ x,Oa.alloc (.cells #[tL B] 74)=x:=⟨_,rfl⟩
           rw [SE] at N2 HC oQ qC HA HX HK qR ⊢;generalize ext qb1 Oa.heap.size (M+215)=qb2 at *;rw [hp8] at N2 ⊢;have Cg:=Lib.hid N2;clear T2 N2 SE hp8;refine aG (i:=8) (by kernel_rfl) ?_;simp only [pk]
           go_wp2_with (at_builtin;refine aM ?_)
           refine bR ?_;refine aR rfl _ _ 66 rfl 0 74 ip _ 1 8 Tryz.underlying66 HIP.out ip0 ip1 ip2 rfl (.slice ba k bc) k _ rfl oQ.out.1 (some ⟨p8,0,none⟩) 1 1 [tL B] rfl rfl (fun h=>by cases h) (pX Cg.out) (by simp [Value.oneCell',tL]) (by unfold maxLen;omega) (aZ (by omega)) (Nat.zero_le _) ?_;intro v8 w8 k1 k2 _ k4;obtain ⟨q8,T8,L8⟩:=mX oQ.out k1 k2 k4;replace HC:=Lib.hid (HC.out.turn T8 (fun x hx=>by rw [hx];exact .inr ((.inr rfl))));replace qC:=Lib.hid (qC.out.turn T8 (by omega));replace HA:=Lib.hid (Act.turn HA.out T8 (by omega) (by omega));replace HX:=Lib.hid (HX.out.turn T8 (by omega));replace HK:=Lib.hid (HK.out.turn T8 (by omega));replace Cg:=Lib.hid (Cg.out.turn T8 (by omega));replace qR:=Lib.hid (qR.out.turn T8 (by omega));replace oQ:=Lib.hid L8;obtain ⟨va,vc,rfl⟩:=L8.slice;clear k1 k2 k4 T8 L8;go_wp2;refine ⟨by intros;exact HS.out HC.out,?_⟩;clear lq;refine bg (ks:=[15,16,17,18,19,20,21]) (fun _ _ hx h=>⟨hx.cell h.1,hx.cell h.2⟩) (by kernel_rfl) ?_;simp only [pk]
           go_wp2_with (at_builtin;refine aM ?_)
           refine bR ?_;refine aR rfl _ _ 42 rfl 0 3 ii _ 1 8 Tryz.underlying42 WR.out ii0 ii1 ii2 rfl (.slice ta k tc) k _ rfl qC.out.1 (some ⟨RB,0,none⟩) 1 1 [.int .i64 sm] rfl rfl (fun h=>by cases h) (pX qR.out) (by simp [Value.oneCell']) (by unfold maxLen;omega) (aZ (by omega)) (Nat.zero_le _) ?_;intro v15 w15 k1 k2 _ k4;obtain ⟨q15,T15,SC⟩:=mX qC.out k1 k2 k4;replace HC:=Lib.hid (HC.out.turn T15 (fun x hx=>by rw [hx];exact .inr ((.inl rfl))));replace oQ:=Lib.hid (oQ.out.turn T15 (by omega));replace HA:=Lib.hid (Act.turn HA.out T15 (by omega) (by omega));replace HX:=Lib.hid (HX.out.turn T15 (by omega));replace HK:=Lib.hid (HK.out.turn T15 (by omega));replace Cg:=Lib.hid (Cg.out.turn T15 (by omega));replace qR:=Lib.hid (qR.out.turn T15 (by omega));obtain ⟨ua,uc,rfl⟩:=SC.slice;have MM:=BJ HP.out.rH HC.out hlt rQ.out (by rw [List.map_append];exact oQ.out) (by rw [rW hlt,HSM.out];exact SC) HA.out;have rz:=Lib.hid MM.1;have HKK:=Lib.hid (HK.out.turn MM.2 (by omega));have zZ:=Lib.hid (HX.out.turn MM.2 (by omega));have d6:=HC.out.blk.cell 6 v.bH (by simp [bC]);have d5:=HC.out.blk.cell 5 v.takes (by simp [bC]);have e6:=HC.out.blk.frozen 6;have e5:=HC.out.blk.frozen 5;clear k1 k2 k4 T15 SC MM;go_wp2;go_roundw
           case rel=>exact ⟨k+1,q15,_,hlt,by go_num,HKK.out,zZ.out,rz.out⟩
           case measure=>simp [intOf];omega
       ·
        obtain rfl:k=P.parts.length:=by omega
        rw [Kj,NV] at yP;go_wp2
        go_ret2
        exact Sv hM zW.out yP.out
def iA (P:ay)(x:fG)(st:List Nat):Int :=
 if x.kind=1 then (if st.any (fun f=>decide ((jy P f).a=x.a)) then 201 else 0)
 else if x.kind=2 then (match st with | []=>201 | p :: _=>if (jy P p).a≠x.a∨x.b≠p+1 then 201 else 0)
 else if x.kind=0 then (if st=[] then 0 else 201)
 else 0
def mg (i:Nat)(x:fG)(st:List Nat):List Nat:=if x.kind=1 then i :: st else if x.kind=2 then st.tail else st
def jr (P:ay):List fG→Nat→List Nat→Int
 | [],_,_=>mK P
 | x :: r,i,st=>if !cK P i x then 200 else if iA P x st≠0 then iA P x st else jr P r (i+1) (mg i x st)
theorem Km (P:ay)(x:fG)(st:lN):iA P x (st.2.map Prod.fst)=dR P x st:=by
 obtain ⟨b,fr⟩:=st;unfold iA dR
 by_cases h1:x.kind=1
 ·
  rw [if_pos h1,if_pos h1,List.any_map];rfl
 rw [if_neg h1,if_neg h1]
 by_cases h2:x.kind=2
 ·
  rw [if_pos h2,if_pos h2];cases fr <;> rfl
 rw [if_neg h2,if_neg h2]
 by_cases h0:x.kind=0
 ·
  rw [if_pos h0,if_pos h0];cases fr <;> simp
 rw [if_neg h0,if_neg h0]
theorem Io (k:Int)(st:lN):(uz k st).2.map Prod.fst=st.2.map Prod.fst:=by
 obtain ⟨b,fr⟩:=st;cases fr with
 | nil=>rfl
 | cons f r=>obtain ⟨p,s⟩:=f;rfl
theorem Ip (P:ay)(i:Nat)(x:fG)(st:lN):mg i x (st.2.map Prod.fst)=(lG P i x st).2.map Prod.fst:=by
 obtain ⟨b,fr⟩:=st;unfold mg lG
 by_cases h1:x.kind=1
 ·
  rw [if_pos h1,if_pos h1];rfl
 rw [if_neg h1,if_neg h1]
 by_cases h2:x.kind=2
 ·
  rw [if_pos h2,if_pos h2];cases fr with
  | nil=>rfl
  | cons f r=>obtain ⟨p,s⟩:=f;simp only;rw [Io];rfl
 rw [if_neg h2,if_neg h2,Io]
theorem yY {P:ay}:∀ (L:List fG) (i:Nat) (st:lN),(jJ P L i st).2=jr P L i (st.2.map Prod.fst)
 | [],i,st=>rfl
 | x :: r,i,st=>by
  rw [jJ,jr,Km,Ip P]
  split
  ·
   rfl
  ·
   split
   ·
    rfl
   ·
    exact yY r (i+1) _
def mh (ops:List fG):Nat→Nat→Int→Int × Nat
 | 0,at',n=>(n,at')
 | f+1,at',n =>
  if at' < ops.length∧(bI ops at').kind≠2 then
   (if (bI ops at').kind=1 then
    mh ops f ((mh ops f (at'+1) 0).2+1) (min 131073 (n+(if (mh ops f (at'+1) 0).1 < 131073∧(mh ops f (at'+1) 0).1+1≤131073 / (bI ops at').b then 1+(bI ops at').b*((mh ops f (at'+1) 0).1+1) else 131073)))
   else mh ops f (at'+1) (min 131073 (n+1)))
  else (n,at')
theorem rX (ops:List fG):∀ (f i:Nat) (n:Int),i≤(mh ops f i n).2
 | 0,i,n=>Nat.le_refl _
 | f+1,i,n=>by
  rw [mh]
  split
  ·
   split
   ·
    have h1:=rX ops f (i+1) 0;exact Nat.le_trans (by omega) (rX ops f _ _)
   ·
    exact Nat.le_trans (by omega) (rX ops f _ _)
  ·
   exact Nat.le_refl _
theorem qD (ops:List fG):∀ (f g i:Nat) (n:Int),ops.length - i < f→f≤g→mh ops g i n=mh ops f i n
 | 0,_,_,_,h,_=>by omega
 | f+1,0,_,_,_,h=>by omega
 | f+1,g+1,i,n,h,hfg=>by
  rw [mh,mh]
  by_cases hc:i < ops.length∧(bI ops i).kind≠2
  ·
   rw [if_pos hc,if_pos hc];have h1:=qD ops f g (i+1) 0 (by omega) (by omega);have h2:=rX ops f (i+1) 0;rw [h1]
   split
   ·
    exact qD ops f g _ _ (by omega) (by omega)
   ·
    exact qD ops f g _ _ (by omega) (by omega)
  ·
   rw [if_neg hc,if_neg hc]
def ig (ops:List fG)(i:Nat)(n:Int):Int × Nat:=mh ops (ops.length - i+1) i n
theorem BL (ops:List fG)(i:Nat)(n:Int){f:Nat}(h:ops.length - i < f):mh ops f i n=ig ops i n:=qD ops _ f i n (by omega) (by omega)
theorem nI {ops:List fG}{i:Nat}{n:Int}(h:¬ (i < ops.length∧(bI ops i).kind≠2)):ig ops i n=(n,i):=by
 unfold ig;rw [mh,if_neg h]
theorem BM {ops:List fG}{i:Nat}{n:Int}(h:i < ops.length)(h2:(bI ops i).kind≠2)(h1:(bI ops i).kind≠1):ig ops i n=ig ops (i+1) (min 131073 (n+1)):=by
 rw [ig,mh,if_pos ⟨h,h2⟩,if_neg h1];exact BL ops _ _ (by omega)
theorem BN {ops:List fG}{i:Nat}{n:Int}(h:i < ops.length)(h1:(bI ops i).kind=1):ig ops i n=ig ops ((ig ops (i+1) 0).2+1) (min 131073 (n+(if (ig ops (i+1) 0).1 < 131073∧(ig ops (i+1) 0).1+1≤131073 / (bI ops i).b then 1+(bI ops i).b*((ig ops (i+1) 0).1+1) else 131073))):=by
 have hg:=rX ops (ops.length - i) (i+1) 0;rw [ig,mh,if_pos ⟨h,by omega⟩,if_pos h1];rw [BL ops (i+1) 0 (by omega)] at hg ⊢;exact BL ops _ _ (by omega)
theorem tq {ops:List fG}{k:Nat}:∀ (T:Tree) (O:List Nat) (i:Nat) (R:List fG) (n:Int),T.ok k O→ops.drop i=T.flat i ++ R→0≤n→n≤131073→ig ops i n=ig ops (i+T.len) (min 131073 (n+T.cost))
 | .nil,O,i,R,n,_,_,_,_=>by
  rw [Tree.len,Tree.cost,Nat.add_zero,show min 131073 (n+((0:Nat):Int))=n by omega]
 | .op x r,O,i,R,n,hk,hd,h0,hn=>by
  obtain ⟨⟨_,k1,k2⟩,hr⟩:=hk;obtain ⟨d1,d2,d3⟩:=jA (R:=r.flat (i+1) ++ R) hd;have hx:=jN d2;have hc:((Tree.op x r).cost:Int)=1+r.cost:=by rw [Tree.cost];omega
  rw [BM d1 (by rw [hx];exact k2) (by rw [hx];exact k1),tq r O (i+1) R _ hr d3 (by omega) (by omega),hc,Tree.len]
  congr 1 <;> omega
 | .loop c t b r,O,i,R,n,hk,hd,h0,hn=>by
  obtain ⟨_,_,t1,t2,kb,kr⟩:=hk;rw [Tree.flat,List.cons_append,List.append_assoc,List.cons_append] at hd;obtain ⟨d1,d2,d3⟩:=jA hd;have hx:=jN d2;have e3:ops.drop (i+1+b.len)=⟨2,c,((i+1:Nat):Int)⟩ :: (r.flat (i+b.len+2) ++ R):=by
   rw [← List.drop_drop,d3,List.drop_left' (Tree.jb b _)]
  obtain ⟨f1,f2,f3⟩:=jA e3;have hy:=jN f2;have hc:((Tree.loop c t b r).cost:Int)=1+t*((b.cost:Int)+1)+r.cost:=by
   rw [Tree.cost]
   push_cast
   rw [show ((t.toNat:Nat):Int)=t by omega]
  have hm:=zT t1 (show 0≤(b.cost:Int)+1 by omega);have hin:ig ops (i+1) 0=(min 131073 (b.cost:Int),i+1+b.len):=by
   rw [tq b _ (i+1) _ 0 kb d3 (Int.le_refl _) (by omega),nI (by rw [hy];rintro ⟨_,h⟩;exact h rfl),Int.zero_add]
  have hsum:min 131073 (n+(if min 131073 (b.cost:Int) < 131073∧min 131073 (b.cost:Int)+1≤131073 / t then 1+t*(min 131073 (b.cost:Int)+1) else 131073))=min 131073 (n+(1+t*((b.cost:Int)+1))):=by
   by_cases hb:(b.cost:Int) < 131073
   ·
    rw [show min 131073 (b.cost:Int)=b.cost by omega]
    by_cases hdiv:(b.cost:Int)+1≤131073 / t
    ·
     rw [if_pos ⟨hb,hdiv⟩]
    ·
     rw [if_neg (fun h=>hdiv h.2)];have h4:¬ t*((b.cost:Int)+1)≤131073:=fun h5=>hdiv (by rw [Int.le_ediv_iff_mul_le (by omega),Int.mul_comm];exact h5)
     omega
   ·
    rw [if_neg (fun h=>by omega)];omega
  rw [BN d1 (by rw [hx]),hin,hx];simp only;rw [hsum,tq r O (i+1+b.len+1) R _ kr (by have h:=f3;rwa [show i+b.len+2=i+1+b.len+1 by omega] at h) (by omega) (by omega),hc,Tree.len]
  congr 1 <;> omega
def kZ (P:ay):Int:=(ig P.ops 0 0).1
def cu (P:ay):Int :=
 if dD P.memory 1024 && dD P.counters 17 && dD P.ins 16 && dD P.outs 16 then
  (if 32 < P.parts.length∨96 < P.lines.length∨131072 < P.ops.length then 81
  else if gZ P.parts≠0 then gZ P.parts else if iD P.memory P.lines≠0 then iD P.memory P.lines else if jr P P.ops 0 []≠0 then jr P P.ops 0 [] else if 131072 < kZ P then 5 else 0)
 else 1
def lM (P:ay):Int × Int:=if cu P≠0 then (0,cu P) else (kZ P,0)
theorem SF {P:ay}(hc:0≤P.counters){S:Int}(h:jJ P P.ops 0 (0,[])=(S,0)):kZ P=min 131073 S:=by
 obtain ⟨T,hT,hops,hS⟩:=Dp hc h;have hd:P.ops.drop 0=T.flat 0 ++ [⟨0,0,0⟩]:=hops;have e3:P.ops.drop T.len=[⟨0,0,0⟩]:=by
  rw [hops,List.drop_left' (Tree.jb T 0)]
 obtain ⟨f1,f2,f3⟩:=jA e3;have hy:=jN f2;unfold kZ;rw [tq T [] 0 _ 0 hT hd (Int.le_refl _) (by omega),Nat.zero_add,BM f1 (by rw [hy];decide) (by rw [hy];decide),nI (by
  have:=congrArg List.length f3;simp at this;omega)]
 simp only;omega
theorem DY (P:ay):lM P=bW P:=by
 unfold lM cu bW
 by_cases hw:(dD P.memory 1024 && dD P.counters 17 && dD P.ins 16 && dD P.outs 16)=true
 ·
  rw [if_pos hw,if_pos hw];have hc:0≤P.counters:=by
   simp only [Bool.and_eq_true,within_iff] at hw;exact hw.1.1.2.1
  by_cases h1:32 < P.parts.length∨96 < P.lines.length∨131072 < P.ops.length
  ·
   rw [if_pos h1,if_pos h1,if_pos (by decide)]
  rw [if_neg h1,if_neg h1]
  by_cases h2:gZ P.parts≠0
  ·
   rw [if_pos h2,if_pos h2,if_pos h2]
  rw [if_neg h2,if_neg h2]
  by_cases h3:iD P.memory P.lines≠0
  ·
   rw [if_pos h3,if_pos h3,if_pos h3]
  rw [if_neg h3,if_neg h3,Gu hc];have hl:=yY (P:=P) P.ops 0 (0,[])
  change (jJ P P.ops 0 (0,[])).2=jr P P.ops 0 [] at hl
  rw [← hl];have hr:=fun S=>SF (P:=P) (S:=S) hc
  obtain ⟨⟨S,e⟩,hq⟩:∃ x,jJ P P.ops 0 (0,[])=x:=⟨_,rfl⟩
  rw [hq] at hr ⊢;simp only [JH]
  by_cases he:e≠0
  ·
   rw [if_pos he,if_pos he,if_pos he]
  ·
   have he:e=0:=by omega
   subst he;have hs:=hr S rfl;rw [if_neg (show ¬ (0:Int)≠0 by decide),if_neg (show ¬ (0:Int)≠0 by decide),hs]
   by_cases hS:131072 < S
   ·
    rw [if_pos (show 131072 < min 131073 S by omega),if_pos hS,if_pos (by decide)]
   ·
    rw [if_neg (show ¬ 131072 < min 131073 S by omega),if_neg hS,if_neg (by decide)]
    congr 1
    omega
 ·
  rw [if_neg hw,if_neg hw,if_pos (by decide)]
theorem iQ (w:World)(n k:Int):Calls Tryz.prog 93 #[.int .i64 n,.int .i64 k] w (vC (.bool (decide (0≤n) && decide (n < k))) w):=by
 go_enter Tryz.func93,Tryz.ntmps93
 by_cases h1:0≤n
 ·
  rw [decide_eq_true h1,Bool.true_and]
  by_cases h2:n < k
  ·
   rw [decide_eq_true h2];go_wp2;go_ret
   exact ⟨rfl,rfl⟩
  ·
   rw [decide_eq_false h2];go_wp2;go_ret
   exact ⟨rfl,rfl⟩
 ·
  rw [decide_eq_false h1,Bool.false_and];go_wp2;go_ret
  exact ⟨rfl,rfl⟩
theorem lg (w:World)(n k:Int):Calls Tryz.prog 94 #[.int .i64 n,.int .i64 k] w (vC (.bool (decide (1≤n) && decide (n≤k))) w):=by
 go_enter Tryz.func94,Tryz.ntmps94
 by_cases h1:1≤n
 ·
  rw [decide_eq_true h1,Bool.true_and]
  by_cases h2:n≤k
  ·
   rw [decide_eq_true h2];go_wp2;go_ret
   exact ⟨rfl,rfl⟩
  ·
   rw [decide_eq_false h2];go_wp2;go_ret
   exact ⟨rfl,rfl⟩
 ·
  rw [decide_eq_false h1,Bool.false_and];go_wp2;go_ret
  exact ⟨rfl,rfl⟩
theorem Iq (w:World)(v:Value)(P:ay)(i:Nat)(hv:bO w v P)(hz:tT P)(hi:i < P.ops.length):Calls Tryz.prog 75 #[v,.int .i64 i] w (og (.bool (cK P i P.ops[i])) w):=by
 obtain ⟨vp,vl,vo,rfl,rp,rl,ro⟩:=hv;obtain ⟨ap,cp,rfl⟩:=rp.slice;obtain ⟨al,cl,rfl⟩:=rl.slice;obtain ⟨ao,co,rfl⟩:=ro.slice;obtain ⟨Vx,_,bo,oo,rfl,o1,o2,o3⟩:=eB.opAt ro (List.getElem?_eq_getElem hi);obtain ⟨F,hF⟩:∃ F,cK P i P.ops[i]=F:=⟨_,rfl⟩
 rw [hF];obtain ⟨x,hx⟩:∃ x,P.ops[i]=x:=⟨_,rfl⟩
 rw [hx] at hF o1 o2 o3;clear hx rp rl ro;obtain ⟨kd,xa,xb⟩:=x;dsimp only at o1 o2 o3;obtain ⟨z1,z2⟩:=hz.cnt;obtain ⟨z3,z4⟩:=hz.ins;obtain ⟨z5,z6⟩:=hz.outs;have z7:=hz.parts;have z8:=hz.lines;have z9:=hz.ops;unfold cK at hF;dsimp only at hF;have hb1:=au w (.cells #[.int .i64 P.memory,.int .i64 P.counters,.int .i64 P.ins,.int .i64 P.outs,.slice ap P.parts.length cp,.slice al P.lines.length cl,.slice (some ⟨bo,oo,none⟩) P.ops.length co] 26);have hX:=heap_alloc_new w (.cells #[.int .i64 P.memory,.int .i64 P.counters,.int .i64 P.ins,.int .i64 P.outs,.slice ap P.parts.length cp,.slice al P.lines.length cl,.slice (some ⟨bo,oo,none⟩) P.ops.length co] 26);have o1:=cell_later hb1 o1;have o2:=cell_later hb1 o2;have o3:=cell_later hb1 o3;have hs:(w.alloc (.cells #[.int .i64 P.memory,.int .i64 P.counters,.int .i64 P.ins,.int .i64 P.outs,.slice ap P.parts.length cp,.slice al P.lines.length cl,.slice (some ⟨bo,oo,none⟩) P.ops.length co] 26)).heap.size=w.heap.size+1:=by simp
 generalize hW:w.alloc (.cells #[.int .i64 P.memory,.int .i64 P.counters,.int .i64 P.ins,.int .i64 P.outs,.slice ap P.parts.length cp,.slice al P.lines.length cl,.slice (some ⟨bo,oo,none⟩) P.ops.length co] 26)=W at *;have hb2:=au W (.cells #[.int .u8 kd,.int .i64 xa,.int .i64 xb] 58);have hY:=heap_alloc_new W (.cells #[.int .u8 kd,.int .i64 xa,.int .i64 xb] 58);have hX2:=aK hX (.cells #[.int .u8 kd,.int .i64 xa,.int .i64 xb] 58);have y0:=ah _ _ hY 0 _ rfl;have y1:=ah _ _ hY 1 _ rfl;have y2:=ah _ _ hY 2 _ rfl;have p1:=ah _ _ hX2 1 _ rfl;have p2:=ah _ _ hX2 2 _ rfl;have p3:=ah _ _ hX2 3 _ rfl;have p4:=ah _ _ hX2 4 _ rfl;have p5:=ah _ _ hX2 5 _ rfl;have p6:=ah _ _ hX2 6 _ rfl;have q6:=ah _ _ hX 6 _ rfl;have HB:=Lib.hid (hb1.trans (hb2.mono hb1.size));have hii:(i:Int) < P.ops.length:=by omega
 have MC:(P.ops.length:Int)≤co:=by omega
 clear hb1 hb2 hX hX2 hY hz
 by_cases k0:kd=0
 ·
  subst k0;rw [if_pos rfl] at hF;have HF:=Lib.hid hF;clear hF;have hwl:IntKind.i64.wrap ((P.ops.length:Int) - 1)=(P.ops.length:Int) - 1:=IntWalk.i64_in _ (by omega)
  go_enter Tryz.func75,Tryz.ntmps75
  by_cases d1:xa=0
  ·
   by_cases d2:xb=0
   ·
    by_cases d3:i+1=P.ops.length
    ·
     have e:F=true:=by rw [← HF.out,decide_eq_true d1,decide_eq_true d2,decide_eq_true d3];rfl
     subst e;have d3i:((i:Int) == (P.ops.length:Int) - 1)=true:=by rw [beq_iff_eq];omega
     subst d1 d2;go_wp2;go_ret
     exact ⟨rfl,HB.out⟩
    ·
     have e:F=false:=by rw [← HF.out,decide_eq_false d3];simp
     subst e;have d3i:((i:Int) == (P.ops.length:Int) - 1)=false:=by rw [beq_eq_false_iff_ne];omega
     subst d1 d2;go_wp2;go_ret
     exact ⟨rfl,HB.out⟩
   ·
    have e:F=false:=by rw [← HF.out,decide_eq_false d2];simp
    subst e;have d2i:(xb == 0)=false:=by rw [beq_eq_false_iff_ne];exact d2
    subst d1;go_wp2;go_ret
    exact ⟨rfl,HB.out⟩
  ·
   have e:F=false:=by rw [← HF.out,decide_eq_false d1];simp
   subst e;have d1i:(xa == 0)=false:=by rw [beq_eq_false_iff_ne];exact d1
   go_wp2;go_ret
   exact ⟨rfl,HB.out⟩
 ·
  rw [if_neg k0] at hF;have k0i:(kd == 0)=false:=by rw [beq_eq_false_iff_ne];exact k0
  by_cases k1:kd=1
  ·
   subst k1;simp only [jH] at hF;have HF:Hid ((decide (0≤xa) && decide (xa≤P.counters - 1) && decide ((1:Int)≤xb) && decide (xb≤2048))=F):=Lib.hid (by simpa using hF);clear hF
   go_enter Tryz.func75,Tryz.ntmps75
   go_wp2_with fail
   refine (iQ _ _ _).mono ?_;rintro e _ ⟨rfl,rfl⟩
   by_cases d1:0≤xa
   ·
    by_cases d2:xa < P.counters
    ·
     rw [decide_eq_true d1,decide_eq_true d2,Bool.true_and];have e:F=(decide ((1:Int)≤xb) && decide (xb≤2048)):=by rw [← HF.out,decide_eq_true d1,decide_eq_true (show xa≤P.counters - 1 by omega)];simp
     subst e
     go_wp2_with fail
     refine (lg _ _ _).mono ?_;rintro e _ ⟨rfl,rfl⟩;go_wp2;go_ret
     exact ⟨rfl,HB.out⟩
    ·
     have e:F=false:=by rw [← HF.out,decide_eq_false (show ¬ xa≤P.counters - 1 by omega)];simp
     subst e;rw [decide_eq_false d2,Bool.and_false];go_wp2;go_ret
     exact ⟨rfl,HB.out⟩
   ·
    have e:F=false:=by rw [← HF.out,decide_eq_false d1];simp
    subst e;rw [decide_eq_false d1,Bool.false_and];go_wp2;go_ret
    exact ⟨rfl,HB.out⟩
  have k1i:(kd == 1)=false:=by rw [beq_eq_false_iff_ne];exact k1
  by_cases k2:kd=2
  ·
   subst k2;simp only [jH] at hF;have HF:Hid ((decide (0≤xa) && decide (xa≤P.counters - 1) && decide ((0:Int)≤xb) && decide (xb≤(P.ops.length:Int) - 1))=F):=Lib.hid (by simpa using hF);clear hF
   go_enter Tryz.func75,Tryz.ntmps75
   go_wp2_with fail
   refine (iQ _ _ _).mono ?_;rintro e _ ⟨rfl,rfl⟩
   by_cases d1:0≤xa
   ·
    by_cases d2:xa < P.counters
    ·
     rw [decide_eq_true d1,decide_eq_true d2,Bool.true_and];have e:F=(decide ((0:Int)≤xb) && decide (xb≤(P.ops.length:Int) - 1)):=by rw [← HF.out,decide_eq_true d1,decide_eq_true (show xa≤P.counters - 1 by omega)];simp
     subst e
     go_wp2_with fail
     refine (iQ _ _ _).mono ?_;rintro e _ ⟨rfl,rfl⟩;rw [show decide (xb < (P.ops.length:Int))=decide (xb≤(P.ops.length:Int) - 1) from decide_eq_decide.2 (by omega)];go_wp2;go_ret
     exact ⟨rfl,HB.out⟩
    ·
     have e:F=false:=by rw [← HF.out,decide_eq_false (show ¬ xa≤P.counters - 1 by omega)];simp
     subst e;rw [decide_eq_false d2,Bool.and_false];go_wp2;go_ret
     exact ⟨rfl,HB.out⟩
   ·
    have e:F=false:=by rw [← HF.out,decide_eq_false d1];simp
    subst e;rw [decide_eq_false d1,Bool.false_and];go_wp2;go_ret
    exact ⟨rfl,HB.out⟩
  have k2i:(kd == 2)=false:=by rw [beq_eq_false_iff_ne];exact k2
  by_cases k3:kd=3
  ·
   subst k3;simp only [jH] at hF;have HF:Hid ((decide (0≤xa) && decide (xa≤(P.lines.length:Int) - 1) && decide ((1:Int)≤xb) && decide (xb≤64))=F):=Lib.hid (by simpa using hF);clear hF
   go_enter Tryz.func75,Tryz.ntmps75
   go_wp2_with fail
   refine (iQ _ _ _).mono ?_;rintro e _ ⟨rfl,rfl⟩
   by_cases d1:0≤xa
   ·
    by_cases d2:xa < (P.lines.length:Int)
    ·
     rw [decide_eq_true d1,decide_eq_true d2,Bool.true_and];have e:F=(decide ((1:Int)≤xb) && decide (xb≤64)):=by rw [← HF.out,decide_eq_true d1,decide_eq_true (show xa≤(P.lines.length:Int) - 1 by omega)];simp
     subst e
     go_wp2_with fail
     refine (lg _ _ _).mono ?_;rintro e _ ⟨rfl,rfl⟩;go_wp2;go_ret
     exact ⟨rfl,HB.out⟩
    ·
     have e:F=false:=by rw [← HF.out,decide_eq_false (show ¬ xa≤(P.lines.length:Int) - 1 by omega)];simp
     subst e;rw [decide_eq_false d2,Bool.and_false];go_wp2;go_ret
     exact ⟨rfl,HB.out⟩
   ·
    have e:F=false:=by rw [← HF.out,decide_eq_false d1];simp
    subst e;rw [decide_eq_false d1,Bool.false_and];go_wp2;go_ret
    exact ⟨rfl,HB.out⟩
  have k3i:(kd == 3)=false:=by rw [beq_eq_false_iff_ne];exact k3
  by_cases k6:kd=6
  ·
   subst k6;simp only [jH] at hF;have HF:Hid ((decide (0≤xa) && decide (xa≤(P.lines.length:Int) - 1) && decide ((1:Int)≤xb) && decide (xb≤64))=F):=Lib.hid (by simpa using hF);clear hF
   go_enter Tryz.func75,Tryz.ntmps75
   go_wp2_with fail
   refine (iQ _ _ _).mono ?_;rintro e _ ⟨rfl,rfl⟩
   by_cases d1:0≤xa
   ·
    by_cases d2:xa < (P.lines.length:Int)
    ·
     rw [decide_eq_true d1,decide_eq_true d2,Bool.true_and];have e:F=(decide ((1:Int)≤xb) && decide (xb≤64)):=by rw [← HF.out,decide_eq_true d1,decide_eq_true (show xa≤(P.lines.length:Int) - 1 by omega)];simp
     subst e
     go_wp2_with fail
     refine (lg _ _ _).mono ?_;rintro e _ ⟨rfl,rfl⟩;go_wp2;go_ret
     exact ⟨rfl,HB.out⟩
    ·
     have e:F=false:=by rw [← HF.out,decide_eq_false (show ¬ xa≤(P.lines.length:Int) - 1 by omega)];simp
     subst e;rw [decide_eq_false d2,Bool.and_false];go_wp2;go_ret
     exact ⟨rfl,HB.out⟩
   ·
    have e:F=false:=by rw [← HF.out,decide_eq_false d1];simp
    subst e;rw [decide_eq_false d1,Bool.false_and];go_wp2;go_ret
    exact ⟨rfl,HB.out⟩
  have k6i:(kd == 6)=false:=by rw [beq_eq_false_iff_ne];exact k6
  by_cases k4:kd=4
  ·
   subst k4;simp only [jH] at hF;have HF:Hid ((decide (0≤xa) && decide (xa≤P.ins - 1) && decide ((1:Int)≤xb) && decide (xb≤64))=F):=Lib.hid (by simpa using hF);clear hF
   go_enter Tryz.func75,Tryz.ntmps75
   go_wp2_with fail
   refine (iQ _ _ _).mono ?_;rintro e _ ⟨rfl,rfl⟩
   by_cases d1:0≤xa
   ·
    by_cases d2:xa < P.ins
    ·
     rw [decide_eq_true d1,decide_eq_true d2,Bool.true_and];have e:F=(decide ((1:Int)≤xb) && decide (xb≤64)):=by rw [← HF.out,decide_eq_true d1,decide_eq_true (show xa≤P.ins - 1 by omega)];simp
     subst e
     go_wp2_with fail
     refine (lg _ _ _).mono ?_;rintro e _ ⟨rfl,rfl⟩;go_wp2;go_ret
     exact ⟨rfl,HB.out⟩
    ·
     have e:F=false:=by rw [← HF.out,decide_eq_false (show ¬ xa≤P.ins - 1 by omega)];simp
     subst e;rw [decide_eq_false d2,Bool.and_false];go_wp2;go_ret
     exact ⟨rfl,HB.out⟩
   ·
    have e:F=false:=by rw [← HF.out,decide_eq_false d1];simp
    subst e;rw [decide_eq_false d1,Bool.false_and];go_wp2;go_ret
    exact ⟨rfl,HB.out⟩
  have k4i:(kd == 4)=false:=by rw [beq_eq_false_iff_ne];exact k4
  by_cases k7:kd=7
  ·
   subst k7;simp only [jH] at hF;have HF:Hid ((decide (0≤xa) && decide (xa≤P.outs - 1) && decide ((1:Int)≤xb) && decide (xb≤64))=F):=Lib.hid (by simpa using hF);clear hF
   go_enter Tryz.func75,Tryz.ntmps75
   go_wp2_with fail
   refine (iQ _ _ _).mono ?_;rintro e _ ⟨rfl,rfl⟩
   by_cases d1:0≤xa
   ·
    by_cases d2:xa < P.outs
    ·
     rw [decide_eq_true d1,decide_eq_true d2,Bool.true_and];have e:F=(decide ((1:Int)≤xb) && decide (xb≤64)):=by rw [← HF.out,decide_eq_true d1,decide_eq_true (show xa≤P.outs - 1 by omega)];simp
     subst e
     go_wp2_with fail
     refine (lg _ _ _).mono ?_;rintro e _ ⟨rfl,rfl⟩;go_wp2;go_ret
     exact ⟨rfl,HB.out⟩
    ·
     have e:F=false:=by rw [← HF.out,decide_eq_false (show ¬ xa≤P.outs - 1 by omega)];simp
     subst e;rw [decide_eq_false d2,Bool.and_false];go_wp2;go_ret
     exact ⟨rfl,HB.out⟩
   ·
    have e:F=false:=by rw [← HF.out,decide_eq_false d1];simp
    subst e;rw [decide_eq_false d1,Bool.false_and];go_wp2;go_ret
    exact ⟨rfl,HB.out⟩
  have k7i:(kd == 7)=false:=by rw [beq_eq_false_iff_ne];exact k7
  by_cases k5:kd=5
  ·
   subst k5;simp only [jH] at hF;have HF:Hid ((decide (0≤xa) && decide (xa≤(P.parts.length:Int) - 1) && decide ((0:Int)≤xb) && decide (xb≤0))=F):=Lib.hid (by simpa using hF);clear hF
   go_enter Tryz.func75,Tryz.ntmps75
   go_wp2_with fail
   refine (iQ _ _ _).mono ?_;rintro e _ ⟨rfl,rfl⟩
   by_cases d1:0≤xa
   ·
    by_cases d2:xa < (P.parts.length:Int)
    ·
     rw [decide_eq_true d1,decide_eq_true d2,Bool.true_and];have e:F=(decide ((0:Int)≤xb) && decide (xb≤0)):=by rw [← HF.out,decide_eq_true d1,decide_eq_true (show xa≤(P.parts.length:Int) - 1 by omega)];simp
     by_cases d3:xb=0
     ·
      have e2:F=true:=by rw [e,d3];decide
      subst d3 e2;clear e;go_wp2;go_ret
      exact ⟨rfl,HB.out⟩
     ·
      have d3i:(xb == 0)=false:=by rw [beq_eq_false_iff_ne];exact d3
      have e2:F=false:=by
       rw [e]
       by_cases h:(0:Int)≤xb
       ·
        rw [decide_eq_false (show ¬ xb≤0 by omega)];simp
       ·
        rw [decide_eq_false h];rfl
      subst e2;clear e;go_wp2;go_ret
      exact ⟨rfl,HB.out⟩
    ·
     have e:F=false:=by rw [← HF.out,decide_eq_false (show ¬ xa≤(P.parts.length:Int) - 1 by omega)];simp
     subst e;rw [decide_eq_false d2,Bool.and_false];go_wp2;go_ret
     exact ⟨rfl,HB.out⟩
   ·
    have e:F=false:=by rw [← HF.out,decide_eq_false d1];simp
    subst e;rw [decide_eq_false d1,Bool.false_and];go_wp2;go_ret
    exact ⟨rfl,HB.out⟩
  have k5i:(kd == 5)=false:=by rw [beq_eq_false_iff_ne];exact k5
  have e:F=false:=by
   rw [← hF,jH,if_neg k1,if_neg k2,if_neg (by omega),if_neg k4,if_neg k7,if_neg k5]
   by_cases h:0≤xa
   ·
    rw [decide_eq_false (show ¬ xa≤(0:Int) - 1 by omega)];simp
   ·
    rw [decide_eq_false h];rfl
  subst e;clear hF
  go_enter Tryz.func75,Tryz.ntmps75
  go_wp2;go_ret
  exact ⟨rfl,HB.out⟩
def jv (P:ay):Int:=if dD P.memory 1024 && dD P.counters 17 && dD P.ins 16 && dD P.outs 16 then (if 32 < P.parts.length∨96 < P.lines.length∨131072 < P.ops.length then 81 else 0) else 1
theorem oK {P:ay}(h:P.memory < 0∨1024 < P.memory∨P.counters < 0∨17 < P.counters∨P.ins < 0∨16 < P.ins∨P.outs < 0∨16 < P.outs):jv P=1:=by
 unfold jv;rw [if_neg];simp only [Bool.and_eq_true,within_iff];omega
theorem vZ {P:ay}(h:¬ (P.memory < 0∨1024 < P.memory∨P.counters < 0∨17 < P.counters∨P.ins < 0∨16 < P.ins∨P.outs < 0∨16 < P.outs)):jv P=(if 32 < P.parts.length∨96 < P.lines.length∨131072 < P.ops.length then 81 else 0):=by
 unfold jv;rw [if_pos];simp only [Bool.and_eq_true,within_iff];omega
theorem qM {x y:Int}(h:y=x):Ending.returned (.int .i64 x)=.returned (.int .i64 y):=by rw [h]
theorem YG {a b:Int}{r:Int × Int}(h:r=(a,b)):Ending.returned (.tuple #[.int .i64 a,.int .i64 b])=.returned (.tuple #[.int .i64 r.1,.int .i64 r.2]):=by rw [h]
def DZ (w:World)(P:ay)(e:Ending)(w':World):Prop:=e=.returned (.int .i64 (jv P))∧(jv P=0→tT P)∧Below w.heap.size w w'
theorem gM {w w':World}{P:ay}{x:Int}(h:jv P=x)(hz:x=0→tT P)(hb:Below w.heap.size w w'):DZ w P (.returned (.int .i64 x)) w':=⟨by rw [h],fun h0=>hz (h.symm.trans h0),hb⟩
theorem Fp (w:World)(v:Value)(P:ay)(hv:bO w v P):Calls Tryz.prog 53 #[v] w (DZ w P):=by
 obtain ⟨vp,vl,vo,rfl,rp,rl,ro⟩:=hv;obtain ⟨ap,cp,rfl⟩:=rp.slice;obtain ⟨al,cl,rfl⟩:=rl.slice;obtain ⟨ao,co,rfl⟩:=ro.slice;have hb1:=au w (.cells #[.int .i64 P.memory,.int .i64 P.counters,.int .i64 P.ins,.int .i64 P.outs,.slice ap P.parts.length cp,.slice al P.lines.length cl,.slice ao P.ops.length co] 26);have hX:=heap_alloc_new w (.cells #[.int .i64 P.memory,.int .i64 P.counters,.int .i64 P.ins,.int .i64 P.outs,.slice ap P.parts.length cp,.slice al P.lines.length cl,.slice ao P.ops.length co] 26);have p0:=ah _ _ hX 0 _ rfl;have p1:=ah _ _ hX 1 _ rfl;have p2:=ah _ _ hX 2 _ rfl;have p3:=ah _ _ hX 3 _ rfl;have p4:=ah _ _ hX 4 _ rfl;have p5:=ah _ _ hX 5 _ rfl;have p6:=ah _ _ hX 6 _ rfl;have HB:=Lib.hid hb1;clear rp rl ro hX hb1
 go_enter Tryz.func53,Tryz.ntmps53
 by_cases a1:P.memory < 0
 ·
  have HE:=Lib.hid (oK (P:=P) (by omega));go_wp2;go_ret
  exact gM HE.out (fun h=>by cases h) HB.out
 by_cases a2:1024 < P.memory
 ·
  have HE:=Lib.hid (oK (P:=P) (by omega));go_wp2;go_ret
  exact gM HE.out (fun h=>by cases h) HB.out
 by_cases a3:P.counters < 0
 ·
  have HE:=Lib.hid (oK (P:=P) (by omega));go_wp2;go_ret
  exact gM HE.out (fun h=>by cases h) HB.out
 by_cases a4:17 < P.counters
 ·
  have HE:=Lib.hid (oK (P:=P) (by omega));go_wp2;go_ret
  exact gM HE.out (fun h=>by cases h) HB.out
 by_cases a5:P.ins < 0
 ·
  have HE:=Lib.hid (oK (P:=P) (by omega));go_wp2;go_ret
  exact gM HE.out (fun h=>by cases h) HB.out
 by_cases a6:16 < P.ins
 ·
  have HE:=Lib.hid (oK (P:=P) (by omega));go_wp2;go_ret
  exact gM HE.out (fun h=>by cases h) HB.out
 by_cases a7:P.outs < 0
 ·
  have HE:=Lib.hid (oK (P:=P) (by omega));go_wp2;go_ret
  exact gM HE.out (fun h=>by cases h) HB.out
 by_cases a8:16 < P.outs
 ·
  have HE:=Lib.hid (oK (P:=P) (by omega));go_wp2;go_ret
  exact gM HE.out (fun h=>by cases h) HB.out
 by_cases b1:(32:Int) < P.parts.length
 ·
  have HE:Hid (jv P=81):=Lib.hid (by rw [vZ (by omega),if_pos (by omega)]);go_wp2;go_ret
  exact gM HE.out (fun h=>by cases h) HB.out
 by_cases b2:(96:Int) < P.lines.length
 ·
  have HE:Hid (jv P=81):=Lib.hid (by rw [vZ (by omega),if_pos (by omega)]);go_wp2;go_ret
  exact gM HE.out (fun h=>by cases h) HB.out
 by_cases b3:(131072:Int) < P.ops.length
 ·
  have HE:Hid (jv P=81):=Lib.hid (by rw [vZ (by omega),if_pos (by omega)]);go_wp2;go_ret
  exact gM HE.out (fun h=>by cases h) HB.out
 have HE:Hid (jv P=0):=Lib.hid (by rw [vZ (by omega),if_neg (by omega)]);go_wp2;go_ret
 exact gM HE.out (fun _=>⟨by omega,by omega,by omega,by omega,by omega,by omega⟩) HB.out
def SG (w:World)(P:ay)(a:Nat)(e:Ending)(w':World):Prop:=∃ (n:Int) (b:Nat),e=.returned (.tuple #[.int .i64 n,.int .i64 b])∧ig P.ops a 0=(n,b)∧(0≤n∧n≤131073)∧(a≤b∧b+a≤2*P.ops.length)∧Below w.heap.size w w'
theorem SH {c ob:Int}(hc:0≤c)(hc2:c≤1000000)(h:1≤ob):∃ q,wrap64 (Int.tdiv c ob)=q∧c / ob=q∧0≤q∧q≤c∧ob*q≤c:=by
 have e:Int.tdiv c ob=c / ob:=Int.tdiv_eq_ediv_of_nonneg hc;have h1:0≤c / ob:=Int.ediv_nonneg hc (by omega);have h2:c / ob≤c:=Int.ediv_le_self _ hc;exact ⟨c / ob,by rw [e];exact IntWalk.wrap64_in _ (by omega),rfl,h1,h2,Int.mul_ediv_self_le (by omega)⟩
theorem Kn {P:ay}{i:Nat}{x:fG}(h:cK P i x=true)(hk:x.kind=1):1≤x.b∧x.b≤2048:=by
 unfold cK at h;rw [if_neg (by omega)] at h;simp only [jH,hk,Bool.and_eq_true,decide_eq_true_eq] at h;simp at h;omega
def wm (P:ay):Prop:=∀ i (h:i < P.ops.length),cK P i P.ops[i]=true
theorem Ir (P:ay)(hz:tT P)(hs:wm P):∀ (f:Nat) (w:World) (v:Value) (a:Nat),bO w v P→P.ops.length - a≤f→a≤P.ops.length→Calls Tryz.prog 64 #[v,.int .i64 a] w (SG w P a):=by
 intro f
 induction f with
 | zero =>
  intro w v a hv hf ha;obtain ⟨vp,vl,vo,rfl,rp,rl,ro⟩:=hv;obtain ⟨ap,cp,rfl⟩:=rp.slice;obtain ⟨al,cl,rfl⟩:=rl.slice;obtain ⟨ao,co,rfl⟩:=ro.slice;have hb1:=au w (.cells #[.int .i64 P.memory,.int .i64 P.counters,.int .i64 P.ins,.int .i64 P.outs,.slice ap P.parts.length cp,.slice al P.lines.length cl,.slice ao P.ops.length co] 26);have hX:=heap_alloc_new w (.cells #[.int .i64 P.memory,.int .i64 P.counters,.int .i64 P.ins,.int .i64 P.outs,.slice ap P.parts.length cp,.slice al P.lines.length cl,.slice ao P.ops.length co] 26);have p0:=ah _ _ hX 0 _ rfl;have p1:=ah _ _ hX 1 _ rfl;have p2:=ah _ _ hX 2 _ rfl;have p3:=ah _ _ hX 3 _ rfl;have p4:=ah _ _ hX 4 _ rfl;have p5:=ah _ _ hX 5 _ rfl;have p6:=ah _ _ hX 6 _ rfl;have HB:=Lib.hid hb1;have z9:=hz.ops;have hla:¬ (a:Int) < P.ops.length:=by omega
  clear rp rl ro hX hb1
  go_enter Tryz.func64,Tryz.ntmps64
  go_wp2_with fail
  go_loopw [1,6] (fun i n wl=>i=.int .i64 a∧n=.int .i64 0∧Below w.heap.size w wl∧wl.cell? ⟨w.heap.size,6,none⟩=some (.slice ao P.ops.length co)) (fun _ _ _=>0)
  case atStart=>exact ⟨rfl,rfl,HB.out,p6⟩
  case round =>
   obtain ⟨rfl,rfl,hB,c6⟩:=hrel;go_wp2
   go_ret2
   exact ⟨0,a,rfl,nI (fun h=>by omega),by omega,by omega,hB⟩
 | succ f IH =>
  intro w v a hv hf ha;obtain ⟨vp,vl,vo,rfl,rp,rl,ro⟩:=hv;obtain ⟨ap,cp,rfl⟩:=rp.slice;obtain ⟨al,cl,rfl⟩:=rl.slice;obtain ⟨ao,co,rfl⟩:=ro.slice;have HV:Hid (bO w (.agg #[.int .i64 P.memory,.int .i64 P.counters,.int .i64 P.ins,.int .i64 P.outs,.slice ap P.parts.length cp,.slice al P.lines.length cl,.slice ao P.ops.length co]) P):=Lib.hid ⟨_,_,_,rfl,rp,rl,ro⟩;have Gr:=Lib.hid ro;have hb1:=au w (.cells #[.int .i64 P.memory,.int .i64 P.counters,.int .i64 P.ins,.int .i64 P.outs,.slice ap P.parts.length cp,.slice al P.lines.length cl,.slice ao P.ops.length co] 26);have hX:=heap_alloc_new w (.cells #[.int .i64 P.memory,.int .i64 P.counters,.int .i64 P.ins,.int .i64 P.outs,.slice ap P.parts.length cp,.slice al P.lines.length cl,.slice ao P.ops.length co] 26);have p0:=ah _ _ hX 0 _ rfl;have p1:=ah _ _ hX 1 _ rfl;have p2:=ah _ _ hX 2 _ rfl;have p3:=ah _ _ hX 3 _ rfl;have p4:=ah _ _ hX 4 _ rfl;have p5:=ah _ _ hX 5 _ rfl;have p6:=ah _ _ hX 6 _ rfl;have HB:=Lib.hid hb1;have HX:=Lib.hid hX;have z9:=hz.ops;have HIH:=Lib.hid IH;have HS:=Lib.hid hs;clear rp rl ro hX IH hs hz hb1;generalize hW:w.alloc (.cells #[.int .i64 P.memory,.int .i64 P.counters,.int .i64 P.ins,.int .i64 P.outs,.slice ap P.parts.length cp,.slice al P.lines.length cl,.slice ao P.ops.length co] 26)=W at *;have XW:W.heap.size=w.heap.size+1:=by rw [← hW];simp
  go_enter Tryz.func64,Tryz.ntmps64
  go_wp2_with fail
  clear p0 p1 p2 p3 p4 p5 p6 hW;obtain ⟨N,hN⟩:∃ x,P.ops.length=x:=⟨_,rfl⟩
  have HN:=Lib.hid hN;rw [hN] at z9 ha hf HX HV Gr;clear hN
  go_loopw [1,6] (fun i n wl=>∃ (j:Nat) (nn:Int),(a≤j∧j+a≤2*N)∧i=.int .i64 j∧n=.int .i64 nn∧0≤nn∧nn≤131073∧ig P.ops j nn=ig P.ops a 0∧Below W.heap.size W wl) (fun i _ _=>N - (intOf i).toNat)
  case atStart=>exact ⟨a,0,by omega,rfl,rfl,by omega,by omega,rfl,Below.refl _ _⟩
  case round =>
   obtain ⟨j,n,hj,rfl,rfl,hn0,hn1,hE,hB⟩:=hrel;have HE:=Lib.hid hE;clear hE;have dP:=Lib.hid hB;have fU:=Lib.hid (HB.out.trans (dP.out.mono (by omega)));have p6:=cell_later dP.out (ah _ _ HX.out 6 _ rfl);clear hB
   by_cases hlt:j < N
   ·
    have dG:(j:Int) < N:=by omega
    have hlt2:j < P.ops.length:=by have:=HN.out;omega
    obtain ⟨Vx,_,bo,oo,rfl,o1,o2,o3⟩:=eB.opAt (Gr.out.below fU.out) (List.getElem?_eq_getElem hlt2);have MC:(N:Int)≤co:=by omega
    have K4:Hid (cK P j P.ops[j]=true):=Lib.hid (HS.out j hlt2);obtain ⟨x,hx⟩:∃ x,P.ops[j]=x:=⟨_,rfl⟩
    rw [hx] at o1 o2 o3 K4;have HCT:Hid (bI P.ops j=x):=Lib.hid (jN (by rw [List.getElem?_eq_getElem hlt2,hx]));have HL2:=Lib.hid hlt2;obtain ⟨kd,xa,xb⟩:=x;dsimp only at o1 o2 o3;clear hx
    by_cases k2:kd=2
    ·
     subst k2;have qK:=Lib.hid (cO (n:=0) fU.out);go_wp2
     go_ret2
     exact ⟨n,j,rfl,by rw [← HE.out];exact nI (by rw [HCT.out];simp),by omega,by omega,fU.out⟩
    have k2i:(kd != 2)=true:=by simpa using k2
    by_cases k1:kd=1
    ·
     subst k1;have hxb:=Kn K4.out rfl;dsimp only at hxb;have hjw:IntKind.i64.wrap ((j:Int)+1)=((j+1:Nat):Int):=by rw [IntWalk.i64_in _ (by omega)];omega
     have p0:=cell_later dP.out (ah _ _ HX.out 0 _ rfl);have p1:=cell_later dP.out (ah _ _ HX.out 1 _ rfl);have p2:=cell_later dP.out (ah _ _ HX.out 2 _ rfl);have p3:=cell_later dP.out (ah _ _ HX.out 3 _ rfl);have p4:=cell_later dP.out (ah _ _ HX.out 4 _ rfl);have p5:=cell_later dP.out (ah _ _ HX.out 5 _ rfl)
     go_wp2_with fail
     refine (HIH.out _ _ (j+1) (HV.out.below fU.out) (by have:=HN.out;omega) (by have:=HN.out;omega)).mono ?_;rintro e w5 ⟨n5,b5,rfl,hr5,hn5,hb5,hbl⟩;have HHD:=Lib.hid (BN (n:=n) HL2.out (by rw [HCT.out]));rw [hr5,HCT.out] at HHD;dsimp only at HHD;clear hr5;have ad3:j+1≤b5∧b5+(j+1)≤2*N:=by have:=HN.out;omega
     have qK:=Lib.hid (dP.out.trans (hbl.mono dP.out.size));have p6:=cell_later qK.out (ah _ _ HX.out 6 _ rfl);have o3:=cell_later hbl o3;clear p0 p1 p2 p3 p4 p5 o1 o2 hbl hjw hb5;have h5w:IntKind.i64.wrap (n5+1)=n5+1:=IntWalk.i64_in _ (by omega);obtain ⟨Q,hQ,lq,q0,q1,q2⟩:=SH (c:=131073) (ob:=xb) (by omega) (by omega) hxb.1
     by_cases c1:n5 < 131073
     ·
      by_cases c2:n5+1≤Q
      ·
       have hle1:n5+1≤wrap64 (Int.tdiv 131073 xb):=by rw [hQ];exact c2
       have hle2:n5+1≤131073 / xb:=by rw [lq];exact c2
       obtain ⟨MM,X3⟩:∃ x,xb*(n5+1)=x:=⟨_,rfl⟩
       have hm1:MM≤131073:=by
        have:=Int.mul_le_mul_of_nonneg_left c2 (show 0≤xb by omega);omega
       have hm0:0≤MM:=by rw [← X3];exact Int.mul_nonneg (by omega) (by omega)
       have hw1:wrap64 (xb*(n5+1))=MM:=by rw [X3];exact IntWalk.wrap64_in _ (by omega)
       have hw2:wrap64 (1+MM)=1+MM:=IntWalk.wrap64_in _ (by omega);have hw3:IntKind.i64.wrap (n+(1+MM))=n+(1+MM):=IntWalk.i64_in _ (by omega);have hjw:IntKind.i64.wrap ((b5:Int)+1)=((b5+1:Nat):Int):=by rw [IntWalk.i64_in _ (by omega)];omega
       have HST:Hid (ig P.ops (b5+1) (min 131073 (n+(1+MM)))=ig P.ops a 0):=Lib.hid (by rw [← HE.out,HHD.out,if_pos ⟨c1,hle2⟩,X3]);clear X3 q2 hQ lq
       by_cases hb:131073 < n+(1+MM)
       ·
        go_wp2;go_roundw
        case rel=>exact ⟨b5+1,131073,by omega,by go_num,by first | rfl | go_num,by omega,by omega,by rw [← HST.out,Int.min_eq_left (by omega)],qK.out⟩
        case measure=>simp [intOf];omega
       ·
        go_wp2;go_roundw
        case rel=>exact ⟨b5+1,n+(1+MM),by omega,by go_num,by first | rfl | go_num,by omega,by omega,by rw [← HST.out,Int.min_eq_right (by omega)],qK.out⟩
        case measure=>simp [intOf];omega
      ·
       have hle1:¬ n5+1≤wrap64 (Int.tdiv 131073 xb):=by rw [hQ];exact c2
       have hle2:¬ n5+1≤131073 / xb:=by rw [lq];exact c2
       have hw3:IntKind.i64.wrap (n+131073)=n+131073:=IntWalk.i64_in _ (by omega);have hjw:IntKind.i64.wrap ((b5:Int)+1)=((b5+1:Nat):Int):=by rw [IntWalk.i64_in _ (by omega)];omega
       have HST:Hid (ig P.ops (b5+1) (min 131073 (n+131073))=ig P.ops a 0):=Lib.hid (by rw [← HE.out,HHD.out,if_neg (fun h=>hle2 h.2)]);clear q2 hQ lq
       by_cases hb:131073 < n+131073
       ·
        go_wp2;go_roundw
        case rel=>exact ⟨b5+1,131073,by omega,by go_num,by first | rfl | go_num,by omega,by omega,by rw [← HST.out,Int.min_eq_left (by omega)],qK.out⟩
        case measure=>simp [intOf];omega
       ·
        go_wp2;go_roundw
        case rel=>exact ⟨b5+1,n+131073,by omega,by go_num,by first | rfl | go_num,by omega,by omega,by rw [← HST.out,Int.min_eq_right (by omega)],qK.out⟩
        case measure=>simp [intOf];omega
     ·
      have hw3:IntKind.i64.wrap (n+131073)=n+131073:=IntWalk.i64_in _ (by omega);have hjw:IntKind.i64.wrap ((b5:Int)+1)=((b5+1:Nat):Int):=by rw [IntWalk.i64_in _ (by omega)];omega
      have HST:Hid (ig P.ops (b5+1) (min 131073 (n+131073))=ig P.ops a 0):=Lib.hid (by rw [← HE.out,HHD.out,if_neg (fun h=>c1 h.1)]);clear q2 hQ lq
      by_cases hb:131073 < n+131073
      ·
       go_wp2;go_roundw
       case rel=>exact ⟨b5+1,131073,by omega,by go_num,by first | rfl | go_num,by omega,by omega,by rw [← HST.out,Int.min_eq_left (by omega)],qK.out⟩
       case measure=>simp [intOf];omega
      ·
       go_wp2;go_roundw
       case rel=>exact ⟨b5+1,n+131073,by omega,by go_num,by first | rfl | go_num,by omega,by omega,by rw [← HST.out,Int.min_eq_right (by omega)],qK.out⟩
       case measure=>simp [intOf];omega
    ·
     have k1i:(kd == 1)=false:=by rw [beq_eq_false_iff_ne];exact k1
     have hw3:IntKind.i64.wrap (n+1)=n+1:=IntWalk.i64_in _ (by omega);have qK:=dP;have hjw:IntKind.i64.wrap ((j:Int)+1)=((j+1:Nat):Int):=by rw [IntWalk.i64_in _ (by omega)];omega
     have HST:Hid (ig P.ops (j+1) (min 131073 (n+1))=ig P.ops a 0):=Lib.hid (by rw [← HE.out,BM HL2.out (by rw [HCT.out];exact k2) (by rw [HCT.out];exact k1)])
     by_cases hb:131073 < n+1
     ·
      go_wp2;go_roundw
      case rel=>exact ⟨j+1,131073,by omega,by go_num,by first | rfl | go_num,by omega,by omega,by rw [← HST.out,Int.min_eq_left (by omega)],qK.out⟩
      case measure=>simp [intOf];omega
     ·
      go_wp2;go_roundw
      case rel=>exact ⟨j+1,n+1,by omega,by go_num,by first | rfl | go_num,by omega,by omega,by rw [← HST.out,Int.min_eq_right (by omega)],qK.out⟩
      case measure=>simp [intOf];omega
   ·
    have dG:¬ (j:Int) < N:=by omega
    go_wp2
    go_ret2
    exact ⟨n,j,rfl,by rw [← HE.out];exact nI (fun h=>by have:=HN.out;omega),by omega,by have:=HN.out;omega,fU.out⟩
theorem wu (w:World)(v:Value)(P:ay)(hv:bO w v P)(hz:tT P)(hs:wm P):Calls Tryz.prog 39 #[v] w (og (.int .i64 (kZ P)) w):=by
 obtain ⟨vp,vl,vo,rfl,rp,rl,ro⟩:=hv;obtain ⟨ap,cp,rfl⟩:=rp.slice;obtain ⟨al,cl,rfl⟩:=rl.slice;obtain ⟨ao,co,rfl⟩:=ro.slice;have HV:Hid (bO w (.agg #[.int .i64 P.memory,.int .i64 P.counters,.int .i64 P.ins,.int .i64 P.outs,.slice ap P.parts.length cp,.slice al P.lines.length cl,.slice ao P.ops.length co]) P):=Lib.hid ⟨_,_,_,rfl,rp,rl,ro⟩;have hb1:=au w (.cells #[.int .i64 P.memory,.int .i64 P.counters,.int .i64 P.ins,.int .i64 P.outs,.slice ap P.parts.length cp,.slice al P.lines.length cl,.slice ao P.ops.length co] 26);have hX:=heap_alloc_new w (.cells #[.int .i64 P.memory,.int .i64 P.counters,.int .i64 P.ins,.int .i64 P.outs,.slice ap P.parts.length cp,.slice al P.lines.length cl,.slice ao P.ops.length co] 26);have p0:=ah _ _ hX 0 _ rfl;have p1:=ah _ _ hX 1 _ rfl;have p2:=ah _ _ hX 2 _ rfl;have p3:=ah _ _ hX 3 _ rfl;have p4:=ah _ _ hX 4 _ rfl;have p5:=ah _ _ hX 5 _ rfl;have p6:=ah _ _ hX 6 _ rfl;have HB:=Lib.hid hb1;have HZ:=Lib.hid hz;have HS:=Lib.hid hs;clear rp rl ro hX hb1 hz hs
 go_enter Tryz.func39,Tryz.ntmps39
 go_wp2_with fail
 refine (Ir P HZ.out HS.out P.ops.length _ _ 0 (HV.out.below HB.out) (by omega) (by omega)).mono ?_;rintro e w5 ⟨n5,b5,rfl,hr5,-,-,hbl⟩;have Je:Hid (kZ P=n5):=Lib.hid (congrArg Prod.fst hr5);have qK:=Lib.hid (HB.out.trans (hbl.mono HB.out.size));clear hbl;go_wp2;go_ret
 exact ⟨qM Je.out,qK.out⟩
def j5 (P:ay):Int:=jr P P.ops 0 []
def nW (l:List Int):List Nat:=(l.map Int.toNat).reverse
theorem SI (l:List Int)(j:Nat):nW (l ++ [(j:Int)])=j :: nW l:=by simp [nW]
theorem SK (P:ay)(a:Int)(l:List Int):(nW l).any (fun f=>decide ((jy P f).a=a))=l.any (fun f=>decide ((jy P f.toNat).a=a)):=by
 unfold nW;rw [List.any_reverse,List.any_map];rfl
theorem D5 {l:List Int}{m:Nat}(h:l.length=m+1):nW l=(l[m]'(by omega)).toNat :: nW (l.take m):=by
 have e:l=l.take m ++ [l[m]'(by omega)]:=by
  rw [← List.take_succ_eq_append_getElem (by omega),List.take_of_length_le (by omega)]
 have:=congrArg nW e;rw [this];unfold nW;rw [List.map_append,List.reverse_append];rfl
theorem Iu {l:List Int}(h:l.length=0):nW l=[]:=by rw [List.eq_nil_of_length_eq_zero h];rfl
theorem SL {P:ay}{j:Nat}(h:j < P.ops.length)(st:List Nat):jr P (P.ops.drop j) j st=(if !cK P j P.ops[j] then 200 else if iA P P.ops[j] st≠0 then iA P P.ops[j] st else jr P (P.ops.drop (j+1)) (j+1) (mg j P.ops[j] st)):=by
 rw [List.drop_eq_getElem_cons h,jr]
theorem yZ {P:ay}:∀ (L:List fG) (j:Nat) (st:List Nat),jr P L j st=0→∀ (k:Nat) (h:k < L.length),cK P (j+k) L[k]=true
 | [],_,_,_,k,h=>by simp at h
 | x :: r,j,st,h,k,hk=>by
  rw [jr] at h
  split at h
  ·
   cases h
  ·
   rename_i hs
   split at h
   ·
    rename_i h1;exact absurd h h1
   ·
    cases k with
    | zero=>simpa using hs
    | succ k =>
     have:=yZ r (j+1) _ h k (by simpa using hk);rw [show j+(k+1)=j+1+k by omega]
     simpa using this
theorem Ob {P:ay}(h:j5 P=0):wm P:=fun i hi=>by
 have:=yZ P.ops 0 [] h i hi
 rwa [Nat.zero_add] at this
theorem BO {R e X x:Int}(h:R=if e≠0 then e else X)(he:e=x)(hx:x≠0):R=x:=by
 rw [h,he,if_pos hx]
theorem Fq {R e X:Int}(h:R=if e≠0 then e else X)(he:e=0):R=X:=by
 rw [h,he,if_neg (by decide)]
theorem SN (P:ay)(xa xb:Int)(l:List Int):iA P ⟨1,xa,xb⟩ (nW l)=if l.any (fun f=>decide ((jy P f.toNat).a=xa)) then 201 else 0:=by
 unfold iA;rw [if_pos rfl,SK]
theorem aao {P:ay}{xa xb oa:Int}{l:List Int}{m q:Nat}(hm:l.length=m+1)(hq:l[m]'(by omega)=(q:Int))(ha:(jy P q).a=oa):iA P ⟨2,xa,xb⟩ (nW l)=if oa≠xa∨xb≠(q:Int)+1 then 201 else 0:=by
 unfold iA;rw [if_neg (show ¬ (2:Int)=1 by decide),if_pos rfl,D5 hm,hq];simp only [Int.toNat_natCast,ha]
theorem Xa {P:ay}{xa xb:Int}{l:List Int}(hm:l.length=0):iA P ⟨2,xa,xb⟩ (nW l)=201:=by
 unfold iA;rw [if_neg (show ¬ (2:Int)=1 by decide),if_pos rfl,Iu hm]
theorem aap {xa xb:Int}{l:List Int}{m j:Nat}(hm:l.length=m+1):mg j ⟨2,xa,xb⟩ (nW l)=nW (l.take m):=by
 unfold mg;rw [if_neg (show ¬ (2:Int)=1 by decide),if_pos rfl,D5 hm];rfl
theorem SQ (P:ay)(xa xb:Int)(l:List Int):iA P ⟨0,xa,xb⟩ (nW l)=if l.length=0 then 0 else 201:=by
 unfold iA;rw [if_neg (show ¬ (0:Int)=1 by decide),if_neg (show ¬ (0:Int)=2 by decide),if_pos rfl]
 by_cases h:l.length=0
 ·
  rw [Iu h,if_pos rfl,if_pos h]
 ·
  rw [if_neg (fun e=>h (by have:=congrArg List.length e;simpa [nW] using this)),if_neg h]
theorem aaq (P:ay){kd xa xb:Int}(l:List Nat)(h1:kd≠1)(h2:kd≠2)(h0:kd≠0):iA P ⟨kd,xa,xb⟩ l=0:=by
 unfold iA;rw [if_neg h1,if_neg h2,if_neg h0]
theorem SS {kd xa xb:Int}{j:Nat}(l:List Nat)(h1:kd≠1)(h2:kd≠2):mg j ⟨kd,xa,xb⟩ l=l:=by
 unfold mg;rw [if_neg h1,if_neg h2]
theorem Ko {P:ay}{q:Nat}(h:q < P.ops.length):jy P q=P.ops[q]:=by simp [jy,h]
theorem aar {P:ay}{xa:Int}{l:List Int}{m:Nat}(hm:m=l.length)(h:∀ x∈l.take m,¬ (jy P x.toNat).a=xa):(l.any fun f=>decide ((jy P f.toNat).a=xa))=false:=by
 rw [List.take_of_length_le (by omega)] at h;rw [Bool.eq_false_iff];intro hh;obtain ⟨x,hx,hd⟩:=List.any_eq_true.1 hh;exact h x hx (of_decide_eq_true hd)
def Oc (w:World)(P:ay)(e:Ending)(w':World):Prop:=e=.returned (.int .i64 (j5 P))∧Below w.heap.size w w'
theorem uP {w w':World}{base e size n:Nat}{v:Value}{xs:List Value}(h:w.ownsRow base e size v n xs)(hb:Below w.heap.size w w'):w'.ownsRow base e size v n xs:=fD h (aI.of_below hb (fun _=>False)) (fun _ _ h=>h)
theorem Fu (w:World)(v:Value)(P:ay)(hv:bO w v P)(hz:tT P):Calls Tryz.prog 55 #[v] w (Oc w P):=by
 obtain ⟨vp,vl,vo,rfl,rp,rl,ro⟩:=hv;obtain ⟨ap,cp,rfl⟩:=rp.slice;obtain ⟨al,cl,rfl⟩:=rl.slice;obtain ⟨ao,co,rfl⟩:=ro.slice;have HV:Hid (bO w (.agg #[.int .i64 P.memory,.int .i64 P.counters,.int .i64 P.ins,.int .i64 P.outs,.slice ap P.parts.length cp,.slice al P.lines.length cl,.slice ao P.ops.length co]) P):=Lib.hid ⟨_,_,_,rfl,rp,rl,ro⟩;have Gr:=Lib.hid ro;obtain ⟨i0,hi,hz0,hz1,hz2⟩:=info_parts bJ;have HI:=Lib.hid hi;have hb1:=au w (.cells #[.int .i64 P.memory,.int .i64 P.counters,.int .i64 P.ins,.int .i64 P.outs,.slice ap P.parts.length cp,.slice al P.lines.length cl,.slice ao P.ops.length co] 26);have hX:=heap_alloc_new w (.cells #[.int .i64 P.memory,.int .i64 P.counters,.int .i64 P.ins,.int .i64 P.outs,.slice ap P.parts.length cp,.slice al P.lines.length cl,.slice ao P.ops.length co] 26);have p0:=ah _ _ hX 0 _ rfl;have p1:=ah _ _ hX 1 _ rfl;have p2:=ah _ _ hX 2 _ rfl;have p3:=ah _ _ hX 3 _ rfl;have p4:=ah _ _ hX 4 _ rfl;have p5:=ah _ _ hX 5 _ rfl;have p6:=ah _ _ hX 6 _ rfl;have HB:=Lib.hid hb1;have HX:=Lib.hid hX;have z9:=hz.ops;have HZ:=Lib.hid hz;clear rp rl ro hX hz hb1 hi;generalize hW:w.alloc (.cells #[.int .i64 P.memory,.int .i64 P.counters,.int .i64 P.ins,.int .i64 P.outs,.slice ap P.parts.length cp,.slice al P.lines.length cl,.slice ao P.ops.length co] 26)=W at *;have XW:W.heap.size=w.heap.size+1:=by rw [← hW];simp
 have HSW:=Lib.hid XW
 go_enter Tryz.func55,Tryz.ntmps55
 go_wp2_with fail
 clear p0 p1 p2 p3 p4 p5 p6 hW XW;obtain ⟨N,hN⟩:∃ x,P.ops.length=x:=⟨_,rfl⟩
 have HN:=Lib.hid hN;rw [hN] at z9 HX HV Gr;clear hN
 go_loopw [3,4] (fun v i wl=>∃ (j:Nat) (l:List Int),j≤N∧i=.int .i64 j∧Below W.heap.size W wl∧wl.ownsRow W.heap.size 3 1 v l.length (aV l)∧(∀ x∈l,0≤x∧x < j)∧l.length≤j∧jr P (P.ops.drop j) j (nW l)=j5 P) (fun _ i _=>N - (intOf i).toNat)
 case atStart=>exact ⟨0,[],Nat.zero_le _,rfl,Below.refl _ _,World.ownsRow_nil _ _ _ _,(fun x h=>by cases h),Nat.le_refl _,rfl⟩
 case round =>
  obtain ⟨j,l,hj,rfl,hB,hO,hl,hll,hsd⟩:=hrel;obtain ⟨sa,sc,rfl⟩:=aB hO;have dP:=Lib.hid hB;have fU:=Lib.hid (HB.out.trans (dP.out.mono (by have:=HSW.out;omega)));have HO:=Lib.hid hO;have HL:=Lib.hid hl;have HS:=Lib.hid hsd;clear hB hO hl hsd;have p6:=cell_later dP.out (ah _ _ HX.out 6 _ rfl)
  by_cases hlt:j < N
  ·
   have dG:(j:Int) < N:=by omega
   have hlt2:j < P.ops.length:=by have:=HN.out;omega
   obtain ⟨Vx,_,bo,oo,rfl,o1,o2,o3⟩:=eB.opAt (Gr.out.below fU.out) (List.getElem?_eq_getElem hlt2);have MC:(N:Int)≤co:=by omega
   have HAL:Hid (∀ (w:World) (v:Value),bO w v P→Calls Tryz.prog 75 #[v,.int .i64 j] w (og (.bool (cK P j P.ops[j])) w)):=Lib.hid fun w v h=>Iq w v P j h HZ.out hlt2
   have LD:=Lib.hid (HS.out.symm.trans (SL hlt2 _));obtain ⟨x,hx⟩:∃ x,P.ops[j]=x:=⟨_,rfl⟩
   rw [hx] at o1 o2 o3 HAL LD;obtain ⟨kd,xa,xb⟩:=x;dsimp only at o1 o2 o3;clear hx;have p0:=cell_later dP.out (ah _ _ HX.out 0 _ rfl);have p1:=cell_later dP.out (ah _ _ HX.out 1 _ rfl);have p2:=cell_later dP.out (ah _ _ HX.out 2 _ rfl);have p3:=cell_later dP.out (ah _ _ HX.out 3 _ rfl);have p4:=cell_later dP.out (ah _ _ HX.out 4 _ rfl);have p5:=cell_later dP.out (ah _ _ HX.out 5 _ rfl)
   go_wp2_with fail
   clear p0 p1 p2 p3 p4 p5;refine (HAL.out _ _ (HV.out.below fU.out)).mono ?_;rintro e w5 ⟨rfl,hb5⟩;have o1:=cell_later hb5 o1;have o2:=cell_later hb5 o2;have o3:=cell_later hb5 o3;have p6:=cell_later hb5 p6;have Cm:=Lib.hid (dP.out.trans (hb5.mono dP.out.size));have Lf:=Lib.hid (uP HO.out hb5);have Od:=Lib.hid (fU.out.trans (hb5.mono fU.out.size));clear hb5 HAL dP HO fU;obtain ⟨F,hF⟩:∃ x,cK P j ⟨kd,xa,xb⟩=x:=⟨_,rfl⟩
   rw [hF] at LD ⊢;clear hF;cases F with
   | false =>
    clear o1 o2 o3 p6;go_wp2;go_ret
    exact ⟨qM LD.out,Od.out⟩
   | true =>
    replace LD:=Lib.hid (LD.out.trans (if_neg (by decide)));have hbX:=au w5 (.cells #[.int .u8 kd,.int .i64 xa,.int .i64 xb] 58);have hxn:=heap_alloc_new w5 (.cells #[.int .u8 kd,.int .i64 xa,.int .i64 xb] 58);have x0:=ah _ _ hxn 0 _ rfl;have x1:=ah _ _ hxn 1 _ rfl;have x2:=ah _ _ hxn 2 _ rfl;have p6x:=cell_later hbX p6;have HRX:=Lib.hid (Gr.out.below (Od.out.trans (hbX.mono Od.out.size)));have HB1:=Lib.hid (Cm.out.trans (hbX.mono Cm.out.size));have SV:=Lib.hid (Od.out.trans (hbX.mono Od.out.size));have qJ:=Lib.hid (uP Lf.out hbX);have HOB:=Lib.hid (fun k h=>(Lf.out.lt k h).2);have J5:=Lib.hid hxn;have Ye:Hid (∀ x∈l,0≤x∧x < ((j+1:Nat):Int)):=Lib.hid fun x h=>by have:=HL.out x h;omega
    have FC:Hid (l.length≤j+1):=Lib.hid (by omega);clear hbX hxn Cm Od Lf;obtain ⟨m,hm⟩:∃ x,l.length=x:=⟨_,rfl⟩
    have HM:=Lib.hid hm
    by_cases k1:kd=1
    ·
     subst k1;rw [hm] at qJ HOB hll ⊢;clear hm
     go_wp2_with fail
     generalize w5.alloc (.cells #[.int .u8 1,.int .i64 xa,.int .i64 xb] 58)=wx at *;clear o1 o2 o3 p6 x0 x2
     go_loopw [6] (fun i wl=>∃ (k:Nat),k≤m∧i=.int .i64 k∧Below wx.heap.size wx wl∧(∀ x∈l.take k,¬ (jy P x.toNat).a=xa)) (fun i _=>m - (intOf i).toNat)
     case atStart=>exact ⟨0,Nat.zero_le _,rfl,Below.refl _ _,fun x hx=>by simp at hx⟩
     case round =>
      obtain ⟨k,hk,rfl,hbl,hno⟩:=hrel;have jL:=Lib.hid hno;clear hno;have Gs:=Lib.hid hbl;have x1':=cell_later hbl x1;have p6':=cell_later hbl p6x
      by_cases hkm:k < m
      ·
       have hkmi:(k:Int) < m:=by omega
       obtain ⟨g,cap,eg,hgc,-⟩:=Own.addr (o:=fun _=>0) (c:=0) (⟨bG qJ.out (fun _ _=>Nat.zero_le _),fun _ _=>rfl⟩:Own wx (fun _=>0) 0 3 1 (.slice sa m sc) m (aV l)) (by omega)
       injection eg with e1 e2 e3
       subst e1 e3;have ad4:(m:Int)≤sc:=by omega
       have hkl:k < l.length:=by have:=HM.out;omega
       have f1:=qJ.out.cells (g:=g) rfl k (.int .i64 l[k]) (by simp [aV,hkl]);rw [Addr.add_lit,Nat.zero_add] at f1;have hlk:=HL.out l[k] (List.getElem_mem hkl);obtain ⟨q,hq⟩:∃ q:Nat,l[k]=(q:Int):=⟨l[k].toNat,by omega⟩
       rw [hq] at f1 hlk;have ZM:q < P.ops.length:=by omega
       have hqn:(q:Int) < N:=by omega
       obtain ⟨_,_,bo',oo',eb,_,q2,_⟩:=eB.opAt HRX.out (List.getElem?_eq_getElem ZM);cases eb
       obtain ⟨oa,hoa⟩:∃ x,P.ops[q].a=x:=⟨_,rfl⟩
       rw [hoa] at q2;have HQA:Hid ((jy P (l[k]).toNat).a=oa):=Lib.hid (by rw [hq,Int.toNat_natCast,Ko ZM,hoa]);have HKL:=Lib.hid hkl;have f1':=cell_later hbl f1;have q2':=cell_later hbl q2;have abg:=Lib.hid (cO (n:=1) hbl);clear f1 q2 hoa hq hbl
       go_wp2_with fail
       refine ax (fun w'=>w'.cell? ⟨w.heap.size,6,none⟩=some (.slice (some ⟨bo,oo,none⟩) N co)∧w'.cell? ⟨g,k,none⟩=some (.int .i64 q)∧w'.cell? ⟨bo,oo+q*3+1,none⟩=some (.int .i64 oa)∧w'.cell? ⟨w5.heap.size,1,none⟩=some (.int .i64 xa)) [0,1,2,3,4,5,6,7,8,9,10,11] [] (by kernel_rfl) (by kernel_rfl) rfl (fun _ _ hx h=>⟨hx.cell h.1,hx.cell h.2.1,hx.cell h.2.2.1,hx.cell h.2.2.2⟩) ⟨p6',f1',q2',x1'⟩ ?_;intro Q' hQ';simp only [pk]
       by_cases hEq:oa=xa
       ·
        have ZA:(oa == xa)=true:=by rw [beq_iff_eq];exact hEq
        have Di:=Lib.hid hEq;clear hEq;refine aA ?_;refine av ?_;go_wp2;go_ret
        exact ⟨qM (BO LD.out (show _=(201:Int) by rw [SN,if_pos (List.any_eq_true.2 ⟨l[k]'HKL.out,List.getElem_mem _,by rw [HQA.out,Di.out];exact decide_eq_true rfl⟩)]) (by decide)),SV.out.trans (abg.out.mono SV.out.size)⟩
       ·
        have ZA:(oa == xa)=false:=by rw [beq_eq_false_iff_ne];exact hEq
        have Ru:Hid (∀ x∈l.take (k+1),¬ (jy P x.toNat).a=xa):=Lib.hid fun x hx=>by
         rw [List.take_succ_eq_append_getElem HKL.out] at hx
         rcases List.mem_append.1 hx with hx | hx
         ·
          exact jL.out x hx
         ·
          obtain rfl:x=l[k]'HKL.out:=by simpa using hx
          rw [HQA.out];exact hEq
        clear hEq;refine aA ?_;refine av ?_;go_wp2;go_roundw
        case rel=>exact ⟨k+1,hkm,by go_num,abg.out,Ru.out⟩
        case measure=>simp [intOf];omega
      ·
       obtain rfl:k=m:=by omega
       have uU:=Lib.hid (uP qJ.out hbl);have qK:=Lib.hid (HB1.out.trans (hbl.mono HB1.out.size));have hki:¬ (k:Int) < k:=by omega
       have acB:=Lib.hid hbl;clear hbl
       go_wp2_with (at_builtin;refine aM ?_)
       refine bR ?_;refine aR rfl _ _ 42 rfl W.heap.size 3 i0 _ 1 8 Tryz.underlying42 HI.out hz0 hz1 hz2 rfl (.slice sa k sc) k _ rfl (uU.out.alloc _) (some ⟨wr.heap.size,0,none⟩) 1 1 [.int .i64 j] rfl rfl (fun h=>by cases h) (sZ (w:=wr) (n:=wr.heap.size) rfl [.int .i64 j] 3) (by simp [Value.oneCell']) (by unfold maxLen;omega) (aZ (by omega)) (by have:=qK.out.size;(try simp at this);simp;omega) ?_;intro v7 w7 y1 y20 _ _;have uI:=qK.out.trans (dW uU.out y20 qK.out.size);have Nl:=Lib.hid uI;have K1:Hid (w7.ownsRow W.heap.size 3 1 v7 (l ++ [(j:Int)]).length (aV (l ++ [(j:Int)]))):=Lib.hid (by
        have e1:(l ++ [(j:Int)]).length=k+1:=by have:=HM.out;simp;omega
        rw [e1];have e2:aV (l ++ [(j:Int)])=aV l ++ [.int .i64 (j:Int)]:=by simp [aV]
        rw [e2];exact y1)
       have acC:Hid (∀ x∈l ++ [(j:Int)],0≤x∧x < ((j+1:Nat):Int)):=Lib.hid fun x h=>by
        rcases List.mem_append.1 h with h | h
        ·
         exact Ye.out x h
        ·
         have:x=j:=by simpa using h
         omega
       have Kq:Hid (jr P (P.ops.drop (j+1)) (j+1) (nW (l ++ [(j:Int)]))=j5 P):=Lib.hid (by
        rw [SI];exact (Fq LD.out (by rw [SN,aar HM.out.symm jL.out];rfl)).symm)
       have acD:Hid ((l ++ [(j:Int)]).length≤j+1):=Lib.hid (by have:=HM.out;simp;omega);have x0':=ah _ _ (FM (aK (aT J5.out (aI.of_below acB.out (fun _=>False)) (fun h=>h)) _) y20 (fun e=>by have:=HOB.out _ e;omega)) 0 _ rfl;clear y1 y20 uI;go_wp2;go_roundw
       case rel=>exact ⟨j+1,l ++ [(j:Int)],hlt,by go_num,Nl.out,K1.out,acC.out,acD.out,Kq.out⟩
       case measure=>simp [intOf];omega
    have k1i:(kd == 1)=false:=by rw [beq_eq_false_iff_ne];exact k1
    rw [hm] at qJ HOB hll ⊢;clear hm
    by_cases k2:kd=2
    ·
     subst k2
     by_cases hm0:m=0
     ·
      have hmb:((m:Int) == 0)=true:=by rw [beq_iff_eq];omega
      have qK:=Lib.hid (cO (n:=1) SV.out);have Oe:=Lib.hid (BO LD.out (Xa (by rw [HM.out];exact hm0)) (by decide));clear k1
      go_wp2_with fail
      generalize w5.alloc (.cells #[.int .u8 2,.int .i64 xa,.int .i64 xb] 58)=wx at *;clear o1 o2 o3 p6 x0 x1 x2 p6x;refine ax (fun _=>True) [0,1,2,3,4,5,6,7,8,9,10,11,12,13,14,15,16,17,18,19,20,21,22,23,24,25,26,27,28,29,30] [] (by kernel_rfl) (by kernel_rfl) rfl (fun _ _ _ _=>trivial) trivial ?_;intro Q' hQ';simp only [pk];refine aA ?_;refine av ?_;go_wp2;go_ret
      exact ⟨qM Oe.out,qK.out⟩
     ·
      obtain ⟨M1,hM1⟩:∃ x,m=x+1:=⟨m - 1,by omega⟩
      obtain ⟨g,cap,eg,hgc,-⟩:=Own.addr (o:=fun _=>0) (c:=0) (⟨bG qJ.out (fun _ _=>Nat.zero_le _),fun _ _=>rfl⟩:Own _ (fun _=>0) 0 3 1 (.slice sa m sc) m (aV l)) (by omega)
      injection eg with e1 e2 e3
      subst e1 e3;have abh:M1 < l.length:=by have:=HM.out;omega
      have f1:=qJ.out.cells (g:=g) rfl M1 (.int .i64 l[M1]) (by simp [aV,abh]);rw [Addr.add_lit,Nat.zero_add] at f1;have hlk:=HL.out l[M1] (List.getElem_mem abh);obtain ⟨q,hq⟩:∃ q:Nat,l[M1]=(q:Int):=⟨l[M1].toNat,by omega⟩
      rw [hq] at f1 hlk;have ZM:q < P.ops.length:=by omega
      have hqn:(q:Int) < N:=by omega
      obtain ⟨_,_,bo',oo',eb,_,q2,_⟩:=eB.opAt HRX.out (List.getElem?_eq_getElem ZM);cases eb
      obtain ⟨oa,hoa⟩:∃ x,P.ops[q].a=x:=⟨_,rfl⟩
      rw [hoa] at q2;have HOE:=Lib.hid (aao (P:=P) (xa:=xa) (xb:=xb) (oa:=oa) (show l.length=M1+1 by rw [HM.out];exact hM1) hq (by rw [Ko ZM];exact hoa));have I9:=Lib.hid (aap (xa:=xa) (xb:=xb) (j:=j) (show l.length=M1+1 by rw [HM.out];exact hM1));have hmb:((m:Int) == 0)=false:=by rw [beq_eq_false_iff_ne];omega
      have ab5:IntKind.i64.wrap ((m:Int) - 1)=(M1:Int):=by rw [IntWalk.i64_in _ (by omega)];omega
      have ab6:(M1:Int) < m:=by omega
      have ab7:(m:Int)≤sc:=by omega
      have ad5:(M1:Int)≤sc:=by omega
      have hqw:IntKind.i64.wrap ((q:Int)+1)=(q:Int)+1:=IntWalk.i64_in _ (by omega);have uU:Hid (World.ownsRow _ W.heap.size 3 1 (.slice (some ⟨g,0,none⟩) M1 sc) (l.take M1).length (aV (l.take M1))):=Lib.hid (by
       have h1:=yE (m:=M1) qJ.out (by omega) (by omega);rw [Nat.mul_one] at h1;rw [List.length_take,Nat.min_eq_left (by omega)]
       simpa [aV,List.map_take] using h1)
      have acE:Hid (∀ x∈l.take M1,0≤x∧x < ((j+1:Nat):Int)):=Lib.hid fun x h=>Ye.out x (List.mem_of_mem_take h)
      have acF:Hid ((l.take M1).length≤j+1):=Lib.hid (by rw [List.length_take];have:=FC.out;have:=HM.out;omega);clear hoa hq k1 hm0 hM1
      go_wp2_with fail
      generalize w5.alloc (.cells #[.int .u8 2,.int .i64 xa,.int .i64 xb] 58)=wx at *;have qK:=Lib.hid (cO (n:=1) SV.out);have acG:=Lib.hid (cO (n:=1) HB1.out);clear o1 o2 o3 p6;refine ax (fun w'=>w'.cell? ⟨w.heap.size,6,none⟩=some (.slice (some ⟨bo,oo,none⟩) N co)∧w'.cell? ⟨g,M1,none⟩=some (.int .i64 q)∧w'.cell? ⟨bo,oo+q*3+1,none⟩=some (.int .i64 oa)∧w'.cell? ⟨w5.heap.size,1,none⟩=some (.int .i64 xa)∧w'.cell? ⟨w5.heap.size,2,none⟩=some (.int .i64 xb)) [0,1,2,3,4,5,6,7,8,9,10,11,12,13,14,15,16,17,18,19,20,21,22,23,24,25,26,27,28,29,30] [] (by kernel_rfl) (by kernel_rfl) rfl (fun _ _ hx h=>⟨hx.cell h.1,hx.cell h.2.1,hx.cell h.2.2.1,hx.cell h.2.2.2.1,hx.cell h.2.2.2.2⟩) ⟨p6x,f1,q2,x1,x2⟩ ?_;intro Q' hQ';simp only [pk]
      by_cases hA:oa=xa
      ·
       have hAb:(oa != xa)=false:=by simp [hA]
       by_cases K5:xb=(q:Int)+1
       ·
        have hBb:(xb != (q:Int)+1)=false:=by simp [K5]
        have Kq:Hid (jr P (P.ops.drop (j+1)) (j+1) (nW (l.take M1))=j5 P):=Lib.hid (by
         rw [← I9.out];exact (Fq LD.out (by rw [HOE.out,if_neg (fun h=>h.elim (fun h=>h hA) (fun h=>h K5))])).symm)
        clear hA K5;refine aA ?_;refine av ?_;go_wp2;go_roundw
        case rel=>exact ⟨j+1,l.take M1,hlt,by go_num,acG.out,uU.out,acE.out,acF.out,Kq.out⟩
        case measure=>simp [intOf];omega
       ·
        have hBb:(xb != (q:Int)+1)=true:=by simpa using K5
        have Oe:=Lib.hid (BO LD.out (show _=(201:Int) by rw [HOE.out,if_pos (.inr K5)]) (by decide));clear hA K5;refine aA ?_;refine av ?_;go_wp2;go_ret
        exact ⟨qM Oe.out,qK.out⟩
      ·
       have hAb:(oa != xa)=true:=by simpa using hA
       have Oe:=Lib.hid (BO LD.out (show _=(201:Int) by rw [HOE.out,if_pos (.inl hA)]) (by decide));clear hA;refine aA ?_;refine av ?_;go_wp2;go_ret
       exact ⟨qM Oe.out,qK.out⟩
    have k2i:(kd == 2)=false:=by rw [beq_eq_false_iff_ne];exact k2
    have nQ:Hid (World.ownsRow _ W.heap.size 3 1 (.slice sa m sc) l.length (aV l)):=Lib.hid (by rw [HM.out];exact qJ.out)
    by_cases k0:kd=0
    ·
     subst k0
     by_cases hm0:m=0
     ·
      have Kq:Hid (jr P (P.ops.drop (j+1)) (j+1) (nW l)=j5 P):=Lib.hid (by
       have h1:=Fq LD.out (by rw [SQ,if_pos (by rw [HM.out];exact hm0)]);rw [SS _ (by decide) (by decide)] at h1;exact h1.symm)
      subst hm0;clear k1 k2;go_wp2;go_roundw
      case rel=>exact ⟨j+1,l,hlt,by go_num,HB1.out,nQ.out,Ye.out,FC.out,Kq.out⟩
      case measure=>simp [intOf];omega
     ·
      have Qc:(0:Int) < m:=by omega
      have Oe:=Lib.hid (BO LD.out (show _=(201:Int) by rw [SQ,if_neg (by rw [HM.out];exact hm0)]) (by decide));clear k1 k2;go_wp2;go_ret
      exact ⟨qM Oe.out,SV.out⟩
    ·
     have k0i:(kd == 0)=false:=by rw [beq_eq_false_iff_ne];exact k0
     have Kq:Hid (jr P (P.ops.drop (j+1)) (j+1) (nW l)=j5 P):=Lib.hid (by
      have h1:=Fq LD.out (aaq P _ k1 k2 k0);rw [SS _ k1 k2] at h1;exact h1.symm)
     clear k1 k2 k0;go_wp2;go_roundw
     case rel=>exact ⟨j+1,l,hlt,by go_num,HB1.out,nQ.out,Ye.out,FC.out,Kq.out⟩
     case measure=>simp [intOf];omega
  ·
   obtain rfl:j=N:=by omega
   have hji:¬ (j:Int) < j:=by omega
   have wK:Hid (j5 P=mK P):=Lib.hid (by rw [← HS.out,List.drop_eq_nil_of_le (by have:=HN.out;omega)];rfl)
   by_cases hn0:j=0
   ·
    have hnb:((j:Int) == 0)=true:=by rw [beq_iff_eq];omega
    have Oe:Hid (j5 P=200):=Lib.hid (by rw [wK.out];unfold mK;rw [if_pos (.inl (by rw [HN.out];exact hn0))]);clear hlt hj;go_wp2;go_ret
    exact ⟨qM Oe.out,fU.out⟩
   ·
    have hnb:((j:Int) == 0)=false:=by rw [beq_eq_false_iff_ne];omega
    obtain ⟨J,hJ⟩:∃ x,j=x+1:=⟨j - 1,by omega⟩
    have hlt2:J < P.ops.length:=by have:=HN.out;omega
    obtain ⟨Vx,_,bo,oo,rfl,o1,o2,o3⟩:=eB.opAt (Gr.out.below fU.out) (List.getElem?_eq_getElem hlt2);have MC:(j:Int)≤co:=by omega
    have hjw:IntKind.i64.wrap ((j:Int) - 1)=(J:Int):=by rw [IntWalk.i64_in _ (by omega)];omega
    have hJj:(J:Int) < j:=by omega
    obtain ⟨kd,hkd⟩:∃ x,P.ops[J].kind=x:=⟨_,rfl⟩
    rw [hkd] at o1;have HKD:Hid ((jy P (P.ops.length - 1)).kind=kd):=Lib.hid (by rw [show P.ops.length - 1=J by have:=HN.out;omega,Ko hlt2];exact hkd);have Fv:Hid (¬ P.ops.length=0):=Lib.hid (by rw [HN.out];exact hn0);clear hkd o2 o3 hlt hj hn0
    by_cases k0:kd=0
    ·
     have k0i:(kd != 0)=false:=by simp [k0]
     have Oe:Hid (j5 P=0):=Lib.hid (by rw [wK.out];unfold mK;rw [if_neg (fun h=>h.elim Fv.out (fun h=>h (HKD.out.trans k0)))]);clear k0;go_wp2;go_ret
     exact ⟨qM Oe.out,fU.out⟩
    ·
     have k0i:(kd != 0)=true:=by simpa using k0
     have Oe:Hid (j5 P=200):=Lib.hid (by rw [wK.out];unfold mK;rw [if_pos (.inr (by rw [HKD.out];exact k0))]);clear k0;go_wp2;go_ret
     exact ⟨qM Oe.out,fU.out⟩
def kG (l:List eu):Nat:=(l.map fun a=>a.params.length).sum
def gJ (l:List dN):Nat:=(l.map fun a=>a.start.length).sum
theorem Kr {l:List eu}{j:Nat}(h:j < l.length):kG (l.take (j+1))=kG (l.take j)+l[j].params.length:=by
 rw [kG,kG,List.take_succ_eq_append_getElem h,List.map_append,List.sum_append];simp
theorem BP {l:List dN}{j:Nat}(h:j < l.length):gJ (l.take (j+1))=gJ (l.take j)+l[j].start.length:=by
 rw [gJ,gJ,List.take_succ_eq_append_getElem h,List.map_append,List.sum_append];simp
def nJ (p:ay):Nat:=p.parts.length+p.lines.length+p.ops.length
structure xU (p:ay):Prop where
 parts:p.parts.length≤17600000000000
 lines:p.lines.length≤17600000000000
 ops:p.ops.length≤17600000000000
 params:∀ a∈p.parts,a.params.length≤17600000000000
 starts:∀ e∈p.lines,e.start.length≤17600000000000
def Og (w:World)(p:ay)(e:Ending)(w':World):Prop:=∃ b,e=.returned (.bool b)∧(b=false→nJ p+kG p.parts+gJ p.lines≤1048576)∧Below w.heap.size w w'
theorem Kt (w:World)(vg:Value)(g:ay)(hg:bO w vg g)(hgr:xU g):Calls Tryz.prog 4 #[vg] w (Og w g):=by
 obtain ⟨va,ve,vo,rfl,ra,re,ro⟩:=hg;obtain ⟨aa,ac,rfl⟩:=ra.slice;obtain ⟨ae,ec,rfl⟩:=re.slice;obtain ⟨ao,oc,rfl⟩:=ro.slice;have hb1:=au w (.cells #[.int .i64 g.memory,.int .i64 g.counters,.int .i64 g.ins,.int .i64 g.outs,.slice aa g.parts.length ac,.slice ae g.lines.length ec,.slice ao g.ops.length oc] 26);have hG:=heap_alloc_new w (.cells #[.int .i64 g.memory,.int .i64 g.counters,.int .i64 g.ins,.int .i64 g.outs,.slice aa g.parts.length ac,.slice ae g.lines.length ec,.slice ao g.ops.length oc] 26);generalize hW:w.alloc (.cells #[.int .i64 g.memory,.int .i64 g.counters,.int .i64 g.ins,.int .i64 g.outs,.slice aa g.parts.length ac,.slice ae g.lines.length ec,.slice ao g.ops.length oc] 26)=W at *;have y1:=ah _ _ hG 4 _ rfl;have y2:=ah _ _ hG 5 _ rfl;have y3:=ah _ _ hG 6 _ rfl;have RA:=Lib.hid (ra.below (dU _ _) hb1);have RE:=Lib.hid (re.below (dU _ _) hb1);have HB:=Lib.hid hb1;have GR:=Lib.hid hgr;have s1:=hgr.parts;have s2:=hgr.lines;have s3:=hgr.ops;obtain ⟨A,hA⟩:∃ x,nJ g=x:=⟨_,rfl⟩
 have hA2:A=g.parts.length+g.lines.length+g.ops.length:=hA.symm;have HA:=Lib.hid hA;have e1:IntKind.i64.wrap ((g.parts.length:Int)+g.lines.length)=(g.parts.length:Int)+g.lines.length:=IntWalk.i64_in _ (by omega);have e2:IntKind.i64.wrap ((g.parts.length:Int)+g.lines.length+g.ops.length)=(A:Int):=by rw [IntWalk.i64_in _ (by omega)];omega
 clear ra re ro hgr hG hb1 hA
 go_enter Tryz.func4,Tryz.ntmps4
 go_wp2_with fail
 clear e1 e2 y3 hW;obtain ⟨n,hn⟩:∃ x,g.parts.length=x:=⟨_,rfl⟩
 have HN:=Lib.hid hn;rw [hn] at s1 hA2 y1 y2 RA ⊢;clear hn;obtain ⟨m,hm⟩:∃ x,g.lines.length=x:=⟨_,rfl⟩
 have HM:=Lib.hid hm;rw [hm] at s2 hA2 y1 y2 RE ⊢;clear hm
 go_loopw [3,4] (fun x i wr=>∃ (k:Nat),k≤n∧i=.int .i64 k∧x=.int .i64 ((A+kG (g.parts.take k):Nat):Int)∧A+kG (g.parts.take k)≤100000000000000∧wr=W) (fun _ i _=>n - (intOf i).toNat)
 case atStart=>exact ⟨0,Nat.zero_le _,rfl,by simp [kG];omega,by simp [kG];omega,rfl⟩
 case round =>
  obtain ⟨k,hk,rfl,rfl,hle,hWW⟩:=hrel;obtain rfl:=hWW.symm
  by_cases hgo:k < n∧A+kG (g.parts.take k)≤1048576
  ·
   obtain ⟨hlt,hsm⟩:=hgo;have dG:(k:Int) < n:=by omega
   have hlt2:k < g.parts.length:=by have:=HN.out;omega
   have Oh:((A+kG (g.parts.take k):Nat):Int)≤1048576:=by omega
   obtain ⟨b0,off,rfl,hcap,hb0,hrec⟩:=RA.out.at (by omega);obtain ⟨cs,hcs,AO,hcl⟩:=hrec k hlt2;obtain ⟨xs,rfl,hst⟩:=AO;have c2:W.cell? ⟨b0,off+k*2+1,none⟩=some xs:=hcl 1 (by omega);obtain ⟨sa,sc,hxs⟩:=Ints.slice hst;subst hxs;have iK:(n:Int)≤ac:=by have:=HN.out;omega
   have hpk:=GR.out.params _ (List.getElem_mem hlt2);have hT:=Kr hlt2;have hwr:IntKind.i64.wrap (((A+kG (g.parts.take k):Nat):Int)+(g.parts[k].params.length:Int))=((A+kG (g.parts.take (k+1)):Nat):Int):=by rw [IntWalk.i64_in _ (by omega)];omega
   obtain ⟨N,hN⟩:∃ x,A+kG (g.parts.take k)=x:=⟨_,rfl⟩
   obtain ⟨N2,SX⟩:∃ x,A+kG (g.parts.take (k+1))=x:=⟨_,rfl⟩
   have hle2:N2≤100000000000000:=by omega
   have DN:=Lib.hid SX;rw [hN,SX] at hwr;rw [hN] at Oh ⊢;clear hcl hcs hrec hst hpk hT hN SX hle hsm;generalize g.parts[k].params.length=z at *;have hwr:=Lib.hid hwr
   go_wp2_with fail
   go_roundw
   case rel=>exact ⟨k+1,hlt,by go_num,by rw [DN.out],by rw [DN.out];exact hle2,by trivial⟩
   case measure=>simp [intOf];omega
  ·
   obtain ⟨N,hN⟩:∃ x,A+kG (g.parts.take k)=x:=⟨_,rfl⟩
   have HE:Hid (N≤1048576→N=A+kG g.parts):=Lib.hid fun h=>by
    have:k=n:=by omega
    rw [← hN,List.take_of_length_le (by have:=HN.out;omega)]
   rw [hN] at hle ⊢;have BQ:k < n→¬ N≤1048576:=fun h h2=>hgo ⟨h,by omega⟩
   clear hN hgo RA
   by_cases hlt:k < n
   ·
    have dG:(k:Int) < n:=by omega
    have Oh:¬ (N:Int)≤1048576:=by have:=BQ hlt;omega
    clear BQ hlt
    go_wp2_with fail
    go_loopw [3,5] (fun x i wr=>∃ (k:Nat),k≤m∧i=.int .i64 k∧x=.int .i64 ((N+gJ (g.lines.take k):Nat):Int)∧N+gJ (g.lines.take k)≤300000000000000∧wr=W) (fun _ i _=>m - (intOf i).toNat)
    case atStart=>exact ⟨0,Nat.zero_le _,rfl,by simp [gJ],by simp [gJ];omega,rfl⟩
    case round =>
     obtain ⟨k,hk,rfl,rfl,hle,hWW⟩:=hrel;obtain rfl:=hWW.symm
     by_cases hgo:k < m∧N+gJ (g.lines.take k)≤1048576
     ·
      obtain ⟨hlt,hsm⟩:=hgo;have dG:(k:Int) < m:=by omega
      have hlt2:k < g.lines.length:=by have:=HM.out;omega
      have Oh:((N+gJ (g.lines.take k):Nat):Int)≤1048576:=by omega
      obtain ⟨b0,off,rfl,hcap,hb0,hrec⟩:=RE.out.at (by omega);obtain ⟨cs,hcs,AO,hcl⟩:=hrec k hlt2;obtain ⟨xs,rfl,hst⟩:=AO;have c4:W.cell? ⟨b0,off+k*3+2,none⟩=some xs:=hcl 2 (by omega);obtain ⟨sa,sc,hxs⟩:=Ints.slice hst;subst hxs;have iK:(m:Int)≤ec:=by have:=HM.out;omega
      have hpk:=GR.out.starts _ (List.getElem_mem hlt2);have hT:=BP hlt2;have hwr:IntKind.i64.wrap (((N+gJ (g.lines.take k):Nat):Int)+(g.lines[k].start.length:Int))=((N+gJ (g.lines.take (k+1)):Nat):Int):=by rw [IntWalk.i64_in _ (by omega)];omega
      obtain ⟨N1,hN⟩:∃ x,N+gJ (g.lines.take k)=x:=⟨_,rfl⟩
      obtain ⟨N2,SX⟩:∃ x,N+gJ (g.lines.take (k+1))=x:=⟨_,rfl⟩
      have hle2:N2≤300000000000000:=by omega
      have DN:=Lib.hid SX;rw [hN,SX] at hwr;rw [hN] at Oh ⊢;clear hcl hcs hrec hst hpk hT hN SX hle hsm;generalize g.lines[k].start.length=z at *;have hwr:=Lib.hid hwr
      go_wp2_with fail
      go_roundw
      case rel=>exact ⟨k+1,hlt,by go_num,by rw [DN.out],by rw [DN.out];exact hle2,by trivial⟩
      case measure=>simp [intOf];omega
     ·
      obtain ⟨N1,hN⟩:∃ x,N+gJ (g.lines.take k)=x:=⟨_,rfl⟩
      have HE2:Hid (N1≤1048576→N1=A+kG g.parts+gJ g.lines):=Lib.hid fun h=>by
       have e1:k=m:=by omega
       have e2:=HE.out (by omega);rw [← hN,e2,List.take_of_length_le (by have:=HM.out;omega)]
      rw [hN] at hle ⊢;have BQ:k < m→¬ N1≤1048576:=fun h h2=>hgo ⟨h,by omega⟩
      clear hN hgo RE
      by_cases hbig:N1≤1048576
      ·
       have dG:¬ (k:Int) < m:=by have:¬ k < m:=fun h=>BQ h hbig;omega
       have hbi:¬ (1048576:Int) < N1:=by omega
       have YH:=Lib.hid hbig;clear BQ hbig;go_wp2;go_ret
       exact ⟨_,rfl,fun _=>by rw [HA.out,← HE2.out YH.out];exact YH.out,HB.out⟩
      ·
       have hbi:(1048576:Int) < N1:=by omega
       have acH:¬ (N1:Int)≤1048576:=by omega
       clear BQ hbig
       by_cases hlt:k < m
       ·
        have dG:(k:Int) < m:=by omega
        clear hlt;go_wp2;go_ret
        exact ⟨_,rfl,(fun h=>by cases h),HB.out⟩
       ·
        have dG:¬ (k:Int) < m:=by omega
        clear hlt;go_wp2;go_ret
        exact ⟨_,rfl,(fun h=>by cases h),HB.out⟩
   ·
    have dG:¬ (k:Int) < n:=by omega
    clear BQ hlt
    go_wp2_with fail
    go_loopw [3,5] (fun x i wr=>∃ (k:Nat),k≤m∧i=.int .i64 k∧x=.int .i64 ((N+gJ (g.lines.take k):Nat):Int)∧N+gJ (g.lines.take k)≤300000000000000∧wr=W) (fun _ i _=>m - (intOf i).toNat)
    case atStart=>exact ⟨0,Nat.zero_le _,rfl,by simp [gJ],by simp [gJ];omega,rfl⟩
    case round =>
     obtain ⟨k,hk,rfl,rfl,hle,hWW⟩:=hrel;obtain rfl:=hWW.symm
     by_cases hgo:k < m∧N+gJ (g.lines.take k)≤1048576
     ·
      obtain ⟨hlt,hsm⟩:=hgo;have dG:(k:Int) < m:=by omega
      have hlt2:k < g.lines.length:=by have:=HM.out;omega
      have Oh:((N+gJ (g.lines.take k):Nat):Int)≤1048576:=by omega
      obtain ⟨b0,off,rfl,hcap,hb0,hrec⟩:=RE.out.at (by omega);obtain ⟨cs,hcs,AO,hcl⟩:=hrec k hlt2;obtain ⟨xs,rfl,hst⟩:=AO;have c4:W.cell? ⟨b0,off+k*3+2,none⟩=some xs:=hcl 2 (by omega);obtain ⟨sa,sc,hxs⟩:=Ints.slice hst;subst hxs;have iK:(m:Int)≤ec:=by have:=HM.out;omega
      have hpk:=GR.out.starts _ (List.getElem_mem hlt2);have hT:=BP hlt2;have hwr:IntKind.i64.wrap (((N+gJ (g.lines.take k):Nat):Int)+(g.lines[k].start.length:Int))=((N+gJ (g.lines.take (k+1)):Nat):Int):=by rw [IntWalk.i64_in _ (by omega)];omega
      obtain ⟨N1,hN⟩:∃ x,N+gJ (g.lines.take k)=x:=⟨_,rfl⟩
      obtain ⟨N2,SX⟩:∃ x,N+gJ (g.lines.take (k+1))=x:=⟨_,rfl⟩
      have hle2:N2≤300000000000000:=by omega
      have DN:=Lib.hid SX;rw [hN,SX] at hwr;rw [hN] at Oh ⊢;clear hcl hcs hrec hst hpk hT hN SX hle hsm;generalize g.lines[k].start.length=z at *;have hwr:=Lib.hid hwr
      go_wp2_with fail
      go_roundw
      case rel=>exact ⟨k+1,hlt,by go_num,by rw [DN.out],by rw [DN.out];exact hle2,by trivial⟩
      case measure=>simp [intOf];omega
     ·
      obtain ⟨N1,hN⟩:∃ x,N+gJ (g.lines.take k)=x:=⟨_,rfl⟩
      have HE2:Hid (N1≤1048576→N1=A+kG g.parts+gJ g.lines):=Lib.hid fun h=>by
       have e1:k=m:=by omega
       have e2:=HE.out (by omega);rw [← hN,e2,List.take_of_length_le (by have:=HM.out;omega)]
      rw [hN] at hle ⊢;have BQ:k < m→¬ N1≤1048576:=fun h h2=>hgo ⟨h,by omega⟩
      clear hN hgo RE
      by_cases hbig:N1≤1048576
      ·
       have dG:¬ (k:Int) < m:=by have:¬ k < m:=fun h=>BQ h hbig;omega
       have hbi:¬ (1048576:Int) < N1:=by omega
       have YH:=Lib.hid hbig;clear BQ hbig;go_wp2;go_ret
       exact ⟨_,rfl,fun _=>by rw [HA.out,← HE2.out YH.out];exact YH.out,HB.out⟩
      ·
       have hbi:(1048576:Int) < N1:=by omega
       have acH:¬ (N1:Int)≤1048576:=by omega
       clear BQ hbig
       by_cases hlt:k < m
       ·
        have dG:(k:Int) < m:=by omega
        clear hlt;go_wp2;go_ret
        exact ⟨_,rfl,(fun h=>by cases h),HB.out⟩
       ·
        have dG:¬ (k:Int) < m:=by omega
        clear hlt;go_wp2;go_ret
        exact ⟨_,rfl,(fun h=>by cases h),HB.out⟩
theorem Oi (P:ay):cu P=if jv P≠0 then jv P else if gZ P.parts≠0 then gZ P.parts else if iD P.memory P.lines≠0 then iD P.memory P.lines else if j5 P≠0 then j5 P else if 131072 < kZ P then 5 else 0:=by
 unfold cu jv j5
 by_cases hw:(dD P.memory 1024 && dD P.counters 17 && dD P.ins 16 && dD P.outs 16)=true
 ·
  rw [if_pos hw,if_pos hw]
  by_cases h1:32 < P.parts.length∨96 < P.lines.length∨131072 < P.ops.length
  ·
   rw [if_pos h1,if_pos h1,if_pos (by decide)]
  ·
   rw [if_neg h1,if_neg h1,if_neg (show ¬ (0:Int)≠0 by decide)]
 ·
  rw [if_neg hw,if_neg hw,if_pos (by decide)]
theorem Oj {P:ay}(h:jv P=0):0≤P.memory∧P.memory≤1024:=by
 unfold jv at h
 split at h
 ·
  rename_i hw
  simp only [Bool.and_eq_true,within_iff] at hw;omega
 ·
  cases h
theorem wC {m:Int}{a:dN}(h:a.base < 0∨a.size < 0∨m < a.base∨m - a.base < a.size):rA m a=190:=by
 unfold rA;rw [if_neg];simp only [Bool.and_eq_true,within_iff];omega
theorem Xb {m:Int}{a:dN}(h:¬ (a.base < 0∨a.size < 0∨m < a.base∨m - a.base < a.size)):rA m a=if a.size < a.start.length then 88 else 0:=by
 unfold rA;rw [if_pos];simp only [Bool.and_eq_true,within_iff];omega
theorem rY {R X e x:Int}(h:R=if e=0 then X else e)(he:e=x)(hx:x≠0):R=x:=by
 rw [h,he,if_neg hx]
def D6 (w:World)(P:ay)(e:Ending)(w':World):Prop:=e=.returned (.int .i64 (cu P))∧(cu P=0→tT P∧wm P)∧Below w.heap.size w w'
theorem jE {w w':World}{P:ay}{x:Int}(h:cu P=x)(hx:x≠0)(hb:Below w.heap.size w w'):D6 w P (.returned (.int .i64 x)) w':=⟨qM h,fun h0=>absurd (h.symm.trans h0) hx,hb⟩
theorem wD (w:World)(v:Value)(P:ay)(hv:bO w v P)(hg:xU P):Calls Tryz.prog 19 #[v] w (D6 w P):=by
 obtain ⟨vp,vl,vo,rfl,rp,rl,ro⟩:=hv;obtain ⟨ap,cp,rfl⟩:=rp.slice;obtain ⟨al,cl,rfl⟩:=rl.slice;obtain ⟨ao,co,rfl⟩:=ro.slice;have HV:Hid (bO w (.agg #[.int .i64 P.memory,.int .i64 P.counters,.int .i64 P.ins,.int .i64 P.outs,.slice ap P.parts.length cp,.slice al P.lines.length cl,.slice ao P.ops.length co]) P):=Lib.hid ⟨_,_,_,rfl,rp,rl,ro⟩;have Jb:=Lib.hid rp;have mV:=Lib.hid rl;have hb1:=au w (.cells #[.int .i64 P.memory,.int .i64 P.counters,.int .i64 P.ins,.int .i64 P.outs,.slice ap P.parts.length cp,.slice al P.lines.length cl,.slice ao P.ops.length co] 26);have hX:=heap_alloc_new w (.cells #[.int .i64 P.memory,.int .i64 P.counters,.int .i64 P.ins,.int .i64 P.outs,.slice ap P.parts.length cp,.slice al P.lines.length cl,.slice ao P.ops.length co] 26);have p0:=ah _ _ hX 0 _ rfl;have p1:=ah _ _ hX 1 _ rfl;have p2:=ah _ _ hX 2 _ rfl;have p3:=ah _ _ hX 3 _ rfl;have p4:=ah _ _ hX 4 _ rfl;have p5:=ah _ _ hX 5 _ rfl;have p6:=ah _ _ hX 6 _ rfl;have HB:=Lib.hid hb1;have HX:=Lib.hid hX;have HG:=Lib.hid hg;have g1:=hg.parts;have g2:=hg.lines;have g3:=hg.ops;clear rp rl ro hX hg hb1;generalize hW:w.alloc (.cells #[.int .i64 P.memory,.int .i64 P.counters,.int .i64 P.ins,.int .i64 P.outs,.slice ap P.parts.length cp,.slice al P.lines.length cl,.slice ao P.ops.length co] 26)=W at *;have XW:W.heap.size=w.heap.size+1:=by rw [← hW];simp
 have HSW:=Lib.hid XW
 go_enter Tryz.func19,Tryz.ntmps19
 go_wp2_with fail
 clear p0 p1 p2 p3 p4 p5 p6 hW XW;refine (Fp _ _ P (HV.out.below HB.out)).mono ?_;rintro e w2 ⟨rfl,hx,hb2⟩;have zb:=Lib.hid (Oi P);obtain ⟨x,hxe⟩:∃ x,jv P=x:=⟨_,rfl⟩
 rw [hxe] at hx zb ⊢;have SY:=Lib.hid (fun h0:x=0=>Oj (hxe.trans h0));clear hxe;have HB2:=Lib.hid (HB.out.trans (hb2.mono HB.out.size));have HW2:=Lib.hid hb2;clear hb2
 by_cases hx0:x=0
 ·
  subst hx0;replace zb:=Lib.hid (zb.out.trans (if_neg (by decide)));have hz:=hx rfl;have HZ:=Lib.hid hz;have z1:=hz.parts;have z2:=hz.lines;clear hx hz;have p4:=cell_later HW2.out (ah _ _ HX.out 4 _ rfl)
  go_wp2_with fail
  clear p4;obtain ⟨n,hn⟩:∃ x,P.parts.length=x:=⟨_,rfl⟩
  have HN:=Lib.hid hn;obtain ⟨m,hm⟩:∃ x,P.lines.length=x:=⟨_,rfl⟩
  have HM:=Lib.hid hm;rw [hn,hm] at HX HV;rw [hn] at g1 z1 Jb;rw [hm] at g2 z2 mV;clear hn hm
  go_loopw [4] (fun i wl=>∃ (j:Nat),j≤n∧i=.int .i64 j∧Below W.heap.size W wl∧gZ (P.parts.drop j)=gZ P.parts) (fun i _=>n - (intOf i).toNat)
  case atStart=>exact ⟨0,Nat.zero_le _,rfl,HW2.out,rfl⟩
  case round =>
   obtain ⟨j,hj,rfl,hb,hpe⟩:=hrel;have MI:=Lib.hid hpe;clear hpe;have dP:=Lib.hid hb;have fU:=Lib.hid (HB.out.trans (hb.mono (by have:=HSW.out;omega)));have p4:=cell_later hb (ah _ _ HX.out 4 _ rfl);clear hb
   by_cases hlt:j < n
   ·
    have dG:(j:Int) < n:=by omega
    have hlt2:j < P.parts.length:=by have:=HN.out;omega
    obtain ⟨b0,off,rfl,hcap,hb0,hrec⟩:=Jb.out.at (by omega);obtain ⟨cs,hcs,AO,hcl⟩:=hrec j hlt2;obtain ⟨y,rfl,hst⟩:=AO;have c0:=cell_later fU.out (hcl 0 (by omega));have c1:=cell_later fU.out (hcl 1 (by omega));simp [iU] at c0 c1;have iK:(n:Int)≤cp:=by have:=HN.out;omega
    obtain ⟨sa,sc,hxs⟩:=Ints.slice hst;subst hxs;have HST:=Lib.hid (hst.below fU.out);have HPD:=Lib.hid (MI.out.symm.trans (yF hlt2));clear hcl hcs hrec hst;generalize P.parts[j]=a at *
    go_wp2_with fail
    refine dB (fun w'=>w'.cell? ⟨w.heap.size,4,none⟩=some (.slice (some ⟨b0,off,none⟩) n cp)∧w'.cell? ⟨b0,off+j*2,none⟩=some (.int .u8 a.tag)∧w'.cell? ⟨b0,off+j*2+1,none⟩=some (.slice sa a.params.length sc)) [0,1,2,3,4,5,6,7,8,9,10,11,13,14,15,16] [] [0,1,2,3,4,5,6,7,8,9,10,11] 8 (by kernel_rfl) (by kernel_rfl) rfl ⟨p4,c0,c1⟩ ?_;intro Q' hQ' lq;simp only [pk];refine aA ?_;refine av ?_;refine aG (i:=12) (by kernel_rfl) ?_;simp only [pk]
    go_wp2_with fail
    by_cases hgd:aF a.tag a.params
    ·
     have aas:=Lib.hid (HPD.out.trans (if_pos hgd)).symm;refine (AY _ a.tag sa _ sc a.params hgd (HST.out.drewN 1)).mono ?_;rintro e w6 ⟨vti,vto,rfl,q1,q2,hb6⟩;have hb6:Below wr.heap.size wr w6:=iY (n:=1) hb6;have HB6:=Lib.hid (dP.out.trans (hb6.mono dP.out.size));replace c0:=cell_later hb6 c0;replace c1:=cell_later hb6 c1;replace p4:=cell_later hb6 p4;clear q1 q2 hb6
     go_wp2_with fail
     refine ⟨(fun h=>by cases h),?_⟩;refine dQ (r:=[13,14,15,16]) (n:=3) lq (by kernel_rfl) ⟨p4,c0,c1⟩ ?_;simp only [pk];refine aA ?_;refine av ?_;clear lq;refine bg (ks:=[17,18,19]) (fun _ _ hx h=>⟨hx.cell h.1,hx.cell h.2.1,hx.cell h.2.2⟩) (by kernel_rfl) ?_;simp only [pk];clear c0 c1 p4;go_wp2;go_roundw
     case rel=>exact ⟨j+1,hlt,by go_num,HB6.out,aas.out⟩
     case measure=>simp [intOf];omega
    ·
     have hne:=EA a.tag;have hof:=ZI _ a.tag sa _ sc a.params hgd (HST.out.drewN 1);obtain ⟨er,her⟩:∃ x,zw a.tag=x:=⟨_,rfl⟩
     rw [her] at hne hof;have aas:Hid (cu P=er):=Lib.hid (by
      have h1:gZ P.parts=er:=(HPD.out.trans (if_neg hgd)).trans her;rw [zb.out,h1,if_pos hne])
     refine hof.mono ?_;clear hof her;rintro e w6 ⟨rfl,hb6⟩;have hb6:Below wr.heap.size wr w6:=iY (n:=1) hb6;have HB6:=Lib.hid (fU.out.trans (hb6.mono fU.out.size));have ab9:(er != 0)=true:=by simpa using hne
     replace c0:=cell_later hb6 c0;replace c1:=cell_later hb6 c1;replace p4:=cell_later hb6 p4;have ou:=Lib.hid hne;clear hb6 hne
     go_wp2_with fail
     refine ⟨(fun h=>by cases h),?_⟩;refine dQ (r:=[13,14,15,16]) (n:=3) lq (by kernel_rfl) ⟨p4,c0,c1⟩ ?_;simp only [pk];refine aA ?_;refine av ?_;clear lq;refine bg (ks:=[17,18,19]) (fun _ _ hx h=>⟨hx.cell h.1,hx.cell h.2.1,hx.cell h.2.2⟩) (by kernel_rfl) ?_;simp only [pk];clear c0 c1 p4;go_wp2;go_ret
     exact jE aas.out ou.out HB6.out
   ·
    obtain rfl:j=n:=by omega
    have hji:¬ (j:Int) < j:=by omega
    have hpz:gZ P.parts=0:=by rw [← MI.out,List.drop_eq_nil_of_le (by have:=HN.out;omega)];rfl
    replace zb:=Lib.hid (zb.out.trans (if_neg (fun h=>h hpz)));clear hpz;have p5:=cell_later dP.out (ah _ _ HX.out 5 _ rfl);clear hlt hj
    go_wp2_with fail
    clear p4 p5 HW2 HB2
    go_loopw [8] (fun i wl=>∃ (k:Nat),k≤m∧i=.int .i64 k∧Below W.heap.size W wl∧iD P.memory (P.lines.drop k)=iD P.memory P.lines) (fun i _=>m - (intOf i).toNat)
    case atStart=>exact ⟨0,Nat.zero_le _,rfl,dP.out,rfl⟩
    case round =>
     clear dP fU;obtain ⟨k,hk,rfl,hb,hle⟩:=hrel;have wK:=Lib.hid hle;clear hle;have dP:=Lib.hid hb;have fU:=Lib.hid (HB.out.trans (hb.mono (by have:=HSW.out;omega)));have p5:=cell_later hb (ah _ _ HX.out 5 _ rfl);have p0:=cell_later hb (ah _ _ HX.out 0 _ rfl);clear hb
     by_cases hlt:k < m
     ·
      have dG:(k:Int) < m:=by omega
      have hlt2:k < P.lines.length:=by have:=HM.out;omega
      obtain ⟨b0,off,rfl,hcap,hb0,hrec⟩:=mV.out.at (by omega);obtain ⟨cs,hcs,AO,hcl⟩:=hrec k hlt2;obtain ⟨y,rfl,hst⟩:=AO;have c0:=cell_later fU.out (hcl 0 (by omega));have c1:=cell_later fU.out (hcl 1 (by omega));have c2:=cell_later fU.out (hcl 2 (by omega));simp [iV] at c0 c1 c2;have iK:(m:Int)≤cl:=by have:=HM.out;omega
      obtain ⟨sa,sc,hxs⟩:=Ints.slice hst;subst hxs;have ad6:=HG.out.starts _ (List.getElem_mem hlt2);have HLD:=Lib.hid (wK.out.symm.trans (yG hlt2));clear hcl hcs hrec hst;generalize P.lines[k]=a at *;have hbX:=au wr (.cells #[.int .i64 a.base,.int .i64 a.size] 52);have hY:=heap_alloc_new wr (.cells #[.int .i64 a.base,.int .i64 a.size] 52);have r0:=ah _ _ hY 0 _ rfl;have r1:=ah _ _ hY 1 _ rfl;have p0':=cell_later hbX p0;have p5':=cell_later hbX p5;have c2':=cell_later hbX c2;have HB2:=Lib.hid (dP.out.trans (hbX.mono dP.out.size));have HB3:=Lib.hid (fU.out.trans (hbX.mono fU.out.size));clear hbX hY
      by_cases a1:a.base < 0
      ·
       have HC:=Lib.hid (show cu P=190 from by rw [zb.out,rY HLD.out (wC (by omega)) (by decide)];rfl);go_wp2;go_ret
       exact jE HC.out (by decide) HB3.out
      by_cases a2:a.size < 0
      ·
       have HC:=Lib.hid (show cu P=190 from by rw [zb.out,rY HLD.out (wC (by omega)) (by decide)];rfl);go_wp2;go_ret
       exact jE HC.out (by decide) HB3.out
      by_cases a3:P.memory < a.base
      ·
       have HC:=Lib.hid (show cu P=190 from by rw [zb.out,rY HLD.out (wC (by omega)) (by decide)];rfl);go_wp2;go_ret
       exact jE HC.out (by decide) HB3.out
      have hmb:=SY.out trivial
      by_cases a4:P.memory - a.base < a.size
      ·
       have HC:=Lib.hid (show cu P=190 from by rw [zb.out,rY HLD.out (wC (by omega)) (by decide)];rfl);go_wp2;go_ret
       exact jE HC.out (by decide) HB3.out
      have Ye:=Lib.hid (Xb (m:=P.memory) (a:=a) (by omega))
      go_wp2_with fail
      have Dj:=Lib.hid (cO (n:=1) HB2.out);have Cm:=Lib.hid (cO (n:=1) HB3.out);refine ax (fun w'=>w'.cell? ⟨w.heap.size,5,none⟩=some (.slice (some ⟨b0,off,none⟩) m cl)∧w'.cell? ⟨b0,off+k*3+2,none⟩=some (.slice sa a.start.length sc)∧w'.cell? ⟨wr.heap.size,1,none⟩=some (.int .i64 a.size)) [0,1,2,3,4,5,6,7,8,9] [] (by kernel_rfl) (by kernel_rfl) rfl (fun _ _ hx h=>⟨hx.cell h.1,hx.cell h.2.1,hx.cell h.2.2⟩) ⟨p5',c2',r1⟩ ?_;intro Q' hQ';simp only [pk]
      by_cases hst:a.size < a.start.length
      ·
       have aaT:a.size < (a.start.length:Int):=hst;have HC:=Lib.hid (show cu P=88 from by rw [zb.out,rY HLD.out (Ye.out.trans (if_pos hst)) (by decide)];rfl);refine aA ?_;refine av ?_;go_wp2;go_ret
       exact jE HC.out (by decide) Cm.out
      ·
       have aaT:¬ a.size < (a.start.length:Int):=hst;have acI:=Lib.hid (HLD.out.trans (if_pos (Ye.out.trans (if_neg hst)))).symm;refine aA ?_;refine av ?_;go_wp2;go_roundw
       case rel=>exact ⟨k+1,hlt,by go_num,Dj.out,acI.out⟩
       case measure=>simp [intOf];omega
     ·
      obtain rfl:k=m:=by omega
      have hki:¬ (k:Int) < k:=by omega
      have hlz:iD P.memory P.lines=0:=by rw [← wK.out,List.drop_eq_nil_of_le (by have:=HM.out;omega)];rfl
      replace zb:=Lib.hid (zb.out.trans (if_neg (fun h=>h hlz)));clear hlz;have p1:=cell_later dP.out (ah _ _ HX.out 1 _ rfl);have p2:=cell_later dP.out (ah _ _ HX.out 2 _ rfl);have p3:=cell_later dP.out (ah _ _ HX.out 3 _ rfl);have p4:=cell_later dP.out (ah _ _ HX.out 4 _ rfl);have p6:=cell_later dP.out (ah _ _ HX.out 6 _ rfl);clear hlt hk
      go_wp2_with fail
      clear p0 p1 p2 p3 p4 p5 p6;refine (Fu _ _ P (HV.out.below fU.out) HZ.out).mono ?_;rintro e w7 ⟨rfl,uI⟩;have hx:=fun h=>Ob (P:=P) h
      obtain ⟨x,hxe⟩:∃ x,j5 P=x:=⟨_,rfl⟩
      rw [hxe] at hx zb ⊢;clear hxe;have HW7:=Lib.hid (dP.out.trans (uI.mono dP.out.size));have Nl:=Lib.hid (fU.out.trans (uI.mono fU.out.size));clear uI
      by_cases hx0:x=0
      ·
       subst hx0;replace zb:=Lib.hid (zb.out.trans (if_neg (by decide)));have HAS:=Lib.hid (hx rfl);clear hx;have p0:=cell_later HW7.out (ah _ _ HX.out 0 _ rfl);have p1:=cell_later HW7.out (ah _ _ HX.out 1 _ rfl);have p2:=cell_later HW7.out (ah _ _ HX.out 2 _ rfl);have p3:=cell_later HW7.out (ah _ _ HX.out 3 _ rfl);have p4:=cell_later HW7.out (ah _ _ HX.out 4 _ rfl);have p5:=cell_later HW7.out (ah _ _ HX.out 5 _ rfl);have p6:=cell_later HW7.out (ah _ _ HX.out 6 _ rfl)
       go_wp2_with fail
       clear p0 p1 p2 p3 p4 p5 p6;refine (wu _ _ P (HV.out.below Nl.out) HZ.out HAS.out).mono ?_;rintro e w8 ⟨rfl,YI⟩;obtain ⟨y,hye⟩:∃ x,kZ P=x:=⟨_,rfl⟩
       rw [hye] at zb ⊢;clear hye;have LF:=Lib.hid (Nl.out.trans (YI.mono Nl.out.size));clear YI
       by_cases hy:131072 < y
       ·
        have HC:=Lib.hid (zb.out.trans (if_pos hy));go_wp2;go_ret
        exact jE HC.out (by decide) LF.out
       ·
        have HC:=Lib.hid (zb.out.trans (if_neg hy));go_wp2;go_ret
        exact ⟨qM HC.out,fun _=>⟨HZ.out,HAS.out⟩,LF.out⟩
      ·
       have hxi:(x != 0)=true:=by simpa using hx0
       have HX0:=Lib.hid hx0;clear hx hx0;go_wp2;go_ret
       exact jE (zb.out.trans (if_pos HX0.out)) HX0.out Nl.out
 ·
  have hxi:(x != 0)=true:=by simpa using hx0
  have HX0:=Lib.hid hx0;clear hx hx0;go_wp2;go_ret
  exact jE (zb.out.trans (if_pos HX0.out)) HX0.out HB2.out
theorem Fw (w:World)(v:Value)(P:ay)(hv:bO w v P)(hg:xU P):Calls Tryz.prog 11 #[v] w (og (.tuple #[.int .i64 (lM P).1,.int .i64 (lM P).2]) w):=by
 obtain ⟨vp,vl,vo,rfl,rp,rl,ro⟩:=hv;obtain ⟨ap,cp,rfl⟩:=rp.slice;obtain ⟨al,cl,rfl⟩:=rl.slice;obtain ⟨ao,co,rfl⟩:=ro.slice;have HV:Hid (bO w (.agg #[.int .i64 P.memory,.int .i64 P.counters,.int .i64 P.ins,.int .i64 P.outs,.slice ap P.parts.length cp,.slice al P.lines.length cl,.slice ao P.ops.length co]) P):=Lib.hid ⟨_,_,_,rfl,rp,rl,ro⟩;have hb1:=au w (.cells #[.int .i64 P.memory,.int .i64 P.counters,.int .i64 P.ins,.int .i64 P.outs,.slice ap P.parts.length cp,.slice al P.lines.length cl,.slice ao P.ops.length co] 26);have hX:=heap_alloc_new w (.cells #[.int .i64 P.memory,.int .i64 P.counters,.int .i64 P.ins,.int .i64 P.outs,.slice ap P.parts.length cp,.slice al P.lines.length cl,.slice ao P.ops.length co] 26);have p0:=ah _ _ hX 0 _ rfl;have p1:=ah _ _ hX 1 _ rfl;have p2:=ah _ _ hX 2 _ rfl;have p3:=ah _ _ hX 3 _ rfl;have p4:=ah _ _ hX 4 _ rfl;have p5:=ah _ _ hX 5 _ rfl;have p6:=ah _ _ hX 6 _ rfl;have HB:=Lib.hid hb1;have HX:=Lib.hid hX;have HG:=Lib.hid hg;clear rp rl ro hX hb1 hg;generalize hW:w.alloc (.cells #[.int .i64 P.memory,.int .i64 P.counters,.int .i64 P.ins,.int .i64 P.outs,.slice ap P.parts.length cp,.slice al P.lines.length cl,.slice ao P.ops.length co] 26)=W at *
 go_enter Tryz.func11,Tryz.ntmps11
 go_wp2_with fail
 clear p0 p1 p2 p3 p4 p5 p6 hW;refine (wD _ _ P (HV.out.below HB.out) HG.out).mono ?_;rintro e w2 ⟨rfl,hx,hb2⟩;have l5:Hid (lM P=if cu P≠0 then (0,cu P) else (kZ P,0)):=Lib.hid rfl;obtain ⟨x,hxe⟩:∃ x,cu P=x:=⟨_,rfl⟩
 rw [hxe] at hx l5 ⊢;clear hxe;have HB2:=Lib.hid (HB.out.trans (hb2.mono HB.out.size))
 by_cases hx0:x=0
 ·
  subst hx0;obtain ⟨hz,has⟩:=hx rfl;have p0:=cell_later hb2 (ah _ _ HX.out 0 _ rfl);have p1:=cell_later hb2 (ah _ _ HX.out 1 _ rfl);have p2:=cell_later hb2 (ah _ _ HX.out 2 _ rfl);have p3:=cell_later hb2 (ah _ _ HX.out 3 _ rfl);have p4:=cell_later hb2 (ah _ _ HX.out 4 _ rfl);have p5:=cell_later hb2 (ah _ _ HX.out 5 _ rfl);have p6:=cell_later hb2 (ah _ _ HX.out 6 _ rfl);have HZ:=Lib.hid hz;have HAS:=Lib.hid has;clear hx hb2 hz has
  go_wp2_with fail
  clear p0 p1 p2 p3 p4 p5 p6;refine (wu _ _ P (HV.out.below HB2.out) HZ.out HAS.out).mono ?_;rintro e w8 ⟨rfl,YI⟩;replace l5:=Lib.hid (l5.out.trans (if_neg (by decide)));have LF:=Lib.hid (HB2.out.trans (YI.mono HB2.out.size));clear YI;go_wp2
  go_ret2
  exact ⟨YG l5.out,LF.out⟩
 ·
  have hxi:(x != 0)=true:=by simpa using hx0
  replace l5:=Lib.hid (l5.out.trans (if_pos hx0));clear hx hx0 hb2;go_wp2
  go_ret2
  exact ⟨YG l5.out,HB2.out⟩
end Go.Proofs.YtpdlngonocancaaGreat
