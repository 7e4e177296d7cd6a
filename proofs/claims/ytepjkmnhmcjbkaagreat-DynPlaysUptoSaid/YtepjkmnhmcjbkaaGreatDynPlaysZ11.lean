/- The law 'pianola DynPlays' (upto): for every input it returns true, and what it was handed reads as before. The frame: arguments opened, the walk called, arguments shut. -/
import Derived.Test.YtepjkmnhmcjbkaaGreatDynPlaysZ10
import Derived.Test.YtepjkmnhmcjbkaaGreatDynPlaysZ6
import Derived.Test.YtepjkmnhmcjbkaaGreatDynPlaysZ8
import Derived.Test.YtepjkmnhmcjbkaaGreatDynPlaysZ9
import Derived.Test.YtepjkmnhmcjbkaaGreatDynPlaysZ4
import Derived.Test.YtepjkmnhmcjbkaaGreatDynPlaysZ2
import Derived.Test.YtepjkmnhmcjbkaaGreatDynPlaysZ1
import Derived.Deep.Slices
import Derived.SizedLaws
import Derived.WalkKit
import Derived.ProofKit
import Derived.OpenShut
import Derived.ChangeOld
import Derived.Below
import Derived.Test.YtepjkmnhmcjbkaaGreatRows
import Derived.ShutString
import Derived.JoinedCond
set_option linter.unusedVariables false
set_option linter.unusedSimpArgs false
set_option maxRecDepth 100000
set_option maxHeartbeats 20000000
namespace Go.Proofs.YtepjkmnhmcjbkaaGreat
open Go.RowKit
section
variable {w:World} {o:Col} {b M K B:Nat} {g:av} {caps:List Int} {qs:bR} {tb:Nat->Nat} {H:iH} {r:bH}
theorem abf (h:Duo w o b g caps M K B qs tb H r)(n:Int)(xv:Value):Calls Tryz.prog 11 #[.pointer (some ⟨b,0,none⟩),.agg (dP g caps H).toArray,.agg #[.int .i64 4,.int .i64 n,xv]] w (fq (.bool true) w):=by
 obtain ⟨a,ha⟩:∃ a:Int,a=4:=⟨_,rfl⟩;rw [<- ha];have HN:=af h.few;unfold dP;obtain ⟨aa,ac,ae,ec,ai,nc,ao,uc,cv,cc,ta,tc,sa',dz,fl⟩:=H;dsimp only;have hb1:=au w (.cells #[.string g.name,.slice aa g.actors.length ac,.slice ae g.edges.length ec,.slice ai g.ins.length nc,.slice ao g.outs.length uc,.slice cv caps.length cc,.slice ta g.actors.length tc,.slice sa' (aR g) dz,.slice (some ⟨fl,0,none⟩) 1 1] 37);have hX:=dQ (w:=w) o 21000 #[.string g.name,.slice aa g.actors.length ac,.slice ae g.edges.length ec,.slice ai g.ins.length nc,.slice ao g.outs.length uc,.slice cv caps.length cc,.slice ta g.actors.length tc,.slice sa' (aR g) dz,.slice (some ⟨fl,0,none⟩) 1 1] 37;have T1:=Turn.of_below o 21000 hb1;have hD:=h.quiet T1;generalize ext o w.heap.size 21000=o1 at *;have hb2:=au (w.alloc (.cells #[.string g.name,.slice aa g.actors.length ac,.slice ae g.edges.length ec,.slice ai g.ins.length nc,.slice ao g.outs.length uc,.slice cv caps.length cc,.slice ta g.actors.length tc,.slice sa' (aR g) dz,.slice (some ⟨fl,0,none⟩) 1 1] 37)) (.cells #[.int .i64 a,.int .i64 n,xv] 45);have hY:=dQ (w:=w.alloc (.cells #[.string g.name,.slice aa g.actors.length ac,.slice ae g.edges.length ec,.slice ai g.ins.length nc,.slice ao g.outs.length uc,.slice cv caps.length cc,.slice ta g.actors.length tc,.slice sa' (aR g) dz,.slice (some ⟨fl,0,none⟩) 1 1] 37)) o1 21001 #[.int .i64 a,.int .i64 n,xv] 45;have T2:=Turn.of_below o1 21001 hb2;have HD:=af (hD.quiet T2);have HX:=af (hX.turn T2 (fun h=>h));have ny:=hY;have HB:=af (hb1.trans (hb2.mono hb1.size));generalize ext o1 _ 21001=q at *;rw [World.size_alloc] at ny;have HY:=af ny;clear hb1 hX T1 hD hb2 hY ny T2 h;obtain ⟨W,hW⟩:∃ x,(w.alloc (.cells #[.string g.name,.slice aa g.actors.length ac,.slice ae g.edges.length ec,.slice ai g.ins.length nc,.slice ao g.outs.length uc,.slice cv caps.length cc,.slice ta g.actors.length tc,.slice sa' (aR g) dz,.slice (some ⟨fl,0,none⟩) 1 1] 37)).alloc (.cells #[.int .i64 a,.int .i64 n,xv] 45)=x:=⟨_,rfl⟩;rw [hW] at HD HX HY HB;have y0:=HY.out.cell 0 _ rfl;have y1:=HY.out.cell 1 _ rfl;subst ha;go_enter Tryz.func11,Tryz.ntmps11;go_wp2_with fail;clear hW;refine (HD.out.rdy.1).mono ?_;rintro e w1 ⟨lv,rfl,ow,hb⟩;have HB0:=HB;obtain ⟨sa,sc,rfl⟩:=aA ow;have T:=Turn.of_below q 21002 hb;replace HB:=af (HB.out.trans (Below.mono hb HB.out.size));replace HD:=af (HD.out.quiet T);replace HX:=af (HX.out.turn T (fun h=>h));replace HY:=af (HY.out.turn T (fun h=>h));have HL:=af (Own.made q 21002 ow);have HG:=af (fun k hk=>Nat.le_trans HB0.out.size (ow.lt k hk).1);generalize ext q _ 21002=q1 at *;clear T ow hb y0 y1 HB0;have Sb:=HX.out;obtain ⟨x0,x1,x2,x3,x4,x5,x6,x7,x8⟩:=jD Sb;clear Sb;go_wp2_with fail;refine (HD.out.rdy.2).mono ?_;rintro e w2 ⟨lv2,rfl,ow,hb⟩;have T:=Turn.of_below q1 21002 hb;replace HB:=af (HB.out.trans (Below.mono hb HB.out.size));replace HD:=af (HD.out.quiet T);replace HX:=af (HX.out.turn T (fun h=>h));replace HY:=af (HY.out.turn T (fun h=>h));replace HL:=af (HL.out.turn T (fun h=>h));have HL2:=af (Own.made q1 21003 ow).vals;generalize ext q1 _ 21002=q2 at *;clear T ow hb;clear x0 x1 x2 x3 x4 x5 x6 x7 x8;obtain ⟨sb,sd,rfl⟩:=Ints.slice HL2.out;go_wp2_with fail;refine (gQ HL.out.vals HL2.out (by have:=HN.out.1;omega)).mono ?_;rintro e _ ⟨rfl,m,rfl⟩;replace HL:=af (HL.out.drewN m);replace HB:=af (dL HB.out m);go_wp2_with fail;refine (uD HL.out (by have:=HN.out.1;omega) HG.out HB.out.size).mono ?_;rintro e w4 ⟨rfl,hb4⟩;have HZ:=af (HB.out.trans hb4);clear hb4;go_wp2;go_ret;exact ⟨rfl,HZ.out⟩
theorem abg (h:Duo w o b g caps M K B qs tb H r)(n:Int)(xv:Value):Calls Tryz.prog 11 #[.pointer (some ⟨b,0,none⟩),.agg (dP g caps H).toArray,.agg #[.int .i64 7,.int .i64 n,xv]] w (fq (.bool true) w):=by
 obtain ⟨a,ha⟩:∃ a:Int,a=7:=⟨_,rfl⟩;rw [<- ha];have HN:=af h.count.2.2;unfold dP;obtain ⟨aa,ac,ae,ec,ai,nc,ao,uc,cv,cc,ta,tc,sa',dz,fl⟩:=H;dsimp only;have hb1:=au w (.cells #[.string g.name,.slice aa g.actors.length ac,.slice ae g.edges.length ec,.slice ai g.ins.length nc,.slice ao g.outs.length uc,.slice cv caps.length cc,.slice ta g.actors.length tc,.slice sa' (aR g) dz,.slice (some ⟨fl,0,none⟩) 1 1] 37);have hX:=dQ (w:=w) o 21000 #[.string g.name,.slice aa g.actors.length ac,.slice ae g.edges.length ec,.slice ai g.ins.length nc,.slice ao g.outs.length uc,.slice cv caps.length cc,.slice ta g.actors.length tc,.slice sa' (aR g) dz,.slice (some ⟨fl,0,none⟩) 1 1] 37;have T1:=Turn.of_below o 21000 hb1;have hD:=h.quiet T1;generalize ext o w.heap.size 21000=o1 at *;have hb2:=au (w.alloc (.cells #[.string g.name,.slice aa g.actors.length ac,.slice ae g.edges.length ec,.slice ai g.ins.length nc,.slice ao g.outs.length uc,.slice cv caps.length cc,.slice ta g.actors.length tc,.slice sa' (aR g) dz,.slice (some ⟨fl,0,none⟩) 1 1] 37)) (.cells #[.int .i64 a,.int .i64 n,xv] 45);have hY:=dQ (w:=w.alloc (.cells #[.string g.name,.slice aa g.actors.length ac,.slice ae g.edges.length ec,.slice ai g.ins.length nc,.slice ao g.outs.length uc,.slice cv caps.length cc,.slice ta g.actors.length tc,.slice sa' (aR g) dz,.slice (some ⟨fl,0,none⟩) 1 1] 37)) o1 21001 #[.int .i64 a,.int .i64 n,xv] 45;have T2:=Turn.of_below o1 21001 hb2;have HD:=af (hD.quiet T2);have HX:=af (hX.turn T2 (fun h=>h));have ny:=hY;have HB:=af (hb1.trans (hb2.mono hb1.size));generalize ext o1 _ 21001=q at *;rw [World.size_alloc] at ny;have HY:=af ny;clear hb1 hX T1 hD hb2 hY ny T2 h;obtain ⟨W,hW⟩:∃ x,(w.alloc (.cells #[.string g.name,.slice aa g.actors.length ac,.slice ae g.edges.length ec,.slice ai g.ins.length nc,.slice ao g.outs.length uc,.slice cv caps.length cc,.slice ta g.actors.length tc,.slice sa' (aR g) dz,.slice (some ⟨fl,0,none⟩) 1 1] 37)).alloc (.cells #[.int .i64 a,.int .i64 n,xv] 45)=x:=⟨_,rfl⟩;rw [hW] at HD HX HY HB;have y0:=HY.out.cell 0 _ rfl;have y1:=HY.out.cell 1 _ rfl;subst ha;go_enter Tryz.func11,Tryz.ntmps11;go_wp2_with fail;clear hW;refine (HD.out.count.1).mono ?_;rintro e w1 ⟨lv,rfl,ow,hb⟩;have HB0:=HB;obtain ⟨sa,sc,rfl⟩:=aA ow;have T:=Turn.of_below q 21002 hb;replace HB:=af (HB.out.trans (Below.mono hb HB.out.size));replace HD:=af (HD.out.quiet T);replace HX:=af (HX.out.turn T (fun h=>h));replace HY:=af (HY.out.turn T (fun h=>h));have HL:=af (Own.made q 21002 ow);have HG:=af (fun k hk=>Nat.le_trans HB0.out.size (ow.lt k hk).1);generalize ext q _ 21002=q1 at *;clear T ow hb y0 y1 HB0;have Sb:=HX.out;obtain ⟨x0,x1,x2,x3,x4,x5,x6,x7,x8⟩:=jD Sb;clear Sb;go_wp2_with fail;refine (HD.out.count.2.1).mono ?_;rintro e w2 ⟨lv2,rfl,ow,hb⟩;have T:=Turn.of_below q1 21002 hb;replace HB:=af (HB.out.trans (Below.mono hb HB.out.size));replace HD:=af (HD.out.quiet T);replace HX:=af (HX.out.turn T (fun h=>h));replace HY:=af (HY.out.turn T (fun h=>h));replace HL:=af (HL.out.turn T (fun h=>h));have HL2:=af (Own.made q1 21003 ow).vals;generalize ext q1 _ 21002=q2 at *;clear T ow hb;clear x0 x1 x2 x3 x4 x5 x6 x7 x8;obtain ⟨sb,sd,rfl⟩:=Ints.slice HL2.out;go_wp2_with fail;refine (gQ HL.out.vals HL2.out (by have:=HN.out;omega)).mono ?_;rintro e _ ⟨rfl,m,rfl⟩;replace HL:=af (HL.out.drewN m);replace HB:=af (dL HB.out m);go_wp2_with fail;refine (uD HL.out (by have:=HN.out;omega) HG.out HB.out.size).mono ?_;rintro e w4 ⟨rfl,hb4⟩;have HZ:=af (HB.out.trans hb4);clear hb4;go_wp2;go_ret;exact ⟨rfl,HZ.out⟩
theorem abh (h:Duo w o b g caps M K B qs tb H r)(n:Int)(xv:Value):Calls Tryz.prog 11 #[.pointer (some ⟨b,0,none⟩),.agg (dP g caps H).toArray,.agg #[.int .i64 8,.int .i64 n,xv]] w (fq (.bool true) w):=by
 obtain ⟨a,ha⟩:∃ a:Int,a=8:=⟨_,rfl⟩;rw [<- ha];have HN:=af h.fired.2.2;unfold dP;obtain ⟨aa,ac,ae,ec,ai,nc,ao,uc,cv,cc,ta,tc,sa',dz,fl⟩:=H;dsimp only;have hb1:=au w (.cells #[.string g.name,.slice aa g.actors.length ac,.slice ae g.edges.length ec,.slice ai g.ins.length nc,.slice ao g.outs.length uc,.slice cv caps.length cc,.slice ta g.actors.length tc,.slice sa' (aR g) dz,.slice (some ⟨fl,0,none⟩) 1 1] 37);have hX:=dQ (w:=w) o 21000 #[.string g.name,.slice aa g.actors.length ac,.slice ae g.edges.length ec,.slice ai g.ins.length nc,.slice ao g.outs.length uc,.slice cv caps.length cc,.slice ta g.actors.length tc,.slice sa' (aR g) dz,.slice (some ⟨fl,0,none⟩) 1 1] 37;have T1:=Turn.of_below o 21000 hb1;have hD:=h.quiet T1;generalize ext o w.heap.size 21000=o1 at *;have hb2:=au (w.alloc (.cells #[.string g.name,.slice aa g.actors.length ac,.slice ae g.edges.length ec,.slice ai g.ins.length nc,.slice ao g.outs.length uc,.slice cv caps.length cc,.slice ta g.actors.length tc,.slice sa' (aR g) dz,.slice (some ⟨fl,0,none⟩) 1 1] 37)) (.cells #[.int .i64 a,.int .i64 n,xv] 45);have hY:=dQ (w:=w.alloc (.cells #[.string g.name,.slice aa g.actors.length ac,.slice ae g.edges.length ec,.slice ai g.ins.length nc,.slice ao g.outs.length uc,.slice cv caps.length cc,.slice ta g.actors.length tc,.slice sa' (aR g) dz,.slice (some ⟨fl,0,none⟩) 1 1] 37)) o1 21001 #[.int .i64 a,.int .i64 n,xv] 45;have T2:=Turn.of_below o1 21001 hb2;have HD:=af (hD.quiet T2);have HX:=af (hX.turn T2 (fun h=>h));have ny:=hY;have HB:=af (hb1.trans (hb2.mono hb1.size));generalize ext o1 _ 21001=q at *;rw [World.size_alloc] at ny;have HY:=af ny;clear hb1 hX T1 hD hb2 hY ny T2 h;obtain ⟨W,hW⟩:∃ x,(w.alloc (.cells #[.string g.name,.slice aa g.actors.length ac,.slice ae g.edges.length ec,.slice ai g.ins.length nc,.slice ao g.outs.length uc,.slice cv caps.length cc,.slice ta g.actors.length tc,.slice sa' (aR g) dz,.slice (some ⟨fl,0,none⟩) 1 1] 37)).alloc (.cells #[.int .i64 a,.int .i64 n,xv] 45)=x:=⟨_,rfl⟩;rw [hW] at HD HX HY HB;have y0:=HY.out.cell 0 _ rfl;have y1:=HY.out.cell 1 _ rfl;subst ha;go_enter Tryz.func11,Tryz.ntmps11;go_wp2_with fail;clear hW;refine (HD.out.fired.1).mono ?_;rintro e w1 ⟨lv,rfl,ow,hb⟩;have HB0:=HB;obtain ⟨sa,sc,rfl⟩:=aA ow;have T:=Turn.of_below q 21002 hb;replace HB:=af (HB.out.trans (Below.mono hb HB.out.size));replace HD:=af (HD.out.quiet T);replace HX:=af (HX.out.turn T (fun h=>h));replace HY:=af (HY.out.turn T (fun h=>h));have HL:=af (Own.made q 21002 ow);have HG:=af (fun k hk=>Nat.le_trans HB0.out.size (ow.lt k hk).1);generalize ext q _ 21002=q1 at *;clear T ow hb y0 y1 HB0;have Sb:=HX.out;obtain ⟨x0,x1,x2,x3,x4,x5,x6,x7,x8⟩:=jD Sb;clear Sb;go_wp2_with fail;refine (HD.out.fired.2.1).mono ?_;rintro e w2 ⟨lv2,rfl,ow,hb⟩;have T:=Turn.of_below q1 21002 hb;replace HB:=af (HB.out.trans (Below.mono hb HB.out.size));replace HD:=af (HD.out.quiet T);replace HX:=af (HX.out.turn T (fun h=>h));replace HY:=af (HY.out.turn T (fun h=>h));replace HL:=af (HL.out.turn T (fun h=>h));have HL2:=af (Own.made q1 21003 ow).vals;generalize ext q1 _ 21002=q2 at *;clear T ow hb;clear x0 x1 x2 x3 x4 x5 x6 x7 x8;obtain ⟨sb,sd,rfl⟩:=Ints.slice HL2.out;go_wp2_with fail;refine (gQ HL.out.vals HL2.out (by have:=HN.out;omega)).mono ?_;rintro e _ ⟨rfl,m,rfl⟩;replace HL:=af (HL.out.drewN m);replace HB:=af (dL HB.out m);go_wp2_with fail;refine (uD HL.out (by have:=HN.out;omega) HG.out HB.out.size).mono ?_;rintro e w4 ⟨rfl,hb4⟩;have HZ:=af (HB.out.trans hb4);clear hb4;go_wp2;go_ret;exact ⟨rfl,HZ.out⟩
theorem abj (h:Duo w o b g caps M K B qs tb H r)(n:Int)(xv:Value):Calls Tryz.prog 11 #[.pointer (some ⟨b,0,none⟩),.agg (dP g caps H).toArray,.agg #[.int .i64 6,.int .i64 n,xv]] w (fq (.bool true) w):=by
 obtain ⟨a,ha⟩:∃ a:Int,a=6:=⟨_,rfl⟩;rw [<- ha];have HN:=af (h.out n).2.2;unfold dP;obtain ⟨aa,ac,ae,ec,ai,nc,ao,uc,cv,cc,ta,tc,sa',dz,fl⟩:=H;dsimp only;have hb1:=au w (.cells #[.string g.name,.slice aa g.actors.length ac,.slice ae g.edges.length ec,.slice ai g.ins.length nc,.slice ao g.outs.length uc,.slice cv caps.length cc,.slice ta g.actors.length tc,.slice sa' (aR g) dz,.slice (some ⟨fl,0,none⟩) 1 1] 37);have hX:=dQ (w:=w) o 21000 #[.string g.name,.slice aa g.actors.length ac,.slice ae g.edges.length ec,.slice ai g.ins.length nc,.slice ao g.outs.length uc,.slice cv caps.length cc,.slice ta g.actors.length tc,.slice sa' (aR g) dz,.slice (some ⟨fl,0,none⟩) 1 1] 37;have T1:=Turn.of_below o 21000 hb1;have hD:=h.quiet T1;generalize ext o w.heap.size 21000=o1 at *;have hb2:=au (w.alloc (.cells #[.string g.name,.slice aa g.actors.length ac,.slice ae g.edges.length ec,.slice ai g.ins.length nc,.slice ao g.outs.length uc,.slice cv caps.length cc,.slice ta g.actors.length tc,.slice sa' (aR g) dz,.slice (some ⟨fl,0,none⟩) 1 1] 37)) (.cells #[.int .i64 a,.int .i64 n,xv] 45);have hY:=dQ (w:=w.alloc (.cells #[.string g.name,.slice aa g.actors.length ac,.slice ae g.edges.length ec,.slice ai g.ins.length nc,.slice ao g.outs.length uc,.slice cv caps.length cc,.slice ta g.actors.length tc,.slice sa' (aR g) dz,.slice (some ⟨fl,0,none⟩) 1 1] 37)) o1 21001 #[.int .i64 a,.int .i64 n,xv] 45;have T2:=Turn.of_below o1 21001 hb2;have HD:=af (hD.quiet T2);have HX:=af (hX.turn T2 (fun h=>h));have ny:=hY;have HB:=af (hb1.trans (hb2.mono hb1.size));generalize ext o1 _ 21001=q at *;rw [World.size_alloc] at ny;have HY:=af ny;clear hb1 hX T1 hD hb2 hY ny T2 h;obtain ⟨W,hW⟩:∃ x,(w.alloc (.cells #[.string g.name,.slice aa g.actors.length ac,.slice ae g.edges.length ec,.slice ai g.ins.length nc,.slice ao g.outs.length uc,.slice cv caps.length cc,.slice ta g.actors.length tc,.slice sa' (aR g) dz,.slice (some ⟨fl,0,none⟩) 1 1] 37)).alloc (.cells #[.int .i64 a,.int .i64 n,xv] 45)=x:=⟨_,rfl⟩;rw [hW] at HD HX HY HB;have y0:=HY.out.cell 0 _ rfl;have y1:=HY.out.cell 1 _ rfl;subst ha;go_enter Tryz.func11,Tryz.ntmps11;go_wp2_with fail;clear hW;refine ((HD.out.out n).1).mono ?_;rintro e w1 ⟨lv,rfl,ow,hb⟩;have HB0:=HB;obtain ⟨sa,sc,rfl⟩:=aA ow;have T:=Turn.of_below q 21002 hb;replace HB:=af (HB.out.trans (Below.mono hb HB.out.size));replace HD:=af (HD.out.quiet T);replace HX:=af (HX.out.turn T (fun h=>h));replace HY:=af (HY.out.turn T (fun h=>h));have HL:=af (Own.made q 21002 ow);have HG:=af (fun k hk=>Nat.le_trans HB0.out.size (ow.lt k hk).1);generalize ext q _ 21002=q1 at *;clear T ow hb y0 y1 HB0;have Sb:=HX.out;obtain ⟨x0,x1,x2,x3,x4,x5,x6,x7,x8⟩:=jD Sb;clear Sb;have y1:=HY.out.cell 1 _ rfl;go_wp2_with fail;refine ((HD.out.out n).2.1).mono ?_;rintro e w2 ⟨lv2,rfl,ow,hb⟩;have T:=Turn.of_below q1 21002 hb;replace HB:=af (HB.out.trans (Below.mono hb HB.out.size));replace HD:=af (HD.out.quiet T);replace HX:=af (HX.out.turn T (fun h=>h));replace HY:=af (HY.out.turn T (fun h=>h));replace HL:=af (HL.out.turn T (fun h=>h));have HL2:=af (show Ints w2 (fun _=>0) 0 lv2 _ from ow);generalize ext q1 _ 21002=q2 at *;clear T ow hb y1;clear x0 x1 x2 x3 x4 x5 x6 x7 x8;obtain ⟨sb,sd,rfl⟩:=Ints.slice HL2.out;go_wp2_with fail;refine (gQ HL.out.vals HL2.out (by have:=HN.out;omega)).mono ?_;rintro e _ ⟨rfl,m,rfl⟩;replace HL:=af (HL.out.drewN m);replace HB:=af (dL HB.out m);go_wp2_with fail;refine (uD HL.out (by have:=HN.out;omega) HG.out HB.out.size).mono ?_;rintro e w4 ⟨rfl,hb4⟩;have HZ:=af (HB.out.trans hb4);clear hb4;go_wp2;go_ret;exact ⟨rfl,HZ.out⟩
theorem abk (h:Duo w o b g caps M K B qs tb H r)(n:Int)(xv:Value):Calls Tryz.prog 11 #[.pointer (some ⟨b,0,none⟩),.agg (dP g caps H).toArray,.agg #[.int .i64 5,.int .i64 n,xv]] w (fq (.bool true) w):=by
 obtain ⟨a,ha⟩:∃ a:Int,a=5:=⟨_,rfl⟩;rw [<- ha];unfold dP;obtain ⟨aa,ac,ae,ec,ai,nc,ao,uc,cv,cc,ta,tc,sa',dz,fl⟩:=H;dsimp only;have hb1:=au w (.cells #[.string g.name,.slice aa g.actors.length ac,.slice ae g.edges.length ec,.slice ai g.ins.length nc,.slice ao g.outs.length uc,.slice cv caps.length cc,.slice ta g.actors.length tc,.slice sa' (aR g) dz,.slice (some ⟨fl,0,none⟩) 1 1] 37);have hX:=dQ (w:=w) o 21000 #[.string g.name,.slice aa g.actors.length ac,.slice ae g.edges.length ec,.slice ai g.ins.length nc,.slice ao g.outs.length uc,.slice cv caps.length cc,.slice ta g.actors.length tc,.slice sa' (aR g) dz,.slice (some ⟨fl,0,none⟩) 1 1] 37;have T1:=Turn.of_below o 21000 hb1;have hD:=h.quiet T1;generalize ext o w.heap.size 21000=o1 at *;have hb2:=au (w.alloc (.cells #[.string g.name,.slice aa g.actors.length ac,.slice ae g.edges.length ec,.slice ai g.ins.length nc,.slice ao g.outs.length uc,.slice cv caps.length cc,.slice ta g.actors.length tc,.slice sa' (aR g) dz,.slice (some ⟨fl,0,none⟩) 1 1] 37)) (.cells #[.int .i64 a,.int .i64 n,xv] 45);have hY:=dQ (w:=w.alloc (.cells #[.string g.name,.slice aa g.actors.length ac,.slice ae g.edges.length ec,.slice ai g.ins.length nc,.slice ao g.outs.length uc,.slice cv caps.length cc,.slice ta g.actors.length tc,.slice sa' (aR g) dz,.slice (some ⟨fl,0,none⟩) 1 1] 37)) o1 21001 #[.int .i64 a,.int .i64 n,xv] 45;have T2:=Turn.of_below o1 21001 hb2;have HD:=af (hD.quiet T2);have HX:=af (hX.turn T2 (fun h=>h));have ny:=hY;have HB:=af (hb1.trans (hb2.mono hb1.size));generalize ext o1 _ 21001=q at *;rw [World.size_alloc] at ny;have HY:=af ny;clear hb1 hX T1 hD hb2 hY ny T2 h;obtain ⟨W,hW⟩:∃ x,(w.alloc (.cells #[.string g.name,.slice aa g.actors.length ac,.slice ae g.edges.length ec,.slice ai g.ins.length nc,.slice ao g.outs.length uc,.slice cv caps.length cc,.slice ta g.actors.length tc,.slice sa' (aR g) dz,.slice (some ⟨fl,0,none⟩) 1 1] 37)).alloc (.cells #[.int .i64 a,.int .i64 n,xv] 45)=x:=⟨_,rfl⟩;rw [hW] at HD HX HY HB;have y0:=HY.out.cell 0 _ rfl;have y1:=HY.out.cell 1 _ rfl;subst ha;have jX:=af (And.intro (jD HX.out) (And.intro (HY.out.cell 1 (.int .i64 n) rfl) HD.out.qD));have y1:=jX.out.2.1;go_enter Tryz.func11,Tryz.ntmps11;go_wp2_with fail;clear hW y0 y1;refine cB (fun w'=>(w'.cell? ⟨w.heap.size,0,none⟩=some (.string g.name)/\w'.cell? ⟨w.heap.size,1,none⟩=some (.slice aa g.actors.length ac)/\w'.cell? ⟨w.heap.size,2,none⟩=some (.slice ae g.edges.length ec)/\w'.cell? ⟨w.heap.size,3,none⟩=some (.slice ai g.ins.length nc)/\w'.cell? ⟨w.heap.size,4,none⟩=some (.slice ao g.outs.length uc)/\w'.cell? ⟨w.heap.size,5,none⟩=some (.slice cv caps.length cc)/\w'.cell? ⟨w.heap.size,6,none⟩=some (.slice ta g.actors.length tc)/\w'.cell? ⟨w.heap.size,7,none⟩=some (.slice sa' (aR g) dz)/\w'.cell? ⟨w.heap.size,8,none⟩=some (.slice (some ⟨fl,0,none⟩) 1 1))/\w'.cell? ⟨w.heap.size+1,1,none⟩=some (.int .i64 n)/\w'.cell? ⟨fl,0,none⟩=some (.int .i64 (iK r))) [0,2,6,8,9,10,11] [1,3,4,5,7] [0,2] 13 (by kernel_rfl) (by kernel_rfl) rfl jX.out ?_;intro Q' hQ' lD;simp only [pk];refine aD ?_;refine ax ?_;replace HD:=af (HD.out.quiet (Turn.refl _ _ _).drew);replace HX:=af (HX.out.turn (Turn.refl q (fun _=>False) W).drew (fun h=>h));replace HY:=af (HY.out.turn (Turn.refl q (fun _=>False) W).drew (fun h=>h));replace HB:=af (dL HB.out 1);refine aB (i:=1) (by kernel_rfl) ?_;simp only [pk];clear jX;go_wp2_with fail;refine (HD.out.halt.1).mono ?_;rintro e wN ⟨rfl,hb⟩;have T:=Turn.of_below q 21002 hb;replace HB:=af (HB.out.trans (Below.mono hb HB.out.size));replace HD:=af (HD.out.quiet T);replace HX:=af (HX.out.turn T (fun h=>h));replace HY:=af (HY.out.turn T (fun h=>h));generalize ext q _ 21002=q at *;clear T hb;have jX:=af (And.intro (jD HX.out) (And.intro (HY.out.cell 1 (.int .i64 n) rfl) HD.out.qD));go_wp2_with fail;refine ⟨by intros;exact jX.out,?_⟩;refine aB (i:=3) (by kernel_rfl) ?_;simp only [pk];clear jX;go_wp2_with fail;refine (HD.out.halt.2).mono ?_;rintro e wN ⟨rfl,hb⟩;have T:=Turn.of_below q 21002 hb;replace HB:=af (HB.out.trans (Below.mono hb HB.out.size));replace HD:=af (HD.out.quiet T);replace HX:=af (HX.out.turn T (fun h=>h));replace HY:=af (HY.out.turn T (fun h=>h));generalize ext q _ 21002=q at *;clear T hb;have jX:=af (And.intro (jD HX.out) (And.intro (HY.out.cell 1 (.int .i64 n) rfl) HD.out.qD));go_wp2_with fail;refine ⟨by intros;exact jX.out,?_⟩;refine aB (i:=4) (by kernel_rfl) ?_;simp only [pk];go_wp2_with fail;refine ⟨by intros;exact jX.out,?_⟩;refine aB (i:=5) (by kernel_rfl) ?_;simp only [pk];go_wp2_with fail;refine ⟨by intros;exact jX.out,?_⟩;refine dM (r:=[6,8,9,10,11]) (n:=4) lD (by kernel_rfl) jX.out ?_;simp only [pk];refine aD ?_;refine ax ?_;refine aB (i:=7) (by kernel_rfl) ?_;simp only [pk];clear lD;go_wp2_with fail;refine (HD.out.failed.1).mono ?_;rintro e _ ⟨rfl,rfl⟩;go_wp2_with fail;refine ⟨by intros;exact jX.out,?_⟩;refine aJ (ks:=[12,13,14]) (fun _ _ hx h=>⟨sV hx h.1,hx.cell h.2.1,hx.cell h.2.2⟩) (by kernel_rfl) ?_;simp only [pk];clear jX;go_wp2;go_ret;exact ⟨rfl,HB.out⟩
theorem Sc (h:Duo w o b g caps M K B qs tb H r)(a n:Int)(xv:Value)(e4:(a == 4)=false)(e5:(a == 5)=false)(e6:(a == 6)=false)(e7:(a == 7)=false)(e8:(a == 8)=false):Calls Tryz.prog 11 #[.pointer (some ⟨b,0,none⟩),.agg (dP g caps H).toArray,.agg #[.int .i64 a,.int .i64 n,xv]] w (fq (.bool true) w):=by
 have HN:=af (And.intro (h.out n).2.2 (And.intro h.count.2.2 h.fired.2.2));unfold dP;obtain ⟨aa,ac,ae,ec,ai,nc,ao,uc,cv,cc,ta,tc,sa',dz,fl⟩:=H;dsimp only;have hb1:=au w (.cells #[.string g.name,.slice aa g.actors.length ac,.slice ae g.edges.length ec,.slice ai g.ins.length nc,.slice ao g.outs.length uc,.slice cv caps.length cc,.slice ta g.actors.length tc,.slice sa' (aR g) dz,.slice (some ⟨fl,0,none⟩) 1 1] 37);have hX:=dQ (w:=w) o 21000 #[.string g.name,.slice aa g.actors.length ac,.slice ae g.edges.length ec,.slice ai g.ins.length nc,.slice ao g.outs.length uc,.slice cv caps.length cc,.slice ta g.actors.length tc,.slice sa' (aR g) dz,.slice (some ⟨fl,0,none⟩) 1 1] 37;have T1:=Turn.of_below o 21000 hb1;have hD:=h.quiet T1;generalize ext o w.heap.size 21000=o1 at *;have hb2:=au (w.alloc (.cells #[.string g.name,.slice aa g.actors.length ac,.slice ae g.edges.length ec,.slice ai g.ins.length nc,.slice ao g.outs.length uc,.slice cv caps.length cc,.slice ta g.actors.length tc,.slice sa' (aR g) dz,.slice (some ⟨fl,0,none⟩) 1 1] 37)) (.cells #[.int .i64 a,.int .i64 n,xv] 45);have hY:=dQ (w:=w.alloc (.cells #[.string g.name,.slice aa g.actors.length ac,.slice ae g.edges.length ec,.slice ai g.ins.length nc,.slice ao g.outs.length uc,.slice cv caps.length cc,.slice ta g.actors.length tc,.slice sa' (aR g) dz,.slice (some ⟨fl,0,none⟩) 1 1] 37)) o1 21001 #[.int .i64 a,.int .i64 n,xv] 45;have T2:=Turn.of_below o1 21001 hb2;have HD:=af (hD.quiet T2);have HX:=af (hX.turn T2 (fun h=>h));have ny:=hY;have HB:=af (hb1.trans (hb2.mono hb1.size));generalize ext o1 _ 21001=q at *;rw [World.size_alloc] at ny;have HY:=af ny;clear hb1 hX T1 hD hb2 hY ny T2 h;obtain ⟨W,hW⟩:∃ x,(w.alloc (.cells #[.string g.name,.slice aa g.actors.length ac,.slice ae g.edges.length ec,.slice ai g.ins.length nc,.slice ao g.outs.length uc,.slice cv caps.length cc,.slice ta g.actors.length tc,.slice sa' (aR g) dz,.slice (some ⟨fl,0,none⟩) 1 1] 37)).alloc (.cells #[.int .i64 a,.int .i64 n,xv] 45)=x:=⟨_,rfl⟩;rw [hW] at HD HX HY HB;have y0:=HY.out.cell 0 _ rfl;have y1:=HY.out.cell 1 _ rfl;have jX:=af (And.intro (jD HX.out) (And.intro (HY.out.cell 1 (.int .i64 n) rfl) HD.out.qD));have y1:=jX.out.2.1;go_enter Tryz.func11,Tryz.ntmps11;go_wp2_with fail;clear hW y0 y1 e4 e5 e6 e7 e8;refine cB (fun w'=>(w'.cell? ⟨w.heap.size,0,none⟩=some (.string g.name)/\w'.cell? ⟨w.heap.size,1,none⟩=some (.slice aa g.actors.length ac)/\w'.cell? ⟨w.heap.size,2,none⟩=some (.slice ae g.edges.length ec)/\w'.cell? ⟨w.heap.size,3,none⟩=some (.slice ai g.ins.length nc)/\w'.cell? ⟨w.heap.size,4,none⟩=some (.slice ao g.outs.length uc)/\w'.cell? ⟨w.heap.size,5,none⟩=some (.slice cv caps.length cc)/\w'.cell? ⟨w.heap.size,6,none⟩=some (.slice ta g.actors.length tc)/\w'.cell? ⟨w.heap.size,7,none⟩=some (.slice sa' (aR g) dz)/\w'.cell? ⟨w.heap.size,8,none⟩=some (.slice (some ⟨fl,0,none⟩) 1 1))/\w'.cell? ⟨w.heap.size+1,1,none⟩=some (.int .i64 n)/\w'.cell? ⟨fl,0,none⟩=some (.int .i64 (iK r))) [0,1,2,4,5,6,10,12,17,19] [3,7,8,9,11,13,14,15,16,18,20,21] [0,1,2,4,5,6] 18 (by kernel_rfl) (by kernel_rfl) rfl jX.out ?_;intro Q' hQ' lD;simp only [pk];refine aD ?_;refine ax ?_;replace HD:=af (HD.out.quiet (Turn.refl _ _ _).drew);replace HX:=af (HX.out.turn (Turn.refl q (fun _=>False) W).drew (fun h=>h));replace HY:=af (HY.out.turn (Turn.refl q (fun _=>False) W).drew (fun h=>h));replace HB:=af (dL HB.out 1);refine aB (i:=3) (by kernel_rfl) ?_;simp only [pk];clear jX;go_wp2_with fail;refine ((HD.out.out n).1).mono ?_;rintro e wN ⟨lv,rfl,ow,hb⟩;have T:=Turn.of_below q 21002 hb;replace HB:=af (HB.out.trans (Below.mono hb HB.out.size));replace HD:=af (HD.out.quiet T);replace HX:=af (HX.out.turn T (fun h=>h));replace HY:=af (HY.out.turn T (fun h=>h))
 skip
 have H1:=af (Own.made q 21002 ow).vals;generalize ext q _ 21002=q at *;clear T ow hb;have jX:=af (And.intro (jD HX.out) (And.intro (HY.out.cell 1 (.int .i64 n) rfl) HD.out.qD));obtain ⟨sa,sc,hsv⟩:=Ints.slice H1.out;subst hsv;go_wp2_with fail;refine ⟨by intros;exact jX.out,?_⟩;refine aB (i:=7) (by kernel_rfl) ?_;simp only [pk];clear jX;go_wp2_with fail;refine ((HD.out.out n).2.1).mono ?_;rintro e wN ⟨lv,rfl,ow,hb⟩;have T:=Turn.of_below q 21002 hb;replace HB:=af (HB.out.trans (Below.mono hb HB.out.size));replace HD:=af (HD.out.quiet T);replace HX:=af (HX.out.turn T (fun h=>h));replace HY:=af (HY.out.turn T (fun h=>h));replace H1:=af (H1.out.turn T (fun h=>h));have H2:=af (show Ints wN (fun _=>0) 0 lv _ from ow);generalize ext q _ 21002=q at *;clear T ow hb;have jX:=af (And.intro (jD HX.out) (And.intro (HY.out.cell 1 (.int .i64 n) rfl) HD.out.qD));obtain ⟨sa,sc,hsv⟩:=Ints.slice H2.out;subst hsv;go_wp2_with fail;refine ⟨by intros;exact jX.out,?_⟩;refine aB (i:=8) (by kernel_rfl) ?_;simp only [pk];clear jX;go_wp2_with fail;refine (gQ H1.out H2.out (by have:=HN.out.1;omega)).mono ?_;rintro e _ ⟨rfl,m,rfl⟩;replace HD:=af (HD.out.quiet ((Turn.refl _ _ _).drewN m));replace HX:=af (HX.out.drewN m);replace HY:=af (HY.out.drewN m);replace HB:=af (dL HB.out m);have jX:=af (And.intro (jD HX.out) (And.intro (HY.out.cell 1 (.int .i64 n) rfl) HD.out.qD));clear H1 H2;go_wp2_with fail;refine ⟨by intros;exact jX.out,?_⟩;refine aB (i:=9) (by kernel_rfl) ?_;simp only [pk];go_wp2_with fail;refine ⟨by intros;exact jX.out,?_⟩;refine dM (r:=[10,12]) (n:=12) lD (by kernel_rfl) jX.out ?_;simp only [pk];refine aD ?_;refine ax ?_;refine aB (i:=11) (by kernel_rfl) ?_;simp only [pk];clear jX;go_wp2_with fail;refine (HD.out.count.1).mono ?_;rintro e wN ⟨lv,rfl,ow,hb⟩;have T:=Turn.of_below q 21002 hb;replace HB:=af (HB.out.trans (Below.mono hb HB.out.size));replace HD:=af (HD.out.quiet T);replace HX:=af (HX.out.turn T (fun h=>h));replace HY:=af (HY.out.turn T (fun h=>h))
 skip
 have H1:=af (Own.made q 21002 ow).vals;generalize ext q _ 21002=q at *;clear T ow hb;have jX:=af (And.intro (jD HX.out) (And.intro (HY.out.cell 1 (.int .i64 n) rfl) HD.out.qD));obtain ⟨sa,sc,hsv⟩:=Ints.slice H1.out;subst hsv;go_wp2_with fail;refine ⟨by intros;exact jX.out,?_⟩;refine aB (i:=13) (by kernel_rfl) ?_;simp only [pk];clear jX;go_wp2_with fail;refine (HD.out.count.2.1).mono ?_;rintro e wN ⟨lv,rfl,ow,hb⟩;have T:=Turn.of_below q 21002 hb;replace HB:=af (HB.out.trans (Below.mono hb HB.out.size));replace HD:=af (HD.out.quiet T);replace HX:=af (HX.out.turn T (fun h=>h));replace HY:=af (HY.out.turn T (fun h=>h));replace H1:=af (H1.out.turn T (fun h=>h));have H2:=af (Own.made q 21002 ow).vals;generalize ext q _ 21002=q at *;clear T ow hb;have jX:=af (And.intro (jD HX.out) (And.intro (HY.out.cell 1 (.int .i64 n) rfl) HD.out.qD));obtain ⟨sa,sc,hsv⟩:=Ints.slice H2.out;subst hsv;go_wp2_with fail;refine ⟨by intros;exact jX.out,?_⟩;refine aB (i:=14) (by kernel_rfl) ?_;simp only [pk];clear jX;go_wp2_with fail;refine (gQ H1.out H2.out (by have:=HN.out.2.1;omega)).mono ?_;rintro e _ ⟨rfl,m,rfl⟩;replace HD:=af (HD.out.quiet ((Turn.refl _ _ _).drewN m));replace HX:=af (HX.out.drewN m);replace HY:=af (HY.out.drewN m);replace HB:=af (dL HB.out m);have jX:=af (And.intro (jD HX.out) (And.intro (HY.out.cell 1 (.int .i64 n) rfl) HD.out.qD));clear H1 H2;go_wp2_with fail;refine ⟨by intros;exact jX.out,?_⟩;refine aB (i:=15) (by kernel_rfl) ?_;simp only [pk];go_wp2_with fail;refine ⟨by intros;exact jX.out,?_⟩;refine aB (i:=16) (by kernel_rfl) ?_;simp only [pk];go_wp2_with fail;refine ⟨by intros;exact jX.out,?_⟩;refine dM (r:=[17,19]) (n:=5) lD (by kernel_rfl) jX.out ?_;simp only [pk];refine aD ?_;refine ax ?_;refine aB (i:=18) (by kernel_rfl) ?_;simp only [pk];clear jX;go_wp2_with fail;refine (HD.out.fired.1).mono ?_;rintro e wN ⟨lv,rfl,ow,hb⟩;have T:=Turn.of_below q 21002 hb;replace HB:=af (HB.out.trans (Below.mono hb HB.out.size));replace HD:=af (HD.out.quiet T);replace HX:=af (HX.out.turn T (fun h=>h));replace HY:=af (HY.out.turn T (fun h=>h))
 skip
 have H1:=af (Own.made q 21002 ow).vals;generalize ext q _ 21002=q at *;clear T ow hb;have jX:=af (And.intro (jD HX.out) (And.intro (HY.out.cell 1 (.int .i64 n) rfl) HD.out.qD));obtain ⟨sa,sc,hsv⟩:=Ints.slice H1.out;subst hsv;go_wp2_with fail;refine ⟨by intros;exact jX.out,?_⟩;clear lD;refine aB (i:=20) (by kernel_rfl) ?_;simp only [pk];clear jX;go_wp2_with fail;refine (HD.out.fired.2.1).mono ?_;rintro e wN ⟨lv,rfl,ow,hb⟩;have T:=Turn.of_below q 21002 hb;replace HB:=af (HB.out.trans (Below.mono hb HB.out.size));replace HD:=af (HD.out.quiet T);replace HX:=af (HX.out.turn T (fun h=>h));replace HY:=af (HY.out.turn T (fun h=>h));replace H1:=af (H1.out.turn T (fun h=>h));have H2:=af (Own.made q 21002 ow).vals;generalize ext q _ 21002=q at *;clear T ow hb;have jX:=af (And.intro (jD HX.out) (And.intro (HY.out.cell 1 (.int .i64 n) rfl) HD.out.qD));obtain ⟨sa,sc,hsv⟩:=Ints.slice H2.out;subst hsv;go_wp2_with fail;refine ⟨by intros;exact jX.out,?_⟩;refine aB (i:=21) (by kernel_rfl) ?_;simp only [pk];clear jX;go_wp2_with fail;refine (gQ H1.out H2.out (by have:=HN.out.2.2;omega)).mono ?_;rintro e _ ⟨rfl,m,rfl⟩;replace HD:=af (HD.out.quiet ((Turn.refl _ _ _).drewN m));replace HX:=af (HX.out.drewN m);replace HY:=af (HY.out.drewN m);replace HB:=af (dL HB.out m);have jX:=af (And.intro (jD HX.out) (And.intro (HY.out.cell 1 (.int .i64 n) rfl) HD.out.qD));clear H1 H2;go_wp2_with fail;refine ⟨by intros;exact jX.out,?_⟩;refine aJ (ks:=[22,23]) (fun _ _ hx h=>⟨sV hx h.1,hx.cell h.2.1,hx.cell h.2.2⟩) (by kernel_rfl) ?_;simp only [pk];clear jX;go_wp2;go_ret;exact ⟨rfl,HB.out⟩
theorem wZ (h:Duo w o b g caps M K B qs tb H r)(a n:Int)(xv:Value):Calls Tryz.prog 11 #[.pointer (some ⟨b,0,none⟩),.agg (dP g caps H).toArray,.agg #[.int .i64 a,.int .i64 n,xv]] w (fq (.bool true) w):=by
 by_cases e4:a=4
 ·
  subst e4;exact abf h n xv
 by_cases e5:a=5
 ·
  subst e5;exact abk h n xv
 by_cases e6:a=6
 ·
  subst e6;exact abj h n xv
 by_cases e7:a=7
 ·
  subst e7;exact abg h n xv
 by_cases e8:a=8
 ·
  subst e8;exact abh h n xv
 exact Sc h a n xv (beq_eq_false_iff_ne.2 e4) (beq_eq_false_iff_ne.2 e5) (beq_eq_false_iff_ne.2 e6) (beq_eq_false_iff_ne.2 e7) (beq_eq_false_iff_ne.2 e8)
end
def jZ (k:Nat):Prop:=LV k\/k=21102
theorem jZ.r {k:Nat}(h:bV 1 k):jZ k:=.inl (.inl h)
theorem jZ.y {k:Nat}(h:eu 10000 k):jZ k:=.inl (.inr h)
def DI (w:World)(o:Col)(b:Nat)(g:av)(caps:List Int)(M K B:Nat)(qs:bR)(tb:Nat->Nat)(H:iH)(e:Ending)(w':World):Prop :=
 ∃ o' r',e=.returned (.bool true)/\Turn o o' jZ w w'/\Duo w' o' b g caps M K B qs tb H r'
theorem Duo.mono {w:World}{o:Col}{b M K B M' K' B':Nat}{g:av}{caps:List Int}{qs:bR}{tb:Nat->Nat}{H:iH}{r:bH}(h:Duo w o b g caps M K B qs tb H r)(h1:M<=M')(h2:K<=K')(h3:B<=B')(hz:M'<=3000000000000/\K'<=3000000000000/\B'<=3000000000000):Duo w o b g caps M' K' B' qs tb H r:=by
 obtain ⟨J,v,hs,gv,tv,sv,k1,k2,k3⟩:=h.two;exact ⟨h.G,hz,J,v,hs,gv,tv,sv,k1.mono h1,fun k=>Nat.le_trans (k2 k) h3,k3.mono h2⟩
section
variable {w:World} {o:Col} {b M K B:Nat} {g:av} {caps:List Int} {qs:bR} {tb:Nat->Nat} {H:iH} {r:bH} {xs:List Int} {xa:Option Addr} {xc:Nat}
theorem abS (h:Duo w o b g caps M K B qs tb H r)(hx:Ints w o 0 (.slice xa xs.length xc) xs)(hfx:∀ x∈xs,Fits x)(hz:M+131072+xs.length<=3000000000000/\K+131072+xs.length<=3000000000000/\B+xs.length<=3000000000000)(hl:xs.length<=1000000000000)(n:Int):Calls Tryz.prog 10 #[.pointer (some ⟨b,0,none⟩),.agg (dP g caps H).toArray,.agg #[.int .i64 0,.int .i64 n,.slice xa xs.length xc]] w (DI w o b g caps (M+131072+xs.length) (K+131072+xs.length) (B+xs.length) qs tb H):=by
 obtain ⟨a,ha⟩:∃ a:Int,a=0:=⟨_,rfl⟩;rw [<- ha];unfold dP;obtain ⟨aa,ac,ae,ec,ai,nc,ao,uc,cv,cc,ta,tc,sa',dz,fl⟩:=H;dsimp only;have hb1:=au w (.cells #[.string g.name,.slice aa g.actors.length ac,.slice ae g.edges.length ec,.slice ai g.ins.length nc,.slice ao g.outs.length uc,.slice cv caps.length cc,.slice ta g.actors.length tc,.slice sa' (aR g) dz,.slice (some ⟨fl,0,none⟩) 1 1] 37);have hX:=dQ (w:=w) o 21100 #[.string g.name,.slice aa g.actors.length ac,.slice ae g.edges.length ec,.slice ai g.ins.length nc,.slice ao g.outs.length uc,.slice cv caps.length cc,.slice ta g.actors.length tc,.slice sa' (aR g) dz,.slice (some ⟨fl,0,none⟩) 1 1] 37;have T1:=Turn.of_below o 21100 hb1;have hD:=h.quiet T1;have hx1:=hx.turn T1 (fun h=>h);generalize ext o w.heap.size 21100=o1 at *;have hb2:=au (w.alloc (.cells #[.string g.name,.slice aa g.actors.length ac,.slice ae g.edges.length ec,.slice ai g.ins.length nc,.slice ao g.outs.length uc,.slice cv caps.length cc,.slice ta g.actors.length tc,.slice sa' (aR g) dz,.slice (some ⟨fl,0,none⟩) 1 1] 37)) (.cells #[.int .i64 a,.int .i64 n,.slice xa xs.length xc] 45);have hY:=dQ (w:=w.alloc (.cells #[.string g.name,.slice aa g.actors.length ac,.slice ae g.edges.length ec,.slice ai g.ins.length nc,.slice ao g.outs.length uc,.slice cv caps.length cc,.slice ta g.actors.length tc,.slice sa' (aR g) dz,.slice (some ⟨fl,0,none⟩) 1 1] 37)) o1 21101 #[.int .i64 a,.int .i64 n,.slice xa xs.length xc] 45;have T2:=Turn.of_below o1 21101 hb2;have HD:=af (hD.quiet T2);have HX:=af (hX.turn T2 (fun h=>h));have ny:=hY;have lJ:=af (hx1.turn T2 (fun h=>h));have HT:=af ((T1.mono (D:=jZ) (fun _ h=>h.elim)).trans T2 (fun _ h=>h.elim));have HZ:=af hz;have HF:=af hfx;generalize ext o1 _ 21101=q at *;rw [World.size_alloc] at ny;have HY:=af ny;clear hb1 hX T1 hD hb2 hY ny T2 h hx hx1 hz hfx;obtain ⟨W,hW⟩:∃ x,(w.alloc (.cells #[.string g.name,.slice aa g.actors.length ac,.slice ae g.edges.length ec,.slice ai g.ins.length nc,.slice ao g.outs.length uc,.slice cv caps.length cc,.slice ta g.actors.length tc,.slice sa' (aR g) dz,.slice (some ⟨fl,0,none⟩) 1 1] 37)).alloc (.cells #[.int .i64 a,.int .i64 n,.slice xa xs.length xc] 45)=x:=⟨_,rfl⟩;rw [hW] at HD HX HY lJ HT;have y2:=HY.out.cell 2 _ rfl;subst ha;go_enter Tryz.func10,Tryz.ntmps10;go_wp2_with fail;clear hW y2;refine (qC (zs:=xs) (by have:=HZ.out;omega) lJ.out.has).mono ?_;rintro e w1 ⟨gl,cp,rfl,ow,hb⟩;have T:=Turn.of_below q 21102 hb;replace HD:=af (HD.out.quiet T);replace HX:=af (HX.out.turn T (fun h=>h));replace HY:=af (HY.out.turn T (fun h=>h));replace lJ:=af (lJ.out.turn T (fun h=>h));replace HT:=af (HT.out.trans T (fun _ h=>h.elim));have HO:=af (show Own w1 (ext q W.heap.size 21102) 21102 3 1 (.slice (some ⟨gl,0,none⟩) (xs.length+4) cp) (xs.length+4) (bB (xs ++ marks)) from Own.made q 21102 ow);generalize ext q _ 21102=q1 at *;clear T ow hb;have y0:=HY.out.cell 0 _ rfl;have jX:=af (And.intro (jD HX.out) (HY.out.cell 1 (.int .i64 n) rfl));go_wp2_with fail;clear y0;refine cB (fun w'=>(w'.cell? ⟨w.heap.size,0,none⟩=some (.string g.name)/\w'.cell? ⟨w.heap.size,1,none⟩=some (.slice aa g.actors.length ac)/\w'.cell? ⟨w.heap.size,2,none⟩=some (.slice ae g.edges.length ec)/\w'.cell? ⟨w.heap.size,3,none⟩=some (.slice ai g.ins.length nc)/\w'.cell? ⟨w.heap.size,4,none⟩=some (.slice ao g.outs.length uc)/\w'.cell? ⟨w.heap.size,5,none⟩=some (.slice cv caps.length cc)/\w'.cell? ⟨w.heap.size,6,none⟩=some (.slice ta g.actors.length tc)/\w'.cell? ⟨w.heap.size,7,none⟩=some (.slice sa' (aR g) dz)/\w'.cell? ⟨w.heap.size,8,none⟩=some (.slice (some ⟨fl,0,none⟩) 1 1))/\w'.cell? ⟨w.heap.size+1,1,none⟩=some (.int .i64 n)) [0,1,2,4,5,6] [3,7] [0,1,2,4,5,6] 4 (by kernel_rfl) (by kernel_rfl) rfl jX.out ?_;intro Q' hQ' lD;simp only [pk];refine aD ?_;refine ax ?_;have T:=(Turn.refl q1 (fun _=>False) w1).drew;replace HD:=af (HD.out.quiet T);replace HX:=af (HX.out.turn T (fun h=>h));replace HY:=af (HY.out.turn T (fun h=>h));replace lJ:=af (lJ.out.turn T (fun h=>h));replace HO:=af (HO.out.turn T (fun h=>h));replace HT:=af (HT.out.trans T (fun _ h=>h.elim));clear T;refine aB (i:=3) (by kernel_rfl) ?_;simp only [pk];clear jX;go_wp2_with fail;refine (HD.out.aa7 n).mono ?_;rintro e w2 ⟨q2,rfl,T,hH⟩;have HH:=af hH;replace HX:=af (HX.out.turn T (by unfold bV;omega));replace HY:=af (HY.out.turn T (by unfold bV;omega));replace lJ:=af (lJ.out.turn T (by unfold bV;omega));replace HO:=af (HO.out.turn T (by unfold bV;omega));replace HT:=af (HT.out.trans T (fun _=>jZ.r));clear T hH HD;obtain ⟨V,hV⟩:∃ V,(iG g caps r n).2=V:=⟨_,rfl⟩;rw [hV];have HV:=af hV;clear hV;have jX:=af (And.intro (jD HX.out) (HY.out.cell 1 (.int .i64 n) rfl));go_wp2_with fail;refine ⟨by intros;exact jX.out,?_⟩;refine aB (i:=7) (by kernel_rfl) ?_;simp only [pk];clear jX lD;go_wp2_with fail;refine (HH.out.aa8 (by have:=HZ.out;omega)).mono ?_;rw [HV.out];rintro e w3 ⟨q3,rfl,T,hD⟩;have HD:=af hD;replace HX:=af (HX.out.turn T (by unfold eu;omega));replace HY:=af (HY.out.turn T (by unfold eu;omega));replace lJ:=af (lJ.out.turn T (by unfold eu;omega));replace HO:=af (HO.out.turn T (by unfold eu;omega));replace HT:=af (HT.out.trans T (fun _=>jZ.y));clear T hD HH;have jX:=af (And.intro (jD HX.out) (HY.out.cell 1 (.int .i64 n) rfl));go_wp2_with fail;refine ⟨by intros;exact jX.out,?_⟩;refine aJ (ks:=[8,9]) (fun _ _ hx h=>⟨sV hx h.1,hx.cell h.2⟩) (by kernel_rfl) ?_;simp only [pk];clear jX HV lJ HX HY HO;go_wp2;go_ret;exact ⟨_,_,rfl,HT.out,HD.out.mono (by omega) (by omega) (by omega) HZ.out⟩
theorem abT (h:Duo w o b g caps M K B qs tb H r)(hx:Ints w o 0 (.slice xa xs.length xc) xs)(hfx:∀ x∈xs,Fits x)(hz:M+131072+xs.length<=3000000000000/\K+131072+xs.length<=3000000000000/\B+xs.length<=3000000000000)(hl:xs.length<=1000000000000)(n:Int):Calls Tryz.prog 10 #[.pointer (some ⟨b,0,none⟩),.agg (dP g caps H).toArray,.agg #[.int .i64 2,.int .i64 n,.slice xa xs.length xc]] w (DI w o b g caps (M+131072+xs.length) (K+131072+xs.length) (B+xs.length) qs tb H):=by
 obtain ⟨a,ha⟩:∃ a:Int,a=2:=⟨_,rfl⟩;rw [<- ha];unfold dP;obtain ⟨aa,ac,ae,ec,ai,nc,ao,uc,cv,cc,ta,tc,sa',dz,fl⟩:=H;dsimp only;have hb1:=au w (.cells #[.string g.name,.slice aa g.actors.length ac,.slice ae g.edges.length ec,.slice ai g.ins.length nc,.slice ao g.outs.length uc,.slice cv caps.length cc,.slice ta g.actors.length tc,.slice sa' (aR g) dz,.slice (some ⟨fl,0,none⟩) 1 1] 37);have hX:=dQ (w:=w) o 21100 #[.string g.name,.slice aa g.actors.length ac,.slice ae g.edges.length ec,.slice ai g.ins.length nc,.slice ao g.outs.length uc,.slice cv caps.length cc,.slice ta g.actors.length tc,.slice sa' (aR g) dz,.slice (some ⟨fl,0,none⟩) 1 1] 37;have T1:=Turn.of_below o 21100 hb1;have hD:=h.quiet T1;have hx1:=hx.turn T1 (fun h=>h);generalize ext o w.heap.size 21100=o1 at *;have hb2:=au (w.alloc (.cells #[.string g.name,.slice aa g.actors.length ac,.slice ae g.edges.length ec,.slice ai g.ins.length nc,.slice ao g.outs.length uc,.slice cv caps.length cc,.slice ta g.actors.length tc,.slice sa' (aR g) dz,.slice (some ⟨fl,0,none⟩) 1 1] 37)) (.cells #[.int .i64 a,.int .i64 n,.slice xa xs.length xc] 45);have hY:=dQ (w:=w.alloc (.cells #[.string g.name,.slice aa g.actors.length ac,.slice ae g.edges.length ec,.slice ai g.ins.length nc,.slice ao g.outs.length uc,.slice cv caps.length cc,.slice ta g.actors.length tc,.slice sa' (aR g) dz,.slice (some ⟨fl,0,none⟩) 1 1] 37)) o1 21101 #[.int .i64 a,.int .i64 n,.slice xa xs.length xc] 45;have T2:=Turn.of_below o1 21101 hb2;have HD:=af (hD.quiet T2);have HX:=af (hX.turn T2 (fun h=>h));have ny:=hY;have lJ:=af (hx1.turn T2 (fun h=>h));have HT:=af ((T1.mono (D:=jZ) (fun _ h=>h.elim)).trans T2 (fun _ h=>h.elim));have HZ:=af hz;have HF:=af hfx;generalize ext o1 _ 21101=q at *;rw [World.size_alloc] at ny;have HY:=af ny;clear hb1 hX T1 hD hb2 hY ny T2 h hx hx1 hz hfx;obtain ⟨W,hW⟩:∃ x,(w.alloc (.cells #[.string g.name,.slice aa g.actors.length ac,.slice ae g.edges.length ec,.slice ai g.ins.length nc,.slice ao g.outs.length uc,.slice cv caps.length cc,.slice ta g.actors.length tc,.slice sa' (aR g) dz,.slice (some ⟨fl,0,none⟩) 1 1] 37)).alloc (.cells #[.int .i64 a,.int .i64 n,.slice xa xs.length xc] 45)=x:=⟨_,rfl⟩;rw [hW] at HD HX HY lJ HT;have y2:=HY.out.cell 2 _ rfl;subst ha;go_enter Tryz.func10,Tryz.ntmps10;go_wp2_with fail;clear hW y2;refine (qC (zs:=xs) (by have:=HZ.out;omega) lJ.out.has).mono ?_;rintro e w1 ⟨gl,cp,rfl,ow,hb⟩;have T:=Turn.of_below q 21102 hb;replace HD:=af (HD.out.quiet T);replace HX:=af (HX.out.turn T (fun h=>h));replace HY:=af (HY.out.turn T (fun h=>h));replace lJ:=af (lJ.out.turn T (fun h=>h));replace HT:=af (HT.out.trans T (fun _ h=>h.elim));have HO:=af (show Own w1 (ext q W.heap.size 21102) 21102 3 1 (.slice (some ⟨gl,0,none⟩) (xs.length+4) cp) (xs.length+4) (bB (xs ++ marks)) from Own.made q 21102 ow);generalize ext q _ 21102=q1 at *;clear T ow hb;have y0:=HY.out.cell 0 _ rfl;have jX:=af (And.intro (jD HX.out) (HY.out.cell 1 (.int .i64 n) rfl));go_wp2_with fail;clear y0;refine cB (fun w'=>(w'.cell? ⟨w.heap.size,0,none⟩=some (.string g.name)/\w'.cell? ⟨w.heap.size,1,none⟩=some (.slice aa g.actors.length ac)/\w'.cell? ⟨w.heap.size,2,none⟩=some (.slice ae g.edges.length ec)/\w'.cell? ⟨w.heap.size,3,none⟩=some (.slice ai g.ins.length nc)/\w'.cell? ⟨w.heap.size,4,none⟩=some (.slice ao g.outs.length uc)/\w'.cell? ⟨w.heap.size,5,none⟩=some (.slice cv caps.length cc)/\w'.cell? ⟨w.heap.size,6,none⟩=some (.slice ta g.actors.length tc)/\w'.cell? ⟨w.heap.size,7,none⟩=some (.slice sa' (aR g) dz)/\w'.cell? ⟨w.heap.size,8,none⟩=some (.slice (some ⟨fl,0,none⟩) 1 1))/\w'.cell? ⟨w.heap.size+1,1,none⟩=some (.int .i64 n)) [0,1,2,4,5,6] [3,7] [0,1,2,4,5,6] 4 (by kernel_rfl) (by kernel_rfl) rfl jX.out ?_;intro Q' hQ' lD;simp only [pk];refine aD ?_;refine ax ?_;have T:=(Turn.refl q1 (fun _=>False) w1).drew;replace HD:=af (HD.out.quiet T);replace HX:=af (HX.out.turn T (fun h=>h));replace HY:=af (HY.out.turn T (fun h=>h));replace lJ:=af (lJ.out.turn T (fun h=>h));replace HO:=af (HO.out.turn T (fun h=>h));replace HT:=af (HT.out.trans T (fun _ h=>h.elim));clear T;refine aB (i:=3) (by kernel_rfl) ?_;simp only [pk];clear jX;go_wp2_with fail;refine (HD.out.Wi n).mono ?_;rintro e w2 ⟨q2,rfl,T,hH⟩;have HH:=af hH;replace HX:=af (HX.out.turn T (by unfold bV;omega));replace HY:=af (HY.out.turn T (by unfold bV;omega));replace lJ:=af (lJ.out.turn T (by unfold bV;omega));replace HO:=af (HO.out.turn T (by unfold bV;omega));replace HT:=af (HT.out.trans T (fun _=>jZ.r));clear T hH HD;obtain ⟨V,hV⟩:∃ V,(bS g caps (min n 4096).toNat r).2=V:=⟨_,rfl⟩;rw [hV];have HV:=af hV;clear hV;have jX:=af (And.intro (jD HX.out) (HY.out.cell 1 (.int .i64 n) rfl));go_wp2_with fail;refine ⟨by intros;exact jX.out,?_⟩;refine aB (i:=7) (by kernel_rfl) ?_;simp only [pk];clear jX lD;go_wp2_with fail;refine (HH.out.Wj (by have:=HZ.out;omega)).mono ?_;rw [HV.out];rintro e w3 ⟨q3,rfl,T,hD⟩;have HD:=af hD;replace HX:=af (HX.out.turn T (by unfold eu;omega));replace HY:=af (HY.out.turn T (by unfold eu;omega));replace lJ:=af (lJ.out.turn T (by unfold eu;omega));replace HO:=af (HO.out.turn T (by unfold eu;omega));replace HT:=af (HT.out.trans T (fun _=>jZ.y));clear T hD HH;have jX:=af (And.intro (jD HX.out) (HY.out.cell 1 (.int .i64 n) rfl));go_wp2_with fail;refine ⟨by intros;exact jX.out,?_⟩;refine aJ (ks:=[8,9]) (fun _ _ hx h=>⟨sV hx h.1,hx.cell h.2⟩) (by kernel_rfl) ?_;simp only [pk];clear jX HV lJ HX HY HO;go_wp2;go_ret;exact ⟨_,_,rfl,HT.out,HD.out.mono (by omega) (by omega) (by omega) HZ.out⟩
theorem abU (h:Duo w o b g caps M K B qs tb H r)(hx:Ints w o 0 (.slice xa xs.length xc) xs)(hfx:∀ x∈xs,Fits x)(hz:M+131072+xs.length<=3000000000000/\K+131072+xs.length<=3000000000000/\B+xs.length<=3000000000000)(hl:xs.length<=1000000000000)(n:Int):Calls Tryz.prog 10 #[.pointer (some ⟨b,0,none⟩),.agg (dP g caps H).toArray,.agg #[.int .i64 1,.int .i64 n,.slice xa xs.length xc]] w (DI w o b g caps (M+131072+xs.length) (K+131072+xs.length) (B+xs.length) qs tb H):=by
 obtain ⟨a,ha⟩:∃ a:Int,a=1:=⟨_,rfl⟩;rw [<- ha];have HL:=af hl;unfold dP;obtain ⟨aa,ac,ae,ec,ai,nc,ao,uc,cv,cc,ta,tc,sa',dz,fl⟩:=H;dsimp only;have hb1:=au w (.cells #[.string g.name,.slice aa g.actors.length ac,.slice ae g.edges.length ec,.slice ai g.ins.length nc,.slice ao g.outs.length uc,.slice cv caps.length cc,.slice ta g.actors.length tc,.slice sa' (aR g) dz,.slice (some ⟨fl,0,none⟩) 1 1] 37);have hX:=dQ (w:=w) o 21100 #[.string g.name,.slice aa g.actors.length ac,.slice ae g.edges.length ec,.slice ai g.ins.length nc,.slice ao g.outs.length uc,.slice cv caps.length cc,.slice ta g.actors.length tc,.slice sa' (aR g) dz,.slice (some ⟨fl,0,none⟩) 1 1] 37;have T1:=Turn.of_below o 21100 hb1;have hD:=h.quiet T1;have hx1:=hx.turn T1 (fun h=>h);generalize ext o w.heap.size 21100=o1 at *;have hb2:=au (w.alloc (.cells #[.string g.name,.slice aa g.actors.length ac,.slice ae g.edges.length ec,.slice ai g.ins.length nc,.slice ao g.outs.length uc,.slice cv caps.length cc,.slice ta g.actors.length tc,.slice sa' (aR g) dz,.slice (some ⟨fl,0,none⟩) 1 1] 37)) (.cells #[.int .i64 a,.int .i64 n,.slice xa xs.length xc] 45);have hY:=dQ (w:=w.alloc (.cells #[.string g.name,.slice aa g.actors.length ac,.slice ae g.edges.length ec,.slice ai g.ins.length nc,.slice ao g.outs.length uc,.slice cv caps.length cc,.slice ta g.actors.length tc,.slice sa' (aR g) dz,.slice (some ⟨fl,0,none⟩) 1 1] 37)) o1 21101 #[.int .i64 a,.int .i64 n,.slice xa xs.length xc] 45;have T2:=Turn.of_below o1 21101 hb2;have HD:=af (hD.quiet T2);have HX:=af (hX.turn T2 (fun h=>h));have ny:=hY;have lJ:=af (hx1.turn T2 (fun h=>h));have HT:=af ((T1.mono (D:=jZ) (fun _ h=>h.elim)).trans T2 (fun _ h=>h.elim));have HZ:=af hz;have HF:=af hfx;generalize ext o1 _ 21101=q at *;rw [World.size_alloc] at ny;have HY:=af ny;clear hb1 hX T1 hD hb2 hY ny T2 h hx hx1 hz hfx;obtain ⟨W,hW⟩:∃ x,(w.alloc (.cells #[.string g.name,.slice aa g.actors.length ac,.slice ae g.edges.length ec,.slice ai g.ins.length nc,.slice ao g.outs.length uc,.slice cv caps.length cc,.slice ta g.actors.length tc,.slice sa' (aR g) dz,.slice (some ⟨fl,0,none⟩) 1 1] 37)).alloc (.cells #[.int .i64 a,.int .i64 n,.slice xa xs.length xc] 45)=x:=⟨_,rfl⟩;rw [hW] at HD HX HY lJ HT;have y2:=HY.out.cell 2 _ rfl;subst ha;go_enter Tryz.func10,Tryz.ntmps10;go_wp2_with fail;clear hW y2;refine (qC (zs:=xs) (by have:=HZ.out;omega) lJ.out.has).mono ?_;rintro e w1 ⟨gl,cp,rfl,ow,hb⟩;have T:=Turn.of_below q 21102 hb;replace HD:=af (HD.out.quiet T);replace HX:=af (HX.out.turn T (fun h=>h));replace HY:=af (HY.out.turn T (fun h=>h));replace lJ:=af (lJ.out.turn T (fun h=>h));replace HT:=af (HT.out.trans T (fun _ h=>h.elim));have HO:=af (show Own w1 (ext q W.heap.size 21102) 21102 3 1 (.slice (some ⟨gl,0,none⟩) (xs.length+4) cp) (xs.length+4) (bB (xs ++ marks)) from Own.made q 21102 ow);generalize ext q _ 21102=q1 at *;clear T ow hb;have y0:=HY.out.cell 0 _ rfl;go_wp2_with fail;clear y0;refine (HD.out.aa9 (c:=21102) HO.out.R6.vals (by unfold bV;omega) HF.out HL.out).mono ?_;rintro e w2 ⟨q2,rfl,T,hH⟩;have HH:=af hH;replace HX:=af (HX.out.turn T (by unfold bV;omega));replace HY:=af (HY.out.turn T (by unfold bV;omega));replace lJ:=af (lJ.out.turn T (by unfold bV;omega));replace HO:=af (HO.out.turn T (by unfold bV;omega));replace HT:=af (HT.out.trans T (fun _=>jZ.r));clear T hH HD;obtain ⟨V,hV⟩:∃ V,(iF g caps xs r).2=V:=⟨_,rfl⟩;rw [hV];have HV:=af hV;clear hV;have x9:=HX.out;obtain ⟨x0,x1,x2,x3,x4,x5,x6,x7,x8⟩:=jD x9;have y2:=HY.out.cell 2 _ rfl;go_wp2_with fail;clear x9 y2;clear x0 x1 x2 x3 x4 x5 x6 x7 x8;refine (HH.out.abb lJ.out (by unfold eu;omega) HF.out HL.out (by have:=HZ.out;omega)).mono ?_;rw [HV.out];rintro e w3 ⟨q3,rfl,T,hD⟩;have HD:=af hD;replace HX:=af (HX.out.turn T (by unfold eu;omega));replace HY:=af (HY.out.turn T (by unfold eu;omega));replace lJ:=af (lJ.out.turn T (by unfold eu;omega));replace HO:=af (HO.out.turn T (by unfold eu;omega));replace HT:=af (HT.out.trans T (fun _=>jZ.y));clear T hD HH;have y2:=HY.out.cell 2 _ rfl;go_wp2_with fail;clear y2;refine (wX _ xs gl cp xa xc (by have:=HL.out;omega) (lW HO.out.1) lJ.out.has).mono ?_;rintro e _ ⟨rfl,m,rfl⟩;go_wp2;go_ret;exact ⟨_,_,rfl,HT.out.drewN m,(HD.out.quiet (Turn.jE q3 ⟨m,rfl⟩)).mono (by omega) (by omega) (by omega) HZ.out⟩
theorem abV (h:Duo w o b g caps M K B qs tb H r)(hx:Ints w o 0 (.slice xa xs.length xc) xs)(hfx:∀ x∈xs,Fits x)(hz:M+131072+xs.length<=3000000000000/\K+131072+xs.length<=3000000000000/\B+xs.length<=3000000000000)(hl:xs.length<=1000000000000)(n:Int):Calls Tryz.prog 10 #[.pointer (some ⟨b,0,none⟩),.agg (dP g caps H).toArray,.agg #[.int .i64 3,.int .i64 n,.slice xa xs.length xc]] w (DI w o b g caps (M+131072+xs.length) (K+131072+xs.length) (B+xs.length) qs tb H):=by
 obtain ⟨a,ha⟩:∃ a:Int,a=3:=⟨_,rfl⟩;rw [<- ha];have HL:=af hl;unfold dP;obtain ⟨aa,ac,ae,ec,ai,nc,ao,uc,cv,cc,ta,tc,sa',dz,fl⟩:=H;dsimp only;have hb1:=au w (.cells #[.string g.name,.slice aa g.actors.length ac,.slice ae g.edges.length ec,.slice ai g.ins.length nc,.slice ao g.outs.length uc,.slice cv caps.length cc,.slice ta g.actors.length tc,.slice sa' (aR g) dz,.slice (some ⟨fl,0,none⟩) 1 1] 37);have hX:=dQ (w:=w) o 21100 #[.string g.name,.slice aa g.actors.length ac,.slice ae g.edges.length ec,.slice ai g.ins.length nc,.slice ao g.outs.length uc,.slice cv caps.length cc,.slice ta g.actors.length tc,.slice sa' (aR g) dz,.slice (some ⟨fl,0,none⟩) 1 1] 37;have T1:=Turn.of_below o 21100 hb1;have hD:=h.quiet T1;have hx1:=hx.turn T1 (fun h=>h);generalize ext o w.heap.size 21100=o1 at *;have hb2:=au (w.alloc (.cells #[.string g.name,.slice aa g.actors.length ac,.slice ae g.edges.length ec,.slice ai g.ins.length nc,.slice ao g.outs.length uc,.slice cv caps.length cc,.slice ta g.actors.length tc,.slice sa' (aR g) dz,.slice (some ⟨fl,0,none⟩) 1 1] 37)) (.cells #[.int .i64 a,.int .i64 n,.slice xa xs.length xc] 45);have hY:=dQ (w:=w.alloc (.cells #[.string g.name,.slice aa g.actors.length ac,.slice ae g.edges.length ec,.slice ai g.ins.length nc,.slice ao g.outs.length uc,.slice cv caps.length cc,.slice ta g.actors.length tc,.slice sa' (aR g) dz,.slice (some ⟨fl,0,none⟩) 1 1] 37)) o1 21101 #[.int .i64 a,.int .i64 n,.slice xa xs.length xc] 45;have T2:=Turn.of_below o1 21101 hb2;have HD:=af (hD.quiet T2);have HX:=af (hX.turn T2 (fun h=>h));have ny:=hY;have lJ:=af (hx1.turn T2 (fun h=>h));have HT:=af ((T1.mono (D:=jZ) (fun _ h=>h.elim)).trans T2 (fun _ h=>h.elim));have HZ:=af hz;have HF:=af hfx;generalize ext o1 _ 21101=q at *;rw [World.size_alloc] at ny;have HY:=af ny;clear hb1 hX T1 hD hb2 hY ny T2 h hx hx1 hz hfx;obtain ⟨W,hW⟩:∃ x,(w.alloc (.cells #[.string g.name,.slice aa g.actors.length ac,.slice ae g.edges.length ec,.slice ai g.ins.length nc,.slice ao g.outs.length uc,.slice cv caps.length cc,.slice ta g.actors.length tc,.slice sa' (aR g) dz,.slice (some ⟨fl,0,none⟩) 1 1] 37)).alloc (.cells #[.int .i64 a,.int .i64 n,.slice xa xs.length xc] 45)=x:=⟨_,rfl⟩;rw [hW] at HD HX HY lJ HT;have y2:=HY.out.cell 2 _ rfl;subst ha;go_enter Tryz.func10,Tryz.ntmps10;go_wp2_with fail;clear hW y2;refine (qC (zs:=xs) (by have:=HZ.out;omega) lJ.out.has).mono ?_;rintro e w1 ⟨gl,cp,rfl,ow,hb⟩;have T:=Turn.of_below q 21102 hb;replace HD:=af (HD.out.quiet T);replace HX:=af (HX.out.turn T (fun h=>h));replace HY:=af (HY.out.turn T (fun h=>h));replace lJ:=af (lJ.out.turn T (fun h=>h));replace HT:=af (HT.out.trans T (fun _ h=>h.elim));have HO:=af (show Own w1 (ext q W.heap.size 21102) 21102 3 1 (.slice (some ⟨gl,0,none⟩) (xs.length+4) cp) (xs.length+4) (bB (xs ++ marks)) from Own.made q 21102 ow);generalize ext q _ 21102=q1 at *;clear T ow hb;have y0:=HY.out.cell 0 _ rfl;have y1:=HY.out.cell 1 _ rfl;go_wp2_with fail;clear y0 y1;refine (HD.out.abd (c:=21102) n HO.out.R6.vals (by unfold bV;omega) HF.out HL.out).mono ?_;rintro e w2 ⟨q2,rfl,T,hH⟩;have HH:=af hH;replace HX:=af (HX.out.turn T (by unfold bV;omega));replace HY:=af (HY.out.turn T (by unfold bV;omega));replace lJ:=af (lJ.out.turn T (by unfold bV;omega));replace HO:=af (HO.out.turn T (by unfold bV;omega));replace HT:=af (HT.out.trans T (fun _=>jZ.r));clear T hH HD;obtain ⟨V,hV⟩:∃ V,R8 g n=V:=⟨_,rfl⟩;rw [hV];have HV:=af hV;clear hV;have y2:=HY.out.cell 2 _ rfl;go_wp2_with fail;clear y2;refine (wX _ xs gl cp xa xc (by have:=HL.out;omega) (lW HO.out.1) lJ.out.has).mono ?_;rintro e _ ⟨rfl,m,rfl⟩;have T:=Turn.jE q2 (w:=w2) ⟨m,rfl⟩;replace HH:=af (HH.out.quiet T);replace HX:=af (HX.out.turn T (fun h=>h));replace HY:=af (HY.out.turn T (fun h=>h));replace lJ:=af (lJ.out.turn T (fun h=>h));replace HO:=af (HO.out.turn T (fun h=>h));replace HT:=af (HT.out.trans T (fun _ h=>h.elim));clear T;go_wp2_with fail;refine (yF HO.out.R6 (by have:=HL.out;omega)).mono ?_;rintro e w4 ⟨rfl,q4,T⟩;replace HH:=af (HH.out.turn T (fun k hk=>by subst hk;unfold bV jY;omega));replace HX:=af (HX.out.turn T (by omega));replace HY:=af (HY.out.turn T (by omega));replace lJ:=af (lJ.out.turn T (by omega));replace HT:=af (HT.out.trans T (fun _ h=>.inr h));clear T HO;have x9:=HX.out;obtain ⟨x0,x1,x2,x3,x4,x5,x6,x7,x8⟩:=jD x9;have y1:=HY.out.cell 1 _ rfl;have y2:=HY.out.cell 2 _ rfl;go_wp2_with fail;clear x9 y1 y2;clear x0 x1 x2 x3 x4 x5 x6 x7 x8;refine (HH.out.abe lJ.out (by unfold eu;omega) HL.out (by have:=HZ.out;omega)).mono ?_;rw [HV.out];rintro e w5 ⟨q5,rfl,T,hD⟩;have zI:=af (HT.out.trans T (fun _=>jZ.y));have HD5:=af hD;clear T hD HX HY lJ HT HH;go_wp2;go_ret;exact ⟨_,_,rfl,zI.out,HD5.out.mono (by omega) (by omega) (by omega) HZ.out⟩
theorem Wl (h:Duo w o b g caps M K B qs tb H r)(hx:Ints w o 0 (.slice xa xs.length xc) xs)(hfx:∀ x∈xs,Fits x)(hz:M+131072+xs.length<=3000000000000/\K+131072+xs.length<=3000000000000/\B+xs.length<=3000000000000)(hl:xs.length<=1000000000000)(a n:Int)(e0:(a == 0)=false)(e1:(a == 1)=false)(e2:(a == 2)=false)(e3:(a == 3)=false):Calls Tryz.prog 10 #[.pointer (some ⟨b,0,none⟩),.agg (dP g caps H).toArray,.agg #[.int .i64 a,.int .i64 n,.slice xa xs.length xc]] w (DI w o b g caps (M+131072+xs.length) (K+131072+xs.length) (B+xs.length) qs tb H):=by
 clear hl;unfold dP;obtain ⟨aa,ac,ae,ec,ai,nc,ao,uc,cv,cc,ta,tc,sa',dz,fl⟩:=H;dsimp only;have hb1:=au w (.cells #[.string g.name,.slice aa g.actors.length ac,.slice ae g.edges.length ec,.slice ai g.ins.length nc,.slice ao g.outs.length uc,.slice cv caps.length cc,.slice ta g.actors.length tc,.slice sa' (aR g) dz,.slice (some ⟨fl,0,none⟩) 1 1] 37);have hX:=dQ (w:=w) o 21100 #[.string g.name,.slice aa g.actors.length ac,.slice ae g.edges.length ec,.slice ai g.ins.length nc,.slice ao g.outs.length uc,.slice cv caps.length cc,.slice ta g.actors.length tc,.slice sa' (aR g) dz,.slice (some ⟨fl,0,none⟩) 1 1] 37;have T1:=Turn.of_below o 21100 hb1;have hD:=h.quiet T1;have hx1:=hx.turn T1 (fun h=>h);generalize ext o w.heap.size 21100=o1 at *;have hb2:=au (w.alloc (.cells #[.string g.name,.slice aa g.actors.length ac,.slice ae g.edges.length ec,.slice ai g.ins.length nc,.slice ao g.outs.length uc,.slice cv caps.length cc,.slice ta g.actors.length tc,.slice sa' (aR g) dz,.slice (some ⟨fl,0,none⟩) 1 1] 37)) (.cells #[.int .i64 a,.int .i64 n,.slice xa xs.length xc] 45);have hY:=dQ (w:=w.alloc (.cells #[.string g.name,.slice aa g.actors.length ac,.slice ae g.edges.length ec,.slice ai g.ins.length nc,.slice ao g.outs.length uc,.slice cv caps.length cc,.slice ta g.actors.length tc,.slice sa' (aR g) dz,.slice (some ⟨fl,0,none⟩) 1 1] 37)) o1 21101 #[.int .i64 a,.int .i64 n,.slice xa xs.length xc] 45;have T2:=Turn.of_below o1 21101 hb2;have HD:=af (hD.quiet T2);have HX:=af (hX.turn T2 (fun h=>h));have ny:=hY;have lJ:=af (hx1.turn T2 (fun h=>h));have HT:=af ((T1.mono (D:=jZ) (fun _ h=>h.elim)).trans T2 (fun _ h=>h.elim));have HZ:=af hz;have HF:=af hfx;generalize ext o1 _ 21101=q at *;rw [World.size_alloc] at ny;have HY:=af ny;clear hb1 hX T1 hD hb2 hY ny T2 h hx hx1 hz hfx;obtain ⟨W,hW⟩:∃ x,(w.alloc (.cells #[.string g.name,.slice aa g.actors.length ac,.slice ae g.edges.length ec,.slice ai g.ins.length nc,.slice ao g.outs.length uc,.slice cv caps.length cc,.slice ta g.actors.length tc,.slice sa' (aR g) dz,.slice (some ⟨fl,0,none⟩) 1 1] 37)).alloc (.cells #[.int .i64 a,.int .i64 n,.slice xa xs.length xc] 45)=x:=⟨_,rfl⟩;rw [hW] at HD HX HY lJ HT;have y2:=HY.out.cell 2 _ rfl;go_enter Tryz.func10,Tryz.ntmps10;go_wp2_with fail;clear hW y2;refine (qC (zs:=xs) (by have:=HZ.out;omega) lJ.out.has).mono ?_;rintro e w1 ⟨gl,cp,rfl,ow,hb⟩;have T:=Turn.of_below q 21102 hb;replace HD:=af (HD.out.quiet T);replace HX:=af (HX.out.turn T (fun h=>h));replace HY:=af (HY.out.turn T (fun h=>h));replace lJ:=af (lJ.out.turn T (fun h=>h));replace HT:=af (HT.out.trans T (fun _ h=>h.elim));have HO:=af (show Own w1 (ext q W.heap.size 21102) 21102 3 1 (.slice (some ⟨gl,0,none⟩) (xs.length+4) cp) (xs.length+4) (bB (xs ++ marks)) from Own.made q 21102 ow);generalize ext q _ 21102=q1 at *;clear T ow hb;have y0:=HY.out.cell 0 _ rfl;have x9:=HX.out;obtain ⟨x0,x1,x2,x3,x4,x5,x6,x7,x8⟩:=jD x9;have y1:=HY.out.cell 1 _ rfl;have y2:=HY.out.cell 2 _ rfl;go_wp2_with fail;clear x9 y0 y1 y2 e0 e1 e2 e3;clear x0 x1 x2 x3 x4 x5 x6 x7 x8;refine (wZ HD.out a n _).mono ?_;rintro e w2 ⟨rfl,hb⟩;have T:=Turn.of_below q1 21102 hb;have HD2:=af (HD.out.quiet T);have HT2:=af (HT.out.trans T (fun _ h=>h.elim));clear T hb HX HY lJ HO HT HD;go_wp2;go_ret;exact ⟨_,_,rfl,HT2.out,HD2.out.mono (by omega) (by omega) (by omega) HZ.out⟩
theorem Zf (h:Duo w o b g caps M K B qs tb H r)(hx:Ints w o 0 (.slice xa xs.length xc) xs)(hfx:∀ x∈xs,Fits x)(hz:M+131072+xs.length<=3000000000000/\K+131072+xs.length<=3000000000000/\B+xs.length<=3000000000000)(hl:xs.length<=1000000000000)(a n:Int):Calls Tryz.prog 10 #[.pointer (some ⟨b,0,none⟩),.agg (dP g caps H).toArray,.agg #[.int .i64 a,.int .i64 n,.slice xa xs.length xc]] w (DI w o b g caps (M+131072+xs.length) (K+131072+xs.length) (B+xs.length) qs tb H):=by
 by_cases e0:a=0
 ·
  subst e0;exact abS h hx hfx hz hl n
 by_cases e1:a=1
 ·
  subst e1;exact abU h hx hfx hz hl n
 by_cases e2:a=2
 ·
  subst e2;exact abT h hx hfx hz hl n
 by_cases e3:a=3
 ·
  subst e3;exact abV h hx hfx hz hl n
 exact Wl h hx hfx hz hl a n (beq_eq_false_iff_ne.2 e0) (beq_eq_false_iff_ne.2 e1) (beq_eq_false_iff_ne.2 e2) (beq_eq_false_iff_ne.2 e3)
end
def Wm (w:World)(e:Ending)(w':World):Prop:=∃ v,e=.returned v/\dK w' v iR/\Below w.heap.size w w'
def gU (w:World):List Obj :=
 [.cells #[.string { data:=#[103] },.slice (some ⟨w.heap.size+3,0,none⟩) 3 3,.slice (some ⟨w.heap.size+4,0,none⟩) 2 2,.slice none 0 0,.slice (some ⟨w.heap.size+5,0,none⟩) 1 1] 26,.cells #[.int .i64 1,.int .i64 1] 3,.cells #[.int .i64 1] 3,.cells #[.string { data:=#[97] },.int .u8 10,.slice (some ⟨w.heap.size+1,0,none⟩) 2 2,.string { data:=#[98] },.int .u8 6,.slice (some ⟨w.heap.size+2,0,none⟩) 1 1,.string { data:=#[99] },.int .u8 8,.slice none 0 0] 56,.cells #[.int .i64 0,.int .i64 0,.int .i64 1,.int .i64 0,.slice none 0 0,.int .i64 1,.int .i64 0,.int .i64 2,.int .i64 0,.slice none 0 0] 68,.cells #[.string { data:=#[121] },.int .i64 2,.int .i64 0] 79]
theorem Sd (w:World):dK (vF w (gU w)) (.agg #[.string { data:=#[103] },.slice (some ⟨w.heap.size+3,0,none⟩) 3 3,.slice (some ⟨w.heap.size+4,0,none⟩) 2 2,.slice none 0 0,.slice (some ⟨w.heap.size+5,0,none⟩) 1 1]) iR:=by
 refine ⟨_,_,_,_,rfl,?_,?_,.inl ⟨rfl,_,_,rfl⟩,?_⟩
 ·
  refine .inr ⟨by decide,w.heap.size+3,0,3,rfl,Nat.le_refl _,block_lt (gq (gU w) w 3 _ rfl),fun k hk=>?_⟩
  match k,(show k < 3 from hk) with
  | 0,_=>exact ⟨[.string { data:=#[97] },.int .u8 10,.slice (some ⟨w.heap.size+1,0,none⟩) 2 2],rfl,⟨_,rfl,.inr ⟨Nat.succ_pos 1,_,0,2,rfl,Nat.le_refl _,block_lt (gq (gU w) w 1 _ rfl),rfl,fun j hj=>by
    match j,hj with
    | 0,_=>exact bG w (gU w) 1 0 rfl rfl
    | 1,_=>exact bG w (gU w) 1 1 rfl rfl⟩⟩,fun i hi=>by
   match i,hi with
   | 0,_=>exact bG w (gU w) 3 0 rfl rfl
   | 1,_=>exact bG w (gU w) 3 1 rfl rfl
   | 2,_=>exact bG w (gU w) 3 2 rfl rfl⟩
  | 1,_=>exact ⟨[.string { data:=#[98] },.int .u8 6,.slice (some ⟨w.heap.size+2,0,none⟩) 1 1],rfl,⟨_,rfl,Jp w (gU w) 2 rfl⟩,fun i hi=>by
   match i,hi with
   | 0,_=>exact bG w (gU w) 3 3 rfl rfl
   | 1,_=>exact bG w (gU w) 3 4 rfl rfl
   | 2,_=>exact bG w (gU w) 3 5 rfl rfl⟩
  | 2,_=>exact ⟨[.string { data:=#[99] },.int .u8 8,.slice none 0 0],rfl,⟨_,rfl,.inl ⟨rfl,_,_,rfl⟩⟩,fun i hi=>by
   match i,hi with
   | 0,_=>exact bG w (gU w) 3 6 rfl rfl
   | 1,_=>exact bG w (gU w) 3 7 rfl rfl
   | 2,_=>exact bG w (gU w) 3 8 rfl rfl⟩
 ·
  refine .inr ⟨by decide,w.heap.size+4,0,2,rfl,Nat.le_refl _,block_lt (gq (gU w) w 4 _ rfl),fun k hk=>?_⟩
  match k,(show k < 2 from hk) with
  | 0,_=>exact ⟨[.int .i64 0,.int .i64 0,.int .i64 1,.int .i64 0,.slice none 0 0],rfl,⟨_,rfl,.inl ⟨rfl,_,_,rfl⟩⟩,fun i hi=>by
   match i,hi with
   | 0,_=>exact bG w (gU w) 4 0 rfl rfl
   | 1,_=>exact bG w (gU w) 4 1 rfl rfl
   | 2,_=>exact bG w (gU w) 4 2 rfl rfl
   | 3,_=>exact bG w (gU w) 4 3 rfl rfl
   | 4,_=>exact bG w (gU w) 4 4 rfl rfl⟩
  | 1,_=>exact ⟨[.int .i64 1,.int .i64 0,.int .i64 2,.int .i64 0,.slice none 0 0],rfl,⟨_,rfl,.inl ⟨rfl,_,_,rfl⟩⟩,fun i hi=>by
   match i,hi with
   | 0,_=>exact bG w (gU w) 4 5 rfl rfl
   | 1,_=>exact bG w (gU w) 4 6 rfl rfl
   | 2,_=>exact bG w (gU w) 4 7 rfl rfl
   | 3,_=>exact bG w (gU w) 4 8 rfl rfl
   | 4,_=>exact bG w (gU w) 4 9 rfl rfl⟩
 ·
  refine .inr ⟨by decide,w.heap.size+5,0,1,rfl,Nat.le_refl _,block_lt (gq (gU w) w 5 _ rfl),fun k hk=>?_⟩
  match k,(show k < 1 from hk) with
  | 0,_=>exact ⟨_,rfl,rfl,fun i hi=>by
   match i,hi with
   | 0,_=>exact bG w (gU w) 5 0 rfl rfl
   | 1,_=>exact bG w (gU w) 5 1 rfl rfl
   | 2,_=>exact bG w (gU w) 5 2 rfl rfl⟩
theorem Sg (w:World):Calls Tryz.prog 21 #[] w (Wm w):=by
 go_enter Tryz.func21,Tryz.ntmps21;go_wp2;refine bodyPost_ret_by (results_cell_row rfl _ _ _ _ _ _ _ rfl (gq (gU w) w 0 _ rfl) Tryz.underlying26 rfl (by kernel_rfl)) rfl ?_;exact ⟨_,rfl,Sd w,(ja (gU w) w).1⟩
theorem KF:mO iR:=⟨by decide,by decide,by decide,by decide⟩
theorem Oh:∀ a∈iR.actors,∀ x∈a.params,Fits x:=by
 intro a ha x hx;unfold iR at ha;simp only [List.mem_cons,List.not_mem_nil,or_false] at ha
 rcases ha with rfl | rfl | rfl <;> simp at hx <;> subst hx <;> unfold Fits <;> omega
theorem Oi:∀ e∈iR.edges,∀ x∈e.start,Fits x:=by
 intro e he x hx;unfold iR at he;simp only [List.mem_cons,List.not_mem_nil,or_false] at he
 rcases he with rfl | rfl <;> simp at hx
def nC:bH × Nat:=bS iR [1,1] 10 ⟨bN iR,none⟩
theorem Oj:uS iR [1,1] nC.1=0:=by
 have h1:nC.1.failed=none:=Dc;have h2:(dY iR [1,1] nC.1).length=2:=JO;unfold uS;rw [if_neg (by rw [h1];simp),if_neg (fun h=>by rw [h] at h2;cases h2)]
theorem Si:yA iR nC.1 0=[1,3]:=by
 unfold yA;rw [if_pos (by decide)];exact GQ.2
theorem Io {w:World}(a b:Int):Has (w.alloc (.cells #[.int .i64 a,.int .i64 b] 3)) (.slice (some ⟨w.heap.size,0,none⟩) 2 2) (bB [a,b]):=by
 have h:=heap_alloc_new w (.cells #[.int .i64 a,.int .i64 b] 3);exact .inr ⟨by simp,_,0,2,rfl,Nat.le_refl _,block_lt h,rfl,fun k hk=>by
  match k,hk with
  | 0,_=>exact ah _ _ h 0 _ rfl
  | 1,_=>exact ah _ _ h 1 _ rfl⟩
theorem vP (w:World):Calls Tryz.prog 8 #[] w (fq (.bool true) w):=by
 go_enter Tryz.func8,Tryz.ntmps8;go_wp2_with fail;refine (Sg w).mono ?_;rintro e w1 ⟨v,rfl,hG,hb1⟩;have hb2:=au w1 (.cells #[.int .i64 1,.int .i64 1] 3);have HC:=af (Io (w:=w1) 1 1);have HG:=af (hG.below hb2);have HB:=af (hb1.trans (hb2.mono hb1.size));clear hG hb1 hb2;go_wp2_with fail;obtain ⟨w2,hw2⟩:∃ x,w1.alloc (.cells #[.int .i64 1,.int .i64 1] 3)=x:=⟨_,rfl⟩;rw [hw2] at HC HG HB ⊢;clear hw2;refine (Ic w2 (fun _=>0) 1 (Nat.le_refl _) v iR [1,1] HG.out KF HC.out (by decide) Oh Oi (by intro c hc;simp at hc;subst hc;unfold Fits;omega)).mono ?_;rintro e w3 hret;obtain ⟨b,q,qs,rv,rfl,T,hR,hGO,-⟩:=hret.2 JQ;have K3:=(Kept.start w2).turn T (fun h=>h);have HR:=af hR;have N8:=af hGO;clear hret T hR hGO HC HG;go_wp2_with fail;refine (Bl 10 HR.out N8.out (by decide)).mono ?_;rintro e w4 ⟨q4,v4,rfl,T4,hR4⟩;have e10:(min (10:Int) 4096).toNat=10:=by decide
 rw [e10] at hR4 ⊢;have K4:=K3.turn T4 (by unfold bV;omega);have hR5:fw w4 q4 1 b iR [1,1] (256+4096*32) (fun _=>256) qs rv.tb nC.1 v4:=hR4;have h10:10 < nC.2:=of_decide_eq_true GQ.1;change _ at hR4;obtain ⟨n,hn⟩:∃ n,(bS iR [1,1] 10 ⟨bN iR,none⟩).2=n:=⟨_,rfl⟩;have hn2:nC.2=n:=hn;rw [hn];rw [hn2] at h10;have acL:(10:Int) < n:=by omega
 have qP:=af hR5;have xV:=af (HB.out.trans (K4.below.mono HB.out.size));clear hR4 hR5 hn hn2 h10 T4 K3 K4 HR HB;go_wp2_with fail;refine (Db qP.out.mem N8.out.linked rfl qP.out.ok (fun d=>Nat.le_of_lt (qP.out.lt (by decide) d))).mono ?_;rintro e w5 ⟨rfl,hb5⟩;rw [Oj];have HR6:=af (qP.out.turn (Turn.of_below q4 0 hb5) (fun _ h=>h.elim));have AY:=af (xV.out.trans (hb5.mono xV.out.size));generalize ext q4 w4.heap.size 0=q5 at *;clear hb5 xV qP;go_wp2_with fail;refine (zu HR6.out.mem).mono ?_;rintro e w6 ⟨rfl,rfl⟩;have hfl:iK nC.1 = -1:=by
  unfold iK;rw [show nC.1.failed=none from Dc]
 rw [hfl];clear hfl;go_wp2_with fail;refine (Ht 0 HR6.out.mem (fun d hd=>Nat.le_of_lt (HR6.out.tape (by decide) d hd))).mono ?_;rw [Si];rintro e w7 ⟨ov,rfl,ho,BR⟩;obtain ⟨oa,oc,rfl⟩:=aA ho;have hO:=(Own.made q5 7 ho).vals;have Vp:=au w7 (.cells #[.int .i64 1,.int .i64 3] 3);have HO:=af (hO.turn (Turn.of_below _ 0 Vp) (fun h=>h));have HI:=af (Io (w:=w7) 1 3);have HB7:=af (AY.out.trans ((BR.trans (Vp.mono BR.size)).mono AY.out.size));clear ho hO BR Vp AY;go_wp2_with fail;refine (gQ HO.out HI.out (by decide)).mono ?_;rintro e w8 ⟨rfl,m,rfl⟩;go_wp2;go_ret;exact ⟨rfl,cK HB7.out⟩
structure ZC where
 ask:Int
 n:Int
 xs:List Int
def OpR (w:World)(a:ZC)(cs:List Value):Prop:=∃ y,cs=[.int .i64 a.ask,.int .i64 a.n,y]/\Has w y (bB a.xs)
theorem Kept.abl {w0 w:World}{o:Col}{v:Value}{vs:List Value}(K:Kept w0.heap.size o w0 w)(h:Has w0 v vs):cu w o 0 v vs :=
 cu.turn h (⟨aG.of_below K.below _,fun k hk=>K.old k hk⟩:Turn (fun _=>0) o (fun _=>False) w0 w) (fun h=>h)
theorem fA.dO {w:World}{o o':Col}{R K:Nat}{g:av}{caps:List Int}{r:bH}{hs gv:Nat->List Int}{H:iH}{tv:Nat->wU}{sv:Nat->rT}(h:fA w o R g caps K r hs gv H tv sv)(ho:∀ k,jY R (o k)->o' k=o k):fA w o' R g caps K r hs gv H tv sv:=by
 obtain ⟨m1,m2⟩:=h.most;have hc:∀ j,j < 2000->∀ k,o k=R+j->o' k=R+j:=fun j hj k hk=>(ho k (by rw [hk];exact ⟨by omega,by omega⟩)).trans hk;have hv:∀ {j:Nat} {v:Value} {l:List Int},j < 2000->Ints w o (R+j) v l->Ints w o' (R+j) v l:=fun hj h=>cu.dO h fun k _ hk=>hc _ hj k hk;have hT:∀ t,t < g.actors.length->oC w o' R g t (r.aP.tasks t) (gv t) (tv t):=fun t ht=>by
  have k:=h.task t ht;exact ⟨hv (by omega) k.vp,hv (by omega) k.vi,hv (by omega) k.vo,hv (by omega) k.vk,by have:=k.src;rw [Nat.add_assoc] at this ⊢;exact hv (by omega) this,by have:=k.dst;rw [Nat.add_assoc] at this ⊢;exact hv (by omega) this,hv (by omega) k.hand,fun e=>hv (by omega) (k.gives e),k.rest,k.kp⟩
 exact ⟨hv (by omega) h.caps,h.fail.dO (hc 4 (by omega) _ h.fail.2),h.tasks.dO fun k hk=>hc 1 (by omega) k (h.tasks.2 k hk),h.streams.dO fun k hk=>hc 2 (by omega) k (h.streams.2 k hk),hT,fun d hd=>by
  have:=h.all d hd;rw [Nat.add_assoc] at this ⊢;exact this.iO (hc _ (by omega)),h.gone,h.tape,h.most⟩
theorem Ol {w2 w3:World}{o2 q:Col}{b:Nat}{g:av}{caps:List Int}{qs:bR}{v:bO}{H:iH}{tv:Nat->wU}{sv:Nat->rT}(h1:fw w2 o2 1 b g caps 256 (fun _=>256) qs v.tb ⟨bN g,none⟩ v)(hG:BS g caps)(K:Kept w2.heap.size q w2 w3)(h2:fA w3 q 10000 g caps 0 ⟨bN g,none⟩ (fun _=>[]) (fun _=>[]) H tv sv) :
  ∃ o3,Turn o2 o3 (fun _=>False) w2 w3/\Duo w3 o3 b g caps 256 0 256 qs v.tb H ⟨bN g,none⟩:=by
 have T:Turn o2 (fun k=>if k < w2.heap.size then o2 k else q k) (fun _=>False) w2 w3:=⟨aG.of_below K.below _,fun k hk=>by simp [hk]⟩;refine ⟨_,T,hG,by omega,_,_,_,_,_,_,h1.turn T (fun _ h=>h.elim),fun _=>Nat.le_refl _,h2.dO fun k hk=>?_⟩;have:¬ k < w2.heap.size:=fun hlt=>by
  have:=K.old k hlt;rw [this] at hk;exact absurd hk.1 (by omega)
 rw [if_neg this]
theorem E5 (w:World)(vg vc vs:Value)(g:av)(caps:List Int)(L:List ZC)(hg:dK w vg g)(hz:mO g)(hfp:∀ a∈g.actors,∀ x∈a.params,Fits x)(hfs:∀ e∈g.edges,∀ x∈e.start,Fits x)(hc:Has w vc (bB caps))(hcb:caps.length<=1048576)(hfc:∀ c∈caps,Fits c)
  (hs:pU w 3 OpR vs L) (hsl:L.length<=1048576) (hxs:∀ c∈L,Fits c.n/\c.xs.length<=1048576/\∀ x∈c.xs,Fits x) :
  Calls Tryz.prog 3 #[vg,vc,vs] w (fq (.bool true) w):=by
 obtain ⟨va,ve,vi,vo,rfl,ra,re,ri,ro⟩:=hg.shape;obtain ⟨ga,ZE,rfl⟩:=ra.slice;obtain ⟨ge,ZF,rfl⟩:=re.slice;obtain ⟨gi,ZG,rfl⟩:=ri.slice;obtain ⟨go,ZH,rfl⟩:=ro.slice;obtain ⟨sa,sc,rfl⟩:=hs.slice;obtain ⟨ka,kc,rfl⟩:=Ints.slice hc;have HG:=af hg;have HC:=af hc;have HS:=af hs;have HZ:=af hz;have Zo:=af hfp;have HFS:=af hfs;have HFC:=af hfc;have Zg:=af hcb;have X8:=af hsl;have abW:=af hxs;have hb1:=au w (.cells #[.string g.name,.slice ga g.actors.length ZE,.slice ge g.edges.length ZF,.slice gi g.ins.length ZG,.slice go g.outs.length ZH] 26);have T1:=Turn.of_below (fun _=>0) 20000 hb1;have HX:=af (dQ (w:=w) (fun _=>0) 20000 #[.string g.name,.slice ga g.actors.length ZE,.slice ge g.edges.length ZF,.slice gi g.ins.length ZG,.slice go g.outs.length ZH] 26);have HK:=af ((Kept.start w).turn T1 (fun h=>h));generalize ext (fun _=>0) w.heap.size 20000=o1 at *;clear hb1 T1 hg hz hfp hfs hc hcb hfc hs hsl hxs ra re ri ro;obtain ⟨n,hn⟩:∃ x,L.length=x:=⟨_,rfl⟩;rw [hn] at HS X8 ⊢;have HN:=af hn;clear hn;obtain ⟨w1,hw1⟩:∃ x,w.alloc (.cells #[.string g.name,.slice ga g.actors.length ZE,.slice ge g.edges.length ZF,.slice gi g.ins.length ZG,.slice go g.outs.length ZH] 26)=x:=⟨_,rfl⟩;rw [hw1] at HX HK;go_enter Tryz.func3,Tryz.ntmps3;go_wp2_with fail;clear hw1;refine (qC (zs:=caps) (by have:=Zg.out;omega) (HC.out.below HK.out.below)).mono ?_;rintro e w2 ⟨gl,cp,rfl,ow,hb⟩;have T:=Turn.of_below o1 20002 hb;replace HX:=af (HX.out.turn T (fun h=>h));replace HK:=af (HK.out.turn T (fun h=>h));have HO:=af (show Own w2 (ext o1 w1.heap.size 20002) 20002 3 1 (.slice (some ⟨gl,0,none⟩) (caps.length+4) cp) (caps.length+4) (bB (caps ++ marks)) from Own.made o1 20002 ow);generalize ext o1 _ 20002=o2 at *;clear T ow hb;have x9:=HX.out;have x0:=x9.cell 0 _ rfl;have x1:=x9.cell 1 _ rfl;have x2:=x9.cell 2 _ rfl;have x3:=x9.cell 3 _ rfl;have x4:=x9.cell 4 _ rfl;clear x9;go_wp2_with fail;clear x0 x1 x2 x3 x4;refine (Ic w2 o2 1 (Nat.le_refl _) (.agg #[.string g.name,.slice ga g.actors.length ZE,.slice ge g.edges.length ZF,.slice gi g.ins.length ZG,.slice go g.outs.length ZH]) g caps (HG.out.below HK.out.below) HZ.out HO.out.R6.vals.has (by have:=Zg.out;omega) Zo.out HFS.out HFC.out).mono ?_;intro e w3 hret
 by_cases h0:newE g caps=0
 case neg =>
  obtain ⟨rfl,hb⟩:=hret.1 h0;have T:=Turn.of_below o2 20003 hb;replace HX:=af (HX.out.turn T (fun h=>h));replace HK:=af (HK.out.turn T (fun h=>h));replace HO:=af (HO.out.turn T (fun h=>h));generalize ext o2 _ 20003=o3 at *;have H0:=af h0;clear T hb hret h0;obtain ⟨E,hE⟩:∃ x,newE g caps=x:=⟨_,rfl⟩;have HE:=af hE;rw [hE];have hE0:(E == 0)=false:=by rw [beq_eq_false_iff_ne];exact hE ▸ H0.out
  have hE1:(E != 0)=true:=by rw [bne_iff_ne];exact hE ▸ H0.out
  clear hE;have x9:=HX.out;have x0:=x9.cell 0 _ rfl;have x1:=x9.cell 1 _ rfl;have x2:=x9.cell 2 _ rfl;have x3:=x9.cell 3 _ rfl;have x4:=x9.cell 4 _ rfl;clear x9;go_wp2_with fail;clear x0 x1 x2 x3 x4;refine (Ij w3 1 (Nat.le_refl _) g caps (HG.out.below HK.out.below) HZ.out (HC.out.below HK.out.below) (by have:=Zg.out;omega)).mono ?_;intro e w4 hret;obtain ⟨rfl,hb⟩:=hret.1 H0.out;rw [HE.out];have T:=Turn.of_below o3 20003 hb;replace HK:=af (HK.out.turn T (fun h=>h));replace HO:=af (HO.out.turn T (fun h=>h));generalize ext o3 _ 20003=o4 at *;have hb5:=au w4 (.cells #[.string { data:=#[] },.slice none 0 0,.slice none 0 0,.slice none 0 0,.slice none 0 0,.slice none 0 0,.slice none 0 0,.slice none 0 0,.slice none 0 0] 37);have T:=Turn.of_below o4 20003 hb5;replace HK:=af (HK.out.turn T (fun h=>h));replace HO:=af (HO.out.turn T (fun h=>h));generalize ext o4 _ 20003=o5 at *;clear T hb hb5 hret HX;go_wp2_with fail;obtain ⟨w5,SK⟩:∃ x,w4.alloc (.cells #[.string { data:=#[] },.slice none 0 0,.slice none 0 0,.slice none 0 0,.slice none 0 0,.slice none 0 0,.slice none 0 0,.slice none 0 0,.slice none 0 0] 37)=x:=⟨_,rfl⟩;rw [SK] at HK HO ⊢;clear SK;refine (wX _ caps gl cp ka kc (by have:=Zg.out;omega) (lW HO.out.1) (HC.out.below HK.out.below)).mono ?_;rintro e _ ⟨rfl,m,rfl⟩;replace HK:=af (HK.out.drewN m);go_wp2_with fail;refine (vP _).mono ?_;rintro e wz ⟨rfl,hbz⟩;have Jm:=af (HK.out.below.trans (hbz.mono HK.out.size));clear hbz;go_wp2;go_ret;exact ⟨rfl,Jm.out⟩
 case pos =>
  obtain ⟨b,o3,qs,v,rfl,T,hM,hG,-⟩:=hret.2 h0;replace HX:=af (HX.out.turn T (fun h=>h));replace HK:=af (HK.out.turn T (fun h=>h));replace HO:=af (HO.out.turn T (fun h=>h));have HM:=af hM;have N8:=af hG;have H0:=af h0;clear T hret hM hG h0;have x9:=HX.out;have x0:=x9.cell 0 _ rfl;have x1:=x9.cell 1 _ rfl;have x2:=x9.cell 2 _ rfl;have x3:=x9.cell 3 _ rfl;have x4:=x9.cell 4 _ rfl;clear x9;go_wp2_with fail;clear x0 x1 x2 x3 x4;refine (Ij w3 10000 (by decide) g caps (HG.out.below HK.out.below) HZ.out (HC.out.below HK.out.below) (by have:=Zg.out;omega)).mono ?_;intro e w4 hret;obtain ⟨b',q',v',rfl,hK4,hX4⟩:=hret.2 H0.out;obtain ⟨H,tv,sv,hrx,hR⟩:=KC N8.out.acts hX4;rw [hrx];obtain ⟨o4,T,hD⟩:=Ol HM.out N8.out hK4 hR;replace HX:=af (HX.out.turn T (fun h=>h));replace HK:=af (HK.out.turn T (fun h=>h));replace HO:=af (HO.out.turn T (fun h=>h));have HD:=af hD;clear T hret hK4 hX4 hrx hR hD HM;unfold dP;obtain ⟨aa,ac,ae,ec,ai,nc,ao,uc,cv,cc,ta,tc,sa',dz,fl⟩:=H;dsimp only;obtain ⟨tb,htb⟩:∃ x,v.tb=x:=⟨_,rfl⟩;rw [htb] at HD;clear htb;have hb5:=au w4 (.cells #[.string g.name,.slice aa g.actors.length ac,.slice ae g.edges.length ec,.slice ai g.ins.length nc,.slice ao g.outs.length uc,.slice cv caps.length cc,.slice ta g.actors.length tc,.slice sa' (aR g) dz,.slice (some ⟨fl,0,none⟩) 1 1] 37);have T:=Turn.of_below o4 20001 hb5;have zM:=af (dQ (w:=w4) o4 20001 #[.string g.name,.slice aa g.actors.length ac,.slice ae g.edges.length ec,.slice ai g.ins.length nc,.slice ao g.outs.length uc,.slice cv caps.length cc,.slice ta g.actors.length tc,.slice sa' (aR g) dz,.slice (some ⟨fl,0,none⟩) 1 1] 37);replace HX:=af (HX.out.turn T (fun h=>h));replace HK:=af (HK.out.turn T (fun h=>h));replace HO:=af (HO.out.turn T (fun h=>h));replace HD:=af (HD.out.quiet T);generalize ext o4 _ 20001=o5 at *;clear T hb5;obtain ⟨w5,SK⟩:∃ x,w4.alloc (.cells #[.string g.name,.slice aa g.actors.length ac,.slice ae g.edges.length ec,.slice ai g.ins.length nc,.slice ao g.outs.length uc,.slice cv caps.length cc,.slice ta g.actors.length tc,.slice sa' (aR g) dz,.slice (some ⟨fl,0,none⟩) 1 1] 37)=x:=⟨_,rfl⟩;rw [SK] at HX HK HO HD zM;go_wp2_with fail;clear SK;obtain ⟨Z,hZ⟩:∃ x,w4.heap.size=x:=⟨_,rfl⟩;rw [hZ] at zM ⊢;clear hZ;refine (wX _ caps gl cp ka kc (by have:=Zg.out;omega) (lW HO.out.1) (HC.out.below HK.out.below)).mono ?_;rintro e _ ⟨rfl,m,rfl⟩;have T:=Turn.jE o5 (w:=w5) ⟨m,rfl⟩;replace HX:=af (HX.out.turn T (fun h=>h));replace HK:=af (HK.out.turn T (fun h=>h));replace HO:=af (HO.out.turn T (fun h=>h));replace HD:=af (HD.out.quiet T);replace zM:=af (zM.out.turn T (fun h=>h));clear T;go_wp2_with fail;refine (yF HO.out.R6 (by have:=Zg.out;omega)).mono ?_;rintro e w6 ⟨rfl,o6,T⟩;replace HX:=af (HX.out.turn T (by omega));replace HK:=af (HK.out.turn T (by omega));replace HD:=af (HD.out.turn T (fun k hk=>by subst hk;unfold bV jY;omega));replace zM:=af (zM.out.turn T (by omega));clear T HO;go_wp2_with fail
  go_loopw [13,14] (fun x13 x14 wl=>∃ (i:Nat) (l:Int) (q:Col) (r:bH),i<=n/\x14=.int .i64 i/\x13=.int .i64 l/\(0<=l/\l<=65536)/\Kept w.heap.size q w wl/\dZ wl q 20000 w.heap.size 26 #[.string g.name,.slice ga g.actors.length ZE,.slice ge g.edges.length ZF,.slice gi g.ins.length ZG,.slice go g.outs.length ZH]/\dZ wl q 20001 Z 37 #[.string g.name,.slice aa g.actors.length ac,.slice ae g.edges.length ec,.slice ai g.ins.length nc,.slice ao g.outs.length uc,.slice cv caps.length cc,.slice ta g.actors.length tc,.slice sa' (aR g) dz,.slice (some ⟨fl,0,none⟩) 1 1]/\Duo wl q b g caps (256+i*2000000) (i*2000000) (256+i*2000000) qs tb ⟨aa,ac,ae,ec,ai,nc,ao,uc,cv,cc,ta,tc,sa',dz,fl⟩ r) (fun _ x14 _=>n - (intOf x14).toNat)
  case atStart=>exact ⟨0,65536,o6,⟨bN g,none⟩,Nat.zero_le _,rfl,rfl,by decide,HK.out,HX.out,zM.out,by simpa using HD.out⟩
  case round =>
   clear HK HX zM HD;obtain ⟨i,l,q,r,hi,rfl,rfl,hl,hK,hX,hZB,hD⟩:=hrel;have HK:=af hK;have HX:=af hX;have zM:=af hZB;have HD:=af hD;clear hK hX hZB hD
   by_cases hlt:i < n
   ·
    have bX:(i:Int) < n:=by omega
    have hlL:i < L.length:=by rw [HN.out];exact hlt
    obtain ⟨b0,off,rfl,hcap,hb0,hrec⟩:=HS.out.at (by omega);obtain ⟨cs,hcs,mY,hcl⟩:=hrec i hlL;obtain ⟨y,rfl,hst⟩:=mY;have c0:=cell_later HK.out.below (hcl 0 (by omega));have c1:=cell_later HK.out.below (hcl 1 (by omega));have c2:=cell_later HK.out.below (hcl 2 (by omega));simp at c0 c1 c2;have fu:(n:Int)<=sc:=by have:=HN.out;omega
    have hib:i < 1048576:=by have:=X8.out;omega
    have hfc:=abW.out _ (List.getElem_mem hlL);obtain ⟨c,hc⟩:∃ x,L[i]=x:=⟨_,rfl⟩;rw [hc] at c0 c1 hst hfc;obtain ⟨A,N,xs⟩:=c;dsimp only at c0 c1 hst hfc;obtain ⟨xa,xc,rfl⟩:=Ints.slice hst;have lJ:=af (HK.out.abl hst);have Ir:=af hfc.2.2;have HI2:Hid (xs.length<=1048576/\i+1<=1048576):=af ⟨hfc.2.1,by have:=X8.out;omega⟩;clear hst hfc hc hcl hcs hrec hcap
    go_upto_if 64 with fail
    go_cut [13] from 64 to 73 (fun x13 wl=>∃ l2:Int,x13=.int .i64 l2/\l2<=65536/\wl=wr)
    case first =>
     by_cases hA:A=2
     ·
      have hA2:(A == 2)=true:=beq_iff_eq.2 hA;clear hA
      by_cases hN0:N<=0
      ·
       have n1:¬ 4096 < N:=by omega
       have n2:¬ 0 < N:=by omega
       have n3:N < 4096:=by omega
       have n4:IntKind.i64.wrap l=l:=IntWalk.i64_in _ (by omega);have n5:wrap64 l=l:=IntWalk.wrap64_in _ (by omega);go_wp2_with fail
       go_meet
       case rel=>exact ⟨l,rfl,hl.2,rfl⟩
      ·
       have hp:0 < N:=by omega
       by_cases hN4:4096 < N
       ·
        have n3:¬ N < 4096:=by omega
        have n4:¬ N<=4096:=by omega
        have n5:IntKind.i64.wrap (l - 4096)=l - 4096:=IntWalk.i64_in _ (by omega);have n6:wrap64 (l - 4096)=l - 4096:=IntWalk.wrap64_in _ (by omega);go_wp2_with fail
        go_meet
        case rel=>exact ⟨l - 4096,by simp [n5,n6],by omega,rfl⟩
       ·
        have n3:¬ 4096 < N:=hN4;have n4:N<=4096:=by omega
        have n5:IntKind.i64.wrap (l - N)=l - N:=IntWalk.i64_in _ (by omega);have n6:wrap64 (l - N)=l - N:=IntWalk.wrap64_in _ (by omega);go_wp2_with fail
        go_meet
        case rel=>exact ⟨l - N,by simp [n5,n6],by omega,rfl⟩
     ·
      have hA2:(A == 2)=false:=beq_eq_false_iff_ne.2 hA;clear hA;go_wp2_with fail
      go_meet
      case rel=>exact ⟨l,rfl,hl.2,rfl⟩
    case rest =>
     obtain ⟨l2,rfl,hl2,rfl⟩:=hcut;have BV:=af hl2;clear hl hl2
     by_cases hng:l2 < 0
     ·
      go_wp2_with fail;refine (vP _).mono ?_;rintro e wz ⟨rfl,hbz⟩;have Jm:=af (HK.out.below.trans (hbz.mono HK.out.size));clear hbz;go_wp2;go_ret;exact ⟨rfl,Jm.out⟩
     ·
      go_wp2_with fail;refine aM (fun w'=>(w'.cell? ⟨Z,0,none⟩=some (.string g.name)/\w'.cell? ⟨Z,1,none⟩=some (.slice aa g.actors.length ac)/\w'.cell? ⟨Z,2,none⟩=some (.slice ae g.edges.length ec)/\w'.cell? ⟨Z,3,none⟩=some (.slice ai g.ins.length nc)/\w'.cell? ⟨Z,4,none⟩=some (.slice ao g.outs.length uc)/\w'.cell? ⟨Z,5,none⟩=some (.slice cv caps.length cc)/\w'.cell? ⟨Z,6,none⟩=some (.slice ta g.actors.length tc)/\w'.cell? ⟨Z,7,none⟩=some (.slice sa' (aR g) dz)/\w'.cell? ⟨Z,8,none⟩=some (.slice (some ⟨fl,0,none⟩) 1 1))/\w'.cell? ⟨b0,off+i*3,none⟩=some (.int .i64 A)/\w'.cell? ⟨b0,off+i*3+1,none⟩=some (.int .i64 N)/\w'.cell? ⟨b0,off+i*3+2,none⟩=some (.slice xa xs.length xc)) [0,1,2,3,4,5] [6,7] (by kernel_rfl) (by kernel_rfl) rfl (fun _ _ hx h=>⟨sV hx h.1,hx.cell h.2.1,hx.cell h.2.2.1,hx.cell h.2.2.2⟩) ⟨jD zM.out,c0,c1,c2⟩ ?_;intro Q5 hQ5;simp only [pk];refine aD ?_;refine ax ?_;go_wp2_with fail;have T0:=(Turn.refl q (fun _=>False) wc).drew;refine (Zf (HD.out.quiet T0) (lJ.out.turn T0 (fun h=>h)) Ir.out (by have:=HI2.out;omega) (by have:=HI2.out;omega) A N).mono ?_;rintro e w2 ⟨o2,r2,rfl,T2,hD2⟩;have HD3:=af (hD2.mono (M':=256+(i+1)*2000000) (K':=(i+1)*2000000) (B':=256+(i+1)*2000000) (by have:=HI2.out;omega) (by have:=HI2.out;omega) (by have:=HI2.out;omega) (by have:=HI2.out;omega));have T3:=(T0.mono (D:=jZ) (fun _ h=>h.elim)).trans T2 (fun _ h=>h);have HK3:=af (HK.out.turn T3 (by unfold jZ LV bV eu;omega));have SL:=af (HX.out.turn T3 (by unfold jZ LV bV eu;omega));have HZ3:=af (zM.out.turn T3 (by unfold jZ LV bV eu;omega));clear T0 T2 T3 hD2 c0 c1 c2;go_wp2;go_roundw
      case rel=>exact ⟨i+1,l2,o2,r2,hlt,by go_num,rfl,⟨by omega,BV.out⟩,HK3.out,SL.out,HZ3.out,HD3.out⟩
      case measure=>simp [intOf];omega
   ·
    obtain rfl:n=i:=by omega
    have qV:=af HD.out.few.2;replace HD:=af (HD.out.mono (Nat.le_refl _) (Nat.le_refl _) (Nat.le_refl _) HD.out.sz);obtain ⟨M,hM⟩:∃ x,256+n*2000000=x:=⟨_,rfl⟩;obtain ⟨K,hK⟩:∃ x,n*2000000=x:=⟨_,rfl⟩;rw [hM,hK] at HD;clear hM hK hl hi;go_wp2_with fail
    go_loopw [15] (fun x15 wl=>∃ (k:Nat) (q:Col),k<=g.outs.length/\x15=.int .i64 k/\Kept w.heap.size q w wl/\dZ wl q 20000 w.heap.size 26 #[.string g.name,.slice ga g.actors.length ZE,.slice ge g.edges.length ZF,.slice gi g.ins.length ZG,.slice go g.outs.length ZH]/\dZ wl q 20001 Z 37 #[.string g.name,.slice aa g.actors.length ac,.slice ae g.edges.length ec,.slice ai g.ins.length nc,.slice ao g.outs.length uc,.slice cv caps.length cc,.slice ta g.actors.length tc,.slice sa' (aR g) dz,.slice (some ⟨fl,0,none⟩) 1 1]/\Duo wl q b g caps M K M qs tb ⟨aa,ac,ae,ec,ai,nc,ao,uc,cv,cc,ta,tc,sa',dz,fl⟩ r) (fun x15 _=>g.outs.length - (intOf x15).toNat)
    case atStart=>exact ⟨0,q,Nat.zero_le _,rfl,HK.out,HX.out,zM.out,HD.out⟩
    case round =>
     clear HK HX zM HD;obtain ⟨k,q,hk,rfl,hK,hX,hZB,hD⟩:=hrel;have HK:=af hK;have HX:=af hX;have zM:=af hZB;have HD:=af hD;clear hK hX hZB hD;have xg:=HX.out.cell 4 _ rfl;have z9:=zM.out;obtain ⟨x0,x1,x2,x3,x4,x5,x6,x7,x8⟩:=jD z9;clear z9;have ab1:=qV.out
     by_cases hkt:k < g.outs.length
     ·
      have acM:(k:Int) < g.outs.length:=by omega
      go_wp2_with fail;refine (wZ HD.out 6 (k:Int) (.slice none 0 0)).mono ?_;rintro e w2 ⟨rfl,hb⟩;have T:=Turn.of_below q 20003 hb;have HK3:=af (HK.out.turn T (fun h=>h));have SL:=af (HX.out.turn T (fun h=>h));have HZ3:=af (zM.out.turn T (fun h=>h));have HD3:=af (HD.out.quiet T);clear x0 x1 x2 x3 x4 x5 x6 x7 x8;clear T hb xg;go_wp2;go_roundw
      case rel=>exact ⟨k+1,_,hkt,by go_num,HK3.out,SL.out,HZ3.out,HD3.out⟩
      case measure=>simp [intOf];omega
     ·
      obtain rfl:k=g.outs.length:=by omega
      go_wp2_with fail;refine (wZ HD.out 5 0 (.slice none 0 0)).mono ?_;rintro e w2 ⟨rfl,hb⟩;have T:=Turn.of_below q 20003 hb;replace HK:=af (HK.out.turn T (fun h=>h));replace zM:=af (zM.out.turn T (fun h=>h));replace HD:=af (HD.out.quiet T);generalize ext q _ 20003=q at *;clear x0 x1 x2 x3 x4 x5 x6 x7 x8;clear T hb;have z9:=zM.out;obtain ⟨x0,x1,x2,x3,x4,x5,x6,x7,x8⟩:=jD z9;clear z9;clear xg;go_wp2_with fail;refine (wZ HD.out 7 0 (.slice none 0 0)).mono ?_;rintro e w2 ⟨rfl,hb⟩;have T:=Turn.of_below q 20003 hb;replace HK:=af (HK.out.turn T (fun h=>h));replace zM:=af (zM.out.turn T (fun h=>h));replace HD:=af (HD.out.quiet T);generalize ext q _ 20003=q at *;clear x0 x1 x2 x3 x4 x5 x6 x7 x8;clear T hb;have z9:=zM.out;obtain ⟨x0,x1,x2,x3,x4,x5,x6,x7,x8⟩:=jD z9;clear z9;go_wp2_with fail;refine (wZ HD.out 8 0 (.slice none 0 0)).mono ?_;rintro e w2 ⟨rfl,hb⟩;have T:=Turn.of_below q 20003 hb;replace HK:=af (HK.out.turn T (fun h=>h));replace zM:=af (zM.out.turn T (fun h=>h));replace HD:=af (HD.out.quiet T);generalize ext q _ 20003=q at *;clear x0 x1 x2 x3 x4 x5 x6 x7 x8;clear T hb;have z9:=zM.out;obtain ⟨x0,x1,x2,x3,x4,x5,x6,x7,x8⟩:=jD z9;clear z9;go_wp2_with fail;clear x0 x1 x2 x3 x4 x5 x6 x7 x8;refine (vP _).mono ?_;rintro e wz ⟨rfl,hbz⟩;have Jm:=af (HK.out.below.trans (hbz.mono HK.out.size));clear hbz;go_wp2;go_ret;exact ⟨rfl,Jm.out⟩
end Go.Proofs.YtepjkmnhmcjbkaaGreat
namespace Go.Proofs.YtepjkmnhmcjbkaaGreat
open Go.ChangeShapes Go.WideShapes Go.ChangeAt Go.RowKit Go.Deep
def yG (w:World)(v:Value)(zs:List Int):Prop :=
 ∃ ao cap,v=.slice ao zs.length cap/\zs.length<=cap/\cap<=maxLen/\(ao=none->zs.length=0)/\(∀ n∈zs,-9223372036854775808<=n/\n<=9223372036854775807) /\
  ∀ ad,ao=some ad->∀ j u,(zs.map (Value.int .i64))[j]?=some u->w.cell? (ad.add j)=some u
theorem wf_i64 {n:Int}(h:(Lit.int .i64 n).wf=true):-9223372036854775808<=n/\n<=9223372036854775807:=by
 simp [Lit.wf] at h;have h1:IntKind.i64.min = -9223372036854775808:=rfl;have h2:IntKind.i64.max=9223372036854775807:=rfl;omega
def Om {H:Type}(d:DataW H)(n:Nat):Prop:=(d=.nil/\n=0)\/∃ el sp,d=.slice el sp/\el.length=n
theorem w9 {P:Program}{H:Type}{enc:TypeId × Value->H}{W:World}{t e:TypeId}{v:Value}{d:DataW H}{p:List MemPlace}(ht:P.underlying t=some (.slice e))(he:P.underlying e=some (.int .i64))(hc:P.cellsOf e=1)
  (hv:∃ a len cap,v=.slice a len cap) (h:DataW.Trod enc P W 0 (fun _=>true) true t v d p):∃ zs,yG W v zs/\Om d zs.length:=by
 obtain ⟨a1,Sj,GD,rfl⟩:=hv;obtain ⟨fuel,hf⟩:=h
 rcases open_ints ht he hc hf with ⟨hcs,hx⟩ | ⟨x,l,c,zs,hcs,_,hl,hm,hz,hx,hcell,hwz⟩
 ·
  simp [Value.cells] at hcs;obtain ⟨rfl,rfl,rfl⟩:=hcs;obtain rfl:d=.nil:=congrArg Prod.fst hx;exact ⟨[],⟨none,0,rfl,Nat.le_refl _,Nat.zero_le _,fun _=>rfl,by simp,fun _ h=>by cases h⟩,.inl ⟨rfl,rfl⟩⟩
 ·
  simp [Value.cells] at hcs;obtain ⟨rfl,rfl,rfl⟩:=hcs;simp at hz;obtain rfl:d=_:=congrArg Prod.fst hx;have hlen:(zs.take Sj).length=Sj:=by rw [List.length_take];omega
  refine ⟨zs.take Sj,⟨some x,GD,by rw [hlen],by omega,hm,(fun h=>by cases h),fun n hn=>?_,?_⟩,.inr ⟨_,_,rfl,by simp [lits]⟩⟩
  ·
   exact wf_i64 (hwz n (List.mem_of_mem_take hn))
  ·
   intro ad had j u hu;obtain rfl:=Option.some.inj had;have hj:j < Sj:=by have:=(List.getElem?_eq_some_iff.1 hu).1;simp at this;omega
   have hcz:=hcell j (by omega);rw [hcz];have:((zs.take Sj).map (Value.int .i64))[j]?=some (.int .i64 (zs.getD j 0)):=by
    simp [hj,show j < zs.length by omega]
   rw [this] at hu;exact hu
theorem yG.has {W:World}{v:Value}{zs:List Int}(h:yG W v zs):Has W v (bB zs):=by
 obtain ⟨ao,cap,rfl,h1,h2,h3,h4,h5⟩:=h
 by_cases hp:0 < zs.length
 ·
  cases ao with
  | none=>have:=h3 rfl;omega
  | some a =>
   have hc:∀ i,i < zs.length->W.cell? (a.add i)=some (.int .i64 (zs.getD i 0)):=fun i hi=>h5 a rfl i _ (by simp [hi]);obtain ⟨b,off,rfl,hcell⟩:=ints_at hc hp;refine .inr ⟨by simpa using hp,b,off,cap,by simp,by simpa using h1,World.block_lt_of_cell? _ _ (hcell 0 hp),rfl,fun k hk=>?_⟩;have hk':k < zs.length:=by simpa using hk
   have:=hcell k hk'
   simpa [hk'] using this
 ·
  obtain rfl:zs=[]:=List.eq_nil_of_length_eq_zero (by omega);exact .inl ⟨rfl,ao,cap,rfl⟩
theorem yG.fits {W:World}{v:Value}{zs:List Int}(h:yG W v zs):∀ n∈zs,-9223372036854775808<=n/\n<=9223372036854775807:=h.choose_spec.choose_spec.2.2.2.2.1
theorem oD {P:Program}{H:Type}{enc:TypeId × Value->H}{W:World}{t e:TypeId}{x:Value}{fuel:Nat}{y:DataW H × List MemPlace}(ht:P.underlying t=some (.slice e))(he:P.underlying e=some (.int .i64))(hc:P.cellsOf e=1)
  (h:DataW.trod enc P W 0 (fun _=>true) true fuel t [x]=some y):∃ zs,yG W x zs/\Om y.1 zs.length:=by
 have hx:∃ a len cap,x=.slice a len cap:=by
  rcases open_ints ht he hc h with ⟨hcs,_⟩ | ⟨a,len,cap,zs,hcs,_⟩
  ·
   exact ⟨_,_,_,List.head_eq_of_cons_eq hcs⟩
  ·
   exact ⟨_,_,_,List.head_eq_of_cons_eq hcs⟩
 obtain ⟨a,len,cap,rfl⟩:=hx;exact w9 (d:=y.1) (p:=y.2) ht he hc ⟨_,_,_,rfl⟩ ⟨fuel,by simpa [Value.cells] using h⟩
theorem rQ {H:Type}{P:Program}{e:TypeId}{d:DataW H}{x:Nat}:∀ {l:List (DataW H)},d∈l->x∈d.weights P e->x∈DataW.weightsAll P e l
 | [],h,_=>by cases h
 | a :: l,h,hx=>by
  simp only [DataW.weightsAll,List.mem_append]
  rcases List.mem_cons.1 h with rfl | h
  ·
   exact .inl hx
  ·
   exact .inr (rQ h hx)
def Light {H:Type}(P:Program)(t:TypeId)(d:DataW H):Prop:=∀ x∈d.weights P t,x<=reachBytes
theorem Oo {H:Type}{P:Program}{t e:TypeId}{d:DataW H}{n B:Nat}(h:∀ x∈d.weights P t,x<=B)(hd:Om d n)(hu:P.underlying t=some (.slice e)):n*P.bytesOf e<=B:=by
 rcases hd with ⟨rfl,rfl⟩ | ⟨el,sp,rfl,rfl⟩
 ·
  simp
 ·
  have:=h ((el.length+sp.length)*P.bytesOf e) (by simp [DataW.weights,hu]);exact Nat.le_trans (Nat.mul_le_mul_right _ (by omega)) this
theorem Light.len {H:Type}{P:Program}{t e:TypeId}{d:DataW H}{n:Nat}(h:Light P t d)(hd:Om d n)(hu:P.underlying t=some (.slice e)):n*P.bytesOf e<=reachBytes:=Oo h hd hu
section
variable {H:Type} {enc:TypeId × Value->H} {W:World}
abbrev gM (enc:TypeId × Value->H) (W:World) (fuel:Nat) (t:TypeId) (cs:List Value) (y:DataW H × List MemPlace):Prop:=DataW.trod enc Tryz.prog W 0 (fun _=>true) true fuel t cs=some y
theorem kC:Tryz.prog.cellsOf 3=1:=by kernel_rfl
theorem yH:Tryz.prog.cellsOf 27=1:=by kernel_rfl
theorem Sk:Tryz.prog.bytesOf 3=8:=by kernel_rfl
theorem yI:reachBytes=140737488351232:=rfl
theorem Wn {B:Nat}{t:TypeId}{fs:Array Field}{xs:List (DataW H × List MemPlace)}(ht:Tryz.prog.underlying t=some (.struct fs))(hL:∀ x∈(DataW.agg (xs.map (·.1))).weights Tryz.prog t,x<=B){i:Nat}{f:Field}{y:DataW H × List MemPlace}(hf:fs[i]?=some f)(hy:xs[i]?=some y):∀ x∈y.1.weights Tryz.prog f.type,x<=B:=fun x hx=>hL x (by
 simp only [DataW.weights,ht];have h1:(fs.toList.map (·.type))[i]?=some f.type:=by simp [hf]
 have h2:(xs.map (·.1))[i]?=some y.1:=by simp [hy]
 exact DataW.weights_mem_each h1 h2 x hx)
theorem jb {t:TypeId}{fs:Array Field}{xs:List (DataW H × List MemPlace)}(ht:Tryz.prog.underlying t=some (.struct fs))(hL:Light Tryz.prog t (.agg (xs.map (·.1)))){i:Nat}{f:Field}{y:DataW H × List MemPlace}(hf:fs[i]?=some f)(hy:xs[i]?=some y):Light Tryz.prog f.type y.1:=Wn ht hL hf hy
theorem vQ {fuel:Nat}{x:Value}{y:DataW H × List MemPlace}(h:gM enc W fuel 3 [x] y):∃ n,x=.int .i64 n:=by
 obtain ⟨n,h1,_⟩:=DataW.trod_int Tryz.underlying3 h;exact ⟨n,by simpa using h1⟩
theorem Ip {cs:List Value}{n i:Nat}(hl:cs.length=n)(hi:i < n):cs[i]?=some (cs[i]?.getD undef):=by
 rw [List.getElem?_eq_getElem (by omega)];rfl
theorem Zh {H:Type}{P:Program}{B:Nat}{t e:TypeId}{d:DataW H}{n:Nat}(h:∀ x∈d.weights P t,x<=B)(hd:Om d n)(hu:P.underlying t=some (.slice e)):n*P.bytesOf e<=B:=by
 rcases hd with ⟨rfl,rfl⟩ | ⟨el,sp,rfl,rfl⟩
 ·
  simp
 ·
  have:=h ((el.length+sp.length)*P.bytesOf e) (by simp [DataW.weights,hu]);exact Nat.le_trans (Nat.mul_le_mul_right _ (by omega)) this
theorem E8 {B:Nat}{α:Type}{R:World->α->List Value->Prop}{Z:α->Prop}{t e:TypeId}{sz:Nat}{fuel:Nat}{x:Value}{y:DataW H × List MemPlace}(ht:Tryz.prog.underlying t=some (.slice e))(hc:Tryz.prog.cellsOf e=sz)(hsz:0 < sz)
  (el:∀ (fuel:Nat) (cs:List Value) (y:DataW H × List MemPlace),cs.length=sz->gM enc W fuel e cs y->∃ a:α,R W a cs/\((∀ x∈y.1.weights Tryz.prog e,x<=B)->Z a)) (h:gM enc W fuel t [x] y) :
  ∃ l:List α,pU W sz R x l/\((∀ x∈y.1.weights Tryz.prog t,x<=B)->l.length*Tryz.prog.bytesOf e<=B/\∀ a∈l,Z a):=by
 rcases open_slice ht h with ⟨hcs',hx⟩ | ⟨a,len,cap,m,n,D,Pl,hcs',_,hl,hm,hmm,hx,hel⟩
 ·
  obtain rfl:x=.slice none 0 0:=List.head_eq_of_cons_eq hcs';exact ⟨[],.inl ⟨rfl,_,_,rfl⟩,fun _=>⟨by simp,by simp⟩⟩
 ·
  obtain rfl:=List.head_eq_of_cons_eq hcs';simp at hmm;have each:∀ j,j < len->∃ q:α × List Value,q.2.length=sz/\R W q.1 q.2/\((∀ x∈(D j).weights Tryz.prog e,x<=B)->Z q.1)/\∀ i,i < sz->W.cell? ((a.add (j*sz)).add i)=some (q.2[i]?.getD undef):=by
   intro j hj;obtain ⟨cs',hcells,htr⟩:=hel j (by omega);rw [hc] at hcells;obtain ⟨_,hll,hev⟩:=World.cells?_some hcells;obtain ⟨q,h1,h2⟩:=el _ _ _ hll htr;exact ⟨(q,cs'),hll,h1,h2,fun i hi=>(hev i hi).trans (Ip hll hi)⟩
  by_cases hp:0 < len
  ·
   haveI:Inhabited (α × List Value):=⟨(each 0 hp).choose⟩
   obtain ⟨Q,hQ⟩:=choose_lt (α:=α × List Value) (p:=fun j q=>q.2.length=sz/\R W q.1 q.2/\((∀ x∈(D j).weights Tryz.prog e,x<=B)->Z q.1)/\∀ i,i < sz->W.cell? ((a.add (j*sz)).add i)=some (q.2[i]?.getD undef)) each;have hd:y.1=_:=congrArg Prod.fst hx;refine ⟨(List.range len).map fun j=>(Q j).1,.inr ?_,fun hL=>⟨Zh hL (n:=((List.range len).map fun j=>(Q j).1).length) (.inr ⟨_,_,hd,by simp⟩) ht,fun z hz=>?_⟩⟩;rotate_left
   ·
    simp only [List.mem_map,List.mem_range] at hz;obtain ⟨j,hj,rfl⟩:=hz;exact (hQ j hj).2.2.1 fun x hx=>hL x (by
     rw [hd];simp only [DataW.weights,ht];exact List.mem_cons_of_mem _ (List.mem_append_left _ (rQ (List.mem_map.2 ⟨j,List.mem_range.2 hj,rfl⟩) hx)))
   have hsp:a.spot=none:=by
    have:=World.cell?_spot ((hQ 0 hp).2.2.2 0 hsz)
    simpa [Addr.add] using this
   obtain ⟨b,off,spot⟩:=a;simp at hsp;subst hsp;refine ⟨by simpa using hp,b,off,cap,by simp,by simp;omega,?_,fun k hk=>?_⟩
   ·
    have:=World.block_lt_of_cell? _ _ ((hQ 0 hp).2.2.2 0 hsz)
    simpa [Addr.add] using this
   ·
    have hk':k < len:=by simpa using hk
    obtain ⟨e1,e2,_,e4⟩:=hQ k hk';refine ⟨(Q k).2,e1,by simpa [hk'] using e2,fun i hi=>?_⟩;have:=e4 i hi;simp only [Addr.add_lit] at this;exact this
  ·
   obtain rfl:len=0:=by omega
   exact ⟨[],.inl ⟨rfl,some a,cap,rfl⟩,fun _=>⟨by simp,by simp⟩⟩
theorem uE {α:Type}{R:World->α->List Value->Prop}{Z:α->Prop}{t e:TypeId}{sz:Nat}{fuel:Nat}{x:Value}{y:DataW H × List MemPlace}(ht:Tryz.prog.underlying t=some (.slice e))(hc:Tryz.prog.cellsOf e=sz)(hsz:0 < sz)
 (el:∀ (fuel:Nat) (cs:List Value) (y:DataW H × List MemPlace),cs.length=sz->gM enc W fuel e cs y->∃ a:α,R W a cs/\(Light Tryz.prog e y.1->Z a)) (h:gM enc W fuel t [x] y) :
 ∃ l:List α,pU W sz R x l/\(Light Tryz.prog t y.1->l.length*Tryz.prog.bytesOf e<=reachBytes/\∀ a∈l,Z a):=E8 ht hc hsz el h
end
section
variable {H:Type}
theorem Sl (d:DataW H):1<=Rows.uptoBulk d:=by
 cases d with
 | lit l=>cases l <;> simp [Rows.uptoBulk]
 | nil=>simp [Rows.uptoBulk]
 | ptr d=>simp [Rows.uptoBulk]
 | slice elems spare=>simp [Rows.uptoBulk]
 | agg parts=>simp [Rows.uptoBulk]
 | iface t d=>simp [Rows.uptoBulk]
 | map entries=>simp [Rows.uptoBulk]
 | held h=>simp [Rows.uptoBulk]
theorem nG {d:DataW H}:∀ {l:List (DataW H)},d∈l->Rows.uptoBulk d<=Rows.uptoBulkAll l
 | [],h=>by cases h
 | x :: r,h=>by
  simp only [Rows.uptoBulkAll]
  rcases List.mem_cons.1 h with rfl | h
  ·
   omega
  ·
   have:=nG h;omega
theorem xk:∀ l:List (DataW H),l.length<=Rows.uptoBulkAll l
 | []=>by simp [Rows.uptoBulkAll]
 | x :: r=>by have:=Sl x;have:=xk r;simp only [Rows.uptoBulkAll,List.length_cons];omega
theorem yJ {d:DataW H}{n:Nat}(h:Om d n):n<=Rows.uptoBulk d:=by
 rcases h with ⟨rfl,h0⟩ | ⟨el,sp,rfl,h0⟩
 ·
  omega
 ·
  have:=xk el;simp only [Rows.uptoBulk];omega
def Sm (P:Program)(S:List TypeId)(t:TypeId):Bool :=
 match P.underlying t with
 | some (.slice e)=>S.contains e && decide (P.bytesOf e<=64)
 | some (.struct fs)=>fs.toList.all fun f=>S.contains f.type
 | some (.int _)=>true
 | some .string=>true
 | _=>false
theorem yK {P:Program}{e:TypeId}{x:Nat}:∀ {l:List (DataW H)},x∈DataW.weightsAll P e l->∃ d∈l,x∈d.weights P e
 | [],h=>by simp [DataW.weightsAll] at h
 | d :: r,h=>by
  simp only [DataW.weightsAll,List.mem_append] at h
  rcases h with h | h
  ·
   exact ⟨d,List.mem_cons_self,h⟩
  ·
   obtain ⟨y,h1,h2⟩:=yK h;exact ⟨y,List.mem_cons_of_mem _ h1,h2⟩
theorem Bz {P:Program}{x:Nat}:∀ {ts:List TypeId} {l:List (DataW H)},x∈DataW.weightsEach P ts l->∃ d∈l,∃ t∈ts,x∈d.weights P t
 | [],l,h=>by cases l <;> simp [DataW.weightsEach] at h
 | t :: ts,[],h=>by simp [DataW.weightsEach] at h
 | t :: ts,d :: r,h=>by
  simp only [DataW.weightsEach,List.mem_append] at h
  rcases h with h | h
  ·
   exact ⟨d,List.mem_cons_self,t,List.mem_cons_self,h⟩
  ·
   obtain ⟨y,h1,u,h2,h3⟩:=Bz h;exact ⟨y,List.mem_cons_of_mem _ h1,u,List.mem_cons_of_mem _ h2,h3⟩
theorem LW {P:Program}{S:List TypeId}(hS:∀ t∈S,Sm P S t=true):∀ (n:Nat) (d:DataW H) (t:TypeId),SizeOf.sizeOf d<=n->t∈S->∀ x∈d.weights P t,x<=Rows.uptoBulk d*64
 | 0,d,_,hn,_,_,_=>by cases d <;> simp at hn
 | n+1,d,t,hn,ht,x,hx=>by
  have hs:=hS t ht;unfold Sm at hs;cases d with
  | lit l =>
   cases l with
   | string b =>
    simp [DataW.weights] at hx;simp only [Rows.uptoBulk];omega
   | _=>simp [DataW.weights] at hx
  | nil=>simp [DataW.weights] at hx
  | ptr d =>
   simp only [DataW.weights] at hx
   split at hx
   ·
    rename_i e he
    rw [he] at hs;simp at hs
   ·
    cases hx
  | slice el sp =>
   simp only [DataW.weights] at hx
   split at hx
   ·
    rename_i e he
    rw [he] at hs;simp only [Bool.and_eq_true,List.contains_iff_mem,decide_eq_true_eq] at hs;simp only [Rows.uptoBulk];have l1:=xk el;have l2:=xk sp
    rcases List.mem_cons.1 hx with rfl | hx
    ·
     have h1:(el.length+sp.length)*P.bytesOf e<=(el.length+sp.length)*64:=Nat.mul_le_mul_left _ hs.2;omega
    ·
     rcases List.mem_append.1 hx with hx | hx
     ·
      obtain ⟨y,hy,hxy⟩:=yK hx;have:=List.sizeOf_lt_of_mem hy;have h1:=LW hS n y e (by simp at hn;omega) hs.1 x hxy;have:=nG hy;omega
     ·
      obtain ⟨y,hy,hxy⟩:=yK hx;have:=List.sizeOf_lt_of_mem hy;have h1:=LW hS n y e (by simp at hn;omega) hs.1 x hxy;have:=nG hy;omega
   ·
    cases hx
  | agg ps =>
   simp only [DataW.weights] at hx
   split at hx
   ·
    rename_i fs he
    rw [he] at hs;simp only [List.all_eq_true,List.contains_iff_mem] at hs;obtain ⟨y,hy,u,hu,hxy⟩:=Bz hx;obtain ⟨f,hf,rfl⟩:=List.mem_map.1 hu;have:=List.sizeOf_lt_of_mem hy;have h1:=LW hS n y f.type (by simp at hn;omega) (hs f hf) x hxy;have:=nG hy;simp only [Rows.uptoBulk];omega
   ·
    rename_i e he
    rw [he] at hs;simp at hs
   ·
    cases hx
  | iface u d=>simp [DataW.weights] at hx
  | map es =>
   simp only [DataW.weights] at hx
   split at hx
   ·
    rename_i k e he
    rw [he] at hs;simp at hs
   ·
    cases hx
  | held h=>simp [DataW.weights] at hx
theorem BZ {P:Program}{S:List TypeId}(hS:S.all (Sm P S)=true){d:DataW H}{t:TypeId}(ht:t∈S)(hb:Rows.uptoBulk d<=1048576):Light P t d:=fun x hx=>by
 have h:=LW (fun t ht=>List.all_eq_true.1 hS t ht) _ d t (Nat.le_refl _) ht x hx;have h2:reachBytes=140737488351232:=rfl;omega
end
section
variable {H:Type} {enc:TypeId × Value->H} {W:World}
theorem tN:Tryz.prog.cellsOf 9=1:=by kernel_rfl
theorem Sn:Tryz.prog.cellsOf 54=1:=by kernel_rfl
theorem yL {fuel:Nat}{x:Value}{y:DataW H × List MemPlace}(h:gM enc W fuel 9 [x] y):∃ s:ByteArray,x=.string s/\(Light Tryz.prog 9 y.1->s.size<=4611686018427387904):=by
 obtain ⟨s,h1,h2,_⟩:=DataW.trod_string Tryz.underlying9 h;refine ⟨s,by simpa using h1,fun hL=>?_⟩;have:=hL s.data.toList.length (by rw [h2];simp [DataW.weights]);have h3:=yI;have h4:s.data.toList.length=s.size:=by simp
 omega
theorem LX {fuel:Nat}{cs:List Value}{y:DataW H × List MemPlace}(hl:cs.length=3)(h:gM enc W fuel 79 cs y):∃ a:fF,Cc W a cs/\(Light Tryz.prog 79 y.1->a.name.size<=4611686018427387904):=by
 obtain ⟨xs,n,_,rfl,_,hlen,hf⟩:=DataW.trod_struct Tryz.underlying79 h
 match cs,hl,xs,hlen with
 | [x0,x1,x2],_,[y0,y1,y2],_ =>
  have h0:gM enc W n 9 [x0] y0:=by simpa [tN] using hf 0 _ rfl
  have h1:gM enc W n 3 [x1] y1:=by simpa [kC] using hf 1 _ rfl
  have h2:gM enc W n 3 [x2] y2:=by simpa [kC] using hf 2 _ rfl
  obtain ⟨s,rfl,s2⟩:=yL h0;obtain ⟨n1,rfl⟩:=vQ h1;obtain ⟨n2,rfl⟩:=vQ h2;exact ⟨⟨s,n1,n2⟩,rfl,fun hL=>s2 (jb Tryz.underlying79 (xs:=[y0,y1,y2]) hL (i:=0) rfl rfl)⟩
theorem uF:Tryz.prog.cellsOf 22=1/\Tryz.prog.cellsOf 23=1/\Tryz.prog.cellsOf 24=1:=⟨by kernel_rfl,by kernel_rfl,by kernel_rfl⟩
theorem Iq {fuel:Nat}{x:Value}{y:DataW H × List MemPlace}(h:gM enc W fuel 27 [x] y):∃ l,Has W x (bB l)/\(∀ n∈l,Fits n)/\(Light Tryz.prog 27 y.1->l.length<=17600000000000):=by
 obtain ⟨l,h1,h2⟩:=oD Tryz.underlying27 Tryz.underlying3 kC h;refine ⟨l,h1.has,h1.fits,fun hL=>?_⟩;have:=hL.len h2 Tryz.underlying27;rw [Sk] at this;have h3:=yI;omega
theorem Oq {fuel:Nat}{cs:List Value}{y:DataW H × List MemPlace}(hl:cs.length=3)(h:gM enc W fuel 56 cs y):∃ a:fE,DY W a cs/\(Light Tryz.prog 56 y.1->(a.name.size<=4611686018427387904/\a.params.length<=17600000000000)/\∀ n∈a.params,Fits n):=by
 obtain ⟨xs,n,_,rfl,_,hlen,hf⟩:=DataW.trod_struct Tryz.underlying56 h
 match cs,hl,xs,hlen with
 | [x0,x1,x2],_,[y0,y1,y2],_ =>
  have h0:gM enc W n 9 [x0] y0:=by simpa [tN] using hf 0 _ rfl
  have h1:gM enc W n 54 [x1] y1:=by simpa [Sn] using hf 1 _ rfl
  have h2:gM enc W n 27 [x2] y2:=by simpa [yH] using hf 2 _ rfl
  obtain ⟨s,rfl,s2⟩:=yL h0;obtain ⟨tg,t1,_⟩:=DataW.trod_int Tryz.underlying54 h1;obtain rfl:x1=.int .u8 tg:=by simpa using t1
  obtain ⟨l,l1,l3,l2⟩:=Iq h2;exact ⟨⟨s,tg,l⟩,⟨x2,rfl,l1⟩,fun hL=>⟨⟨s2 (jb Tryz.underlying56 (xs:=[y0,y1,y2]) hL (i:=0) rfl rfl),l2 (jb Tryz.underlying56 (xs:=[y0,y1,y2]) hL (i:=2) rfl rfl)⟩,l3⟩⟩
theorem Sq {fuel:Nat}{cs:List Value}{y:DataW H × List MemPlace}(hl:cs.length=5)(h:gM enc W fuel 68 cs y):∃ a:jw,KL W a cs/\(Light Tryz.prog 68 y.1->a.start.length<=17600000000000/\∀ n∈a.start,Fits n):=by
 obtain ⟨xs,n,_,rfl,_,hlen,hf⟩:=DataW.trod_struct Tryz.underlying68 h
 match cs,hl,xs,hlen with
 | [x0,x1,x2,x3,x4],_,[y0,y1,y2,y3,y4],_ =>
  have h0:gM enc W n 3 [x0] y0:=by simpa [kC] using hf 0 _ rfl
  have h1:gM enc W n 3 [x1] y1:=by simpa [kC] using hf 1 _ rfl
  have h2:gM enc W n 3 [x2] y2:=by simpa [kC] using hf 2 _ rfl
  have h3:gM enc W n 3 [x3] y3:=by simpa [kC] using hf 3 _ rfl
  have h4:gM enc W n 27 [x4] y4:=by simpa [yH] using hf 4 _ rfl
  obtain ⟨n0,rfl⟩:=vQ h0;obtain ⟨n1,rfl⟩:=vQ h1;obtain ⟨n2,rfl⟩:=vQ h2;obtain ⟨n3,rfl⟩:=vQ h3;obtain ⟨l,l1,l3,l2⟩:=Iq h4;exact ⟨⟨n0,n1,n2,n3,l⟩,⟨x4,rfl,l1⟩,fun hL=>⟨l2 (jb Tryz.underlying68 (xs:=[y0,y1,y2,y3,y4]) hL (i:=4) rfl rfl),l3⟩⟩
theorem Sr {fuel:Nat}{x0 x1 x2 x3 x4:Value}{y:DataW H × List MemPlace}(h:gM enc W fuel 26 [x0,x1,x2,x3,x4] y):∃ g,dK W (.agg #[x0,x1,x2,x3,x4]) g/\(Light Tryz.prog 26 y.1->mO g/\(∀ a∈g.actors,∀ n∈a.params,Fits n)/\(∀ e∈g.edges,∀ n∈e.start,Fits n)/\g.ins.length<=5000000000000):=by
 obtain ⟨xs,n,_,hx,_,hlen,hf⟩:=DataW.trod_struct Tryz.underlying26 h
 match xs,hlen with
 | [y0,y1,y2,y3,y4],_ =>
  have h0:gM enc W n 9 [x0] y0:=by simpa [tN,Value.cells] using hf 0 _ rfl
  have h1:gM enc W n 22 [x1] y1:=by simpa [uF.1,Value.cells] using hf 1 _ rfl
  have h2:gM enc W n 23 [x2] y2:=by simpa [uF.2.1,Value.cells] using hf 2 _ rfl
  have h3:gM enc W n 24 [x3] y3:=by simpa [uF.2.2,Value.cells] using hf 3 _ rfl
  have h4:gM enc W n 24 [x4] y4:=by simpa [uF.2.2,Value.cells] using hf 4 _ rfl
  have hd:y.1=.agg ([y0,y1,y2,y3,y4].map (·.1)):=congrArg Prod.fst hx;obtain ⟨s,rfl,s2⟩:=yL h0;obtain ⟨la,a1,a2⟩:=uE (sz:=3) Tryz.underlying22 (by kernel_rfl) (by decide) (fun fuel cs y=>Oq) h1;obtain ⟨le,e1,e2⟩:=uE (sz:=5) Tryz.underlying23 (by kernel_rfl) (by decide) (fun fuel cs y=>Sq) h2;obtain ⟨li,i1,i2⟩:=uE (sz:=3) Tryz.underlying24 (by kernel_rfl) (by decide) (fun fuel cs y=>LX) h3;obtain ⟨lo,o1,o2⟩:=uE (sz:=3) Tryz.underlying24 (by kernel_rfl) (by decide) (fun fuel cs y=>LX) h4;refine ⟨⟨s,la,le,li,lo⟩,⟨_,_,_,_,rfl,a1,e1,i1,o1⟩,fun hL=>?_⟩;rw [hd] at hL;have s3:=s2 (jb Tryz.underlying26 hL (i:=0) rfl rfl);have a3:=a2 (jb Tryz.underlying26 hL (i:=1) rfl rfl);have e3:=e2 (jb Tryz.underlying26 hL (i:=2) rfl rfl);have i3:=i2 (jb Tryz.underlying26 hL (i:=3) rfl rfl);have o3:=o2 (jb Tryz.underlying26 hL (i:=4) rfl rfl);exact ⟨⟨s3,fun a ha=>(a3.2 a ha).1,i3.2,o3.2⟩,fun a ha=>(a3.2 a ha).2,fun e he=>(e3.2 e he).2,by
   have:=i3.1;rw [show Tryz.prog.bytesOf 79=32 by kernel_rfl,yI] at this;show li.length<=_
   omega⟩
theorem BA {α:Type}{R:World->α->List Value->Prop}{Z:α->Prop}{t e:TypeId}{sz:Nat}{fuel:Nat}{x:Value}{y:DataW H × List MemPlace}(ht:Tryz.prog.underlying t=some (.slice e))(hc:Tryz.prog.cellsOf e=sz)(hsz:0 < sz)
  (el:∀ (fuel:Nat) (cs:List Value) (y:DataW H × List MemPlace),cs.length=sz->gM enc W fuel e cs y->∃ a:α,R W a cs/\(Rows.uptoBulk y.1<=1048576->Z a)) (h:gM enc W fuel t [x] y) :
  ∃ l:List α,pU W sz R x l/\(Rows.uptoBulk y.1<=1048576->l.length<=1048576/\∀ a∈l,Z a):=by
 rcases open_slice ht h with ⟨hcs',hx⟩ | ⟨a,len,cap,m,n,D,Pl,hcs',_,hl,hm,hmm,hx,hel⟩
 ·
  obtain rfl:x=.slice none 0 0:=List.head_eq_of_cons_eq hcs';exact ⟨[],.inl ⟨rfl,_,_,rfl⟩,fun _=>⟨by simp,by simp⟩⟩
 ·
  obtain rfl:=List.head_eq_of_cons_eq hcs';simp at hmm;have each:∀ j,j < len->∃ q:α × List Value,q.2.length=sz/\R W q.1 q.2/\(Rows.uptoBulk (D j)<=1048576->Z q.1)/\∀ i,i < sz->W.cell? ((a.add (j*sz)).add i)=some (q.2[i]?.getD undef):=by
   intro j hj;obtain ⟨cs',hcells,htr⟩:=hel j (by omega);rw [hc] at hcells;obtain ⟨_,hll,hev⟩:=World.cells?_some hcells;obtain ⟨q,h1,h2⟩:=el _ _ _ hll htr;exact ⟨(q,cs'),hll,h1,h2,fun i hi=>(hev i hi).trans (Ip hll hi)⟩
  by_cases hp:0 < len
  ·
   haveI:Inhabited (α × List Value):=⟨(each 0 hp).choose⟩
   obtain ⟨Q,hQ⟩:=choose_lt (α:=α × List Value) (p:=fun j q=>q.2.length=sz/\R W q.1 q.2/\(Rows.uptoBulk (D j)<=1048576->Z q.1)/\∀ i,i < sz->W.cell? ((a.add (j*sz)).add i)=some (q.2[i]?.getD undef)) each;have hd:y.1=_:=congrArg Prod.fst hx;refine ⟨(List.range len).map fun j=>(Q j).1,.inr ?_,fun hL=>⟨Nat.le_trans (yJ (d:=y.1) (n:=((List.range len).map fun j=>(Q j).1).length) (.inr ⟨_,_,hd,by simp⟩)) hL,fun z hz=>?_⟩⟩;rotate_left
   ·
    simp only [List.mem_map,List.mem_range] at hz;obtain ⟨j,hj,rfl⟩:=hz;exact (hQ j hj).2.2.1 (by
     rw [hd] at hL;have:=nG (List.mem_map.2 ⟨j,List.mem_range.2 hj,rfl⟩:D j∈(List.range len).map D);simp only [Rows.uptoBulk] at hL;omega)
   have hsp:a.spot=none:=by
    have:=World.cell?_spot ((hQ 0 hp).2.2.2 0 hsz)
    simpa [Addr.add] using this
   obtain ⟨b,off,spot⟩:=a;simp at hsp;subst hsp;refine ⟨by simpa using hp,b,off,cap,by simp,by simp;omega,?_,fun k hk=>?_⟩
   ·
    have:=World.block_lt_of_cell? _ _ ((hQ 0 hp).2.2.2 0 hsz)
    simpa [Addr.add] using this
   ·
    have hk':k < len:=by simpa using hk
    obtain ⟨e1,e2,_,e4⟩:=hQ k hk';refine ⟨(Q k).2,e1,by simpa [hk'] using e2,fun i hi=>?_⟩;have:=e4 i hi;simp only [Addr.add_lit] at this;exact this
  ·
   obtain rfl:len=0:=by omega
   exact ⟨[],.inl ⟨rfl,some a,cap,rfl⟩,fun _=>⟨by simp,by simp⟩⟩
theorem KG {v:Value}{d:DataW H}{p:List MemPlace}(hv:∃ cs,v=.agg cs/\cs.size=Tryz.prog.cellsOf 26)(h:DataW.Trod enc Tryz.prog W 0 (fun _=>true) true 26 v d p)(hb:Rows.uptoBulk d<=1048576):∃ g,dK W v g/\mO g/\(∀ a∈g.actors,∀ n∈a.params,Fits n)/\(∀ e∈g.edges,∀ n∈e.start,Fits n):=by
 obtain ⟨cs,rfl,hsz⟩:=hv;obtain ⟨fuel,hf⟩:=h;rw [show Tryz.prog.cellsOf 26=5 by kernel_rfl] at hsz;obtain ⟨l⟩:=cs
 match l,hsz with
 | [x0,x1,x2,x3,x4],_ =>
  obtain ⟨g,g1,g2⟩:=Sr (y:=(d,p)) (by simpa [Value.cells] using hf);have g3:=g2 (BZ (S:=[26,9,22,23,24,56,68,79,54,3,27]) (by kernel_rfl) (by simp) hb);exact ⟨g,g1,g3.1,g3.2.1,g3.2.2.1⟩
theorem abm {fuel:Nat}{cs:List Value}{y:DataW H × List MemPlace}(hl:cs.length=3)(h:gM enc W fuel 45 cs y):∃ a:ZC,(OpR W a cs/\Fits a.n/\∀ x∈a.xs,Fits x)/\(Rows.uptoBulk y.1<=1048576->a.xs.length<=1048576):=by
 obtain ⟨xs,n,_,hx,_,hlen,hf⟩:=DataW.trod_struct Tryz.underlying45 h
 match cs,hl,xs,hlen with
 | [x0,x1,x2],_,[y0,y1,y2],_ =>
  have h0:gM enc W n 3 [x0] y0:=by simpa [kC] using hf 0 _ rfl
  have h1:gM enc W n 3 [x1] y1:=by simpa [kC] using hf 1 _ rfl
  have h2:gM enc W n 27 [x2] y2:=by simpa [yH] using hf 2 _ rfl
  have hd:y.1=.agg ([y0,y1,y2].map (·.1)):=congrArg Prod.fst hx;obtain ⟨wh,rfl⟩:=vQ h0;obtain ⟨m,e1,e2⟩:=DataW.trod_int Tryz.underlying3 h1;obtain rfl:x1=.int .i64 m:=by simpa using e1
  obtain ⟨l,l1,l2⟩:=oD Tryz.underlying27 Tryz.underlying3 kC h2;refine ⟨⟨wh,m,l⟩,⟨⟨x2,rfl,l1.has⟩,wf_i64 e2.2,l1.fits⟩,fun hb=>?_⟩;rw [hd] at hb;have h3:=yJ l2;have h4:=nG (d:=y2.1) (l:=[y0,y1,y2].map (·.1)) (by simp);simp only [Rows.uptoBulk] at hb;show l.length<=_
  omega
theorem Sv {v:Value}{d:DataW H}{p:List MemPlace}(hv:∃ a len cap,v=.slice a len cap)(h:DataW.Trod enc Tryz.prog W 0 (fun _=>true) true 28 v d p)(hb:Rows.uptoBulk d<=1048576) :
  ∃ L:List ZC,pU W 3 OpR v L/\L.length<=1048576/\∀ c∈L,Fits c.n/\c.xs.length<=1048576/\∀ x∈c.xs,Fits x:=by
 obtain ⟨a,len,cap,rfl⟩:=hv;obtain ⟨fuel,hf⟩:=h;obtain ⟨L,l1,l2⟩:=BA (R:=fun W (a:ZC) cs=>OpR W a cs/\Fits a.n/\∀ x∈a.xs,Fits x) (Z:=fun a:ZC=>a.xs.length<=1048576) (sz:=3) (y:=(d,p)) (x:=.slice a len cap) Tryz.underlying28 (by kernel_rfl) (by decide) (fun fuel cs y=>abm) (fuel:=fuel) (by simpa [Value.cells] using hf);have hw:=l2 hb;refine ⟨L,?_,hw.1,?_⟩
 ·
  rcases l1 with h | ⟨hp,b,off,cap,e,h1,h2,hel⟩
  ·
   exact .inl h
  ·
   exact .inr ⟨hp,b,off,cap,e,h1,h2,fun k hk=>by
    obtain ⟨cs,k1,k2,k3⟩:=hel k hk;exact ⟨cs,k1,k2.1,k3⟩⟩
 rcases l1 with ⟨rfl,-⟩ | ⟨-,b,off,cap,-,-,-,hel⟩
 ·
  simp
 ·
  intro c hc;obtain ⟨i,hi,rfl⟩:=List.mem_iff_getElem.1 hc;obtain ⟨cs,-,h2,-⟩:=hel i hi;exact ⟨h2.2.1,hw.2 _ hc,h2.2.2⟩
end
end Go.Proofs.YtepjkmnhmcjbkaaGreat
namespace Go.Proofs.YtepjkmnhmcjbkaaGreat.dynPlays
open Go.ChangeShapes Go.WideShapes Go.ChangeAt Go.RowKit
open Go.ChangeMaps (open_string shut_string)
theorem own:ownKnob Tryz.prog.godebug=none:=by kernel_rfl
theorem laidOut:laidOutB Tryz.prog=true:=by kernel_rfl
theorem contract (H:Type)(enc:TypeId × Value->H)(W:World)(base:Nat)(args:Array Value)(ds gs:List (DataW H))(before:List MemPlace)
  (hval:∀ (j:Nat) t v,Tryz.f3.params[j]?=some t->args[j]?=some v->Value.okWide Tryz.prog W .any base t v)
  (hW:DataW.Whole enc Tryz.prog Tryz.f3.params.toList Rows.dynPlaysSpec.vars false W args.toList ds gs before) (hk:Rows.uptoSmall H (ds ++ gs)=true) :
  Calls Tryz.prog 3 args W fun e W'=>∃ v,e=.returned v/\Rows.dynPlaysSpec.post enc Tryz.prog Tryz.f3 false true false false W args v W':=by
 have hW':=hW;obtain ⟨p,q,Vz,hV,rfl,hfz,hnd⟩:=hW;have hA:DataW.TrodAll enc Tryz.prog W 0 (fun _=>true) true Tryz.f3.params.toList args.toList ds p:=Vz;rw [Tryz.params3] at hA hval;obtain ⟨v0,vs0,d0,ds0,p0,q0,hargs,rfl,rfl,h0,r0⟩:=trodAll_cons hA;obtain ⟨v1,vs1,d1,ds1,p1,q1,rfl,rfl,rfl,h1,r1⟩:=trodAll_cons r0;obtain ⟨v2,vs2,d2,ds2,p2,q2,rfl,rfl,rfl,h2,r2⟩:=trodAll_cons r1;obtain ⟨rfl,rfl,rfl⟩:=trodAll_nil r2;obtain rfl:args=#[v0,v1,v2]:=by cases args;simp_all
 obtain ⟨rfl,rfl⟩:=trodVars_none hV;have hB:Rows.uptoBulkAll [d0,d1,d2]<=1048576:=of_decide_eq_true (by simpa [Rows.uptoSmall] using hk);simp only [Rows.uptoBulkAll] at hB;have k0:=h0;have lt0:∀ x∈p0,x.block < W.heap.size:=by obtain ⟨m,hm⟩:=k0;exact DataW.trod_lt m _ _ _ hm
 have k1:=h1;have lt1:∀ x∈p1,x.block < W.heap.size:=by obtain ⟨m,hm⟩:=k1;exact DataW.trod_lt m _ _ _ hm
 have k2:=h2;have lt2:∀ x∈p2,x.block < W.heap.size:=by obtain ⟨m,hm⟩:=k2;exact DataW.trod_lt m _ _ _ hm
 obtain ⟨g0,i0,z0,fp0,fs0⟩:=KG (okWide_struct Tryz.underlying26 (hval 0 26 v0 rfl rfl)) h0 (by omega);obtain ⟨zs1,i1,l1⟩:=w9 Tryz.underlying27 Tryz.underlying3 (by kernel_rfl) (okWide_slice Tryz.underlying27 (hval 1 27 v1 rfl rfl)) h1;obtain ⟨os2,i2,l2,z2⟩:=Sv (okWide_slice Tryz.underlying28 (hval 2 28 v2 rfl rfl)) h2 (by omega);clear Vz;refine (E5 W v0 v1 v2 g0 zs1 os2 i0 z0 fp0 fs0 i1.has (by have:=yJ l1;omega) i1.fits i2 l2 z2).mono fun e W' ⟨he,bel⟩=>?_;subst he;exact ⟨_,rfl,_,_,_,[],_,[],hW',trodAll_mk1 (shut_bool Tryz.underlying4 _),(trodAll_cons_mk (Below.trod laidOut (by kernel_rfl) (of_decide_eq_true (by kernel_rfl)) k0 bel lt0) (trodAll_cons_mk (Below.trod laidOut (by kernel_rfl) (of_decide_eq_true (by kernel_rfl)) k1 bel lt1) (trodAll_cons_mk (Below.trod laidOut (by kernel_rfl) (of_decide_eq_true (by kernel_rfl)) k2 bel lt2) trodAll_mk0))),rfl,bel.frame _,fun h=>by cases h⟩
theorem lifted (os:Os)(started:os.Started)(H:Type)(enc:TypeId × Value->H)(F:Stop.Interp) :
  ReturnsInHanded {} Tryz.checked os 3 .any ((Rows.OpenSpec.upto Rows.dynPlaysSpec).pre6 enc Tryz.prog Tryz.f3 Rows.dynPlaysUptoRow.domain false) (((Rows.OpenSpec.upto Rows.dynPlaysSpec).at F).post enc Tryz.prog Tryz.f3 false true false false):=by
 refine returnsInHanded_of_cond (C:=Tryz.checked) (s:=Rows.OpenSpec.upto Rows.dynPlaysSpec) (k:=Rows.uptoSmall) rfl own started (by kernel_rfl) Tryz.func3
  (OpenSpec.witness (enc:=enc) (C:=Tryz.checked) (s:=Rows.OpenSpec.upto Rows.dynPlaysSpec) (k:=Rows.uptoSmall) rfl false ⟨#[],#[.agg #[.string ByteArray.empty,.slice none 0 0,.slice none 0 0,.slice none 0 0,.slice none 0 0],.slice none 0 0,.slice none 0 0],[]⟩ 8 (by kernel_rfl) (by kernel_rfl) (by kernel_rfl)
   (x:=([.agg [.lit (.string []),.nil,.nil,.nil,.nil],.nil,.nil],[],[])) (by kernel_rfl) rfl (by kernel_rfl)) ?_
 intro W base args ds gs before hval hW _ hk _;exact contract H enc W base args ds gs before hval hW hk
theorem proved:Rows.DynPlaysUptoSaid :=
 OpenClaim.holds_of_cond 3 Tryz.f3 rfl rfl rfl rfl rfl rfl rfl ⟨rfl,rfl,rfl,rfl,rfl⟩ rfl rfl rfl rfl rfl (by kernel_rfl) Tryz.func3 (by kernel_rfl)
  (of_decide_eq_true (by kernel_rfl)) (by unfold Func.isWrapper;first | (rw [if_pos (by decide +kernel)];kernel_rfl) | (rw [if_neg (by decide +kernel)];exact ⟨rfl,rfl⟩))
  (fun os started H enc _ F=>lifted os started H enc F)
end Go.Proofs.YtepjkmnhmcjbkaaGreat.dynPlays
