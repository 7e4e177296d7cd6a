/- The law 'pianola SvmRuns' (upto): for every input it returns true, and what it was handed reads as before. The frame: arguments opened, the walk called, arguments shut. -/
import Derived.Test.YtpdlngonocancaaGreatSvmRunsZ10
import Derived.Test.YtpdlngonocancaaGreatSvmRunsZ9
import Derived.Test.YtpdlngonocancaaGreatSvmRunsZ8
import Derived.Test.YtpdlngonocancaaGreatSvmRunsZ2
import Derived.Deep.Slices
import Derived.SizedLaws
import Derived.WalkKit
import Derived.ProofKit
import Derived.OpenShut
import Derived.ChangeOld
import Derived.Below
import Derived.Test.YtpdlngonocancaaGreatRows
import Derived.Test.YtpdlngonocancaaGreatSvmRunsZ3
import Derived.ShutString
import Derived.JoinedCond
set_option linter.unusedVariables false
set_option linter.unusedSimpArgs false
set_option maxRecDepth 100000
set_option maxHeartbeats 20000000
namespace Go.Proofs.YtpdlngonocancaaGreat
open Go.RowKit
theorem IL:(Tryz.prog.info? 42).map (fun i=>(i.zero,i.size,i.bytes))=some (some (.slice none 0 0),1,24):=by kernel_rfl
theorem tC {α:Type}{tl:α→List Int}{w:World}{o:Col}{c:Nat}{ps:List (α × Value)}{rs:List (Value × List Int)}(h:jR w o c rs)(hs:∀ x∈rowsOf tl ps,x∈rs):∀ x∈ps,∃ a n k,x.2=.slice a n k:=fun x hx=>by
 obtain ⟨a,k,e⟩:=(h.own _ (hs (x.2,tl x.1) (List.mem_map.2 ⟨x,hx,rfl⟩))).slice;exact ⟨a,_,k,e⟩
theorem qG {α:Type}{ps:List (α × Value)}(h:∀ x∈ps,∃ a n k,x.2=.slice a n k):∀ u∈ps.map Prod.snd,u.oneCell'=true:=fun u hu=>by
 obtain ⟨x,hx,rfl⟩:=List.mem_map.1 hu;obtain ⟨a,n,k,e⟩:=h x hx;rw [e];rfl
theorem IQ {l m:List Value}(h:∀ u∈l,u.oneCell'=true)(h':∀ u∈m,u.oneCell'=true):∀ u∈l ++ m,u.oneCell'=true:=fun u hu=>(List.mem_append.1 hu).elim (h u) (h' u)
theorem IU {w:World}{base e n cap:Nat}{ao:Option Addr}{vs:List Value}(h:w.ownsRow base e 1 (.slice ao n cap) vs.length vs):n=vs.length∧(ao=none→vs.length=0)∧∀ ad,ao=some ad→∀ j u,vs[j]?=some u→w.cell? (ad.add j)=some u:=by
 have ho:Own w (fun _=>0) 0 e 1 (.slice ao n cap) vs.length vs:=⟨bG h (fun _ _=>Nat.zero_le _),fun _ _=>rfl⟩;have hv:=ho.vals;obtain rfl:=hv.len;exact ⟨rfl,hv.news⟩
theorem Turn.aaz {o o1 o2:Col}{C:Nat→Prop}{w w1:World}(h:Turn o o1 C w w1)(ho:∀ k,k < w.heap.size→o2 k=o1 k):Turn o o2 C w w1:=⟨h.mods,fun k hk=>(ho k hk).trans (h.same k hk)⟩
def Ua (w:World)(o:Col)(e:Ending)(w':World):Prop:=e=.returned (.bool true)∧∃ o',Turn o o' mr w w'
theorem CF (w:World)(o:Col)(p0 p1 p2 p3 q0 q1 q2 q3:Int)(vp vl vo Cw Cx ze:Value)(ps ps':List (eu × Value))(ls ls':List (dN × Value))(os os':List fG)(h:wE w o vp vl vo Cw Cx ze ps ps' ls ls' os os')(b1:ps.length≤1048576)(b2:ls.length≤1048576)(b3:os.length≤1048576)(b4:ps'.length≤1048576)(b5:ls'.length≤1048576)(b6:os'.length≤1048576)
  (hx:∀ x∈(rowsOf eu.params ps ++ rowsOf dN.start ls) ++ (rowsOf eu.params ps' ++ rowsOf dN.start ls'),x.2.length≤17600000000000) :
  Calls Tryz.prog 10 #[.agg #[.int .i64 p0,.int .i64 p1,.int .i64 p2,.int .i64 p3,vp,vl,vo],.agg #[.int .i64 q0,.int .i64 q1,.int .i64 q2,.int .i64 q3,Cw,Cx,ze]] w (Ua w o):=by
 obtain ⟨j0,ji,Un,jz1,Uo⟩:=info_parts IL;have hb1:=au w (.cells #[.int .i64 p0,.int .i64 p1,.int .i64 p2,.int .i64 p3,vp,vl,vo] 26);have T1:=Turn.of_below o 1 hb1;have hA:dY _ (ext o w.heap.size 1) 1 _ _ _:=⟨heap_alloc_new w (.cells #[.int .i64 p0,.int .i64 p1,.int .i64 p2,.int .i64 p3,vp,vl,vo] 26),aW (Nat.le_refl _)⟩;obtain ⟨ap,xp,rfl⟩:=h.p.slice;obtain ⟨al,xl,rfl⟩:=h.l.slice;obtain ⟨ao,xo,rfl⟩:=h.q.slice;obtain ⟨Ow,xp',rfl⟩:=h.p'.slice;obtain ⟨al',YX,rfl⟩:=h.l'.slice;obtain ⟨KN,Xw,rfl⟩:=h.q'.slice;generalize hW1:w.alloc (.cells #[.int .i64 p0,.int .i64 p1,.int .i64 p2,.int .i64 p3,.slice ap ps.length xp,.slice al ls.length xl,.slice ao os.length xo] 26)=W1 at *;have hs1:W1.heap.size=w.heap.size+1:=by rw [← hW1];simp
 have T2:=Turn.of_below (ext o w.heap.size 1) 1 (au W1 (.cells #[.int .i64 q0,.int .i64 q1,.int .i64 q2,.int .i64 q3,.slice Ow ps'.length xp',.slice al' ls'.length YX,.slice KN os'.length Xw] 26));have hB:dY _ (ext (ext o w.heap.size 1) W1.heap.size 1) 1 _ _ _:=⟨heap_alloc_new W1 (.cells #[.int .i64 q0,.int .i64 q1,.int .i64 q2,.int .i64 q3,.slice Ow ps'.length xp',.slice al' ls'.length YX,.slice KN os'.length Xw] 26),aW (Nat.le_refl _)⟩;generalize hW2:W1.alloc (.cells #[.int .i64 q0,.int .i64 q1,.int .i64 q2,.int .i64 q3,.slice Ow ps'.length xp',.slice al' ls'.length YX,.slice KN os'.length Xw] 26)=W2 at *;have hs2:W2.heap.size=w.heap.size+2:=by rw [← hW2,World.size_alloc,hs1]
 have HT:=Lib.hid (T1.trans T2 (fun _ h=>h));have HA:=Lib.hid (hA.turn T2 (fun h=>h));have HB:=Lib.hid hB;have RS:=Lib.hid ((h.turn T1 (fun _ _ h=>h)).turn T2 (fun _ _ h=>h));rw [hs1] at HB HT HA RS;generalize ext (ext o w.heap.size 1) (w.heap.size+1) 1=o2 at *;have HX:=Lib.hid hx;have mV:=Lib.hid (fun x hx B (hB:x.1.ownBlock=some B)=>((h.rows.own x hx).1.lt B hB).2);have HS:=Lib.hid (tC (tl:=eu.params) (ps:=ps) RS.out.rows (fun x hx=>by simp [hx]));have HS2:=Lib.hid (tC (tl:=dN.start) (ps:=ls) RS.out.rows (fun x hx=>by simp [hx]));have Yf:=Lib.hid (tC (tl:=eu.params) (ps:=ps') RS.out.rows (fun x hx=>by simp [hx]));have Yg:=Lib.hid (tC (tl:=dN.start) (ps:=ls') RS.out.rows (fun x hx=>by simp [hx]));clear hb1 T1 hA T2 hB h hx;have y0:=HA.out.cell 0 _ rfl;have y1:=HA.out.cell 1 _ rfl;have y2:=HA.out.cell 2 _ rfl;have y3:=HA.out.cell 3 _ rfl;have y4:=HA.out.cell 4 _ rfl;have y5:=HA.out.cell 5 _ rfl;have y6:=HA.out.cell 6 _ rfl;simp only [List.getElem_toArray,List.getElem_cons_succ,List.getElem_cons_zero] at y0 y1 y2 y3 y4 y5 y6
 go_enter Tryz.func10,Tryz.ntmps10
 go_wp2_with fail
 refine (zh (hp:=iU) (hl:=iV) W2 p0 p1 p2 p3 _ _ _ ps ls (tu (fun _=>rfl) RS.out.p HS.out) (tu (fun _=>rfl) RS.out.l HS2.out) (by omega) (by omega)).mono ?_;rintro e W3 ⟨ra,rfl,hra,hb3⟩;obtain ⟨sr,cr,rfl⟩:=aB hra;obtain ⟨-,hnone,hnews⟩:=IU hra;have hvl:(ps.map Prod.snd ++ ls.map Prod.snd).length≤2097152:=by simp;omega
 have hone:=IQ (qG HS.out) (qG HS2.out);have hone':=IQ (qG Yf.out) (qG Yg.out);have adb:(ps'.map Prod.snd ++ ls'.map Prod.snd).length≤2097152:=by simp;omega
 obtain ⟨V,hV⟩:∃ x,ps.map Prod.snd ++ ls.map Prod.snd=x:=⟨_,rfl⟩
 obtain ⟨V',hV'⟩:∃ x,ps'.map Prod.snd ++ ls'.map Prod.snd=x:=⟨_,rfl⟩
 rw [hV] at hra hnone hnews hvl hone ⊢;rw [hV'] at adb hone';have HV:=Lib.hid hV;have HV':=Lib.hid hV';have lV:=Lib.hid hnone;have nu:=Lib.hid hnews;have abO:=Lib.hid hone;have YZ:=Lib.hid hone';have T3:=Turn.of_below o2 2 hb3;have HT3:=Lib.hid (HT.out.trans T3 (fun _ h=>h));have HA3:=Lib.hid (HA.out.turn T3 (fun h=>h));have HB3:=Lib.hid (HB.out.turn T3 (fun h=>h));have abP:=Lib.hid (RS.out.turn T3 (fun _ _ h=>h));have hs3:w.heap.size≤W3.heap.size:=HT3.out.size;clear hra hb3 hV hV' hone hone' hnone hnews T3 HT HA HB RS hW1 hW2 hs1 hs2 y0 y1 y2 y3 y4 y5 y6;generalize ext o2 W2.heap.size 2=o3 at *;clear o2
 go_wp2_with (at_builtin;refine aM ?_)
 refine bR ?_;refine aR rfl _ _ 63 rfl W3.heap.size 42 j0 _ 1 24 Tryz.underlying63 ji Un jz1 Uo rfl (.slice none 0 0) 0 [] rfl (World.ownsRow_nil W3 W3.heap.size 42 1) sr V.length cr V rfl (by simp) lV.out nu.out abO.out (by unfold maxLen;omega) (aZ (by omega)) (Nat.le_refl _) ?_;intro v4 W4 k1 k20 _ _;have k3:W4.ownsRow W3.heap.size 42 1 v4 V.length V:=by simpa using k1
 have hb4:Below W3.heap.size W3 W4:=Am ((aI.refl _ W3).grown k20 (fun b hb _=>by simp [Value.ownBlock] at hb));obtain ⟨s4,c4,rfl⟩:=aB k3;have T4:=Turn.of_below o3 3 hb4;have tZ:=Lib.hid (HT3.out.trans T4 (fun _ h=>h));have HA4:=Lib.hid (HA3.out.turn T4 (fun h=>h));have Dj:=Lib.hid (HB3.out.turn T4 (fun h=>h));have Xx:=Lib.hid (abP.out.turn T4 (fun _ _ h=>h));have YP:Hid (Own W4 (ext o3 W3.heap.size 3) 3 42 1 (.slice s4 V.length c4) V.length V∧∀ k,(Value.slice s4 V.length c4).ownBlock=some k→W3.heap.size≤k):=Lib.hid ⟨⟨bG k3 (fun _ _=>Nat.zero_le _),fun k hk=>aW (k3.lt k hk).1⟩,fun k hk=>(k3.lt k hk).1⟩;have hs4:W3.heap.size≤W4.heap.size:=hb4.size;clear k1 k20 k3 hb4 T4 HT3 HA3 HB3 abP lV nu;generalize ext o3 W3.heap.size 3=o4 at *;clear o3;have z0:=Dj.out.cell 0 _ rfl;have z1:=Dj.out.cell 1 _ rfl;have z2:=Dj.out.cell 2 _ rfl;have z3:=Dj.out.cell 3 _ rfl;have z4:=Dj.out.cell 4 _ rfl;have z5:=Dj.out.cell 5 _ rfl;have z6:=Dj.out.cell 6 _ rfl;simp only [List.getElem_toArray,List.getElem_cons_succ,List.getElem_cons_zero] at z0 z1 z2 z3 z4 z5 z6
 go_wp2_with fail
 refine (zh (hp:=iU) (hl:=iV) W4 q0 q1 q2 q3 _ _ _ ps' ls' (tu (fun _=>rfl) Xx.out.p' Yf.out) (tu (fun _=>rfl) Xx.out.l' Yg.out) (by omega) (by omega)).mono ?_;rintro e W5 ⟨rb,rfl,hrb,hb5⟩;obtain ⟨sb,cb,rfl⟩:=aB hrb;obtain ⟨-,hnone,hnews⟩:=IU hrb;rw [HV'.out] at hrb hnone hnews ⊢;have lV:=Lib.hid hnone;have nu:=Lib.hid hnews;have T5:=Turn.of_below o4 2 hb5;have uJ:=Lib.hid (tZ.out.trans T5 (fun _ h=>h));have HA5:=Lib.hid (HA4.out.turn T5 (fun h=>h));have Cm:=Lib.hid (Dj.out.turn T5 (fun h=>h));have abQ:=Lib.hid (Xx.out.turn T5 (fun _ _ h=>h));have YM:=Lib.hid (YP.out.1.turn T5 (fun h=>h));have HNB:=Lib.hid YP.out.2;have hs5:W4.heap.size≤W5.heap.size:=hb5.size;clear hrb hb5 hnone hnews T5 tZ HA4 Dj Xx YP z0 z1 z2 z3 z4 z5 z6;generalize ext o4 W4.heap.size 2=o5 at *;clear o4
 go_wp2_with (at_builtin;refine aM ?_)
 refine bR ?_;refine aR rfl _ _ 63 rfl W3.heap.size 42 j0 _ 1 24 Tryz.underlying63 ji Un jz1 Uo rfl (.slice s4 V.length c4) V.length V rfl (bG YM.out.1 (fun k hk=>HNB.out k hk)) sb V'.length cb V' rfl (by simp) lV.out nu.out YZ.out (by unfold maxLen;omega) (aZ (by omega)) (by omega) ?_;intro v6 W6 k1 k20 _ k4;obtain ⟨s6,c6,rfl⟩:=aB k1;have m6:aI (fun b=>(Value.slice s4 V.length c4).ownBlock=some b) W5 W6:=(aI.refl _ W5).grown k20 (fun b hb _=>hb);have T6:Turn o5 (ext o5 W5.heap.size 3) (fun x=>x=3) W5 W6:=Turn.gN o5 3 m6 (fun b _ hb=>YM.out.2 b hb);have mQ:Hid (Turn o (ext o5 W5.heap.size 3) (fun _=>False) w W6):=Lib.hid ((uJ.out.more m6 (fun k hk e=>by have:=HNB.out k e;omega)).aaz (fun k hk=>bX (by omega)));have HA6:=Lib.hid (HA5.out.turn T6 (by decide));have HB6:=Lib.hid (Cm.out.turn T6 (by decide));have CG:=Lib.hid (abQ.out.turn T6 (fun x hx e=>by subst e;unfold mr at hx;omega));have N8:=Lib.hid k1;have YO:Hid (∀ k,(Value.slice s6 (V.length+V'.length) c6).ownBlock=some k→ext o5 W5.heap.size 3 k=3∧W3.heap.size≤k):=Lib.hid fun k hk=>⟨by
  rcases k4 with k4 | k4
  ·
   rw [k4] at hk;exact (bX (YM.out.1.lt k hk).2).trans (YM.out.2 k hk)
  ·
   rw [k4] at hk;exact aW (by have:=Option.some.inj hk;omega),(k1.lt k hk).1⟩
 have hs6:W5.heap.size≤W6.heap.size:=m6.size;clear k1 k20 k4 m6 T6 uJ HA5 Cm abQ YM HNB lV nu abO YZ;generalize ext o5 W5.heap.size 3=o6 at *;clear o5;have Ij:Hid (jw W6 (fun k=>if (Value.slice s6 (V.length+V'.length) c6).ownBlock=some k then 5 else o6 k) 5 (.slice s6 (V.length+V'.length) c6) (((rowsOf eu.params ps ++ rowsOf dN.start ls) ++ (rowsOf eu.params ps' ++ rowsOf dN.start ls')).map Prod.snd)):=by
  have hf:((rowsOf eu.params ps ++ rowsOf dN.start ls) ++ (rowsOf eu.params ps' ++ rowsOf dN.start ls')).map Prod.fst=V ++ V':=by
   rw [List.map_append,List.map_append,List.map_append,qE,qE,qE,qE,HV.out,HV'.out]
  refine Lib.hid (LQ ⟨fun x hx=>⟨(CG.out.rows.own x hx).1,fun k hk=>?_⟩,CG.out.rows.Oz⟩ ?_ (fun x hx B hB hB2=>?_))
  ·
   show (if _ then 5 else o6 k)=5
   split
   ·
    rfl
   ·
    exact (CG.out.rows.own x hx).2 k hk
  ·
   rw [hf,List.length_append];exact ⟨bG N8.out (fun _ _=>Nat.zero_le _),fun k hk=>if_pos hk⟩
  ·
   have h1:=mV.out x hx B hB;have h2:=(YO.out B hB2).2;omega
 have HLEN:Hid ((((rowsOf eu.params ps ++ rowsOf dN.start ls) ++ (rowsOf eu.params ps' ++ rowsOf dN.start ls')).map Prod.snd).length≤5864062014805):=Lib.hid (by simp [rowsOf];omega);have HXL:Hid (∀ l∈((rowsOf eu.params ps ++ rowsOf dN.start ls) ++ (rowsOf eu.params ps' ++ rowsOf dN.start ls')).map Prod.snd,l.length≤17600000000000):=Lib.hid (fun l hl=>by
  obtain ⟨x,hx,rfl⟩:=List.mem_map.1 hl;exact HX.out x hx)
 clear N8
 go_wp2_with fail
 refine (Eb Ij.out HLEN.out HXL.out).mono ?_;rintro e W7 ⟨rfl,m7⟩;have Er:∀ k,(if (Value.slice s6 (V.length+V'.length) c6).ownBlock=some k then 5 else o6 k)=5→(o6 k=3∧W3.heap.size≤k)∨o6 k=5:=fun k hk=>by
  split at hk
  ·
   rename_i he
   exact .inl (YO.out k he)
  ·
   exact .inr hk
 have T7:Turn o6 (ext o6 W6.heap.size 0) (fun x=>x=3∨x=5) W6 W7:=Turn.gN o6 0 m7 (fun k _ hk=>(Er k hk).imp And.left id);have mW:Hid (Turn o (ext o6 W6.heap.size 0) mr w W7):=Lib.hid ⟨mQ.out.mods.trans m7 (fun _ _ h=>h.elim) (fun k hk h=>by
  rcases Er k h with h1 | h1
  ·
   omega
  ·
   rw [mQ.out.same k hk] at h1;exact .inr (.inl h1)),fun k hk=>(bX (by omega)).trans (mQ.out.same k hk)⟩
 have LC:=Lib.hid (HA6.out.turn T7 (by decide));have Nl:=Lib.hid (HB6.out.turn T7 (by decide));have P7:=Lib.hid (CG.out.p.turn T7 (by decide));have L7:=Lib.hid (CG.out.l.turn T7 (by decide));have Q7:=Lib.hid (CG.out.q.turn T7 (by decide));have P7':=Lib.hid (CG.out.p'.turn T7 (by decide));have L7':=Lib.hid (CG.out.l'.turn T7 (by decide));have Q7':=Lib.hid (CG.out.q'.turn T7 (by decide));have hs7:W6.heap.size≤W7.heap.size:=m7.size;clear m7 T7 Er mQ HA6 HB6 CG Ij HLEN HXL YO mV HX HS HS2 Yf Yg HV HV';generalize ext o6 W6.heap.size 0=o7 at *;clear o6;have y0:=LC.out.cell 0 _ rfl;have y1:=LC.out.cell 1 _ rfl;have y2:=LC.out.cell 2 _ rfl;have y3:=LC.out.cell 3 _ rfl;have y4:=LC.out.cell 4 _ rfl;have y5:=LC.out.cell 5 _ rfl;have y6:=LC.out.cell 6 _ rfl;simp only [List.getElem_toArray,List.getElem_cons_succ,List.getElem_cons_zero] at y0 y1 y2 y3 y4 y5 y6
 go_wp2_with fail
 refine (um W7 o7 4 6 8 (by decide) (by decide) (by decide) p0 p1 p2 p3 77 _ _ _ _ _ _ _ _ _ P7.out L7.out Q7.out (by decide) (by decide) (by omega) (by omega) (by omega)).mono ?_;rintro e W8 ⟨rfl,o8,T8,p8,l8,q8⟩;have yU:=Lib.hid (mW.out.trans T8 (fun x hx=>by unfold mr;omega));have HA8:=Lib.hid (LC.out.turn T8 (by decide));have LF:=Lib.hid (Nl.out.turn T8 (by decide));have P8:=Lib.hid p8;have L8:=Lib.hid l8;have Q8:=Lib.hid q8;have P8':=Lib.hid (P7'.out.turn T8 (by decide));have L8':=Lib.hid (L7'.out.turn T8 (by decide));have Q8':=Lib.hid (Q7'.out.turn T8 (by decide));clear T8 p8 l8 q8 mW LC Nl P7 L7 Q7 P7' L7' Q7' y0 y1 y2 y3 y4 y5 y6;have z0:=LF.out.cell 0 _ rfl;have z1:=LF.out.cell 1 _ rfl;have z2:=LF.out.cell 2 _ rfl;have z3:=LF.out.cell 3 _ rfl;have z4:=LF.out.cell 4 _ rfl;have z5:=LF.out.cell 5 _ rfl;have z6:=LF.out.cell 6 _ rfl;simp only [List.getElem_toArray,List.getElem_cons_succ,List.getElem_cons_zero] at z0 z1 z2 z3 z4 z5 z6
 go_wp2_with fail
 refine (um W8 o8 14 16 18 (by decide) (by decide) (by decide) q0 q1 q2 q3 78 _ _ _ _ _ _ _ _ _ P8'.out L8'.out Q8'.out (by decide) (by decide) (by omega) (by omega) (by omega)).mono ?_;rintro e W9 ⟨rfl,o9,T9,p9,l9,q9⟩;have Jf:=Lib.hid (yU.out.trans T9 (fun x hx=>by unfold mr;omega));have XA:=Lib.hid (HA8.out.turn T9 (by decide));have qK:=Lib.hid (LF.out.turn T9 (by decide));have P9:=Lib.hid (P8.out.turn T9 (by decide));have L9:=Lib.hid (L8.out.turn T9 (by decide));have Q9:=Lib.hid (Q8.out.turn T9 (by decide));have P9':=Lib.hid p9;have L9':=Lib.hid l9;have Q9':=Lib.hid q9;clear T9 p9 l9 q9 yU HA8 LF P8 L8 Q8 P8' L8' Q8' z0 z1 z2 z3 z4 z5 z6;have y0:=XA.out.cell 0 _ rfl;have y1:=XA.out.cell 1 _ rfl;have y2:=XA.out.cell 2 _ rfl;have y3:=XA.out.cell 3 _ rfl;have y4:=XA.out.cell 4 _ rfl;have y5:=XA.out.cell 5 _ rfl;have y6:=XA.out.cell 6 _ rfl;simp only [List.getElem_toArray,List.getElem_cons_succ,List.getElem_cons_zero] at y0 y1 y2 y3 y4 y5 y6
 go_wp2_with fail
 refine (Ec W9 o9 4 6 8 (by decide) (by decide) (by decide) p0 p1 p2 p3 77 79 _ _ _ _ _ _ P9.out L9.out Q9.out (by decide) (by decide) (by omega) (by omega) (by omega)).mono ?_;rintro e WA ⟨oA,cp,cl,cq,rfl,TA,gA⟩;have Hu:=Lib.hid (Jf.out.trans TA (fun x hx=>by unfold mr;omega));have HAA:=Lib.hid (XA.out.turn TA (by decide));have HBA:=Lib.hid (qK.out.turn TA (by decide));have PA':=Lib.hid (P9'.out.turn TA (by decide));have LA':=Lib.hid (L9'.out.turn TA (by decide));have QA':=Lib.hid (Q9'.out.turn TA (by decide));have GA:=Lib.hid gA;obtain ⟨aP,xP,rfl⟩:=gA.fp.slice;obtain ⟨aL,xL,rfl⟩:=gA.fl.slice;obtain ⟨aQ,xQ,rfl⟩:=gA.fq.slice;clear TA gA Jf XA qK P9 L9 Q9 P9' L9' Q9' y0 y1 y2 y3 y4 y5 y6;have hbC:=au WA (.cells #[.int .i64 p0,.int .i64 p1,.int .i64 p2,.int .i64 p3,.slice aP (ps.length+16) xP,.slice aL (ls.length+16) xL,.slice aQ (os.length+16) xQ] 26);have TC:=Turn.of_below oA 1 hbC;have YB:Hid (dY _ (ext oA WA.heap.size 1) 1 _ _ _):=Lib.hid ⟨heap_alloc_new WA (.cells #[.int .i64 p0,.int .i64 p1,.int .i64 p2,.int .i64 p3,.slice aP (ps.length+16) xP,.slice aL (ls.length+16) xL,.slice aQ (os.length+16) xQ] 26),aW (Nat.le_refl _)⟩;have HTC:=Lib.hid (Hu.out.trans TC (fun _ h=>h.elim));have HAC:=Lib.hid (HAA.out.turn TC (fun h=>h));have Ub:=Lib.hid (HBA.out.turn TC (fun h=>h));have PC':=Lib.hid (PA'.out.turn TC (fun h=>h));have LC':=Lib.hid (LA'.out.turn TC (fun h=>h));have QC':=Lib.hid (QA'.out.turn TC (fun h=>h));have GC:=Lib.hid (GA.out.turn TC (fun h=>h) (fun h=>h) (fun h=>h));clear hbC TC Hu HAA HBA PA' LA' QA' GA;have z0:=Ub.out.cell 0 _ rfl;have z1:=Ub.out.cell 1 _ rfl;have z2:=Ub.out.cell 2 _ rfl;have z3:=Ub.out.cell 3 _ rfl;have z4:=Ub.out.cell 4 _ rfl;have z5:=Ub.out.cell 5 _ rfl;have z6:=Ub.out.cell 6 _ rfl;simp only [List.getElem_toArray,List.getElem_cons_succ,List.getElem_cons_zero] at z0 z1 z2 z3 z4 z5 z6
 go_wp2_with fail
 obtain ⟨WC,hWC⟩:∃ x,WA.alloc (.cells #[.int .i64 p0,.int .i64 p1,.int .i64 p2,.int .i64 p3,.slice aP (ps.length+16) xP,.slice aL (ls.length+16) xL,.slice aQ (os.length+16) xQ] 26)=x:=⟨_,rfl⟩
 obtain ⟨CB,hCB⟩:∃ x,WA.heap.size=x:=⟨_,rfl⟩
 rw [hWC] at HTC HAC Ub PC' LC' QC' GC YB;rw [hWC];rw [hCB] at HTC HAC Ub PC' LC' QC' GC YB;rw [hCB];generalize ext oA CB 1=oC at *;clear hWC hCB z0 z1 z2 z3 z4 z5 z6;refine (Ec WC oC 14 16 18 (by decide) (by decide) (by decide) q0 q1 q2 q3 78 80 _ _ _ _ _ _ PC'.out LC'.out QC'.out (by decide) (by decide) (by omega) (by omega) (by omega)).mono ?_;rintro e WD ⟨oD,dp,dl,dq,rfl,TD,gD⟩;have qC:=Lib.hid (HTC.out.trans TD (fun x hx=>by unfold mr;omega));have HAD:=Lib.hid (HAC.out.turn TD (by decide));have oQ:=Lib.hid (Ub.out.turn TD (by decide));have HCD:=Lib.hid (YB.out.turn TD (by decide));have GAD:=Lib.hid (GC.out.turn TD (by decide) (by decide) (by decide));have GBD:=Lib.hid gD;obtain ⟨aP',xP',rfl⟩:=gD.fp.slice;obtain ⟨aL',xL',rfl⟩:=gD.fl.slice;obtain ⟨aQ',xQ',rfl⟩:=gD.fq.slice;clear TD gD HTC HAC Ub YB PC' LC' QC' GC;have hbE:=au WD (.cells #[.int .i64 q0,.int .i64 q1,.int .i64 q2,.int .i64 q3,.slice aP' (ps'.length+16) xP',.slice aL' (ls'.length+16) xL',.slice aQ' (os'.length+16) xQ'] 26);have TE:=Turn.of_below oD 1 hbE;have HDE:Hid (dY _ (ext oD WD.heap.size 1) 1 _ _ _):=Lib.hid ⟨heap_alloc_new WD (.cells #[.int .i64 q0,.int .i64 q1,.int .i64 q2,.int .i64 q3,.slice aP' (ps'.length+16) xP',.slice aL' (ls'.length+16) xL',.slice aQ' (os'.length+16) xQ'] 26),aW (Nat.le_refl _)⟩;have Uv:=Lib.hid (qC.out.trans TE (fun _ h=>h.elim));have Uc:=Lib.hid (HAD.out.turn TE (fun h=>h));have Uw:=Lib.hid (oQ.out.turn TE (fun h=>h));have Si:=Lib.hid (HCD.out.turn TE (fun h=>h));have GAE:=Lib.hid (GAD.out.turn TE (fun h=>h) (fun h=>h) (fun h=>h));have GBE:=Lib.hid (GBD.out.turn TE (fun h=>h) (fun h=>h) (fun h=>h));clear hbE TE qC HAD oQ HCD GAD GBD;have y0:=Uc.out.cell 0 _ rfl;have y1:=Uc.out.cell 1 _ rfl;have y2:=Uc.out.cell 2 _ rfl;have y3:=Uc.out.cell 3 _ rfl;have y4:=Uc.out.cell 4 _ rfl;have y5:=Uc.out.cell 5 _ rfl;have y6:=Uc.out.cell 6 _ rfl;simp only [List.getElem_toArray,List.getElem_cons_succ,List.getElem_cons_zero] at y0 y1 y2 y3 y4 y5 y6
 go_wp2_with fail
 obtain ⟨WE,hWE⟩:∃ x,WD.alloc (.cells #[.int .i64 q0,.int .i64 q1,.int .i64 q2,.int .i64 q3,.slice aP' (ps'.length+16) xP',.slice aL' (ls'.length+16) xL',.slice aQ' (os'.length+16) xQ'] 26)=x:=⟨_,rfl⟩
 obtain ⟨DB,hDB⟩:∃ x,WD.heap.size=x:=⟨_,rfl⟩
 rw [hWE] at Uv Uc Uw Si GAE GBE HDE;rw [hWE];rw [hDB] at Uv Uc Uw Si GAE GBE HDE;rw [hDB];generalize ext oD DB 1=oE at *;clear hWE hDB y0 y1 y2 y3 y4 y5 y6;refine (oM WE p0 p1 p2 p3 77 _ _ _ _ _ _ GAE.out.gp.view GAE.out.gl.view GAE.out.gq.view (by decide) (by decide) (by omega) (by omega) (by omega)).mono ?_;rintro e WF ⟨rfl,hbF⟩;have TF:=Turn.of_below oE 2 hbF;have HTF:=Lib.hid (Uv.out.trans TF (fun _ h=>h.elim));have HAF:=Lib.hid (Uc.out.turn TF (fun h=>h));have XB:=Lib.hid (Uw.out.turn TF (fun h=>h));have HCF:=Lib.hid (Si.out.turn TF (fun h=>h));have Yh:=Lib.hid (HDE.out.turn TF (fun h=>h));have GAF:=Lib.hid (GAE.out.turn TF (fun h=>h) (fun h=>h) (fun h=>h));have GBF:=Lib.hid (GBE.out.turn TF (fun h=>h) (fun h=>h) (fun h=>h));clear TF hbF Uv Uc Uw Si HDE GAE GBE;have z0:=XB.out.cell 0 _ rfl;have z1:=XB.out.cell 1 _ rfl;have z2:=XB.out.cell 2 _ rfl;have z3:=XB.out.cell 3 _ rfl;have z4:=XB.out.cell 4 _ rfl;have z5:=XB.out.cell 5 _ rfl;have z6:=XB.out.cell 6 _ rfl;simp only [List.getElem_toArray,List.getElem_cons_succ,List.getElem_cons_zero] at z0 z1 z2 z3 z4 z5 z6
 go_wp2_with fail
 refine (oM WF q0 q1 q2 q3 78 _ _ _ _ _ _ GBF.out.gp.view GBF.out.gl.view GBF.out.gq.view (by decide) (by decide) (by omega) (by omega) (by omega)).mono ?_;rintro e WG ⟨rfl,hbG⟩;have TG:=Turn.of_below (ext oE WE.heap.size 2) 2 hbG;have HTG:=Lib.hid (HTF.out.trans TG (fun _ h=>h.elim));have Y0:=Lib.hid (HAF.out.turn TG (fun h=>h));have YH:=Lib.hid (XB.out.turn TG (fun h=>h));have UB:=Lib.hid (HCF.out.turn TG (fun h=>h));have HDG:=Lib.hid (Yh.out.turn TG (fun h=>h));have GAG:=Lib.hid (GAF.out.turn TG (fun h=>h) (fun h=>h) (fun h=>h));have GBG:=Lib.hid (GBF.out.turn TG (fun h=>h) (fun h=>h) (fun h=>h));clear TG hbG HTF HAF XB HCF Yh GAF GBF z0 z1 z2 z3 z4 z5 z6;obtain ⟨-,hcP,gP,rfl,hvP⟩:=GAG.out.fp.tail (by decide) (by decide);obtain ⟨-,LV,gL,rfl,hvL⟩:=GAG.out.fl.tail (by decide) (by decide);obtain ⟨-,hcQ,gQ,rfl,hvQ⟩:=GAG.out.fq.tail (by decide) (by decide);obtain ⟨-,ade,gP',rfl,abR⟩:=GBG.out.fp.tail (by decide) (by decide);obtain ⟨-,adf,gL',rfl,abS⟩:=GBG.out.fl.tail (by decide) (by decide);obtain ⟨-,adg,gQ',rfl,abT⟩:=GBG.out.fq.tail (by decide) (by decide);have VP:=Lib.hid hvP;have VL:=Lib.hid hvL;have VQ:=Lib.hid hvQ;have VP':=Lib.hid abR;have VL':=Lib.hid abS;have VQ':=Lib.hid abT;clear hvP hvL hvQ abR abS abT GAG GBG;generalize ext (ext oE WE.heap.size 2) WF.heap.size 2=oG at *;have y0:=Y0.out.cell 0 _ rfl;have y1:=Y0.out.cell 1 _ rfl;have y2:=Y0.out.cell 2 _ rfl;have y3:=Y0.out.cell 3 _ rfl;have y4:=Y0.out.cell 4 _ rfl;have y5:=Y0.out.cell 5 _ rfl;have y6:=Y0.out.cell 6 _ rfl;simp only [List.getElem_toArray,List.getElem_cons_succ,List.getElem_cons_zero] at y0 y1 y2 y3 y4 y5 y6;have z0:=UB.out.cell 0 _ rfl;have z1:=UB.out.cell 1 _ rfl;have z2:=UB.out.cell 2 _ rfl;have z3:=UB.out.cell 3 _ rfl;have z4:=UB.out.cell 4 _ rfl;have z5:=UB.out.cell 5 _ rfl;have z6:=UB.out.cell 6 _ rfl;simp only [List.getElem_toArray,List.getElem_cons_succ,List.getElem_cons_zero] at z0 z1 z2 z3 z4 z5 z6
 go_wp2_with fail
 refine (BZ WG p0 p1 p2 p3 p0 p1 p2 p3 gP gL gQ _ _ _ xP xL xQ _ _ _ _ _ _ hcP LV hcQ (by omega) (by omega) (by omega)).mono ?_;rintro e WH ⟨rfl,hbH⟩;clear y0 y1 y2 y3 y4 y5 y6 z0 z1 z2 z3 z4 z5 z6
 go_wp2_with fail
 refine (oM WH 0 0 0 0 79 _ _ _ _ _ _ (VP.out.below hbH) (VL.out.below hbH) (VQ.out.below hbH) (by decide) (by decide) (by omega) (by omega) (by omega)).mono ?_;rintro e WI ⟨rfl,hbI⟩;have Ud:Below WG.heap.size WG WI:=Below.then hbH hbI
 have TI:=Turn.of_below oG 2 Ud;have HTI:=Lib.hid (HTG.out.trans TI (fun _ h=>h.elim));have Y1:=Lib.hid (YH.out.turn TI (fun h=>h));have Y2:=Lib.hid (HDG.out.turn TI (fun h=>h));replace VP':=Lib.hid (VP'.out.below Ud);replace VL':=Lib.hid (VL'.out.below Ud);replace VQ':=Lib.hid (VQ'.out.below Ud);clear hbH hbI Ud TI HTG Y0 YH UB HDG VP VL VQ;have y0:=Y1.out.cell 0 _ rfl;have y1:=Y1.out.cell 1 _ rfl;have y2:=Y1.out.cell 2 _ rfl;have y3:=Y1.out.cell 3 _ rfl;have y4:=Y1.out.cell 4 _ rfl;have y5:=Y1.out.cell 5 _ rfl;have y6:=Y1.out.cell 6 _ rfl;simp only [List.getElem_toArray,List.getElem_cons_succ,List.getElem_cons_zero] at y0 y1 y2 y3 y4 y5 y6;have z0:=Y2.out.cell 0 _ rfl;have z1:=Y2.out.cell 1 _ rfl;have z2:=Y2.out.cell 2 _ rfl;have z3:=Y2.out.cell 3 _ rfl;have z4:=Y2.out.cell 4 _ rfl;have z5:=Y2.out.cell 5 _ rfl;have z6:=Y2.out.cell 6 _ rfl;simp only [List.getElem_toArray,List.getElem_cons_succ,List.getElem_cons_zero] at z0 z1 z2 z3 z4 z5 z6
 go_wp2_with fail
 refine (BZ WI q0 q1 q2 q3 q0 q1 q2 q3 gP' gL' gQ' _ _ _ xP' xL' xQ' _ _ _ _ _ _ ade adf adg (by omega) (by omega) (by omega)).mono ?_;rintro e WJ ⟨rfl,hbJ⟩;clear y0 y1 y2 y3 y4 y5 y6 z0 z1 z2 z3 z4 z5 z6
 go_wp2_with fail
 refine (oM WJ 0 0 0 0 80 _ _ _ _ _ _ (VP'.out.below hbJ) (VL'.out.below hbJ) (VQ'.out.below hbJ) (by decide) (by decide) (by omega) (by omega) (by omega)).mono ?_;rintro e WK ⟨rfl,hbK⟩;have TK:=Turn.of_below (ext oG WG.heap.size 2) 2 (Below.then hbJ hbK);have wJ:=Lib.hid (HTI.out.trans TK (fun _ h=>h.elim));clear hbJ hbK TK HTI Y1 Y2 VP' VL' VQ';go_wp2;go_ret
 exact ⟨rfl,_,wJ.out⟩
structure aaA (P:ay):Prop where
 parts:P.parts.length≤1048576
 lines:P.lines.length≤1048576
 ops:P.ops.length≤1048576
 params:∀ x∈P.parts,x.params.length≤17600000000000
 starts:∀ x∈P.lines,x.start.length≤17600000000000
def aaB (c:Nat):Nat:=if c=5∨c=7 then 5 else if c=10 then 8 else if c=4∨c=6 then c else 0
theorem Ca {w1 w:World}{oA o:Col}{c d:Nat}{rs:List (Value × List Int)}(h:jR w1 oA c rs)(hb:Below w1.heap.size w1 w)(ho:∀ k,k < w1.heap.size→oA k=c→o k=d):jR w o d rs:=⟨fun x hx=>(h.own x hx).lift hb ho,h.Oz⟩
theorem KJ {w1 w:World}{BA:Nat}{vA:Value}{P:ay}(hA:YV w1 BA vA P)(h1:Below w1.heap.size w1 w)(sP:aaA P) :
  Calls Tryz.prog 10 #[vA,.agg #[.int .i64 0,.int .i64 0,.int .i64 0,.int .i64 0,.slice none 0 0,.slice none 0 0,.slice none 0 0]] w (fun e w'=>e=.returned (.bool true)∧aI (fun k=>BA≤k∧k < w1.heap.size) w w'):=by
 obtain ⟨oA,vp,vl,vo,ps,ls,rfl,e1,e2,a1,a2,a3,a4,a5,a6⟩:=hA;have l1:ps.length=P.parts.length:=by rw [← e1,List.length_map]
 have l2:ls.length=P.lines.length:=by rw [← e2,List.length_map]
 obtain ⟨o,ho⟩:∃ o:Col,o=fun k=>if k < w1.heap.size then aaB (oA k) else 0:=⟨_,rfl⟩
 have m:∀ {c d:Nat},aaB c=d→∀ k,k < w1.heap.size→oA k=c→o k=d:=fun e k hk hc=>by rw [ho];simp only [hk,if_true,hc,e]
 have ht:wE w o vp vl vo (.slice none 0 0) (.slice none 0 0) (.slice none 0 0) ps [] ls [] P.ops []:=by
  refine ⟨a1.lift h1 (m (by decide)),a3.lift h1 (m (by decide)),a5.lift h1 (m (by decide)),Own.nil _ _ _ _ _,Own.nil _ _ _ _ _,Own.nil _ _ _ _ _,?_⟩;have r1:=Ca a2 h1 (m (d:=5) (by decide));have r2:=Ca a4 h1 (m (d:=5) (by decide));have hd:=r1.append r2 (fun x hx y hy B hB hB2=>by
   have h1:=(a2.own x hx).2 B hB;have h2:=(a4.own y hy).2 B hB2;omega)
  simpa [rowsOf] using hd
 refine (CF w o _ _ _ _ 0 0 0 0 vp vl vo (.slice none 0 0) (.slice none 0 0) (.slice none 0 0) ps [] ls [] P.ops [] ht (by have:=sP.parts;omega) (by have:=sP.lines;omega) sP.ops (Nat.zero_le _) (Nat.zero_le _) (Nat.zero_le _) (fun x hx=>?_)).mono ?_
 ·
  have hx':x∈rowsOf eu.params ps ++ rowsOf dN.start ls:=by simpa [rowsOf] using hx
  rcases List.mem_append.1 hx' with hx | hx
  ·
   obtain ⟨y,hy,rfl⟩:=List.mem_map.1 hx;exact sP.params _ (by rw [← e1];exact List.mem_map_of_mem hy)
  ·
   obtain ⟨y,hy,rfl⟩:=List.mem_map.1 hx;exact sP.starts _ (by rw [← e2];exact List.mem_map_of_mem hy)
 ·
  rintro e w' ⟨rfl,o',T⟩;refine ⟨rfl,T.mods.mono fun k hk hc=>?_⟩
  by_cases hk1:k < w1.heap.size
  ·
   refine ⟨?_,hk1⟩
   rcases Nat.lt_or_ge k BA with hb | hb
   ·
    exfalso
    rw [ho] at hc;simp only [hk1,if_true,a6 k hb] at hc
    revert hc
    unfold mr aaB;simp
   ·
    exact hb
  ·
   exfalso
   rw [ho] at hc;simp only [hk1,if_false] at hc
   revert hc
   unfold mr;simp
theorem uT (P:ay):lF P=cu P:=by
 unfold lF;rw [← DY];unfold lM
 by_cases h:cu P=0
 ·
  rw [if_neg (fun h2=>h2 h),h]
 ·
  rw [if_pos h]
theorem IV {P:ay}(h:cu P=0):∃ S,bW P=(S,0)∧lM P=(S,0):=by
 have h2:=uT P;rw [h] at h2;refine ⟨(bW P).1,?_,?_⟩
 ·
  unfold lF at h2;rw [← h2]
 ·
  rw [DY];unfold lF at h2;rw [← h2]
def Cb (c:kH):List Value:=[.int .i64 c.what,.int .i64 c.n]
def jK (l:List kH):Nat:=(l.map fun c=>c.tokens.length).sum
theorem IW {l:List kH}{i:Nat}(h:i < l.length):jK (l.take (i+1))=jK (l.take i)+l[i].tokens.length:=by
 unfold jK;rw [List.take_succ_eq_append_getElem h,List.map_append,List.sum_append];simp
theorem OU (l:List kH)(i:Nat):jK (l.take i)≤jK l:=by
 have e:=congrArg jK (List.take_append_drop i l);unfold jK at e ⊢;rw [List.map_append,List.sum_append] at e;omega
theorem Ue (w:World)(c:kH)(ts:Value)(S:Int)(hS:1≤S∧S≤131072):Calls Tryz.prog 12 #[D8 c.what c.n ts,.int .i64 S] w (og (.int .i64 (mI c S)) w):=by
 have hb0:=au w (.cells #[.int .i64 c.what,.int .i64 c.n,ts] 44);have hX:=heap_alloc_new w (.cells #[.int .i64 c.what,.int .i64 c.n,ts] 44);have HB:=Lib.hid hb0;have HX:=Lib.hid hX;have hwk:=Ea c.what;have hk8:fM c.what=1∨fM c.what=2∨(fM c.what≠1∧fM c.what≠2):=by omega
 unfold D8;clear hb0 hX
 rcases hk8 with hk | hk | ⟨hk,hk2⟩
 ·
  rw [show mI c S=1 by unfold mI;rw [if_pos hk]];have HK:=Lib.hid hk;clear hk hwk
  go_enter Tryz.func12,Tryz.ntmps12
  go_wp2_with fail
  refine (fQ _ c.what c.n ts).mono ?_;rintro e w1 ⟨rfl,hb1⟩;have HB1:=Lib.hid (HB.out.trans (hb1.mono HB.out.size));rw [HK.out];clear hb1;go_wp2;go_ret
  exact ⟨rfl,HB1.out⟩
 ·
  by_cases hn:0 < c.n∧c.n≤8
  ·
   rw [show mI c S=c.n*S by unfold mI;rw [if_neg (by omega),if_pos ⟨hk,hn.1,hn.2⟩]];have HK:=Lib.hid hk;obtain ⟨h1,h8⟩:=hn;have hw:IntKind.i64.wrap (c.n*S)=c.n*S:=by
    refine IntWalk.i64_in _ ?_;have h3:0≤c.n*S:=Int.mul_nonneg (by omega) (by omega);have h4:c.n*S≤8*131072:=Int.mul_le_mul h8 hS.2 (by omega) (by omega);omega
   clear hk hwk hS
   go_enter Tryz.func12,Tryz.ntmps12
   go_wp2_with fail
   refine (fQ _ c.what c.n ts).mono ?_;rintro e w1 ⟨rfl,hb1⟩;have HB1:=Lib.hid (HB.out.trans (hb1.mono HB.out.size));have x1:=cell_later hb1 (ah _ _ HX.out 1 _ rfl);simp only [List.getElem_toArray,List.getElem_cons_succ,List.getElem_cons_zero] at x1;rw [HK.out];clear hb1;go_wp2;go_ret
   exact ⟨rfl,HB1.out⟩
  ·
   rw [show mI c S=0 by unfold mI;rw [if_neg (by omega),if_neg (fun h=>hn ⟨h.2.1,h.2.2⟩)]];have HK:=Lib.hid hk;clear hk hwk hS
   by_cases h0:0 < c.n
   ·
    have h8:¬ c.n≤8:=fun h=>hn ⟨h0,h⟩
    clear hn
    go_enter Tryz.func12,Tryz.ntmps12
    go_wp2_with fail
    refine (fQ _ c.what c.n ts).mono ?_;rintro e w1 ⟨rfl,hb1⟩;have HB1:=Lib.hid (HB.out.trans (hb1.mono HB.out.size));have x1:=cell_later hb1 (ah _ _ HX.out 1 _ rfl);simp only [List.getElem_toArray,List.getElem_cons_succ,List.getElem_cons_zero] at x1;rw [HK.out];clear hb1;go_wp2;go_ret
    exact ⟨rfl,HB1.out⟩
   ·
    clear hn
    go_enter Tryz.func12,Tryz.ntmps12
    go_wp2_with fail
    refine (fQ _ c.what c.n ts).mono ?_;rintro e w1 ⟨rfl,hb1⟩;have HB1:=Lib.hid (HB.out.trans (hb1.mono HB.out.size));have x1:=cell_later hb1 (ah _ _ HX.out 1 _ rfl);simp only [List.getElem_toArray,List.getElem_cons_succ,List.getElem_cons_zero] at x1;rw [HK.out];clear hb1;go_wp2;go_ret
    exact ⟨rfl,HB1.out⟩
 ·
  rw [show mI c S=0 by unfold mI;rw [if_neg hk,if_neg (fun h=>hk2 h.1)]];have HK:=Lib.hid (And.intro hk hk2);obtain ⟨K,hK⟩:∃ x,fM c.what=x:=⟨_,rfl⟩
  have hk1:(K == 1)=false:=by rw [beq_eq_false_iff_ne,← hK];exact hk
  have hk3:(K == 2)=false:=by rw [beq_eq_false_iff_ne,← hK];exact hk2
  have HKK:=Lib.hid hK;clear hk hk2 hwk hS hK
  go_enter Tryz.func12,Tryz.ntmps12
  go_wp2_with fail
  refine (fQ _ c.what c.n ts).mono ?_;rintro e w1 ⟨rfl,hb1⟩;have HB1:=Lib.hid (HB.out.trans (hb1.mono HB.out.size));rw [HKK.out];clear hb1;go_wp2;go_ret
  exact ⟨rfl,HB1.out⟩
def NoZ (o:Col):Prop:=∀ k,¬ dI 100 (o k)
theorem NoZ.ext {o:Col}(h:NoZ o){n c:Nat}(hc:¬ dI 100 c):NoZ (ext o n c):=fun k=>by
 unfold Go.Proofs.YtpdlngonocancaaGreat.ext
 split
 ·
  exact h k
 ·
  exact hc
theorem Uf (w:World)(vp vs:Value)(P:ay)(L:List kH)(hp:bO w vp P)(hg:xU P)(hpf:iM P)(hsf:Gz P)(hs:kR w 3 (tQ Cb kH.tokens) vs L)(hsl:L.length≤17600000000000)(htk:jK L≤17600000000000)(hfit:∀ c∈L,Fits c.n∧∀ x∈c.tokens,Fits x) :
  Calls Tryz.prog 3 #[vp,vs] w (fun e w'=>e=.returned (.bool true)∧Below w.heap.size w w'):=by
 obtain ⟨vpp,vl,vo,rfl,rp,rl,ro⟩:=hp;obtain ⟨ap,cp,rfl⟩:=rp.slice;obtain ⟨al,cl,rfl⟩:=rl.slice;obtain ⟨ao,co,rfl⟩:=ro.slice;obtain ⟨sa,sc,rfl⟩:=hs.slice;have HV:Hid (bO w (.agg #[.int .i64 P.memory,.int .i64 P.counters,.int .i64 P.ins,.int .i64 P.outs,.slice ap P.parts.length cp,.slice al P.lines.length cl,.slice ao P.ops.length co]) P):=Lib.hid ⟨_,_,_,rfl,rp,rl,ro⟩;have HS:=Lib.hid hs;have hb1:=au w (.cells #[.int .i64 P.memory,.int .i64 P.counters,.int .i64 P.ins,.int .i64 P.outs,.slice ap P.parts.length cp,.slice al P.lines.length cl,.slice ao P.ops.length co] 26);have HK:=Lib.hid ((Kept.start w).turn (Turn.of_below (fun _=>0) 5 hb1) (fun h=>h));have HX:=Lib.hid (show dY _ (ext (fun _=>0) w.heap.size 5) 5 w.heap.size 26 #[.int .i64 P.memory,.int .i64 P.counters,.int .i64 P.ins,.int .i64 P.outs,.slice ap P.parts.length cp,.slice al P.lines.length cl,.slice ao P.ops.length co] from ⟨heap_alloc_new w (.cells #[.int .i64 P.memory,.int .i64 P.counters,.int .i64 P.ins,.int .i64 P.outs,.slice ap P.parts.length cp,.slice al P.lines.length cl,.slice ao P.ops.length co] 26),aW (Nat.le_refl _)⟩);have Fv:=Lib.hid (NoZ.ext (o:=fun _=>0) (n:=w.heap.size) (c:=5) (fun k h=>by have h1:100≤0:=h.1;omega) (fun h=>by have:=h.1;omega));have HG:=Lib.hid hg;have WM:=Lib.hid hpf;have HSF:=Lib.hid hsf;have Te:=Lib.hid hfit;have Us:=Lib.hid hsl;have wJ:=Lib.hid htk;clear rp rl ro hs hb1 hg hpf hsf hfit hsl htk;generalize ext (fun _=>0) w.heap.size 5=q9 at *;obtain ⟨W,hW⟩:∃ x,w.alloc (.cells #[.int .i64 P.memory,.int .i64 P.counters,.int .i64 P.ins,.int .i64 P.outs,.slice ap P.parts.length cp,.slice al P.lines.length cl,.slice ao P.ops.length co] 26)=x:=⟨_,rfl⟩
 rw [hW] at HK HX;have p0:=HX.out.cell 0 _ rfl;have p1:=HX.out.cell 1 _ rfl;have p2:=HX.out.cell 2 _ rfl;have p3:=HX.out.cell 3 _ rfl;have p4:=HX.out.cell 4 _ rfl;have p5:=HX.out.cell 5 _ rfl;have p6:=HX.out.cell 6 _ rfl
 go_enter Tryz.func3,Tryz.ntmps3
 go_wp2_with fail
 clear hW p0 p1 p2 p3 p4 p5 p6;refine (Kt _ _ P (HV.out.below HK.out.below) HG.out).mono ?_;rintro e w1 ⟨hb,rfl,hh,hb1⟩;have wH:=Turn.of_below q9 6 hb1;replace HK:=Lib.hid (HK.out.turn wH (fun h=>h));replace HX:=Lib.hid (HX.out.turn wH (fun h=>h))
 try replace HY:=Lib.hid (HY.out.turn wH (fun h=>h))
 try replace sF:=Lib.hid (sF.out.trans (Below.mono hb1 sF.out.size))
 replace Fv:=Lib.hid (Fv.out.ext (n:=W.heap.size) (c:=6) (by unfold dI;omega));generalize ext q9 _ 6=q9 at *;clear wH;clear hb1;cases hb with
 | true =>
  go_wp2;go_ret
  exact ⟨rfl,HK.out.below⟩
 | false =>
  have hh:=hh rfl;have HH:=Lib.hid hh;clear hh;have p0:=HX.out.cell 0 _ rfl;have p1:=HX.out.cell 1 _ rfl;have p2:=HX.out.cell 2 _ rfl;have p3:=HX.out.cell 3 _ rfl;have p4:=HX.out.cell 4 _ rfl;have p5:=HX.out.cell 5 _ rfl;have p6:=HX.out.cell 6 _ rfl
  go_wp2_with fail
  clear p0 p1 p2 p3 p4 p5 p6;refine (Cy _ _ P (HV.out.below HK.out.below) HH.out HG.out.params HG.out.starts).mono ?_;rintro e w2 ⟨vo,rfl,hkeep,Y3,hb2⟩;have aei:=Lib.hid hb2;have wH:=Turn.of_below q9 4000 hb2;replace HK:=Lib.hid (HK.out.turn wH (fun h=>h));replace HX:=Lib.hid (HX.out.turn wH (fun h=>h))
  try replace HY:=Lib.hid (HY.out.turn wH (fun h=>h))
  try replace sF:=Lib.hid (sF.out.trans (Below.mono hb2 sF.out.size))
  replace Fv:=Lib.hid (Fv.out.ext (n:=w1.heap.size) (c:=4000) (by unfold dI;omega));have A9:=Lib.hid hkeep;have HLP:=Lib.hid Y3;have UC:Hid (∀ k,w1.heap.size≤k→k < w2.heap.size→ext q9 w1.heap.size 4000 k=4000):=Lib.hid (fun k h1 _=>aW h1);generalize ext q9 _ 4000=q9 at *;clear wH;obtain ⟨op,dp,ol,dl,oo,dd,rfl,-⟩:=hkeep;clear Y3 hb2;have hb3:=au w2 (.cells #[.int .i64 P.memory,.int .i64 P.counters,.int .i64 P.ins,.int .i64 P.outs,.slice op P.parts.length dp,.slice ol P.lines.length dl,.slice oo P.ops.length dd] 26);have aaC:=Lib.hid hb3;have HY0:=fJ (w:=w2) q9 7 #[.int .i64 P.memory,.int .i64 P.counters,.int .i64 P.ins,.int .i64 P.outs,.slice op P.parts.length dp,.slice ol P.lines.length dl,.slice oo P.ops.length dd] 26;have wH:=Turn.of_below q9 7 hb3;replace HK:=Lib.hid (HK.out.turn wH (fun h=>h));replace HX:=Lib.hid (HX.out.turn wH (fun h=>h))
  try replace HY:=Lib.hid (HY.out.turn wH (fun h=>h))
  try replace sF:=Lib.hid (sF.out.trans (Below.mono hb3 sF.out.size))
  replace Fv:=Lib.hid (Fv.out.ext (n:=w2.heap.size) (c:=7) (by unfold dI;omega));have HY:=Lib.hid HY0;replace UC:Hid (∀ k,w1.heap.size≤k→k < w2.heap.size→ext q9 w2.heap.size 7 k=4000):=Lib.hid (fun k h1 h2=>by rw [bX h2];exact UC.out k h1 h2);generalize ext q9 _ 7=q9 at *;clear wH;clear HY0 hb3;obtain ⟨w3,hw3⟩:∃ x,w2.alloc (.cells #[.int .i64 P.memory,.int .i64 P.counters,.int .i64 P.ins,.int .i64 P.outs,.slice op P.parts.length dp,.slice ol P.lines.length dl,.slice oo P.ops.length dd] 26)=x:=⟨_,rfl⟩
  rw [hw3] at HK HX aaC HY;have y0:=HY.out.cell 0 _ rfl;have y1:=HY.out.cell 1 _ rfl;have y2:=HY.out.cell 2 _ rfl;have y3:=HY.out.cell 3 _ rfl;have y4:=HY.out.cell 4 _ rfl;have y5:=HY.out.cell 5 _ rfl;have y6:=HY.out.cell 6 _ rfl
  go_wp2_with fail
  clear hw3 y0 y1 y2 y3 y4 y5 y6;have sF:=aaC;clear aaC;refine (Ih w3 q9 1000 (by omega) _ P (A9.out.below sF.out).has HG.out.params WM.out).mono ?_;intro e w4 H;unfold Fh at H
  by_cases hc:lF P≠0
  ·
   rw [if_pos hc] at H;obtain ⟨rfl,hb4⟩:=H;rw [uT] at hc ⊢;have wH:=Turn.of_below q9 8 hb4;replace HK:=Lib.hid (HK.out.turn wH (fun h=>h));replace HX:=Lib.hid (HX.out.turn wH (fun h=>h))
   try replace HY:=Lib.hid (HY.out.turn wH (fun h=>h))
   try replace sF:=Lib.hid (sF.out.trans (Below.mono hb4 sF.out.size))
   replace Fv:=Lib.hid (Fv.out.ext (n:=w3.heap.size) (c:=8) (by unfold dI;omega));generalize ext q9 _ 8=q9 at *;clear wH;clear hb4;have p0:=HX.out.cell 0 _ rfl;have p1:=HX.out.cell 1 _ rfl;have p2:=HX.out.cell 2 _ rfl;have p3:=HX.out.cell 3 _ rfl;have p4:=HX.out.cell 4 _ rfl;have p5:=HX.out.cell 5 _ rfl;have p6:=HX.out.cell 6 _ rfl
   go_wp2_with fail
   clear p0 p1 p2 p3 p4 p5 p6;refine (Iw (w0:=w) HK.out (by decide) (fun k _=>Fv.out k) HV.out HG.out (fun h=>absurd h hc)).mono ?_;intro e w5 H5
   rcases H5 with ⟨-,rfl,hb5⟩ | ⟨h0,-⟩
   ·
    have wH:=Turn.of_below q9 8 hb5;replace HK:=Lib.hid (HK.out.turn wH (fun h=>h));replace HX:=Lib.hid (HX.out.turn wH (fun h=>h))
    try replace HY:=Lib.hid (HY.out.turn wH (fun h=>h))
    try replace sF:=Lib.hid (sF.out.trans (Below.mono hb5 sF.out.size))
    replace Fv:=Lib.hid (Fv.out.ext (n:=w4.heap.size) (c:=8) (by unfold dI;omega));generalize ext q9 _ 8=q9 at *;clear wH;clear hb5;have hE:(cu P != 0)=true:=by rw [bne_iff_ne];exact hc
    obtain ⟨E,hEE⟩:∃ x,cu P=x:=⟨_,rfl⟩
    rw [hEE];clear hc hE hEE;have p0:=HX.out.cell 0 _ rfl;have p1:=HX.out.cell 1 _ rfl;have p2:=HX.out.cell 2 _ rfl;have p3:=HX.out.cell 3 _ rfl;have p4:=HX.out.cell 4 _ rfl;have p5:=HX.out.cell 5 _ rfl;have p6:=HX.out.cell 6 _ rfl;have y0:=HY.out.cell 0 _ rfl;have y1:=HY.out.cell 1 _ rfl;have y2:=HY.out.cell 2 _ rfl;have y3:=HY.out.cell 3 _ rfl;have y4:=HY.out.cell 4 _ rfl;have y5:=HY.out.cell 5 _ rfl;have y6:=HY.out.cell 6 _ rfl
    go_wp2_with fail
    clear p0 p1 p2 p3 p4 p5 p6;clear y0 y1 y2 y3 y4 y5 y6;refine (wF _ _ _ P (A9.out.below sF.out) (HV.out.below HK.out.below) HG.out.params HG.out.starts (by have:=HH.out;unfold nJ at this;omega) (by have:=HH.out;unfold nJ at this;omega) (by have:=HH.out;unfold nJ at this;omega)).mono ?_;rintro e w6 ⟨rfl,hb6⟩;have wH:=Turn.of_below q9 8 hb6;replace HK:=Lib.hid (HK.out.turn wH (fun h=>h));replace HX:=Lib.hid (HX.out.turn wH (fun h=>h))
    try replace HY:=Lib.hid (HY.out.turn wH (fun h=>h))
    try replace sF:=Lib.hid (sF.out.trans (Below.mono hb6 sF.out.size))
    replace Fv:=Lib.hid (Fv.out.ext (n:=w5.heap.size) (c:=8) (by unfold dI;omega));generalize ext q9 _ 8=q9 at *;clear wH;clear hb6
    go_wp2_with fail
    refine (xW _).mono ?_;rintro e w7 ⟨rfl,uI⟩;have HF:=Lib.hid (HK.out.below.trans (uI.mono HK.out.size));clear uI;go_wp2;go_ret
    exact ⟨rfl,HF.out⟩
   ·
    exact absurd h0 hc
  ·
   rw [if_neg hc] at H;obtain ⟨b,o4,v4,rfl,T4,M4,Er⟩:=H;have h0:cu P=0:=by rw [← uT];exact Classical.not_not.1 hc
   obtain ⟨S,hS,hRS⟩:=IV h0;have G6:=Lib.hid hS;have l5:=Lib.hid hRS;have hP:=rJ hS;have wL:=Lib.hid hP;have Dj:=T4.mods.below (Nat.le_refl _) (fun _ _ h=>h);replace HK:=Lib.hid (HK.out.turn T4 (fun h=>h));replace HX:=Lib.hid (HX.out.turn T4 (fun h=>h));replace HY:=Lib.hid (HY.out.turn T4 (fun h=>h));have aej:=sF.out.size;replace UC:Hid (∀ k,w1.heap.size≤k→k < w2.heap.size→o4 k=4000):=Lib.hid (fun k h1 h2=>(T4.same k (by omega)).trans (UC.out k h1 h2));replace Fv:Hid (NoZ o4):=Lib.hid (fun k h=>by
    rcases Nat.lt_or_ge k w3.heap.size with hk | hk
    ·
     rw [T4.same k hk] at h;exact Fv.out k h
    ·
     have h1:=(Er k hk).1;have h2:=h.2;omega)
   replace sF:=Lib.hid (sF.out.trans (Dj.mono sF.out.size));have HM4:=Lib.hid M4;clear T4 M4 Er Dj hc hS hRS;have p0:=HX.out.cell 0 _ rfl;have p1:=HX.out.cell 1 _ rfl;have p2:=HX.out.cell 2 _ rfl;have p3:=HX.out.cell 3 _ rfl;have p4:=HX.out.cell 4 _ rfl;have p5:=HX.out.cell 5 _ rfl;have p6:=HX.out.cell 6 _ rfl
   go_wp2_with fail
   clear p0 p1 p2 p3 p4 p5 p6;refine (Iw (w0:=w) HK.out (by decide) (fun k _=>Fv.out k) HV.out HG.out (fun _=>wL.out)).mono ?_;intro e w5 H5
   rcases H5 with ⟨h1,-⟩ | ⟨-,o5,b',z5,rfl,Z5,T5⟩
   ·
    exact absurd h0 h1
   have Cm:=T5.mods.below (Nat.le_refl _) (fun _ _ h=>h);have zO:=Lib.hid (show Twin w w5 o5 b b' P (newP P) v4 z5 from ⟨HM4.out.turn T5 (fun _ h=>h.elim),Z5⟩);replace HX:=Lib.hid (HX.out.turn T5 (fun h=>h));replace HY:=Lib.hid (HY.out.turn T5 (fun h=>h));have aek:=sF.out.size;replace UC:Hid (∀ k,w1.heap.size≤k→k < w2.heap.size→o5 k=4000):=Lib.hid (fun k h1 h2=>(T5.same k (by omega)).trans (UC.out k h1 h2));replace sF:=Lib.hid (sF.out.trans (Cm.mono sF.out.size));clear T5 Z5 Cm HM4 Fv HK;have p0:=HX.out.cell 0 _ rfl;have p1:=HX.out.cell 1 _ rfl;have p2:=HX.out.cell 2 _ rfl;have p3:=HX.out.cell 3 _ rfl;have p4:=HX.out.cell 4 _ rfl;have p5:=HX.out.cell 5 _ rfl;have p6:=HX.out.cell 6 _ rfl;have y0:=HY.out.cell 0 _ rfl;have y1:=HY.out.cell 1 _ rfl;have y2:=HY.out.cell 2 _ rfl;have y3:=HY.out.cell 3 _ rfl;have y4:=HY.out.cell 4 _ rfl;have y5:=HY.out.cell 5 _ rfl;have y6:=HY.out.cell 6 _ rfl
   go_wp2_with fail
   clear p0 p1 p2 p3 p4 p5 p6;clear y0 y1 y2 y3 y4 y5 y6;refine (wF _ _ _ P (A9.out.below sF.out) (HV.out.below zO.out.zz.kept.below) HG.out.params HG.out.starts (by have:=HH.out;unfold nJ at this;omega) (by have:=HH.out;unfold nJ at this;omega) (by have:=HH.out;unfold nJ at this;omega)).mono ?_;rintro e w6 ⟨rfl,hb6⟩;have T6:=Turn.of_below o5 8 hb6;replace zO:=Lib.hid (zO.out.quiet T6);replace HX:=Lib.hid (HX.out.turn T6 (fun h=>h));replace HY:=Lib.hid (HY.out.turn T6 (fun h=>h));have ael:=sF.out.size;replace UC:Hid (∀ k,w1.heap.size≤k→k < w2.heap.size→ext o5 w5.heap.size 8 k=4000):=Lib.hid (fun k h1 h2=>(T6.same k (by omega)).trans (UC.out k h1 h2));replace sF:=Lib.hid (sF.out.trans (hb6.mono sF.out.size));generalize ext o5 w5.heap.size 8=q6 at *;clear T6 hb6;have y0:=HY.out.cell 0 _ rfl;have y1:=HY.out.cell 1 _ rfl;have y2:=HY.out.cell 2 _ rfl;have y3:=HY.out.cell 3 _ rfl;have y4:=HY.out.cell 4 _ rfl;have y5:=HY.out.cell 5 _ rfl;have y6:=HY.out.cell 6 _ rfl
   go_wp2_with fail
   clear y0 y1 y2 y3 y4 y5 y6;refine (KJ HLP.out sF.out ⟨by have:=HH.out;unfold nJ at this;omega,by have:=HH.out;unfold nJ at this;omega,by have:=HH.out;unfold nJ at this;omega,HG.out.params,HG.out.starts⟩).mono ?_;rintro e w7 ⟨rfl,zq⟩;have T7:Turn q6 q6 (fun x=>x=4000) w6 w7:=⟨zq.mono (fun k _ h=>UC.out k h.1 h.2),fun _ _=>rfl⟩;replace zO:=Lib.hid (zO.out.turn T7 (by decide) (fun x hx=>by subst hx;exact ⟨fun h=>by unfold Mine at h;omega,fun h=>by have:=h.2;omega⟩));replace HX:=Lib.hid (HX.out.turn T7 (by decide));clear T7 zq UC sF HY A9 HLP;have p0:=HX.out.cell 0 _ rfl;have p1:=HX.out.cell 1 _ rfl;have p2:=HX.out.cell 2 _ rfl;have p3:=HX.out.cell 3 _ rfl;have p4:=HX.out.cell 4 _ rfl;have p5:=HX.out.cell 5 _ rfl;have p6:=HX.out.cell 6 _ rfl
   go_wp2_with fail
   clear p0 p1 p2 p3 p4 p5 p6;refine (Fw _ _ P (HV.out.below zO.out.zz.kept.below) HG.out).mono ?_;rintro e w8 ⟨rfl,YI⟩;rw [l5.out];dsimp only;have T8:=Turn.of_below q6 8 YI;replace zO:=Lib.hid (zO.out.quiet T8);generalize ext q6 w7.heap.size 8=q8 at *;clear T8 YI HX;obtain ⟨n,hn⟩:∃ x,L.length=x:=⟨_,rfl⟩
   have HN:=Lib.hid hn;rw [hn] at HS Us ⊢;have Y4:=Lib.hid (show Inv P S 0 0 (newP P) from ⟨K8 G6.out WM.out HSF.out,Bo.new wL.out,S.toNat - 1,by have:=rest_start G6.out;omega,AX G6.out⟩);have hSb:=rest_start G6.out;have HSB:Hid (1≤S∧S≤131072):=Lib.hid ⟨hSb.1,hSb.2.1⟩;clear hn hSb hP
   go_wp2_with fail
   go_loopw [12,13] (fun x12 x13 wl=>∃ (i s:Nat) (l:Int) (q:Col) (m:aH) (v:bV) (z:eG),i≤n∧x13=.int .i64 i∧x12=.int .i64 l∧l=262144 - (s:Int)∧s≤262144∧Twin w wl q b b' P m v z∧Inv P S (jK (L.take i)) s m) (fun _ x13 _=>n - (intOf x13).toNat)
   case atStart=>exact ⟨0,0,262144,q8,newP P,v4,z5,Nat.zero_le _,rfl,rfl,rfl,by decide,zO.out,Y4.out⟩
   case round =>
    clear zO Y4;obtain ⟨i,s,l,q,m,v,z,hi,rfl,rfl,hl,hs,hT,hI⟩:=hrel;have zO:=Lib.hid hT;have Y4:=Lib.hid hI;clear hT hI
    by_cases hlt:i < n
    ·
     have dG:(i:Int) < n:=by omega
     have hlL:i < L.length:=by rw [HN.out];exact hlt
     obtain ⟨b0,off,rfl,hcap,hb0,hrec⟩:=HS.out.at (by omega);obtain ⟨cs,hcs,AO,hcl⟩:=hrec i hlL;obtain ⟨y,rfl,hst⟩:=AO;have c0:=cell_later zO.out.zz.kept.below (hcl 0 (by omega));have c1:=cell_later zO.out.zz.kept.below (hcl 1 (by omega));have c2:=cell_later zO.out.zz.kept.below (hcl 2 (by omega));simp [Cb] at c0 c1 c2;have iK:(n:Int)≤sc:=by have:=HN.out;omega
     have aaD:=IW hlL;have adh:=OU L (i+1);have hfc:=Te.out _ (List.getElem_mem hlL);obtain ⟨c,hc⟩:∃ x,L[i]=x:=⟨_,rfl⟩
     rw [hc] at c0 c1 hst aaD hfc;have HST:=Lib.hid hst;have HSU:=Lib.hid aaD;have HFC:=Lib.hid hfc;have htk:jK (L.take i)+c.tokens.length≤17600000000000:=by have:=wJ.out;omega
     have HTI:=Lib.hid htk;have hcn:=Tj c (S:=S) (by have:=HSB.out;omega);have hcb:mI c S≤8*131072:=by
      have hb:=HSB.out;unfold mI
      split
      ·
       decide
      ·
       split
       ·
        rename_i hn
        exact Int.mul_le_mul hn.2.2 hb.2 (by omega) (by omega)
       ·
        decide
     obtain ⟨C,hC⟩:∃ x,mI c S=x:=⟨_,rfl⟩
     rw [hC] at hcn hcb;have HC:=Lib.hid hC;have hwr:IntKind.i64.wrap (l - C)=l - C:=IntWalk.i64_in _ (by omega);obtain ⟨l2,hl2⟩:∃ x,l - C=x:=⟨_,rfl⟩
     rw [hl2] at hwr;have HLS:=Lib.hid (And.intro hl hl2);clear hst aaD adh hfc htk hc hC hcl hcs hrec
     go_wp2_with fail
     refine (Ue _ c y S HSB.out).mono ?_;rintro e w1 ⟨rfl,hb1⟩;have T1:=Turn.of_below q 8 hb1;replace zO:=Lib.hid (zO.out.quiet T1);have d0:=cell_later hb1 c0;have d1:=cell_later hb1 c1;have d2:=cell_later hb1 c2;rw [HC.out];generalize ext q wr.heap.size 8=q1 at *;clear T1 hb1 c0 c1 c2
     by_cases hneg:l2 < 0
     ·
      have hng:(l2 < 0)=True:=eq_true hneg
      go_wp2_with fail
      refine (xW _).mono ?_;rintro e w2 ⟨rfl,hb2⟩;have HF:=Lib.hid (zO.out.zz.kept.below.trans (hb2.mono zO.out.zz.kept.below.size));clear hb2;go_wp2;go_ret
      exact ⟨rfl,HF.out⟩
     ·
      go_wp2_with fail
      have hkp:=Y4.out.kp;have hpp:=wL.out;have hok:=Y4.out.ok;have hl1:=hok.mem;have hl2:=hok.lines;have hl3:=hok.bH;obtain ⟨dd0,-,hrs⟩:=hok.ctl;have hl4:m.cs.length=P.counters.toNat:=(zU hrs).1;have hq1:=hpp.mem;have hq2:=hpp.counters;have hq3:=hpp.rH;have hq4:=hpp.AR;refine (OE zO.out G6.out WM.out Y4.out (by omega) c HST.out HTI.out HFC.out.1 ⟨by omega,by omega,by omega,by omega⟩).mono ?_;rintro e w2 ⟨rfl,q2,v2,z2,T2,Yc⟩;have adi:=Lib.hid Yc;clear T2 Yc;have adj:=Lib.hid (Y4.out.does G6.out WM.out c HFC.out.2)
      go_wp2_with fail
      have hwi:wrap64 ((i:Int)+1)=((i+1:Nat):Int):=by rw [IntWalk.wrap64_in _ (by have:=Us.out;omega)];rfl
      rw [hwi];refine ⟨⟨i+1,s+C.toNat,262144 - (s:Int) - C,q2,_,v2,z2,hlt,rfl,rfl,by omega,by omega,adi.out,?_⟩,?_⟩
      ·
       have h:=adj.out;rw [HC.out] at h;rw [HSU.out];exact h
      ·
       show n - (i+1) < n - i
       exact Nat.sub_lt_sub_left hlt (Nat.lt_succ_self i)
    ·
     have dG:¬ (i:Int) < n:=by omega
     go_wp2_with fail
     refine (xW _).mono ?_;rintro e w1 ⟨rfl,hb1⟩;have T1:=Turn.of_below q 8 hb1;replace zO:=Lib.hid (zO.out.quiet T1);generalize ext q wr.heap.size 8=q1 at *;clear T1 hb1
     go_wp2_with fail
     have hpp:=wL.out;have hok:=Y4.out.ok;have hl1:=hok.mem;have hl2:=hok.lines;have hl3:=hok.bH;obtain ⟨dd0,-,hrs⟩:=hok.ctl;have hl4:m.cs.length=P.counters.toNat:=(zU hrs).1;have hq1:=hpp.mem;have hq2:=hpp.counters;have hq3:=hpp.rH;have hq4:=hpp.AR;refine (OQ zO.out hpp hok.out hok.bH (fun r hr=>by have:=(hok.uE r hr).1;omega) ⟨by omega,by omega,by omega,by omega⟩).mono ?_;rintro e w2 ⟨rfl,hb2⟩;have HF:=Lib.hid hb2;clear hb2;go_wp2;go_ret
     exact ⟨rfl,HF.out⟩
end Go.Proofs.YtpdlngonocancaaGreat
namespace Go.Proofs.YtpdlngonocancaaGreat
open Go.ChangeShapes Go.WideShapes Go.ChangeAt Go.RowKit Go.Deep
def yo (w:World)(v:Value)(zs:List Int):Prop :=
 ∃ ao cap,v=.slice ao zs.length cap∧zs.length≤cap∧cap≤maxLen∧(ao=none→zs.length=0)∧(∀ n∈zs,-9223372036854775808≤n∧n≤9223372036854775807) ∧
  ∀ ad,ao=some ad→∀ j u,(zs.map (Value.int .i64))[j]?=some u→w.cell? (ad.add j)=some u
theorem wf_i64 {n:Int}(h:(Lit.int .i64 n).wf=true):-9223372036854775808≤n∧n≤9223372036854775807:=by
 simp [Lit.wf] at h;have h1:IntKind.i64.min = -9223372036854775808:=rfl;have h2:IntKind.i64.max=9223372036854775807:=rfl;omega
def Ug {H:Type}(d:DataW H)(n:Nat):Prop:=(d=.nil∧n=0)∨∃ el sp,d=.slice el sp∧el.length=n
theorem FB {P:Program}{H:Type}{enc:TypeId × Value→H}{W:World}{t e:TypeId}{v:Value}{d:DataW H}{p:List MemPlace}(ht:P.underlying t=some (.slice e))(he:P.underlying e=some (.int .i64))(hc:P.cellsOf e=1)
  (hv:∃ a len cap,v=.slice a len cap) (h:DataW.Trod enc P W 0 (fun _=>true) true t v d p):∃ zs,yo W v zs∧Ug d zs.length:=by
 obtain ⟨a1,Uh,adk,rfl⟩:=hv;obtain ⟨fuel,hf⟩:=h
 rcases open_ints ht he hc hf with ⟨hcs,hx⟩ | ⟨x,l,c,zs,hcs,_,hl,hm,hz,hx,hcell,hwz⟩
 ·
  simp [Value.cells] at hcs;obtain ⟨rfl,rfl,rfl⟩:=hcs;obtain rfl:d=.nil:=congrArg Prod.fst hx;exact ⟨[],⟨none,0,rfl,Nat.le_refl _,Nat.zero_le _,fun _=>rfl,by simp,fun _ h=>by cases h⟩,.inl ⟨rfl,rfl⟩⟩
 ·
  simp [Value.cells] at hcs;obtain ⟨rfl,rfl,rfl⟩:=hcs;simp at hz;obtain rfl:d=_:=congrArg Prod.fst hx;have hlen:(zs.take Uh).length=Uh:=by rw [List.length_take];omega
  refine ⟨zs.take Uh,⟨some x,adk,by rw [hlen],by omega,hm,(fun h=>by cases h),fun n hn=>?_,?_⟩,.inr ⟨_,_,rfl,by simp [lits]⟩⟩
  ·
   exact wf_i64 (hwz n (List.mem_of_mem_take hn))
  ·
   intro ad had j u hu;obtain rfl:=Option.some.inj had;have hj:j < Uh:=by have:=(List.getElem?_eq_some_iff.1 hu).1;simp at this;omega
   have hcz:=hcell j (by omega);rw [hcz];have:((zs.take Uh).map (Value.int .i64))[j]?=some (.int .i64 (zs.getD j 0)):=by
    simp [hj,show j < zs.length by omega]
   rw [this] at hu;exact hu
theorem yo.has {W:World}{v:Value}{zs:List Int}(h:yo W v zs):Has W v (aV zs):=by
 obtain ⟨ao,cap,rfl,h1,h2,h3,h4,h5⟩:=h
 by_cases hp:0 < zs.length
 ·
  cases ao with
  | none=>have:=h3 rfl;omega
  | some a =>
   have hc:∀ i,i < zs.length→W.cell? (a.add i)=some (.int .i64 (zs.getD i 0)):=fun i hi=>h5 a rfl i _ (by simp [hi])
   obtain ⟨b,off,rfl,hcell⟩:=ints_at hc hp;refine .inr ⟨by simpa using hp,b,off,cap,by simp,by simpa using h1,World.block_lt_of_cell? _ _ (hcell 0 hp),rfl,fun k hk=>?_⟩;have hk':k < zs.length:=by simpa using hk
   have:=hcell k hk'
   simpa [hk'] using this
 ·
  obtain rfl:zs=[]:=List.eq_nil_of_length_eq_zero (by omega);exact .inl ⟨rfl,ao,cap,rfl⟩
theorem yo.fits {W:World}{v:Value}{zs:List Int}(h:yo W v zs):∀ n∈zs,-9223372036854775808≤n∧n≤9223372036854775807:=h.choose_spec.choose_spec.2.2.2.2.1
theorem nM {P:Program}{H:Type}{enc:TypeId × Value→H}{W:World}{t e:TypeId}{x:Value}{fuel:Nat}{y:DataW H × List MemPlace}(ht:P.underlying t=some (.slice e))(he:P.underlying e=some (.int .i64))(hc:P.cellsOf e=1)
  (h:DataW.trod enc P W 0 (fun _=>true) true fuel t [x]=some y):∃ zs,yo W x zs∧Ug y.1 zs.length:=by
 have hx:∃ a len cap,x=.slice a len cap:=by
  rcases open_ints ht he hc h with ⟨hcs,_⟩ | ⟨a,len,cap,zs,hcs,_⟩
  ·
   exact ⟨_,_,_,List.head_eq_of_cons_eq hcs⟩
  ·
   exact ⟨_,_,_,List.head_eq_of_cons_eq hcs⟩
 obtain ⟨a,len,cap,rfl⟩:=hx;exact FB (d:=y.1) (p:=y.2) ht he hc ⟨_,_,_,rfl⟩ ⟨fuel,by simpa [Value.cells] using h⟩
theorem qO {H:Type}{P:Program}{e:TypeId}{d:DataW H}{x:Nat}:∀ {l:List (DataW H)},d∈l→x∈d.weights P e→x∈DataW.weightsAll P e l
 | [],h,_=>by cases h
 | a :: l,h,hx=>by
  simp only [DataW.weightsAll,List.mem_append]
  rcases List.mem_cons.1 h with rfl | h
  ·
   exact .inl hx
  ·
   exact .inr (qO h hx)
def Light {H:Type}(P:Program)(t:TypeId)(d:DataW H):Prop:=∀ x∈d.weights P t,x≤reachBytes
theorem OW {H:Type}{P:Program}{t e:TypeId}{d:DataW H}{n B:Nat}(h:∀ x∈d.weights P t,x≤B)(hd:Ug d n)(hu:P.underlying t=some (.slice e)):n*P.bytesOf e≤B:=by
 rcases hd with ⟨rfl,rfl⟩ | ⟨el,sp,rfl,rfl⟩
 ·
  simp
 ·
  have:=h ((el.length+sp.length)*P.bytesOf e) (by simp [DataW.weights,hu]);exact Nat.le_trans (Nat.mul_le_mul_right _ (by omega)) this
theorem Light.len {H:Type}{P:Program}{t e:TypeId}{d:DataW H}{n:Nat}(h:Light P t d)(hd:Ug d n)(hu:P.underlying t=some (.slice e)):n*P.bytesOf e≤reachBytes:=OW h hd hu
section
variable {H:Type}
theorem Ui (d:DataW H):1≤Rows.uptoBulk d:=by
 cases d with
 | lit l=>cases l <;> simp [Rows.uptoBulk]
 | nil=>simp [Rows.uptoBulk]
 | ptr d=>simp [Rows.uptoBulk]
 | slice elems spare=>simp [Rows.uptoBulk]
 | agg parts=>simp [Rows.uptoBulk]
 | iface t d=>simp [Rows.uptoBulk]
 | map entries=>simp [Rows.uptoBulk]
 | held h=>simp [Rows.uptoBulk]
theorem tF {d:DataW H}:∀ {l:List (DataW H)},d∈l→Rows.uptoBulk d≤Rows.uptoBulkAll l
 | [],h=>by cases h
 | x :: r,h=>by
  simp only [Rows.uptoBulkAll]
  rcases List.mem_cons.1 h with rfl | h
  ·
   omega
  ·
   have:=tF h;omega
theorem Cc:∀ l:List (DataW H),l.length≤Rows.uptoBulkAll l
 | []=>by simp [Rows.uptoBulkAll]
 | x :: r=>by have:=Ui x;have:=Cc r;simp only [Rows.uptoBulkAll,List.length_cons];omega
def LW (P:Program)(S:List TypeId)(t:TypeId):Bool :=
 match P.underlying t with
 | some (.slice e)=>S.contains e && decide (P.bytesOf e≤64)
 | some (.struct fs)=>fs.toList.all fun f=>S.contains f.type
 | some (.int _)=>true
 | some .string=>true
 | _=>false
theorem yt {P:Program}{e:TypeId}{x:Nat}:∀ {l:List (DataW H)},x∈DataW.weightsAll P e l→∃ d∈l,x∈d.weights P e
 | [],h=>by simp [DataW.weightsAll] at h
 | d :: r,h=>by
  simp only [DataW.weightsAll,List.mem_append] at h
  rcases h with h | h
  ·
   exact ⟨d,List.mem_cons_self,h⟩
  ·
   obtain ⟨y,h1,h2⟩:=yt h;exact ⟨y,List.mem_cons_of_mem _ h1,h2⟩
theorem Ce {P:Program}{x:Nat}:∀ {ts:List TypeId} {l:List (DataW H)},x∈DataW.weightsEach P ts l→∃ d∈l,∃ t∈ts,x∈d.weights P t
 | [],l,h=>by cases l <;> simp [DataW.weightsEach] at h
 | t :: ts,[],h=>by simp [DataW.weightsEach] at h
 | t :: ts,d :: r,h=>by
  simp only [DataW.weightsEach,List.mem_append] at h
  rcases h with h | h
  ·
   exact ⟨d,List.mem_cons_self,t,List.mem_cons_self,h⟩
  ·
   obtain ⟨y,h1,u,h2,h3⟩:=Ce h;exact ⟨y,List.mem_cons_of_mem _ h1,u,List.mem_cons_of_mem _ h2,h3⟩
theorem IX {P:Program}{S:List TypeId}(hS:∀ t∈S,LW P S t=true):∀ (n:Nat) (d:DataW H) (t:TypeId),SizeOf.sizeOf d≤n→t∈S→∀ x∈d.weights P t,x≤Rows.uptoBulk d*64
 | 0,d,_,hn,_,_,_=>by cases d <;> simp at hn
 | n+1,d,t,hn,ht,x,hx=>by
  have hs:=hS t ht;unfold LW at hs;cases d with
  | lit l =>
   cases l with
   | string b =>
    simp [DataW.weights] at hx;simp only [Rows.uptoBulk];omega
   | _=>simp [DataW.weights] at hx
  | nil=>simp [DataW.weights] at hx
  | ptr d =>
   simp only [DataW.weights] at hx
   split at hx
   ·
    rename_i e he
    rw [he] at hs;simp at hs
   ·
    cases hx
  | slice el sp =>
   simp only [DataW.weights] at hx
   split at hx
   ·
    rename_i e he
    rw [he] at hs;simp only [Bool.and_eq_true,List.contains_iff_mem,decide_eq_true_eq] at hs;simp only [Rows.uptoBulk];have l1:=Cc el;have l2:=Cc sp
    rcases List.mem_cons.1 hx with rfl | hx
    ·
     have h1:(el.length+sp.length)*P.bytesOf e≤(el.length+sp.length)*64:=Nat.mul_le_mul_left _ hs.2;omega
    ·
     rcases List.mem_append.1 hx with hx | hx
     ·
      obtain ⟨y,hy,hxy⟩:=yt hx;have:=List.sizeOf_lt_of_mem hy;have h1:=IX hS n y e (by simp at hn;omega) hs.1 x hxy;have:=tF hy;omega
     ·
      obtain ⟨y,hy,hxy⟩:=yt hx;have:=List.sizeOf_lt_of_mem hy;have h1:=IX hS n y e (by simp at hn;omega) hs.1 x hxy;have:=tF hy;omega
   ·
    cases hx
  | agg ps =>
   simp only [DataW.weights] at hx
   split at hx
   ·
    rename_i fs he
    rw [he] at hs;simp only [List.all_eq_true,List.contains_iff_mem] at hs;obtain ⟨y,hy,u,hu,hxy⟩:=Ce hx;obtain ⟨f,hf,rfl⟩:=List.mem_map.1 hu;have:=List.sizeOf_lt_of_mem hy;have h1:=IX hS n y f.type (by simp at hn;omega) (hs f hf) x hxy;have:=tF hy;simp only [Rows.uptoBulk];omega
   ·
    rename_i e he
    rw [he] at hs;simp at hs
   ·
    cases hx
  | iface u d=>simp [DataW.weights] at hx
  | map es =>
   simp only [DataW.weights] at hx
   split at hx
   ·
    rename_i k e he
    rw [he] at hs;simp at hs
   ·
    cases hx
  | held h=>simp [DataW.weights] at hx
theorem CJ {P:Program}{S:List TypeId}(hS:S.all (LW P S)=true){d:DataW H}{t:TypeId}(ht:t∈S)(hb:Rows.uptoBulk d≤1048576):Light P t d:=fun x hx=>by
 have h:=IX (fun t ht=>List.all_eq_true.1 hS t ht) _ d t (Nat.le_refl _) ht x hx;have h2:reachBytes=140737488351232:=rfl;omega
end
section
variable {H:Type} {enc:TypeId × Value→H} {W:World}
abbrev gW (enc:TypeId × Value→H) (W:World) (fuel:Nat) (t:TypeId) (cs:List Value) (y:DataW H × List MemPlace):Prop:=DataW.trod enc Tryz.prog W 0 (fun _=>true) true fuel t cs=some y
theorem jd:Tryz.prog.cellsOf 3=1:=by kernel_rfl
theorem yu:Tryz.prog.cellsOf 42=1:=by kernel_rfl
theorem IY:Tryz.prog.bytesOf 3=8:=by kernel_rfl
theorem tH:reachBytes=140737488351232:=rfl
theorem LX {B:Nat}{t:TypeId}{fs:Array Field}{xs:List (DataW H × List MemPlace)}(ht:Tryz.prog.underlying t=some (.struct fs))(hL:∀ x∈(DataW.agg (xs.map (·.1))).weights Tryz.prog t,x≤B){i:Nat}{f:Field}{y:DataW H × List MemPlace}(hf:fs[i]?=some f)(hy:xs[i]?=some y):∀ x∈y.1.weights Tryz.prog f.type,x≤B:=fun x hx=>hL x (by
 simp only [DataW.weights,ht];have h1:(fs.toList.map (·.type))[i]?=some f.type:=by simp [hf]
 have h2:(xs.map (·.1))[i]?=some y.1:=by simp [hy]
 exact DataW.weights_mem_each h1 h2 x hx)
theorem nO {t:TypeId}{fs:Array Field}{xs:List (DataW H × List MemPlace)}(ht:Tryz.prog.underlying t=some (.struct fs))(hL:Light Tryz.prog t (.agg (xs.map (·.1)))){i:Nat}{f:Field}{y:DataW H × List MemPlace}(hf:fs[i]?=some f)(hy:xs[i]?=some y):Light Tryz.prog f.type y.1:=LX ht hL hf hy
theorem qH {fuel:Nat}{x:Value}{y:DataW H × List MemPlace}(h:gW enc W fuel 3 [x] y):∃ n,x=.int .i64 n:=by
 obtain ⟨n,h1,_⟩:=DataW.trod_int Tryz.underlying3 h;exact ⟨n,by simpa using h1⟩
theorem Uj {cs:List Value}{n i:Nat}(hl:cs.length=n)(hi:i < n):cs[i]?=some (cs[i]?.getD undef):=by
 rw [List.getElem?_eq_getElem (by omega)];rfl
theorem Uk {H:Type}{P:Program}{B:Nat}{t e:TypeId}{d:DataW H}{n:Nat}(h:∀ x∈d.weights P t,x≤B)(hd:Ug d n)(hu:P.underlying t=some (.slice e)):n*P.bytesOf e≤B:=by
 rcases hd with ⟨rfl,rfl⟩ | ⟨el,sp,rfl,rfl⟩
 ·
  simp
 ·
  have:=h ((el.length+sp.length)*P.bytesOf e) (by simp [DataW.weights,hu]);exact Nat.le_trans (Nat.mul_le_mul_right _ (by omega)) this
theorem wI {B:Nat}{α:Type}{R:World→α→List Value→Prop}{Z:α→Prop}{t e:TypeId}{sz:Nat}{fuel:Nat}{x:Value}{y:DataW H × List MemPlace}(ht:Tryz.prog.underlying t=some (.slice e))(hc:Tryz.prog.cellsOf e=sz)(hsz:0 < sz)
  (el:∀ (fuel:Nat) (cs:List Value) (y:DataW H × List MemPlace),cs.length=sz→gW enc W fuel e cs y→∃ a:α,R W a cs∧((∀ x∈y.1.weights Tryz.prog e,x≤B)→Z a)) (h:gW enc W fuel t [x] y) :
  ∃ l:List α,kR W sz R x l∧((∀ x∈y.1.weights Tryz.prog t,x≤B)→l.length*Tryz.prog.bytesOf e≤B∧∀ a∈l,Z a):=by
 rcases open_slice ht h with ⟨hcs',hx⟩ | ⟨a,len,cap,m,n,D,Pl,hcs',_,hl,hm,hmm,hx,hel⟩
 ·
  obtain rfl:x=.slice none 0 0:=List.head_eq_of_cons_eq hcs';exact ⟨[],.inl ⟨rfl,_,_,rfl⟩,fun _=>⟨by simp,by simp⟩⟩
 ·
  obtain rfl:=List.head_eq_of_cons_eq hcs';simp at hmm;have each:∀ j,j < len→∃ q:α × List Value,q.2.length=sz∧R W q.1 q.2∧((∀ x∈(D j).weights Tryz.prog e,x≤B)→Z q.1)∧∀ i,i < sz→W.cell? ((a.add (j*sz)).add i)=some (q.2[i]?.getD undef):=by
   intro j hj;obtain ⟨cs',hcells,htr⟩:=hel j (by omega);rw [hc] at hcells;obtain ⟨_,hll,hev⟩:=World.cells?_some hcells;obtain ⟨q,h1,h2⟩:=el _ _ _ hll htr;exact ⟨(q,cs'),hll,h1,h2,fun i hi=>(hev i hi).trans (Uj hll hi)⟩
  by_cases hp:0 < len
  ·
   haveI:Inhabited (α × List Value):=⟨(each 0 hp).choose⟩
   obtain ⟨Q,hQ⟩:=choose_lt (α:=α × List Value) (p:=fun j q=>q.2.length=sz∧R W q.1 q.2∧((∀ x∈(D j).weights Tryz.prog e,x≤B)→Z q.1)∧∀ i,i < sz→W.cell? ((a.add (j*sz)).add i)=some (q.2[i]?.getD undef)) each;have hd:y.1=_:=congrArg Prod.fst hx;refine ⟨(List.range len).map fun j=>(Q j).1,.inr ?_,fun hL=>⟨Uk hL (n:=((List.range len).map fun j=>(Q j).1).length) (.inr ⟨_,_,hd,by simp⟩) ht,fun z hz=>?_⟩⟩;rotate_left
   ·
    simp only [List.mem_map,List.mem_range] at hz;obtain ⟨j,hj,rfl⟩:=hz;exact (hQ j hj).2.2.1 fun x hx=>hL x (by
     rw [hd];simp only [DataW.weights,ht];exact List.mem_cons_of_mem _ (List.mem_append_left _ (qO (List.mem_map.2 ⟨j,List.mem_range.2 hj,rfl⟩) hx)))
   have hsp:a.spot=none:=by
    have:=World.cell?_spot ((hQ 0 hp).2.2.2 0 hsz)
    simpa [Addr.add] using this
   obtain ⟨b,off,spot⟩:=a;simp at hsp;subst hsp;refine ⟨by simpa using hp,b,off,cap,by simp,by simp;omega,?_,fun k hk=>?_⟩
   ·
    have:=World.block_lt_of_cell? _ _ ((hQ 0 hp).2.2.2 0 hsz)
    simpa [Addr.add] using this
   ·
    have hk':k < len:=by simpa using hk
    obtain ⟨e1,e2,_,e4⟩:=hQ k hk';refine ⟨(Q k).2,e1,by simpa [hk'] using e2,fun i hi=>?_⟩;have:=e4 i hi;simp only [Addr.add_lit] at this;exact this
  ·
   obtain rfl:len=0:=by omega
   exact ⟨[],.inl ⟨rfl,some a,cap,rfl⟩,fun _=>⟨by simp,by simp⟩⟩
theorem yw {α:Type}{R:World→α→List Value→Prop}{Z:α→Prop}{t e:TypeId}{sz:Nat}{fuel:Nat}{x:Value}{y:DataW H × List MemPlace}(ht:Tryz.prog.underlying t=some (.slice e))(hc:Tryz.prog.cellsOf e=sz)(hsz:0 < sz)
 (el:∀ (fuel:Nat) (cs:List Value) (y:DataW H × List MemPlace),cs.length=sz→gW enc W fuel e cs y→∃ a:α,R W a cs∧(Light Tryz.prog e y.1→Z a)) (h:gW enc W fuel t [x] y) :
 ∃ l:List α,kR W sz R x l∧(Light Tryz.prog t y.1→l.length*Tryz.prog.bytesOf e≤reachBytes∧∀ a∈l,Z a):=wI ht hc hsz el h
end
section
variable {H:Type} {enc:TypeId × Value→H} {W:World}
theorem IZ {fuel:Nat}{x:Value}{y:DataW H × List MemPlace}(h:gW enc W fuel 42 [x] y):∃ l,Has W x (aV l)∧(∀ n∈l,Fits n)∧(Light Tryz.prog 42 y.1→l.length≤17600000000000):=by
 obtain ⟨l,h1,h2⟩:=nM Tryz.underlying42 Tryz.underlying3 jd h;refine ⟨l,h1.has,h1.fits,fun hL=>?_⟩;have:=hL.len h2 Tryz.underlying42;rw [IY] at this;have h3:=tH;omega
theorem XC {fuel:Nat}{cs:List Value}{y:DataW H × List MemPlace}(hl:cs.length=2)(h:gW enc W fuel 50 cs y):∃ a:eu,tQ iU eu.params W a cs∧(Light Tryz.prog 50 y.1→a.params.length≤17600000000000∧∀ n∈a.params,Fits n):=by
 obtain ⟨xs,n,_,rfl,_,hlen,hf⟩:=DataW.trod_struct Tryz.underlying50 h
 match cs,hl,xs,hlen with
 | [x0,x1],_,[y0,y1],_ =>
  have h0:gW enc W n 48 [x0] y0:=by simpa [show Tryz.prog.cellsOf 48=1 by kernel_rfl] using hf 0 _ rfl
  have h1:gW enc W n 42 [x1] y1:=by simpa [yu] using hf 1 _ rfl
  obtain ⟨tg,t1,_⟩:=DataW.trod_int Tryz.underlying48 h0;obtain rfl:x0=.int .u8 tg:=by simpa using t1
  obtain ⟨l,l1,l2,l3⟩:=IZ h1;exact ⟨⟨tg,l⟩,⟨x1,rfl,l1⟩,fun hL=>⟨l3 (nO Tryz.underlying50 (xs:=[y0,y1]) hL (i:=1) rfl rfl),l2⟩⟩
theorem XD {fuel:Nat}{cs:List Value}{y:DataW H × List MemPlace}(hl:cs.length=3)(h:gW enc W fuel 54 cs y):∃ a:dN,tQ iV dN.start W a cs∧(Light Tryz.prog 54 y.1→a.start.length≤17600000000000∧∀ n∈a.start,Fits n):=by
 obtain ⟨xs,n,_,rfl,_,hlen,hf⟩:=DataW.trod_struct Tryz.underlying54 h
 match cs,hl,xs,hlen with
 | [x0,x1,x2],_,[y0,y1],_ =>
  have h0:gW enc W n 52 [x0,x1] y0:=by simpa [show Tryz.prog.cellsOf 52=2 by kernel_rfl] using hf 0 _ rfl
  have h1:gW enc W n 42 [x2] y1:=by simpa [yu] using hf 1 _ rfl
  obtain ⟨zs,n2,_,-,_,Qe,hf2⟩:=DataW.trod_struct Tryz.underlying52 h0
  match zs,Qe with
  | [z0,z1],_ =>
   have g0:gW enc W n2 3 [x0] z0:=by simpa [jd] using hf2 0 _ rfl
   have g1:gW enc W n2 3 [x1] z1:=by simpa [jd] using hf2 1 _ rfl
   obtain ⟨n0,rfl⟩:=qH g0;obtain ⟨n1,rfl⟩:=qH g1;obtain ⟨l,l1,l2,l3⟩:=IZ h1;exact ⟨⟨n0,n1,l⟩,⟨x2,rfl,l1⟩,fun hL=>⟨l3 (nO Tryz.underlying54 (xs:=[y0,y1]) hL (i:=1) rfl rfl),l2⟩⟩
theorem abU {fuel:Nat}{cs:List Value}{y:DataW H × List MemPlace}(hl:cs.length=3)(h:gW enc W fuel 58 cs y):∃ a:fG,cs=Qv a∧(Light Tryz.prog 58 y.1→True):=by
 obtain ⟨xs,n,_,rfl,_,hlen,hf⟩:=DataW.trod_struct Tryz.underlying58 h
 match cs,hl,xs,hlen with
 | [x0,x1,x2],_,[y0,y1,y2],_ =>
  have h0:gW enc W n 56 [x0] y0:=by simpa [show Tryz.prog.cellsOf 56=1 by kernel_rfl] using hf 0 _ rfl
  have h1:gW enc W n 3 [x1] y1:=by simpa [jd] using hf 1 _ rfl
  have h2:gW enc W n 3 [x2] y2:=by simpa [jd] using hf 2 _ rfl
  obtain ⟨tg,t1,_⟩:=DataW.trod_int Tryz.underlying56 h0;obtain rfl:x0=.int .u8 tg:=by simpa using t1
  obtain ⟨n1,rfl⟩:=qH h1;obtain ⟨n2,rfl⟩:=qH h2;exact ⟨⟨tg,n1,n2⟩,rfl,fun _=>trivial⟩
theorem I4 {v:Value}{l:List fG}(hs:∀ a n c,v=.slice (some a) n c→a.spot=none)(h:kR W 3 (fun _ (a:fG) cs=>cs=Qv a) v l):eB W v l:=by
 rcases h with ⟨rfl,ao,cap,rfl⟩ | ⟨hp,b,off,cap,rfl,hcap,hlt,hel⟩
 ·
  refine ⟨ao,cap,rfl,fun _=>rfl,⟨Nat.zero_le _,fun ad e=>?_⟩,fun ad e j u hu=>by simp [opsV] at hu⟩;subst e;exact hs _ _ _ rfl
 ·
  refine ⟨some ⟨b,off,none⟩,cap,rfl,(fun h=>by cases h),⟨hcap,fun ad e=>by cases e;rfl⟩,fun ad e j u hu=>?_⟩;cases e
  have hj:j < l.length*3:=by
   have:=(List.getElem?_eq_some_iff.1 hu).1
   rwa [ny] at this
  obtain ⟨k,i,hk,hi,rfl⟩:∃ k i,k < l.length∧i < 3∧j=k*3+i:=⟨j / 3,j % 3,by omega,by omega,by omega⟩
  obtain ⟨cs,_,rfl,hc⟩:=hel k hk;have hc:=hc i hi;obtain ⟨g0,g1,g2⟩:=qZ l k hk;rw [Addr.add_lit,← Nat.add_assoc,hc];have:(Qv l[k])[i]?=some u:=by
   match i,hi with
   | 0,_=>rw [← hu];exact g0.symm
   | 1,_=>rw [← hu];exact g1.symm
   | 2,_=>rw [← hu];exact g2.symm
  rw [this];rfl
theorem Ul {base:Nat}{v:Value}(h:Value.okWide Tryz.prog W .any base 26 v):∃ cs,v=.agg cs∧cs.size=Tryz.prog.cellsOf 26∧∀ a n c,cs[6]?=some (.slice (some a) n c)→a.spot=none:=by
 unfold Value.okWide at h;rw [Tryz.underlying26] at h;obtain ⟨cs,e,hs,ts,ht,_,hr⟩:=h;refine ⟨cs,e,hs,fun a n c hc=>?_⟩;obtain ⟨u,hu,hk⟩:=hr 6 _ hc;have:ts=[3,3,3,3,22,23,24]:=Option.some.inj (ht.symm.trans (by kernel_rfl));subst this;obtain rfl:24=u:=Option.some.inj hu;unfold Cell.okWide at hk;rw [Tryz.underlying24] at hk;unfold Cell.ok at hk;rw [Tryz.underlying24] at hk;exact hk.2.2.2.1
theorem OX {base:Nat}{v:Value}{d:DataW H}{p:List MemPlace}(hv:Value.okWide Tryz.prog W .any base 26 v)(h:DataW.Trod enc Tryz.prog W 0 (fun _=>true) true 26 v d p):∃ g,bO W v g∧(Light Tryz.prog 26 d→xU g∧iM g∧Gz g):=by
 obtain ⟨cs,rfl,hsz,hspot⟩:=Ul hv;obtain ⟨fuel,hf0⟩:=h;rw [show Tryz.prog.cellsOf 26=7 by kernel_rfl] at hsz;obtain ⟨xs,n,_,hx,_,hlen,hf⟩:=DataW.trod_struct Tryz.underlying26 hf0;obtain ⟨l⟩:=cs
 match l,hsz,xs,hlen with
 | [x0,x1,x2,x3,x4,x5,x6],_,[y0,y1,y2,y3,y4,y5,y6],_ =>
  have h0:gW enc W n 3 [x0] y0:=by simpa [jd,Value.cells] using hf 0 _ rfl
  have h1:gW enc W n 3 [x1] y1:=by simpa [jd,Value.cells] using hf 1 _ rfl
  have h2:gW enc W n 3 [x2] y2:=by simpa [jd,Value.cells] using hf 2 _ rfl
  have h3:gW enc W n 3 [x3] y3:=by simpa [jd,Value.cells] using hf 3 _ rfl
  have h4:gW enc W n 22 [x4] y4:=by simpa [show Tryz.prog.cellsOf 22=1 by kernel_rfl,Value.cells] using hf 4 _ rfl
  have h5:gW enc W n 23 [x5] y5:=by simpa [show Tryz.prog.cellsOf 23=1 by kernel_rfl,Value.cells] using hf 5 _ rfl
  have h6:gW enc W n 24 [x6] y6:=by simpa [show Tryz.prog.cellsOf 24=1 by kernel_rfl,Value.cells] using hf 6 _ rfl
  have hd:d=.agg ([y0,y1,y2,y3,y4,y5,y6].map (·.1)):=congrArg Prod.fst hx;obtain ⟨m0,rfl⟩:=qH h0;obtain ⟨m1,rfl⟩:=qH h1;obtain ⟨m2,rfl⟩:=qH h2;obtain ⟨m3,rfl⟩:=qH h3;obtain ⟨la,a1,a2⟩:=yw (sz:=2) Tryz.underlying22 (by kernel_rfl) (by decide) (fun fuel cs y=>XC) h4;obtain ⟨le,e1,e2⟩:=yw (sz:=3) Tryz.underlying23 (by kernel_rfl) (by decide) (fun fuel cs y=>XD) h5;obtain ⟨lo,o1,o2⟩:=yw (R:=fun _ (a:fG) cs=>cs=Qv a) (sz:=3) Tryz.underlying24 (by kernel_rfl) (by decide) (fun fuel cs y=>abU) h6;refine ⟨⟨m0,m1,m2,m3,la,le,lo⟩,⟨_,_,_,rfl,a1,e1,I4 (fun a n c e=>hspot a n c (by rw [← e];rfl)) o1⟩,fun hL=>?_⟩;rw [hd] at hL;have a3:=a2 (nO Tryz.underlying26 hL (i:=4) rfl rfl);have e3:=e2 (nO Tryz.underlying26 hL (i:=5) rfl rfl);have o3:=o2 (nO Tryz.underlying26 hL (i:=6) rfl rfl);rw [show Tryz.prog.bytesOf 50=32 by kernel_rfl,tH] at a3;rw [show Tryz.prog.bytesOf 54=40 by kernel_rfl,tH] at e3;rw [show Tryz.prog.bytesOf 58=24 by kernel_rfl,tH] at o3;exact ⟨⟨by have:=a3.1;show la.length≤_;omega,by have:=e3.1;show le.length≤_;omega,by have:=o3.1;show lo.length≤_;omega,fun a ha=>(a3.2 a ha).1,fun a ha=>(e3.2 a ha).1⟩,fun a ha=>(a3.2 a ha).2,fun a ha=>(e3.2 a ha).2⟩
end
section
variable {H:Type} {enc:TypeId × Value→H} {W:World}
theorem KL {d:DataW H}(hb:Rows.uptoBulk d≤1048576):Light Tryz.prog 26 d :=
 CJ (S:=[26,3,22,23,24,50,54,58,48,56,42,52]) (by kernel_rfl) (by simp) hb
theorem XE {fuel:Nat}{cs:List Value}{y:DataW H × List MemPlace}(hl:cs.length=3)(h:gW enc W fuel 44 cs y):∃ a:kH,(tQ Cb kH.tokens W a cs∧Fits a.n∧∀ x∈a.tokens,Fits x)∧((∀ x∈y.1.weights Tryz.prog 44,x≤67108864)→a.tokens.length≤8388608):=by
 obtain ⟨xs,n,_,rfl,_,hlen,hf⟩:=DataW.trod_struct Tryz.underlying44 h
 match cs,hl,xs,hlen with
 | [x0,x1,x2],_,[y0,y1,y2],_ =>
  have h0:gW enc W n 3 [x0] y0:=by simpa [jd] using hf 0 _ rfl
  have h1:gW enc W n 3 [x1] y1:=by simpa [jd] using hf 1 _ rfl
  have h2:gW enc W n 42 [x2] y2:=by simpa [yu] using hf 2 _ rfl
  obtain ⟨wh,rfl⟩:=qH h0;obtain ⟨m,e1,e2⟩:=DataW.trod_int Tryz.underlying3 h1;obtain rfl:x1=.int .i64 m:=by simpa using e1
  obtain ⟨l,l1,l2⟩:=nM Tryz.underlying42 Tryz.underlying3 jd h2;refine ⟨⟨wh,m,l⟩,⟨⟨x2,rfl,l1.has⟩,wf_i64 e2.2,l1.fits⟩,fun hL=>?_⟩;have h3:=Uk (LX Tryz.underlying44 (xs:=[y0,y1,y2]) hL (i:=2) rfl rfl) l2 Tryz.underlying42;rw [IY] at h3;show l.length≤_
  omega
theorem Ed {B:Nat}:∀ {l:List kH},(∀ a∈l,a.tokens.length≤B)→jK l≤l.length*B
 | [],_=>by simp [jK]
 | x :: r,h=>by
  have h1:=Ed (l:=r) fun a ha=>h a (List.mem_cons_of_mem _ ha)
  have h2:=h x List.mem_cons_self;have e:jK (x :: r)=x.tokens.length+jK r:=by simp [jK]
  rw [e,List.length_cons,Nat.succ_mul];omega
theorem KM {v:Value}{d:DataW H}{p:List MemPlace}(hv:∃ a len cap,v=.slice a len cap)(h:DataW.Trod enc Tryz.prog W 0 (fun _=>true) true 27 v d p)(hb:Rows.uptoBulk d≤1048576) :
  ∃ L:List kH,kR W 3 (tQ Cb kH.tokens) v L∧L.length≤17600000000000∧jK L≤17600000000000∧∀ c∈L,Fits c.n∧∀ x∈c.tokens,Fits x:=by
 obtain ⟨a,len,cap,rfl⟩:=hv;obtain ⟨fuel,hf⟩:=h;obtain ⟨L,l1,l2⟩:=wI (B:=67108864) (R:=fun W (a:kH) cs=>tQ Cb kH.tokens W a cs∧Fits a.n∧∀ x∈a.tokens,Fits x) (Z:=fun a:kH=>a.tokens.length≤8388608) (sz:=3) (y:=(d,p)) (x:=.slice a len cap) Tryz.underlying27 (by kernel_rfl) (by decide) (fun fuel cs y=>XE) (fuel:=fuel) (by simpa [Value.cells] using hf);have hw:=l2 (fun x hx=>by
  have h1:=IX (P:=Tryz.prog) (S:=[3,42,44,27]) (fun t ht=>List.all_eq_true.1 (show [3,42,44,27].all (LW Tryz.prog [3,42,44,27])=true by kernel_rfl) t ht) _ d 27 (Nat.le_refl _) (by simp) x hx;omega)
 rw [show Tryz.prog.bytesOf 44=40 by kernel_rfl] at hw;have ht:=Ed hw.2;refine ⟨L,xu l1 (fun _ _ h=>h.1),by have:=hw.1;omega,by have:=hw.1;omega,?_⟩
 rcases l1 with ⟨rfl,-⟩ | ⟨-,b,off,cap,-,-,-,hel⟩
 ·
  simp
 ·
  intro c hc;obtain ⟨i,hi,rfl⟩:=List.mem_iff_getElem.1 hc;obtain ⟨cs,-,h2,-⟩:=hel i hi;exact h2.2
end
end Go.Proofs.YtpdlngonocancaaGreat
namespace Go.Proofs.YtpdlngonocancaaGreat.svmRuns
open Go.ChangeShapes Go.WideShapes Go.ChangeAt Go.RowKit
open Go.ChangeMaps (open_string shut_string)
theorem own:ownKnob Tryz.prog.godebug=none:=by kernel_rfl
theorem laidOut:laidOutB Tryz.prog=true:=by kernel_rfl
theorem contract (H:Type)(enc:TypeId × Value→H)(W:World)(base:Nat)(args:Array Value)(ds gs:List (DataW H))(before:List MemPlace)
  (hval:∀ (j:Nat) t v,Tryz.f3.params[j]?=some t→args[j]?=some v→Value.okWide Tryz.prog W .any base t v)
  (hW:DataW.Whole enc Tryz.prog Tryz.f3.params.toList Rows.svmRunsSpec.vars false W args.toList ds gs before) (hk:Rows.uptoSmall H (ds ++ gs)=true) :
  Calls Tryz.prog 3 args W fun e W'=>∃ v,e=.returned v∧Rows.svmRunsSpec.post enc Tryz.prog Tryz.f3 false true false false W args v W':=by
 have hW':=hW;obtain ⟨p,q,VZ,hV,rfl,hfz,hnd⟩:=hW;have hA:DataW.TrodAll enc Tryz.prog W 0 (fun _=>true) true Tryz.f3.params.toList args.toList ds p:=VZ;rw [Tryz.params3] at hA hval;obtain ⟨v0,vs0,d0,ds0,p0,q0,hargs,rfl,rfl,h0,r0⟩:=trodAll_cons hA;obtain ⟨v1,vs1,d1,ds1,p1,q1,rfl,rfl,rfl,h1,r1⟩:=trodAll_cons r0;obtain ⟨rfl,rfl,rfl⟩:=trodAll_nil r1;obtain rfl:args=#[v0,v1]:=by cases args;simp_all
 obtain ⟨rfl,rfl⟩:=trodVars_none hV;have hB:Rows.uptoBulkAll [d0,d1]≤1048576:=of_decide_eq_true (by simpa [Rows.uptoSmall] using hk);simp only [Rows.uptoBulkAll] at hB;have k0:=h0;have lt0:∀ x∈p0,x.block < W.heap.size:=by obtain ⟨m,hm⟩:=k0;exact DataW.trod_lt m _ _ _ hm
 have k1:=h1;have lt1:∀ x∈p1,x.block < W.heap.size:=by obtain ⟨m,hm⟩:=k1;exact DataW.trod_lt m _ _ _ hm
 have L0:Light Tryz.prog 26 d0:=KL (by omega);obtain ⟨g0,i0,z0⟩:=OX (hval 0 26 v0 rfl rfl) h0;have z0:=z0 L0;obtain ⟨g1,i1,l1,z1,m1⟩:=KM (okWide_slice Tryz.underlying27 (hval 1 27 v1 rfl rfl)) h1 (by omega);clear VZ;refine (Uf W v0 v1 g0 g1 i0 z0.1 z0.2.1 z0.2.2 i1 l1 z1 m1).mono fun e W' ⟨he,bel⟩=>?_
 subst he;exact ⟨_,rfl,_,_,_,[],_,[],hW',trodAll_mk1 (shut_bool Tryz.underlying4 _),(trodAll_cons_mk (Below.trod laidOut (by kernel_rfl) (of_decide_eq_true (by kernel_rfl)) k0 bel lt0) (trodAll_cons_mk (Below.trod laidOut (by kernel_rfl) (of_decide_eq_true (by kernel_rfl)) k1 bel lt1) trodAll_mk0)),rfl,bel.frame _,fun h=>by cases h⟩
theorem lifted (os:Os)(started:os.Started)(H:Type)(enc:TypeId × Value→H)(F:Stop.Interp) :
  ReturnsInHanded {} Tryz.checked os 3 .any ((Rows.OpenSpec.upto Rows.svmRunsSpec).pre6 enc Tryz.prog Tryz.f3 Rows.svmRunsUptoRow.domain false) (((Rows.OpenSpec.upto Rows.svmRunsSpec).at F).post enc Tryz.prog Tryz.f3 false true false false):=by
 refine returnsInHanded_of_cond (C:=Tryz.checked) (s:=Rows.OpenSpec.upto Rows.svmRunsSpec) (k:=Rows.uptoSmall) rfl own started (by kernel_rfl) Tryz.func3
  (OpenSpec.witness (enc:=enc) (C:=Tryz.checked) (s:=Rows.OpenSpec.upto Rows.svmRunsSpec) (k:=Rows.uptoSmall) rfl false ⟨#[],#[.agg #[.int .i64 0,.int .i64 0,.int .i64 0,.int .i64 0,.slice none 0 0,.slice none 0 0,.slice none 0 0],.slice none 0 0],[]⟩ 8 (by kernel_rfl) (by kernel_rfl) (by kernel_rfl)
   (x:=([.agg [.lit (.int .i64 0),.lit (.int .i64 0),.lit (.int .i64 0),.lit (.int .i64 0),.nil,.nil,.nil],.nil],[],[])) (by kernel_rfl) rfl (by kernel_rfl)) ?_
 intro W base args ds gs before hval hW _ hk _;exact contract H enc W base args ds gs before hval hW hk
theorem proved:Rows.SvmRunsUptoSaid :=
 OpenClaim.holds_of_cond 3 Tryz.f3 rfl rfl rfl rfl rfl rfl rfl ⟨rfl,rfl,rfl,rfl,rfl⟩ rfl rfl rfl rfl rfl (by kernel_rfl) Tryz.func3 (by kernel_rfl)
  (of_decide_eq_true (by kernel_rfl)) (by unfold Func.isWrapper;first | (rw [if_pos (by decide +kernel)];kernel_rfl) | (rw [if_neg (by decide +kernel)];exact ⟨rfl,rfl⟩))
  (fun os started H enc _ F=>lifted os started H enc F)
end Go.Proofs.YtpdlngonocancaaGreat.svmRuns
