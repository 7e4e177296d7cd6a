import Derived.Test.YtpdlngonocancaaGreatSvmRunsZ9
import Derived.Test.YtpdlngonocancaaGreatSvmRunsZ2
set_option linter.unusedVariables false
set_option linter.unusedSimpArgs false
set_option maxRecDepth 100000
set_option maxHeartbeats 20000000
namespace Go.Proofs.YtpdlngonocancaaGreat
open Go.RowKit
theorem Xk {w:World}{o:Col}{c cap:Nat}{ao:Option Addr}{l:List fG}(h:Own w o c 58 3 (.slice ao (l ++ [mG]).length cap) (l ++ [mG]).length (opsV (l ++ [mG]))):qF w ao cap l.length 3 1 Tt:=by
 obtain ⟨_,hc,g,_,e,hcl,_,hg⟩:=bN h.1 (by rw [ny];simp);cases e
 refine ⟨_,_,rfl,by simpa using hc,hg,?_⟩;rw [Nat.zero_add];refine hcl _ _ ?_;have:=(qZ (l ++ [mG]) l.length (by simp)).2.1;rw [List.getElem_append_right (Nat.le_refl _)] at this
 simpa [mG] using this
def OB (w:World)(g:ay)(e:Ending)(w':World):Prop:=∃ v,e=.returned v∧uS w' v g∧YV w' w.heap.size v g∧Below w.heap.size w w'
theorem Cy (w:World)(vg:Value)(g:ay)(hg:bO w vg g)(hgr:nJ g+kG g.parts+gJ g.lines≤1048576)(hps:∀ a∈g.parts,a.params.length≤17600000000000)(hes:∀ e∈g.lines,e.start.length≤17600000000000):Calls Tryz.prog 5 #[vg] w (OB w g):=by
 obtain ⟨va,ve,vo,rfl,ra,re,ro⟩:=hg;obtain ⟨aa,ac,rfl⟩:=ra.slice;obtain ⟨ae,ec,rfl⟩:=re.slice;obtain ⟨ao,oc,rfl⟩:=ro.slice;have RA:=Lib.hid ra;have RE:=Lib.hid re;have RO:=Lib.hid ro;have JG:=Lib.hid hps;have HES:=Lib.hid hes;have hsA:g.parts.length≤1048576:=by unfold nJ at hgr;omega
 have hsE:g.lines.length≤1048576:=by unfold nJ at hgr;omega
 have hsO:g.ops.length≤1048576:=by unfold nJ at hgr;omega
 clear ra re ro hps hes hgr;have hb1:=au w (.cells #[.int .i64 g.memory,.int .i64 g.counters,.int .i64 g.ins,.int .i64 g.outs,.slice aa g.parts.length ac,.slice ae g.lines.length ec,.slice ao g.ops.length oc] 26);have T1:=Turn.of_below (fun _=>0) 9 hb1;have hG:dY _ (ext (fun _=>0) w.heap.size 9) 9 _ _ _:=⟨heap_alloc_new w (.cells #[.int .i64 g.memory,.int .i64 g.counters,.int .i64 g.ins,.int .i64 g.outs,.slice aa g.parts.length ac,.slice ae g.lines.length ec,.slice ao g.ops.length oc] 26),aW (Nat.le_refl _)⟩;have K1:=(Kept.start w).turn T1 (fun h=>h);generalize hW1:w.alloc (.cells #[.int .i64 g.memory,.int .i64 g.counters,.int .i64 g.ins,.int .i64 g.outs,.slice aa g.parts.length ac,.slice ae g.lines.length ec,.slice ao g.ops.length oc] 26)=W1 at *;have hs1:W1.heap.size=w.heap.size+1:=by rw [← hW1];simp
 have T2:=Turn.of_below (ext (fun _=>0) w.heap.size 9) 9 (au W1 (.cells nA 26));have hR:dY _ (ext (ext (fun _=>0) w.heap.size 9) W1.heap.size 9) 9 _ _ _:=⟨heap_alloc_new W1 (.cells nA 26),aW (Nat.le_refl _)⟩;generalize ext (fun _=>0) w.heap.size 9=q0 at *;have K2:=K1.turn T2 (fun h=>h);have hG2:=hG.turn T2 (fun h=>h);generalize hW2:W1.alloc (.cells nA 26)=W2 at *;have hs2:W2.heap.size=w.heap.size+2:=by rw [← hW2,World.size_alloc,hs1]
 generalize ext q0 W1.heap.size 9=q1 at *;rw [hs1] at hR;have T3:=Turn.of_below q1 3 (au W2 (.cells #[.int .i64 g.memory,.int .i64 g.counters,.int .i64 g.ins,.int .i64 g.outs,.slice none 0 0,.slice none 0 0,.slice none 0 0] 26));have hO:dY _ (ext q1 W2.heap.size 3) 3 _ _ _:=⟨heap_alloc_new W2 (.cells #[.int .i64 g.memory,.int .i64 g.counters,.int .i64 g.ins,.int .i64 g.outs,.slice none 0 0,.slice none 0 0,.slice none 0 0] 26),aW (Nat.le_refl _)⟩;have HK:=Lib.hid (K2.turn T3 (fun h=>h));have zn:=Lib.hid (hG2.turn T3 (fun h=>h));have HR:=Lib.hid (hR.turn T3 (fun h=>h));have z0:=hG2.cell 0 _ rfl;have z1:=hG2.cell 1 _ rfl;have z2:=hG2.cell 2 _ rfl;have z3:=hG2.cell 3 _ rfl;rw [hs2] at hO HK zn HR;have HO:=Lib.hid hO;generalize ext q1 (w.heap.size+2) 3=q at *;clear hb1 T1 hG K1 T2 hR K2 hG2 T3 hO
 go_enter Tryz.func5,Tryz.ntmps5
 go_wp2_with fail
 clear hW1 hs1 hW2 hs2 z0 z1 z2 z3;obtain ⟨n,hn⟩:∃ x,g.parts.length=x:=⟨_,rfl⟩
 have HNA:=Lib.hid hn;rw [hn] at hsA zn ⊢;clear hn
 go_loopw [4] (fun i wl=>∃ (j:Nat) (q:Col) (v:Value) (ps:List (eu × Value)),j≤n∧i=.int .i64 j∧Kept w.heap.size q w wl∧dY wl q 9 w.heap.size 26 #[.int .i64 g.memory,.int .i64 g.counters,.int .i64 g.ins,.int .i64 g.outs,.slice aa n ac,.slice ae g.lines.length ec,.slice ao g.ops.length oc]∧dY wl q 9 (w.heap.size+1) 26 nA∧dY wl q 3 (w.heap.size+2) 26 #[.int .i64 g.memory,.int .i64 g.counters,.int .i64 g.ins,.int .i64 g.outs,v,.slice none 0 0,.slice none 0 0]∧iR iU eu.params wl q 4 5 50 2 v ps ps.length∧ps.map Prod.fst=g.parts.take j) (fun i _=>n - (intOf i).toNat)
 case atStart=>exact ⟨0,_,_,[],Nat.zero_le _,rfl,HK.out,zn.out,HR.out,HO.out,iR.nil,rfl⟩
 case round =>
  clear HK zn HR HO;obtain ⟨j,q,v,ps,hj,rfl,hK,hG,hR,hO,hT,hps⟩:=hrel;have HK:=Lib.hid hK;have zn:=Lib.hid hG;have HR:=Lib.hid hR;have HO:=Lib.hid hO;have HT:=Lib.hid hT;have OC:=Lib.hid hps;clear hK hG hR hO hT hps
  by_cases hlt:j < n
  ·
   have dG:(j:Int) < n:=by omega
   have hlt2:j < g.parts.length:=by have:=HNA.out;omega
   obtain ⟨b0,off,rfl,hcap,hb0,hrec⟩:=RA.out.at (by omega);obtain ⟨cs,hcs,AO,hcl⟩:=hrec j hlt2;obtain ⟨xs,rfl,hst⟩:=AO;have c0:=cell_later HK.out.below (hcl 0 (by omega));have c1:=cell_later HK.out.below (hcl 1 (by omega));simp [iU] at c0 c1;have iK:(n:Int)≤ac:=by have:=HNA.out;omega
   have KG:Has w xs (aV g.parts[j].params):=hst;obtain ⟨sa,sc,hxs⟩:=Ints.slice KG;subst hxs;have HST:=Lib.hid KG;have hpl:=JG.out _ (List.getElem_mem hlt2);have wJ:Hid (g.parts.take (j+1)=g.parts.take j ++ [g.parts[j]]):=Lib.hid (List.take_succ_eq_append_getElem hlt2);clear hcl hcs hrec hst KG;generalize g.parts[j]=a at *;have y:=zn.out.cell 4 _ rfl;have hbX:=au wr (.cells #[.int .u8 a.tag,.slice sa a.params.length sc] 50);have TX:=Turn.of_below q 8 hbX;have HX:Hid (dY _ (ext q wr.heap.size 8) 8 _ _ _):=Lib.hid ⟨heap_alloc_new wr (.cells #[.int .u8 a.tag,.slice sa a.params.length sc] 50),aW (Nat.le_refl _)⟩;have Dg:=Lib.hid (HK.out.turn TX (fun h=>h));have HG2:=Lib.hid (zn.out.turn TX (fun h=>h));have HR2:=Lib.hid (HR.out.turn TX (fun h=>h));have nQ:=Lib.hid (HO.out.turn TX (fun h=>h));have HT2:=Lib.hid (HT.out.turn TX (fun h=>h) (fun h=>h));have x4:=HX.out.cell 1 _ rfl;clear hbX TX HK zn HR HO HT
   go_wp2_with fail
   refine (yg (HST.out.below Dg.out.below) hpl).mono ?_;rintro e w5 ⟨gy,cy,rfl,hy,hgy,hb5⟩;have T5:=Turn.of_below (ext q wr.heap.size 8) 5 hb5;have OY:=Lib.hid (HT2.out.fresh (n:=a.params.length) (cap:=cy) hgy);have IG:=Lib.hid (uR (ext q wr.heap.size 8) 5 hy);have zW:=Lib.hid (Dg.out.turn T5 (fun h=>h));have MR:=Lib.hid (HG2.out.turn T5 (fun h=>h));have Je:=Lib.hid (HR2.out.turn T5 (fun h=>h));have Lf:=Lib.hid (nQ.out.turn T5 (fun h=>h));have uJ:=Lib.hid (HT2.out.turn T5 (fun h=>h) (fun h=>h));have AL:=HX.out.turn T5 (fun h=>h);have v4:=AL.cell 1 _ rfl;have f4:=AL.frozen 1;obtain ⟨b6,T6⟩:=AL.set 1 (.slice (some ⟨gy,0,none⟩) a.params.length cy);have NZ:=Lib.hid b6;have N8:=Lib.hid (zW.out.turn T6 (by decide));have HG6:=Lib.hid (MR.out.turn T6 (by decide));have HR6:=Lib.hid (Je.out.turn T6 (by decide));have RQ:=Lib.hid (Lf.out.turn T6 (by decide));have mQ:=Lib.hid (uJ.out.turn T6 (by decide) (by decide));have Ox:=Lib.hid (IG.out.turn T6 (by decide));clear hy hgy hb5 T5 T6 b6 AL HX x4 y c0 c1 Dg HG2 HR2 nQ HT2 zW MR Je Lf uJ IG;obtain ⟨Tw,TJ,rfl⟩:=mQ.out.own.slice;have o1:=RQ.out.cell 4 _ rfl;have u0:=NZ.out.cell 0 _ rfl;have u1:=NZ.out.cell 1 _ rfl;have rQ:Hid (ps.length=j):=Lib.hid (by have:=congrArg List.length OC.out;rw [List.length_map,List.length_take] at this;omega)
   go_wp2_with (at_builtin;refine aM ?_)
   refine bR ?_;clear v4 f4 o1 u0 u1;obtain ⟨i0,hi,hz0,hz1,hz2⟩:=info_parts xY;obtain ⟨w6,Ke⟩:∃ x,w5.setCell ⟨wr.heap.size,1,none⟩ (.slice (some ⟨gy,0,none⟩) a.params.length cy)=x:=⟨_,rfl⟩
   obtain ⟨q6,hq6⟩:∃ x:Col,x=ext (ext q wr.heap.size 8) (wr.alloc (.cells #[.int .u8 a.tag,.slice sa a.params.length sc] 50)).heap.size 5:=⟨_,rfl⟩
   rw [Ke,← hq6] at NZ N8 HG6 HR6 RQ mQ Ox;have hs6:w5.heap.size=w6.heap.size:=by rw [← Ke,dw]
   rw [Ke,hs6];clear Ke hq6 hs6;refine aR rfl _ _ 22 rfl 0 50 i0 _ 2 32 Tryz.underlying22 hi hz0 hz1 hz2 rfl (.slice Tw ps.length TJ) ps.length _ rfl (mQ.out.own.1.alloc (.cells #[.int .u8 a.tag,.slice (some ⟨gy,0,none⟩) a.params.length cy] 50)) (some ⟨w6.heap.size,0,none⟩) 1 1 [.int .u8 a.tag,.slice (some ⟨gy,0,none⟩) a.params.length cy] rfl rfl (fun h=>by cases h) (bA w6 [.int .u8 a.tag,.slice (some ⟨gy,0,none⟩) a.params.length cy] 50) (by simp [Value.oneCell']) (by have:=rQ.out;unfold maxLen;omega) (aZ (by have:=rQ.out;omega)) (Nat.zero_le _) ?_;intro v7 w7 k1 k20 _ k4;have hm:aI (fun b=>(Value.slice Tw ps.length TJ).ownBlock=some b) w6 w7:=((aI.refl _ w6).alloc _).grown k20 (fun b hb _=>hb);obtain ⟨z4,zf,T7,N7,B7⟩:=mQ.out.grow (a:=a) (y:=.slice (some ⟨gy,0,none⟩) a.params.length cy) (v':=v7) (w2:=w7) RQ.out (i:=4) (by decide) (by decide) (by decide) (by show 4 < 7;decide) Ox.out OY.out k1 hm (k4.imp id (fun k4 b hb=>by rw [k4] at hb;have:=Option.some.inj hb;simp at this;omega));obtain ⟨JE,xw,rfl⟩:=aB k1;have Ja:=Lib.hid (N8.out.turn T7 (by decide));have Xl:=Lib.hid (HG6.out.turn T7 (by decide));have Xm:=Lib.hid (HR6.out.turn T7 (by decide));have QC:=Lib.hid B7;have mW:=Lib.hid N7;have aaw:Hid ((ps ++ [(a,(.slice (some ⟨gy,0,none⟩) a.params.length cy:Value))]).map Prod.fst=g.parts.take (j+1)):=Lib.hid (by rw [wJ.out,← OC.out];simp);clear rQ T7 N7 B7 k1 k20 k4 hm N8 HG6 HR6 RQ mQ Ox NZ;go_wp2;go_roundw
   case rel=>exact ⟨j+1,_,_,_,hlt,by go_num,Ja.out,Xl.out,Xm.out,QC.out,mW.out,aaw.out⟩
   case measure=>simp [intOf];omega
  ·
   obtain rfl:n=j:=by omega
   clear hj hlt;have Xn:=OC.out;rw [List.take_of_length_le (by have:=HNA.out;omega)] at Xn;have OC:=Lib.hid Xn;have rQ:Hid (ps.length=n):=Lib.hid (by have:=congrArg List.length Xn;rw [List.length_map] at this;have:=HNA.out;omega);clear Xn;obtain ⟨Tw,TJ,rfl⟩:=HT.out.own.slice;have o1:=HO.out.cell 4 _ rfl;have y:=zn.out.cell 4 _ rfl;obtain ⟨i0,hi,hz0,hz1,hz2⟩:=info_parts xY
   go_wp2_with (at_builtin;refine aM ?_)
   refine bR ?_;clear o1;refine aR rfl _ _ 22 rfl 0 50 i0 _ 2 32 Tryz.underlying22 hi hz0 hz1 hz2 rfl (.slice Tw ps.length TJ) ps.length _ rfl (HT.out.own.1.alloc (.cells #[.int .u8 99,.slice none 0 0] 50)) (some ⟨wr.heap.size,0,none⟩) 1 1 [.int .u8 99,.slice none 0 0] rfl rfl (fun h=>by cases h) (bA wr [.int .u8 99,.slice none 0 0] 50) (by simp [Value.oneCell']) (by have:=rQ.out;unfold maxLen;omega) (aZ (by have:=rQ.out;omega)) (Nat.zero_le _) ?_;intro v7 w7 k1 k20 _ k4;have hm:aI (fun b=>(Value.slice Tw ps.length TJ).ownBlock=some b) wr w7:=((aI.refl _ wr).alloc _).grown k20 (fun b hb _=>hb);obtain ⟨z4,zf,T7,N7,B7⟩:=HT.out.last (a:=BS) (y:=.slice none 0 0) (v':=v7) (w2:=w7) HO.out (i:=4) (by decide) (by decide) (by decide) (by show 4 < 7;decide) (.inl ⟨rfl,_,_,rfl⟩) (Nat.le_refl _) k1 hm (k4.imp id (fun k4 b hb=>by rw [k4] at hb;have:=Option.some.inj hb;simp at this;omega));obtain ⟨JE,xw,rfl⟩:=aB k1;have Ja:=Lib.hid (HK.out.turn T7 (by decide));have hG7:=zn.out.turn T7 (by decide);have Xl:=Lib.hid hG7;have Xm:=Lib.hid (HR.out.turn T7 (by decide));obtain ⟨_,acV,ba,_,eb7,_⟩:=bN k1 (by simp);subst eb7;have YW:n≤xw:=by have:=rQ.out;omega
   have y7:=hG7.cell 4 _ rfl;have o7:=B7.cell 4 _ rfl;have g7:=B7.frozen 4;obtain ⟨B8,T8⟩:=B7.set 4 (.slice (some ⟨ba,0,none⟩) n xw);have Uy:=Lib.hid (Ja.out.turn T8 (by decide));have Uz:=Lib.hid (Xl.out.turn T8 (by decide));have Xo:=Lib.hid (Xm.out.turn T8 (by decide));have UA:=Lib.hid B8;have yU:=Lib.hid (N7.turn T8 (by decide) (by decide));clear T7 N7 B7 B8 T8 k1 k20 k4 hm hG7 HK zn HR HO HT Ja Xl Xm y
   go_wp2_with fail
   rw [rQ.out] at yU;rw [rQ.out] at Uy Uz Xo UA ⊢;obtain ⟨w8,hw8⟩:∃ x,(w7.setCell ⟨w.heap.size+2,4,none⟩ (.slice (some ⟨ba,0,none⟩) (n+1) xw)).setCell ⟨w.heap.size+2,4,none⟩ (.slice (some ⟨ba,0,none⟩) n xw)=x:=⟨_,rfl⟩
   obtain ⟨q8,hq8⟩:∃ x:Col,x=ext q wr.heap.size 4:=⟨_,rfl⟩
   obtain ⟨pa,hpa⟩:∃ x,ps ++ [(BS,Value.slice none 0 0)]=x:=⟨_,rfl⟩
   have HPA:Hid (pa.map Prod.fst=g.parts ++ [BS]):=Lib.hid (by rw [← hpa,← OC.out];simp);rw [hw8,← hq8] at Uy Uz Xo UA yU;rw [hpa] at yU;rw [hw8];have Hu:=yU;have HK:=Uy;have zn:=Uz;have HR:=Xo;have HO:Hid (dY w8 q8 3 (w.heap.size+2) 26 #[.int .i64 g.memory,.int .i64 g.counters,.int .i64 g.ins,.int .i64 g.outs,.slice (some ⟨ba,0,none⟩) n xw,.slice none 0 0,.slice none 0 0]):=UA;clear hw8 hq8 hpa yU Uy Uz Xo UA OC rQ o7 g7 y7 z4 zf;obtain ⟨ca,hca⟩:∃ x,x=xw:=⟨_,rfl⟩
   rw [← hca] at Hu HO YW;have HCA:=Lib.hid hca;clear hca;obtain ⟨m,hm⟩:∃ x,g.lines.length=x:=⟨_,rfl⟩
   have ou:=Lib.hid hm;rw [hm] at hsE zn ⊢;clear hm
   go_loopw [6] (fun i wl=>∃ (j:Nat) (q:Col) (v:Value) (ps:List (dN × Value)),j≤m∧i=.int .i64 j∧Kept w.heap.size q w wl∧dY wl q 9 w.heap.size 26 #[.int .i64 g.memory,.int .i64 g.counters,.int .i64 g.ins,.int .i64 g.outs,.slice aa n ac,.slice ae m ec,.slice ao g.ops.length oc]∧dY wl q 9 (w.heap.size+1) 26 nA∧dY wl q 3 (w.heap.size+2) 26 #[.int .i64 g.memory,.int .i64 g.counters,.int .i64 g.ins,.int .i64 g.outs,.slice (some ⟨ba,0,none⟩) n ca,v,.slice none 0 0]∧iR iV dN.start wl q 6 7 54 3 v ps ps.length∧ps.map Prod.fst=g.lines.take j∧iR iU eu.params wl q 4 5 50 2 (.slice (some ⟨ba,0,none⟩) (n+1) ca) pa n) (fun i _=>m - (intOf i).toNat)
   case atStart=>exact ⟨0,_,_,[],Nat.zero_le _,rfl,HK.out,zn.out,HR.out,HO.out,iR.nil,rfl,Hu.out⟩
   case round =>
    clear HK zn HR HO Hu;obtain ⟨j,q,v,ps,hj,rfl,hK,hG,hR,hO,hT,hps,hTA⟩:=hrel;have HK:=Lib.hid hK;have zn:=Lib.hid hG;have HR:=Lib.hid hR;have HO:=Lib.hid hO;have HT:=Lib.hid hT;have OC:=Lib.hid hps;have Hu:=Lib.hid hTA;clear hK hG hR hO hT hps hTA
    by_cases hlt:j < m
    ·
     have dG:(j:Int) < m:=by omega
     have hlt2:j < g.lines.length:=by have:=ou.out;omega
     obtain ⟨b0,off,rfl,hcap,hb0,hrec⟩:=RE.out.at (by omega);obtain ⟨cs,hcs,AO,hcl⟩:=hrec j hlt2;obtain ⟨xs,rfl,hst⟩:=AO;have c0:=cell_later HK.out.below (hcl 0 (by omega));have c1:=cell_later HK.out.below (hcl 1 (by omega));have c2:=cell_later HK.out.below (hcl 2 (by omega));simp [iV] at c0 c1 c2;have iK:(m:Int)≤ec:=by have:=ou.out;omega
     have KG:Has w xs (aV g.lines[j].start):=hst;obtain ⟨sa,sc,hxs⟩:=Ints.slice KG;subst hxs;have HST:=Lib.hid KG;have hpl:=HES.out _ (List.getElem_mem hlt2);have wJ:Hid (g.lines.take (j+1)=g.lines.take j ++ [g.lines[j]]):=Lib.hid (List.take_succ_eq_append_getElem hlt2);clear hcl hcs hrec hst KG;generalize g.lines[j]=a at *;have y:=zn.out.cell 5 _ rfl;have hbX:=au wr (.cells #[.int .i64 a.base,.int .i64 a.size,.slice sa a.start.length sc] 54);have TX:=Turn.of_below q 8 hbX;have HX:Hid (dY _ (ext q wr.heap.size 8) 8 _ _ _):=Lib.hid ⟨heap_alloc_new wr (.cells #[.int .i64 a.base,.int .i64 a.size,.slice sa a.start.length sc] 54),aW (Nat.le_refl _)⟩;have Dg:=Lib.hid (HK.out.turn TX (fun h=>h));have HG2:=Lib.hid (zn.out.turn TX (fun h=>h));have HR2:=Lib.hid (HR.out.turn TX (fun h=>h));have nQ:=Lib.hid (HO.out.turn TX (fun h=>h));have HT2:=Lib.hid (HT.out.turn TX (fun h=>h) (fun h=>h));have abt:=Lib.hid (Hu.out.turn TX (fun h=>h) (fun h=>h));have x4:=HX.out.cell 2 _ rfl;clear hbX TX HK zn HR HO HT Hu
     go_wp2_with fail
     refine (yg (HST.out.below Dg.out.below) hpl).mono ?_;rintro e w5 ⟨gy,cy,rfl,hy,hgy,hb5⟩;have T5:=Turn.of_below (ext q wr.heap.size 8) 7 hb5;have OY:=Lib.hid (HT2.out.fresh (n:=a.start.length) (cap:=cy) hgy);have IG:=Lib.hid (uR (ext q wr.heap.size 8) 7 hy);have zW:=Lib.hid (Dg.out.turn T5 (fun h=>h));have MR:=Lib.hid (HG2.out.turn T5 (fun h=>h));have Je:=Lib.hid (HR2.out.turn T5 (fun h=>h));have Lf:=Lib.hid (nQ.out.turn T5 (fun h=>h));have uJ:=Lib.hid (HT2.out.turn T5 (fun h=>h) (fun h=>h));have Nw:=Lib.hid (abt.out.turn T5 (fun h=>h) (fun h=>h));have AL:=HX.out.turn T5 (fun h=>h);have v4:=AL.cell 2 _ rfl;have f4:=AL.frozen 2;obtain ⟨b6,T6⟩:=AL.set 2 (.slice (some ⟨gy,0,none⟩) a.start.length cy);have NZ:=Lib.hid b6;have N8:=Lib.hid (zW.out.turn T6 (by decide));have HG6:=Lib.hid (MR.out.turn T6 (by decide));have HR6:=Lib.hid (Je.out.turn T6 (by decide));have RQ:=Lib.hid (Lf.out.turn T6 (by decide));have mQ:=Lib.hid (uJ.out.turn T6 (by decide) (by decide));have Ny:=Lib.hid (Nw.out.turn T6 (by decide) (by decide));have Ox:=Lib.hid (IG.out.turn T6 (by decide));clear hy hgy hb5 T5 T6 b6 AL HX x4 y c0 c1 c2 Dg HG2 HR2 nQ HT2 zW MR Je Lf uJ IG abt Nw;obtain ⟨Tw,TJ,rfl⟩:=mQ.out.own.slice;have o1:=RQ.out.cell 5 _ rfl;have u0:=NZ.out.cell 0 _ rfl;have u1:=NZ.out.cell 1 _ rfl;have u2:=NZ.out.cell 2 _ rfl;have rQ:Hid (ps.length=j):=Lib.hid (by have:=congrArg List.length OC.out;rw [List.length_map,List.length_take] at this;omega)
     go_wp2_with (at_builtin;refine aM ?_)
     refine bR ?_;clear v4 f4 o1 u0 u1 u2;obtain ⟨i0,hi,hz0,hz1,hz2⟩:=info_parts xZ;obtain ⟨w6,Ke⟩:∃ x,w5.setCell ⟨wr.heap.size,2,none⟩ (.slice (some ⟨gy,0,none⟩) a.start.length cy)=x:=⟨_,rfl⟩
     obtain ⟨q6,hq6⟩:∃ x:Col,x=ext (ext q wr.heap.size 8) (wr.alloc (.cells #[.int .i64 a.base,.int .i64 a.size,.slice sa a.start.length sc] 54)).heap.size 7:=⟨_,rfl⟩
     rw [Ke,← hq6] at NZ N8 HG6 HR6 RQ mQ Ox Ny;have hs6:w5.heap.size=w6.heap.size:=by rw [← Ke,dw]
     rw [Ke,hs6];clear Ke hq6 hs6;refine aR rfl _ _ 23 rfl 0 54 i0 _ 3 40 Tryz.underlying23 hi hz0 hz1 hz2 rfl (.slice Tw ps.length TJ) ps.length _ rfl (mQ.out.own.1.alloc (.cells #[.int .i64 a.base,.int .i64 a.size,.slice (some ⟨gy,0,none⟩) a.start.length cy] 54)) (some ⟨w6.heap.size,0,none⟩) 1 1 [.int .i64 a.base,.int .i64 a.size,.slice (some ⟨gy,0,none⟩) a.start.length cy] rfl rfl (fun h=>by cases h) (bA w6 [.int .i64 a.base,.int .i64 a.size,.slice (some ⟨gy,0,none⟩) a.start.length cy] 54) (by simp [Value.oneCell']) (by have:=rQ.out;unfold maxLen;omega) (aZ (by have:=rQ.out;omega)) (Nat.zero_le _) ?_;intro v7 w7 k1 k20 _ k4;have hm:aI (fun b=>(Value.slice Tw ps.length TJ).ownBlock=some b) w6 w7:=((aI.refl _ w6).alloc _).grown k20 (fun b hb _=>hb);obtain ⟨z4,zf,T7,N7,B7⟩:=mQ.out.grow (a:=a) (y:=.slice (some ⟨gy,0,none⟩) a.start.length cy) (v':=v7) (w2:=w7) RQ.out (i:=5) (by decide) (by decide) (by decide) (by show 5 < 7;decide) Ox.out OY.out k1 hm (k4.imp id (fun k4 b hb=>by rw [k4] at hb;have:=Option.some.inj hb;simp at this;omega));obtain ⟨JE,xw,rfl⟩:=aB k1;have Ja:=Lib.hid (N8.out.turn T7 (by decide));have Xl:=Lib.hid (HG6.out.turn T7 (by decide));have Xm:=Lib.hid (HR6.out.turn T7 (by decide));have Xp:=Lib.hid (Ny.out.turn T7 (by decide) (by decide));have QC:=Lib.hid B7;have mW:=Lib.hid N7;have aaw:Hid ((ps ++ [(a,(.slice (some ⟨gy,0,none⟩) a.start.length cy:Value))]).map Prod.fst=g.lines.take (j+1)):=Lib.hid (by rw [wJ.out,← OC.out];simp);clear rQ T7 N7 B7 k1 k20 k4 hm N8 HG6 HR6 RQ mQ Ox NZ Ny;go_wp2;go_roundw
     case rel=>exact ⟨j+1,_,_,_,hlt,by go_num,Ja.out,Xl.out,Xm.out,QC.out,mW.out,aaw.out,Xp.out⟩
     case measure=>simp [intOf];omega
    ·
     obtain rfl:m=j:=by omega
     clear hj hlt;have Xn:=OC.out;rw [List.take_of_length_le (by have:=ou.out;omega)] at Xn;have OC:=Lib.hid Xn;have rQ:Hid (ps.length=m):=Lib.hid (by have:=congrArg List.length Xn;rw [List.length_map] at this;have:=ou.out;omega);clear Xn;obtain ⟨Tw,TJ,rfl⟩:=HT.out.own.slice;have o1:=HO.out.cell 5 _ rfl;have y:=zn.out.cell 5 _ rfl;obtain ⟨i0,hi,hz0,hz1,hz2⟩:=info_parts xZ
     go_wp2_with (at_builtin;refine aM ?_)
     refine bR ?_;clear o1;refine aR rfl _ _ 23 rfl 0 54 i0 _ 3 40 Tryz.underlying23 hi hz0 hz1 hz2 rfl (.slice Tw ps.length TJ) ps.length _ rfl (HT.out.own.1.alloc (.cells #[.int .i64 (-7770777),.int .i64 0,.slice none 0 0] 54)) (some ⟨wr.heap.size,0,none⟩) 1 1 [.int .i64 (-7770777),.int .i64 0,.slice none 0 0] rfl rfl (fun h=>by cases h) (bA wr [.int .i64 (-7770777),.int .i64 0,.slice none 0 0] 54) (by simp [Value.oneCell']) (by have:=rQ.out;unfold maxLen;omega) (aZ (by have:=rQ.out;omega)) (Nat.zero_le _) ?_;intro v7 w7 k1 k20 _ k4;have hm:aI (fun b=>(Value.slice Tw ps.length TJ).ownBlock=some b) wr w7:=((aI.refl _ wr).alloc _).grown k20 (fun b hb _=>hb);obtain ⟨z4,zf,T7,N7,B7⟩:=HT.out.last (a:=BU) (y:=.slice none 0 0) (v':=v7) (w2:=w7) HO.out (i:=5) (by decide) (by decide) (by decide) (by show 5 < 7;decide) (.inl ⟨rfl,_,_,rfl⟩) (Nat.le_refl _) k1 hm (k4.imp id (fun k4 b hb=>by rw [k4] at hb;have:=Option.some.inj hb;simp at this;omega));obtain ⟨JE,xw,rfl⟩:=aB k1;have Ja:=Lib.hid (HK.out.turn T7 (by decide));have hG7:=zn.out.turn T7 (by decide);have Xl:=Lib.hid hG7;have Xm:=Lib.hid (HR.out.turn T7 (by decide));have Xp:=Lib.hid (Hu.out.turn T7 (by decide) (by decide));obtain ⟨_,acV,be,_,eb7,_⟩:=bN k1 (by simp);subst eb7;have YW:m≤xw:=by have:=rQ.out;omega
     have y7:=hG7.cell 5 _ rfl;have o7:=B7.cell 5 _ rfl;have g7:=B7.frozen 5;obtain ⟨B8,T8⟩:=B7.set 5 (.slice (some ⟨be,0,none⟩) m xw);have Uy:=Lib.hid (Ja.out.turn T8 (by decide));have Uz:=Lib.hid (Xl.out.turn T8 (by decide));have Xo:=Lib.hid (Xm.out.turn T8 (by decide));have Xq:=Lib.hid (Xp.out.turn T8 (by decide) (by decide));have UA:=Lib.hid B8;have y9:=Uz.out.cell 6 _ rfl;have yU:=Lib.hid (N7.turn T8 (by decide) (by decide));clear T7 N7 B7 B8 T8 k1 k20 k4 hm hG7 HK zn HR HO HT Ja Xl Xm Hu Xp y;have o6:=UA.out.cell 6 _ rfl
     go_wp2_with (at_builtin;refine aM ?_)
     refine bR ?_;rw [rQ.out] at yU;rw [rQ.out] at Uy Uz Xo UA Xq ⊢;have MI:Hid ((ps ++ [(BU,Value.slice none 0 0)]).map Prod.fst=g.lines ++ [BU]):=Lib.hid (by rw [← OC.out];simp);clear y9 o6 o7 g7 y7 z4 zf OC;obtain ⟨w8,hw8⟩:∃ x,(w7.setCell ⟨w.heap.size+2,5,none⟩ (.slice (some ⟨be,0,none⟩) (m+1) xw)).setCell ⟨w.heap.size+2,5,none⟩ (.slice (some ⟨be,0,none⟩) m xw)=x:=⟨_,rfl⟩
     obtain ⟨q8,hq8⟩:∃ x:Col,x=ext q wr.heap.size 6:=⟨_,rfl⟩
     rw [hw8,← hq8] at Uy Uz Xo UA Xq yU;rw [hw8];clear hw8 hq8;have HO:Hid (dY w8 q8 3 (w.heap.size+2) 26 #[.int .i64 g.memory,.int .i64 g.counters,.int .i64 g.ins,.int .i64 g.outs,.slice (some ⟨ba,0,none⟩) n ca,.slice (some ⟨be,0,none⟩) m xw,.slice none 0 0]):=UA;obtain ⟨i0,hi,hz0,hz1,hz2⟩:=info_parts LM;have hro:=(RO.out.below Uy.out.below);obtain ⟨nw1,nw2⟩:=hro.abp;have hov:(opsV g.ops).length=g.ops.length*3:=ny g.ops;refine aR rfl _ _ 24 rfl 0 58 i0 _ 3 24 Tryz.underlying24 hi hz0 hz1 hz2 rfl (.slice none 0 0) 0 [] rfl (World.ownsRow_nil _ _ _ _) ao g.ops.length oc (opsV g.ops) rfl hov nw1 nw2 (vE g.ops) (by unfold maxLen;omega) (aZ (by omega)) (Nat.zero_le _) ?_;intro v9 w9 k1 k20 _ k4;have k1':w9.ownsRow 0 58 3 v9 g.ops.length (opsV g.ops):=by simpa using k1
     have hm9:aI (fun b=>(Value.slice none 0 0).ownBlock=some b) w8 w9:=(aI.refl _ w8).grown k20 (fun b hb _=>hb);obtain ⟨z9,f9,T9,N9,B9⟩:=(Own.nil w8 q8 10 58 3).into (v':=v9) (w2:=w9) HO.out (i:=6) (by decide) (by show 6 < 7;decide) k1' hm9 (k4.imp id (fun k4 b hb=>by rw [k4] at hb;have:=Option.some.inj hb;omega));obtain ⟨s9,c9,rfl⟩:=aB k1';have Dh:=Lib.hid (Uy.out.turn T9 (by decide));have Yv:=Lib.hid (Uz.out.turn T9 (by decide));have HR9:=Lib.hid (Xo.out.turn T9 (by decide));have aax:=Lib.hid (Xq.out.turn T9 (by decide) (by decide));have Jf:=Lib.hid (yU.out.turn T9 (by decide) (by decide));have o9:=B9.cell 6 _ rfl;have qK:=Lib.hid B9;have HN9:=Lib.hid N9;clear nw1 nw2 hov hro k1 k20 k4 k1' hm9 T9 N9 B9 Uy Uz Xo Xq yU UA HO
     go_wp2_with (at_builtin;refine aM ?_)
     refine bR ?_;clear z9 f9 o9;obtain ⟨wA,hwA⟩:∃ x,w9.setCell ⟨w.heap.size+2,6,none⟩ (.slice s9 g.ops.length c9)=x:=⟨_,rfl⟩
     obtain ⟨qA,hqA⟩:∃ x:Col,x=ext q8 w8.heap.size 10:=⟨_,rfl⟩
     have abu:w9.heap.size=wA.heap.size:=by rw [← hwA,dw]
     rw [hwA,← hqA] at Dh Yv HR9 aax Jf qK HN9;rw [hwA]
     try rw [abu]
     clear hwA hqA abu;refine aR rfl _ _ 24 rfl 0 58 i0 _ 3 24 Tryz.underlying24 hi hz0 hz1 hz2 rfl (.slice s9 g.ops.length c9) g.ops.length _ rfl (HN9.out.1.alloc (.cells #[.int .u8 0,.int .i64 (-7770777),.int .i64 0] 58)) (some ⟨wA.heap.size,0,none⟩) 1 1 [.int .u8 0,.int .i64 (-7770777),.int .i64 0] rfl rfl (fun h=>by cases h) (bA wA [.int .u8 0,.int .i64 (-7770777),.int .i64 0] 58) (by simp [Value.oneCell']) (by unfold maxLen;omega) (aZ (by omega)) (Nat.zero_le _) ?_;intro vB wB k1 k20 _ k4;have k1':wB.ownsRow 0 58 3 vB (g.ops.length+1) (opsV (g.ops ++ [mG])):=by rw [show opsV (g.ops ++ [mG])=opsV g.ops ++ opsV [mG] by simp [opsV]];exact k1
     have hmB:aI (fun b=>(Value.slice s9 g.ops.length c9).ownBlock=some b) wA wB:=((aI.refl _ wA).alloc _).grown k20 (fun b hb _=>hb);obtain ⟨zB,fB,TB,NB,BB⟩:=HN9.out.into (v':=vB) (w2:=wB) qK.out (i:=6) (by decide) (by show 6 < 7;decide) k1' hmB (k4.imp id (fun k4 b hb=>by rw [k4] at hb;have:=Option.some.inj hb;simp at this;omega));obtain ⟨sB,cB,rfl⟩:=aB k1';have HKB:=Lib.hid (Dh.out.turn TB (by decide));have zn:=Lib.hid (Yv.out.turn TB (by decide));have HRB:=Lib.hid (HR9.out.turn TB (by decide));have HTAB:=Lib.hid (aax.out.turn TB (by decide) (by decide));have HTB:=Lib.hid (Jf.out.turn TB (by decide) (by decide));obtain ⟨_,hcpB,bo,_,ebB,_⟩:=bN k1' (by simp [opsV,Qv]);subst ebB;have adp:g.ops.length≤cB:=by omega
     have yB:=zn.out.cell 6 _ rfl;have oB:=BB.cell 6 _ rfl;have gB:=BB.frozen 6;obtain ⟨BC,TC⟩:=BB.set 6 (.slice (some ⟨bo,0,none⟩) g.ops.length cB);have HKC:=Lib.hid (HKB.out.turn TC (by decide));have HGC:=Lib.hid (zn.out.turn TC (by decide));have zb:=Lib.hid (HRB.out.turn TC (by decide));have abv:=Lib.hid (HTAB.out.turn TC (by decide) (by decide));have HTC:=Lib.hid (HTB.out.turn TC (by decide) (by decide));have YE:=Lib.hid (NB.turn TC (by decide));have s0:=BC.cell 0 _ rfl;have s1:=BC.cell 1 _ rfl;have s2:=BC.cell 2 _ rfl;have s3:=BC.cell 3 _ rfl;have s4:=BC.cell 4 _ rfl;have s5:=BC.cell 5 _ rfl;have s6:=BC.cell 6 _ rfl;have KH:=zb.out;have r0:=KH.cell 0 _ rfl;have r1:=KH.cell 1 _ rfl;have r2:=KH.cell 2 _ rfl;have r3:=KH.cell 3 _ rfl;have r4:=KH.cell 4 _ rfl;have r5:=KH.cell 5 _ rfl;have r6:=KH.cell 6 _ rfl;have e0:=KH.frozen 0;have e1:=KH.frozen 1;have e2:=KH.frozen 2;have e3:=KH.frozen 3;have e4:=KH.frozen 4;have e5:=KH.frozen 5;have e6:=KH.frozen 6;clear KH k1 k20 k4 hmB TB NB BB BC TC k1' Dh Yv HR9 aax Jf qK HN9 HKB zn HRB HTAB HTB HGC;go_wp2;clear zB fB yB oB gB s0 s1 s2 s3 s4 s5 s6 r0 r1 r2 r3 r4 r5 r6 e0 e1 e2 e3 e4 e5 e6;obtain ⟨wz,hwz⟩:∃ x,(wB.setCell ⟨w.heap.size+2,6,none⟩ (.slice (some ⟨bo,0,none⟩) (g.ops.length+1) cB)).setCell ⟨w.heap.size+2,6,none⟩ (.slice (some ⟨bo,0,none⟩) g.ops.length cB)=x:=⟨_,rfl⟩
     obtain ⟨qz,hqz⟩:∃ x:Col,x=ext qA wA.heap.size 10:=⟨_,rfl⟩
     rw [hwz,← hqz] at HKC abv HTC zb YE;rw [hwz];clear hwz hqz;refine bodyPost_ret_by (results_cell_row rfl _ _ _ _ _ _ _ rfl (Az zb.out.1 _ _ _ _ _ _ _) Tryz.underlying26 rfl (by kernel_rfl)) rfl ?_;have mm:=xg wz (w.heap.size+1) (.int .i64 g.memory) (.int .i64 g.counters) (.int .i64 g.ins) (.int .i64 g.outs) (.slice (some ⟨ba,0,none⟩) n ca) (.slice (some ⟨be,0,none⟩) m xw) (.slice (some ⟨bo,0,none⟩) g.ops.length cB);have T:Turn qz qz (fun x=>x=9) wz _:=⟨mm.mono (fun k _ e=>by subst e;exact zb.out.2),fun _ _=>rfl⟩;have hbl:=HKC.out.below.trans (mm.below HKC.out.size (fun k hk e=>by omega));have en:=HNA.out;have em:=ou.out;subst en;subst em;have hpz:=abv.out.turn T (by decide) (by decide);have hlz:=HTC.out.turn T (by decide) (by decide);obtain ⟨ka1,ka2⟩:=iR.keep (show ∀ a,(iU a).length+1=2 from fun _=>rfl) hpz HPA.out;obtain ⟨ke1,ke2⟩:=iR.keep (show ∀ a,(iV a).length+1=3 from fun _=>rfl) hlz MI.out;have h1:=YE.out.turn T (by decide);have h1f:=yh h1 (m:=g.ops.length) (by omega);have lp:_=g.parts.length+1:=((List.length_map Prod.fst).symm.trans (congrArg List.length HPA.out)).trans List.length_append;have ll:_=g.lines.length+1:=((List.length_map Prod.fst).symm.trans (congrArg List.length MI.out)).trans List.length_append;have fp:=hpz.front (show ∀ a,(iU a).length+1=2 from fun _=>rfl) lp.symm (by rw [lp];exact Nat.le_succ _);have fl:=hlz.front (show ∀ a,(iV a).length+1=3 from fun _=>rfl) ll.symm (by rw [ll];exact Nat.le_succ _);have ep:=congrArg (List.take g.parts.length) HPA.out;have el:=congrArg (List.take g.lines.length) MI.out;rw [← List.map_take,List.take_left' rfl] at ep el;have eo:(opsV (g.ops ++ [mG])).take (g.ops.length*3)=opsV g.ops:=by
      rw [show opsV (g.ops ++ [mG])=opsV g.ops ++ opsV [mG] by simp [opsV]];exact List.take_left' (ny _)
     rw [eo] at h1f;have hold:=fun k hk=>HKC.out.old k hk
     rw [show g.ops.length+1=(g.ops ++ [mG]).length by simp] at h1;refine ⟨_,rfl,⟨_,_,_,_,_,_,rfl,ka1,ka2 0 (by omega),ke1,ke2 0 (by omega),h1.row.front,?_⟩,⟨qz,_,_,_,_,_,rfl,ep,el,?_,fp.2,?_,fl.2,h1f,hold⟩,hbl⟩
     ·
      exact Xk h1
     ·
      rw [List.length_take,lp,Nat.min_eq_left (Nat.le_succ _)];exact fp.1
     ·
      rw [List.length_take,ll,Nat.min_eq_left (Nat.le_succ _)];exact fl.1
theorem wF (w:World)(v v':Value)(g:ay)(h:uS w v g)(h':bO w v' g)(hps:∀ x∈g.parts,x.params.length≤17600000000000)(hls:∀ x∈g.lines,x.start.length≤17600000000000)(hpl:g.parts.length≤1100000)(hll:g.lines.length≤1100000)(hol:g.ops.length≤1100000):Calls Tryz.prog 8 #[v,v'] w (Yes w):=by
 have HG0:=h.has;obtain ⟨aa,ca,ae,ce,ao,co,rfl,rp,ma,rl,me,ro,mo⟩:=h;have abw:=h';obtain ⟨Cw,Cx,ze,rfl,rp',rl',ro'⟩:=h';obtain ⟨Ow,cp',rfl⟩:=rp'.slice;obtain ⟨al',cl',rfl⟩:=rl'.slice;obtain ⟨KN,co',rfl⟩:=ro'.slice;have JG:=Lib.hid hps;have HLS:=Lib.hid hls;clear hps hls;have hb1:=au w (.cells #[.int .i64 g.memory,.int .i64 g.counters,.int .i64 g.ins,.int .i64 g.outs,.slice aa g.parts.length ca,.slice ae g.lines.length ce,.slice ao g.ops.length co] 26);have hA:=heap_alloc_new w (.cells #[.int .i64 g.memory,.int .i64 g.counters,.int .i64 g.ins,.int .i64 g.outs,.slice aa g.parts.length ca,.slice ae g.lines.length ce,.slice ao g.ops.length co] 26);generalize hW1:w.alloc (.cells #[.int .i64 g.memory,.int .i64 g.counters,.int .i64 g.ins,.int .i64 g.outs,.slice aa g.parts.length ca,.slice ae g.lines.length ce,.slice ao g.ops.length co] 26)=W1 at *;have hs1:W1.heap.size=w.heap.size+1:=by rw [← hW1];simp
 have hb2:=au W1 (.cells #[.int .i64 g.memory,.int .i64 g.counters,.int .i64 g.ins,.int .i64 g.outs,.slice Ow g.parts.length cp',.slice al' g.lines.length cl',.slice KN g.ops.length co'] 26);have hB:=heap_alloc_new W1 (.cells #[.int .i64 g.memory,.int .i64 g.counters,.int .i64 g.ins,.int .i64 g.outs,.slice Ow g.parts.length cp',.slice al' g.lines.length cl',.slice KN g.ops.length co'] 26);have hA2:=aK hA (.cells #[.int .i64 g.memory,.int .i64 g.counters,.int .i64 g.ins,.int .i64 g.outs,.slice Ow g.parts.length cp',.slice al' g.lines.length cl',.slice KN g.ops.length co'] 26);generalize hW2:W1.alloc (.cells #[.int .i64 g.memory,.int .i64 g.counters,.int .i64 g.ins,.int .i64 g.outs,.slice Ow g.parts.length cp',.slice al' g.lines.length cl',.slice KN g.ops.length co'] 26)=W2 at *;have HB2:=Lib.hid (Below.then hb1 hb2);have Jb:=Lib.hid (rp.below (jF _ _) HB2.out);have mV:=Lib.hid (rl.below (jF _ _) HB2.out);have KD:=Lib.hid (rp'.below (dU _ _) HB2.out);have KE:=Lib.hid (rl'.below (dU _ _) HB2.out);have HMA:=Lib.hid (ma.below HB2.out);have HME:=Lib.hid (me.below HB2.out);have Pb:=Lib.hid (mo.below HB2.out);have HG:=Lib.hid (HG0.below HB2.out);have HG':=Lib.hid (abw.below HB2.out);clear hb1 hb2 rp rl ro rp' rl' ro' hA ma me mo HG0 abw;rw [hs1] at hB;have y0:=ah _ _ hA2 0 _ rfl;have y1:=ah _ _ hA2 1 _ rfl;have y2:=ah _ _ hA2 2 _ rfl;have y3:=ah _ _ hA2 3 _ rfl;have y4:=ah _ _ hA2 4 _ rfl;have y5:=ah _ _ hA2 5 _ rfl;have y6:=ah _ _ hA2 6 _ rfl;have z0:=ah _ _ hB 0 _ rfl;have z1:=ah _ _ hB 1 _ rfl;have z2:=ah _ _ hB 2 _ rfl;have z3:=ah _ _ hB 3 _ rfl;have z4:=ah _ _ hB 4 _ rfl;have z5:=ah _ _ hB 5 _ rfl;have z6:=ah _ _ hB 6 _ rfl;clear hA2 hB;simp only [List.getElem_toArray,List.getElem_cons_succ,List.getElem_cons_zero] at y0 y1 y2 y3 y4 y5 y6 z0 z1 z2 z3 z4 z5 z6
 go_enter Tryz.func8,Tryz.ntmps8
 go_wp2_with fail
 refine (Fy _ _ _ g HG.out HG'.out (fun x hx=>Nat.le_trans (JG.out x hx) (by decide)) (fun x hx=>Nat.le_trans (HLS.out x hx) (by decide)) (Nat.le_trans hpl (by decide)) (Nat.le_trans hll (by decide)) (Nat.le_trans hol (by decide))).mono ?_;rintro e W3 ⟨rfl,hB3⟩;have HB3:=Lib.hid hB3;have Tq:=Lib.hid (cell_later hB3 y4);have IG:=Lib.hid (cell_later hB3 y5);have Ox:=Lib.hid (cell_later hB3 y6);have zI:=Lib.hid (cell_later hB3 z4);have DT:=Lib.hid (cell_later hB3 z5);have Hz:=Lib.hid (cell_later hB3 z6);replace Jb:=Lib.hid (Jb.out.below (jF _ _) hB3);replace mV:=Lib.hid (mV.out.below (jF _ _) hB3);replace KD:=Lib.hid (KD.out.below (dU _ _) hB3);replace KE:=Lib.hid (KE.out.below (dU _ _) hB3);replace HMA:=Lib.hid (HMA.out.below hB3);replace HME:=Lib.hid (HME.out.below hB3);replace Pb:=Lib.hid (Pb.out.below hB3);clear hW1 hW2 y0 y1 y2 y3 y4 y5 y6 z0 z1 z2 z3 z4 z5 z6 hB3 HG HG';obtain ⟨n,hn⟩:∃ x,g.parts.length=x:=⟨_,rfl⟩
 obtain ⟨m,hm⟩:∃ x,g.lines.length=x:=⟨_,rfl⟩
 have HN:=Lib.hid hn;have HM:=Lib.hid hm;rw [hn] at Tq zI hpl;rw [hm] at IG DT hll;rw [hn] at Jb KD HMA;rw [hm] at mV KE HME;clear hn hm
 go_wp2_with fail
 go_loopw [5] (fun i wr=>∃ j:Nat,j≤n∧i=.int .i64 j∧Below W3.heap.size W3 wr) (fun i _=>n - (intOf i).toNat)
 case atStart=>exact ⟨0,Nat.zero_le _,rfl,Below.refl _ _⟩
 case round =>
  obtain ⟨j,hj,rfl,hB⟩:=hrel;have HB:=Lib.hid hB;clear hB;have z4:=cell_later HB.out zI.out
  by_cases hlt:j < n
  ·
   have y4:=cell_later HB.out Tq.out;have hjn:j < g.parts.length:=by have:=HN.out;omega
   obtain ⟨b,off,rfl,hcap,-,hrec⟩:=Jb.out.at (by omega);obtain ⟨cs,-,⟨x,rfl,hx⟩,hcl⟩:=hrec j hjn;obtain ⟨b',off',rfl,oI,-,oL⟩:=KD.out.at (by omega);obtain ⟨cs,-,⟨x',rfl,hx'⟩,hcl'⟩:=oL j hjn;have c2:=cell_later HB.out (hcl 1 (by omega));have d2:=cell_later HB.out (hcl' 1 (by omega));simp [iU] at c2 d2;rw [HN.out] at hcap oI;have EG:(n:Int)≤ca:=by omega
   have acW:(n:Int)≤cp':=by omega
   have dG:(j:Int) < n:=by omega
   have HX:=Lib.hid (hx.below HB.out);have HX':=Lib.hid (hx'.below HB.out);have HST:=Lib.hid (JG.out _ (List.getElem_mem hjn));clear hx hx' hcl hcl' hrec oL hcap oI;generalize g.parts[j].params=st at *;clear hjn
   go_wp2_with fail
   refine kQ (fun w'=>Below wr.heap.size wr w'∧w'.cell? ⟨w.heap.size,4,none⟩=some (.slice (some ⟨b,off,none⟩) n ca)∧w'.cell? ⟨w.heap.size+1,4,none⟩=some (.slice (some ⟨b',off',none⟩) n cp')∧w'.cell? ⟨b,off+j*2+1,none⟩=some x∧w'.cell? ⟨b',off'+j*2+1,none⟩=some x') [0,1,2,3,4,5,6,7,8,9,10,11,12,13] [] (by kernel_rfl) (by kernel_rfl) rfl ⟨cO (n:=1) (Below.refl _ _),y4,z4,c2,d2⟩ ?_;simp only [pk]
   repeat (first
    | (refine iH (by rfl) ?_;(try simp only [pt]))
    | (refine jl ?_ (by rfl) ?_ ?_;rotate_left;(intro wz hz;(try dsimp only at hz);(first | (go_simp;done) | (go_simp;with_reducible rfl)));(try simp only [pt])))
   refine nZ (.bool true) 22 #[x,x'] (by rfl) (fun wz=>by go_simp) (fun wz hz=>?_) ?_
   ·
    obtain ⟨hz1,hz2⟩:=hz;refine (x9 HST.out (HX.out.below hz1) (HX'.out.below hz1)).mono ?_;rintro e wy ⟨rfl,m,rfl⟩;exact ⟨rfl,cO hz1,hz2⟩
   simp only [pt]
   repeat (first
    | (refine iH (by rfl) ?_;(try simp only [pt]))
    | (refine jl ?_ (by rfl) ?_ ?_;rotate_left;(intro wz hz;(try dsimp only at hz);(first | (go_simp;done) | (go_simp;with_reducible rfl)));(try simp only [pt])))
   refine qh ?_;intro w' hS;have Bg:=Lib.hid (Below.then HB.out hS.1);clear hS;go_wp2;go_roundw
   case rel=>exact ⟨j+1,hlt,by go_num,Bg.out⟩
   case measure=>simp [intOf];omega
  ·
   obtain rfl:n=j:=by omega
   clear hj hlt
   go_wp2_with fail
   go_loopw [6] (fun i wl=>∃ j:Nat,j≤m∧i=.int .i64 j∧Below W3.heap.size W3 wl) (fun i _=>m - (intOf i).toNat)
   case atStart=>exact ⟨0,Nat.zero_le _,rfl,HB.out⟩
   case round =>
    clear HB z4;obtain ⟨j,hj,rfl,hB⟩:=hrel;have HB:=Lib.hid hB;clear hB;have z5:=cell_later HB.out DT.out
    by_cases hlt:j < m
    ·
     have y5:=cell_later HB.out IG.out;have hjn:j < g.lines.length:=by have:=HM.out;omega
     obtain ⟨b,off,rfl,hcap,-,hrec⟩:=mV.out.at (by omega);obtain ⟨cs,-,⟨x,rfl,hx⟩,hcl⟩:=hrec j hjn;obtain ⟨b',off',rfl,oI,-,oL⟩:=KE.out.at (by omega);obtain ⟨cs,-,⟨x',rfl,hx'⟩,hcl'⟩:=oL j hjn;have c4:=cell_later HB.out (hcl 2 (by omega));have d4:=cell_later HB.out (hcl' 2 (by omega));simp [iV] at c4 d4;rw [HM.out] at hcap oI;have EG:(m:Int)≤ce:=by omega
     have acW:(m:Int)≤cl':=by omega
     have dG:(j:Int) < m:=by omega
     have HX:=Lib.hid (hx.below HB.out);have HX':=Lib.hid (hx'.below HB.out);have HST:=Lib.hid (HLS.out _ (List.getElem_mem hjn));clear hx hx' hcl hcl' hrec oL hcap oI;generalize g.lines[j].start=st at *;clear hjn
     go_wp2_with fail
     refine kQ (fun w'=>Below wr.heap.size wr w'∧w'.cell? ⟨w.heap.size,5,none⟩=some (.slice (some ⟨b,off,none⟩) m ce)∧w'.cell? ⟨w.heap.size+1,5,none⟩=some (.slice (some ⟨b',off',none⟩) m cl')∧w'.cell? ⟨b,off+j*3+2,none⟩=some x∧w'.cell? ⟨b',off'+j*3+2,none⟩=some x') [0,1,2,3,4,5,6,7,8,9,10,11,12,13] [] (by kernel_rfl) (by kernel_rfl) rfl ⟨cO (n:=1) (Below.refl _ _),y5,z5,c4,d4⟩ ?_;simp only [pk]
     repeat (first
      | (refine iH (by rfl) ?_;(try simp only [pt]))
      | (refine jl ?_ (by rfl) ?_ ?_;rotate_left;(intro wz hz;(try dsimp only at hz);(first | (go_simp;done) | (go_simp;with_reducible rfl)));(try simp only [pt])))
     refine nZ (.bool true) 22 #[x,x'] (by rfl) (fun wz=>by go_simp) (fun wz hz=>?_) ?_
     ·
      obtain ⟨hz1,hz2⟩:=hz;refine (x9 HST.out (HX.out.below hz1) (HX'.out.below hz1)).mono ?_;rintro e wy ⟨rfl,m,rfl⟩;exact ⟨rfl,cO hz1,hz2⟩
     simp only [pt]
     repeat (first
      | (refine iH (by rfl) ?_;(try simp only [pt]))
      | (refine jl ?_ (by rfl) ?_ ?_;rotate_left;(intro wz hz;(try dsimp only at hz);(first | (go_simp;done) | (go_simp;with_reducible rfl)));(try simp only [pt])))
     refine qh ?_;intro w' hS;have Bg:=Lib.hid (Below.then HB.out hS.1);clear hS;go_wp2;go_roundw
     case rel=>exact ⟨j+1,hlt,by go_num,Bg.out⟩
     case measure=>simp [intOf];omega
    ·
     obtain rfl:m=j:=by omega
     clear hj hlt;obtain ⟨ba,fa,rfl,hca,-,ka⟩:=HMA.out;obtain ⟨be,fe,rfl,hce,-,ke⟩:=HME.out;obtain ⟨bo,fo,rfl,hco,-,ko⟩:=Pb.out;have y4:=cell_later HB.out Tq.out;have z4:=cell_later HB.out zI.out;have y5:=cell_later HB.out IG.out;have y6:=cell_later HB.out Ox.out;have z6:=cell_later HB.out Hz.out;replace ka:=cell_later HB.out ka;replace ke:=cell_later HB.out ke;replace ko:=cell_later HB.out ko;simp only [Nat.add_zero] at ka ke ko;have h1i:(n:Int)+1≤ca:=by omega
     have h2i:(m:Int)+1≤ce:=by omega
     have h4i:(g.ops.length:Int)+1≤co:=by omega
     have b1i:(n:Int)≤1100000:=by omega
     have b2i:(m:Int)≤1100000:=by omega
     have b4i:(g.ops.length:Int)≤1100000:=by omega
     clear hca hce hco hpl hll hol;go_wp2;go_ret
     exact ⟨rfl,Below.then (Below.then HB2.out HB3.out) HB.out⟩
theorem IJ {w:World}{o:Col}{M b:Nat}{P:ay}{m:aH}{v:bV}{k:Int}{ts:List Int}{e:Ending}{w':World}(h:aN w o M b P m v)(hr:oJ w o M b P m k ts e w') :
  ∃ o' v',e=.returned (.int .i64 (if pW m k then 0 else 1))∧Turn o o' (dm M) w w'∧aN w' o' M b P (if pW m k then oU m k.toNat ts else m) v':=by
 unfold oJ at hr
 by_cases hi:pW m k
 ·
  rw [if_pos hi] at hr ⊢;obtain ⟨o',v',rfl,T,hm⟩:=hr;exact ⟨o',v',rfl,T,by rw [if_pos hi];exact hm⟩
 ·
  rw [if_neg hi] at hr ⊢;obtain ⟨rfl,rfl⟩:=hr;exact ⟨o,v,rfl,Turn.refl _ _ _,by rw [if_neg hi];exact h⟩
theorem yj {m:aH}{B:Nat}(h:∀ r∈m.out,r.length≤B)(k:Int):(tK m k).length≤B:=by
 have:=pI (Q:=fun r:List Int=>r.length≤B) h (Nat.zero_le _) k.toNat;unfold tK
 split
 ·
  exact this
 ·
  exact Nat.zero_le _
theorem OD (P:ay)(x:fG)(m:aH):(bK P x m).2.1.length≤(if x.kind=3∨x.kind=6 then x.b.toNat else 0):=by
 unfold bK zF rE pu pE rF mF
 repeat' split
 all_goals first
  | exact Nat.zero_le _
  | (simp only [eF];exact Nat.le_refl _)
  | (rename_i h1 _ h2;exact absurd h2 (by omega))
  | (exfalso;omega)
theorem IK {P:ay}{F s:Nat}{m:aH}(hP:tX P)(hm:lH P F s m):(aY P m).1.cells.length≤64:=by
 obtain ⟨d,hd,hr⟩:=hm.ctl;obtain ⟨-,-,hx⟩:=sS hP hr;dsimp only at hx;have h1:=OD P (bI P.ops m.next) m;have h2:(if (bI P.ops m.next).kind=3∨(bI P.ops m.next).kind=6 then (bI P.ops m.next).b.toNat else 0)≤64:=by
  split
  ·
   rename_i h
   have:=hx.rate (by omega);omega
  ·
   omega
 unfold aY
 split
 ·
  exact Nat.zero_le _
 ·
  split
  ·
   unfold Jc bU;dsimp only;rw [List.length_map];omega
  ·
   split <;> exact Nat.zero_le _
theorem Xr {w:World}{b:Nat}(n:Int)(hn:n < 0∨8 < n):Calls Tryz.prog 26 #[.pointer (some ⟨b,0,none⟩),.int .i64 n] w (vC (.tuple #[.int .u8 0,.int .i64 1]) w):=by
 by_cases h0:n < 0
 ·
  go_enter Tryz.func26,Tryz.ntmps26
  go_wp2
  go_ret2
  exact ⟨rfl,rfl⟩
 ·
  have h8:(8:Int) < n:=by omega
  go_enter Tryz.func26,Tryz.ntmps26
  go_wp2
  go_ret2
  exact ⟨rfl,rfl⟩
theorem TM {w0 w:World}{o:Col}{M b:Nat}{P:ay}{m:aH}{v:eG}(n:Int)(hn:n < 0∨8 < n):Calls Tryz.prog 44 #[.pointer (some ⟨b,0,none⟩),.int .i64 n] w (vC (.tuple #[.int .u8 0,.int .i64 1]) w):=by
 by_cases h0:n < 0
 ·
  go_enter Tryz.func44,Tryz.ntmps44
  go_wp2
  go_ret2
  exact ⟨rfl,rfl⟩
 ·
  have h8:8 < n:=by omega
  clear hn
  go_enter Tryz.func44,Tryz.ntmps44
  go_wp2
  go_ret2
  exact ⟨rfl,rfl⟩
theorem Ea (x:Int):0≤fM x∧fM x < 8:=by
 have h1:=Int.tmod_lt_of_pos x (by decide:(0:Int) < 8);have h2:=Int.lt_tmod_of_pos x (by decide:(0:Int) < 8);unfold fM
 split <;> omega
theorem OE {w0 w:World}{o:Col}{b b':Nat}{P:ay}{S:Int}{m:aH}{v:bV}{z:eG}{F s:Nat}{tsv:Value}(h:Twin w0 w o b b' P m v z)(hS:bW P=(S,0))(hf:iM P)(hI:Inv P S F s m)(hs:s≤10000000)(c:kH)(hts:Has w0 tsv (aV c.tokens))(hF:F+c.tokens.length≤17600000000000)(hn:Fits c.n)(hlen:m.cs.length≤100∧m.mem.length≤100000∧m.lines.length≤100∧m.bH.length≤100) :
  Calls Tryz.prog 13 #[.pointer (some ⟨b,0,none⟩),.pointer (some ⟨b',0,none⟩),D8 c.what c.n tsv] w (LK w0 w o b b' P (pY P S c m)):=by
 have hP:=rJ hS;obtain ⟨ta,tc,rfl⟩:=Ints.slice hts;have hb0:=au w (.cells #[.int .i64 c.what,.int .i64 c.n,.slice ta c.tokens.length tc] 44);have T0:=Turn.of_below o 2200 hb0;have HX:=Lib.hid (show dY _ (ext o w.heap.size 2200) 2200 w.heap.size 44 #[.int .i64 c.what,.int .i64 c.n,.slice ta c.tokens.length tc] from ⟨heap_alloc_new w _,aW (Nat.le_refl _)⟩);have HP:=Lib.hid (h.quiet T0);have HT:=Lib.hid (T0);have JX:=Lib.hid hts;have HI:=Lib.hid hI;have HLEN:=Lib.hid hlen;have HFF:=Lib.hid hF;have wL:=Lib.hid hP;have G6:=Lib.hid hS;have hwk:=Ea c.what;unfold D8;obtain ⟨tsv,htv⟩:∃ x,Value.slice ta c.tokens.length tc=x:=⟨_,rfl⟩
 rw [htv] at HX JX HP HT ⊢;have HTV:=Lib.hid htv;clear h hb0 T0 hts hI hlen hF hP hS htv;generalize ext o w.heap.size 2200=q0 at *;have hk8:fM c.what=0∨fM c.what=1∨fM c.what=2∨fM c.what=3∨fM c.what=4∨fM c.what=5∨fM c.what=6∨fM c.what=7:=by omega
 clear hwk
 rcases hk8 with hk | hk | hk | hk | hk | hk | hk | hk
 ·
  have HK:=Lib.hid hk;have hd:pY P S c m=(if pW m c.n then oU m c.n.toNat c.tokens else m):=by unfold pY;rw [hk,if_pos rfl]
  obtain ⟨mm,hmm⟩:∃ x,(if pW m c.n then oU m c.n.toNat c.tokens else m)=x:=⟨_,rfl⟩
  have rz:=Lib.hid hmm;rw [hd,hmm];clear hd hk hmm
  go_enter Tryz.func13,Tryz.ntmps13
  go_wp2_with fail
  refine (fQ _ c.what c.n tsv).mono ?_;rintro e w1 ⟨rfl,hb1⟩;rw [HK.out];have T1:=Turn.of_below q0 2200 hb1;replace HP:=Lib.hid (HP.out.quiet T1);replace HX:=Lib.hid (HX.out.turn T1 (fun h=>h));replace HT:=Lib.hid (HT.out.trans T1 (fun _ h=>h));generalize ext q0 _ 2200=q1 at *;clear T1 hb1;have x1:=HX.out.cell 1 _ rfl;have x2:=HX.out.cell 2 _ rfl;clear x1
  go_wp2_with fail
  refine (yg (JX.out.below HP.out.zz.kept.below) (by have:=HFF.out;omega)).mono ?_;rintro e w2 ⟨gy,cy,rfl,hy,hgy,hb2⟩;have T2:=Turn.of_below q1 2300 hb2;have HL:=Lib.hid (uR q1 2300 hy);replace HP:=Lib.hid (HP.out.quiet T2);replace HX:=Lib.hid (HX.out.turn T2 (fun h=>h));replace HT:=Lib.hid (HT.out.trans T2 (fun _ h=>h));generalize ext q1 w1.heap.size 2300=q2 at *;clear T2 hy hb2;have x1:=HX.out.cell 1 _ rfl;have hfl:∀ r∈m.fed,r.length+c.tokens.length≤20000000000000:=fun r hr=>by
   have h1:=(HI.out.ok.AU r hr).1;have:=HFF.out;omega
  have HFL:=Lib.hid hfl;clear hfl
  go_wp2_with fail
  clear x1;refine (H8 HP.out.mm c.n HL.out.vals HFL.out).mono ?_;intro e w3 hr;obtain ⟨o3,v3,rfl,T3,M3⟩:=IJ HP.out.mm hr;rw [rz.out] at M3;have Yj:=Lib.hid M3;have HZ3:=Lib.hid (HP.out.zz.turn T3 uQ dm.kI);have HL3:=Lib.hid (HL.out.turn T3 (fun h=>by have:=h.2;omega));have HX3:=Lib.hid (HX.out.turn T3 (fun h=>by have:=h.2;omega));have HT3:=Lib.hid ((HT.out.mono (D:=D9) (fun _ h=>h.elim)).trans T3 dm.pair);obtain ⟨E,hE⟩:∃ x:Int,(if pW m c.n then 0 else 1)=x:=⟨_,rfl⟩
  rw [hE];have HE:=Lib.hid hE;clear T3 M3 hE HL HX HT HP hr;have x2:=HX3.out.cell 2 _ rfl
  go_wp2_with fail
  clear x2;refine (x9 (by have:=HFF.out;omega) HL3.out.YU (JX.out.below HZ3.out.kept.below)).mono ?_;rintro e w4 ⟨rfl,n4,rfl⟩
  go_wp2_with fail
  refine (xX (HL3.out.own.drewN n4) (by have:=HFF.out;omega)).mono ?_;rintro e w5 ⟨rfl,o5,T5⟩;have T5':=((Turn.refl o3 (fun x=>x=2300) w3).drewN n4).trans T5 (fun _ h=>h);have hne:∀ x,x=2300→¬ Mine 1000 x∧¬ bM 100 x:=fun x hx=>by subst hx;exact ⟨fun h=>by unfold Mine at h;omega,fun h=>by have:=h.2;omega⟩
  have yP:=Lib.hid (Yj.out.turn T5' (fun x hx=>(hne x hx).1));have DT:=Lib.hid (HZ3.out.turn T5' (by decide) (fun x hx=>(hne x hx).2));have ru:=Lib.hid (HX3.out.turn T5' (by decide));have uJ:=Lib.hid ((HT3.out.mono (D:=rZ) (fun _ h=>D9.twin h)).trans T5' (fun x hx=>by subst hx;exact IA));clear T5 T5' hne Yj HZ3 HL3 HX3 HT3;have x1:=ru.out.cell 1 _ rfl;have x2:=ru.out.cell 2 _ rfl
  go_wp2_with fail
  clear x1 x2;rw [← HTV.out];refine (NP DT.out (by decide) c.n (by rw [HTV.out];exact JX.out.below DT.out.kept.below) HFL.out DT.out.small.1).mono ?_;rintro e w6 ⟨o6,z6,rfl,T6,Z6⟩;rw [HE.out];rw [rz.out] at Z6;have Yq:=Lib.hid (yP.out.turn T6 bZ.notM);have Hz:=Lib.hid Z6;have mQ:=Lib.hid (uJ.out.trans T6 (fun x h=>(bZ.pair x h).twin));clear T6 Z6;go_wp2;go_ret
  exact ⟨rfl,o6,_,z6,mQ.out,Yq.out,Hz.out⟩
 ·
  have HK:=Lib.hid hk;have hd:pY P S c m=(aY P m).2:=by unfold pY;rw [hk,if_neg (by decide),if_pos rfl]
  rw [hd];clear hd hk
  go_enter Tryz.func13,Tryz.ntmps13
  go_wp2_with fail
  refine (fQ _ c.what c.n tsv).mono ?_;rintro e w1 ⟨rfl,hb1⟩;rw [HK.out];have T1:=Turn.of_below q0 2200 hb1;replace HP:=Lib.hid (HP.out.quiet T1);replace HX:=Lib.hid (HX.out.turn T1 (fun h=>h));replace HT:=Lib.hid (HT.out.trans T1 (fun _ h=>h));generalize ext q0 _ 2200=q1 at *;clear T1 hb1;have x1:=HX.out.cell 1 _ rfl;have x2:=HX.out.cell 2 _ rfl;clear x1 x2
  go_wp2_with fail
  refine (Oq HP.out wL.out hf HI.out.ok (by omega) HI.out.kp (by have:=IK wL.out HI.out.ok;omega)).mono ?_;rintro e w2 ⟨rfl,o2,v2,z2,T2,P2⟩;have MG:=Lib.hid P2;have HT2:=Lib.hid ((HT.out.mono (D:=rZ) (fun _ h=>h.elim)).trans T2 (fun _ h=>h));clear T2 P2;go_wp2;go_ret
  exact ⟨rfl,o2,v2,z2,HT2.out,MG.out⟩
 ·
  have HK:=Lib.hid hk
  by_cases hn8:0≤c.n∧c.n≤8
  ·
   obtain ⟨k,hkn⟩:∃ k:Nat,c.n=k:=⟨c.n.toNat,by omega⟩
   obtain ⟨⟨rh,rm⟩,hR⟩:∃ x,eU P S (m.periods+(k:Int)) m=x:=⟨_,rfl⟩
   have hd:pY P S c m=rm:=by unfold pY;rw [hk,if_neg (by decide),if_neg (by decide),if_pos rfl,if_pos hn8,hkn,hR]
   rw [hd];have HRR:=Lib.hid hR;have HKN:=Lib.hid hkn;have hk8:k≤8:=by omega
   clear hd hk hR hkn hn8
   go_enter Tryz.func13,Tryz.ntmps13
   go_wp2_with fail
   refine (fQ _ c.what c.n tsv).mono ?_;rintro e w1 ⟨rfl,hb1⟩;rw [HK.out];have T1:=Turn.of_below q0 2200 hb1;replace HP:=Lib.hid (HP.out.quiet T1);replace HX:=Lib.hid (HX.out.turn T1 (fun h=>h));replace HT:=Lib.hid (HT.out.trans T1 (fun _ h=>h));generalize ext q0 _ 2200=q1 at *;clear T1 hb1;have x1:=HX.out.cell 1 _ rfl;have x2:=HX.out.cell 2 _ rfl;rw [HKN.out] at x1;clear x2
   go_wp2_with fail
   clear x1;obtain ⟨d,hd,hrd⟩:=HI.out.rd;have Yl:=Lib.hid hrd;clear hrd;refine (EY k HP.out.mm G6.out hf HI.out.ok (by omega) hk8 Yl.out hd).mono ?_;rintro e w2 ⟨o2,v2,rfl,T2,M2⟩;rw [HRR.out] at M2 ⊢;dsimp only at M2 ⊢;have J4:=Lib.hid M2;have HZ2:=Lib.hid (HP.out.zz.turn T2 uQ dm.kI);have yO:=Lib.hid (HX.out.turn T2 (fun h=>by have:=h.2;omega));have HT2:=Lib.hid ((HT.out.mono (D:=rZ) (fun _ h=>h.elim)).trans T2 (fun x h=>(dm.pair x h).twin));clear T2 M2 HX HT HP;have x1:=yO.out.cell 1 _ rfl;rw [HKN.out] at x1
   go_wp2_with fail
   clear x1;refine (Sl k HZ2.out (by decide) G6.out hf HI.out.ok (by omega) hk8 HI.out.kp Yl.out hd).mono ?_;rintro e w3 ⟨o3,z3,rfl,Z3,T3⟩;rw [HRR.out] at Z3 ⊢;dsimp only at Z3 ⊢;have Yj:=Lib.hid (J4.out.turn T3 bZ.notM);have HZ3:=Lib.hid Z3;have HT3:=Lib.hid (HT2.out.trans T3 (fun x h=>(bZ.pair x h).twin));clear T3 Z3;go_wp2;go_ret
   exact ⟨rfl,o3,v2,z3,HT3.out,Yj.out,HZ3.out⟩
  ·
   have hd:pY P S c m=m:=by unfold pY;rw [hk,if_neg (by decide),if_neg (by decide),if_pos rfl,if_neg hn8]
   rw [hd];have hbad:c.n < 0∨8 < c.n:=by omega
   have HBAD:=Lib.hid hbad;clear hd hk hn8 hbad
   go_enter Tryz.func13,Tryz.ntmps13
   go_wp2_with fail
   refine (fQ _ c.what c.n tsv).mono ?_;rintro e w1 ⟨rfl,hb1⟩;rw [HK.out];have T1:=Turn.of_below q0 2200 hb1;replace HP:=Lib.hid (HP.out.quiet T1);replace HX:=Lib.hid (HX.out.turn T1 (fun h=>h));replace HT:=Lib.hid (HT.out.trans T1 (fun _ h=>h));generalize ext q0 _ 2200=q1 at *;clear T1 hb1;have x1:=HX.out.cell 1 _ rfl;have x2:=HX.out.cell 2 _ rfl;clear x2
   go_wp2_with fail
   refine (Xr c.n HBAD.out).mono ?_;rintro e _ ⟨rfl,rfl⟩
   go_wp2_with fail
   refine (TM (P:=P) (m:=m) (v:=z) (w0:=w0) (o:=q1) (M:=100) c.n HBAD.out).mono ?_;rintro e _ ⟨rfl,rfl⟩;clear x1;go_wp2;go_ret
   exact ⟨rfl,q1,v,z,HT.out.mono (fun _ h=>h.elim),HP.out⟩
 all_goals have hd:pY P S c m=m:=by unfold pY;rw [hk,if_neg (by decide),if_neg (by decide),if_neg (by decide)]
 all_goals rw [hd]
 all_goals have HK:=Lib.hid hk
 all_goals clear hd hk
 ·
  go_enter Tryz.func13,Tryz.ntmps13
  go_wp2_with fail
  refine (fQ _ c.what c.n tsv).mono ?_;rintro e w1 ⟨rfl,hb1⟩;rw [HK.out];have T1:=Turn.of_below q0 2200 hb1;replace HP:=Lib.hid (HP.out.quiet T1);replace HX:=Lib.hid (HX.out.turn T1 (fun h=>h));replace HT:=Lib.hid (HT.out.trans T1 (fun _ h=>h));generalize ext q0 _ 2200=q1 at *;clear T1 hb1;have x1:=HX.out.cell 1 _ rfl;have x2:=HX.out.cell 2 _ rfl;clear x2
  go_wp2_with fail
  refine dB (fun w'=>w'.cell? ⟨w.heap.size,1,none⟩=some (.int .i64 c.n)) [0,1,2,4,5,6] [3] [0,1,2,4,5,6] 4 (by kernel_rfl) (by kernel_rfl) rfl x1 ?_;intro Q' hQ' lq;simp only [pk];refine aA ?_;refine av ?_;refine aG (i:=3) (by kernel_rfl) ?_;simp only [pk];replace HP:=Lib.hid (HP.out.quiet (Turn.refl q1 _ w1).drew);replace HX:=Lib.hid (HX.out.turn (Turn.refl q1 (fun _=>False) w1).drew (fun h=>h));replace HT:=Lib.hid (HT.out.drew);clear x1 lq;have hol:∀ r∈m.out,r.length≤640000000:=fun r hr=>by have:=(HI.out.ok.uE r hr).1;omega
  have HOL:=Lib.hid hol;clear hol
  go_wp2_with fail
  refine (qB HP.out.mm c.n (fun r hr=>Nat.le_trans (HOL.out r hr) (by decide))).mono ?_;rintro e w2 ⟨vN,rfl,kN,hbN⟩;have TN:=Turn.of_below q1 2301 hbN;have HL:=Lib.hid (Own.made q1 2301 kN);replace HP:=Lib.hid (HP.out.quiet TN);replace HX:=Lib.hid (HX.out.turn TN (fun h=>h));replace HT:=Lib.hid (HT.out.trans TN (fun _ h=>h));generalize ext q1 _ 2301=q2 at *;clear TN kN hbN;obtain ⟨sa,sc,rfl⟩:=HL.out.slice;have x1:=HX.out.cell 1 _ rfl
  go_wp2_with fail
  refine ⟨by intros;exact x1,?_⟩;refine bg (ks:=[7,8,9]) (fun _ _ hx h=>hx.cell h) (by kernel_rfl) ?_;simp only [pk];clear x1
  go_wp2_with fail
  refine (H9 HP.out.zz c.n (fun r hr=>Nat.le_trans (HOL.out r hr) (by decide))).mono ?_;rintro e w3 ⟨vN,rfl,kN,hbN⟩;have TN:=Turn.of_below q2 2302 hbN;have HL2:=Lib.hid (Own.made q2 2302 kN).vals;replace HP:=Lib.hid (HP.out.quiet TN);replace HT:=Lib.hid (HT.out.trans TN (fun _ h=>h));replace HL:=Lib.hid (HL.out.turn TN (fun h=>h));generalize ext q2 _ 2302=q3 at *;clear TN kN hbN;obtain ⟨ta2,tc2,rfl⟩:=HL2.out.slice;rw [aD] at HL2 ⊢
  go_wp2_with fail
  refine (qb HL.out HL2.out (by have:=yj HOL.out c.n;omega)).mono ?_;rintro e w4 ⟨rfl,o4,T4⟩;have TR:=Lib.hid (HP.out.turn T4 (by decide) (fun x hx=>by subst hx;exact ⟨fun h=>by unfold Mine at h;omega,fun h=>by have:=h.2;omega⟩));have tZ:=Lib.hid ((HT.out.mono (D:=rZ) (fun _ h=>h.elim)).trans T4 (fun x hx=>by subst hx;exact ⟨by decide,by decide⟩));clear T4;go_wp2;go_ret
  exact ⟨rfl,o4,_,_,tZ.out,TR.out⟩
 ·
  go_enter Tryz.func13,Tryz.ntmps13
  go_wp2_with fail
  refine (fQ _ c.what c.n tsv).mono ?_;rintro e w1 ⟨rfl,hb1⟩;rw [HK.out];have T1:=Turn.of_below q0 2200 hb1;replace HP:=Lib.hid (HP.out.quiet T1);replace HX:=Lib.hid (HX.out.turn T1 (fun h=>h));replace HT:=Lib.hid (HT.out.trans T1 (fun _ h=>h));generalize ext q0 _ 2200=q1 at *;clear T1 hb1;have x1:=HX.out.cell 1 _ rfl;have x2:=HX.out.cell 2 _ rfl;obtain ⟨za,zc,ez⟩:=(HP.out.zz.cs).slice;have b11:=HP.out.zz.cell 11 rfl;rw [ez] at b11;have HEZ:=Lib.hid ez;clear x1 x2 ez
  go_wp2_with fail
  refine dB (fun w'=>w'.cell? ⟨b',11,none⟩=some (.slice za _ zc)) [0,2,3,4,5] [1] [0,2,3,4,5] 3 (by kernel_rfl) (by kernel_rfl) rfl b11 ?_;intro Q' hQ' lq;simp only [pk];refine aA ?_;refine av ?_;refine aG (i:=1) (by kernel_rfl) ?_;simp only [pk];replace HP:=Lib.hid (HP.out.quiet (Turn.refl q1 _ w1).drew);replace HX:=Lib.hid (HX.out.turn (Turn.refl q1 (fun _=>False) w1).drew (fun h=>h));replace HT:=Lib.hid (HT.out.drew);clear b11 lq
  go_wp2_with fail
  refine (kY HP.out.mm (by have:=HLEN.out;omega)).mono ?_;rintro e w2 ⟨vN,rfl,kN,hbN⟩;have TN:=Turn.of_below q1 2301 hbN;have HL:=Lib.hid (Own.made q1 2301 kN);replace HP:=Lib.hid (HP.out.quiet TN);replace HX:=Lib.hid (HX.out.turn TN (fun h=>h));replace HT:=Lib.hid (HT.out.trans TN (fun _ h=>h));generalize ext q1 _ 2301=q2 at *;clear TN kN hbN;obtain ⟨sa,sc,rfl⟩:=HL.out.slice;have b11:=HP.out.zz.cell 11 rfl;rw [HEZ.out] at b11
  go_wp2_with fail
  refine ⟨by intros;exact b11,?_⟩;refine bg (ks:=[6,7]) (fun _ _ hx h=>hx.cell h) (by kernel_rfl) ?_;simp only [pk];clear b11
  go_wp2_with fail
  refine (qb HL.out (by have:=(HP.out.zz.cs).vals;rw [HEZ.out] at this;exact this) (by have:=HLEN.out;omega)).mono ?_;rintro e w4 ⟨rfl,o4,T4⟩;have TR:=Lib.hid (HP.out.turn T4 (by decide) (fun x hx=>by subst hx;exact ⟨fun h=>by unfold Mine at h;omega,fun h=>by have:=h.2;omega⟩));have tZ:=Lib.hid ((HT.out.mono (D:=rZ) (fun _ h=>h.elim)).trans T4 (fun x hx=>by subst hx;exact ⟨by decide,by decide⟩));clear T4;go_wp2;go_ret
  exact ⟨rfl,o4,_,_,tZ.out,TR.out⟩
 ·
  go_enter Tryz.func13,Tryz.ntmps13
  go_wp2_with fail
  refine (fQ _ c.what c.n tsv).mono ?_;rintro e w1 ⟨rfl,hb1⟩;rw [HK.out];have T1:=Turn.of_below q0 2200 hb1;replace HP:=Lib.hid (HP.out.quiet T1);replace HX:=Lib.hid (HX.out.turn T1 (fun h=>h));replace HT:=Lib.hid (HT.out.trans T1 (fun _ h=>h));generalize ext q0 _ 2200=q1 at *;clear T1 hb1;have x1:=HX.out.cell 1 _ rfl;have x2:=HX.out.cell 2 _ rfl;clear x1 x2
  go_wp2_with fail
  refine (pV HP.out.mm (by have:=HLEN.out;omega)).mono ?_;rintro e w2 ⟨vN,rfl,kN,hbN⟩;have TN:=Turn.of_below q1 2301 hbN;have HL:=Lib.hid (Own.made q1 2301 kN);replace HP:=Lib.hid (HP.out.quiet TN);replace HX:=Lib.hid (HX.out.turn TN (fun h=>h));replace HT:=Lib.hid (HT.out.trans TN (fun _ h=>h));generalize ext q1 _ 2301=q2 at *;clear TN kN hbN;obtain ⟨sa,sc,rfl⟩:=HL.out.slice
  go_wp2_with fail
  refine (yV HP.out.zz (by have:=HLEN.out;omega)).mono ?_;rintro e w3 ⟨vN,rfl,kN,hbN⟩;have TN:=Turn.of_below q2 2302 hbN;have HL2:=Lib.hid (Own.made q2 2302 kN).vals;replace HP:=Lib.hid (HP.out.quiet TN);replace HT:=Lib.hid (HT.out.trans TN (fun _ h=>h));replace HL:=Lib.hid (HL.out.turn TN (fun h=>h));generalize ext q2 _ 2302=q3 at *;clear TN kN hbN;obtain ⟨ta2,tc2,rfl⟩:=HL2.out.slice;rw [aD] at HL2 ⊢
  go_wp2_with fail
  refine (qb HL.out HL2.out (by have:=HLEN.out;simp [l7];omega)).mono ?_;rintro e w4 ⟨rfl,o4,T4⟩;have TR:=Lib.hid (HP.out.turn T4 (by decide) (fun x hx=>by subst hx;exact ⟨fun h=>by unfold Mine at h;omega,fun h=>by have:=h.2;omega⟩));have tZ:=Lib.hid ((HT.out.mono (D:=rZ) (fun _ h=>h.elim)).trans T4 (fun x hx=>by subst hx;exact ⟨by decide,by decide⟩));clear T4;go_wp2;go_ret
  exact ⟨rfl,o4,_,_,tZ.out,TR.out⟩
 ·
  go_enter Tryz.func13,Tryz.ntmps13
  go_wp2_with fail
  refine (fQ _ c.what c.n tsv).mono ?_;rintro e w1 ⟨rfl,hb1⟩;rw [HK.out];have T1:=Turn.of_below q0 2200 hb1;replace HP:=Lib.hid (HP.out.quiet T1);replace HX:=Lib.hid (HX.out.turn T1 (fun h=>h));replace HT:=Lib.hid (HT.out.trans T1 (fun _ h=>h));generalize ext q0 _ 2200=q1 at *;clear T1 hb1;have x1:=HX.out.cell 1 _ rfl;have x2:=HX.out.cell 2 _ rfl;obtain ⟨za,zc,ez⟩:=(HP.out.zz.mem).slice;have b11:=HP.out.zz.cell 7 rfl;rw [ez] at b11;have HEZ:=Lib.hid ez;clear x1 x2 ez
  go_wp2_with fail
  refine dB (fun w'=>w'.cell? ⟨b',7,none⟩=some (.slice za _ zc)) [0,2,3,4,5] [1] [0,2,3,4,5] 3 (by kernel_rfl) (by kernel_rfl) rfl b11 ?_;intro Q' hQ' lq;simp only [pk];refine aA ?_;refine av ?_;refine aG (i:=1) (by kernel_rfl) ?_;simp only [pk];replace HP:=Lib.hid (HP.out.quiet (Turn.refl q1 _ w1).drew);replace HX:=Lib.hid (HX.out.turn (Turn.refl q1 (fun _=>False) w1).drew (fun h=>h));replace HT:=Lib.hid (HT.out.drew);clear b11 lq
  go_wp2_with fail
  refine (lJ HP.out.mm (by have:=HLEN.out;omega)).mono ?_;rintro e w2 ⟨vN,rfl,kN,hbN⟩;have TN:=Turn.of_below q1 2301 hbN;have HL:=Lib.hid (Own.made q1 2301 kN);replace HP:=Lib.hid (HP.out.quiet TN);replace HX:=Lib.hid (HX.out.turn TN (fun h=>h));replace HT:=Lib.hid (HT.out.trans TN (fun _ h=>h));generalize ext q1 _ 2301=q2 at *;clear TN kN hbN;obtain ⟨sa,sc,rfl⟩:=HL.out.slice;have b11:=HP.out.zz.cell 7 rfl;rw [HEZ.out] at b11
  go_wp2_with fail
  refine ⟨by intros;exact b11,?_⟩;refine bg (ks:=[6,7]) (fun _ _ hx h=>hx.cell h) (by kernel_rfl) ?_;simp only [pk];clear b11
  go_wp2_with fail
  refine (qb HL.out (by have:=(HP.out.zz.mem).vals;rw [HEZ.out] at this;exact this) (by have:=HLEN.out;omega)).mono ?_;rintro e w4 ⟨rfl,o4,T4⟩;have TR:=Lib.hid (HP.out.turn T4 (by decide) (fun x hx=>by subst hx;exact ⟨fun h=>by unfold Mine at h;omega,fun h=>by have:=h.2;omega⟩));have tZ:=Lib.hid ((HT.out.mono (D:=rZ) (fun _ h=>h.elim)).trans T4 (fun x hx=>by subst hx;exact ⟨by decide,by decide⟩));clear T4;go_wp2;go_ret
  exact ⟨rfl,o4,_,_,tZ.out,TR.out⟩
 ·
  go_enter Tryz.func13,Tryz.ntmps13
  go_wp2_with fail
  refine (fQ _ c.what c.n tsv).mono ?_;rintro e w1 ⟨rfl,hb1⟩;rw [HK.out];have T1:=Turn.of_below q0 2200 hb1;replace HP:=Lib.hid (HP.out.quiet T1);replace HX:=Lib.hid (HX.out.turn T1 (fun h=>h));replace HT:=Lib.hid (HT.out.trans T1 (fun _ h=>h));generalize ext q0 _ 2200=q1 at *;clear T1 hb1;have x1:=HX.out.cell 1 _ rfl;have x2:=HX.out.cell 2 _ rfl;clear x1 x2;obtain ⟨pz,hpz⟩:∃ x:Int,(m.periods:Int)=x:=⟨_,rfl⟩
  have zN:=Lib.hid hpz;have b16:=HP.out.zz.cell 16 (u:=.int .i64 (m.periods:Int)) rfl;rw [hpz] at b16;clear hpz
  go_wp2_with fail
  refine dB (fun w'=>w'.cell? ⟨b',16,none⟩=some (.int .i64 pz)) [0,2,6,8,9,10,11] [1,3,4,5,7] [0,2] 13 (by kernel_rfl) (by kernel_rfl) rfl b16 ?_;intro Q' hQ' lq;simp only [pk];refine aA ?_;refine av ?_;refine aG (i:=1) (by kernel_rfl) ?_;simp only [pk];replace HP:=Lib.hid (HP.out.quiet (Turn.refl q1 _ w1).drew);replace HX:=Lib.hid (HX.out.turn (Turn.refl q1 (fun _=>False) w1).drew (fun h=>h));replace HT:=Lib.hid (HT.out.drew);clear b16
  go_wp2_with fail
  refine (nG HP.out.mm HI.out.ok.bH).mono ?_;rintro e w2 ⟨vN,rfl,kN,hbN⟩;have TN:=Turn.of_below q1 2301 hbN;have HL:=Lib.hid (Own.made q1 2301 kN);replace HP:=Lib.hid (HP.out.quiet TN);replace HX:=Lib.hid (HX.out.turn TN (fun h=>h));replace HT:=Lib.hid (HT.out.trans TN (fun _ h=>h));generalize ext q1 _ 2301=q2 at *;clear TN kN hbN;obtain ⟨sa,sc,rfl⟩:=HL.out.slice;have b16:=HP.out.zz.cell 16 (u:=.int .i64 (m.periods:Int)) rfl;rw [zN.out] at b16
  go_wp2_with fail
  refine ⟨by intros;exact b16,?_⟩;refine aG (i:=3) (by kernel_rfl) ?_;simp only [pk];clear b16
  go_wp2_with fail
  refine (BF HP.out.zz HI.out.ok.bH).mono ?_;rintro e w3 ⟨vN,rfl,kN,hbN⟩;have TN:=Turn.of_below q2 2302 hbN;have HL2:=Lib.hid (Own.made q2 2302 kN).vals;replace HP:=Lib.hid (HP.out.quiet TN);replace HT:=Lib.hid (HT.out.trans TN (fun _ h=>h));replace HL:=Lib.hid (HL.out.turn TN (fun h=>h));generalize ext q2 _ 2302=q3 at *;clear TN kN hbN;obtain ⟨ta2,tc2,rfl⟩:=HL2.out.slice;rw [aD] at HL2 ⊢;have b16:=HP.out.zz.cell 16 (u:=.int .i64 (m.periods:Int)) rfl;rw [zN.out] at b16
  go_wp2_with fail
  refine ⟨by intros;exact b16,?_⟩;refine aG (i:=4) (by kernel_rfl) ?_;simp only [pk];clear b16
  go_wp2_with fail
  refine (qb HL.out HL2.out (by have:=HLEN.out;simp [j3];omega)).mono ?_;rintro e w4 ⟨rfl,o4,T4⟩;have TR:=Lib.hid (HP.out.turn T4 (by decide) (fun x hx=>by subst hx;exact ⟨fun h=>by unfold Mine at h;omega,fun h=>by have:=h.2;omega⟩));have tZ:=Lib.hid ((HT.out.mono (D:=rZ) (fun _ h=>h.elim)).trans T4 (fun x hx=>by subst hx;exact ⟨by decide,by decide⟩));clear T4;have b16:=TR.out.zz.cell 16 (u:=.int .i64 (m.periods:Int)) rfl;rw [zN.out] at b16;have Xt:=Lib.hid b16;clear b16
  go_wp2_with fail
  refine ⟨by intros;exact Xt.out,?_⟩;refine aG (i:=5) (by kernel_rfl) ?_;simp only [pk]
  go_wp2_with fail
  refine ⟨by intros;exact Xt.out,?_⟩;refine dQ (r:=[6,8,9,10,11]) (n:=4) lq (by kernel_rfl) Xt.out ?_;simp only [pk];refine aA ?_;refine av ?_;refine aG (i:=7) (by kernel_rfl) ?_;simp only [pk];clear lq
  go_wp2_with fail
  refine (rT TR.out.mm).mono ?_;rintro e _ ⟨rfl,rfl⟩;rw [zN.out]
  go_wp2_with fail
  refine ⟨by intros;exact Xt.out,?_⟩;refine bg (ks:=[12,13,14]) (fun _ _ hx h=>hx.cell h) (by kernel_rfl) ?_;simp only [pk];go_wp2;go_ret
  exact ⟨rfl,o4,_,_,tZ.out,TR.out⟩
theorem OG {w:World}{o:Col}{c:Nat}{ov:Value}{xss:List (List Int)}(h:jw w o c ov xss)(hl:∀ l∈xss,l.length≤17600000000000) :
  ∃ (vs:List Value) (ns:List Nat) (o':Col),vs.length=xss.length∧(∀ j:Nat,ns[j]?.getD 0≤17600000000000)∧Own w o' 1 42 1 ov vs.length vs∧LP w o' vs ns 0 0∧∀ k,k < w.heap.size→o' k=2∨10≤o' k→o k=c:=by
 obtain ⟨vs,h1,h2,h3,h4,h5⟩:=h;refine ⟨vs,xss.map List.length,su ov vs,h1,fun j=>?_,⟨h2.1,fun k hk=>by simp [su,hk]⟩,fun j hj=>?_,fun k hk h10=>?_⟩
 ·
  by_cases hj:j < xss.length
  ·
   simpa [hj] using hl _ (List.getElem_mem hj)
  ·
   simp [show xss.length≤j by omega]
 ·
  have hj':j < xss.length:=by omega
  have e:(xss.map List.length)[j]?.getD 0=(xss[j]?.getD []).length:=by simp [hj']
  refine ⟨xss[j]?.getD [],e.symm,fun hlt=>absurd hlt (Nat.not_lt_zero _),fun _=>by simp [nX],?_⟩;rw [e];exact ⟨(h3 j hj').1,fun b hb=>KC hj hb (h5 j b hj' hb) (fun i j B hij hj=>h4 i j B hij (by omega))⟩
 ·
  have h10:10≤su ov vs k:=by
   rcases h10 with h | h
   ·
    exfalso
    unfold su at h
    repeat' (split at h)
    all_goals omega
   ·
    exact h
  obtain ⟨i,hi,hb⟩:=Ou h10;exact (h3 i (by omega)).2 k hb
theorem OH (n:Nat):(madeCells (Value.cells (.slice none 0 0)) (n*1)).toList=List.replicate n (.slice none 0 0):=by
 rw [Nat.mul_one];simp [madeCells,Value.cells,Nat.mod_one,List.map_const']
theorem Eb {w:World}{o:Col}{c:Nat}{ov:Value}{xss:List (List Int)}(h:jw w o c ov xss)(hm:xss.length≤5864062014805)(hl:∀ l∈xss,l.length≤17600000000000) :
  Calls Tryz.prog 34 #[ov] w fun e w'=>e=.returned (.bool true)∧aI (fun k=>o k=c) w w':=by
 obtain ⟨vs,ns,o',hvs,hns,OV,A1,hoc⟩:=OG h hl;obtain ⟨i0,hi,hz0,hz1,hz2⟩:=info_parts bJ;obtain ⟨j0,ji,Un,jz1,Uo⟩:=info_parts je;rw [← hvs] at hm;have HM:=Lib.hid hm;have HNS:=Lib.hid hns;have HOC:=Lib.hid hoc;have Qc:(vs.length:Int)≤5864062014805:=by omega
 clear h hl hm hvs hns hoc;obtain ⟨w1,hr,hown,hg⟩:=run_make_full (P:=Tryz.prog) w w.heap.size 63 42 j0 _ 1 (by kernel_rfl) ji Un jz1 .i64 .i64 vs.length (by rw [Uo];have:=HM.out;omega) (by have:=HM.out;unfold maxLen;omega) (Nat.le_refl _);obtain ⟨oa,oc,rfl⟩:=OV.slice
 go_enter Tryz.func34,Tryz.ntmps34
 go_wp2_with fail
 obtain ⟨L,hLe⟩:∃ L,L=w.heap.size:=⟨_,rfl⟩
 have T1:Turn o' (ext o' w.heap.size 2) (fun _=>False) w w1:=Turn.gN o' 2 ((aI.refl (fun _=>False) w).grown hg (fun k hk _=>by cases hk)) (fun _ _ h=>h);have OV1:=OV.turn T1 (fun h=>h);have A11:=A1.turn T1 (fun _ h=>h);rw [OH] at hown;have L1:Ov w1 (ext o' w.heap.size 2) w.heap.size vs 0:=⟨List.replicate vs.length (.slice none 0 0),by simp,fun j hj=>absurd hj (Nat.not_lt_zero _),bG hown (fun _ _=>Nat.zero_le _),fun k hk=>aW (by rw [← Option.some.inj hk];exact Nat.le_refl _)⟩;rw [← hLe] at L1 T1 OV1 A11 ⊢;have HT1:=Lib.hid T1;have HL1:=Lib.hid L1;have abx:=Lib.hid OV1;have HA1:=Lib.hid A11;clear OV A1 hown hg hr T1 OV1 A11 L1 hLe;generalize ext o' L 2=o1 at *
 go_loopw [4,5] (fun i _ wr=>∃ n:Nat,n≤vs.length∧i=.int .i64 n∧Own wr o1 1 42 1 (.slice oa vs.length oc) vs.length vs∧LP wr o1 vs ns n 0∧Ov wr o1 L vs n∧Turn o1 o1 (fun x=>x=2∨10≤x) w1 wr) (fun i _ _=>vs.length - (intOf i).toNat)
 case atStart=>exact ⟨0,Nat.zero_le _,rfl,abx.out,HA1.out,HL1.out,Turn.refl _ _ _⟩
 case round =>
  clear HL1 abx HA1;obtain ⟨i,hi1,rfl,OV,A1,L1,T⟩:=hrel
  by_cases hlt:i < vs.length
  ·
   have OV0:=OV;obtain ⟨_,hcp,gA,_,rfl,hcA,_,_⟩:=bN OV.1 (by omega);have cA:=hcA i (vs[i]?.getD undef) (by simp [hlt]);have dG:(i:Int) < vs.length:=by omega
   have Mq:(vs.length:Int)≤oc:=by omega
   obtain ⟨zs,hz1,_,_,hz4⟩:=A1 i hlt;obtain ⟨ga,gc,hge⟩:=hz4.slice;have hnb:=HNS.out i;have HGE:=Lib.hid hge;obtain ⟨n,hn⟩:∃ n,ns[i]?.getD 0=n:=⟨_,rfl⟩
   rw [hn] at HGE hnb;rw [hge,hn] at cA;have ou:=Lib.hid hn;have Fz:=Lib.hid OV0;have HA:=Lib.hid A1;have HL:=Lib.hid L1;have HT:=Lib.hid T;have acX:(n:Int)≤17600000000000:=by omega
   clear OV OV0 A1 L1 T hz1 hz4 hge hn hcA
   go_wp2_with fail
   go_loopw [5] (fun kk wq=>∃ k:Nat,k≤n∧kk=.int .i64 k∧Own wq o1 1 42 1 (.slice (some ⟨gA,0,none⟩) vs.length oc) vs.length vs∧LP wq o1 vs ns i k∧Ov wq o1 L vs i∧Turn o1 o1 (fun x=>x=2∨10≤x) w1 wq) (fun kk _=>n - (intOf kk).toNat)
   case atStart=>exact ⟨0,Nat.zero_le _,rfl,Fz.out,HA.out,HL.out,HT.out⟩
   case round =>
    clear cA Fz HA HL HT;obtain ⟨k,hk,rfl,OV,A1,L1,T⟩:=hrel;obtain ⟨_,_,gA',_,e,hcA,_,_⟩:=bN OV.1 (by omega);cases e
    have cA:=hcA i (vs[i]?.getD undef) (by simp [hlt]);rw [HGE.out] at cA;obtain ⟨ls,hls,_,hLo⟩:=L1;obtain ⟨_,_,gL,_,e,LV,TS,_⟩:=bN hLo.1 (by omega);cases e
    have cL:=LV i (ls[i]?.getD undef) (by simp [show i < ls.length by omega]);have fL:=TS i
    by_cases hkn:k < n
    ·
     obtain ⟨zs,hz1,_,_,hz4⟩:=A1 i hlt;rw [HGE.out,ou.out] at hz4;rw [ou.out] at hz1;obtain ⟨_,hgc,g,_,rfl,hcg,hfg,_⟩:=bN hz4.1 (by rw [aD];omega);have cg:=hcg k (iv (zs[k]?.getD 0)) (by simp [show k < zs.length by omega]);have fg:=hfg k;have aay:(k:Int) < n:=by omega
     have acY:(n:Int)≤gc:=by omega
     have Fz:=Lib.hid OV;have HA:=Lib.hid A1;have HL:=Lib.hid (show Ov wr o1 L vs i from ⟨ls,hls,‹_›,hLo⟩);have HT:=Lib.hid T;clear OV A1 T hz4 hz1 hcg hfg hcA LV TS hLo;generalize zs[k]?.getD 0=z at *;go_wp2;go_roundw
     case rel =>
      obtain ⟨S1,S2⟩:=HA.out.step hlt HGE.out ou.out hkn;exact ⟨k+1,by omega,by go_num,Fz.out.turn S2 (by show ¬ 1=10+i;omega),S1,HL.out.turn S2 (by show ¬ 2=10+i;omega),HT.out.trans S2 (fun x hx=>.inr (by omega))⟩
     case measure=>simp [intOf];omega
    ·
     obtain rfl:k=n:=by omega
     have aay:¬ (k:Int) < k:=by omega
     have Fz:=Lib.hid OV;have HA:=Lib.hid (A1.next ou.out);have HL:=Lib.hid (Ov.step (show Ov wr o1 L vs i from ⟨ls,hls,‹_›,hLo⟩) hlt);have HT:=Lib.hid T;clear OV A1 T hcA LV TS hLo;generalize ls[i]?.getD undef=lv at *;go_wp2;go_roundw
     case rel =>
      obtain ⟨S1,S2⟩:=HL.out;rw [HGE.out] at S1 S2;exact ⟨i+1,by omega,by go_num,Fz.out.turn S2 (by decide),HA.out.turn S2 (fun j h=>by omega),S1,HT.out.trans S2 (fun x hx=>.inl hx)⟩
     case measure=>simp [intOf];omega
  ·
   obtain rfl:i=vs.length:=by omega
   have Fz:=Lib.hid OV;have HAP:=Lib.hid (A1.done L1);have HT:=Lib.hid T;clear OV A1 L1 T
   go_wp2_with fail
   go_loopw [6,7] (fun i _ wr=>∃ n:Nat,n≤vs.length∧i=.int .i64 n∧∃ o2,Own wr o2 1 42 1 (.slice oa vs.length oc) vs.length vs∧Xj wr o2 L vs ns n 0∧Turn o1 o2 (fun x=>x=2∨10≤x) w1 wr) (fun i _ _=>vs.length - (intOf i).toNat)
   case atStart=>exact ⟨0,Nat.zero_le _,rfl,o1,Fz.out,HAP.out,HT.out⟩
   case round =>
    clear Fz HAP HT;obtain ⟨i,hi1,rfl,o2,OV,A2,T⟩:=hrel
    by_cases hlt:i < vs.length
    ·
     have dG:(i:Int) < vs.length:=by omega
     have Fz:=Lib.hid OV;have HA:=Lib.hid A2;have HT:=Lib.hid T;clear OV A2 T
     go_wp2_with fail
     go_loopw [7] (fun kk wq=>∃ k:Nat,k≤16∧kk=.int .i64 k∧∃ o2,Own wq o2 1 42 1 (.slice oa vs.length oc) vs.length vs∧Xj wq o2 L vs ns i k∧Turn o1 o2 (fun x=>x=2∨10≤x) w1 wq) (fun kk _=>16 - (intOf kk).toNat)
     case atStart=>exact ⟨0,Nat.zero_le _,rfl,o2,Fz.out,HA.out,HT.out⟩
     case round =>
      clear Fz HA HT;clear o2;obtain ⟨k,hk,rfl,o2,OV,A2,T⟩:=hrel
      by_cases aef:k < 16
      ·
       have hki:(k:Int) < 16:=by omega
       obtain ⟨h1,ls,h2,h3,h4⟩:=A2;obtain ⟨_,_,gL,_,e,LV,TS,_⟩:=bN h3.1 (by omega);cases e
       have cL:=LV i (ls[i]?.getD undef) (by simp [show i < ls.length by omega]);have fL:=TS i;have hrow:=(h4 i hlt).1;rw [show grew i k i=k by simp [grew]] at hrow;obtain ⟨sl,cl,hle⟩:=aB hrow;rw [hle] at hrow cL;have hnb:=HNS.out i;have HST:=Lib.hid (fun (w2:World) (v':Value) (tmp:Obj)=>Xj.step (w:=wr) (w2:=w2) (v':=v') (tmp:=tmp) h1 h2 h3 h4 hlt);have wK:=Lib.hid hle;have Fz:=Lib.hid OV;have HT:=Lib.hid T;clear h1 h3 h4 OV T LV TS hle;obtain ⟨n,hn⟩:∃ n,ns[i]?.getD 0=n:=⟨_,rfl⟩
       rw [hn] at hrow cL hnb HST wK;clear hn
       go_wp2_with (at_builtin;refine aM ?_)
       refine bR ?_;rw [wK.out] at HST;refine lT rfl _ _ 42 rfl 0 3 i0 _ 1 8 Tryz.underlying42 hi hz0 hz1 hz2 rfl (.slice sl (n+k) cl) (n+k) _ rfl (hrow.alloc (.cells #[.int .i64 (-(i:Int)*1000003 - k - 1)] 3)) (some ⟨wr.heap.size,0,none⟩) 1 1 [.int .i64 (-(i:Int)*1000003 - k - 1)] rfl rfl (fun h=>by cases h) (bA wr [.int .i64 (-(i:Int)*1000003 - k - 1)] 3) (by simp [Value.oneCell']) (by unfold maxLen;omega) (aZ (by omega)) (Nat.zero_le _) ?_;intro v' w2 g1 g20 _ g4;have g2:(wr.alloc (.cells #[.int .i64 (-(i:Int)*1000003 - k - 1)] 3)).grownBy w2 (Value.slice sl (n+k) cl).ownBlock:=⟨g20.os,g20.tape,g20.output,g20.size,g20.block⟩;obtain ⟨S1,S2,S3⟩:=HST.out w2 v' _ g1 g2 g4;have HS2:=Lib.hid S2;have Yf:=Lib.hid S3;obtain ⟨_,_,gL,_,e,LV,TS,_⟩:=bN S1.1 (by omega);cases e
       have cL2:=LV i (ls[i]?.getD undef) (by simp [show i < ls.length by omega]);rw [wK.out] at cL2;have fL2:=TS i;obtain ⟨s',c',rfl⟩:=aB g1;clear g1 g20 g2 g4 S1 S2 S3 LV TS hrow HST cL fL;go_wp2;go_roundw
       case rel=>exact ⟨k+1,by omega,by go_num,_,Fz.out.turn Yf.out (by intro h;omega),HS2.out,HT.out.trans Yf.out (fun x hx=>by omega)⟩
       case measure=>simp [intOf];omega
      ·
       obtain rfl:k=16:=by omega
       have Fz:=Lib.hid OV;have HA:=Lib.hid A2.next
       have HT:=Lib.hid T;clear OV A2 T;go_wp2;go_roundw
       case rel=>exact ⟨i+1,by omega,by go_num,o2,Fz.out,HA.out,HT.out⟩
       case measure=>simp [intOf];omega
    ·
     obtain rfl:i=vs.length:=by omega
     have zq:aI (fun k=>o k=c) w wr:=HT1.out.mods.trans T.mods (fun _ _ h=>h.elim) (fun k hk h=>HOC.out k hk (by rw [← HT1.out.same k hk];exact h));have Pb:=Lib.hid zq;have Fz:=Lib.hid OV;have HA:=Lib.hid A2;clear zq OV A2 T HT1;obtain ⟨W,hW⟩:∃ W,W=wr:=⟨_,rfl⟩
     rw [← hW] at Pb Fz HA ⊢;clear hW
     go_wp2_with fail
     go_loopw [8,9,10] (fun i _ _ wq=>∃ n:Nat,n≤vs.length∧i=.int .i64 n∧∃ m,wq=W.drewN m) (fun i _ _ _=>vs.length - (intOf i).toNat)
     case atStart=>exact ⟨0,Nat.zero_le _,rfl,0,rfl⟩
     case round =>
      obtain ⟨i,hi1,rfl,m,rfl⟩:=hrel
      by_cases hlt:i < vs.length
      ·
       obtain ⟨_,hcp,gA,_,rfl,hcA,_,_⟩:=bN Fz.out.1 (by omega);have cA:=hcA i (vs[i]?.getD undef) (by simp [hlt]);have dG:(i:Int) < vs.length:=by omega
       have Mq:(vs.length:Int)≤oc:=by omega
       obtain ⟨h1,ls,h2,h3,h4⟩:=HA.out;obtain ⟨_,_,gL,_,e,LV,TS,_⟩:=bN h3.1 (by omega);cases e
       have cL:=LV i (ls[i]?.getD undef) (by simp [show i < ls.length by omega]);have hrow:=(h4 i hlt).1;rw [show grew vs.length 0 i=16 by simp [grew,hlt]] at hrow;obtain ⟨sl,cl,hle⟩:=aB hrow;rw [hle] at hrow cL;obtain ⟨ga,gc,hve,hgc,hcg⟩:=h1 i hlt;rw [qc] at hve hgc hcg;rw [hve] at cA;have hnb:=HNS.out i;obtain ⟨n,hn⟩:∃ n,ns[i]?.getD 0=n:=⟨_,rfl⟩
       rw [hn] at hrow cL hnb cA hgc hcg;obtain ⟨_,hcl,gl,_,rfl,hcells,_⟩:=bN hrow (by simp [qc,Xh]);have hV:∀ k,k < n→W.cell? ⟨gl,k,none⟩=some (.int .i64 ((i:Int)*1000003+k)):=fun k hk=>hcells k _ (by
        rw [List.getElem?_map,List.getElem?_append_left (by rw [qc];exact hk),IB i n k hk];rfl)
       have hM:∀ k,k < 16→W.cell? ⟨gl,n+k,none⟩=some (.int .i64 (-(i:Int)*1000003 - k - 1)):=fun k hk=>hcells (n+k) _ (by
        rw [List.getElem?_map,List.getElem?_append_right (by rw [qc];omega),qc,Nat.add_sub_cancel_left,Xi i 16 k hk];rfl)
       have HV:=Lib.hid hV;have rz:=Lib.hid hM;have UB:=Lib.hid hcg;have acX:(n:Int)≤17600000000000:=by omega
       have acU:(n:Int)+16≤cl:=by omega
       have acY:(n:Int)≤gc:=by omega
       clear hV hM hcg h1 h3 h4 hcA LV TS hcells hrow hle hve hn
       go_wp2_with fail
       go_loopw [9] (fun kk wq=>∃ k:Nat,k≤n∧kk=.int .i64 k∧∃ m,wq=W.drewN m) (fun kk _=>n - (intOf kk).toNat)
       case atStart=>exact ⟨0,Nat.zero_le _,rfl,_,rfl⟩
       case round =>
        obtain ⟨k,hk,rfl,m,rfl⟩:=hrel
        by_cases hkn:k < n
        ·
         obtain ⟨g,rfl,_,_,hcc⟩:=UB.out (by omega);have c1:=hcc k hkn;rw [show (nX i n)[k]?.getD 0=(i:Int)*1000003+k by rw [IB i n k hkn];rfl] at c1;have c2:=HV.out k hkn;have aay:(k:Int) < n:=by omega
         have hkn2:(k:Int) < (n:Int)+16:=by omega
         clear hcc;go_wp2;go_roundw
         case rel=>exact ⟨k+1,by omega,by go_num,_,rfl⟩
         case measure=>simp [intOf];omega
        ·
         obtain rfl:k=n:=by omega
         have aay:¬ (k:Int) < k:=by omega
         go_wp2_with fail
         go_loopw [10] (fun kk wq=>∃ j:Nat,j≤16∧kk=.int .i64 j∧∃ m,wq=W.drewN m) (fun kk _=>16 - (intOf kk).toNat)
         case atStart=>exact ⟨0,by omega,rfl,_,rfl⟩
         case round =>
          obtain ⟨j,hj,rfl,m,rfl⟩:=hrel
          by_cases acZ:j < 16
          ·
           have c3:=rz.out j acZ;have hki:(j:Int) < 16:=by omega
           have aeg:(k:Int)+j < (k:Int)+16:=by omega
           have aeh:(0:Int)≤(k:Int)+j:=by omega
           go_wp2;go_quiet (fail);go_wp2;go_roundw
           case rel=>exact ⟨j+1,by omega,by go_num,_,rfl⟩
           case measure=>simp [intOf];omega
          ·
           obtain rfl:j=16:=by omega
           go_wp2;go_roundw
           case rel=>exact ⟨i+1,by omega,by go_num,_,rfl⟩
           case measure=>simp [intOf];omega
      ·
       obtain rfl:i=vs.length:=by omega
       go_wp2;go_ret
       exact ⟨rfl,UE Pb.out⟩
theorem OJ {w w':World}{q:Col}{rs:List (Value × List Int)}{v:Value}{l:List Int}(h:jR w q 2400 rs)(k:w'.ownsRow w.heap.size 3 1 v l.length (aV l))(hb:Below w.heap.size w w'):jR w' (ext q w.heap.size 2400) 2400 (rs ++ [(v,l)]):=by
 have T:=Turn.of_below q 2400 hb;refine (h.turn T (fun h=>h)).append ⟨fun x hx=>?_,fun i j B x y hij hx hy=>?_⟩ (fun x hx y hy B hB e=>?_)
 ·
  obtain rfl:=List.mem_singleton.1 hx;exact Own.made q 2400 k
 ·
  have h1:=(List.getElem?_eq_some_iff.1 hx).1;have h2:=(List.getElem?_eq_some_iff.1 hy).1;simp at h1 h2;omega
 ·
  obtain rfl:=List.mem_singleton.1 hy;have h1:=((h.own x hx).1.lt B hB).2;have h2:=(k.lt B e).1;omega
structure OL (w0 w:World) (q:Col) (b b':Nat) (P:ay) (m:aH) (v:bV) (z:eG) (al:Value) (rs:List (Value × List Int)):Prop where
 tw:Twin w0 w q b b' P m v z
 rows:jR w q 2400 rs
 all:Own w q 2401 42 1 al rs.length (rs.map Prod.fst)
structure BAt (w0 w:World) (q:Col) (b b':Nat) (P:ay) (m:aH) (v:bV) (z:eG) (al:Value) (rs us:List (Value × List Int)):Prop where
 tw:Twin w0 w q b b' P m v z
 rows:jR w q 2400 (rs ++ us)
 all:Own w q 2401 42 1 al rs.length (rs.map Prod.fst)
section
variable {w0 w w':World} {q q':Col} {b b':Nat} {P:ay} {m:aH} {v:bV} {z:eG} {al:Value} {rs us:List (Value × List Int)}
theorem OL.quiet (h:OL w0 w q b b' P m v z al rs)(T:Turn q q' (fun _=>False) w w'):OL w0 w' q' b b' P m v z al rs:=⟨h.tw.quiet T,h.rows.turn T (fun h=>h),h.all.turn T (fun h=>h)⟩
theorem OL.later (h:OL w0 w q b b' P m v z al rs)(hb:Below w.heap.size w w'):OL w0 w' (ext q w.heap.size 2402) b b' P m v z al rs:=h.quiet (Turn.of_below q 2402 hb)
theorem OL.bat (h:OL w0 w q b b' P m v z al rs):BAt w0 w q b b' P m v z al rs []:=⟨h.tw,by rw [List.append_nil];exact h.rows,h.all⟩
theorem Twin.nil (h:Twin w0 w q b b' P m v z):OL w0 w q b b' P m v z (.slice none 0 0) []:=⟨h,⟨(fun x hx=>by cases hx),(fun i j B x y _ hx=>by cases hx)⟩,Own.nil _ _ _ _ _⟩
theorem BAt.more (h:BAt w0 w q b b' P m v z al rs us){x:Value}{l:List Int}(k:w'.ownsRow w.heap.size 3 1 x l.length (aV l))(hb:Below w.heap.size w w'):BAt w0 w' (ext q w.heap.size 2400) b b' P m v z al rs (us ++ [(x,l)]) :=
 have T:=Turn.of_below q 2400 hb
 ⟨h.tw.quiet T,by rw [← List.append_assoc];exact OJ h.rows k hb,h.all.turn T (fun h=>h)⟩
theorem Twin.rows (h:Twin w0 w q b b' P m v z){C:Nat→Prop}(T:Turn q q' C w w')(hC:∀ x,C x→x=2400∨x=2401):Twin w0 w' q' b b' P m v z :=
 h.turn T (fun h=>by have:=hC 0 h;omega) (fun x hx=>⟨fun h=>by have:=hC x hx;unfold Mine at h;omega,fun h=>by have:=hC x hx;have:=h.2;omega⟩)
theorem BAt.put {al':Value}{w2:World}(h:BAt w0 w q b b' P m v z al rs us)(k1:w2.ownsRow 0 42 1 al' (rs.length+us.length) (rs.map Prod.fst ++ us.map Prod.fst))(k2:aI (fun x=>al.ownBlock=some x) w w2)(k4:al'.ownBlock=al.ownBlock∨∀ x,al'.ownBlock=some x→w.heap.size≤x) :
  OL w0 w2 (ext q w.heap.size 2401) b b' P m v z al' (rs ++ us):=by
 obtain ⟨O,T⟩:=xV h.all k1 k2 k4;exact ⟨h.tw.rows T (fun x hx=>.inr hx),h.rows.turn T (by decide),by rw [List.length_append,List.map_append];exact O⟩
end
theorem TU (m:aH):tK m (-1)=[]:=by unfold tK;rw [if_neg (by omega)]
theorem OM {m:aH}{n:Int}(h:(m.out.length:Int)≤n):tK m n=[]:=by unfold tK;rw [if_neg (by omega)]
theorem KI {w:World}{o o':Col}{c d:Nat}{rs:List (Value × List Int)}(h:jR w o c rs)(ho:∀ k,o k=c→o' k=d):jR w o' d rs:=⟨fun x hx=>⟨(h.own x hx).1,fun k hk=>ho k ((h.own x hx).2 k hk)⟩,h.Oz⟩
theorem OL.outs {w0 w:World}{q:Col}{b b':Nat}{P:ay}{m:aH}{v:bV}{z:eG}{al:Value}{rs:List (Value × List Int)}(h:OL w0 w q b b' P m v z al rs):jw w (fun k=>if q k=2401 then 2400 else q k) 2400 al (rs.map Prod.snd):=by
 refine LQ (KI h.rows (fun k hk=>by simp [hk])) ?_ (fun x hx B hB e=>?_)
 ·
  rw [List.length_map];exact ⟨h.all.1,fun k hk=>by simp [h.all.2 k hk]⟩
 ·
  have h1:=(h.rows.own x hx).2 B hB;have h2:=h.all.2 B e;omega
theorem OQ {w0 w:World}{o:Col}{b b':Nat}{P:ay}{m:aH}{v:bV}{z:eG}(h:Twin w0 w o b b' P m v z)(hP:tX P)(hout:m.out.length=P.outs.toNat)(hbl:m.bH.length=P.parts.length)(hol:∀ r∈m.out,r.length≤640000000)(hlen:m.cs.length≤100∧m.mem.length≤100000∧m.lines.length≤100∧m.bH.length≤100) :
  Calls Tryz.prog 14 #[.pointer (some ⟨b,0,none⟩),.pointer (some ⟨b',0,none⟩)] w (fun e w'=>e=.returned (.bool true)∧Below w0.heap.size w0 w'):=by
 obtain ⟨no,hno⟩:∃ x:Nat,P.outs=x:=⟨P.outs.toNat,by have:=hP.outs;omega⟩
 have adq:no≤16:=by have:=hP.outs;omega
 obtain ⟨pz,hpz⟩:∃ x:Int,(m.periods:Int)=x:=⟨_,rfl⟩
 obtain ⟨ca,cc,ec⟩:=h.zz.cs.slice;obtain ⟨ma,mc,em⟩:=h.zz.mem.slice;have jW:=Lib.hid ec;have Cz:=Lib.hid em;have zN:=Lib.hid hpz;have jL:=Lib.hid hno;have ac0:Hid (m.out.length=no):=Lib.hid (by rw [hout,hno,Int.toNat_natCast]);have Gs:=Lib.hid hbl;have HOL:=Lib.hid hol;have HLEN:=Lib.hid hlen;have k3:=h.zz.cell 3 (u:=.int .i64 P.outs) rfl;rw [hno] at k3;have MV:=Lib.hid h.nil;clear h ec em hpz hno hout hbl hol hlen hP
 go_enter Tryz.func14,Tryz.ntmps14
 go_wp2_with fail
 clear k3
 go_loopw [5,6] (fun al x wl=>∃ (k:Nat) (q9:Col) (rs:List (Value × List Int)),k≤no∧x=.int .i64 k∧rs.length=k∧OL w0 wl q9 b b' P m v z al rs∧∀ x∈rs,x.2.length≤640000000) (fun _ x _=>no - (intOf x).toNat)
 case atStart=>exact ⟨0,o,[],Nat.zero_le _,rfl,rfl,MV.out,fun x hx=>by cases hx⟩
 case round =>
  clear MV;obtain ⟨k,q9,rs,hk,rfl,hrs,hA,hrl⟩:=hrel;obtain ⟨aa,ac,hav⟩:=hA.all.slice;subst hav;rw [hrs] at hA ⊢;have HA:=Lib.hid hA;have l5:=Lib.hid hrs;have mV:=Lib.hid hrl;have k3:=hA.tw.zz.cell 3 (u:=.int .i64 P.outs) rfl;rw [jL.out] at k3;clear hA hrs hrl
  by_cases hlt:k < no
  ·
   have dG:(k:Int) < no:=by omega
   go_wp2_with fail
   clear k3;refine (qB HA.out.tw.mm (k:Int) (fun r hr=>Nat.le_trans (HOL.out r hr) (by decide))).mono ?_;rintro e w1 ⟨v1,rfl,k1,hb1⟩;have H1:=Lib.hid (Own.made q9 2402 k1).vals;replace HA:=Lib.hid (HA.out.later hb1);generalize ext q9 _ 2402=q1 at *;clear k1 hb1;obtain ⟨s1,c1,hsv⟩:=H1.out.slice;rw [aD] at hsv;subst hsv
   go_wp2_with fail
   refine (H9 HA.out.tw.zz (k:Int) (fun r hr=>Nat.le_trans (HOL.out r hr) (by decide))).mono ?_;rintro e w2 ⟨v2,rfl,k2,hb2⟩;have H2:=Lib.hid (Own.made q1 2402 k2).vals;have TN:=Turn.of_below q1 2402 hb2;replace H1:=Lib.hid (H1.out.turn TN (fun h=>h));replace HA:=Lib.hid (HA.out.quiet TN);generalize ext q1 _ 2402=q2 at *;clear k2 hb2 TN;obtain ⟨s2,c2,hsv⟩:=H2.out.slice;rw [aD] at hsv;subst hsv
   go_wp2_with fail
   refine (bY H1.out H2.out (Nat.le_trans (yj HOL.out (k:Int)) (by decide))).mono ?_;rintro e w3 ⟨rfl,n3,rfl⟩;replace HA:=Lib.hid (HA.out.quiet ((Turn.refl _ _ _).drewN n3));clear H1 H2
   go_wp2_with fail
   refine (qB HA.out.tw.mm (k:Int) (fun r hr=>Nat.le_trans (HOL.out r hr) (by decide))).mono ?_;rintro e w4 ⟨v4,rfl,k4,hb4⟩;have HB:=Lib.hid (HA.out.bat.more k4 hb4);have hsz:=hb4.size;obtain ⟨s4,c4,rfl⟩:=aB k4;clear HA k4;generalize ext q2 _ 2400=q4 at *;obtain ⟨i0,hi,hz0,hz1,hz2⟩:=info_parts je
   go_wp2_with (at_builtin;refine aM ?_)
   refine bR ?_;have hown:=HB.out.all;rw [l5.out] at hown;refine aR rfl _ _ 63 rfl 0 42 i0 _ 1 24 Tryz.underlying63 hi hz0 hz1 hz2 rfl (.slice aa k ac) k _ rfl (hown.1.alloc (.cells #[.slice s4 (tK m k).length c4] 42)) (some ⟨w4.heap.size,0,none⟩) 1 1 [.slice s4 (tK m k).length c4] rfl rfl (fun h=>by cases h) (bA w4 [.slice s4 (tK m k).length c4] 42) (by simp [Value.oneCell']) (by unfold maxLen;omega) (aZ (by omega)) (Nat.zero_le _) ?_;intro v7 w7 k1 k20 _ k4;have hm:aI (fun b=>(Value.slice aa k ac).ownBlock=some b) w4 w7:=((aI.refl _ w4).alloc _).grown k20 (fun b hb _=>hb);have hk4:=k4.imp id (fun k4=>show ∀ b,v7.ownBlock=some b→w4.heap.size≤b from fun b hb=>by rw [k4] at hb;have:=Option.some.inj hb;simp at this;omega);have LC:=Lib.hid (HB.out.put (al':=v7) (by rw [l5.out];exact k1) hm hk4);clear k1 k20 k4 hm hk4 hown hi hsz hb4;go_wp2;go_roundw
   case rel=>exact ⟨k+1,_,_,hlt,by go_num,by simp [l5.out],LC.out,fun x hx=>(List.mem_append.1 hx).elim (mV.out x) (fun h=>by obtain rfl:=List.mem_singleton.1 h;exact yj HOL.out (k:Int))⟩
   case measure=>simp [intOf];omega
  ·
   obtain rfl:no=k:=by omega
   clear hlt hk;have eY:=(HA.out.tw).zz;have k11:=eY.cell 11 rfl;have k7:=eY.cell 7 rfl;have k16:=eY.cell 16 (u:=.int .i64 (m.periods:Int)) rfl;have k3:=eY.cell 3 (u:=.int .i64 P.outs) rfl;rw [jW.out] at k11;rw [Cz.out] at k7;rw [zN.out] at k16;rw [jL.out] at k3;have iw:=Lib.hid (And.intro k11 (And.intro k7 (And.intro k16 k3)));clear eY k11 k7 k16 k3
   go_wp2_with fail
   clear k3;refine dB (fun w'=>w'.cell? ⟨b',11,none⟩=some (.slice ca m.cs.length cc)∧w'.cell? ⟨b',7,none⟩=some (.slice ma m.mem.length mc)∧w'.cell? ⟨b',16,none⟩=some (.int .i64 pz)∧w'.cell? ⟨b',3,none⟩=some (.int .i64 no)) [0,2,3,4,5,9,11,17,19,20,21,22,27,29,35,37,38,39,40] [1,6,7,8,10,12,13,14,15,16,18,23,24,25,26,28,30,31,32,33,34,36] [0,2,3,4,5] 38 (by kernel_rfl) (by kernel_rfl) rfl iw.out ?_;intro Q' hQ' lq;simp only [pk];refine aA ?_;refine av ?_;replace HA:=Lib.hid (HA.out.quiet (Turn.refl _ _ _).drew);refine aG (i:=1) (by kernel_rfl) ?_;simp only [pk];clear iw
   go_wp2_with fail
   refine (kY HA.out.tw.mm (by have:=HLEN.out;omega)).mono ?_;rintro e wN ⟨vN,rfl,kN,hbN⟩
   try replace H1:=Lib.hid (H1.out.below hbN)
   have H1:=Lib.hid (Own.made q9 2402 kN).vals.has;replace HA:=Lib.hid (HA.out.later hbN);clear kN hbN;generalize ext q9 _ 2402=q9 at *;have eY:=(HA.out.tw).zz;have k11:=eY.cell 11 rfl;have k7:=eY.cell 7 rfl;have k16:=eY.cell 16 (u:=.int .i64 (m.periods:Int)) rfl;have k3:=eY.cell 3 (u:=.int .i64 P.outs) rfl;rw [jW.out] at k11;rw [Cz.out] at k7;rw [zN.out] at k16;rw [jL.out] at k3;have iw:=Lib.hid (And.intro k11 (And.intro k7 (And.intro k16 k3)));clear eY k11 k7 k16 k3;obtain ⟨sa,sc,hsv⟩:=Ints.slice H1.out;subst hsv
   go_wp2_with fail
   refine ⟨by intros;exact iw.out,?_⟩;refine aG (i:=6) (by kernel_rfl) ?_;simp only [pk];clear iw
   go_wp2_with fail
   refine (bY H1.out (by have:=HA.out.tw.zz.cs.vals;rw [jW.out] at this;exact this) (by have:=HLEN.out;omega)).mono ?_;rintro e wN ⟨rfl,nN,rfl⟩;replace HA:=Lib.hid (HA.out.quiet ((Turn.refl _ _ _).drewN nN));have eY:=(HA.out.tw).zz;have k11:=eY.cell 11 rfl;have k7:=eY.cell 7 rfl;have k16:=eY.cell 16 (u:=.int .i64 (m.periods:Int)) rfl;have k3:=eY.cell 3 (u:=.int .i64 P.outs) rfl;rw [jW.out] at k11;rw [Cz.out] at k7;rw [zN.out] at k16;rw [jL.out] at k3;have iw:=Lib.hid (And.intro k11 (And.intro k7 (And.intro k16 k3)));clear eY k11 k7 k16 k3;clear H1
   go_wp2_with fail
   refine ⟨by intros;exact iw.out,?_⟩;refine aG (i:=7) (by kernel_rfl) ?_;simp only [pk]
   go_wp2_with fail
   refine ⟨by intros;exact iw.out,?_⟩;refine aG (i:=8) (by kernel_rfl) ?_;simp only [pk]
   go_wp2_with fail
   refine ⟨by intros;exact iw.out,?_⟩;refine dQ (r:=[9,11]) (n:=32) lq (by kernel_rfl) iw.out ?_;simp only [pk];refine aA ?_;refine av ?_;refine aG (i:=10) (by kernel_rfl) ?_;simp only [pk];clear iw
   go_wp2_with fail
   refine (pV HA.out.tw.mm (by have:=HLEN.out;omega)).mono ?_;rintro e wN ⟨vN,rfl,kN,hbN⟩
   try replace H1:=Lib.hid (H1.out.below hbN)
   have H1:=Lib.hid (Own.made q9 2402 kN).vals.has;replace HA:=Lib.hid (HA.out.later hbN);clear kN hbN;generalize ext q9 _ 2402=q9 at *;have eY:=(HA.out.tw).zz;have k11:=eY.cell 11 rfl;have k7:=eY.cell 7 rfl;have k16:=eY.cell 16 (u:=.int .i64 (m.periods:Int)) rfl;have k3:=eY.cell 3 (u:=.int .i64 P.outs) rfl;rw [jW.out] at k11;rw [Cz.out] at k7;rw [zN.out] at k16;rw [jL.out] at k3;have iw:=Lib.hid (And.intro k11 (And.intro k7 (And.intro k16 k3)));clear eY k11 k7 k16 k3;obtain ⟨sa,sc,hsv⟩:=Ints.slice H1.out;subst hsv
   go_wp2_with fail
   refine ⟨by intros;exact iw.out,?_⟩;refine aG (i:=12) (by kernel_rfl) ?_;simp only [pk];clear iw
   go_wp2_with fail
   refine (yV HA.out.tw.zz (by have:=HLEN.out;omega)).mono ?_;rintro e wN ⟨vN,rfl,kN,hbN⟩
   try replace H1:=Lib.hid (H1.out.below hbN)
   have H2:=Lib.hid (Own.made q9 2402 kN).vals.has;replace HA:=Lib.hid (HA.out.later hbN);clear kN hbN;generalize ext q9 _ 2402=q9 at *;have eY:=(HA.out.tw).zz;have k11:=eY.cell 11 rfl;have k7:=eY.cell 7 rfl;have k16:=eY.cell 16 (u:=.int .i64 (m.periods:Int)) rfl;have k3:=eY.cell 3 (u:=.int .i64 P.outs) rfl;rw [jW.out] at k11;rw [Cz.out] at k7;rw [zN.out] at k16;rw [jL.out] at k3;have iw:=Lib.hid (And.intro k11 (And.intro k7 (And.intro k16 k3)));clear eY k11 k7 k16 k3;obtain ⟨sa,sc,hsv⟩:=Ints.slice H2.out;subst hsv
   go_wp2_with fail
   refine ⟨by intros;exact iw.out,?_⟩;refine aG (i:=13) (by kernel_rfl) ?_;simp only [pk];clear iw
   go_wp2_with fail
   refine (bY H1.out H2.out (by have:=HLEN.out;simp [l7];omega)).mono ?_;rintro e wN ⟨rfl,nN,rfl⟩;replace HA:=Lib.hid (HA.out.quiet ((Turn.refl _ _ _).drewN nN));have eY:=(HA.out.tw).zz;have k11:=eY.cell 11 rfl;have k7:=eY.cell 7 rfl;have k16:=eY.cell 16 (u:=.int .i64 (m.periods:Int)) rfl;have k3:=eY.cell 3 (u:=.int .i64 P.outs) rfl;rw [jW.out] at k11;rw [Cz.out] at k7;rw [zN.out] at k16;rw [jL.out] at k3;have iw:=Lib.hid (And.intro k11 (And.intro k7 (And.intro k16 k3)));clear eY k11 k7 k16 k3;clear H1
   go_wp2_with fail
   refine ⟨by intros;exact iw.out,?_⟩;refine aG (i:=14) (by kernel_rfl) ?_;simp only [pk]
   go_wp2_with fail
   refine ⟨by intros;exact iw.out,?_⟩;refine aG (i:=15) (by kernel_rfl) ?_;simp only [pk]
   go_wp2_with fail
   refine ⟨by intros;exact iw.out,?_⟩;refine aG (i:=16) (by kernel_rfl) ?_;simp only [pk]
   go_wp2_with fail
   refine ⟨by intros;exact iw.out,?_⟩;refine dQ (r:=[17,19,20,21,22]) (n:=21) lq (by kernel_rfl) iw.out ?_;simp only [pk];refine aA ?_;refine av ?_;refine aG (i:=18) (by kernel_rfl) ?_;simp only [pk];clear iw
   go_wp2_with fail
   refine (lJ HA.out.tw.mm (by have:=HLEN.out;omega)).mono ?_;rintro e wN ⟨vN,rfl,kN,hbN⟩
   try replace H1:=Lib.hid (H1.out.below hbN)
   have H1:=Lib.hid (Own.made q9 2402 kN).vals.has;replace HA:=Lib.hid (HA.out.later hbN);clear kN hbN;generalize ext q9 _ 2402=q9 at *;have eY:=(HA.out.tw).zz;have k11:=eY.cell 11 rfl;have k7:=eY.cell 7 rfl;have k16:=eY.cell 16 (u:=.int .i64 (m.periods:Int)) rfl;have k3:=eY.cell 3 (u:=.int .i64 P.outs) rfl;rw [jW.out] at k11;rw [Cz.out] at k7;rw [zN.out] at k16;rw [jL.out] at k3;have iw:=Lib.hid (And.intro k11 (And.intro k7 (And.intro k16 k3)));clear eY k11 k7 k16 k3;obtain ⟨sa,sc,hsv⟩:=Ints.slice H1.out;subst hsv
   go_wp2_with fail
   refine ⟨by intros;exact iw.out,?_⟩;refine aG (i:=23) (by kernel_rfl) ?_;simp only [pk];clear iw
   go_wp2_with fail
   refine (bY H1.out (by have:=HA.out.tw.zz.mem.vals;rw [Cz.out] at this;exact this) (by have:=HLEN.out;omega)).mono ?_;rintro e wN ⟨rfl,nN,rfl⟩;replace HA:=Lib.hid (HA.out.quiet ((Turn.refl _ _ _).drewN nN));have eY:=(HA.out.tw).zz;have k11:=eY.cell 11 rfl;have k7:=eY.cell 7 rfl;have k16:=eY.cell 16 (u:=.int .i64 (m.periods:Int)) rfl;have k3:=eY.cell 3 (u:=.int .i64 P.outs) rfl;rw [jW.out] at k11;rw [Cz.out] at k7;rw [zN.out] at k16;rw [jL.out] at k3;have iw:=Lib.hid (And.intro k11 (And.intro k7 (And.intro k16 k3)));clear eY k11 k7 k16 k3;clear H1
   go_wp2_with fail
   refine ⟨by intros;exact iw.out,?_⟩;refine aG (i:=24) (by kernel_rfl) ?_;simp only [pk]
   go_wp2_with fail
   refine ⟨by intros;exact iw.out,?_⟩;refine aG (i:=25) (by kernel_rfl) ?_;simp only [pk]
   go_wp2_with fail
   refine ⟨by intros;exact iw.out,?_⟩;refine aG (i:=26) (by kernel_rfl) ?_;simp only [pk]
   go_wp2_with fail
   refine ⟨by intros;exact iw.out,?_⟩;refine dQ (r:=[27,29]) (n:=14) lq (by kernel_rfl) iw.out ?_;simp only [pk];refine aA ?_;refine av ?_;refine aG (i:=28) (by kernel_rfl) ?_;simp only [pk];clear iw
   go_wp2_with fail
   refine (nG HA.out.tw.mm Gs.out).mono ?_;rintro e wN ⟨vN,rfl,kN,hbN⟩
   try replace H1:=Lib.hid (H1.out.below hbN)
   have H1:=Lib.hid (Own.made q9 2402 kN).vals.has;replace HA:=Lib.hid (HA.out.later hbN);clear kN hbN;generalize ext q9 _ 2402=q9 at *;have eY:=(HA.out.tw).zz;have k11:=eY.cell 11 rfl;have k7:=eY.cell 7 rfl;have k16:=eY.cell 16 (u:=.int .i64 (m.periods:Int)) rfl;have k3:=eY.cell 3 (u:=.int .i64 P.outs) rfl;rw [jW.out] at k11;rw [Cz.out] at k7;rw [zN.out] at k16;rw [jL.out] at k3;have iw:=Lib.hid (And.intro k11 (And.intro k7 (And.intro k16 k3)));clear eY k11 k7 k16 k3;obtain ⟨sa,sc,hsv⟩:=Ints.slice H1.out;subst hsv
   go_wp2_with fail
   refine ⟨by intros;exact iw.out,?_⟩;refine aG (i:=30) (by kernel_rfl) ?_;simp only [pk];clear iw
   go_wp2_with fail
   refine (BF HA.out.tw.zz Gs.out).mono ?_;rintro e wN ⟨vN,rfl,kN,hbN⟩
   try replace H1:=Lib.hid (H1.out.below hbN)
   have H3:=Lib.hid (Own.made q9 2402 kN).vals.has;replace HA:=Lib.hid (HA.out.later hbN);clear kN hbN;generalize ext q9 _ 2402=q9 at *;have eY:=(HA.out.tw).zz;have k11:=eY.cell 11 rfl;have k7:=eY.cell 7 rfl;have k16:=eY.cell 16 (u:=.int .i64 (m.periods:Int)) rfl;have k3:=eY.cell 3 (u:=.int .i64 P.outs) rfl;rw [jW.out] at k11;rw [Cz.out] at k7;rw [zN.out] at k16;rw [jL.out] at k3;have iw:=Lib.hid (And.intro k11 (And.intro k7 (And.intro k16 k3)));clear eY k11 k7 k16 k3;obtain ⟨sa,sc,hsv⟩:=Ints.slice H3.out;subst hsv
   go_wp2_with fail
   refine ⟨by intros;exact iw.out,?_⟩;refine aG (i:=31) (by kernel_rfl) ?_;simp only [pk];clear iw
   go_wp2_with fail
   refine (bY H1.out H3.out (by have:=HLEN.out;simp [j3];omega)).mono ?_;rintro e wN ⟨rfl,nN,rfl⟩;replace HA:=Lib.hid (HA.out.quiet ((Turn.refl _ _ _).drewN nN));have eY:=(HA.out.tw).zz;have k11:=eY.cell 11 rfl;have k7:=eY.cell 7 rfl;have k16:=eY.cell 16 (u:=.int .i64 (m.periods:Int)) rfl;have k3:=eY.cell 3 (u:=.int .i64 P.outs) rfl;rw [jW.out] at k11;rw [Cz.out] at k7;rw [zN.out] at k16;rw [jL.out] at k3;have iw:=Lib.hid (And.intro k11 (And.intro k7 (And.intro k16 k3)));clear eY k11 k7 k16 k3;clear H1
   go_wp2_with fail
   refine ⟨by intros;exact iw.out,?_⟩;refine aG (i:=32) (by kernel_rfl) ?_;simp only [pk]
   go_wp2_with fail
   refine ⟨by intros;exact iw.out,?_⟩;refine aG (i:=33) (by kernel_rfl) ?_;simp only [pk]
   go_wp2_with fail
   refine ⟨by intros;exact iw.out,?_⟩;refine aG (i:=34) (by kernel_rfl) ?_;simp only [pk]
   go_wp2_with fail
   refine ⟨by intros;exact iw.out,?_⟩;refine dQ (r:=[35,37,38,39,40]) (n:=3) lq (by kernel_rfl) iw.out ?_;simp only [pk];refine aA ?_;refine av ?_;refine aG (i:=36) (by kernel_rfl) ?_;simp only [pk];clear lq
   go_wp2_with fail
   refine (rT HA.out.tw.mm).mono ?_;rintro e _ ⟨rfl,rfl⟩;rw [zN.out]
   go_wp2_with fail
   refine ⟨by intros;exact iw.out,?_⟩;refine bg (ks:=[41,42]) (fun _ _ hx h=>⟨hx.cell h.1,hx.cell h.2.1,hx.cell h.2.2.1,hx.cell h.2.2.2⟩) (by kernel_rfl) ?_;simp only [pk];clear iw H2 H3;obtain ⟨i0,hi,hz0,hz1,hz2⟩:=info_parts je;have WR:=Lib.hid hi;clear hi
   go_wp2_with fail
   have HB:=Lib.hid HA.out.bat;clear HA;refine (kY HB.out.tw.mm (by have:=HLEN.out;omega)).mono ?_;rintro e wN ⟨vN,rfl,kN,hbN⟩;replace HB:=Lib.hid (HB.out.more kN hbN);obtain ⟨a1,c1,rfl⟩:=aB kN;clear kN hbN;generalize ext q9 _ 2400=q9 at *
   go_wp2_with fail
   refine (pV HB.out.tw.mm (by have:=HLEN.out;omega)).mono ?_;rintro e wN ⟨vN,rfl,kN,hbN⟩;replace HB:=Lib.hid (HB.out.more kN hbN);obtain ⟨a2,c2,rfl⟩:=aB kN;clear kN hbN;generalize ext q9 _ 2400=q9 at *
   go_wp2_with fail
   refine (lJ HB.out.tw.mm (by have:=HLEN.out;omega)).mono ?_;rintro e wN ⟨vN,rfl,kN,hbN⟩;replace HB:=Lib.hid (HB.out.more kN hbN);obtain ⟨a3,c3,rfl⟩:=aB kN;clear kN hbN;generalize ext q9 _ 2400=q9 at *
   go_wp2_with fail
   refine (nG HB.out.tw.mm Gs.out).mono ?_;rintro e wN ⟨vN,rfl,kN,hbN⟩;replace HB:=Lib.hid (HB.out.more kN hbN);obtain ⟨a4,c4,rfl⟩:=aB kN;clear kN hbN;generalize ext q9 _ 2400=q9 at *
   go_wp2_with (at_builtin;refine aM ?_)
   refine bR ?_;have hown:=HB.out.all;rw [l5.out] at hown;obtain ⟨w5,Yw⟩:∃ x,wN=x:=⟨_,rfl⟩
   rw [Yw] at HB hown ⊢;clear Yw;refine aR rfl _ _ 63 rfl 0 42 i0 _ 1 24 Tryz.underlying63 WR.out hz0 hz1 hz2 rfl (.slice aa no ac) no _ rfl (hown.1.alloc (.cells #[.slice a1 m.cs.length c1,.slice a2 (l7 m).length c2,.slice a3 m.mem.length c3,.slice a4 (j3 m).length c4] 42)) (some ⟨w5.heap.size,0,none⟩) 4 4 [.slice a1 m.cs.length c1,.slice a2 (l7 m).length c2,.slice a3 m.mem.length c3,.slice a4 (j3 m).length c4] rfl rfl (fun h=>by cases h) (bA w5 [.slice a1 m.cs.length c1,.slice a2 (l7 m).length c2,.slice a3 m.mem.length c3,.slice a4 (j3 m).length c4] 42) (by simp [Value.oneCell']) (by unfold maxLen;omega) (aZ (by omega)) (Nat.zero_le _) ?_;intro v7 w7 k1 k20 _ k4;have hm:aI (fun b=>(Value.slice aa no ac).ownBlock=some b) w5 w7:=((aI.refl _ w5).alloc _).grown k20 (fun b hb _=>hb);have hk4:=k4.imp id (fun k4=>show ∀ b,v7.ownBlock=some b→w5.heap.size≤b from fun b hb=>by rw [k4] at hb;have:=Option.some.inj hb;simp at this;omega);have HA:=Lib.hid (HB.out.put (al':=v7) (by rw [l5.out];exact k1) hm hk4);obtain ⟨aa,ac,rfl⟩:=aB k1;clear k1 k20 k4 hm hk4 hown HB;generalize ext q9 _ 2401=q9 at *;obtain ⟨rs2,Xu⟩:∃ x,rs ++ ([] ++ [(.slice a1 m.cs.length c1,m.cs)] ++ [(.slice a2 (l7 m).length c2,l7 m)] ++ [(.slice a3 m.mem.length c3,m.mem)] ++ [(.slice a4 (j3 m).length c4,j3 m)])=x:=⟨_,rfl⟩
   rw [Xu] at HA;have Xv:Hid (rs2.length=no+4):=Lib.hid (by rw [← Xu];simp [l5.out]);have aby:Hid (∀ x∈rs2,x.2.length≤640000000):=Lib.hid (by
    have h1:=HLEN.out;have h2:(l7 m).length≤100:=by simp [l7];omega
    have h3:(j3 m).length≤100:=by simp [j3];omega
    intro x hx;rw [← Xu] at hx;simp only [List.nil_append,List.cons_append,List.mem_append,List.mem_cons,List.not_mem_nil,or_false] at hx
    rcases hx with hx | rfl | rfl | rfl | rfl
    ·
     exact mV.out x hx
    all_goals (dsimp only;omega))
   clear Xu
   go_wp2_with fail
   have HB:=Lib.hid HA.out.bat;clear HA;refine (kY HB.out.tw.mm (by have:=HLEN.out;omega)).mono ?_;rintro e wN ⟨vN,rfl,kN,hbN⟩;replace HB:=Lib.hid (HB.out.more kN hbN);obtain ⟨a1,c1,rfl⟩:=aB kN;clear kN hbN;generalize ext q9 _ 2400=q9 at *
   go_wp2_with fail
   refine (pV HB.out.tw.mm (by have:=HLEN.out;omega)).mono ?_;rintro e wN ⟨vN,rfl,kN,hbN⟩;replace HB:=Lib.hid (HB.out.more kN hbN);obtain ⟨a2,c2,rfl⟩:=aB kN;clear kN hbN;generalize ext q9 _ 2400=q9 at *
   go_wp2_with fail
   refine (lJ HB.out.tw.mm (by have:=HLEN.out;omega)).mono ?_;rintro e wN ⟨vN,rfl,kN,hbN⟩;replace HB:=Lib.hid (HB.out.more kN hbN);obtain ⟨a3,c3,rfl⟩:=aB kN;clear kN hbN;generalize ext q9 _ 2400=q9 at *
   go_wp2_with fail
   refine (nG HB.out.tw.mm Gs.out).mono ?_;rintro e wN ⟨vN,rfl,kN,hbN⟩;replace HB:=Lib.hid (HB.out.more kN hbN);obtain ⟨a4,c4,rfl⟩:=aB kN;clear kN hbN;generalize ext q9 _ 2400=q9 at *
   go_wp2_with (at_builtin;refine aM ?_)
   refine bR ?_;have hown:=HB.out.all;rw [Xv.out] at hown;obtain ⟨w5,Yw⟩:∃ x,wN=x:=⟨_,rfl⟩
   rw [Yw] at HB hown ⊢;clear Yw;refine aR rfl _ _ 63 rfl 0 42 i0 _ 1 24 Tryz.underlying63 WR.out hz0 hz1 hz2 rfl (.slice aa (no+4) ac) (no+4) _ rfl (hown.1.alloc (.cells #[.slice a1 m.cs.length c1,.slice a2 (l7 m).length c2,.slice a3 m.mem.length c3,.slice a4 (j3 m).length c4] 42)) (some ⟨w5.heap.size,0,none⟩) 4 4 [.slice a1 m.cs.length c1,.slice a2 (l7 m).length c2,.slice a3 m.mem.length c3,.slice a4 (j3 m).length c4] rfl rfl (fun h=>by cases h) (bA w5 [.slice a1 m.cs.length c1,.slice a2 (l7 m).length c2,.slice a3 m.mem.length c3,.slice a4 (j3 m).length c4] 42) (by simp [Value.oneCell']) (by unfold maxLen;omega) (aZ (by omega)) (Nat.zero_le _) ?_;intro v7 w7 k1 k20 _ k4;have hm:aI (fun b=>(Value.slice aa (no+4) ac).ownBlock=some b) w5 w7:=((aI.refl _ w5).alloc _).grown k20 (fun b hb _=>hb);have hk4:=k4.imp id (fun k4=>show ∀ b,v7.ownBlock=some b→w5.heap.size≤b from fun b hb=>by rw [k4] at hb;have:=Option.some.inj hb;simp at this;omega);have HA:=Lib.hid (HB.out.put (al':=v7) (by rw [Xv.out];exact k1) hm hk4);obtain ⟨aa,ac,rfl⟩:=aB k1;clear k1 k20 k4 hm hk4 hown HB;generalize ext q9 _ 2401=q9 at *;obtain ⟨rs3,Xu⟩:∃ x,rs2 ++ ([] ++ [(.slice a1 m.cs.length c1,m.cs)] ++ [(.slice a2 (l7 m).length c2,l7 m)] ++ [(.slice a3 m.mem.length c3,m.mem)] ++ [(.slice a4 (j3 m).length c4,j3 m)])=x:=⟨_,rfl⟩
   rw [Xu] at HA;have abz:Hid (rs3.length=(no+4)+4):=Lib.hid (by rw [← Xu];simp [Xv.out]);have abA:Hid (∀ x∈rs3,x.2.length≤640000000):=Lib.hid (by
    have h1:=HLEN.out;have h2:(l7 m).length≤100:=by simp [l7];omega
    have h3:(j3 m).length≤100:=by simp [j3];omega
    intro x hx;rw [← Xu] at hx;simp only [List.nil_append,List.cons_append,List.mem_append,List.mem_cons,List.not_mem_nil,or_false] at hx
    rcases hx with hx | rfl | rfl | rfl | rfl
    ·
     exact aby.out x hx
    all_goals (dsimp only;omega))
   clear Xu;have eY:=(HA.out.tw).zz;have k11:=eY.cell 11 rfl;have k7:=eY.cell 7 rfl;have k16:=eY.cell 16 (u:=.int .i64 (m.periods:Int)) rfl;have k3:=eY.cell 3 (u:=.int .i64 P.outs) rfl;rw [jW.out] at k11;rw [Cz.out] at k7;rw [zN.out] at k16;rw [jL.out] at k3;have iw:=Lib.hid (And.intro k11 (And.intro k7 (And.intro k16 k3)));clear eY k11 k7 k16 k3
   go_wp2_with fail
   refine dB (fun w'=>w'.cell? ⟨b',11,none⟩=some (.slice ca m.cs.length cc)∧w'.cell? ⟨b',7,none⟩=some (.slice ma m.mem.length mc)∧w'.cell? ⟨b',16,none⟩=some (.int .i64 pz)∧w'.cell? ⟨b',3,none⟩=some (.int .i64 no)) [0,3,5,6,7,8,12,14,15,16,17,21,27,28,29,30,31,32] [1,2,4,9,10,11,13,18,19,20,22,23,24,25,26] [0] 37 (by kernel_rfl) (by kernel_rfl) rfl iw.out ?_;intro Q' hQ' lq;simp only [pk];refine aA ?_;refine av ?_;replace HA:=Lib.hid (HA.out.quiet (Turn.refl _ _ _).drew);refine aG (i:=1) (by kernel_rfl) ?_;simp only [pk];clear iw
   go_wp2_with fail
   refine (Eb HA.out.outs (by rw [List.length_map,abz.out];omega) (fun l hl=>by obtain ⟨x,hx,rfl⟩:=List.mem_map.1 hl;exact Nat.le_trans (abA.out x hx) (by decide))).mono ?_;rintro e wN ⟨rfl,zq⟩;replace HA:=Lib.hid ((HA.out.tw.rows (C:=fun x=>x=2400∨x=2401) ⟨zq.mono (fun k hk hc=>by split at hc <;> omega),fun _ _=>rfl⟩ (fun _ h=>h)).nil);clear zq l5 mV Xv aby abz abA;have eY:=(HA.out.tw).zz;have k11:=eY.cell 11 rfl;have k7:=eY.cell 7 rfl;have k16:=eY.cell 16 (u:=.int .i64 (m.periods:Int)) rfl;have k3:=eY.cell 3 (u:=.int .i64 P.outs) rfl;rw [jW.out] at k11;rw [Cz.out] at k7;rw [zN.out] at k16;rw [jL.out] at k3;have iw:=Lib.hid (And.intro k11 (And.intro k7 (And.intro k16 k3)));clear eY k11 k7 k16 k3
   go_wp2_with fail
   refine ⟨by intros;exact iw.out,?_⟩;refine aG (i:=2) (by kernel_rfl) ?_;simp only [pk]
   go_wp2_with fail
   refine ⟨by intros;exact iw.out,?_⟩;refine dQ (r:=[3,5,6,7,8]) (n:=30) lq (by kernel_rfl) iw.out ?_;simp only [pk];refine aA ?_;refine av ?_;refine aG (i:=4) (by kernel_rfl) ?_;simp only [pk];clear iw
   go_wp2_with fail
   refine (lJ HA.out.tw.mm (by have:=HLEN.out;omega)).mono ?_;rintro e wN ⟨vN,rfl,kN,hbN⟩
   try replace H1:=Lib.hid (H1.out.below hbN)
   have H1:=Lib.hid (Own.made q9 2402 kN).vals.has;replace HA:=Lib.hid (HA.out.later hbN);clear kN hbN;generalize ext q9 _ 2402=q9 at *;have eY:=(HA.out.tw).zz;have k11:=eY.cell 11 rfl;have k7:=eY.cell 7 rfl;have k16:=eY.cell 16 (u:=.int .i64 (m.periods:Int)) rfl;have k3:=eY.cell 3 (u:=.int .i64 P.outs) rfl;rw [jW.out] at k11;rw [Cz.out] at k7;rw [zN.out] at k16;rw [jL.out] at k3;have iw:=Lib.hid (And.intro k11 (And.intro k7 (And.intro k16 k3)));clear eY k11 k7 k16 k3;obtain ⟨sa,sc,hsv⟩:=Ints.slice H1.out;subst hsv
   go_wp2_with fail
   refine ⟨by intros;exact iw.out,?_⟩;refine aG (i:=9) (by kernel_rfl) ?_;simp only [pk];clear iw
   go_wp2_with fail
   refine (bY H1.out (by have:=HA.out.tw.zz.mem.vals;rw [Cz.out] at this;exact this) (by have:=HLEN.out;omega)).mono ?_;rintro e wN ⟨rfl,nN,rfl⟩;replace HA:=Lib.hid (HA.out.quiet ((Turn.refl _ _ _).drewN nN));have eY:=(HA.out.tw).zz;have k11:=eY.cell 11 rfl;have k7:=eY.cell 7 rfl;have k16:=eY.cell 16 (u:=.int .i64 (m.periods:Int)) rfl;have k3:=eY.cell 3 (u:=.int .i64 P.outs) rfl;rw [jW.out] at k11;rw [Cz.out] at k7;rw [zN.out] at k16;rw [jL.out] at k3;have iw:=Lib.hid (And.intro k11 (And.intro k7 (And.intro k16 k3)));clear eY k11 k7 k16 k3;clear H1
   go_wp2_with fail
   refine ⟨by intros;exact iw.out,?_⟩;refine aG (i:=10) (by kernel_rfl) ?_;simp only [pk]
   go_wp2_with fail
   refine ⟨by intros;exact iw.out,?_⟩;refine aG (i:=11) (by kernel_rfl) ?_;simp only [pk]
   go_wp2_with fail
   refine ⟨by intros;exact iw.out,?_⟩;refine dQ (r:=[12,14,15,16,17]) (n:=21) lq (by kernel_rfl) iw.out ?_;simp only [pk];refine aA ?_;refine av ?_;refine aG (i:=13) (by kernel_rfl) ?_;simp only [pk];clear iw
   go_wp2_with fail
   refine (kY HA.out.tw.mm (by have:=HLEN.out;omega)).mono ?_;rintro e wN ⟨vN,rfl,kN,hbN⟩
   try replace H1:=Lib.hid (H1.out.below hbN)
   have H1:=Lib.hid (Own.made q9 2402 kN).vals.has;replace HA:=Lib.hid (HA.out.later hbN);clear kN hbN;generalize ext q9 _ 2402=q9 at *;have eY:=(HA.out.tw).zz;have k11:=eY.cell 11 rfl;have k7:=eY.cell 7 rfl;have k16:=eY.cell 16 (u:=.int .i64 (m.periods:Int)) rfl;have k3:=eY.cell 3 (u:=.int .i64 P.outs) rfl;rw [jW.out] at k11;rw [Cz.out] at k7;rw [zN.out] at k16;rw [jL.out] at k3;have iw:=Lib.hid (And.intro k11 (And.intro k7 (And.intro k16 k3)));clear eY k11 k7 k16 k3;obtain ⟨sa,sc,hsv⟩:=Ints.slice H1.out;subst hsv
   go_wp2_with fail
   refine ⟨by intros;exact iw.out,?_⟩;refine aG (i:=18) (by kernel_rfl) ?_;simp only [pk];clear iw
   go_wp2_with fail
   refine (bY H1.out (by have:=HA.out.tw.zz.cs.vals;rw [jW.out] at this;exact this) (by have:=HLEN.out;omega)).mono ?_;rintro e wN ⟨rfl,nN,rfl⟩;replace HA:=Lib.hid (HA.out.quiet ((Turn.refl _ _ _).drewN nN));have eY:=(HA.out.tw).zz;have k11:=eY.cell 11 rfl;have k7:=eY.cell 7 rfl;have k16:=eY.cell 16 (u:=.int .i64 (m.periods:Int)) rfl;have k3:=eY.cell 3 (u:=.int .i64 P.outs) rfl;rw [jW.out] at k11;rw [Cz.out] at k7;rw [zN.out] at k16;rw [jL.out] at k3;have iw:=Lib.hid (And.intro k11 (And.intro k7 (And.intro k16 k3)));clear eY k11 k7 k16 k3;clear H1
   go_wp2_with fail
   refine ⟨by intros;exact iw.out,?_⟩;refine aG (i:=19) (by kernel_rfl) ?_;simp only [pk]
   go_wp2_with fail
   refine ⟨by intros;exact iw.out,?_⟩;refine aG (i:=20) (by kernel_rfl) ?_;simp only [pk]
   go_wp2_with fail
   refine ⟨by intros;exact iw.out,?_⟩;refine dQ (r:=[21]) (n:=16) lq (by kernel_rfl) iw.out ?_;simp only [pk];refine aA ?_;refine av ?_;refine aG (i:=22) (by kernel_rfl) ?_;simp only [pk];clear iw
   go_wp2_with fail
   refine (show Calls _ _ _ _ (iX _ []) by have:=qB HA.out.tw.mm (-1) (fun r hr=>Nat.le_trans (HOL.out r hr) (by decide));rw [TU] at this;exact this).mono ?_;rintro e wN ⟨vN,rfl,kN,hbN⟩
   try replace H1:=Lib.hid (H1.out.below hbN)
   have H4:=Lib.hid (Own.made q9 2402 kN).vals.has;replace HA:=Lib.hid (HA.out.later hbN);clear kN hbN;generalize ext q9 _ 2402=q9 at *;have eY:=(HA.out.tw).zz;have k11:=eY.cell 11 rfl;have k7:=eY.cell 7 rfl;have k16:=eY.cell 16 (u:=.int .i64 (m.periods:Int)) rfl;have k3:=eY.cell 3 (u:=.int .i64 P.outs) rfl;rw [jW.out] at k11;rw [Cz.out] at k7;rw [zN.out] at k16;rw [jL.out] at k3;have iw:=Lib.hid (And.intro k11 (And.intro k7 (And.intro k16 k3)));clear eY k11 k7 k16 k3;obtain ⟨sa,sc,hsv⟩:=Ints.slice H4.out;subst hsv
   go_wp2_with fail
   refine ⟨by intros;exact iw.out,?_⟩;refine aG (i:=23) (by kernel_rfl) ?_;simp only [pk]
   go_wp2_with fail
   refine ⟨by intros;exact iw.out,?_⟩;refine aG (i:=24) (by kernel_rfl) ?_;simp only [pk]
   go_wp2_with fail
   refine ⟨by intros;exact iw.out,?_⟩;refine aG (i:=25) (by kernel_rfl) ?_;simp only [pk]
   go_wp2_with fail
   refine ⟨by intros;exact iw.out,?_⟩;refine aG (i:=26) (by kernel_rfl) ?_;simp only [pk]
   go_wp2_with fail
   refine ⟨by intros;exact iw.out,?_⟩;refine dQ (r:=[27,28,29,30,31,32]) (n:=5) lq (by kernel_rfl) iw.out ?_;simp only [pk];refine aA ?_;refine av ?_;clear lq;refine aG (i:=33) (by kernel_rfl) ?_;simp only [pk];clear iw
   go_wp2_with fail
   refine (show Calls _ _ _ _ (iX _ []) by have:=qB HA.out.tw.mm (no:Int) (fun r hr=>Nat.le_trans (HOL.out r hr) (by decide));rw [OM (by rw [ac0.out];exact Int.le_refl _)] at this;exact this).mono ?_;rintro e wN ⟨vN,rfl,kN,hbN⟩
   try replace H1:=Lib.hid (H1.out.below hbN)
   have H5:=Lib.hid (Own.made q9 2402 kN).vals.has;replace HA:=Lib.hid (HA.out.later hbN);clear kN hbN;generalize ext q9 _ 2402=q9 at *;have eY:=(HA.out.tw).zz;have k11:=eY.cell 11 rfl;have k7:=eY.cell 7 rfl;have k16:=eY.cell 16 (u:=.int .i64 (m.periods:Int)) rfl;have k3:=eY.cell 3 (u:=.int .i64 P.outs) rfl;rw [jW.out] at k11;rw [Cz.out] at k7;rw [zN.out] at k16;rw [jL.out] at k3;have iw:=Lib.hid (And.intro k11 (And.intro k7 (And.intro k16 k3)));clear eY k11 k7 k16 k3;obtain ⟨sa,sc,hsv⟩:=Ints.slice H5.out;subst hsv
   go_wp2_with fail
   refine ⟨by intros;exact iw.out,?_⟩;refine bg (ks:=[34,35,36,37]) (fun _ _ hx h=>⟨hx.cell h.1,hx.cell h.2.1,hx.cell h.2.2.1,hx.cell h.2.2.2⟩) (by kernel_rfl) ?_;simp only [pk];clear iw H4 H5;go_wp2;go_ret
   exact ⟨rfl,HA.out.tw.zz.kept.below⟩
theorem oM (w:World)(a b c d N:Int)(vp vl vo:Value)(n m k:Nat)(hP:View w vp n 2 0 (.int .u8 N))(hL:View w vl m 3 0 (.int .i64 N))(hO:View w vo k 3 1 (.int .i64 N))(hN0:0≤N)(hN1:N < 256)(hn:n≤2000000)(hm:m≤2000000)(hk:k≤2000000):Calls Tryz.prog 37 #[.agg #[.int .i64 a,.int .i64 b,.int .i64 c,.int .i64 d,vp,vl,vo],.int .i64 N] w (Yes w):=by
 have hb1:=au w (.cells #[.int .i64 a,.int .i64 b,.int .i64 c,.int .i64 d,vp,vl,vo] 26);have hA:=heap_alloc_new w (.cells #[.int .i64 a,.int .i64 b,.int .i64 c,.int .i64 d,vp,vl,vo] 26);obtain ⟨ap,cp,rfl,hcp,gP⟩:=hP.below hb1;obtain ⟨al,cl,rfl,hcl,gL⟩:=hL.below hb1;obtain ⟨ao,co,rfl,hco,gO⟩:=hO.below hb1;generalize hW1:w.alloc (.cells #[.int .i64 a,.int .i64 b,.int .i64 c,.int .i64 d,.slice ap n cp,.slice al m cl,.slice ao k co] 26)=W1 at *;have y4:=ah _ _ hA 4 _ rfl;have y5:=ah _ _ hA 5 _ rfl;have y6:=ah _ _ hA 6 _ rfl;simp only [List.getElem_toArray,List.getElem_cons_succ,List.getElem_cons_zero] at y4 y5 y6;have HP:=Lib.hid gP;have HL:=Lib.hid gL;have HO:=Lib.hid gO;have HB1:=Lib.hid hb1;have Tq:=Lib.hid y4;have IG:=Lib.hid y5;have Ox:=Lib.hid y6;clear hP hL hO gP gL gO hb1 hA y4 y5 y6
 go_enter Tryz.func37,Tryz.ntmps37
 go_wp2_with fail
 clear hW1
 go_loopw [5] (fun i wr=>∃ j:Nat,j≤n∧i=.int .i64 j∧Below W1.heap.size W1 wr) (fun i _=>n - (intOf i).toNat)
 case atStart=>exact ⟨0,Nat.zero_le _,rfl,Below.refl _ _⟩
 case round =>
  obtain ⟨i,hi,rfl,hB⟩:=hrel;have HB:=Lib.hid hB;clear hB;have y:=cell_later HB.out Tq.out
  by_cases hlt:i < n
  ·
   obtain ⟨g,p,rfl,-,hc⟩:=HP.out (by omega);have c0:=cell_later HB.out (hc i hlt);simp only [Nat.add_zero] at c0;have dG:(i:Int) < n:=by omega
   have hci:(n:Int)≤cp:=by omega
   clear hc;go_wp2;go_roundw
   case rel=>exact ⟨i+1,hlt,by go_num,HB.out⟩
   case measure=>simp [intOf];omega
  ·
   obtain rfl:n=i:=by omega
   clear hi hlt
   go_wp2_with fail
   go_loopw [6] (fun i wl=>∃ j:Nat,j≤m∧i=.int .i64 j∧Below W1.heap.size W1 wl) (fun i _=>m - (intOf i).toNat)
   case atStart=>exact ⟨0,Nat.zero_le _,rfl,HB.out⟩
   case round =>
    clear HB y;obtain ⟨i,hi,rfl,hB⟩:=hrel;have HB:=Lib.hid hB;clear hB;have y:=cell_later HB.out IG.out
    by_cases hlt:i < m
    ·
     obtain ⟨g,p,rfl,-,hc⟩:=HL.out (by omega);have c0:=cell_later HB.out (hc i hlt);simp only [Nat.add_zero] at c0;have dG:(i:Int) < m:=by omega
     have hci:(m:Int)≤cl:=by omega
     clear hc;go_wp2;go_roundw
     case rel=>exact ⟨i+1,hlt,by go_num,HB.out⟩
     case measure=>simp [intOf];omega
    ·
     obtain rfl:m=i:=by omega
     clear hi hlt
     go_wp2_with fail
     go_loopw [7] (fun i wl=>∃ j:Nat,j≤k∧i=.int .i64 j∧Below W1.heap.size W1 wl) (fun i _=>k - (intOf i).toNat)
     case atStart=>exact ⟨0,Nat.zero_le _,rfl,HB.out⟩
     case round =>
      clear HB y;obtain ⟨i,hi,rfl,hB⟩:=hrel;have HB:=Lib.hid hB;clear hB;have y:=cell_later HB.out Ox.out
      by_cases hlt:i < k
      ·
       obtain ⟨g,p,rfl,-,hc⟩:=HO.out (by omega);have c0:=cell_later HB.out (hc i hlt);have dG:(i:Int) < k:=by omega
       have hci:(k:Int)≤co:=by omega
       clear hc;go_wp2;go_roundw
       case rel=>exact ⟨i+1,hlt,by go_num,HB.out⟩
       case measure=>simp [intOf];omega
      ·
       obtain rfl:k=i:=by omega
       clear hi hlt;go_wp2;go_ret
       exact ⟨rfl,Below.then HB1.out HB.out⟩
def TV (w:World)(o:Col)(c1 c2 c3:Nat)(vp vl vo:Value)(n m k:Nat)(N:Int)(e:Ending)(w':World):Prop:=e=.returned (.tuple #[])∧∃ o',Turn o o' (fun x=>x=c1∨x=c2∨x=c3) w w'∧RowK w' o' c1 50 2 0 vp n n (.int .u8 N)∧RowK w' o' c2 54 3 0 vl m m (.int .i64 N)∧RowK w' o' c3 58 3 1 vo k k (.int .i64 N)
theorem um (w:World)(o:Col)(c1 c2 c3:Nat)(h12:c1≠c2)(h13:c1≠c3)(h23:c2≠c3)(a b c d N:Int)(vp vl vo:Value)(n m k:Nat)(xs1 xs2 xs3:List Value)(hP:Own w o c1 50 2 vp n xs1)(hL:Own w o c2 54 3 vl m xs2)(hO:Own w o c3 58 3 vo k xs3)(hN0:0≤N)(hN1:N < 256)(hn:n≤2000000)(hm:m≤2000000)(hk:k≤2000000):Calls Tryz.prog 35 #[.agg #[.int .i64 a,.int .i64 b,.int .i64 c,.int .i64 d,vp,vl,vo],.int .i64 N] w (TV w o c1 c2 c3 vp vl vo n m k N):=by
 obtain ⟨ap,cp,rfl⟩:=hP.slice;obtain ⟨al,cl,rfl⟩:=hL.slice;obtain ⟨ao,co,rfl⟩:=hO.slice;have hb1:=au w (.cells #[.int .i64 a,.int .i64 b,.int .i64 c,.int .i64 d,.slice ap n cp,.slice al m cl,.slice ao k co] 26);have T1:=Turn.of_below o (c1+c2+c3+1) hb1;have hA:dY _ (ext o w.heap.size (c1+c2+c3+1)) (c1+c2+c3+1) _ _ _:=⟨heap_alloc_new w (.cells #[.int .i64 a,.int .i64 b,.int .i64 c,.int .i64 d,.slice ap n cp,.slice al m cl,.slice ao k co] 26),aW (Nat.le_refl _)⟩;generalize hW1:w.alloc (.cells #[.int .i64 a,.int .i64 b,.int .i64 c,.int .i64 d,.slice ap n cp,.slice al m cl,.slice ao k co] 26)=W1 at *;generalize ext o w.heap.size (c1+c2+c3+1)=o1 at *;have HT1:=Lib.hid T1;have HP:Hid (RowK W1 o1 c1 50 2 0 (.slice ap n cp) n 0 (.int .u8 N)):=Lib.hid (RowK.start (hP.turn T1 (fun h=>h)));have HL:Hid (RowK W1 o1 c2 54 3 0 (.slice al m cl) m 0 (.int .i64 N)):=Lib.hid (RowK.start (hL.turn T1 (fun h=>h)));have HO:Hid (RowK W1 o1 c3 58 3 1 (.slice ao k co) k 0 (.int .i64 N)):=Lib.hid (RowK.start (hO.turn T1 (fun h=>h)));have HA:=Lib.hid hA;have H12:=Lib.hid h12;have H13:=Lib.hid h13;have H23:=Lib.hid h23;have y4:=hA.cell 4 _ rfl;simp only [List.getElem_toArray,List.getElem_cons_succ,List.getElem_cons_zero] at y4;clear hb1 T1 hP hL hO hA h12 h13 h23
 go_enter Tryz.func35,Tryz.ntmps35
 go_wp2_with fail
 clear hW1 y4
 go_loopw [4] (fun i wr=>∃ j:Nat,j≤n∧i=.int .i64 j∧Turn o1 o1 (fun x=>x=c1) W1 wr∧RowK wr o1 c1 50 2 0 (.slice ap n cp) n j (.int .u8 N)) (fun i _=>n - (intOf i).toNat)
 case atStart=>exact ⟨0,Nat.zero_le _,rfl,Turn.refl _ _ _,HP.out⟩
 case round =>
  clear HP;obtain ⟨j,hj,rfl,hT,hR⟩:=hrel;have HT:=Lib.hid hT;have HR:=Lib.hid hR;have y:=(HA.out.turn hT (by omega)).cell 4 _ rfl;simp only [List.getElem_toArray,List.getElem_cons_succ,List.getElem_cons_zero] at y;clear hT hR
  by_cases hlt:j < n
  ·
   obtain ⟨-,hcp,g,rfl,-,-,hcl,hfr⟩:=HR.out.at (by omega) (by decide);obtain ⟨x0,e0⟩:=hcl (j*2) (by omega);obtain ⟨x1,e1⟩:=hcl (j*2+1) (by omega);have f0:=hfr (j*2);have f1:=hfr (j*2+1);have dG:(j:Int) < n:=by omega
   have Mq:(n:Int)≤cp:=by omega
   have HS:=Lib.hid (HR.out.next hlt (by decide));clear hcl hfr HR hcp;go_wp2;go_roundw
   case rel =>
    obtain ⟨S1,S2⟩:=HS.out;rw [Nat.add_zero] at S1 S2;obtain ⟨S3,S4⟩:=S1.put (j:=j*2+1) (x:=.slice none 0 0) (fun k hk=>by omega);exact ⟨j+1,hlt,by go_num,(HT.out.trans S2 (fun _ h=>h)).trans S4 (fun _ h=>h),S3⟩
   case measure=>simp [intOf];omega
  ·
   obtain rfl:n=j:=by omega
   clear hj hlt
   go_wp2_with fail
   go_loopw [5] (fun i wl=>∃ j:Nat,j≤m∧i=.int .i64 j∧Turn o1 o1 (fun x=>x=c1∨x=c2) W1 wl∧RowK wl o1 c1 50 2 0 (.slice ap n cp) n n (.int .u8 N)∧RowK wl o1 c2 54 3 0 (.slice al m cl) m j (.int .i64 N)) (fun i _=>m - (intOf i).toNat)
   case atStart=>exact ⟨0,Nat.zero_le _,rfl,HT.out.mono (fun _ h=>.inl h),HR.out,HL.out.turn HT.out (fun e=>H12.out e.symm)⟩
   case round =>
    clear HT HR HL y;obtain ⟨j,hj,rfl,hT,hP,hR⟩:=hrel;have HT:=Lib.hid hT;have HP:=Lib.hid hP;have HR:=Lib.hid hR;have y:=(HA.out.turn hT (by omega)).cell 5 _ rfl;simp only [List.getElem_toArray,List.getElem_cons_succ,List.getElem_cons_zero] at y;clear hT hR hP
    by_cases hlt:j < m
    ·
     obtain ⟨-,hcp,g,rfl,-,-,hcl,hfr⟩:=HR.out.at (by omega) (by decide);obtain ⟨x0,e0⟩:=hcl (j*3) (by omega);obtain ⟨x1,e1⟩:=hcl (j*3+1) (by omega);obtain ⟨x2,e2⟩:=hcl (j*3+2) (by omega);have f0:=hfr (j*3);have f1:=hfr (j*3+1);have f2:=hfr (j*3+2);have dG:(j:Int) < m:=by omega
     have Mq:(m:Int)≤cl:=by omega
     have HS:=Lib.hid (HR.out.next hlt (by decide));clear hcl hfr HR hcp;go_wp2;go_roundw
     case rel =>
      obtain ⟨S1,S2⟩:=HS.out;rw [Nat.add_zero] at S1 S2;obtain ⟨S3,S4⟩:=S1.put (j:=j*3+1) (x:=.int .i64 0) (fun k hk=>by omega);obtain ⟨S5,S6⟩:=S3.put (j:=j*3+2) (x:=.slice none 0 0) (fun k hk=>by omega);have T:=(S2.trans S4 (fun _ h=>h)).trans S6 (fun _ h=>h);exact ⟨j+1,hlt,by go_num,HT.out.trans T (fun _ h=>.inr h),HP.out.turn T H12.out,S5⟩
     case measure=>simp [intOf];omega
    ·
     obtain rfl:m=j:=by omega
     clear hj hlt
     go_wp2_with fail
     go_loopw [6] (fun i wl=>∃ j:Nat,j≤k∧i=.int .i64 j∧Turn o1 o1 (fun x=>x=c1∨x=c2∨x=c3) W1 wl∧RowK wl o1 c1 50 2 0 (.slice ap n cp) n n (.int .u8 N)∧RowK wl o1 c2 54 3 0 (.slice al m cl) m m (.int .i64 N)∧RowK wl o1 c3 58 3 1 (.slice ao k co) k j (.int .i64 N)) (fun i _=>k - (intOf i).toNat)
     case atStart=>exact ⟨0,Nat.zero_le _,rfl,HT.out.mono (fun _ h=>h.elim .inl (fun h=>.inr (.inl h))),HP.out,HR.out,HO.out.turn HT.out (fun e=>e.elim (fun e=>H13.out e.symm) (fun e=>H23.out e.symm))⟩
     case round =>
      clear HT HR HP HO y;obtain ⟨j,hj,rfl,hT,hP,hL,hR⟩:=hrel;have HT:=Lib.hid hT;have HP:=Lib.hid hP;have HL:=Lib.hid hL;have HR:=Lib.hid hR;have y:=(HA.out.turn hT (by omega)).cell 6 _ rfl;simp only [List.getElem_toArray,List.getElem_cons_succ,List.getElem_cons_zero] at y;clear hT hR hP hL
      by_cases hlt:j < k
      ·
       obtain ⟨-,hcp,g,rfl,-,-,hcl,hfr⟩:=HR.out.at (by omega) (by decide);obtain ⟨x0,e0⟩:=hcl (j*3) (by omega);obtain ⟨x1,e1⟩:=hcl (j*3+1) (by omega);obtain ⟨x2,e2⟩:=hcl (j*3+2) (by omega);have f0:=hfr (j*3);have f1:=hfr (j*3+1);have f2:=hfr (j*3+2);have dG:(j:Int) < k:=by omega
       have Mq:(k:Int)≤co:=by omega
       have HS:=Lib.hid (HR.out.put (j:=j*3) (x:=.int .u8 0) (fun k hk=>by omega));clear hcl hfr HR hcp;go_wp2;go_roundw
       case rel =>
        obtain ⟨S1,S2⟩:=HS.out;obtain ⟨S3,S4⟩:=S1.next hlt (by decide)
        obtain ⟨S5,S6⟩:=S3.put (j:=j*3+2) (x:=.int .i64 0) (fun k hk=>by omega);have T:=(S2.trans S4 (fun _ h=>h)).trans S6 (fun _ h=>h);exact ⟨j+1,hlt,by go_num,HT.out.trans T (fun _ h=>.inr (.inr h)),HP.out.turn T H13.out,HL.out.turn T H23.out,S5⟩
       case measure=>simp [intOf];omega
      ·
       obtain rfl:k=j:=by omega
       clear hj hlt;go_wp2;go_end0
       exact ⟨rfl,o1,(HT1.out.mono (fun _ h=>h.elim)).trans HT.out (fun _ h=>h),HP.out,HL.out,HR.out⟩
structure wG (w:World) (o:Col) (c1 c2 c3:Nat) (vp vl vo Cw Cx ze:Value) (n m q k1 k2 k3:Nat) (N N':Int):Prop where
 fp:zM w o c1 50 2 0 Cw n k1 (.int .u8 N) (.int .u8 N')
 fl:zM w o c2 54 3 0 Cx m k2 (.int .i64 N) (.int .i64 N')
 fq:zM w o c3 58 3 1 ze q k3 (.int .i64 N) (.int .i64 N')
 gp:sD w o c1 vp n 2 0 (.int .u8 N)
 gl:sD w o c2 vl m 3 0 (.int .i64 N)
 gq:sD w o c3 vo q 3 1 (.int .i64 N)
theorem wG.turn {w w':World}{o o':Col}{C:Nat→Prop}{c1 c2 c3:Nat}{vp vl vo Cw Cx ze:Value}{n m q k1 k2 k3:Nat}{N N':Int}(h:wG w o c1 c2 c3 vp vl vo Cw Cx ze n m q k1 k2 k3 N N')(T:Turn o o' C w w')(h1:¬ C c1)(h2:¬ C c2)(h3:¬ C c3):wG w' o' c1 c2 c3 vp vl vo Cw Cx ze n m q k1 k2 k3 N N' :=
 ⟨h.fp.turn T h1,h.fl.turn T h2,h.fq.turn T h3,h.gp.turn T h1,h.gl.turn T h2,h.gq.turn T h3⟩
def TY (w:World)(o:Col)(c1 c2 c3:Nat)(a b c d:Int)(vp vl vo:Value)(n m q:Nat)(N N':Int)(e:Ending)(w':World):Prop:=∃ o' Cw Cx ze,e=.returned (.agg #[.int .i64 a,.int .i64 b,.int .i64 c,.int .i64 d,Cw,Cx,ze])∧Turn o o' (fun x=>x=c1∨x=c2∨x=c3) w w'∧wG w' o' c1 c2 c3 vp vl vo Cw Cx ze n m q 16 16 16 N N'
theorem Turn.more {o o1:Col}{C F:Nat→Prop}{w w1 w2:World}(h:Turn o o1 C w w1)(m:aI F w1 w2)(hF:∀ k,k < w.heap.size→¬ F k):Turn o o1 C w w2:=⟨h.mods.trans m (fun _ _ h=>h) (fun n hn f=>absurd f (hF n hn)),h.same⟩
theorem Ec (w:World)(o:Col)(c1 c2 c3:Nat)(h12:c1≠c2)(h13:c1≠c3)(h23:c2≠c3)(a b c d N N':Int)(vp vl vo:Value)(n m q:Nat)(hP:RowK w o c1 50 2 0 vp n n (.int .u8 N))(hL:RowK w o c2 54 3 0 vl m m (.int .i64 N))(hO:RowK w o c3 58 3 1 vo q q (.int .i64 N))(hN0:0≤N')(hN1:N' < 256)(hn:n≤1500000)(hm:m≤1500000)(hq:q≤1500000):Calls Tryz.prog 36 #[.agg #[.int .i64 a,.int .i64 b,.int .i64 c,.int .i64 d,vp,vl,vo],.int .i64 N'] w (TY w o c1 c2 c3 a b c d vp vl vo n m q N N'):=by
 obtain ⟨iP,hiP,ac1,ac2,ac3⟩:=info_parts xY;obtain ⟨iL,hiL,ac4,ac5,ac6⟩:=info_parts xZ;obtain ⟨iO,hiO,ac7,ac8,ac9⟩:=info_parts LM;have hG0:wG w o c1 c2 c3 vp vl vo vp vl vo n m q 0 0 0 N N':=⟨hP.grow,hL.grow,hO.grow,hP.done (by decide),hL.done (by decide),hO.done (by decide)⟩;clear hP hL hO;have hb1:=au w (.cells #[.int .i64 a,.int .i64 b,.int .i64 c,.int .i64 d,vp,vl,vo] 26);have T1:=Turn.of_below o (c1+c2+c3+1) hb1;have hA:dY _ (ext o w.heap.size (c1+c2+c3+1)) (c1+c2+c3+1) _ _ _:=⟨heap_alloc_new w (.cells #[.int .i64 a,.int .i64 b,.int .i64 c,.int .i64 d,vp,vl,vo] 26),aW (Nat.le_refl _)⟩;obtain ⟨sp,xp,rfl⟩:=hG0.fp.slice;obtain ⟨sl,xl,rfl⟩:=hG0.fl.slice;obtain ⟨so,xo,rfl⟩:=hG0.fq.slice;simp only [Nat.add_zero] at hG0 hb1 T1 hA ⊢;generalize hW1:w.alloc (.cells #[.int .i64 a,.int .i64 b,.int .i64 c,.int .i64 d,.slice sp n xp,.slice sl m xl,.slice so q xo] 26)=W1 at *;have hs1:W1.heap.size=w.heap.size+1:=by rw [← hW1];simp
 have hb2:=au W1 (.cells nA 26);have T2:=Turn.of_below (ext o w.heap.size (c1+c2+c3+1)) (c1+c2+c3+2) hb2;have hR:dY _ (ext (ext o w.heap.size (c1+c2+c3+1)) W1.heap.size (c1+c2+c3+2)) (c1+c2+c3+2) _ _ _:=⟨heap_alloc_new W1 (.cells nA 26),aW (Nat.le_refl _)⟩;generalize hW2:W1.alloc (.cells nA 26)=W2 at *;have hA2:=hA.turn T2 (fun h=>h);have HG:=Lib.hid ((hG0.turn T1 (fun h=>h) (fun h=>h) (fun h=>h)).turn T2 (fun h=>h) (fun h=>h) (fun h=>h));rw [hs1] at hR;have HT:=Lib.hid (T1.trans T2 (fun _ h=>h));have HA:=Lib.hid hA2;have HR:=Lib.hid hR;have H12:=Lib.hid h12;have H13:=Lib.hid h13;have H23:=Lib.hid h23;rw [hs1] at HG HT HA;generalize ext (ext o w.heap.size (c1+c2+c3+1)) (w.heap.size+1) (c1+c2+c3+2)=o2 at *;have zO:=Lib.hid (HT.out.mono (D:=fun x=>x=c1∨x=c2∨x=c3) (fun _ h=>h.elim));clear hb1 hb2 T1 T2 hA hA2 hR hG0 h12 h13 h23 HT
 go_enter Tryz.func36,Tryz.ntmps36
 go_wp2_with fail
 clear hW1 hW2
 go_loopw [5] (fun i wr=>∃ (k:Nat) (o':Col) (Cw Cx ze:Value),k≤16∧i=.int .i64 k∧Turn o o' (fun x=>x=c1∨x=c2∨x=c3) w wr∧w.heap.size+2≤wr.heap.size∧dY wr o' (c1+c2+c3+1) w.heap.size 26 #[.int .i64 a,.int .i64 b,.int .i64 c,.int .i64 d,Cw,Cx,ze]∧dY wr o' (c1+c2+c3+2) (w.heap.size+1) 26 nA∧wG wr o' c1 c2 c3 (.slice sp n xp) (.slice sl m xl) (.slice so q xo) Cw Cx ze n m q k k k N N') (fun i _=>16 - (intOf i).toNat)
 case atStart=>exact ⟨0,o2,_,_,_,Nat.zero_le _,rfl,zO.out,by have:=HR.out.lt;omega,HA.out,HR.out,HG.out⟩
 case round =>
  clear HA HR HG zO;clear o2;obtain ⟨k,o2,Cw,Cx,ze,hk,rfl,hT,hsz,hA,hR,hG⟩:=hrel;obtain ⟨sp',xp',rfl⟩:=hG.fp.slice;obtain ⟨sl',YX,rfl⟩:=hG.fl.slice;obtain ⟨so',Xw,rfl⟩:=hG.fq.slice;have HT:=Lib.hid hT;have HA:=Lib.hid hA;have HR:=Lib.hid hR;have HG:=Lib.hid hG;have y4:=hA.cell 4 _ rfl;simp only [List.getElem_toArray,List.getElem_cons_succ,List.getElem_cons_zero] at y4;clear hT hA hR hG
  by_cases hlt:k < 16
  ·
   have hki:(k:Int) < 16:=by omega
   obtain ⟨xs,h1,h2,h3⟩:=HG.out.fp
   go_wp2_with (at_builtin;refine aM ?_)
   refine bR ?_;refine lT rfl _ _ 22 rfl 0 50 iP _ 2 32 Tryz.underlying22 hiP ac1 ac2 ac3 rfl (.slice sp' (n+k) xp') (n+k) _ rfl (h1.1.alloc (.cells #[.int .u8 N',.slice none 0 0] 50)) (some ⟨wr.heap.size,0,none⟩) 1 1 [.int .u8 N',.slice none 0 0] rfl rfl (fun h=>by cases h) (bA wr [.int .u8 N',.slice none 0 0] 50) (by simp [Value.oneCell']) (by unfold maxLen;omega) (aZ (by omega)) (Nat.zero_le _) ?_;intro v1 w1 k1 k20 _ k4;have k2:(wr.alloc (.cells #[.int .u8 N',.slice none 0 0] 50)).grownBy w1 (Value.slice sp' (n+k) xp').ownBlock:=⟨k20.os,k20.tape,k20.output,k20.size,k20.block⟩;obtain ⟨G,V,T⟩:=grow_step (sz:=2) (off:=0) (u':=.int .u8 N') h1 h2 h3 HG.out.gp rfl rfl k1 k2 k4;obtain ⟨s1,y1c,rfl⟩:=aB k1;have hA:=HA.out.turn T (by omega);have hsz1:wr.heap.size≤w1.heap.size:=T.size;have ya1:=hA.cell 4 _ rfl;simp only [List.setIfInBounds_toArray,List.set_cons_zero,List.set_cons_succ,List.getElem_toArray,List.getElem_cons_succ,List.getElem_cons_zero] at ya1;have fa1:=hA.frozen 4;obtain ⟨B,T2⟩:=hA.set 4 (.slice s1 (n+k+1) y1c);have abB:=Lib.hid B;have abC:=Lib.hid ((HR.out.turn T (by omega)).turn T2 (by omega));have abD:Hid (wG _ _ c1 c2 c3 (.slice sp n xp) (.slice sl m xl) (.slice so q xo) (.slice s1 (n+k+1) y1c) (.slice sl' (m+k) YX) (.slice so' (q+k) Xw) n m q (k+1) k k N N'):=Lib.hid ⟨G.turn T2 (by omega),(HG.out.fl.turn T (fun e=>H12.out e.symm)).turn T2 (by omega),(HG.out.fq.turn T (fun e=>H13.out e.symm)).turn T2 (by omega),V.turn T2 (by omega),(HG.out.gl.turn T (fun e=>H12.out e.symm)).turn T2 (by omega),(HG.out.gq.turn T (fun e=>H13.out e.symm)).turn T2 (by omega)⟩;have abE:=Lib.hid ((HT.out.trans T (fun _ h=>.inl h)).more ((aI.refl (fun k=>k=w.heap.size) w1).setCell (p:=⟨w.heap.size,4,none⟩) (fun _=>rfl) (.slice s1 (n+k+1) y1c)) (fun k hk e=>by omega));have hz1':w.heap.size+2≤(w1.setCell ⟨w.heap.size,4,none⟩ (.slice s1 (n+k+1) y1c)).heap.size:=by rw [dw];omega
   clear G V T T2 B hA k1 k20 k2 k4 h1 h2 h3 HT HA HR HG hsz1 y4;generalize ext o2 wr.heap.size c1=o1' at *;have HT1:=abE;have HA1:=abB;have HR1:=abC;have Q6:=abD;have hz1:=hz1';clear abE abB abC abD hz1';obtain ⟨xs,h1,h2,h3⟩:=Q6.out.fl;have y:=HA1.out.cell 5 _ rfl;simp only [List.setIfInBounds_toArray,List.set_cons_zero,List.set_cons_succ,List.getElem_toArray,List.getElem_cons_succ,List.getElem_cons_zero] at y
   go_wp2_with (at_builtin;refine aM ?_)
   refine bR ?_;clear ya1 fa1;obtain ⟨x2,hx2⟩:∃ x,w1.setCell ⟨w.heap.size,4,none⟩ (.slice s1 (n+k+1) y1c)=x:=⟨_,rfl⟩
   have hs2:w1.heap.size=x2.heap.size:=by rw [← hx2,dw]
   rw [hx2] at HT1 HA1 HR1 Q6 hz1 h1;rw [hx2,hs2];clear hx2 hs2;refine lT rfl _ _ 23 rfl 0 54 iL _ 3 40 Tryz.underlying23 hiL ac4 ac5 ac6 rfl (.slice sl' (m+k) YX) (m+k) _ rfl (h1.1.alloc (.cells #[.int .i64 N',.int .i64 0,.slice none 0 0] 54)) (some ⟨x2.heap.size,0,none⟩) 1 1 [.int .i64 N',.int .i64 0,.slice none 0 0] rfl rfl (fun h=>by cases h) (bA x2 [.int .i64 N',.int .i64 0,.slice none 0 0] 54) (by simp [Value.oneCell']) (by unfold maxLen;omega) (aZ (by omega)) (Nat.zero_le _) ?_;intro v2 w2 k1 k20 _ k4;have k2:(x2.alloc (.cells #[.int .i64 N',.int .i64 0,.slice none 0 0] 54)).grownBy w2 (Value.slice sl' (m+k) YX).ownBlock:=⟨k20.os,k20.tape,k20.output,k20.size,k20.block⟩;obtain ⟨G,V,T⟩:=grow_step (sz:=3) (off:=0) (u':=.int .i64 N') h1 h2 h3 Q6.out.gl rfl rfl k1 k2 k4;obtain ⟨s2,y2c,rfl⟩:=aB k1;have hA:=HA1.out.turn T (by omega);have hsz2:x2.heap.size≤w2.heap.size:=T.size;have ya2:=hA.cell 5 _ rfl;simp only [List.setIfInBounds_toArray,List.set_cons_zero,List.set_cons_succ,List.getElem_toArray,List.getElem_cons_succ,List.getElem_cons_zero] at ya2;have fa2:=hA.frozen 5;obtain ⟨B,T2⟩:=hA.set 5 (.slice s2 (m+k+1) y2c);have abF:=Lib.hid B;have abG:=Lib.hid ((HR1.out.turn T (by omega)).turn T2 (by omega));have abH:Hid (wG _ _ c1 c2 c3 (.slice sp n xp) (.slice sl m xl) (.slice so q xo) (.slice s1 (n+k+1) y1c) (.slice s2 (m+k+1) y2c) (.slice so' (q+k) Xw) n m q (k+1) (k+1) k N N'):=Lib.hid ⟨(Q6.out.fp.turn T H12.out).turn T2 (by omega),G.turn T2 (by omega),(Q6.out.fq.turn T (fun e=>H23.out e.symm)).turn T2 (by omega),(Q6.out.gp.turn T H12.out).turn T2 (by omega),V.turn T2 (by omega),(Q6.out.gq.turn T (fun e=>H23.out e.symm)).turn T2 (by omega)⟩;have abI:=Lib.hid ((HT1.out.trans T (fun _ h=>.inr (.inl h))).more ((aI.refl (fun k=>k=w.heap.size) w2).setCell (p:=⟨w.heap.size,5,none⟩) (fun _=>rfl) (.slice s2 (m+k+1) y2c)) (fun k hk e=>by omega));have hz2':w.heap.size+2≤(w2.setCell ⟨w.heap.size,5,none⟩ (.slice s2 (m+k+1) y2c)).heap.size:=by rw [dw];omega
   clear G V T T2 B hA k1 k20 k2 k4 h1 h2 h3 HT1 HA1 HR1 Q6 hsz2 y;generalize ext o1' x2.heap.size c2=o2' at *;have HT2:=abI;have HA2:=abF;have HR2:=abG;have HG2:=abH;have hz2:=hz2';clear abI abF abG abH hz2';obtain ⟨xs,h1,h2,h3⟩:=HG2.out.fq;have y:=HA2.out.cell 6 _ rfl;simp only [List.setIfInBounds_toArray,List.set_cons_zero,List.set_cons_succ,List.getElem_toArray,List.getElem_cons_succ,List.getElem_cons_zero] at y
   go_wp2_with (at_builtin;refine aM ?_)
   refine bR ?_;clear ya2 fa2;obtain ⟨x3,hx3⟩:∃ x,w2.setCell ⟨w.heap.size,5,none⟩ (.slice s2 (m+k+1) y2c)=x:=⟨_,rfl⟩
   have hs3:w2.heap.size=x3.heap.size:=by rw [← hx3,dw]
   rw [hx3] at HT2 HA2 HR2 HG2 hz2 h1;rw [hx3,hs3];clear hx3 hs3;refine lT rfl _ _ 24 rfl 0 58 iO _ 3 24 Tryz.underlying24 hiO ac7 ac8 ac9 rfl (.slice so' (q+k) Xw) (q+k) _ rfl (h1.1.alloc (.cells #[.int .u8 0,.int .i64 N',.int .i64 0] 58)) (some ⟨x3.heap.size,0,none⟩) 1 1 [.int .u8 0,.int .i64 N',.int .i64 0] rfl rfl (fun h=>by cases h) (bA x3 [.int .u8 0,.int .i64 N',.int .i64 0] 58) (by simp [Value.oneCell']) (by unfold maxLen;omega) (aZ (by omega)) (Nat.zero_le _) ?_;intro v3 w3 k1 k20 _ k4;have k2:(x3.alloc (.cells #[.int .u8 0,.int .i64 N',.int .i64 0] 58)).grownBy w3 (Value.slice so' (q+k) Xw).ownBlock:=⟨k20.os,k20.tape,k20.output,k20.size,k20.block⟩;obtain ⟨G,V,T⟩:=grow_step (sz:=3) (off:=1) (u':=.int .i64 N') h1 h2 h3 HG2.out.gq rfl rfl k1 k2 k4;obtain ⟨s3,y3c,rfl⟩:=aB k1;have hA:=HA2.out.turn T (by omega);have ada:x3.heap.size≤w3.heap.size:=T.size;have ya3:=hA.cell 6 _ rfl;simp only [List.setIfInBounds_toArray,List.set_cons_zero,List.set_cons_succ,List.getElem_toArray,List.getElem_cons_succ,List.getElem_cons_zero] at ya3;have fa3:=hA.frozen 6;obtain ⟨B,T2⟩:=hA.set 6 (.slice s3 (q+k+1) y3c);have abJ:=Lib.hid B;have abK:=Lib.hid ((HR2.out.turn T (by omega)).turn T2 (by omega));have abL:Hid (wG _ _ c1 c2 c3 (.slice sp n xp) (.slice sl m xl) (.slice so q xo) (.slice s1 (n+k+1) y1c) (.slice s2 (m+k+1) y2c) (.slice s3 (q+k+1) y3c) n m q (k+1) (k+1) (k+1) N N'):=Lib.hid ⟨(HG2.out.fp.turn T H13.out).turn T2 (by omega),(HG2.out.fl.turn T H23.out).turn T2 (by omega),G.turn T2 (by omega),(HG2.out.gp.turn T H13.out).turn T2 (by omega),(HG2.out.gl.turn T H23.out).turn T2 (by omega),V.turn T2 (by omega)⟩;have abM:=Lib.hid ((HT2.out.trans T (fun _ h=>.inr (.inr h))).more ((aI.refl (fun k=>k=w.heap.size) w3).setCell (p:=⟨w.heap.size,6,none⟩) (fun _=>rfl) (.slice s3 (q+k+1) y3c)) (fun k hk e=>by omega));have abN:w.heap.size+2≤(w3.setCell ⟨w.heap.size,6,none⟩ (.slice s3 (q+k+1) y3c)).heap.size:=by rw [dw];omega
   clear G V T T2 B hA k1 k20 k2 k4 h1 h2 h3 HT2 HA2 HR2 HG2 ada y;generalize ext o2' x3.heap.size c3=o3' at *;have HT3:=abM;have HA3:=abJ;have HR3:=abK;have HG3:=abL;have hz3:=abN;clear abM abJ abK abL abN;go_wp2;go_roundw
   case rel=>exact ⟨k+1,_,_,_,_,hlt,by go_num,HT3.out,hz3,HA3.out,HR3.out,HG3.out⟩
   case measure=>simp [intOf];omega
  ·
   obtain rfl:k=16:=by omega
   have y5:=HA.out.cell 5 _ rfl;have y6:=HA.out.cell 6 _ rfl;have y0:=HA.out.cell 0 _ rfl;have y1:=HA.out.cell 1 _ rfl;have y2:=HA.out.cell 2 _ rfl;have y3:=HA.out.cell 3 _ rfl;simp only [List.getElem_toArray,List.getElem_cons_succ,List.getElem_cons_zero] at y0 y1 y2 y3 y5 y6;have z0:=HR.out.cell 0 _ rfl;have z1:=HR.out.cell 1 _ rfl;have z2:=HR.out.cell 2 _ rfl;have z3:=HR.out.cell 3 _ rfl;have z4:=HR.out.cell 4 _ rfl;have z5:=HR.out.cell 5 _ rfl;have z6:=HR.out.cell 6 _ rfl;have f0:=HR.out.frozen 0;have f1:=HR.out.frozen 1;have f2:=HR.out.frozen 2;have f3:=HR.out.frozen 3;have f4:=HR.out.frozen 4;have f5:=HR.out.frozen 5;have f6:=HR.out.frozen 6;go_wp2;clear y0 y1 y2 y3 y4 y5 y6 z0 z1 z2 z3 z4 z5 z6 f0 f1 f2 f3 f4 f5 f6;refine bodyPost_ret_by (results_cell_row rfl _ _ _ _ _ _ _ rfl (Az HR.out.1 _ _ _ _ _ _ _) Tryz.underlying26 rfl (by kernel_rfl)) rfl ?_;have mm:=xg wr (w.heap.size+1) (.int .i64 a) (.int .i64 b) (.int .i64 c) (.int .i64 d) (.slice sp' (n+16) xp') (.slice sl' (m+16) YX) (.slice so' (q+16) Xw);have T:Turn o2 o2 (fun x=>x=c1+c2+c3+2) wr _:=⟨mm.mono (fun k _ e=>by subst e;exact HR.out.2),fun _ _=>rfl⟩;exact ⟨o2,_,_,_,rfl,HT.out.more mm (fun k hk e=>by omega),HG.out.turn T (by omega) (by omega) (by omega)⟩
def OT (w:World)(gp gl gq n m q xp xl xq:Nat)(e:Ending)(w':World):Prop:=e=.returned (.agg #[.int .i64 0,.int .i64 0,.int .i64 0,.int .i64 0,.slice (some ⟨gp,n*2,none⟩) 16 (xp - n),.slice (some ⟨gl,m*3,none⟩) 16 (xl - m),.slice (some ⟨gq,q*3,none⟩) 16 (xq - q)])∧Below w.heap.size w w'
theorem BZ (w:World)(a b c d a' b' c' d':Int)(gp gl gq n m q xp xl xq:Nat)(sp sl so:Option Addr)(yp yl yq:Nat)(hp:n+16≤xp)(hl:m+16≤xl)(hq:q+16≤xq)(hn:n≤1500000)(hm:m≤1500000)(hk:q≤1500000):Calls Tryz.prog 38 #[.agg #[.int .i64 a,.int .i64 b,.int .i64 c,.int .i64 d,.slice (some ⟨gp,0,none⟩) (n+16) xp,.slice (some ⟨gl,0,none⟩) (m+16) xl,.slice (some ⟨gq,0,none⟩) (q+16) xq],.agg #[.int .i64 a',.int .i64 b',.int .i64 c',.int .i64 d',.slice sp n yp,.slice sl m yl,.slice so q yq]] w (OT w gp gl gq n m q xp xl xq):=by
 have hb1:=au w (.cells #[.int .i64 a,.int .i64 b,.int .i64 c,.int .i64 d,.slice (some ⟨gp,0,none⟩) (n+16) xp,.slice (some ⟨gl,0,none⟩) (m+16) xl,.slice (some ⟨gq,0,none⟩) (q+16) xq] 26);have hA:=heap_alloc_new w (.cells #[.int .i64 a,.int .i64 b,.int .i64 c,.int .i64 d,.slice (some ⟨gp,0,none⟩) (n+16) xp,.slice (some ⟨gl,0,none⟩) (m+16) xl,.slice (some ⟨gq,0,none⟩) (q+16) xq] 26);generalize hW1:w.alloc (.cells #[.int .i64 a,.int .i64 b,.int .i64 c,.int .i64 d,.slice (some ⟨gp,0,none⟩) (n+16) xp,.slice (some ⟨gl,0,none⟩) (m+16) xl,.slice (some ⟨gq,0,none⟩) (q+16) xq] 26)=W1 at *;have hs1:W1.heap.size=w.heap.size+1:=by rw [← hW1];simp
 have hb2:=au W1 (.cells #[.int .i64 a',.int .i64 b',.int .i64 c',.int .i64 d',.slice sp n yp,.slice sl m yl,.slice so q yq] 26);have hB:=heap_alloc_new W1 (.cells #[.int .i64 a',.int .i64 b',.int .i64 c',.int .i64 d',.slice sp n yp,.slice sl m yl,.slice so q yq] 26);have hA2:=aK hA (.cells #[.int .i64 a',.int .i64 b',.int .i64 c',.int .i64 d',.slice sp n yp,.slice sl m yl,.slice so q yq] 26);generalize hW2:W1.alloc (.cells #[.int .i64 a',.int .i64 b',.int .i64 c',.int .i64 d',.slice sp n yp,.slice sl m yl,.slice so q yq] 26)=W2 at *;have hs2:W2.heap.size=w.heap.size+2:=by rw [← hW2,World.size_alloc,hs1]
 have hb3:=au W2 (.cells nA 26);have hR:=heap_alloc_new W2 (.cells nA 26);have hA3:=aK hA2 (.cells nA 26);have hB3:=aK hB (.cells nA 26);generalize hW3:W2.alloc (.cells nA 26)=W3 at *;rw [hs1] at hB3;rw [hs2] at hR;have hs3:W3.heap.size=w.heap.size+3:=by rw [← hW3,World.size_alloc,hs2]
 have HB:=Lib.hid (Below.then (Below.then hb1 hb2) hb3);have HR:=Lib.hid hR;have y4:=ah _ _ hA3 4 _ rfl;have y5:=ah _ _ hA3 5 _ rfl;have y6:=ah _ _ hA3 6 _ rfl;have z4:=ah _ _ hB3 4 _ rfl;have z5:=ah _ _ hB3 5 _ rfl;have z6:=ah _ _ hB3 6 _ rfl;have r0:=ah _ _ hR 0 _ rfl;have r1:=ah _ _ hR 1 _ rfl;have r2:=ah _ _ hR 2 _ rfl;have r3:=ah _ _ hR 3 _ rfl;have r4:=ah _ _ hR 4 _ rfl;have r5:=ah _ _ hR 5 _ rfl;have r6:=ah _ _ hR 6 _ rfl;have f0:=aj hR 0;have f1:=aj hR 1;have f2:=aj hR 2;have f3:=aj hR 3;have f4:=aj hR 4;have f5:=aj hR 5;have f6:=aj hR 6;simp only [List.getElem_toArray,List.getElem_cons_succ,List.getElem_cons_zero] at y4 y5 y6 z4 z5 z6 r0 r1 r2 r3 r4 r5 r6;have hpi:(n:Int)+16≤xp:=by omega
 have XI:(m:Int)+16≤xl:=by omega
 have hqi:(q:Int)+16≤xq:=by omega
 have hni:(n:Int)≤1500000:=by omega
 have Qc:(m:Int)≤1500000:=by omega
 have hki:(q:Int)≤1500000:=by omega
 have g1:(n:Int)≤(n:Int)+16:=by omega
 have g2:(m:Int)≤(m:Int)+16:=by omega
 have g3:(q:Int)≤(q:Int)+16:=by omega
 have e1:¬ xp=n:=by omega
 have e2:¬ xl=m:=by omega
 have e3:¬ xq=q:=by omega
 clear hb1 hb2 hb3 hA hB hA2 hA3 hB3 hR
 go_enter Tryz.func38,Tryz.ntmps38
 go_wp2_with fail
 clear hW1 hW2 hW3;refine ax (fun w'=>w'.cell? ⟨w.heap.size,4,none⟩=some (.slice (some ⟨gp,0,none⟩) (n+16) xp)∧w'.cell? ⟨w.heap.size,5,none⟩=some (.slice (some ⟨gl,0,none⟩) (m+16) xl)∧w'.cell? ⟨w.heap.size,6,none⟩=some (.slice (some ⟨gq,0,none⟩) (q+16) xq)∧w'.cell? ⟨w.heap.size+1,4,none⟩=some (.slice sp n yp)∧w'.cell? ⟨w.heap.size+1,5,none⟩=some (.slice sl m yl)∧w'.cell? ⟨w.heap.size+1,6,none⟩=some (.slice so q yq)) [0,1,2,3,4,5,6,7,8,9,10,11,12,13,14,15,16,17,18] [19] (by kernel_rfl) (by kernel_rfl) rfl (fun _ _ hx h=>⟨hx.cell h.1,hx.cell h.2.1,hx.cell h.2.2.1,hx.cell h.2.2.2.1,hx.cell h.2.2.2.2.1,hx.cell h.2.2.2.2.2⟩) ⟨y4,y5,y6,z4,z5,z6⟩ ?_;intro Q' hQ';simp only [pk];refine aA ?_;refine av ?_;go_wp2;clear y4 y5 y6 z4 z5 z6 r0 r1 r2 r3 r4 r5 r6 f0 f1 f2 f3 f4 f5 f6;have hs:=Az HR.out (.int .i64 0) (.int .i64 0) (.int .i64 0) (.int .i64 0) (.slice (some ⟨gp,n*2,none⟩) 16 (xp - n)) (.slice (some ⟨gl,m*3,none⟩) 16 (xl - m)) (.slice (some ⟨gq,q*3,none⟩) 16 (xq - q));have mm:=xg W3 (w.heap.size+2) (.int .i64 0) (.int .i64 0) (.int .i64 0) (.int .i64 0) (.slice (some ⟨gp,n*2,none⟩) 16 (xp - n)) (.slice (some ⟨gl,m*3,none⟩) 16 (xl - m)) (.slice (some ⟨gq,q*3,none⟩) 16 (xq - q));obtain ⟨W4,hW4⟩:∃ x,(((((((W3.setCell ⟨w.heap.size+2,0,none⟩ (.int .i64 0)).setCell ⟨w.heap.size+2,1,none⟩ (.int .i64 0)).setCell ⟨w.heap.size+2,2,none⟩ (.int .i64 0)).setCell ⟨w.heap.size+2,3,none⟩ (.int .i64 0)).setCell ⟨w.heap.size+2,4,none⟩ (.slice (some ⟨gp,n*2,none⟩) 16 (xp - n))).setCell ⟨w.heap.size+2,5,none⟩ (.slice (some ⟨gl,m*3,none⟩) 16 (xl - m))).setCell ⟨w.heap.size+2,6,none⟩ (.slice (some ⟨gq,q*3,none⟩) 16 (xq - q)))=x:=⟨_,rfl⟩
 have hW5:Ey W3 (w.heap.size+2) (.int .i64 0) (.int .i64 0) (.int .i64 0) (.int .i64 0) (.slice (some ⟨gp,n*2,none⟩) 16 (xp - n)) (.slice (some ⟨gl,m*3,none⟩) 16 (xl - m)) (.slice (some ⟨gq,q*3,none⟩) 16 (xq - q))=W4:=hW4;rw [hW5] at hs mm;rw [hW4];clear hW4 hW5;refine bodyPost_ret_by (results_cell_row rfl _ W4.drew _ _ _ _ _ rfl hs Tryz.underlying26 rfl (by kernel_rfl)) rfl ?_;exact ⟨rfl,cO (n:=1) (HB.out.trans (mm.below (B:=w.heap.size) (by omega) (fun k hk e=>by omega)))⟩
end Go.Proofs.YtpdlngonocancaaGreat
