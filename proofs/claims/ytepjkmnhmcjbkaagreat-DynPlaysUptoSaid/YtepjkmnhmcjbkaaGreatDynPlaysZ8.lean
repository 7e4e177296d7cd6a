import Derived.Test.YtepjkmnhmcjbkaaGreatDynPlaysZ7
import Derived.Test.YtepjkmnhmcjbkaaGreatDynPlaysZ6
import Derived.Test.YtepjkmnhmcjbkaaGreatDynPlaysZ3
import Derived.Deep.CutRange
import Derived.Deep.CutBlock
set_option linter.unusedVariables false
set_option linter.unusedSimpArgs false
set_option maxRecDepth 100000
set_option maxHeartbeats 20000000
namespace Go.Proofs.YtepjkmnhmcjbkaaGreat
open Go.RowKit
def mr (g:av)(caps:List Int)(r:bH)(k:Int):Bool:=if k < 0\/(g.actors.length:Int)<=k then false else match r.failed with | some _=>false | none=>isReady g caps r.aP k.toNat
theorem He {g:av}(hL:Linked g){t q:Nat}(ht:t < g.actors.length)(hq:q < (ay g t).length):(ku g t (g.edges.length+g.ins.length))[q]?.getD 0=(bY g t q:Int):=by
 have:=hL.inn t q ht hq;unfold ku;rw [List.getElem?_map,List.getElem?_range hq];show (if bY g t q < g.edges.length+g.ins.length then (bY g t q:Int) else 0)=_
 rw [if_pos this]
theorem Rk {g:av}(hL:Linked g){t p:Nat}(ht:t < g.actors.length)(hp:p < (aF g t).length):(zw g t (aR g))[p]?.getD 0=(toP g t p:Int):=by
 have:=hL.out t p ht hp;unfold zw;rw [List.getElem?_map,List.getElem?_range hp];show (if toP g t p < aR g then (toP g t p:Int) else 0)=_
 rw [if_pos (by unfold aR;omega)]
section
variable {w:World} {o:Col} {R K M:Nat} {g:av} {caps:List Int} {r:bH} {hs gv:Nat->List Int} {H:iH} {tv:Nat->wU} {sv:Nat->rT}
theorem fA.yw (h:fA w o R g caps K r hs gv H tv sv){d:Nat}(hd:d < aR g):(sv d).l=(hs d).length+(r.aP.strs d).length:=by
 have:=h.all d hd;obtain ⟨a,c,e⟩:=this.slice;unfold rT.v at e;simp only [Value.slice.injEq] at e;rw [e.2.1,aX,List.length_append]
theorem yx (h:fA w o R g caps K r hs gv H tv sv)(hG:BS g caps)(hK:vS g M r.aP)(hN:∀ d,(hs d).length+(r.aP.strs d).length<=100000000000000){t:Nat}(ht:t < g.actors.length)(hf:r.failed=none)(hv:YA g t (r.aP.tasks t) (gv t)) :
  Calls Tryz.prog 48 #[.agg (dP g caps H).toArray,.int .i64 (t:Int)] w (fq (.bool (isReady g caps r.aP t)) w):=by
 have hf0:=h.fail.cell 0 _ rfl;rw [show iK r = -1 by unfold iK;rw [hf]] at hf0;unfold dP;obtain ⟨aa,ac,ae,ec,ai,nc,ao,uc,cv,cc,ta,tc,sa',dz,fl⟩:=H;change w.cell? ⟨fl,0,none⟩=some (.int .i64 (-1)) at hf0;obtain ⟨tg,oF,htc,-,hfz,-,hcl⟩:=h.pF ht;dsimp only at oF htc;subst oF;obtain ⟨T,hTe⟩:∃ x,eH g t=x:=⟨_,rfl⟩;obtain ⟨N,hNe⟩:∃ x,(r.aP.tasks t).n=x:=⟨_,rfl⟩;obtain ⟨A,BH⟩:∃ x,zA (r.aP.tasks t) (gv t)=x:=⟨_,rfl⟩;obtain ⟨Wh,J6⟩:∃ x,(r.aP.tasks t).whole=x:=⟨_,rfl⟩;obtain ⟨v,uH⟩:∃ x,tv t=x:=⟨_,rfl⟩;have hT:=h.task t ht;unfold taskX iw at hcl;rw [hTe,hNe,BH,J6,uH] at hcl;rw [uH] at hT;have HVE:=af uH;have Rl:=af hTe;have u7:=af hNe;have YE:=af J6;clear hTe hNe J6 uH;obtain ⟨pa,pl,pc,ia,il,ic,oa,ol,oc,ka,kl,kc,sa,sl,sc,da,dl,dc,ha,hl,hc,ga,gl,gc⟩:=v;obtain ⟨a0,a1,a2,a3,a4,a5,a6,a7,a8,a9,qF,pK⟩:=Bf hcl;clear hcl;have bX:(t:Int) < g.actors.length:=by omega
 have VN:(g.actors.length:Int)<=tc:=by omega
 have hO:=hK.task t ht;obtain ⟨⟨ri,rl⟩,ro,SB⟩:=rq hG.acts t;have qE:=af ri;have Gp:=af rl;have sI:=af ro;have Hf:=af SB;have HT:=af hT;have HO:=af hO;have HG:=af hG;have H1:=af h;have HN:=af hN;have J7:=af BH;have HGV:=af hv;clear h hG hK hN hO hT ri rl ro SB BH hv hf htc hfz;obtain ⟨F,hF⟩:∃ x,isReady g caps r.aP t=x:=⟨_,rfl⟩;rw [hF];have HF:=af hF;clear hF;dsimp only;have lH:=au w (.cells #[.string g.name,.slice aa g.actors.length ac,.slice ae g.edges.length ec,.slice ai g.ins.length nc,.slice ao g.outs.length uc,.slice cv caps.length cc,.slice (some ⟨tg,0,none⟩) g.actors.length tc,.slice sa' (aR g) dz,.slice (some ⟨fl,0,none⟩) 1 1] 37);have hX:=heap_alloc_new w (.cells #[.string g.name,.slice aa g.actors.length ac,.slice ae g.edges.length ec,.slice ai g.ins.length nc,.slice ao g.outs.length uc,.slice cv caps.length cc,.slice (some ⟨tg,0,none⟩) g.actors.length tc,.slice sa' (aR g) dz,.slice (some ⟨fl,0,none⟩) 1 1] 37);have x5:=ah _ _ hX 5 _ rfl;have x6:=ah _ _ hX 6 _ rfl;have x7:=ah _ _ hX 7 _ rfl;have x8:=ah _ _ hX 8 _ rfl;simp only [List.getElem_toArray,List.getElem_cons_succ,List.getElem_cons_zero] at x5 x6 x7 x8;replace hf0:=cell_later lH hf0;have aL:=uy lH ⟨a0,a1,a2,a3,a4,a5,a6,a7,a8,a9,qF,pK⟩;clear a0 a1 a2 a3 a4 a5 a6 a7 a8 a9 qF pK;obtain ⟨a0,a1,a2,a3,a4,a5,a6,a7,a8,a9,qF,pK⟩:=aL;have hbB:=lH.alloc (by simp) (.cells #[.int .u8 T,.slice pa pl pc,.slice ia il ic,.slice oa ol oc,.slice ka kl kc,.int .i64 N,.slice sa sl sc,.slice da dl dc,.int .i64 (A:Nat),.slice ha hl hc,.slice ga gl gc,.int .i64 (Wh:Nat)] 88);have hY:=heap_alloc_new (w.alloc (.cells #[.string g.name,.slice aa g.actors.length ac,.slice ae g.edges.length ec,.slice ai g.ins.length nc,.slice ao g.outs.length uc,.slice cv caps.length cc,.slice (some ⟨tg,0,none⟩) g.actors.length tc,.slice sa' (aR g) dz,.slice (some ⟨fl,0,none⟩) 1 1] 37)) (.cells #[.int .u8 T,.slice pa pl pc,.slice ia il ic,.slice oa ol oc,.slice ka kl kc,.int .i64 N,.slice sa sl sc,.slice da dl dc,.int .i64 (A:Nat),.slice ha hl hc,.slice ga gl gc,.int .i64 (Wh:Nat)] 88);have lN:=af hbB;have HY:=af hY;have X5:=af (ca (o:=.cells #[.int .u8 T,.slice pa pl pc,.slice ia il ic,.slice oa ol oc,.slice ka kl kc,.int .i64 N,.slice sa sl sc,.slice da dl dc,.int .i64 (A:Nat),.slice ha hl hc,.slice ga gl gc,.int .i64 (Wh:Nat)] 88) x5);have K6:=af (ca (o:=.cells #[.int .u8 T,.slice pa pl pc,.slice ia il ic,.slice oa ol oc,.slice ka kl kc,.int .i64 N,.slice sa sl sc,.slice da dl dc,.int .i64 (A:Nat),.slice ha hl hc,.slice ga gl gc,.int .i64 (Wh:Nat)] 88) x7);clear hX lH hbB hY;go_enter Tryz.func48,Tryz.ntmps48;go_wp2_with fail;refine (rA (o:=fun _=>0) (c:=0) (HT.out.vi.has.below lN.out) qE.out Gp.out).mono ?_;rintro e w1 ⟨rfl,rfl⟩;obtain ⟨W,hW⟩:∃ x,(w.alloc (.cells #[.string g.name,.slice aa g.actors.length ac,.slice ae g.edges.length ec,.slice ai g.ins.length nc,.slice ao g.outs.length uc,.slice cv caps.length cc,.slice (some ⟨tg,0,none⟩) g.actors.length tc,.slice sa' (aR g) dz,.slice (some ⟨fl,0,none⟩) 1 1] 37)).alloc (.cells #[.int .u8 T,.slice pa pl pc,.slice ia il ic,.slice oa ol oc,.slice ka kl kc,.int .i64 N,.slice sa sl sc,.slice da dl dc,.int .i64 (A:Nat),.slice ha hl hc,.slice ga gl gc,.int .i64 (Wh:Nat)] 88)=x:=⟨_,rfl⟩;rw [hW] at lN HY X5 K6 ⊢;rw [World.size_alloc] at HY;clear hW x5 x6 x7 x8 hf0;clear a0 a1 a2 a3 a4 a5 a6 a7 a8 a9 qF pK;have y2:=ah _ _ HY.out 2 _ rfl;have y3:=ah _ _ HY.out 3 _ rfl;have y6:=ah _ _ HY.out 6 _ rfl;have y7:=ah _ _ HY.out 7 _ rfl;have y8:=ah _ _ HY.out 8 _ rfl;simp only [List.getElem_toArray,List.getElem_cons_succ,List.getElem_cons_zero] at y2 y3 y6 y7 y8;have x5:=X5.out;have x7:=K6.out;obtain ⟨I,hI⟩:∃ x,fH (ay g t)=x:=⟨_,rfl⟩;have hI5:I<=4096:=by have h1:=gZ qE.out;have h2:=Gp.out;omega
 rw [hI];have HI:=af hI;clear hI;cases hg:(r.aP.tasks t).gives with
 | false =>
  have BH:A=(r.aP.tasks t).hand.flatten.length:=by rw [<- J7.out,zA,hg];rfl
  by_cases hp:(r.aP.tasks t).port < (ay g t).length
  ·
   obtain ⟨p1,p2⟩:=HO.out.part hg hp;have hF:=HF.out;rw [oV ht hg hp] at hF;rw [<- BH] at p1 p2;have hlt:A < I:=by rw [<- HI.out];exact Nat.lt_of_lt_of_le p2 (ru _)
   have hdl:=HG.out.linked.inn t _ ht hp;have hda:=He HG.out.linked ht hp;have hds:=H1.out.yw (d:=bY g t (r.aP.tasks t).port) (by unfold aR;omega);obtain ⟨sg,hsa,hsc,-,-,-,s0,s1⟩:=H1.out.sW (d:=bY g t (r.aP.tasks t).port) (by unfold aR;omega);dsimp only at hsa hsc;subst hsa;have hnn:=HN.out (bY g t (r.aP.tasks t).port);obtain ⟨d,hd⟩:∃ x,bY g t (r.aP.tasks t).port=x:=⟨_,rfl⟩;rw [hd] at hdl hda hds s0 s1 hnn hF;obtain ⟨gb,off,rfl,-,NH,-,-,hcl⟩:=Ints.at HT.out.src (by rw [jl];omega);have c0:=hcl (r.aP.tasks t).port (by rw [jl];exact hp);rw [hda] at c0;have hsl:sl=(ay g t).length:=by have:=Ints.len HT.out.src;rw [jl] at this;exact this
   obtain ⟨p,hpe⟩:∃ x,(r.aP.tasks t).port=x:=⟨_,rfl⟩;rw [hpe] at c0 p1 p2 hp;dsimp only at NH;have hpi:(p:Int) < sl:=by omega
   have VO:(sl:Int)<=sc:=by omega
   have hdi:(d:Int) < aR g:=by unfold aR;omega
   have Rm:(aR g:Int)<=dz:=by omega
   unfold rT.v at s0;obtain ⟨zz,hzz⟩:∃ x,sv d=x:=⟨_,rfl⟩;rw [hzz] at s0 hds;clear hzz;obtain ⟨za,zl,zc⟩:=zz;dsimp only at s0 hds;obtain ⟨Gn,hGn⟩:∃ x,(hs d).length=x:=⟨_,rfl⟩;obtain ⟨Ln,hLn⟩:∃ x,(r.aP.strs d).length=x:=⟨_,rfl⟩;rw [hGn] at s1 hds hnn;rw [hLn] at hds hnn hF;replace HF:=af hF;clear hF;have WO:=af p1;have WQ:=af p2;have SC:=af hp;have z0:=cell_later lN.out c0;have z1:=cell_later lN.out s0;have z2:=cell_later lN.out s1;have Xa:(A:Int) < I:=by omega
   have SE:=af hds;have Bh:=af hnn;clear hcl hda NH hd c0 s0 s1 hpe hLn hGn BH p1 p2 hp hds hnn hsl hsc hdl;go_wp2_with fail;refine fC (fun w'=>Below W.heap.size W w'/\w'.cell? ⟨w.heap.size,7,none⟩=some (.slice (some ⟨sg,0,none⟩) (aR g) dz)/\w'.cell? ⟨w.heap.size+1,6,none⟩=some (.slice (some ⟨gb,off,none⟩) sl sc)/\w'.cell? ⟨w.heap.size+1,2,none⟩=some (.slice ia il ic)/\w'.cell? ⟨w.heap.size+1,8,none⟩=some (.int .i64 (A:Nat))/\w'.cell? ⟨gb,off+p,none⟩=some (.int .i64 (d:Nat))/\w'.cell? ⟨sg,d*2,none⟩=some (.slice za zl zc)/\w'.cell? ⟨sg,d*2+1,none⟩=some (.int .i64 (Gn:Nat))) [0,1,2,3,4,5,6,7,8,9,10,11,12,13,14,15,16] [] (by kernel_rfl) (by kernel_rfl) rfl ⟨cK (n:=1) (Below.refl _ _),x7,y6,y2,y8,z0,z1,z2⟩ ?_;simp only [pk];refine fD ?_;refine gT (.int .i64 (p:Nat)) 50 #[.slice ia il ic,.int .i64 (A:Nat)] (by rfl) (fun wz=>by go_simp) (fun wz hz=>?_) ?_
   ·
    refine (uz (o:=fun _=>0) (c:=0) (HT.out.vi.has.below (lN.out.trans (hz.1.mono lN.out.size))) qE.out Gp.out SC.out WO.out WQ.out).mono ?_;rintro e wy ⟨rfl,rfl⟩;exact ⟨rfl,hz⟩
   simp only [pt];refine fD ?_;refine gT (.int .i64 (zl - Gn:Nat)) 54 #[.agg #[.slice za zl zc,.int .i64 (Gn:Nat)]] (by rfl) (fun wz=>by go_simp) (fun wz hz=>?_) ?_
   ·
    refine (Bg wz za zl zc Gn (by have:=SE.out;omega) (by have:=SE.out;have:=Bh.out;omega)).mono ?_;rintro e wy ⟨rfl,hb⟩;obtain ⟨h1,h2,h3,h4,h5,h6,h7,h8⟩:=hz;exact ⟨rfl,h1.trans (hb.mono h1.size),cell_later hb h2,cell_later hb h3,cell_later hb h4,cell_later hb h5,cell_later hb h6,cell_later hb h7,cell_later hb h8⟩
   simp only [pt];refine fD ?_;refine iI ?_;intro w' hS;have Yo:=af (lN.out.trans (hS.1.mono lN.out.size));have HE:Hid (decide (0 < zl - Gn)=!decide (Ln=0)):=af (by have:=SE.out;rw [show zl - Gn=Ln by omega];cases Ln <;> simp);clear hS;go_wp2;go_ret;refine ⟨?_,Yo.out⟩;show Ending.returned (.bool (decide (0 < zl - Gn)))=_
   rw [HE.out,HF.out]
  ·
   have hfull:=(HO.out.full (fun _=>hp)).1;rw [HI.out] at hfull;have hF:=HF.out;rw [zm ht hg hp] at hF;subst hF;have hni:¬ (A:Int) < I:=by omega
   have heq:(A:Int)=I:=by omega
   have acw:A=I:=by omega
   clear hp hfull BH;go_wp2;go_ret;exact ⟨rfl,lN.out⟩
 | true =>
  obtain ⟨p1,p2,-⟩:=HO.out.WZ HG.out.acts hg HGV.out;have hfull:=(HO.out.full (fun h=>absurd hg h)).1;rw [HI.out] at hfull;have BH:A=I+1+(gv t).length:=by rw [<- J7.out,zA,hg,if_pos rfl,hfull]
  have hp:=(HO.out.give hg).1;have hF:=HF.out;rw [oU ht hg] at hF;have hdl:=HG.out.linked.out t _ ht hp;have hda:=Rk HG.out.linked ht hp;obtain ⟨p,hpe⟩:∃ x,(r.aP.tasks t).port=x:=⟨_,rfl⟩;rw [hpe] at hp p1 p2 hF hdl hda;obtain ⟨k,hke⟩:∃ x,(gv t).length=x:=⟨_,rfl⟩;rw [hke] at p1 p2 BH;obtain ⟨d,hd⟩:∃ x,toP g t p=x:=⟨_,rfl⟩;rw [hd] at hdl hda hF;have hk5:k<=4096:=by have h1:=ru (l:=aF g t) (p+1);have h2:=gZ sI.out;have h3:=Hf.out;omega
  obtain ⟨gb,off,rfl,-,NI,-,-,hcl⟩:=Ints.at HT.out.dst (by rw [l5];omega);have c0:=hcl p (by rw [l5];exact hp);rw [hda] at c0;have VP:dl=(aF g t).length:=by have:=Ints.len HT.out.dst;rw [l5] at this;exact this
  dsimp only at NI;have hpi:(p:Int) < dl:=by omega
  have aav:(dl:Int)<=dc:=by omega
  obtain ⟨B,hB⟩:∃ x,A - I=x:=⟨_,rfl⟩;have hw1:IntKind.i64.wrap ((A:Int) - I)=(B:Nat):=by rw [IntWalk.i64_in _ (by omega)];omega
  have hw2:wrap64 ((A:Int) - I)=(B:Nat):=by rw [IntWalk.wrap64_in _ (by omega)];omega
  have hw3:IntKind.i64.wrap ((B:Int) - 1)=(k:Nat):=by rw [IntWalk.i64_in _ (by omega)];omega
  have hw4:wrap64 ((B:Int) - 1)=(k:Nat):=by rw [IntWalk.wrap64_in _ (by omega)];omega
  have hni:¬ (A:Int) < I:=by omega
  have hne:¬ (A:Int)=I:=by omega
  have acy:¬ A=I:=by omega
  have acz:¬ A < I:=by omega
  have WO:=af p1;have WQ:=af p2;have SC:=af hp;have z0:=cell_later lN.out c0;clear hcl hda hd c0 p1 p2 hp hpe hke hB BH hfull VP NI;go_wp2_with fail;refine fC (fun w'=>Below W.heap.size W w'/\w'.cell? ⟨w.heap.size+1,7,none⟩=some (.slice (some ⟨gb,off,none⟩) dl dc)/\w'.cell? ⟨w.heap.size+1,3,none⟩=some (.slice oa ol oc)/\w'.cell? ⟨w.heap.size+1,8,none⟩=some (.int .i64 (A:Nat))/\w'.cell? ⟨gb,off+p,none⟩=some (.int .i64 (d:Nat))) [0,1,2,3,4,5,6,7,8,9,10,11,12,13] [] (by kernel_rfl) (by kernel_rfl) rfl ⟨cK (n:=1) (Below.refl _ _),y7,y3,y8,z0⟩ ?_;simp only [pk];refine fD ?_;refine gT (.int .i64 (p:Nat)) 50 #[.slice oa ol oc,.int .i64 (k:Nat)] (by rfl) (fun wz=>by go_simp) (fun wz hz=>?_) ?_
  ·
   refine (uz (o:=fun _=>0) (c:=0) (HT.out.vo.has.below (lN.out.trans (hz.1.mono lN.out.size))) sI.out Hf.out SC.out WO.out WQ.out).mono ?_;rintro e wy ⟨rfl,rfl⟩;exact ⟨rfl,hz⟩
  simp only [pt];refine fD ?_;refine iI ?_;intro w2 hS;have HB2:=af hS.1;have x5:=cell_later hS.1 x5;have x7:=cell_later hS.1 x7;clear hS hw1 hw2 hw3 hw4 y2 y3 y6 y7 y8 z0;have hcl:=HG.out.caps
  by_cases he:d < g.edges.length
  ·
   have hnd:¬ (d:Int)>=caps.length:=by omega
   have hdn:¬ caps.length<=d:=by omega
   have hdc:(d:Int) < caps.length:=by omega
   have hds:=H1.out.yw (d:=d) (by unfold aR;omega);obtain ⟨sg,hsa,hsc,-,-,-,s0,s1⟩:=H1.out.sW (d:=d) (by unfold aR;omega);dsimp only at hsa hsc;subst hsa;have hnn:=HN.out d;have hdi:(d:Int) < aR g:=by unfold aR;omega
   have Rm:(aR g:Int)<=dz:=by omega
   unfold rT.v at s0;obtain ⟨zz,hzz⟩:∃ x,sv d=x:=⟨_,rfl⟩;rw [hzz] at s0 hds;clear hzz;obtain ⟨za,zl,zc⟩:=zz;dsimp only at s0 hds;obtain ⟨Gn,hGn⟩:∃ x,(hs d).length=x:=⟨_,rfl⟩;obtain ⟨Ln,hLn⟩:∃ x,(r.aP.strs d).length=x:=⟨_,rfl⟩;rw [hGn] at s1 hds hnn;have hCA:=H1.out.caps;obtain ⟨cg,co,rfl,-,hcc,-,-,hcv⟩:=Ints.at hCA (by omega);dsimp only at hcc;have c1:=hcv d (by omega);obtain ⟨cp,hcp⟩:∃ x,caps[d]?.getD 0=x:=⟨_,rfl⟩;rw [hcp] at c1;unfold rM at hF;rw [List.getElem?_eq_getElem (by omega)] at hF hcp;simp only [Option.getD_some] at hcp;rw [hcp] at hF;simp only at hF;rw [hLn] at hF hds hnn;replace HF:=af hF;have SE:=af hds;have Bh:=af hnn;have acA:(caps.length:Int)<=cc:=by omega
   have hbz:=lN.out.trans (HB2.out.mono lN.out.size);have z1:=cell_later hbz s0;have z2:=cell_later hbz s1;have z3:=cell_later hbz c1;have Jm:=af hbz;clear hF hcp hLn hGn hds hnn hcv hCA hcc hsc s0 s1 c1 hbz hcl hdl he;go_wp2_with fail;refine fC (fun w'=>Below w2.heap.size w2 w'/\w'.cell? ⟨w.heap.size,5,none⟩=some (.slice (some ⟨cg,co,none⟩) caps.length cc)/\w'.cell? ⟨w.heap.size,7,none⟩=some (.slice (some ⟨sg,0,none⟩) (aR g) dz)/\w'.cell? ⟨cg,co+d,none⟩=some (.int .i64 cp)/\w'.cell? ⟨sg,d*2,none⟩=some (.slice za zl zc)/\w'.cell? ⟨sg,d*2+1,none⟩=some (.int .i64 (Gn:Nat))) [0,1,2,3,4,5,6,7,8,9,10,11,12,13,14,15,16,17,18,19] [] (by kernel_rfl) (by kernel_rfl) rfl ⟨cK (n:=1) (Below.refl _ _),x5,x7,z3,z1,z2⟩ ?_;simp only [pk];refine fD ?_;refine gT (.int .i64 (zl - Gn:Nat)) 54 #[.agg #[.slice za zl zc,.int .i64 (Gn:Nat)]] (by rfl) (fun wz=>by go_simp) (fun wz hz=>?_) ?_
   ·
    refine (Bg wz za zl zc Gn (by have:=SE.out;omega) (by have:=SE.out;have:=Bh.out;omega)).mono ?_;rintro e wy ⟨rfl,hb⟩;obtain ⟨h1,h2,h3,h4,h5,h6⟩:=hz;exact ⟨rfl,h1.trans (hb.mono h1.size),cell_later hb h2,cell_later hb h3,cell_later hb h4,cell_later hb h5,cell_later hb h6⟩
   simp only [pt];refine fD ?_;refine iI ?_;intro w' hS;have Yo:=af (Jm.out.trans (hS.1.mono Jm.out.size));have HE:Hid (decide (((zl - Gn:Nat):Int) < cp)=!decide (cp<=(Ln:Int))):=af (by have:=SE.out;rw [show zl - Gn=Ln by omega];by_cases hq:cp<=(Ln:Int) <;> simp [hq] <;> omega);clear hS;go_wp2;go_ret;refine ⟨?_,Yo.out⟩;show Ending.returned (.bool (decide (((zl - Gn:Nat):Int) < cp)))=_
   rw [HE.out,HF.out]
  ·
   have hge:(d:Int)>=caps.length:=by omega
   have hgn:caps.length<=d:=by omega
   unfold rM at hF;rw [List.getElem?_eq_none hgn] at hF;simp only [Bool.not_false] at hF;subst hF;have hbz:=lN.out.trans (HB2.out.mono lN.out.size);have Jm:=af hbz;clear hbz he hcl hdl;go_wp2_with fail;refine fC (fun w'=>Below w2.heap.size w2 w'/\w'.cell? ⟨w.heap.size,5,none⟩=some (.slice cv caps.length cc)) [0,1,2,3,4,5,6,7,8,9,10,11,12,13,14,15,16,17,18,19] [] (by kernel_rfl) (by kernel_rfl) rfl ⟨cK (n:=1) (Below.refl _ _),x5⟩ ?_;simp only [pk];refine fD ?_;refine iI ?_;intro w' hS;have Yo:=af (Jm.out.trans (hS.1.mono Jm.out.size));clear hS;go_wp2;go_ret;exact ⟨rfl,Yo.out⟩
theorem Bj (h:fA w o R g caps K r hs gv H tv sv)(hG:BS g caps)(hK:vS g M r.aP)(hN:∀ d,(hs d).length+(r.aP.strs d).length<=100000000000000)(k:Int) :
  Calls Tryz.prog 48 #[.agg (dP g caps H).toArray,.int .i64 k] w (fq (.bool (mr g caps r k)) w):=by
 by_cases hin:0<=k/\k < (g.actors.length:Int)/\r.failed=none
 ·
  obtain ⟨t,rfl⟩:∃ t:Nat,k=t:=⟨k.toNat,by omega⟩;have e:mr g caps r (t:Int)=isReady g caps r.aP t:=by
   unfold mr;rw [if_neg (by omega),hin.2.2];rfl
  rw [e];exact yx h hG hK hN (by omega) hin.2.2 (h.task t (by omega)).rest
 ·
  have e:mr g caps r k=false:=by
   unfold mr
   by_cases h1:k < 0\/(g.actors.length:Int)<=k
   ·
    rw [if_pos h1]
   ·
    rw [if_neg h1];cases hf:r.failed with
    | none=>exact absurd ⟨by omega,by omega,hf⟩ hin
    | some t=>rfl
  rw [e];have hf0:=h.fail.cell 0 _ rfl;have hf1:0<=k->k < (g.actors.length:Int)->0<=iK r:=fun h0 h1=>by
   unfold iK;cases hf:r.failed with
   | none=>exact absurd ⟨h0,h1,hf⟩ hin
   | some t=>show (0:Int)<=(t:Int);omega
  unfold dP;obtain ⟨aa,ac,ae,ec,ai,nc,ao,uc,cv,cc,ta,tc,sa',dz,fl⟩:=H;change w.cell? ⟨fl,0,none⟩=some (.int .i64 (iK r)) at hf0;obtain ⟨fI,hfI⟩:∃ x,iK r=x:=⟨_,rfl⟩;rw [hfI] at hf0 hf1;clear hfI h hin hG hK hN e;dsimp only;have lH:=au w (.cells #[.string g.name,.slice aa g.actors.length ac,.slice ae g.edges.length ec,.slice ai g.ins.length nc,.slice ao g.outs.length uc,.slice cv caps.length cc,.slice ta g.actors.length tc,.slice sa' (aR g) dz,.slice (some ⟨fl,0,none⟩) 1 1] 37);have hX:=heap_alloc_new w (.cells #[.string g.name,.slice aa g.actors.length ac,.slice ae g.edges.length ec,.slice ai g.ins.length nc,.slice ao g.outs.length uc,.slice cv caps.length cc,.slice ta g.actors.length tc,.slice sa' (aR g) dz,.slice (some ⟨fl,0,none⟩) 1 1] 37);have x6:=ah _ _ hX 6 _ rfl;have x8:=ah _ _ hX 8 _ rfl;simp only [List.getElem_toArray,List.getElem_cons_succ,List.getElem_cons_zero] at x6 x8;replace hf0:=cell_later lH hf0;have pO:=af lH;clear hX lH
  by_cases h0:k < 0
  ·
   clear hf1 hf0 x6 x8;go_enter Tryz.func48,Tryz.ntmps48;go_wp2;go_ret;exact ⟨rfl,pO.out⟩
  ·
   by_cases h1:(g.actors.length:Int)<=k
   ·
    have h0':(0:Int)<=k:=by omega
    clear hf1 hf0 x8;go_enter Tryz.func48,Tryz.ntmps48;go_wp2;go_ret;exact ⟨rfl,pO.out⟩
   ·
    have h0':(0:Int)<=k:=by omega
    have h1':k < (g.actors.length:Int):=by omega
    have hf1:=hf1 h0' h1';clear h0 h1;go_enter Tryz.func48,Tryz.ntmps48;go_wp2;go_ret;exact ⟨rfl,pO.out⟩
end
section
variable {w:World} {o:Col} {R K M:Nat} {g:av} {caps:List Int} {r:bH} {hs gv:Nat->List Int} {H:iH} {tv:Nat->wU} {sv:Nat->rT}
theorem YF (g:av)(caps:List Int)(r:bH):jO g caps r=kR (fun t=>mr g caps r (t:Nat)) g.actors.length:=by
 unfold jO kR dY;cases hf:r.failed with
 | some a =>
  have e:(List.range g.actors.length).filter (fun t:Nat=>mr g caps r (t:Int))=[]:=by
   rw [List.filter_eq_nil_iff];intro t ht;have:=List.mem_range.1 ht;unfold mr;rw [if_neg (by omega),hf];simp
  rw [e]
 | none =>
  congr 1
  refine List.filter_congr fun t ht=>?_;have:=List.mem_range.1 ht;unfold mr;rw [if_neg (by omega),hf];rfl
theorem rD (h:fA w o R g caps K r hs gv H tv sv)(hG:BS g caps)(hK:vS g M r.aP)(hN:∀ d,(hs d).length+(r.aP.strs d).length<=100000000000000) :
  Calls Tryz.prog 34 #[.agg (dP g caps H).toArray] w (kr w (jO g caps r)):=by
 have hrd:∀ (j:Nat) w1,Below w.heap.size w w1->Calls Tryz.prog 48 #[.agg (dP g caps H).toArray,.int .i64 (j:Int)] w1 (fq (.bool (mr g caps r (j:Nat))) w1):=fun j w1 hb=>Bj (h.below hb) hG hK hN j;have hm:=h.most.1;obtain ⟨i0,hi,hz0,hz1,hz2⟩:=info_parts bU;have HI:=af hi;rw [YF];obtain ⟨p,hp⟩:∃ p:Nat->Bool,(fun t:Nat=>mr g caps r (t:Int))=p:=⟨_,rfl⟩;have hpj:∀ j:Nat,mr g caps r (j:Int)=p j:=fun j=>by rw [<- hp]
 rw [hp];unfold dP at hrd ⊢;obtain ⟨aa,ac,ae,ec,ai,nc,ao,uc,cv,cc,ta,tc,sa',dz,fl⟩:=H;dsimp only at hrd ⊢;have BG:=af hrd;have HP:=af hpj;clear h hG hK hN hrd hp hpj hi;have lH:=au w (.cells #[.string g.name,.slice aa g.actors.length ac,.slice ae g.edges.length ec,.slice ai g.ins.length nc,.slice ao g.outs.length uc,.slice cv caps.length cc,.slice ta g.actors.length tc,.slice sa' (aR g) dz,.slice (some ⟨fl,0,none⟩) 1 1] 37);have hX:=heap_alloc_new w (.cells #[.string g.name,.slice aa g.actors.length ac,.slice ae g.edges.length ec,.slice ai g.ins.length nc,.slice ao g.outs.length uc,.slice cv caps.length cc,.slice ta g.actors.length tc,.slice sa' (aR g) dz,.slice (some ⟨fl,0,none⟩) 1 1] 37);have pO:=af lH;have HX:=af hX;obtain ⟨x0,x1,x2,x3,x4,x5,x6,x7,x8⟩:=ou hX;clear lH hX;go_enter Tryz.func34,Tryz.ntmps34;go_wp2_with fail;obtain ⟨wA,Rn⟩:∃ x,w.alloc (.cells #[.string g.name,.slice aa g.actors.length ac,.slice ae g.edges.length ec,.slice ai g.ins.length nc,.slice ao g.outs.length uc,.slice cv caps.length cc,.slice ta g.actors.length tc,.slice sa' (aR g) dz,.slice (some ⟨fl,0,none⟩) 1 1] 37)=x:=⟨_,rfl⟩;rw [Rn] at pO HX ⊢;have hAs:wA.heap.size=w.heap.size+1:=by rw [<- Rn];simp
 have HAS:=af hAs;clear Rn hAs;clear x0 x1 x2 x3 x4 x5 x6 x7 x8;obtain ⟨n,hn⟩:∃ x,g.actors.length=x:=⟨_,rfl⟩;rw [hn] at hm HX BG ⊢;have HN:=af hn;clear hn
 go_loopw [3,4] (fun v i wl=>∃ (j:Nat),j<=n/\i=.int .i64 j/\Below wA.heap.size wA wl/\wl.ownsRow wA.heap.size 3 1 v (kR p j).length (bB (kR p j))) (fun _ i _=>n - (intOf i).toNat)
 case atStart=>exact ⟨0,Nat.zero_le _,rfl,Below.refl _ _,World.ownsRow_nil _ _ _ _⟩
 case round =>
  obtain ⟨j,hj,rfl,hbl,hO⟩:=hrel;obtain ⟨sa,sc,rfl⟩:=aA hO;have hlen:=GL p j;obtain ⟨L,GN⟩:∃ L,(kR p j).length=L:=⟨_,rfl⟩;rw [GN] at hO hlen ⊢;have uL:=af GN;have Xb:=(hbl.block _ (block_lt HX.out)).trans HX.out;obtain ⟨x0,x1,x2,x3,x4,x5,x6,x7,x8⟩:=ou Xb;have HB:=af hbl;have HO:=af hO;clear GN hbl hO Xb
  by_cases hlt:j < n
  ·
   have bX:(j:Int) < n:=by omega
   have hrd:=BG.out j _ (pO.out.trans (HB.out.mono pO.out.size));rw [HP.out] at hrd;obtain ⟨z,hz⟩:∃ z,p j=z:=⟨_,rfl⟩;rw [hz] at hrd;have HZ:=af hz;have HR1:=af hrd;clear hrd hz;go_wp2_with fail;refine HR1.out.mono ?_;rintro e w5 ⟨rfl,hb5⟩;have AY:=af (HB.out.trans (hb5.mono HB.out.size));have QO:=eD HO.out (aG.of_below hb5 (fun _=>False)) (fun _ _ h=>h);have HO:=af QO;clear x0 x1 x2 x3 x4 x5 x6 x7 x8;clear hb5 QO;cases z with
   | true =>
    have hgs:kR p (j+1)=kR p j ++ [(j:Int)]:=GK HZ.out;have xY:=af hgs;clear hgs;go_wp2_with (at_builtin;refine aU ?_);refine dR ?_;refine aS rfl _ _ 27 rfl wA.heap.size 3 i0 _ 1 8 Tryz.underlying27 HI.out hz0 hz1 hz2 rfl (.slice sa L sc) L _ rfl (HO.out.alloc _) (some ⟨w5.heap.size,0,none⟩) 1 1 [.int .i64 (j:Int)] rfl rfl (fun h=>by cases h) (oW (w:=w5) (n:=w5.heap.size) rfl [.int .i64 (j:Int)] 3) (by simp [Value.oneCell']) (by unfold maxLen;omega) (bA (by omega)) (by have:=AY.out.size;simp;omega) ?_;intro v7 w7 k1 k20 _ _;have BR:=AY.out.trans (gJ HO.out k20 AY.out.size);have K1:=af k1;clear k1 k20;go_wp2;go_roundw
    case rel=>exact ⟨j+1,hlt,by go_num,BR,by rw [xY.out,List.length_append,uL.out,show bB (kR p j ++ [(j:Int)])=bB (kR p j) ++ [.int .i64 (j:Int)] by simp [bB]];exact K1.out⟩
    case measure=>simp [intOf];omega
   | false =>
    have hgs:kR p (j+1)=kR p j:=Lm HZ.out;have xY:=af hgs;clear hgs;go_wp2;go_roundw
    case rel=>exact ⟨j+1,hlt,by go_num,AY.out,by rw [xY.out,uL.out];exact HO.out⟩
    case measure=>simp [intOf];omega
  ·
   obtain rfl:j=n:=by omega
   go_wp2;go_ret;refine ⟨_,rfl,?_,pO.out.trans (HB.out.mono pO.out.size)⟩;rw [HN.out,uL.out];exact bI HO.out (fun k hk=>by have:=(HO.out.lt k hk).1;have:=HAS.out;omega)
end
theorem lQ (g:av)(caps:List Int)(r:bH)(t:Nat):iG g caps r (t:Int)=eX g caps r t:=by
 unfold iG;rw [if_neg (by omega)];rfl
theorem vM {g:av}{caps:List Int}{r:bH}{n j:Nat}(h:j < n):fM g caps ((List.range n).drop j) r=((fM g caps ((List.range n).drop (j+1)) (eX g caps r j).1).1,(fM g caps ((List.range n).drop (j+1)) (eX g caps r j).1).2+(if (eX g caps r j).2 then 1 else 0)):=by
 rw [List.drop_eq_getElem_cons (by simpa using h)];simp only [List.getElem_range];rfl
theorem tq {g:av}{caps:List Int}{r:bH}{m:Nat}(h:(fM g caps (List.range g.actors.length) r).2=0):bS g caps (m+1) r=((fM g caps (List.range g.actors.length) r).1,0):=by rw [bS,if_pos h]
theorem tu {g:av}{caps:List Int}{r:bH}{m:Nat}(h:(fM g caps (List.range g.actors.length) r).2≠0):bS g caps (m+1) r=((bS g caps m (fM g caps (List.range g.actors.length) r).1).1,(bS g caps m (fM g caps (List.range g.actors.length) r).1).2+(fM g caps (List.range g.actors.length) r).2):=by rw [bS,if_neg h]
theorem Hg {w:World}{o:Col}{R b:Nat}{g:av}{caps:List Int}{M:Nat}{J:Nat->Nat}{qs:bR}{tb:Nat->Nat}{r:bH}{v:bO}(k:Int)(hk0:0 < k)(hk4:k<=4096)(h:fw w o R b g caps M J qs tb r v)(hG:BS g caps)(hM:M<=26000000000000) :
  Calls Tryz.prog 22 #[.pointer (some ⟨b,0,none⟩),.int .i64 k] w (A8 w o R b g caps (M+4096*32) J qs tb (bS g caps (min k 4096).toNat r).1 (.int .i64 (bS g caps (min k 4096).toNat r).2)):=by
 obtain ⟨n,hn⟩:∃ n,g.actors.length=n:=⟨_,rfl⟩;have hn32:n<=32:=by rw [<- hn];exact h.mem.few.1
 obtain ⟨K,hK⟩:∃ K,(min k 4096).toNat=K:=⟨_,rfl⟩;obtain rfl:k=(K:Int):=by omega
 have hK4:K<=4096:=by omega
 obtain ⟨F,hF⟩:∃ F,bS g caps K r=F:=⟨_,rfl⟩;rw [hK,hF];have H:=af h;have HG:=af hG;have HF:=af hF;have HN:=af hn;clear h hG hF hn hK;go_enter Tryz.func22,Tryz.ntmps22;go_wp2_with fail
 go_loopw [5,13] (fun d i wl=>∃ (j D:Nat) (r':bH) (o':Col) (v':bO),j<=K/\i=.int .i64 j/\d=.int .i64 D/\D<=32*j/\Turn o o' (bV R) w wl/\fw wl o' R b g caps (M+32*j) J qs tb r' v'/\(bS g caps (K - j) r').1=F.1/\(bS g caps (K - j) r').2+D=F.2) (fun _ i _=>K - (intOf i).toNat)
 case atStart=>exact ⟨0,0,r,o,v,Nat.zero_le _,rfl,rfl,Nat.zero_le _,Turn.refl _ _ _,H.out,by rw [Nat.sub_zero,HF.out],by rw [Nat.sub_zero,HF.out];rfl⟩
 case round =>
  obtain ⟨j,D,r',o',v',hj,rfl,rfl,hD,T,hR,e1,e2⟩:=hrel;have HT:=af T;have HR:=af hR;have HE:=af (And.intro e1 e2);clear T hR e1 e2
  by_cases hlt:j < K
  ·
   have bX:(j:Int) < (K:Int):=by omega
   have c0:=HR.out.mem.blk.cell 0 _ rfl;change wr.cell? _=some v'.tasks at c0;obtain ⟨ta,tc,u1⟩:=HR.out.mem.tasks.slice;rw [List.length_map,List.length_range,HN.out] at u1;rw [u1] at c0;clear u1;obtain ⟨G,Xc⟩:∃ G,fM g caps (List.range n) r'=G:=⟨_,rfl⟩;have xA:=af Xc;clear Xc;go_wp2_with fail
   go_loopw [5,21] (fun d i wl=>∃ (a c:Nat) (r2:bH) (o2:Col) (v2:bO),a<=n/\i=.int .i64 a/\d=.int .i64 ((D+c:Nat):Int)/\c<=a/\Turn o o2 (bV R) w wl/\fw wl o2 R b g caps (M+32*j+a) J qs tb r2 v2/\(fM g caps ((List.range n).drop a) r2).1=G.1/\(fM g caps ((List.range n).drop a) r2).2+c=G.2) (fun _ i _=>n - (intOf i).toNat)
   case atStart=>exact ⟨0,0,r',o',v',Nat.zero_le _,rfl,rfl,Nat.le_refl _,HT.out,HR.out,by rw [List.drop_zero,xA.out],by rw [List.drop_zero,xA.out];rfl⟩
   case round =>
    obtain ⟨a,c,r2,o2,v2,ha,rfl,rfl,hc,T2,hR2,q1,q2⟩:=hrel;have HT2:=af T2;have HR2:=af hR2;have HQ:=af (And.intro q1 q2);obtain ⟨E,hE⟩:∃ E,D+c=E:=⟨_,rfl⟩;rw [hE];clear T2 hR2 q1 q2
    by_cases hat:a < n
    ·
     have aaw:(a:Int) < (n:Int):=by omega
     have hwr:IntKind.i64.wrap ((E:Int)+1)=(E:Int)+1:=IntWalk.i64_in _ (by omega);have HE2:=af hE;clear hE;go_wp2_with fail;refine (wM (a:Int) HR2.out HG.out (by omega)).mono ?_;rintro e w3 ⟨o3,v3,rfl,T3,R3⟩;rw [lQ] at R3 ⊢;have HT3:=af (HT2.out.trans T3 (fun _ h=>h));have HR3:=af R3;have HD:=af (vM (g:=g) (caps:=caps) (r:=r2) hat);clear T3 R3;cases hz:(eX g caps r2 a).2 with
     | true =>
      have HZ:=af hz;clear hz;go_wp2_with fail;go_roundw
      case rel =>
       obtain ⟨q1,q2⟩:=HQ.out;rw [HD.out,HZ.out] at q1 q2;exact ⟨a+1,c+1,_,o3,v3,hat,by go_num,by rw [<- Nat.add_assoc,HE2.out];go_num,by omega,HT3.out,HR3.out,q1,by simp at q2;omega⟩
      case measure=>simp [intOf];omega
     | false =>
      have HZ:=af hz;clear hz;go_wp2_with fail;go_roundw
      case rel =>
       obtain ⟨q1,q2⟩:=HQ.out;rw [HD.out,HZ.out] at q1 q2;exact ⟨a+1,c,_,o3,v3,hat,by go_num,by rw [HE2.out],by omega,HT3.out,HR3.out,q1,by simp at q2;omega⟩
      case measure=>simp [intOf];omega
    ·
     have han:a=n:=by omega
     have hfin:r2=G.1/\c=G.2:=by
      obtain ⟨q1,q2⟩:=HQ.out;rw [List.drop_eq_nil_of_le (by simp;omega)] at q1 q2;exact ⟨q1,by simpa [fM] using q2⟩
     have eT:=af hfin;have Xd:K - j=(K - (j+1))+1:=by omega
     have Xe:=af Xd;have hni:¬ (a:Int) < (n:Int):=by omega
     have HAN:=af han;clear hfin Xd hat han
     by_cases hc0:c=0
     ·
      have hEq:((E:Int) == (D:Int))=true:=by rw [beq_iff_eq];omega
      have mD:=af (And.intro hc0 hE);clear hc0 hE;go_wp2_with fail;go_ret;obtain ⟨e1,e2⟩:=HE.out;rw [Xe.out,tq (by rw [HN.out,xA.out,<- eT.out.2];exact mD.out.1)] at e1 e2;rw [HN.out,xA.out,<- eT.out.1] at e1;refine ⟨o2,v2,?_,HT2.out,?_⟩
      ·
       have:E=F.2:=by have:=mD.out;simp at e2;omega
       rw [this];rfl
      ·
       rw [<- e1];exact HR2.out.mono (by omega)
     ·
      have hEq:((E:Int) == (D:Int))=false:=by rw [beq_eq_false_iff_ne];omega
      have mD:=af (And.intro hc0 hE);clear hc0 hE;go_wp2_with fail;go_roundw
      case rel =>
       obtain ⟨e1,e2⟩:=HE.out;rw [Xe.out,tu (by rw [HN.out,xA.out,<- eT.out.2];exact mD.out.1),HN.out,xA.out,<- eT.out.1,<- eT.out.2] at e1 e2;exact ⟨j+1,E,r2,o2,v2,hlt,by go_num,rfl,by have:=mD.out.2;omega,HT2.out,HR2.out.mono (by omega),e1,by have:=mD.out.2;dsimp only at e2;omega⟩
      case measure=>simp [intOf];omega
  ·
   obtain rfl:j=K:=by omega
   go_wp2;go_ret;obtain ⟨e1,e2⟩:=HE.out;rw [Nat.sub_self] at e1 e2;refine ⟨o',v',?_,HT.out,?_⟩
   ·
    have:D=F.2:=by rw [<- e2];show D=0+D;omega
    rw [this];rfl
   ·
    rw [<- e1];exact HR.out.mono (by omega)
theorem Ho {w:World}{o:Col}{R b:Nat}{g:av}{caps:List Int}{M:Nat}{J:Nat->Nat}{qs:bR}{tb:Nat->Nat}{r:bH}{v:bO}(k:Int)(hk:4096 < k)(h:fw w o R b g caps M J qs tb r v)(hG:BS g caps)(hM:M<=26000000000000) :
  Calls Tryz.prog 22 #[.pointer (some ⟨b,0,none⟩),.int .i64 k] w (A8 w o R b g caps (M+4096*32) J qs tb (bS g caps 4096 r).1 (.int .i64 (bS g caps 4096 r).2)):=by
 obtain ⟨n,hn⟩:∃ n,g.actors.length=n:=⟨_,rfl⟩;have hn32:n<=32:=by rw [<- hn];exact h.mem.few.1
 obtain ⟨F,hF⟩:∃ F,bS g caps 4096 r=F:=⟨_,rfl⟩;rw [hF];have H:=af h;have HG:=af hG;have HF:=af hF;have HN:=af hn;clear h hG hF hn;go_enter Tryz.func22,Tryz.ntmps22;go_wp2_with fail
 go_loopw [5,13] (fun d i wl=>∃ (j D:Nat) (r':bH) (o':Col) (v':bO),j<=4096/\i=.int .i64 j/\d=.int .i64 D/\D<=32*j/\Turn o o' (bV R) w wl/\fw wl o' R b g caps (M+32*j) J qs tb r' v'/\(bS g caps (4096 - j) r').1=F.1/\(bS g caps (4096 - j) r').2+D=F.2) (fun _ i _=>4096 - (intOf i).toNat)
 case atStart=>exact ⟨0,0,r,o,v,Nat.zero_le _,rfl,rfl,Nat.zero_le _,Turn.refl _ _ _,H.out,by rw [Nat.sub_zero,HF.out],by rw [Nat.sub_zero,HF.out];rfl⟩
 case round =>
  obtain ⟨j,D,r',o',v',hj,rfl,rfl,hD,T,hR,e1,e2⟩:=hrel;have HT:=af T;have HR:=af hR;have HE:=af (And.intro e1 e2);clear T hR e1 e2
  by_cases hlt:j < 4096
  ·
   have bX:(j:Int) < (4096:Int):=by omega
   have c0:=HR.out.mem.blk.cell 0 _ rfl;change wr.cell? _=some v'.tasks at c0;obtain ⟨ta,tc,u1⟩:=HR.out.mem.tasks.slice;rw [List.length_map,List.length_range,HN.out] at u1;rw [u1] at c0;clear u1;obtain ⟨G,Xc⟩:∃ G,fM g caps (List.range n) r'=G:=⟨_,rfl⟩;have xA:=af Xc;clear Xc;go_wp2_with fail
   go_loopw [5,21] (fun d i wl=>∃ (a c:Nat) (r2:bH) (o2:Col) (v2:bO),a<=n/\i=.int .i64 a/\d=.int .i64 ((D+c:Nat):Int)/\c<=a/\Turn o o2 (bV R) w wl/\fw wl o2 R b g caps (M+32*j+a) J qs tb r2 v2/\(fM g caps ((List.range n).drop a) r2).1=G.1/\(fM g caps ((List.range n).drop a) r2).2+c=G.2) (fun _ i _=>n - (intOf i).toNat)
   case atStart=>exact ⟨0,0,r',o',v',Nat.zero_le _,rfl,rfl,Nat.le_refl _,HT.out,HR.out,by rw [List.drop_zero,xA.out],by rw [List.drop_zero,xA.out];rfl⟩
   case round =>
    obtain ⟨a,c,r2,o2,v2,ha,rfl,rfl,hc,T2,hR2,q1,q2⟩:=hrel;have HT2:=af T2;have HR2:=af hR2;have HQ:=af (And.intro q1 q2);obtain ⟨E,hE⟩:∃ E,D+c=E:=⟨_,rfl⟩;rw [hE];clear T2 hR2 q1 q2
    by_cases hat:a < n
    ·
     have aaw:(a:Int) < (n:Int):=by omega
     have hwr:IntKind.i64.wrap ((E:Int)+1)=(E:Int)+1:=IntWalk.i64_in _ (by omega);have HE2:=af hE;clear hE;go_wp2_with fail;refine (wM (a:Int) HR2.out HG.out (by omega)).mono ?_;rintro e w3 ⟨o3,v3,rfl,T3,R3⟩;rw [lQ] at R3 ⊢;have HT3:=af (HT2.out.trans T3 (fun _ h=>h));have HR3:=af R3;have HD:=af (vM (g:=g) (caps:=caps) (r:=r2) hat);clear T3 R3;cases hz:(eX g caps r2 a).2 with
     | true =>
      have HZ:=af hz;clear hz;go_wp2_with fail;go_roundw
      case rel =>
       obtain ⟨q1,q2⟩:=HQ.out;rw [HD.out,HZ.out] at q1 q2;exact ⟨a+1,c+1,_,o3,v3,hat,by go_num,by rw [<- Nat.add_assoc,HE2.out];go_num,by omega,HT3.out,HR3.out,q1,by simp at q2;omega⟩
      case measure=>simp [intOf];omega
     | false =>
      have HZ:=af hz;clear hz;go_wp2_with fail;go_roundw
      case rel =>
       obtain ⟨q1,q2⟩:=HQ.out;rw [HD.out,HZ.out] at q1 q2;exact ⟨a+1,c,_,o3,v3,hat,by go_num,by rw [HE2.out],by omega,HT3.out,HR3.out,q1,by simp at q2;omega⟩
      case measure=>simp [intOf];omega
    ·
     have han:a=n:=by omega
     have hfin:r2=G.1/\c=G.2:=by
      obtain ⟨q1,q2⟩:=HQ.out;rw [List.drop_eq_nil_of_le (by simp;omega)] at q1 q2;exact ⟨q1,by simpa [fM] using q2⟩
     have eT:=af hfin;have Xd:4096 - j=(4096 - (j+1))+1:=by omega
     have Xe:=af Xd;have hni:¬ (a:Int) < (n:Int):=by omega
     have HAN:=af han;clear hfin Xd hat han
     by_cases hc0:c=0
     ·
      have hEq:((E:Int) == (D:Int))=true:=by rw [beq_iff_eq];omega
      have mD:=af (And.intro hc0 hE);clear hc0 hE;go_wp2_with fail;go_ret;obtain ⟨e1,e2⟩:=HE.out;rw [Xe.out,tq (by rw [HN.out,xA.out,<- eT.out.2];exact mD.out.1)] at e1 e2;rw [HN.out,xA.out,<- eT.out.1] at e1;refine ⟨o2,v2,?_,HT2.out,?_⟩
      ·
       have:E=F.2:=by have:=mD.out;simp at e2;omega
       rw [this];rfl
      ·
       rw [<- e1];exact HR2.out.mono (by omega)
     ·
      have hEq:((E:Int) == (D:Int))=false:=by rw [beq_eq_false_iff_ne];omega
      have mD:=af (And.intro hc0 hE);clear hc0 hE;go_wp2_with fail;go_roundw
      case rel =>
       obtain ⟨e1,e2⟩:=HE.out;rw [Xe.out,tu (by rw [HN.out,xA.out,<- eT.out.2];exact mD.out.1),HN.out,xA.out,<- eT.out.1,<- eT.out.2] at e1 e2;exact ⟨j+1,E,r2,o2,v2,hlt,by go_num,rfl,by have:=mD.out.2;omega,HT2.out,HR2.out.mono (by omega),e1,by have:=mD.out.2;dsimp only at e2;omega⟩
      case measure=>simp [intOf];omega
  ·
   obtain rfl:j=4096:=by omega
   go_wp2;go_ret;obtain ⟨e1,e2⟩:=HE.out;rw [Nat.sub_self] at e1 e2;refine ⟨o',v',?_,HT.out,?_⟩
   ·
    have:D=F.2:=by rw [<- e2];show D=0+D;omega
    rw [this];rfl
   ·
    rw [<- e1];exact HR.out.mono (by omega)
theorem EL {w:World}{o:Col}{R b:Nat}{g:av}{caps:List Int}{M:Nat}{J:Nat->Nat}{qs:bR}{tb:Nat->Nat}{r:bH}{v:bO}(k:Int)(hk:k<=0)(h:fw w o R b g caps M J qs tb r v) :
  Calls Tryz.prog 22 #[.pointer (some ⟨b,0,none⟩),.int .i64 k] w (A8 w o R b g caps (M+4096*32) J qs tb r (.int .i64 0)):=by
 have H:=af h;have hk4:¬ 4096 < k:=by omega
 have hk0:¬ 0 < k:=by omega
 clear h;go_enter Tryz.func22,Tryz.ntmps22;go_wp2_with fail
 go_loopw [5,13] (fun d i wl=>i=.int .i64 0/\d=.int .i64 0/\wl=w) (fun _ _ _=>0)
 case atStart=>exact ⟨rfl,rfl,rfl⟩
 case round =>
  obtain ⟨rfl,rfl,rfl⟩:=hrel;go_wp2_with fail;go_ret;exact ⟨o,v,rfl,Turn.refl _ _ _,H.out.mono (by omega)⟩
theorem Bl {w:World}{o:Col}{R b:Nat}{g:av}{caps:List Int}{M:Nat}{J:Nat->Nat}{qs:bR}{tb:Nat->Nat}{r:bH}{v:bO}(k:Int)(h:fw w o R b g caps M J qs tb r v)(hG:BS g caps)(hM:M<=26000000000000) :
  Calls Tryz.prog 22 #[.pointer (some ⟨b,0,none⟩),.int .i64 k] w (A8 w o R b g caps (M+4096*32) J qs tb (bS g caps (min k 4096).toNat r).1 (.int .i64 (bS g caps (min k 4096).toNat r).2)):=by
 by_cases h0:k<=0
 ·
  have e:(min k 4096).toNat=0:=by omega
  rw [e];exact EL k h0 h
 ·
  by_cases h4:4096 < k
  ·
   have e:(min k 4096).toNat=4096:=by omega
   rw [e];exact Ho k h4 h hG hM
  ·
   exact Hg k (by omega) (by omega) h hG hM
def yA (g:av)(r:bH)(k:Int):List Int:=if 0<=k/\k < g.outs.length then Yh g r.aP k.toNat else []
theorem Dp (w:World):kr w [] (.returned (.slice none 0 0)) w:=⟨_,rfl,World.ownsRow_nil w w.heap.size 3 1,Below.refl _ _⟩
theorem Ht {w:World}{o:Col}{R b:Nat}{g:av}{caps:List Int}{N:Nat->Nat}{qs:bR}{r:bH}{v:bO}(k:Int)(h:fU w o R b g caps N qs r v)(hl:∀ d,g.edges.length+g.ins.length<=d->(r.aP.strs d).length<=27000000000000):Calls Tryz.prog 25 #[.pointer (some ⟨b,0,none⟩),.int .i64 k] w (kr w (yA g r k)):=by
 have hb:=h.blk;unfold jC at hb;have c3:=hb.cell 3 _ rfl;change w.cell? _=some v.tapes at c3;obtain ⟨ta,tc,e1⟩:=h.tapes.slice;rw [List.length_map,List.length_range] at e1;rw [e1] at c3;obtain ⟨n,hn⟩:∃ n,g.outs.length=n:=⟨_,rfl⟩;rw [hn] at c3;unfold yA;rw [hn]
 by_cases h0:k < 0
 ·
  rw [if_neg (by omega)];clear h hb e1 hn hl;go_enter Tryz.func25,Tryz.ntmps25;go_wp2_with fail;go_ret;exact Dp w
 ·
  by_cases h1:k < n
  ·
   rw [if_pos (by omega)];obtain ⟨t,rfl⟩:∃ t:Nat,k=t:=⟨k.toNat,by omega⟩;have ht:t < g.outs.length:=by omega
   obtain ⟨gt,ft,ct,u1,u2,u3,-⟩:=om h.tapes (k:=t) (by simpa using ht);simp only [List.length_map,List.length_range,List.getElem_map,List.getElem_range] at u1 u2 u3;rw [e1,hn] at u1;simp only [Value.slice.injEq] at u1;obtain ⟨rfl,-,rfl⟩:=u1;rw [hn] at u2;have Vr:(n:Int)<=tc:=by omega
   have hti:¬ (n:Int)<=(t:Int):=by omega
   obtain ⟨k1,k2⟩:=h.tape (g.edges.length+g.ins.length+t) (by omega) (by omega);obtain ⟨q,hq⟩:∃ q,qs (g.edges.length+g.ins.length+t)=q:=⟨_,rfl⟩;rw [hq] at u3 k1;change w.cell? _=some (.pointer (some ⟨q,0,none⟩)) at u3;rw [Int.toNat_natCast];change Calls _ _ _ _ (kr w (r.aP.strs (g.edges.length+g.ins.length+t)));have hn2:=hl (g.edges.length+g.ins.length+t) (by omega);obtain ⟨l,hle⟩:∃ l,r.aP.strs (g.edges.length+g.ins.length+t)=l:=⟨_,rfl⟩;rw [hle] at k2 hn2 ⊢;have d0:=k1.cell 0 _ rfl;change w.cell? _=some (v.rows _) at d0;have hI:Ints w o _ _ l:=k2.vals;obtain ⟨ao,cap,e2⟩:=k2.slice;rw [e2] at d0 hI;obtain ⟨hnone,hnews⟩:=hI.news;obtain ⟨i0,hi,hz0,hz1,hz2⟩:=info_parts bU;have HN:=af hn2;have su:=af hnone;have wu:=af hnews;have T1:=Turn.of_below o 0 (au w (.cells #[] 3));have c3':=T1.cell c3 (fun h=>h);have u3':=T1.cell u3 (fun h=>h);have d0':=T1.cell d0 (fun h=>h);clear h hb e1 hn hl u2 k1 k2 e2 hI hnone hnews hle hn2 hq T1;go_enter Tryz.func25,Tryz.ntmps25;have hown0:=World.ownsRow_made (e:=3) (size:=1) (base:=w.heap.size) w #[] 0 (Nat.le_refl _) (Nat.zero_le _) rfl;go_wp2_with (at_builtin;refine aS rfl _ _ 27 rfl w.heap.size 3 i0 _ 1 8 Tryz.underlying27 hi hz0 hz1 hz2 rfl (.slice (some ⟨w.heap.size,0,none⟩) 0 0) 0 [] rfl hown0 ao l.length cap (bB l) rfl (by simp) su.out (fun ad had j u hu=>ca (wu.out ad had j u hu)) (mX l) (by have:=HN.out;unfold maxLen;omega) (bA (by have:=HN.out;omega)) (by simp) ?_;refine aU ?_);refine dR ?_;intro v' w2 g1 g20 g3 g4;have g2:(w.alloc (.cells #[] 3)).grownBy w2 (Value.slice (some ⟨w.heap.size,0,none⟩) 0 0).ownBlock:=g20;have hb:Below w.heap.size w w2:=(((aG.refl (fun _=>False) w).alloc (.cells #[] 3)).grown g2 (fun k hk hlt=>by have:=Option.some.inj hk;simp at this;omega)).below (Nat.le_refl _) (fun _ _ h=>h)
   try simp only [Nat.zero_add,List.nil_append] at g1
   have Ox:=af g1;have HB:=af hb;clear g20 g2 g3 g4 hown0 g1 hb;go_wp2;go_ret;exact ⟨v',rfl,Ox.out,HB.out⟩
  ·
   rw [if_neg (by omega)];have hti:(n:Int)<=k:=by omega
   clear h hb e1 hn hl;go_enter Tryz.func25,Tryz.ntmps25;go_wp2_with fail;go_ret;exact Dp w
def pG (g:av)(r:bH):List Int:=(List.range g.edges.length).map fun d=>((r.aP.strs d).length:Int)
def pI (g:av)(r:bH):List Int:=(List.range g.actors.length).map fun t=>((r.aP.tasks t).whole:Int)
theorem rE (f:Nat->Int)(j:Nat):bB ((List.range (j+1)).map f)=bB ((List.range j).map f) ++ [.int .i64 (f j)]:=by
 rw [List.range_succ,List.map_append];simp [bB]
theorem J8 {w:World}{o:Col}{R b:Nat}{g:av}{caps:List Int}{N:Nat->Nat}{qs:bR}{r:bH}{v:bO}(h:fU w o R b g caps N qs r v):Calls Tryz.prog 39 #[.pointer (some ⟨b,0,none⟩)] w (kr w (pI g r)):=by
 have hb:=h.blk;unfold jC at hb;have c0:=hb.cell 0 _ rfl;change w.cell? _=some v.tasks at c0;obtain ⟨ta,tc,e1⟩:=h.tasks.slice;rw [List.length_map,List.length_range] at e1;rw [e1] at c0;obtain ⟨n,hn⟩:∃ n,g.actors.length=n:=⟨_,rfl⟩;rw [hn] at c0;have hn32:n<=32:=by rw [<- hn];exact h.few.1
 obtain ⟨i0,hi,hz0,hz1,hz2⟩:=info_parts bU;have HI:=af hi;obtain ⟨f,hf⟩:∃ f:Nat->Int,(fun t=>((r.aP.tasks t).whole:Int))=f:=⟨_,rfl⟩;have HF:=af hf;have pE:pI g r=(List.range n).map f:=by unfold pI;rw [hn,hf]
 have Nf:=af pE;have HN:=af hn;have H:=af h;have HE:=af e1;clear h pE e1 hn hb hi hf;go_enter Tryz.func39,Tryz.ntmps39;go_wp2_with fail
 go_loopw [3,13] (fun v i wl=>∃ (j:Nat),j<=n/\i=.int .i64 j/\Below w.heap.size w wl/\wl.ownsRow w.heap.size 3 1 v j (bB ((List.range j).map f))) (fun _ i _=>n - (intOf i).toNat)
 case atStart=>exact ⟨0,Nat.zero_le _,rfl,Below.refl _ _,World.ownsRow_nil w w.heap.size 3 1⟩
 case round =>
  obtain ⟨j,hj,rfl,hbl,hO⟩:=hrel;obtain ⟨sa,sc,rfl⟩:=aA hO
  by_cases hlt:j < n
  ·
   have bX:(j:Int) < n:=by omega
   have Zm:j < g.actors.length:=by have:=HN.out;omega
   obtain ⟨gt,ft,ct,u1,u2,u3,JN⟩:=om H.out.tasks (k:=j) (by simpa using Zm);simp only [List.length_map,List.length_range,List.getElem_map,List.getElem_range] at u1 u2 u3;rw [HE.out,HN.out] at u1;simp only [Value.slice.injEq] at u1;obtain ⟨rfl,-,rfl⟩:=u1;rw [HN.out] at u2;have Vr:(n:Int)<=tc:=by omega
   have hT:=H.out.task j Zm;obtain ⟨tb,htb⟩:∃ x,v.tb j=x:=⟨_,rfl⟩;rw [htb] at u3 hT;have d9:=hT.blk.cell 9 (.int .i64 (f j)) (by rw [<- HF.out];simp [iX]);have d3:=cell_later hbl u3;have d9:=cell_later hbl d9;unfold gG at d3;have HB:=af hbl;have HO:=af hO;obtain ⟨X,hX⟩:∃ x,f j=x:=⟨_,rfl⟩;rw [hX] at d9;have HX:=af hX;clear hbl hO u3 JN u2 hT htb hX;go_wp2_with (at_builtin;refine aU ?_);refine dR ?_;refine aS rfl _ _ 27 rfl w.heap.size 3 i0 _ 1 8 Tryz.underlying27 HI.out hz0 hz1 hz2 rfl (.slice sa j sc) j _ rfl (HO.out.alloc _) (some ⟨wr.heap.size,0,none⟩) 1 1 [.int .i64 X] rfl rfl (fun h=>by cases h) (oW (w:=wr) (n:=wr.heap.size) rfl [.int .i64 X] 3) (by simp [Value.oneCell']) (by unfold maxLen;omega) (bA (by omega)) (by have:=HB.out.size;simp;omega) ?_;intro v7 w7 k1 k20 _ _;have BR:=HB.out.trans (gJ HO.out k20 HB.out.size);rw [<- HX.out,<- rE] at k1;have K1:=af k1;clear k1 k20;go_wp2;go_roundw
   case rel=>exact ⟨j+1,hlt,by go_num,BR,K1.out⟩
   case measure=>simp [intOf];omega
  ·
   obtain rfl:j=n:=by omega
   have HO:=af hO;have HB:=af hbl;clear hO hbl;go_wp2;go_ret;refine ⟨_,rfl,?_,HB.out⟩;rw [Nf.out,List.length_map,List.length_range];exact HO.out
theorem J9 {w:World}{o:Col}{R b:Nat}{g:av}{caps:List Int}{N:Nat->Nat}{qs:bR}{r:bH}{v:bO}(h:fU w o R b g caps N qs r v)(hNN:∀ d,N d<=27000000000000):Calls Tryz.prog 37 #[.pointer (some ⟨b,0,none⟩)] w (kr w (pG g r)):=by
 have hb:=h.blk;unfold jC at hb;have c1:=hb.cell 1 _ rfl;change w.cell? _=some v.edges at c1;obtain ⟨ta,tc,e1⟩:=h.edges.slice;rw [List.length_map,List.length_range] at e1;rw [e1] at c1;obtain ⟨n,hn⟩:∃ n,g.edges.length=n:=⟨_,rfl⟩;rw [hn] at c1;have acB:n<=96:=by rw [<- hn];exact h.few.2.1
 obtain ⟨i0,hi,hz0,hz1,hz2⟩:=info_parts bU;have HI:=af hi;have pE:pG g r=(List.range n).map fun d=>((r.aP.strs d).length:Int):=by unfold pG;rw [hn]
 obtain ⟨f,hf⟩:∃ f:Nat->Int,(fun d=>((r.aP.strs d).length:Int))=f:=⟨_,rfl⟩;rw [hf] at pE;have HF:=af hf;have Nf:=af pE;have HN:=af hn;have H:=af h;have HE:=af e1;have Bh:=af hNN;clear h pE e1 hn hb hi hf hNN;go_enter Tryz.func37,Tryz.ntmps37;go_wp2_with fail
 go_loopw [3,13] (fun v i wl=>∃ (j:Nat),j<=n/\i=.int .i64 j/\Below w.heap.size w wl/\wl.ownsRow w.heap.size 3 1 v j (bB ((List.range j).map f))) (fun _ i _=>n - (intOf i).toNat)
 case atStart=>exact ⟨0,Nat.zero_le _,rfl,Below.refl _ _,World.ownsRow_nil w w.heap.size 3 1⟩
 case round =>
  obtain ⟨j,hj,rfl,hbl,hO⟩:=hrel;obtain ⟨sa,sc,rfl⟩:=aA hO
  by_cases hlt:j < n
  ·
   have bX:(j:Int) < n:=by omega
   have Zm:j < g.edges.length:=by have:=HN.out;omega
   obtain ⟨gt,ft,ct,u1,u2,u3,JN⟩:=om H.out.edges (k:=j) (by simpa using Zm);simp only [List.length_map,List.length_range,List.getElem_map,List.getElem_range] at u1 u2 u3;rw [HE.out,HN.out] at u1;simp only [Value.slice.injEq] at u1;obtain ⟨rfl,-,rfl⟩:=u1;rw [HN.out] at u2;have Vr:(n:Int)<=tc:=by omega
   obtain ⟨qb,VQ⟩:∃ x,qs j=x:=⟨_,rfl⟩;have hQ:=H.out.queue j (by omega);rw [VQ] at u3 hQ;have d3:=cell_later hbl u3;unfold gG at d3;have hby:=au wr (.cells #[.pointer (some ⟨qb,0,none⟩)] 73);have YG:=hbl.trans (hby.mono hbl.size);have lD:=hQ.below YG;obtain ⟨rr,Xf,-,-⟩:=lD;have hln:=Bh.out j;have HIQ:=af Xf;have HB:=af YG;have HO:=af (hO.alloc (.cells #[.pointer (some ⟨qb,0,none⟩)] 73));have HLN:=af hln;clear hbl hO u3 JN u2 hQ VQ hby YG Xf hln;go_wp2_with fail;obtain ⟨wy,vE⟩:∃ x,wr.alloc (.cells #[.pointer (some ⟨qb,0,none⟩)] 73)=x:=⟨_,rfl⟩;rw [vE] at HIQ HB HO ⊢;clear vE d3;refine (QD HIQ.out HLN.out).mono ?_;rintro e w5 ⟨rfl,m,rfl⟩;have hfj:((r.aP.strs j).length:Int)=f j:=by rw [<- HF.out]
   rw [hfj];clear hfj;obtain ⟨X,hX⟩:∃ x,f j=x:=⟨_,rfl⟩;rw [hX];have HX:=af hX;clear hX;replace HB:=af (cK (n:=m) HB.out);replace HO:=af (show (wy.drewN m).ownsRow w.heap.size 3 1 (.slice sa j sc) j (bB ((List.range j).map f)) from HO.out);go_wp2_with (at_builtin;refine aU ?_);refine dR ?_;refine aS rfl _ _ 27 rfl w.heap.size 3 i0 _ 1 8 Tryz.underlying27 HI.out hz0 hz1 hz2 rfl (.slice sa j sc) j _ rfl (HO.out.alloc _) (some ⟨wy.heap.size,0,none⟩) 1 1 [.int .i64 X] rfl rfl (fun h=>by cases h) (oW (w:=wy.drewN m) (n:=wy.heap.size) rfl [.int .i64 X] 3) (by simp [Value.oneCell']) (by unfold maxLen;omega) (bA (by omega)) (by have:=HB.out.size;simp at this ⊢;omega) ?_;intro v7 w7 k1 k20 _ _;have BR:=HB.out.trans (gJ HO.out k20 HB.out.size);rw [<- HX.out,<- rE] at k1;have K1:=af k1;clear k1 k20;go_wp2;go_roundw
   case rel=>exact ⟨j+1,hlt,by go_num,BR,K1.out⟩
   case measure=>simp [intOf];omega
  ·
   obtain rfl:j=n:=by omega
   have HO:=af hO;have HB:=af hbl;clear hO hbl;go_wp2;go_ret;refine ⟨_,rfl,?_,HB.out⟩;rw [Nf.out,List.length_map,List.length_range];exact HO.out
section
variable {w:World} {o:Col} {R K M:Nat} {g:av} {caps:List Int} {r:bH} {hs gv:Nat->List Int} {H:iH} {tv:Nat->wU} {sv:Nat->rT}
theorem NJ (h:fA w o R g caps K r hs gv H tv sv)(hG:BS g caps)(hK:vS g M r.aP)(hN:∀ d,(hs d).length+(r.aP.strs d).length<=100000000000000) :
  Calls Tryz.prog 35 #[.agg (dP g caps H).toArray] w (fq (.int .u8 (uS g caps r)) w):=by
 have hrd:∀ w1,Below w.heap.size w w1->Calls Tryz.prog 34 #[.agg (dP g caps H).toArray] w1 (kr w1 (jO g caps r)):=fun w1 hb=>rD (h.below hb) hG hK hN;have hf0:=h.fail.cell 0 _ rfl;unfold dP at hrd ⊢;obtain ⟨aa,ac,ae,ec,ai,nc,ao,uc,cv,cc,ta,tc,sa',dz,fl⟩:=H;change w.cell? ⟨fl,0,none⟩=some (.int .i64 (iK r)) at hf0;dsimp only at hrd ⊢;obtain ⟨F,hF⟩:∃ x,uS g caps r=x:=⟨_,rfl⟩;rw [hF];have HF:=af hF;have BG:=af hrd;clear h hG hK hN hrd hF;have lH:=au w (.cells #[.string g.name,.slice aa g.actors.length ac,.slice ae g.edges.length ec,.slice ai g.ins.length nc,.slice ao g.outs.length uc,.slice cv caps.length cc,.slice ta g.actors.length tc,.slice sa' (aR g) dz,.slice (some ⟨fl,0,none⟩) 1 1] 37);have hX:=heap_alloc_new w (.cells #[.string g.name,.slice aa g.actors.length ac,.slice ae g.edges.length ec,.slice ai g.ins.length nc,.slice ao g.outs.length uc,.slice cv caps.length cc,.slice ta g.actors.length tc,.slice sa' (aR g) dz,.slice (some ⟨fl,0,none⟩) 1 1] 37);have pO:=af lH;obtain ⟨x0,x1,x2,x3,x4,x5,x6,x7,x8⟩:=ou hX;replace hf0:=cell_later lH hf0;clear lH hX;cases hfl:r.failed with
 | some t =>
  have hF:=HF.out;unfold uS at hF;rw [hfl,if_pos (by simp)] at hF;subst hF;rw [show iK r=(t:Int) by unfold iK;rw [hfl]] at hf0;have ht0:(0:Int)<=(t:Int):=by omega
  go_enter Tryz.func35,Tryz.ntmps35;go_wp2;go_ret;exact ⟨rfl,pO.out⟩
 | none =>
  rw [show iK r = -1 by unfold iK;rw [hfl]] at hf0;have hm1:¬ (0:Int)<=(-1:Int):=by omega
  go_enter Tryz.func35,Tryz.ntmps35;go_wp2_with fail;refine (BG.out _ pO.out).mono ?_;rintro e w2 ⟨v,rfl,hO,hb⟩;obtain ⟨sa,sc,rfl⟩:=aA hO;have HB:=af (pO.out.trans (hb.mono pO.out.size));have hF:=HF.out;unfold uS at hF;rw [hfl,if_neg (by simp)] at hF;clear x0 x1 x2 x3 x4 x5 x6 x7 x8;clear hO hb hf0
  by_cases hn:dY g caps r=[]
  ·
   rw [if_pos hn] at hF;subst hF;have hl:(jO g caps r).length=0:=by unfold jO;rw [hn];rfl
   rw [hl];clear hl hn;go_wp2;go_ret;exact ⟨rfl,HB.out⟩
  ·
   rw [if_neg hn] at hF;subst hF;obtain ⟨L,hL⟩:∃ x,(jO g caps r).length=x:=⟨_,rfl⟩;have hl:¬ L=0:=fun e=>hn (by unfold jO at hL;rw [List.length_map] at hL;exact List.eq_nil_of_length_eq_zero (hL.trans e));have E9:¬ (L:Int)=0:=by omega
   have hlb:((L:Int) == 0)=false:=by rw [beq_eq_false_iff_ne];exact E9
   rw [hL];clear hL hn;go_wp2;go_ret;exact ⟨rfl,HB.out⟩
theorem Ka (h:fA w o R g caps K r hs gv H tv sv):Calls Tryz.prog 40 #[.agg (dP g caps H).toArray] w (kr w (pI g r)):=by
 have hm:=h.most.1;obtain ⟨i0,hi,hz0,hz1,hz2⟩:=info_parts bU;have HI:=af hi;unfold dP;obtain ⟨aa,ac,ae,ec,ai,nc,ao,uc,cv,cc,ta,tc,sa',dz,fl⟩:=H;dsimp only;have H1:=af h;clear h hi;have lH:=au w (.cells #[.string g.name,.slice aa g.actors.length ac,.slice ae g.edges.length ec,.slice ai g.ins.length nc,.slice ao g.outs.length uc,.slice cv caps.length cc,.slice ta g.actors.length tc,.slice sa' (aR g) dz,.slice (some ⟨fl,0,none⟩) 1 1] 37);have hX:=heap_alloc_new w (.cells #[.string g.name,.slice aa g.actors.length ac,.slice ae g.edges.length ec,.slice ai g.ins.length nc,.slice ao g.outs.length uc,.slice cv caps.length cc,.slice ta g.actors.length tc,.slice sa' (aR g) dz,.slice (some ⟨fl,0,none⟩) 1 1] 37);have pO:=af lH;have HX:=af hX;obtain ⟨x0,x1,x2,x3,x4,x5,x6,x7,x8⟩:=ou hX;clear lH hX;obtain ⟨f,hf⟩:∃ f:Nat->Int,(fun t=>((r.aP.tasks t).whole:Int))=f:=⟨_,rfl⟩;have hfj:∀ t,((r.aP.tasks t).whole:Int)=f t:=fun t=>by rw [<- hf]
 have HFF:=af hfj;have pE:pI g r=(List.range g.actors.length).map f:=by unfold pI;rw [hf]
 clear hf hfj;go_enter Tryz.func40,Tryz.ntmps40;go_wp2_with fail;obtain ⟨wA,Rn⟩:∃ x,w.alloc (.cells #[.string g.name,.slice aa g.actors.length ac,.slice ae g.edges.length ec,.slice ai g.ins.length nc,.slice ao g.outs.length uc,.slice cv caps.length cc,.slice ta g.actors.length tc,.slice sa' (aR g) dz,.slice (some ⟨fl,0,none⟩) 1 1] 37)=x:=⟨_,rfl⟩;rw [Rn] at pO HX ⊢;have hAs:wA.heap.size=w.heap.size+1:=by rw [<- Rn];simp
 have HAS:=af hAs;clear Rn hAs;clear x0 x1 x2 x3 x4 x5 x6 x7 x8;obtain ⟨n,hn⟩:∃ x,g.actors.length=x:=⟨_,rfl⟩;rw [hn] at hm HX pE ⊢;have Nf:=af pE;have HN:=af hn;clear hn pE
 go_loopw [3,4] (fun v i wl=>∃ (j:Nat),j<=n/\i=.int .i64 j/\Below wA.heap.size wA wl/\wl.ownsRow wA.heap.size 3 1 v j (bB ((List.range j).map f))) (fun _ i _=>n - (intOf i).toNat)
 case atStart=>exact ⟨0,Nat.zero_le _,rfl,Below.refl _ _,World.ownsRow_nil _ _ _ _⟩
 case round =>
  obtain ⟨j,hj,rfl,hbl,hO⟩:=hrel;obtain ⟨sa,sc,rfl⟩:=aA hO;have Xb:=(hbl.block _ (block_lt HX.out)).trans HX.out;obtain ⟨x0,x1,x2,x3,x4,x5,x6,x7,x8⟩:=ou Xb;have HB:=af hbl;have HO:=af hO;clear hbl hO Xb
  by_cases hlt:j < n
  case neg =>
   obtain rfl:j=n:=by omega
   go_wp2;go_ret;refine ⟨_,rfl,?_,pO.out.trans (HB.out.mono pO.out.size)⟩;rw [Nf.out,List.length_map,List.length_range];exact bI HO.out (fun k hk=>by have:=(HO.out.lt k hk).1;have:=HAS.out;omega)
  case pos =>
   have bX:(j:Int) < n:=by omega
   obtain ⟨tg,oF,htc,-,-,-,hcl⟩:=H1.out.pF (t:=j) (by rw [HN.out];exact hlt);dsimp only at oF htc;subst oF;rw [HN.out] at htc;have pK:=cell_later (pO.out.trans (HB.out.mono pO.out.size)) (hcl 11 _ (by omega) rfl);have VN:(n:Int)<=tc:=by omega
   obtain ⟨y,hy⟩:∃ y:Nat,(r.aP.tasks j).whole=y:=⟨_,rfl⟩;have HFJ:Hid (f j=(y:Int)):=af (by rw [<- HFF.out j,hy]);rw [hy] at pK;clear hcl hy htc;go_wp2_with (at_builtin;refine aU ?_);refine dR ?_;refine aS rfl _ _ 27 rfl wA.heap.size 3 i0 _ 1 8 Tryz.underlying27 HI.out hz0 hz1 hz2 rfl (.slice sa j sc) j _ rfl (HO.out.alloc _) (some ⟨wr.heap.size,0,none⟩) 1 1 [.int .i64 (y)] rfl rfl (fun h=>by cases h) (oW (w:=wr) (n:=wr.heap.size) rfl [.int .i64 (y)] 3) (by simp [Value.oneCell']) (by unfold maxLen;omega) (bA (by omega)) (by have:=HB.out.size;simp;omega) ?_;intro v7 w7 k1 k20 _ _;have BR:=HB.out.trans (gJ HO.out k20 HB.out.size);have K1:=af k1;clear k1 k20;go_wp2;go_roundw
   case rel=>exact ⟨j+1,hlt,by go_num,BR,by rw [rE,HFJ.out];exact K1.out⟩
   case measure=>simp [intOf];omega
theorem Kb (h:fA w o R g caps K r hs gv H tv sv)(hc:caps.length=g.edges.length)(hN:∀ d,(hs d).length+(r.aP.strs d).length<=100000000000000):Calls Tryz.prog 38 #[.agg (dP g caps H).toArray] w (kr w (pG g r)):=by
 have hm:=h.most.2;have hm2:caps.length<=aR g:=by unfold aR;omega
 obtain ⟨i0,hi,hz0,hz1,hz2⟩:=info_parts bU;have HI:=af hi;unfold dP;obtain ⟨aa,ac,ae,ec,ai,nc,ao,uc,cv,cc,ta,tc,sa',dz,fl⟩:=H;dsimp only;have H1:=af h;clear h hi;have lH:=au w (.cells #[.string g.name,.slice aa g.actors.length ac,.slice ae g.edges.length ec,.slice ai g.ins.length nc,.slice ao g.outs.length uc,.slice cv caps.length cc,.slice ta g.actors.length tc,.slice sa' (aR g) dz,.slice (some ⟨fl,0,none⟩) 1 1] 37);have hX:=heap_alloc_new w (.cells #[.string g.name,.slice aa g.actors.length ac,.slice ae g.edges.length ec,.slice ai g.ins.length nc,.slice ao g.outs.length uc,.slice cv caps.length cc,.slice ta g.actors.length tc,.slice sa' (aR g) dz,.slice (some ⟨fl,0,none⟩) 1 1] 37);have pO:=af lH;have HX:=af hX;obtain ⟨x0,x1,x2,x3,x4,x5,x6,x7,x8⟩:=ou hX;clear lH hX;obtain ⟨f,hf⟩:∃ f:Nat->Int,(fun d=>((r.aP.strs d).length:Int))=f:=⟨_,rfl⟩;have hfj:∀ t,((r.aP.strs t).length:Int)=f t:=fun t=>by rw [<- hf]
 have HFF:=af hfj;have Bh:=af hN;have pE:pG g r=(List.range caps.length).map f:=by unfold pG;rw [hf,hc]
 clear hf hfj hN hc;go_enter Tryz.func38,Tryz.ntmps38;go_wp2_with fail;obtain ⟨wA,Rn⟩:∃ x,w.alloc (.cells #[.string g.name,.slice aa g.actors.length ac,.slice ae g.edges.length ec,.slice ai g.ins.length nc,.slice ao g.outs.length uc,.slice cv caps.length cc,.slice ta g.actors.length tc,.slice sa' (aR g) dz,.slice (some ⟨fl,0,none⟩) 1 1] 37)=x:=⟨_,rfl⟩;rw [Rn] at pO HX ⊢;have hAs:wA.heap.size=w.heap.size+1:=by rw [<- Rn];simp
 have HAS:=af hAs;clear Rn hAs;clear x0 x1 x2 x3 x4 x5 x6 x7 x8;obtain ⟨n,hn⟩:∃ x,caps.length=x:=⟨_,rfl⟩;rw [hn] at hm2 HX pE ⊢;have Nf:=af pE;have HN:=af hn;clear hn pE
 go_loopw [3,4] (fun v i wl=>∃ (j:Nat),j<=n/\i=.int .i64 j/\Below wA.heap.size wA wl/\wl.ownsRow wA.heap.size 3 1 v j (bB ((List.range j).map f))) (fun _ i _=>n - (intOf i).toNat)
 case atStart=>exact ⟨0,Nat.zero_le _,rfl,Below.refl _ _,World.ownsRow_nil _ _ _ _⟩
 case round =>
  obtain ⟨j,hj,rfl,hbl,hO⟩:=hrel;obtain ⟨sa,sc,rfl⟩:=aA hO;have Xb:=(hbl.block _ (block_lt HX.out)).trans HX.out;obtain ⟨x0,x1,x2,x3,x4,x5,x6,x7,x8⟩:=ou Xb;have HB:=af hbl;have HO:=af hO;clear hbl hO Xb
  by_cases hlt:j < n
  case neg =>
   obtain rfl:j=n:=by omega
   go_wp2;go_ret;refine ⟨_,rfl,?_,pO.out.trans (HB.out.mono pO.out.size)⟩;rw [Nf.out,List.length_map,List.length_range];exact bI HO.out (fun k hk=>by have:=(HO.out.lt k hk).1;have:=HAS.out;omega)
  case pos =>
   have bX:(j:Int) < n:=by omega
   obtain ⟨sg,hsa,hsc,-,-,-,s0,s1⟩:=H1.out.sW (d:=j) (by omega);dsimp only at hsa hsc;subst hsa;have hds:=H1.out.yw (d:=j) (by omega);have hnn:=Bh.out j;unfold rT.v at s0;obtain ⟨zz,hzz⟩:∃ x,sv j=x:=⟨_,rfl⟩;rw [hzz] at s0 hds;clear hzz;obtain ⟨za,zl,zc⟩:=zz;dsimp only at s0 hds;obtain ⟨Gn,hGn⟩:∃ x,(hs j).length=x:=⟨_,rfl⟩;obtain ⟨Ln,hLn⟩:∃ x,(r.aP.strs j).length=x:=⟨_,rfl⟩;rw [hGn] at s1 hds hnn;rw [hLn] at hds hnn;have HFJ:Hid (f j=((zl - Gn:Nat):Int)):=af (by rw [<- HFF.out j,hLn];congr 1;omega);have hbz:=pO.out.trans (HB.out.mono pO.out.size);have z1:=cell_later hbz s0;have z2:=cell_later hbz s1;have hji:(j:Int) < aR g:=by omega
   have VO:(aR g:Int)<=dz:=by omega
   have Ox:Hid (Gn<=zl/\zl<=100000000000000):=af (by omega);clear hsc hds hnn hGn hLn s0 s1 hbz;go_wp2_with fail;refine (Bg _ za zl zc Gn Ox.out.1 (Nat.le_trans Ox.out.2 (by decide))).mono ?_;rintro e w5 ⟨rfl,hb5⟩;have QO:=eD HO.out (aG.of_below hb5 (fun _=>False)) (fun _ _ h=>h);replace HB:=af (HB.out.trans (hb5.mono HB.out.size));replace HO:=af QO;obtain ⟨y,hy⟩:∃ y,zl - Gn=y:=⟨_,rfl⟩;rw [hy] at HFJ ⊢;clear x0 x1 x2 x3 x4 x5 x6 x7 x8;clear hb5 QO hy z1 z2;go_wp2_with (at_builtin;refine aU ?_);refine dR ?_;refine aS rfl _ _ 27 rfl wA.heap.size 3 i0 _ 1 8 Tryz.underlying27 HI.out hz0 hz1 hz2 rfl (.slice sa j sc) j _ rfl (HO.out.alloc _) (some ⟨w5.heap.size,0,none⟩) 1 1 [.int .i64 (y)] rfl rfl (fun h=>by cases h) (oW (w:=w5) (n:=w5.heap.size) rfl [.int .i64 (y)] 3) (by simp [Value.oneCell']) (by unfold maxLen;omega) (bA (by omega)) (by have:=HB.out.size;simp;omega) ?_;intro v7 w7 k1 k20 _ _;have BR:=HB.out.trans (gJ HO.out k20 HB.out.size);have K1:=af k1;clear k1 k20;go_wp2;go_roundw
   case rel=>exact ⟨j+1,hlt,by go_num,BR,by rw [rE,HFJ.out];exact K1.out⟩
   case measure=>simp [intOf];omega
end
def Dq (g:av)(i:Nat)(l:List Int)(r:bH):bH:=⟨⟨r.aP.tasks,upd r.aP.strs (g.edges.length+i) (r.aP.strs (g.edges.length+i) ++ l)⟩,r.failed⟩
def VR (w:World)(o:Col)(R b:Nat)(g:av)(caps:List Int)(M:Nat)(J:Nat->Nat)(qs:bR)(tb:Nat->Nat)(r:bH)(i:Nat)(l:List Int)(v:bO)(e:Ending)(w':World):Prop :=
 ∃ o',e=.returned (.int .i64 0)/\Turn o o' (bV R) w w'/\fw w' o' R b g caps M (upd J i (J i+l.length)) qs tb (Dq g i l r) v
theorem fw.fed {w w':World}{o o':Col}{R b i:Nat}{g:av}{caps:List Int}{M:Nat}{J:Nat->Nat}{qs:bR}{tb:Nat->Nat}{r:bH}{v:bO}{l:List Int}(h:fw w o R b g caps M J qs tb r v)(hi:i < g.ins.length)(hf:∀ x∈l,Fits x)(hJ:J i+l.length < 27000000000000)
  (T:Turn o o' (fun x=>x=R+4000+(g.edges.length+i)) w w') (hQ:xw w' o' (R+4000+(g.edges.length+i)) (qs (g.edges.length+i)) (oK caps (g.edges.length+i)) (r.aP.strs (g.edges.length+i) ++ l) (J i+l.length)) :
  fw w' o' R b g caps M (upd J i (J i+l.length)) qs tb (Dq g i l r) v:=by
 obtain ⟨f1,f2,f3,f4⟩:=h.mem.few;have m:=h.mem;refine ⟨⟨m.blk.turn T (by omega),m.tasks.turn T (by omega),m.edges.turn T (by omega),m.inputs.turn T (by omega),m.tapes.turn T (by omega),fun t ht=>(m.task t ht).turn T (fun c hc hm=>by unfold dG at hm;omega),fun d hd=>?_,fun d hd hd2=>?_,m.few⟩,⟨h.ok.task,fun d z hz=>?_⟩,fun d=>?_,fun k=>?_,h.tbs⟩
 ·
  show xw w' o' (R+4000+d) (qs d) (oK caps d) (upd r.aP.strs (g.edges.length+i) (r.aP.strs (g.edges.length+i) ++ l) d) _
  by_cases e:d=g.edges.length+i
  ·
   subst e;rw [upd_same,wL hi,upd_same];exact hQ
  ·
   rw [aO e];have hb:jg g M (upd J i (J i+l.length)) d=jg g M J d:=by
    unfold jg
    split
    ·
     rw [aO (by omega)]
    ·
     rfl
   rw [hb];exact (m.queue d hd).turn T (by omega)
 ·
  show dZ _ _ _ _ _ _/\Own _ _ _ _ _ _ (upd r.aP.strs (g.edges.length+i) (r.aP.strs (g.edges.length+i) ++ l) d).length (bB (upd r.aP.strs (g.edges.length+i) (r.aP.strs (g.edges.length+i) ++ l) d))
  rw [aO (by omega)];obtain ⟨k1,k2⟩:=m.tape d hd hd2;exact ⟨k1.turn T (by omega),k2.turn T (by omega)⟩
 ·
  change z∈upd r.aP.strs (g.edges.length+i) (r.aP.strs (g.edges.length+i) ++ l) d at hz
  by_cases e:d=g.edges.length+i
  ·
   subst e;rw [upd_same] at hz
   rcases List.mem_append.1 hz with hz | hz
   ·
    exact h.ok.fits _ z hz
   ·
    exact hf z hz
  ·
   rw [aO e] at hz;exact h.ok.fits d z hz
 ·
  show (upd r.aP.strs (g.edges.length+i) (r.aP.strs (g.edges.length+i) ++ l) d).length<=_
  by_cases e:d=g.edges.length+i
  ·
   subst e;have:=h.len (g.edges.length+i);rw [wL hi] at this;rw [upd_same,wL hi,upd_same,List.length_append];omega
  ·
   rw [aO e];have hb:jg g M (upd J i (J i+l.length)) d=jg g M J d:=by
    unfold jg
    split
    ·
     rw [aO (by omega)]
    ·
     rfl
   rw [hb];exact h.len d
 ·
  by_cases e:k=i
  ·
   subst e;rw [upd_same];exact hJ
  ·
   rw [aO e];exact h.ins k
theorem Ro {w:World}{o:Col}{R b:Nat}{g:av}{caps:List Int}{N:Nat->Nat}{qs:bR}{r:bH}{v:bO}(h:fU w o R b g caps N qs r v)(k:Int)(sl:Value)(hk:¬ (0<=k/\k < g.ins.length)):Calls Tryz.prog 31 #[.pointer (some ⟨b,0,none⟩),.int .i64 k,sl] w (pW (.int .i64 1) w):=by
 have hb:=h.blk;unfold jC at hb;have c2:=hb.cell 2 _ rfl;change w.cell? _=some v.inputs at c2;obtain ⟨ta,tc,e1⟩:=h.inputs.slice;rw [List.length_map,List.length_range] at e1;rw [e1] at c2;obtain ⟨n,hn⟩:∃ n,g.ins.length=n:=⟨_,rfl⟩;rw [hn] at c2 hk;clear h hb e1 hn
 by_cases h0:k < 0
 ·
  go_enter Tryz.func31,Tryz.ntmps31;go_wp2;go_ret;exact ⟨rfl,rfl⟩
 ·
  have h1:(n:Int)<=k:=by omega
  clear hk;go_enter Tryz.func31,Tryz.ntmps31;go_wp2;go_ret;exact ⟨rfl,rfl⟩
theorem Rp {w:World}{o:Col}{R b c i:Nat}{g:av}{caps:List Int}{M:Nat}{J:Nat->Nat}{qs:bR}{tb:Nat->Nat}{r:bH}{v:bO}{ao:Option Addr}{n cap:Nat}{l:List Int}(h:fw w o R b g caps M J qs tb r v)(hG:BS g caps)(hi:i < g.ins.length)(hl:Ints w o c (.slice ao n cap) l)(hc:¬ bV R c)(hf:∀ x∈l,Fits x)(hJ:J i+l.length < 27000000000000) :
  Calls Tryz.prog 31 #[.pointer (some ⟨b,0,none⟩),.int .i64 (i:Int),.slice ao n cap] w (VR w o R b g caps M J qs tb r i l v):=by
 obtain rfl:n=l.length:=Ints.len hl;have hb:=h.mem.blk;unfold jC at hb;have c2:=hb.cell 2 _ rfl;change w.cell? _=some v.inputs at c2;obtain ⟨tg,ft,ct,u1,u2,u3⟩:=uj h.mem.inputs (k:=i) (by simpa using hi);simp only [List.length_map,List.length_range,List.getElem_map,List.getElem_range] at u1 u2 u3;rw [u1] at c2;obtain ⟨qb,VQ⟩:∃ x,qs (g.edges.length+i)=x:=⟨_,rfl⟩;rw [VQ] at u3;unfold gG at u3;obtain ⟨nI,NK⟩:∃ x,g.ins.length=x:=⟨_,rfl⟩;rw [NK] at c2 u2;have abI:i < nI:=by omega
 have q1:¬ (i:Int) < 0:=by omega
 have q2:¬ (nI:Int)<=i:=by omega
 have q3:(i:Int) < nI:=by omega
 have q4:(nI:Int)<=ct:=by omega
 have hQ:=h.mem.queue (g.edges.length+i) (by omega);rw [wL hi,VQ] at hQ;have hlen:=h.len (g.edges.length+i);rw [wL hi] at hlen;have hcd:oK caps (g.edges.length+i)=9223372036854775807:=by
  unfold oK;rw [List.getElem?_eq_none (by have:=hG.caps;omega)];rfl
 obtain ⟨A,hA⟩:∃ x,r.aP.strs (g.edges.length+i)=x:=⟨_,rfl⟩;obtain ⟨N,hN⟩:∃ x,J i=x:=⟨_,rfl⟩;rw [hA,hN] at hQ hlen;have hki:=And.intro hb.2 (And.intro h.mem.inputs h.mem.few);have HQ:=af (show xw w o (R+4000+(g.edges.length+i)) qb (oK caps (g.edges.length+i)) (A ++ l.take 0) (N+0) by simpa using hQ);have HS:=af (And.intro hA (And.intro hN (And.intro VQ (And.intro hcd hlen))));have H:=af h;have HB:=af hb;have HL:=af hl;have HC:=af hc;have YH:=af hf;have HI:=af hi;have HU:=af u1;have HJ:=af hJ;have hlm:l.length<=27000000000000:=by omega
 obtain ⟨f1,f2,f3,f4⟩:=h.mem.few;have HFW:=af (And.intro f2 f3);clear h hG hb hl hc hf hi hQ hA hN VQ hcd hlen u1 NK hJ hki f1 f2 f3 f4 abI u2;go_enter Tryz.func31,Tryz.ntmps31;go_wp2_with fail
 go_loopw [24] (fun x wl=>∃ (j:Nat) (q:Col),j<=l.length/\x=.int .i64 j/\Turn o q (fun k=>k=R+4000+(g.edges.length+i)) w wl/\xw wl q (R+4000+(g.edges.length+i)) qb (oK caps (g.edges.length+i)) (A ++ l.take j) (N+j)) (fun x _=>l.length - (intOf x).toNat)
 case atStart=>exact ⟨0,o,Nat.zero_le _,rfl,Turn.refl _ _ _,HQ.out⟩
 case round =>
  obtain ⟨j,q,hj,rfl,T,hQ⟩:=hrel;have HT:=af T;have HQj:=af hQ;clear T hQ
  by_cases hlt:j < l.length
  ·
   have bX:(j:Int) < l.length:=by omega
   obtain ⟨lb,lo,rfl,-,hcp,-,-,hcl⟩:=Ints.at (HL.out.turn HT.out (fun e=>HC.out (by unfold bV;have:=HFW.out;have:=HI.out;omega))) (by omega);have PD:(l.length:Int)<=cap:=by omega
   have cj:=hcl j hlt;rw [List.getElem?_eq_getElem hlt] at cj;change wr.cell? _=some (iv l[j]) at cj;obtain ⟨p,hp⟩:∃ p,l[j]=p:=⟨_,rfl⟩;rw [hp] at cj;have HP:=af hp;have c2j:=(HB.out.turn HT.out (by omega)).cell 2 _ rfl;change wr.cell? _=some v.inputs at c2j;rw [HU.out] at c2j;obtain ⟨-,-,-,hcd,hlen⟩:=HS.out;have u3j:wr.cell? ⟨tg,ft+i,none⟩=some (.pointer (some ⟨qb,0,none⟩)):=by
    obtain ⟨tg',ft',ct',v1,v2,v3⟩:=uj (H.out.mem.inputs.turn HT.out (by have:=HFW.out;omega)) (k:=i) (by simpa using HI.out);rw [HU.out] at v1;simp only [Value.slice.injEq,Option.some.injEq,Addr.mk.injEq] at v1;obtain ⟨⟨rfl,rfl,-⟩,-,-⟩:=v1;simp only [List.getElem_map,List.getElem_range] at v3;rw [HS.out.2.2.1] at v3;exact v3
   clear hcl hp hcp;have hbk:=HB.out.turn HT.out (by omega);have hgl:(((A ++ l.take j).length:Nat):Int) < oK caps (g.edges.length+i):=by
    rw [hcd,List.length_append,List.length_take];have:=HJ.out;have:=HS.out.2.1;omega
   have hNj:N+j < 27000000000000:=by have:=HJ.out;have:=HS.out.2.1;omega
   have HGL:=af hgl;have HNJ:=af hNj;clear hcd hlen hgl hNj hbk;go_wp2_with fail;refine (CZ p HQj.out HNJ.out HGL.out).mono ?_;rintro e w1 ⟨q1,rfl,T1,Q1⟩;have HT1:=af (HT.out.trans T1 (fun _ h=>h));have oF:A ++ l.take j ++ [p]=A ++ l.take (j+1):=by
    rw [List.append_assoc,List.take_succ_eq_append_getElem hlt,HP.out]
   rw [oF] at Q1;have HQ1:=af Q1;clear T1 Q1 oF c2j u3j cj;go_wp2;go_roundw
   case rel=>exact ⟨j+1,_,hlt,by go_num,HT1.out,HQ1.out⟩
   case measure=>simp [intOf];omega
  ·
   obtain rfl:j=l.length:=by omega
   have bX:¬ ((l.length:Int) < l.length):=by omega
   go_wp2_with fail;go_ret;obtain ⟨hA,hN,VQ,hcd,hlen⟩:=HS.out;have hQ:=HQj.out;rw [List.take_length,<- hA,<- hN,<- VQ] at hQ;exact ⟨q,rfl,HT.out.mono (fun c hc=>by unfold bV;have:=HFW.out;have:=HI.out;omega),H.out.fed HI.out YH.out HJ.out HT.out hQ⟩
def eu (R c:Nat):Prop:=R<=c/\c < R+2200
def tC (R c:Nat):Prop:=R<=c/\c < R+2100
def Bn (w:World)(o:Col)(R:Nat)(g:av)(caps:List Int)(K:Nat)(H:iH)(r':bH)(y:Value)(e:Ending)(w':World):Prop :=
 ∃ o' hs' SF tv' Py,e=.returned y/\Turn o o' (eu R) w w'/\fA w' o' R g caps K r' hs' SF H tv' Py
theorem dQ {w:World}(q:Col)(c:Nat)(cs:Array Value)(t:TypeId):dZ (w.alloc (.cells cs t)) (ext q w.heap.size c) c w.heap.size t cs:=⟨heap_alloc_new w _,dI (Nat.le_refl _)⟩
def EM (w:World)(l:List Int)(e:Ending)(w':World):Prop:=∃ v,e=.returned v/\Has w' v (bB l)/\Below w.heap.size w w'
theorem wV {R k:Nat}(h:k < 2200)(c:Nat)(e:c=R+k):eu R c:=by unfold eu;omega
theorem Dr {R k:Nat}(h:k < 2100)(c:Nat)(e:c=R+k):tC R c:=by unfold tC;omega
theorem tC.y {R:Nat}(c:Nat)(h:tC R c):eu R c:=⟨h.1,by have:=h.2;omega⟩
section
variable {w:World} {o:Col} {R K M:Nat} {g:av} {caps:List Int} {r:bH} {hs gv:Nat->List Int} {H:iH} {tv:Nat->wU} {sv:Nat->rT}
theorem NM (h:fA w o R g caps K r hs gv H tv sv)(hc:caps.length=g.edges.length)(k:Int) :
  Calls Tryz.prog 36 #[.agg (dP g caps H).toArray,.int .i64 k] w (EM w (yA g r k)):=by
 have hm:g.edges.length+g.ins.length+g.outs.length<=128:=h.most.2;unfold dP;obtain ⟨aa,ac,ae,ec,ai,nc,ao,uc,cv,cc,ta,tc,sa',dz,fl⟩:=H;dsimp only;have H1:=af h;clear h;have lH:=au w (.cells #[.string g.name,.slice aa g.actors.length ac,.slice ae g.edges.length ec,.slice ai g.ins.length nc,.slice ao g.outs.length uc,.slice cv caps.length cc,.slice ta g.actors.length tc,.slice sa' (aR g) dz,.slice (some ⟨fl,0,none⟩) 1 1] 37);have hX:=heap_alloc_new w (.cells #[.string g.name,.slice aa g.actors.length ac,.slice ae g.edges.length ec,.slice ai g.ins.length nc,.slice ao g.outs.length uc,.slice cv caps.length cc,.slice ta g.actors.length tc,.slice sa' (aR g) dz,.slice (some ⟨fl,0,none⟩) 1 1] 37);have pO:=af lH;obtain ⟨x0,x1,x2,x3,x4,x5,x6,x7,x8⟩:=ou hX
 by_cases hin:0<=k/\k < (g.outs.length:Int)
 ·
  obtain ⟨i,rfl⟩:∃ i:Nat,k=i:=⟨k.toNat,by omega⟩;have hd:g.edges.length+g.ins.length+i < aR g:=by unfold aR;omega
  obtain ⟨sg,hsa,hsc,-,-,-,s0,-⟩:=H1.out.sW hd;dsimp only at hsa hsc;subst hsa;have hall:=H1.out.all _ hd;rw [H1.out.tape _ (by omega),List.nil_append] at hall;have e:yA g r (i:Int)=r.aP.strs (g.edges.length+g.ins.length+i):=by
   unfold yA;rw [if_pos hin];rfl
  rw [e];obtain ⟨d,hde⟩:∃ d,g.edges.length+g.ins.length+i=d:=⟨_,rfl⟩;rw [hde] at hd s0 hall ⊢;have s0:=cell_later lH s0;have HV:Hid (Has _ (sv d).v _):=af hall.vals.has;unfold rT.v at s0 HV;have hi0:¬ (i:Int) < 0:=by omega
  have hi1:¬ (i:Int)>=g.outs.length:=by omega
  have hi2:¬ g.outs.length<=i:=by omega
  have hdi:(d:Int) < aR g:=by omega
  have VO:(aR g:Int)<=dz:=by omega
  obtain ⟨y,hy⟩:∃ y,caps.length+g.ins.length=y:=⟨_,rfl⟩;have hyd:y+i=d:=by omega
  obtain ⟨hw1,hw2⟩:=pq (a:=caps.length) (b:=g.ins.length) (by omega);obtain ⟨hw3,hw4⟩:=pq (a:=y) (b:=i) (by omega);rw [hyd] at hw3 hw4;rw [hy] at hw1 hw2;clear hyd;clear hX lH hin e hde hd hall hy hsc hc hm;go_enter Tryz.func36,Tryz.ntmps36;go_wp2;go_ret;exact ⟨_,rfl,HV.out.below pO.out,pO.out⟩
 ·
  have e:yA g r k=[]:=by unfold yA;rw [if_neg hin]
  rw [e];have HN:Hid (EM w [] (.returned (.slice none 0 0)) (w.alloc (.cells #[.string g.name,.slice aa g.actors.length ac,.slice ae g.edges.length ec,.slice ai g.ins.length nc,.slice ao g.outs.length uc,.slice cv caps.length cc,.slice ta g.actors.length tc,.slice sa' (aR g) dz,.slice (some ⟨fl,0,none⟩) 1 1] 37))):=af ⟨_,rfl,.inl ⟨rfl,none,0,rfl⟩,lH⟩;clear hX lH e hc hm
  by_cases h0:k < 0
  ·
   clear hin;go_enter Tryz.func36,Tryz.ntmps36;go_wp2;go_ret;exact HN.out
  ·
   have h1:(g.outs.length:Int)<=k:=by omega
   have h0':(0:Int)<=k:=by omega
   clear hin h0;go_enter Tryz.func36,Tryz.ntmps36;go_wp2;go_ret;exact HN.out
theorem NN (w:World)(g:av)(caps:List Int)(H:iH)(k:Int)(sl:Value)(hk:¬ (0<=k/\k < (g.ins.length:Int))) :
  Calls Tryz.prog 32 #[.agg (dP g caps H).toArray,.int .i64 k,sl] w (fq (.int .i64 1) w):=by
 unfold dP;obtain ⟨aa,ac,ae,ec,ai,nc,ao,uc,cv,cc,ta,tc,sa',dz,fl⟩:=H;dsimp only;have lH:=au w (.cells #[.string g.name,.slice aa g.actors.length ac,.slice ae g.edges.length ec,.slice ai g.ins.length nc,.slice ao g.outs.length uc,.slice cv caps.length cc,.slice ta g.actors.length tc,.slice sa' (aR g) dz,.slice (some ⟨fl,0,none⟩) 1 1] 37);have hX:=heap_alloc_new w (.cells #[.string g.name,.slice aa g.actors.length ac,.slice ae g.edges.length ec,.slice ai g.ins.length nc,.slice ao g.outs.length uc,.slice cv caps.length cc,.slice ta g.actors.length tc,.slice sa' (aR g) dz,.slice (some ⟨fl,0,none⟩) 1 1] 37);have pO:=af lH;obtain ⟨x0,x1,x2,x3,x4,x5,x6,x7,x8⟩:=ou hX;clear hX lH
 by_cases h0:k < 0
 ·
  clear hk;go_enter Tryz.func32,Tryz.ntmps32;go_wp2;go_ret;exact ⟨rfl,pO.out⟩
 ·
  have h1:(g.ins.length:Int)<=k:=by omega
  have h0':(0:Int)<=k:=by omega
  clear hk h0;go_enter Tryz.func32,Tryz.ntmps32;go_wp2;go_ret;exact ⟨rfl,pO.out⟩
theorem NP {c i:Nat}{aq:Option Addr}{n cap:Nat}{l:List Int}(h:fA w o R g caps K r hs gv H tv sv)(hc:caps.length=g.edges.length)(hi:i < g.ins.length)(hl:Ints w o c (.slice aq n cap) l)
  (hn:∀ d,(hs d).length+(r.aP.strs d).length+l.length<=17000000000000) :
  Calls Tryz.prog 32 #[.agg (dP g caps H).toArray,.int .i64 (i:Int),.slice aq n cap] w (Bn w o R g caps K H (Dq g i l r) (.int .i64 0)):=by
 have hm:g.edges.length+g.ins.length+g.outs.length<=128:=h.most.2;obtain rfl:n=l.length:=Ints.len hl;obtain ⟨i0,hif,hz0,hz1,hz2⟩:=info_parts bU;have HI:=af hif;obtain ⟨aa,ac,ae,ec,ai,nc,ao,uc,cv,cc,ta,tc,sa',dz,fl⟩:=H;obtain ⟨d,hde⟩:∃ d,g.edges.length+i=d:=⟨_,rfl⟩;have hd:d < aR g:=by unfold aR;omega
 have hcd:caps.length+i=d:=by omega
 obtain ⟨sg,hsa,hsc,hsg,hfz,-,s0,-⟩:=h.sW hd;dsimp only at hsa hsc;subst hsa;have hall:=h.all d hd;have hrd:=h.yw hd;have hnn:=hn d;obtain ⟨hw1,hw2⟩:=pq (a:=caps.length) (b:=i) (by omega);rw [hcd] at hw1 hw2;have e9:Dq g i l r=⟨⟨r.aP.tasks,upd r.aP.strs d (r.aP.strs d ++ l)⟩,r.failed⟩:=by unfold Dq;rw [hde]
 rw [e9];have hdi:(d:Int) < aR g:=Int.ofNat_lt.2 hd;have VO:(aR g:Int)<=dz:=Int.ofNat_le.2 hsc;have hi0:¬ (i:Int) < 0:=Int.not_lt.2 (Int.natCast_nonneg i);have hi1:¬ (i:Int)>=g.ins.length:=Int.not_le.2 (Int.ofNat_lt.2 hi);have hi2:¬ g.ins.length<=i:=Nat.not_le.2 hi;unfold rT.v at s0 hall;obtain ⟨zz,hzz⟩:∃ x,sv d=x:=⟨_,rfl⟩;rw [hzz] at s0 hall hrd;clear hzz;obtain ⟨za,zl,zc⟩:=zz;dsimp only at s0 hall hrd;obtain ⟨hnone,hnews⟩:=hl.news;unfold dP;dsimp only;have lH:=au w (.cells #[.string g.name,.slice aa g.actors.length ac,.slice ae g.edges.length ec,.slice ai g.ins.length nc,.slice ao g.outs.length uc,.slice cv caps.length cc,.slice ta g.actors.length tc,.slice (some ⟨sg,0,none⟩) (aR g) dz,.slice (some ⟨fl,0,none⟩) 1 1] 37);have hX:=heap_alloc_new w (.cells #[.string g.name,.slice aa g.actors.length ac,.slice ae g.edges.length ec,.slice ai g.ins.length nc,.slice ao g.outs.length uc,.slice cv caps.length cc,.slice ta g.actors.length tc,.slice (some ⟨sg,0,none⟩) (aR g) dz,.slice (some ⟨fl,0,none⟩) 1 1] 37);have T1:=Turn.of_below o (R+2000) lH;have H1:=af (h.turn T1 (fun _ h=>h.elim));have Oz:=af (hall.turn T1 (fun h=>h));have qG:=af (T1.mono (D:=eu R) (fun _ h=>h.elim));have Bh:=af hnn;have BG:=af hrd;have Gq:=af hd;have oO:=af hnone;have u7:=af hnews;have HL:=af (hl.turn T1 (fun h=>h));replace s0:=cell_later lH s0;obtain ⟨x0,x1,x2,x3,x4,x5,x6,x7,x8⟩:=ou hX;have HXB:=af (dQ (w:=w) o (R+2000) #[.string g.name,.slice aa g.actors.length ac,.slice ae g.edges.length ec,.slice ai g.ins.length nc,.slice ao g.outs.length uc,.slice cv caps.length cc,.slice ta g.actors.length tc,.slice (some ⟨sg,0,none⟩) (aR g) dz,.slice (some ⟨fl,0,none⟩) 1 1] 37);clear h hall lH hX T1 hnn hrd hd hnone hnews hn hcd hde e9 hm hc hsc hl hi hif hsg hfz;generalize ext o w.heap.size (R+2000)=o1 at *;go_enter Tryz.func32,Tryz.ntmps32;go_wp2_with fail;refine cB (fun w'=>w'.cell? ⟨w.heap.size,7,none⟩=some (.slice (some ⟨sg,0,none⟩) (aR g) dz)/\w'.cell? ⟨sg,d*2,none⟩=some (.slice za zl zc)) [0,1,2,3,4,5,6,7,8,10] [9,11] [0,1,2,3,4,5,6,7,8,10] 5 (by kernel_rfl) (by kernel_rfl) rfl ⟨x7,s0⟩ ?_;intro Q' hQ' lD;simp only [pk];refine aD ?_;refine ax ?_;have T0:=(Turn.refl o1 (fun _=>False) (w.alloc (.cells #[.string g.name,.slice aa g.actors.length ac,.slice ae g.edges.length ec,.slice ai g.ins.length nc,.slice ao g.outs.length uc,.slice cv caps.length cc,.slice ta g.actors.length tc,.slice (some ⟨sg,0,none⟩) (aR g) dz,.slice (some ⟨fl,0,none⟩) 1 1] 37))).drew;replace H1:=af (H1.out.turn T0 (fun _ h=>h.elim));replace Oz:=af (Oz.out.turn T0 (fun h=>h));replace HL:=af (HL.out.turn T0 (fun h=>h));replace qG:=af (qG.out.trans T0 (fun _ h=>h.elim));replace HXB:=af (HXB.out.turn T0 (fun h=>h));replace s0:=T0.cell s0 (fun h=>h);obtain ⟨wd,hwd⟩:∃ x,(w.alloc (.cells #[.string g.name,.slice aa g.actors.length ac,.slice ae g.edges.length ec,.slice ai g.ins.length nc,.slice ao g.outs.length uc,.slice cv caps.length cc,.slice ta g.actors.length tc,.slice (some ⟨sg,0,none⟩) (aR g) dz,.slice (some ⟨fl,0,none⟩) 1 1] 37)).drew=x:=⟨_,rfl⟩;rw [hwd] at H1 Oz HL qG HXB s0 ⊢;clear T0 hwd lD x0 x1 x2 x3 x4 x5 x6 x7 x8;refine aB (i:=9) (by kernel_rfl) ?_;simp only [pk];go_wp2_with fail;refine (gW (o:=o1) (c:=R+10+d) _ za zl zc (hs d ++ r.aP.strs d) Oz.out.vals (by rw [List.length_append];have:=Bh.out;omega)).mono ?_;rintro e w5 ⟨v9,rfl,K9,EN⟩;obtain ⟨sp9,cp9,rfl⟩:=aA K9;have T9:=Turn.of_below o1 (R+10+d) EN;have HO9:=af (bT.JB (Own.made o1 (R+10+d) K9));have YI:=af ((HL.out.turn T9 (fun h=>h)).news);replace H1:=af (H1.out.turn T9 (fun _ h=>h.elim));replace qG:=af (qG.out.trans T9 (fun _ h=>h.elim));replace HXB:=af (HXB.out.turn T9 (fun h=>h));replace s0:=T9.cell s0 (fun h=>h);generalize ext o1 wd.heap.size (R+10+d)=o5 at *;obtain ⟨L,hL⟩:∃ x,(hs d ++ r.aP.strs d).length=x:=⟨_,rfl⟩;rw [hL] at HO9 ⊢;have uL:=af hL;clear T9 EN K9 hL Oz HL;go_wp2_with fail;refine ⟨by intros;exact ⟨HXB.out.cell 7 _ rfl,s0⟩,?_⟩;refine aB (i:=11) (by kernel_rfl) ?_;simp only [pk];go_wp2_with (at_builtin;refine aU ?_);refine dR ?_;refine nZ rfl _ _ 27 rfl o5 (R+10+d) 3 i0 _ 8 Tryz.underlying27 HI.out hz0 hz1 hz2 rfl (.slice sp9 L cp9) (bB (hs d ++ r.aP.strs d)) rfl HO9.out aq l.length cap (bB l) rfl (aX l) YI.out.1 YI.out.2 (mX l) (by rw [aX,uL.out];have:=uL.out;rw [List.length_append] at this;have:=Bh.out;unfold maxLen;omega) (bA (by rw [aX,uL.out];have:=uL.out;rw [List.length_append] at this;have:=Bh.out;omega)) ?_;intro v7 w7 T7 O7;have hm2:=H1.out.most.2;have hd2:=Gq.out;obtain ⟨iM,iN,hv7⟩:=O7.slice;obtain ⟨sg',YJ,-,FR,-⟩:=H1.out.sW Gq.out;cases YJ
 obtain ⟨L7,hL7⟩:∃ x,(bB (hs d ++ r.aP.strs d) ++ bB l).length=x:=⟨_,rfl⟩;rw [hL7] at hv7;subst hv7;obtain ⟨hs7,TS⟩:=H1.out.Ri (d:=d) (z:=⟨iM,L7,iN⟩) Gq.out rfl T7 (by rw [<- List.append_assoc,bB,List.map_append];exact O7);have hx7:=HXB.out.turn T7 (by omega);have s7:=T7.cell s0 (by show ¬ (o5 sg=R+10+d);rw [FR];omega);have f7:w7.frozen? ⟨sg,d*2,none⟩=false:=by
  obtain ⟨_,YJ,-,-,hf,-⟩:=H1.out.sW Gq.out;cases YJ
  obtain ⟨_,_,_,_,e,_,hf7,_⟩:=bQ (H1.out.streams.turn T7 (by omega)).1 (by rw [jW (sz:=2) (fun _=>rfl)];have:=Gq.out;omega);cases e
  exact hf7 _
 have HS:=af hs7;have HT:=af (qG.out.trans TS (fun x hx=>by have:=Gq.out;rcases hx with rfl | rfl <;> unfold eu <;> omega));have x7:=hx7.cell 7 _ rfl;have K6:=af x7;clear hs7 TS hx7 O7 T7 hL7 FR x7 hm2 hd2 s0;go_wp2_with fail;refine ⟨by intros;exact ⟨K6.out,s7⟩,?_⟩;refine aJ (ks:=[12,13,14]) (fun _ _ hx h=>⟨hx.cell h.1,hx.cell h.2⟩) (by kernel_rfl) ?_;simp only [pk];go_wp2;go_ret;exact ⟨_,_,_,_,_,rfl,HT.out,HS.out⟩
end
theorem EP {w:World}{o:Col}{c Z:Nat}{a0 a1 a2 a3 a4 a5 z0 z1 z2 z3 z4 z5:Value}(h:dZ w o c Z 84 #[z0,z1,z2,z3,z4,z5]) :
  dZ ((((((w.setCell ⟨Z,0,none⟩ a0).setCell ⟨Z,1,none⟩ a1).setCell ⟨Z,2,none⟩ a2).setCell ⟨Z,3,none⟩ a3).setCell ⟨Z,4,none⟩ a4).setCell ⟨Z,5,none⟩ a5) o c Z 84 #[a0,a1,a2,a3,a4,a5]/\Turn o o (fun x=>x=c) w ((((((w.setCell ⟨Z,0,none⟩ a0).setCell ⟨Z,1,none⟩ a1).setCell ⟨Z,2,none⟩ a2).setCell ⟨Z,3,none⟩ a3).setCell ⟨Z,4,none⟩ a4).setCell ⟨Z,5,none⟩ a5):=by
 obtain ⟨h1,t1⟩:=h.set 0 a0;obtain ⟨h2,t2⟩:=h1.set 1 a1;obtain ⟨h3,t3⟩:=h2.set 2 a2;obtain ⟨h4,t4⟩:=h3.set 3 a3;obtain ⟨h5,t5⟩:=h4.set 4 a4;obtain ⟨h6,t6⟩:=h5.set 5 a5;exact ⟨h6,((((t1.trans t2 (fun _ h=>h)).trans t3 (fun _ h=>h)).trans t4 (fun _ h=>h)).trans t5 (fun _ h=>h)).trans t6 (fun _ h=>h)⟩
theorem VS {w:World}{o:Col}{c Z:Nat}{a0 a1 a2 a3 a4 a5 z0 z1 z2 z3 z4 z5 z6 z7 z8 z9 z10 z11:Value}(h:dZ w o c Z 88 #[z0,z1,z2,z3,z4,z5,z6,z7,z8,z9,z10,z11])(u:Value) :
  dZ (((((((w.setCell ⟨Z,0,none⟩ a0).setCell ⟨Z,1,none⟩ a1).setCell ⟨Z,2,none⟩ a2).setCell ⟨Z,3,none⟩ a3).setCell ⟨Z,4,none⟩ a4).setCell ⟨Z,5,none⟩ a5).setCell ⟨Z,10,none⟩ u) o c Z 88 #[a0,a1,a2,a3,a4,a5,z6,z7,z8,z9,u,z11]/\Turn o o (fun x=>x=c) w (((((((w.setCell ⟨Z,0,none⟩ a0).setCell ⟨Z,1,none⟩ a1).setCell ⟨Z,2,none⟩ a2).setCell ⟨Z,3,none⟩ a3).setCell ⟨Z,4,none⟩ a4).setCell ⟨Z,5,none⟩ a5).setCell ⟨Z,10,none⟩ u):=by
 obtain ⟨h1,t1⟩:=h.set 0 a0;obtain ⟨h2,t2⟩:=h1.set 1 a1;obtain ⟨h3,t3⟩:=h2.set 2 a2;obtain ⟨h4,t4⟩:=h3.set 3 a3;obtain ⟨h5,t5⟩:=h4.set 4 a4;obtain ⟨h6,t6⟩:=h5.set 5 a5;obtain ⟨h7,t7⟩:=h6.set 10 u;exact ⟨h7,(((((t1.trans t2 (fun _ h=>h)).trans t3 (fun _ h=>h)).trans t4 (fun _ h=>h)).trans t5 (fun _ h=>h)).trans t6 (fun _ h=>h)).trans t7 (fun _ h=>h)⟩
theorem NQ (l:List (List Int))(j:Nat)(hj:j < l.length):(l.take (j+1)).flatten=(l.take j).flatten ++ (l[j]?.getD [])/\((l.take j).flatten.length+(l[j]?.getD []).length<=l.flatten.length):=by
 have e:(l.take (j+1)).flatten=(l.take j).flatten ++ (l[j]?.getD []):=by
  rw [List.take_succ_eq_append_getElem hj,List.flatten_append,List.getElem?_eq_getElem hj];simp
 refine ⟨e,?_⟩;have e2:l.flatten=(l.take (j+1)).flatten ++ (l.drop (j+1)).flatten:=by rw [<- List.flatten_append,List.take_append_drop]
 rw [e2,e];simp
def LB (W:World)(q:Col)(R:Nat)(tg:Int)(ps:List Int)(S:Mr)(pp ov ev:Value)(wx:World):Prop :=
 ∃ q' X pa pl pc ia il ic oa ol oc ka kl kc,pp=.pointer (some ⟨X,0,none⟩)/\ev=.int .i64 S.err/\Turn q q' (fun x=>x=R+2002) W wx/\dZ wx q' (R+2002) X 84 #[.int .u8 tg,.slice pa pl pc,.slice ia il ic,.slice oa ol oc,.slice ka kl kc,.int .i64 S.n] /\
  ED wx q' (R+3) (.agg #[.int .u8 tg,.slice pa pl pc,.slice ia il ic,.slice oa ol oc,.slice ka kl kc,.int .i64 S.n]) tg ps S.keep S.n/\vU wx q' (R+3) ov S.outs
theorem mP {w:World}{o:Col}{c Y:Nat}{a0 a1 a2 a3 a4 a5 a6 a7 a8 a9 qF pK:Value}(h:dZ w o c Y 88 #[a0,a1,a2,a3,a4,a5,a6,a7,a8,a9,qF,pK]) :
  w.cell? ⟨Y,0,none⟩=some a0/\w.cell? ⟨Y,1,none⟩=some a1/\w.cell? ⟨Y,2,none⟩=some a2/\w.cell? ⟨Y,3,none⟩=some a3/\w.cell? ⟨Y,4,none⟩=some a4/\w.cell? ⟨Y,5,none⟩=some a5/\w.cell? ⟨Y,9,none⟩=some a9 :=
 ⟨h.cell 0 _ rfl,h.cell 1 _ rfl,h.cell 2 _ rfl,h.cell 3 _ rfl,h.cell 4 _ rfl,h.cell 5 _ rfl,h.cell 9 _ rfl⟩
section
variable {w:World} {o:Col} {R K M:Nat} {g:av} {caps:List Int} {r:bH} {hs gv:Nat->List Int} {H:iH} {tv:Nat->wU} {sv:Nat->rT}
def Rq (w:World)(o:Col)(R:Nat)(g:av)(caps:List Int)(K:Nat)(H:iH)(r:bH)(hs gv:Nat->List Int)(sv:Nat->rT)(t:Nat)(e:Ending)(w':World):Prop :=
 ∃ o' tv',e=.returned (.tuple #[])/\Turn o o' (tC R) w w' /\
  ((dV g t (r.aP.tasks t)).err≠0->fA w' o' R g caps K ⟨r.aP,some t⟩ hs gv H tv' sv) /\
  ((dV g t (r.aP.tasks t)).err=0->fA w' o' R g caps K ⟨⟨upd r.aP.tasks t { r.aP.tasks t with keep:=(dV g t (r.aP.tasks t)).keep,n:=(dV g t (r.aP.tasks t)).n,bg:=(dV g t (r.aP.tasks t)).outs,gives:=true,port:=0 },r.aP.strs⟩,none⟩ hs (upd gv t []) H tv' sv)
theorem Hu (h:fA w o R g caps K r hs gv H tv sv)(hG:BS g caps)(hK:vS g M r.aP)(hM:M<=1000000000000000){t:Nat}(ht:t < g.actors.length)(hf:r.failed=none)(hg:(r.aP.tasks t).gives=false)(hp:¬ (r.aP.tasks t).port < (ay g t).length) :
  Calls Tryz.prog 51 #[.agg (dP g caps H).toArray,.int .i64 (t:Int)] w (Rq w o R g caps K H r hs gv sv t):=by
 unfold dP;obtain ⟨aa,ac,ae,ec,ai,nc,ao,uc,cv,cc,ta,tc,sa',dz,fl⟩:=H;obtain ⟨tg,oF,htc,-,hfz,-,hcl⟩:=h.pF ht;dsimp only at oF htc;subst oF;obtain ⟨T,hTe⟩:∃ x,eH g t=x:=⟨_,rfl⟩;obtain ⟨N,hNe⟩:∃ x,(r.aP.tasks t).n=x:=⟨_,rfl⟩;obtain ⟨A,BH⟩:∃ x,zA (r.aP.tasks t) (gv t)=x:=⟨_,rfl⟩;obtain ⟨Wh,J6⟩:∃ x,(r.aP.tasks t).whole=x:=⟨_,rfl⟩;obtain ⟨v,uH⟩:∃ x,tv t=x:=⟨_,rfl⟩;have hT:=h.task t ht;unfold taskX iw at hcl;rw [hTe,hNe,BH,J6,uH] at hcl;rw [uH] at hT;have HVE:=af uH;have Rl:=af hTe;have u7:=af hNe;have YE:=af J6;clear hTe hNe J6 uH;obtain ⟨pa,pl,pc,ia,il,ic,oa,ol,oc,ka,kl,kc,sa,sl,sc,da,dl,dc,ha,hl,hc,ga,gl,gc⟩:=v;obtain ⟨a0,a1,a2,a3,a4,a5,a6,a7,a8,a9,qF,pK⟩:=Bf hcl;clear hcl;have bX:(t:Int) < g.actors.length:=by omega
 have VN:(g.actors.length:Int)<=tc:=by omega
 have hO:=hK.task t ht;obtain ⟨hfull,Rs⟩:=hO.full (fun _=>hp);obtain ⟨⟨ri,rl⟩,ro,SB⟩:=rq hG.acts t;have hno:=hO.num;have GZ:=af (hT.kp.kp hG.acts ht hO);have Fg:=af hT.kp;have HDF:Hid (∀ l∈jr (ay g t) (r.aP.tasks t).hand.flatten,∀ z∈l,Fits z):=af (by rw [Rs];exact hO.hfit);have Iu:Hid (Fits ((r.aP.tasks t).n+1)):=af (by unfold Fits;omega);have HS0:Hid (iD (eH g t) (jh g t) (r.aP.tasks t).keep (r.aP.tasks t).n (jr (ay g t) (r.aP.tasks t).hand.flatten)=dV g t (r.aP.tasks t)):=af (by rw [Rs,sZ ht]);have HSU:=af hfull.symm;have QN:=af (Dn (x:=r.aP.tasks t) hG.acts ht);have HKS:=af (hT.kp.iD ht);have U3:=af (UE (n:=(r.aP.tasks t).n) (rC hG.acts ht).1 (rC hG.acts ht).2 hO.Ej hO.hfit);have aax:A=(r.aP.tasks t).hand.flatten.length:=by rw [<- BH,zA,hg];rfl
 have J7:=af aax;have qE:=af ri;have Gp:=af rl;have HT0:=af hT;have vT:=af hf;have rP:=af ht;have HGA:=af hG.acts;dsimp only;have lH:=au w (.cells #[.string g.name,.slice aa g.actors.length ac,.slice ae g.edges.length ec,.slice ai g.ins.length nc,.slice ao g.outs.length uc,.slice cv caps.length cc,.slice (some ⟨tg,0,none⟩) g.actors.length tc,.slice sa' (aR g) dz,.slice (some ⟨fl,0,none⟩) 1 1] 37);have hX:=heap_alloc_new w (.cells #[.string g.name,.slice aa g.actors.length ac,.slice ae g.edges.length ec,.slice ai g.ins.length nc,.slice ao g.outs.length uc,.slice cv caps.length cc,.slice (some ⟨tg,0,none⟩) g.actors.length tc,.slice sa' (aR g) dz,.slice (some ⟨fl,0,none⟩) 1 1] 37);obtain ⟨x0,x1,x2,x3,x4,x5,x6,x7,x8⟩:=ou hX;have aL:=uy lH ⟨a0,a1,a2,a3,a4,a5,a6,a7,a8,a9,qF,pK⟩;clear a0 a1 a2 a3 a4 a5 a6 a7 a8 a9 qF pK;obtain ⟨a0,a1,a2,a3,a4,a5,a6,a7,a8,a9,qF,pK⟩:=aL;have hX1:=dQ (w:=w) o (R+2000) #[.string g.name,.slice aa g.actors.length ac,.slice ae g.edges.length ec,.slice ai g.ins.length nc,.slice ao g.outs.length uc,.slice cv caps.length cc,.slice (some ⟨tg,0,none⟩) g.actors.length tc,.slice sa' (aR g) dz,.slice (some ⟨fl,0,none⟩) 1 1] 37;have T1:=Turn.of_below o (R+2000) lH;have hb2:=au (w.alloc (.cells #[.string g.name,.slice aa g.actors.length ac,.slice ae g.edges.length ec,.slice ai g.ins.length nc,.slice ao g.outs.length uc,.slice cv caps.length cc,.slice (some ⟨tg,0,none⟩) g.actors.length tc,.slice sa' (aR g) dz,.slice (some ⟨fl,0,none⟩) 1 1] 37)) (.cells #[.int .u8 T,.slice pa pl pc,.slice ia il ic,.slice oa ol oc,.slice ka kl kc,.int .i64 N,.slice sa sl sc,.slice da dl dc,.int .i64 (A:Nat),.slice ha hl hc,.slice ga gl gc,.int .i64 (Wh:Nat)] 88);have T2:=Turn.of_below (ext o w.heap.size (R+2000)) (R+2001) hb2;have ny:=dQ (w:=w.alloc (.cells #[.string g.name,.slice aa g.actors.length ac,.slice ae g.edges.length ec,.slice ai g.ins.length nc,.slice ao g.outs.length uc,.slice cv caps.length cc,.slice (some ⟨tg,0,none⟩) g.actors.length tc,.slice sa' (aR g) dz,.slice (some ⟨fl,0,none⟩) 1 1] 37)) (ext o w.heap.size (R+2000)) (R+2001) #[.int .u8 T,.slice pa pl pc,.slice ia il ic,.slice oa ol oc,.slice ka kl kc,.int .i64 N,.slice sa sl sc,.slice da dl dc,.int .i64 (A:Nat),.slice ha hl hc,.slice ga gl gc,.int .i64 (Wh:Nat)] 88;have T12:=T1.trans T2 (fun _ h=>h);have H1:=af (h.turn T12 (fun _ h=>h.elim));have HXB:=af (hX1.turn T2 (fun h=>h));have eP:=af ny;have HT:=af (hT.turn T12 (fun h=>h) (fun h=>h) (fun h=>h));have qG:=af (T12.mono (D:=tC R) (fun _ h=>h.elim));generalize ext (ext o w.heap.size (R+2000)) (w.alloc (.cells #[.string g.name,.slice aa g.actors.length ac,.slice ae g.edges.length ec,.slice ai g.ins.length nc,.slice ao g.outs.length uc,.slice cv caps.length cc,.slice (some ⟨tg,0,none⟩) g.actors.length tc,.slice sa' (aR g) dz,.slice (some ⟨fl,0,none⟩) 1 1] 37)).heap.size (R+2001)=o1 at *;rw [World.size_alloc] at eP;clear h hG hK hO hT hno hfull Rs ri rl ro SB BH aax hg hp hf hfz htc lH hX hX1 T1 hb2 T2 ny T12 ht hM;go_enter Tryz.func51,Tryz.ntmps51;go_wp2_with fail;obtain ⟨W,hW⟩:∃ x,(w.alloc (.cells #[.string g.name,.slice aa g.actors.length ac,.slice ae g.edges.length ec,.slice ai g.ins.length nc,.slice ao g.outs.length uc,.slice cv caps.length cc,.slice (some ⟨tg,0,none⟩) g.actors.length tc,.slice sa' (aR g) dz,.slice (some ⟨fl,0,none⟩) 1 1] 37)).alloc (.cells #[.int .u8 T,.slice pa pl pc,.slice ia il ic,.slice oa ol oc,.slice ka kl kc,.int .i64 N,.slice sa sl sc,.slice da dl dc,.int .i64 (A:Nat),.slice ha hl hc,.slice ga gl gc,.int .i64 (Wh:Nat)] 88)=x:=⟨_,rfl⟩;rw [hW] at H1 HXB eP HT qG ⊢;clear hW;clear a0 a1 a2 a3 a4 a5 a6 a7 a8 a9 qF pK;clear x0 x1 x2 x3 x4 x5 x6 x7 x8;have VT:=af HT.out.vi;have NR:=af HT.out.hand;obtain ⟨S,hS⟩:∃ x,dV g t (r.aP.tasks t)=x:=⟨_,rfl⟩;have HS:=af (HS0.out.trans hS);have Xg:=af hS;have rV:=af (show ED W o1 (R+3) (.agg #[.int .u8 T,.slice pa pl pc,.slice ia il ic,.slice oa ol oc,.slice ka kl kc,.int .i64 N]) (eH g t) (jh g t) (r.aP.tasks t).keep (r.aP.tasks t).n from ⟨_,_,_,_,by rw [Rl.out,u7.out],HT.out.vp,by rw [<- Dm rP.out];exact HT.out.vi,by rw [<- yu rP.out];exact HT.out.vo,HT.out.vk⟩);clear hS HS0;obtain ⟨Y,uJ⟩:∃ x,w.heap.size+1=x:=⟨_,rfl⟩;rw [uJ] at eP ⊢
 go_cut [5,6,7] from 14 to 26 (fun pp ov ev wx=>LB W o1 R (eH g t) (jh g t) S pp ov ev wx)
 case first =>
  refine cB (fun w'=>w'.cell? ⟨Y,0,none⟩=some (.int .u8 T)/\w'.cell? ⟨Y,1,none⟩=some (.slice pa pl pc)/\w'.cell? ⟨Y,2,none⟩=some (.slice ia il ic)/\w'.cell? ⟨Y,3,none⟩=some (.slice oa ol oc)/\w'.cell? ⟨Y,4,none⟩=some (.slice ka kl kc)/\w'.cell? ⟨Y,5,none⟩=some (.int .i64 N)/\w'.cell? ⟨Y,9,none⟩=some (.slice ha hl hc)) [0,1,2,3,4,5,6,9,10,11,12] [7,8] [0,1,2,3,4,5,6] 10 (by kernel_rfl) (by kernel_rfl) rfl (mP eP.out) ?_;intro Q' hQ' lD;simp only [pk];refine aD ?_;refine ax ?_;have T0:=(Turn.refl o1 (fun _=>False) W).drew;have rU:=af (T0.mono (D:=fun x=>x=R+2002) (fun _ h=>h.elim));replace eP:=af (eP.out.turn T0 (fun h=>h));replace rV:=af (rV.out.turn T0 (fun h=>h));replace VT:=af (VT.out.turn T0 (fun h=>h));replace NR:=af (NR.out.turn T0 (fun h=>h));obtain ⟨wd,hwd⟩:∃ x,W.drew=x:=⟨_,rfl⟩;rw [hwd] at rU eP rV VT NR ⊢;clear hwd T0;refine fZ (i:=7) (k:=13) (by kernel_rfl) ?_ ?_
  ·
   simp only [pk];go_wp2_with fail;refine (G9 (o:=o1) (c:=R+3) VT.out qE.out Gp.out NR.out.has HSU.out).mono ?_;rintro e w1 ⟨cv,rfl,hll,hb⟩;have TN:=Turn.of_below o1 (R+2004) hb;replace rU:=af (rU.out.trans TN (fun _ h=>h.elim));replace eP:=af (eP.out.turn TN (fun h=>h));replace rV:=af (rV.out.turn TN (fun h=>h));have BV:=af hll;obtain ⟨cva,cvc,rfl⟩:=hll.slice;generalize (jr (ay g t) (r.aP.tasks t).hand.flatten).length=cvl at *
   skip
   generalize ext o1 _ (R+2004)=u1 at *;clear TN hb hll;go_wp2_with fail;refine ⟨by intros;exact mP eP.out,?_⟩;refine fZ (i:=8) (k:=13) (by kernel_rfl) ?_ ?_
   ·
    simp only [pk];go_wp2_with fail;refine (yt GZ.out rV.out BV.out HDF.out Iu.out).mono ?_;rintro e w2 ⟨v3,ov,rfl,R3,L3,hb⟩;rw [HS.out] at R3 L3 ⊢;have TN:=Turn.of_below u1 (R+3) hb;replace rU:=af (rU.out.trans TN (fun _ h=>h.elim));replace eP:=af (eP.out.turn TN (fun h=>h))
    skip
    generalize ext u1 _ (R+3)=u2 at *;have Bo:=af R3;have Iw:=af L3;obtain ⟨vp3,vi3,vo3,vk3,rfl,s1,s2,s3,s4⟩:=R3;obtain ⟨SG,pc1,rfl⟩:=s1.slice;obtain ⟨pa2,pc2,rfl⟩:=s2.slice;obtain ⟨Rt,Ru,rfl⟩:=s3.slice;obtain ⟨pa4,pc4,rfl⟩:=s4.slice;obtain ⟨Rv,Rw,rfl⟩:=L3.ll.slice;obtain ⟨q1,hq1⟩:∃ x,(jh g t).length=x:=⟨_,rfl⟩;obtain ⟨q2,hq2⟩:∃ x,(bJ (eH g t) (jh g t)).length=x:=⟨_,rfl⟩;obtain ⟨q3,hq3⟩:∃ x,(aV (eH g t) (jh g t)).length=x:=⟨_,rfl⟩;obtain ⟨q4,hq4⟩:∃ x,S.keep.length=x:=⟨_,rfl⟩;obtain ⟨q5,Rx⟩:∃ x,S.outs.length=x:=⟨_,rfl⟩;rw [hq1,hq2,hq3,hq4] at Bo;rw [Rx] at Iw;rw [hq1,hq2,hq3,hq4,Rx];clear TN hb L3 s1 s2 s3 s4 hq1 hq2 hq3 hq4 Rx;go_wp2_with fail;refine ⟨by intros;exact mP eP.out,?_⟩;refine dM (r:=[9,10,11,12]) (n:=4) lD (by kernel_rfl) (mP eP.out) ?_;simp only [pk];refine aD ?_;refine ax ?_;refine aB (i:=13) (by kernel_rfl) ?_;simp only [pk];have hb:=au w2 (.cells #[.int .u8 0,.slice none 0 0,.slice none 0 0,.slice none 0 0,.slice none 0 0,.int .i64 0] 84);have TN:=Turn.of_below u2 (R+2002) hb;replace rU:=af (rU.out.trans TN (fun _ h=>h.elim));replace eP:=af (eP.out.turn TN (fun h=>h));have mE:=af (dQ (w:=w2) u2 (R+2002) #[.int .u8 0,.slice none 0 0,.slice none 0 0,.slice none 0 0,.slice none 0 0,.int .i64 0] 84);replace Bo:=af (Bo.out.turn TN (fun h=>h));replace Iw:=af (Iw.out.turn TN (fun h=>h));generalize ext u2 (w2).heap.size (R+2002)=u3 at *;clear hb TN;go_wp2_with fail;obtain ⟨w3,mF⟩:∃ x,(w2).alloc (.cells #[.int .u8 0,.slice none 0 0,.slice none 0 0,.slice none 0 0,.slice none 0 0,.int .i64 0] 84)=x:=⟨_,rfl⟩;obtain ⟨X,Xh⟩:∃ x,(w2).heap.size=x:=⟨_,rfl⟩;rw [mF] at rU eP mE Bo Iw ⊢;rw [Xh] at mE ⊢;clear mF Xh;refine ⟨by intros;exact mP eP.out,?_⟩;have hab:=mE.out;have z0:=hab.cell 0 _ rfl;have z1:=hab.cell 1 _ rfl;have z2:=hab.cell 2 _ rfl;have z3:=hab.cell 3 _ rfl;have z4:=hab.cell 4 _ rfl;have z5:=hab.cell 5 _ rfl;have f0:=hab.frozen 0;have f1:=hab.frozen 1;have f2:=hab.frozen 2;have f3:=hab.frozen 3;have f4:=hab.frozen 4;have f5:=hab.frozen 5;obtain ⟨B1,S1⟩:=EP (a0:=.int .u8 (eH g t)) (a1:=.slice SG q1 pc1) (a2:=.slice pa2 q2 pc2) (a3:=.slice Rt q3 Ru) (a4:=.slice pa4 q4 pc4) (a5:=.int .i64 S.n) hab;have eT:Hid (LB W o1 R (eH g t) (jh g t) S (.pointer (some ⟨X,0,none⟩)) (.slice Rv q5 Rw) (.int .i64 S.err) _):=af ⟨u3,X,_,_,_,_,_,_,_,_,_,_,_,_,rfl,rfl,rU.out.trans S1 (fun _ h=>h),B1,Bo.out.turn S1 (by omega),Iw.out.turn S1 (by omega)⟩;clear hab B1 S1 lD;refine aJ (ks:=[14,15,16]) (fun _ _ hx h=>⟨hx.cell h.1,hx.cell h.2.1,hx.cell h.2.2.1,hx.cell h.2.2.2.1,hx.cell h.2.2.2.2.1,hx.cell h.2.2.2.2.2.1,hx.cell h.2.2.2.2.2.2⟩) (by kernel_rfl) ?_;simp only [pk];go_wp2
    go_meet
    case rel=>exact eT.out
   ·
    simp only [pk];have hb:=au w1 (.cells #[.int .u8 0,.slice none 0 0,.slice none 0 0,.slice none 0 0,.slice none 0 0,.int .i64 0] 84);have TN:=Turn.of_below u1 (R+2002) hb;replace rU:=af (rU.out.trans TN (fun _ h=>h.elim));replace eP:=af (eP.out.turn TN (fun h=>h));have mE:=af (dQ (w:=w1) u1 (R+2002) #[.int .u8 0,.slice none 0 0,.slice none 0 0,.slice none 0 0,.slice none 0 0,.int .i64 0] 84);replace rV:=af (rV.out.turn TN (fun h=>h));replace BV:=af (BV.out.below hb);generalize ext u1 (w1).heap.size (R+2002)=u2 at *;clear hb TN;go_wp2_with fail;obtain ⟨w2,mF⟩:∃ x,(w1).alloc (.cells #[.int .u8 0,.slice none 0 0,.slice none 0 0,.slice none 0 0,.slice none 0 0,.int .i64 0] 84)=x:=⟨_,rfl⟩;obtain ⟨X,Xh⟩:∃ x,(w1).heap.size=x:=⟨_,rfl⟩;rw [mF] at rU eP mE rV BV ⊢;rw [Xh] at mE ⊢;clear mF Xh;refine ⟨by intros;exact mP eP.out,?_⟩;refine aB (i:=8) (by kernel_rfl) ?_;simp only [pk];go_wp2_with fail;refine (yt GZ.out rV.out BV.out HDF.out Iu.out).mono ?_;rintro e w3 ⟨v3,ov,rfl,R3,L3,hb⟩;rw [HS.out] at R3 L3 ⊢;have TN:=Turn.of_below u2 (R+3) hb;replace rU:=af (rU.out.trans TN (fun _ h=>h.elim));replace eP:=af (eP.out.turn TN (fun h=>h));replace mE:=af (mE.out.turn TN (fun h=>h));generalize ext u2 _ (R+3)=u3 at *;have Bo:=af R3;have Iw:=af L3;obtain ⟨vp3,vi3,vo3,vk3,rfl,s1,s2,s3,s4⟩:=R3;obtain ⟨SG,pc1,rfl⟩:=s1.slice;obtain ⟨pa2,pc2,rfl⟩:=s2.slice;obtain ⟨Rt,Ru,rfl⟩:=s3.slice;obtain ⟨pa4,pc4,rfl⟩:=s4.slice;obtain ⟨Rv,Rw,rfl⟩:=L3.ll.slice;obtain ⟨q1,hq1⟩:∃ x,(jh g t).length=x:=⟨_,rfl⟩;obtain ⟨q2,hq2⟩:∃ x,(bJ (eH g t) (jh g t)).length=x:=⟨_,rfl⟩;obtain ⟨q3,hq3⟩:∃ x,(aV (eH g t) (jh g t)).length=x:=⟨_,rfl⟩;obtain ⟨q4,hq4⟩:∃ x,S.keep.length=x:=⟨_,rfl⟩;obtain ⟨q5,Rx⟩:∃ x,S.outs.length=x:=⟨_,rfl⟩;rw [hq1,hq2,hq3,hq4] at Bo;rw [Rx] at Iw;rw [hq1,hq2,hq3,hq4,Rx];clear TN hb L3 s1 s2 s3 s4 hq1 hq2 hq3 hq4 Rx;go_wp2_with fail;refine ⟨by intros;exact mP eP.out,?_⟩;refine dM (r:=[9,10,11,12]) (n:=3) lD (by kernel_rfl) (mP eP.out) ?_;simp only [pk];refine aD ?_;refine ax ?_;have hab:=mE.out;have z0:=hab.cell 0 _ rfl;have z1:=hab.cell 1 _ rfl;have z2:=hab.cell 2 _ rfl;have z3:=hab.cell 3 _ rfl;have z4:=hab.cell 4 _ rfl;have z5:=hab.cell 5 _ rfl;have f0:=hab.frozen 0;have f1:=hab.frozen 1;have f2:=hab.frozen 2;have f3:=hab.frozen 3;have f4:=hab.frozen 4;have f5:=hab.frozen 5;obtain ⟨B1,S1⟩:=EP (a0:=.int .u8 (eH g t)) (a1:=.slice SG q1 pc1) (a2:=.slice pa2 q2 pc2) (a3:=.slice Rt q3 Ru) (a4:=.slice pa4 q4 pc4) (a5:=.int .i64 S.n) hab;have eT:Hid (LB W o1 R (eH g t) (jh g t) S (.pointer (some ⟨X,0,none⟩)) (.slice Rv q5 Rw) (.int .i64 S.err) _):=af ⟨u3,X,_,_,_,_,_,_,_,_,_,_,_,_,rfl,rfl,rU.out.trans S1 (fun _ h=>h),B1,Bo.out.turn S1 (by omega),Iw.out.turn S1 (by omega)⟩;clear hab B1 S1 lD;refine aJ (ks:=[14,15,16]) (fun _ _ hx h=>⟨hx.cell h.1,hx.cell h.2.1,hx.cell h.2.2.1,hx.cell h.2.2.2.1,hx.cell h.2.2.2.2.1,hx.cell h.2.2.2.2.2.1,hx.cell h.2.2.2.2.2.2⟩) (by kernel_rfl) ?_;simp only [pk];go_wp2
    go_meet
    case rel=>exact eT.out
  ·
   simp only [pk];have hb:=au wd (.cells #[.int .u8 0,.slice none 0 0,.slice none 0 0,.slice none 0 0,.slice none 0 0,.int .i64 0] 84);have TN:=Turn.of_below o1 (R+2002) hb;replace rU:=af (rU.out.trans TN (fun _ h=>h.elim));replace eP:=af (eP.out.turn TN (fun h=>h));have mE:=af (dQ (w:=wd) o1 (R+2002) #[.int .u8 0,.slice none 0 0,.slice none 0 0,.slice none 0 0,.slice none 0 0,.int .i64 0] 84);replace rV:=af (rV.out.turn TN (fun h=>h));replace VT:=af (VT.out.turn TN (fun h=>h));replace NR:=af (NR.out.turn TN (fun h=>h));generalize ext o1 (wd).heap.size (R+2002)=u1 at *;clear hb TN;go_wp2_with fail;obtain ⟨w1,mF⟩:∃ x,(wd).alloc (.cells #[.int .u8 0,.slice none 0 0,.slice none 0 0,.slice none 0 0,.slice none 0 0,.int .i64 0] 84)=x:=⟨_,rfl⟩;obtain ⟨X,Xh⟩:∃ x,(wd).heap.size=x:=⟨_,rfl⟩;rw [mF] at rU eP mE rV VT NR ⊢;rw [Xh] at mE ⊢;clear mF Xh;refine ⟨by intros;exact mP eP.out,?_⟩;refine aB (i:=7) (by kernel_rfl) ?_;simp only [pk];go_wp2_with fail;refine (G9 (o:=u1) (c:=R+3) VT.out qE.out Gp.out NR.out.has HSU.out).mono ?_;rintro e w2 ⟨cv,rfl,hll,hb⟩;have TN:=Turn.of_below u1 (R+2004) hb;replace rU:=af (rU.out.trans TN (fun _ h=>h.elim));replace eP:=af (eP.out.turn TN (fun h=>h));replace rV:=af (rV.out.turn TN (fun h=>h));have BV:=af hll;obtain ⟨cva,cvc,rfl⟩:=hll.slice;generalize (jr (ay g t) (r.aP.tasks t).hand.flatten).length=cvl at *;replace mE:=af (mE.out.turn TN (fun h=>h));generalize ext u1 _ (R+2004)=u2 at *;clear TN hb hll;go_wp2_with fail;refine ⟨by intros;exact mP eP.out,?_⟩;refine aB (i:=8) (by kernel_rfl) ?_;simp only [pk];go_wp2_with fail;refine (yt GZ.out rV.out BV.out HDF.out Iu.out).mono ?_;rintro e w3 ⟨v3,ov,rfl,R3,L3,hb⟩;rw [HS.out] at R3 L3 ⊢;have TN:=Turn.of_below u2 (R+3) hb;replace rU:=af (rU.out.trans TN (fun _ h=>h.elim));replace eP:=af (eP.out.turn TN (fun h=>h));replace mE:=af (mE.out.turn TN (fun h=>h));generalize ext u2 _ (R+3)=u3 at *;have Bo:=af R3;have Iw:=af L3;obtain ⟨vp3,vi3,vo3,vk3,rfl,s1,s2,s3,s4⟩:=R3;obtain ⟨SG,pc1,rfl⟩:=s1.slice;obtain ⟨pa2,pc2,rfl⟩:=s2.slice;obtain ⟨Rt,Ru,rfl⟩:=s3.slice;obtain ⟨pa4,pc4,rfl⟩:=s4.slice;obtain ⟨Rv,Rw,rfl⟩:=L3.ll.slice;obtain ⟨q1,hq1⟩:∃ x,(jh g t).length=x:=⟨_,rfl⟩;obtain ⟨q2,hq2⟩:∃ x,(bJ (eH g t) (jh g t)).length=x:=⟨_,rfl⟩;obtain ⟨q3,hq3⟩:∃ x,(aV (eH g t) (jh g t)).length=x:=⟨_,rfl⟩;obtain ⟨q4,hq4⟩:∃ x,S.keep.length=x:=⟨_,rfl⟩;obtain ⟨q5,Rx⟩:∃ x,S.outs.length=x:=⟨_,rfl⟩;rw [hq1,hq2,hq3,hq4] at Bo;rw [Rx] at Iw;rw [hq1,hq2,hq3,hq4,Rx];clear TN hb L3 s1 s2 s3 s4 hq1 hq2 hq3 hq4 Rx;go_wp2_with fail;refine ⟨by intros;exact mP eP.out,?_⟩;refine dM (r:=[9,10,11,12]) (n:=3) lD (by kernel_rfl) (mP eP.out) ?_;simp only [pk];refine aD ?_;refine ax ?_;have hab:=mE.out;have z0:=hab.cell 0 _ rfl;have z1:=hab.cell 1 _ rfl;have z2:=hab.cell 2 _ rfl;have z3:=hab.cell 3 _ rfl;have z4:=hab.cell 4 _ rfl;have z5:=hab.cell 5 _ rfl;have f0:=hab.frozen 0;have f1:=hab.frozen 1;have f2:=hab.frozen 2;have f3:=hab.frozen 3;have f4:=hab.frozen 4;have f5:=hab.frozen 5;obtain ⟨B1,S1⟩:=EP (a0:=.int .u8 (eH g t)) (a1:=.slice SG q1 pc1) (a2:=.slice pa2 q2 pc2) (a3:=.slice Rt q3 Ru) (a4:=.slice pa4 q4 pc4) (a5:=.int .i64 S.n) hab;have eT:Hid (LB W o1 R (eH g t) (jh g t) S (.pointer (some ⟨X,0,none⟩)) (.slice Rv q5 Rw) (.int .i64 S.err) _):=af ⟨u3,X,_,_,_,_,_,_,_,_,_,_,_,_,rfl,rfl,rU.out.trans S1 (fun _ h=>h),B1,Bo.out.turn S1 (by omega),Iw.out.turn S1 (by omega)⟩;clear hab B1 S1 lD;refine aJ (ks:=[14,15,16]) (fun _ _ hx h=>⟨hx.cell h.1,hx.cell h.2.1,hx.cell h.2.2.1,hx.cell h.2.2.2.1,hx.cell h.2.2.2.2.1,hx.cell h.2.2.2.2.2.1,hx.cell h.2.2.2.2.2.2⟩) (by kernel_rfl) ?_;simp only [pk];go_wp2
   go_meet
   case rel=>exact eT.out
 case rest =>
  obtain ⟨q,X,Rt,pl3,Ru,ia3,il3,ic3,Rv,ol3,Rw,ka3,kl3,kc3,rfl,rfl,TS,B,R3,L3⟩:=hcut;obtain ⟨va,vc,rfl⟩:=L3.ll.slice;replace H1:=af (H1.out.turn TS (fun k hk=>by rw [hk];unfold jY;omega));replace HXB:=af (HXB.out.turn TS (by omega));replace eP:=af (eP.out.turn TS (by omega));replace HT:=af (HT.out.turn TS (by omega) (by have:=H1.out.most.1;have:=rP.out;omega) (by have:=H1.out.most.1;have:=rP.out;omega));have Ou:=af TS;have HB:=af B;have HR3:=af R3;have Iw:=af L3;obtain ⟨E,hE⟩:∃ x,S.err=x:=⟨_,rfl⟩;obtain ⟨nl,hnl⟩:∃ x,S.outs.length=x:=⟨_,rfl⟩;rw [hE,hnl];rw [hnl] at Iw;have HE:=af hE;have HNL:=af hnl;clear TS B R3 L3 hE hnl VT NR rV;have x6:=HXB.out.cell 6 _ rfl;have x8:=HXB.out.cell 8 _ rfl
  by_cases hE0:E=0
  ·
   subst hE0;have y0:=eP.out.cell 0 _ rfl;have y1:=eP.out.cell 1 _ rfl;have y2:=eP.out.cell 2 _ rfl;have y3:=eP.out.cell 3 _ rfl;have y4:=eP.out.cell 4 _ rfl;have y5:=eP.out.cell 5 _ rfl;have OA:=eP.out.cell 10 _ rfl;have f0:=eP.out.frozen 0;have f1:=eP.out.frozen 1;have f2:=eP.out.frozen 2;have f3:=eP.out.frozen 3;have f4:=eP.out.frozen 4;have f5:=eP.out.frozen 5;have f10:=eP.out.frozen 10;have z0:=HB.out.cell 0 _ rfl;have z1:=HB.out.cell 1 _ rfl;have z2:=HB.out.cell 2 _ rfl;have z3:=HB.out.cell 3 _ rfl;have z4:=HB.out.cell 4 _ rfl;have z5:=HB.out.cell 5 _ rfl;obtain ⟨N3,hN3⟩:∃ x,S.n=x:=⟨_,rfl⟩;rw [hN3] at z5 HR3;have Ec:=af hN3;obtain ⟨T3,hT3⟩:∃ x,eH g t=x:=⟨_,rfl⟩;rw [hT3] at z0;have HT3:=af hT3;clear x6 x8 hN3;go_wp2_with fail;obtain ⟨hY5,YK⟩:=VS (a0:=.int .u8 T3) (a1:=.slice Rt pl3 Ru) (a2:=.slice ia3 il3 ic3) (a3:=.slice Rv ol3 Rw) (a4:=.slice ka3 kl3 kc3) (a5:=.int .i64 N3) eP.out (.slice none 0 0);replace H1:=af (H1.out.turn YK (fun k hk=>by rw [hk];unfold jY;omega));replace HXB:=af (HXB.out.turn YK (by omega));replace HT:=af (HT.out.turn YK (by omega) (by have:=H1.out.most.1;have:=rP.out;omega) (by have:=H1.out.most.1;have:=rP.out;omega));replace HR3:=af (HR3.out.turn YK (by omega));replace Iw:=af (Iw.out.turn YK (by omega));have zI:=af ((qG.out.trans Ou.out (Dr (by omega))).trans YK (Dr (by omega)));replace eP:=af hY5;clear hY5 YK y0 y1 y2 y3 y4 y5 OA f0 f1 f2 f3 f4 f5 f10 z0 z1 z2 z3 z4 z5 Ou qG HB hT3;generalize (((((((wc.setCell ⟨Y,0,none⟩ (.int .u8 T3)).setCell ⟨Y,1,none⟩ (.slice Rt pl3 Ru)).setCell ⟨Y,2,none⟩ (.slice ia3 il3 ic3)).setCell ⟨Y,3,none⟩ (.slice Rv ol3 Rw)).setCell ⟨Y,4,none⟩ (.slice ka3 kl3 kc3)).setCell ⟨Y,5,none⟩ (.int .i64 N3)).setCell ⟨Y,10,none⟩ (.slice none 0 0))=W5 at *;obtain ⟨i1,hi1,iz0,iz1,iz2⟩:=info_parts bU;have HI1:=af hi1;clear hi1;have HNF:Hid (S.outs.flatten.length<=64/\nl<=64):=af ⟨by have:=U3.out.2.1;rw [<- sZ rP.out,Xg.out] at this;exact this,by rw [<- HNL.out,<- Xg.out,sZ rP.out];exact (Ms (rC HGA.out rP.out).1).1⟩
   go_loopw [8] (fun i wl=>∃ (j:Nat) (YL:Option Addr) (Kc YM:Nat),j<=nl/\i=.int .i64 j/\aG (fun k=>k=Y) W5 wl/\wl.heap[Y]?=some (.cells #[.int .u8 T3,.slice Rt pl3 Ru,.slice ia3 il3 ic3,.slice Rv ol3 Rw,.slice ka3 kl3 kc3,.int .i64 N3,.slice sa sl sc,.slice da dl dc,.int .i64 (A:Nat),.slice ha hl hc,.slice YL Kc YM,.int .i64 (Wh:Nat)] 88 (0,0))/\wl.ownsRow W5.heap.size 3 1 (.slice YL Kc YM) Kc (bB (S.outs.take j).flatten)) (fun i _=>nl - (intOf i).toNat)
   case atStart=>exact ⟨0,none,0,0,Nat.zero_le _,rfl,aG.refl _ _,eP.out.1,World.ownsRow_nil _ _ _ _⟩
   case round =>
    obtain ⟨j,YL,Kc,YM,hj,rfl,hM,hYh,hO⟩:=hrel;have TQ:Turn q (ext q W5.heap.size (R+3)) (fun x=>x=R+2001) W5 wr:=Turn.kT q (R+3) hM (fun k _ e=>by rw [e];exact eP.out.2);have OA:=ah _ _ hYh 10 _ rfl;have f10:=aj hYh 10;have HM:=af hM;have HYH:=af hYh;have HO:=af hO;have HTQ:=af TQ;simp only [List.getElem_toArray,List.getElem_cons_succ,List.getElem_cons_zero] at OA
    by_cases hlt:j < nl
    ·
     have bX:(j:Int) < nl:=by omega
     have hjl:j < S.outs.length:=by rw [HNL.out];exact hlt
     obtain ⟨bo,off,hva,hoc,hrow⟩:=(Iw.out.turn TQ (by omega)).ll.at (by omega);subst hva;obtain ⟨a0,c0,hr1,hr2⟩:=hrow j hjl;obtain ⟨NS,YN⟩:=NQ S.outs j hjl;obtain ⟨L,hLr⟩:∃ x,S.outs[j]?.getD []=x:=⟨_,rfl⟩;rw [hLr] at hr1 hr2 NS YN;obtain ⟨RL,hRL⟩:∃ x,L.length=x:=⟨_,rfl⟩;rw [hRL] at hr1 hr2 YN;have abJ:=af hRL;obtain ⟨hnone,hnews⟩:=cu.news hr2;have hgl:Kc=(S.outs.take j).flatten.length:=by have:=hO.1;rw [aX] at this;omega
     have hsm:Kc+RL<=64:=by have:=HNF.out.1;omega
     have acC:(nl:Int)<=vc:=by omega
     have oO:=af hnone;have u7:=af hnews;have HFL:=af NS;clear hrow hr2 NS YN hnone hnews hLr hRL hgl hM hYh hO TQ hoc hjl;go_wp2_with fail;refine aM (fun w'=>w'.cell? ⟨Y,10,none⟩=some (.slice YL Kc YM)/\w'.cell? ⟨bo,off+j,none⟩=some (.slice a0 RL c0)) [0,1,2,3,4,5] [6,7,8] (by kernel_rfl) (by kernel_rfl) rfl (fun _ _ hx h=>⟨hx.cell h.1,hx.cell h.2⟩) ⟨OA,hr1⟩ ?_;intro Q5 hQ5;simp only [pk];refine aD ?_;refine ax ?_;go_wp2_with (at_builtin;refine aU ?_);refine dR ?_;refine aS rfl _ _ 27 rfl W5.heap.size 3 i1 _ 1 8 Tryz.underlying27 HI1.out iz0 iz1 iz2 rfl (.slice YL Kc YM) Kc _ rfl HO.out a0 RL c0 (bB L) rfl (by rw [aX,abJ.out,Nat.mul_one]) oO.out (fun ad had j u hu=>u7.out ad had j u hu) (mX _) (by unfold maxLen;omega) (bA (by omega)) (by have:=HM.out.size;simpa using this) ?_;intro v7 w7 k1 k20 _ _;obtain ⟨iM,iN,rfl⟩:=aA k1;have hM7:=(HM.out.drew).grown k20 (fun b hb hlt=>absurd (HO.out.lt b hb).1 (by omega));have LC:w7.heap[Y]?=_:=kJ (w:=wr.drew) HYH.out k20 (fun e=>by have:=(HO.out.lt Y e).1;have:=eP.out.lt;omega);have hM8:=hM7.setCell (p:=⟨Y,10,none⟩) (fun _=>rfl) (.slice iM (Kc+RL) iN);have Fh:=block_setCell LC 10 (.slice iM (Kc+RL) iN);have k8:=ownsRow_setCell_other k1 (a:=⟨Y,10,none⟩) (fun e=>by have:=(k1.lt Y e).1;have:=eP.out.lt;omega) (.slice iM (Kc+RL) iN);simp only [List.setIfInBounds_toArray,List.set_cons_zero,List.set_cons_succ] at Fh;have d10:=ah _ _ LC 10 _ rfl;have f10:=aj LC 10;simp only [List.getElem_toArray,List.getElem_cons_succ,List.getElem_cons_zero] at d10;have HM8:=af hM8;have zL:=af Fh;have K8:=af k8;have ab0:=HNF.out.2;clear k1 k20 hM7 LC hM8 Fh k8 OA hr1;go_wp2;go_roundw
     case rel=>exact ⟨j+1,iM,Kc+RL,iN,hlt,by go_num,HM8.out,zL.out,by rw [HFL.out,bB,List.map_append];exact K8.out⟩
     case measure=>simp [intOf];omega
    ·
     obtain rfl:j=nl:=by omega
     have hfull:S.outs.take j=S.outs:=List.take_of_length_le (by rw [HNL.out];omega);rw [hfull] at HO;have hW:=HTQ.out;have HW:=af ((Own.made q (R+3) HO.out).vals);have Zp:dZ wr (ext q W5.heap.size (R+3)) (R+2001) Y 88 _:=⟨HYH.out,(dm eP.out.lt).trans eP.out.2⟩;obtain ⟨zC,Bp⟩:=Zp.set 8 (.int .i64 ((A+1:Nat):Int));simp only [List.setIfInBounds_toArray,List.set_cons_zero,List.set_cons_succ] at zC;have TT:=hW.trans Bp (fun _ h=>h);have YO:=H1.out.turn TT (fun k hk=>by rw [hk];unfold jY;omega);have Zq:=HXB.out.turn TT (by omega);have BI:=HT.out.turn TT (by omega) (by have:=H1.out.most.1;have:=rP.out;omega) (by have:=H1.out.most.1;have:=rP.out;omega);have hR9:=HR3.out.turn TT (by omega);have hW9:=HW.out.turn Bp (by omega);obtain ⟨p1,p2,p3,p4,ep,hp1,hp2,hp3,hp4⟩:=hR9;simp only [Value.agg.injEq,Array.mk.injEq,List.cons.injEq,and_true,true_and] at ep;obtain ⟨rfl,rfl,rfl,rfl,-⟩:=ep;have Hw:oC (wr.setCell ⟨Y,8,none⟩ (.int .i64 ((A+1:Nat):Int))) (ext q W5.heap.size (R+3)) R g t { r.aP.tasks t with keep:=S.keep,n:=S.n,bg:=S.outs,gives:=true,port:=0 } [] ⟨Rt,pl3,Ru,ia3,il3,ic3,Rv,ol3,Rw,ka3,kl3,kc3,sa,sl,sc,da,dl,dc,ha,hl,hc,YL,Kc,YM⟩ :=
      ⟨hp1,by rw [Dm rP.out];exact hp2,by rw [yu rP.out];exact hp3,hp4,BI.src,BI.dst,BI.hand,fun _=>hW9,fun _=>by have:=QN.out (by rw [Xg.out];exact HE.out);rw [Xg.out] at this;simpa using this,by have:=HKS.out;rw [Xg.out] at this;exact this⟩
     obtain ⟨lS,lT⟩:=YO.zU (tg:=tg) rP.out rfl Hw (fl:=none) (by unfold iK;rw [vT.out]);have hAt:zA { r.aP.tasks t with keep:=S.keep,n:=S.n,bg:=S.outs,gives:=true,port:=0 } []=A+1:=by rw [J7.out];rfl
     unfold taskX iw at lS lT;rw [hAt] at lS lT;dsimp only at lS lT;rw [HT3.out,Ec.out,YE.out] at lS lT;have hA5:A+1<=1000000:=by have h1:=J7.out;have h2:=HSU.out;have h3:=gZ qE.out;have h4:=Gp.out;omega
     have hw1:wrap64 ((A:Int)+1)=((A+1:Nat):Int):=(pq (a:=A) (b:=1) hA5).1;have hw2:IntKind.i64.wrap ((A:Int)+1)=((A+1:Nat):Int):=(pq (a:=A) (b:=1) hA5).2;obtain ⟨B,hB⟩:∃ x,A+1=x:=⟨_,rfl⟩;rw [hB] at lS lT zC Zq YO hw1 hw2 TT;have eT:=af lS;have qG:=af ((zI.out.trans TT (Dr (by omega))).trans lT (Dr (by omega)));obtain ⟨tg',VU,-,-,hfz,-,hcl⟩:=YO.pF rP.out;cases VU
     rw [show taskX g (r.aP.tasks t) (gv t) (tv t) t=_ from rfl] at hcl;unfold taskX iw at hcl;have a0:=hcl 0 _ (by omega) rfl;have a1:=hcl 1 _ (by omega) rfl;have a2:=hcl 2 _ (by omega) rfl;have a3:=hcl 3 _ (by omega) rfl;have a4:=hcl 4 _ (by omega) rfl;have a5:=hcl 5 _ (by omega) rfl;have a6:=hcl 6 _ (by omega) rfl;have a7:=hcl 7 _ (by omega) rfl;have a8:=hcl 8 _ (by omega) rfl;have a9:=hcl 9 _ (by omega) rfl;have qF:=hcl 10 _ (by omega) rfl;have pK:=hcl 11 _ (by omega) rfl;rw [Nat.add_zero] at a0;have g0:=hfz (t*12);have g1:=hfz (t*12+1);have g2:=hfz (t*12+2);have g3:=hfz (t*12+3);have g4:=hfz (t*12+4);have g5:=hfz (t*12+5);have g6:=hfz (t*12+6);have g7:=hfz (t*12+7);have g8:=hfz (t*12+8);have g9:=hfz (t*12+9);have g10:=hfz (t*12+10);have g11:=hfz (t*12+11);have x6:=Zq.cell 6 _ rfl;have y0:=zC.cell 0 _ rfl;have y1:=zC.cell 1 _ rfl;have y2:=zC.cell 2 _ rfl;have y3:=zC.cell 3 _ rfl;have y4:=zC.cell 4 _ rfl;have y5:=zC.cell 5 _ rfl;have y6:=zC.cell 6 _ rfl;have y7:=zC.cell 7 _ rfl;have y8:=zC.cell 8 _ rfl;have y9:=zC.cell 9 _ rfl;have acD:=zC.cell 10 _ rfl;have y11:=zC.cell 11 _ rfl;have d8:=ah _ _ HYH.out 8 _ rfl;have f8:=aj HYH.out 8;simp only [List.getElem_toArray,List.getElem_cons_succ,List.getElem_cons_zero] at d8;clear hfull hW Zp zC Bp TT YO Zq BI hW9 hp1 hp2 hp3 hp4 Hw lS lT hAt hA5 hB hcl hfz hM hYh hO TQ OA f10 HW;go_wp2_with fail;go_end0
     have hEZ:(dV g t (r.aP.tasks t)).err=0:=by rw [Xg.out];exact HE.out
     exact ⟨ext q W5.heap.size (R+3),upd tv t ⟨Rt,pl3,Ru,ia3,il3,ic3,Rv,ol3,Rw,ka3,kl3,kc3,sa,sl,sc,da,dl,dc,ha,hl,hc,YL,Kc,YM⟩,rfl,qG.out,fun h=>absurd hEZ h,fun _=>by rw [Xg.out,Ec.out];dsimp only;rw [YE.out];exact eT.out⟩
  ·
   have fh:=H1.out.fail.frozen 0;have fc:=H1.out.fail.cell 0 _ rfl;have HF:=af (H1.out.Et t);dsimp only at fh fc HF;clear x6;go_wp2;go_end0
   have hT3:=(qG.out.trans Ou.out (Dr (by omega))).trans HF.out.2 (Dr (by omega));exact ⟨q,tv,rfl,hT3,fun _=>HF.out.1,fun h=>absurd h (by rw [Xg.out,HE.out];exact hE0)⟩
end
section
variable {w:World} {o:Col} {R K M:Nat} {g:av} {caps:List Int} {r:bH} {hs gv:Nat->List Int} {H:iH} {tv:Nat->wU} {sv:Nat->rT}
theorem Ke (h:fA w o R g caps K r hs gv H tv sv)(hG:BS g caps)(hK:vS g M r.aP)(hN:∀ d,(hs d).length+(r.aP.strs d).length<=100000000000000){t:Nat}(ht:t < g.actors.length)(hf:r.failed=none)(hr:isReady g caps r.aP t=true)(hg:(r.aP.tasks t).gives=false)(hp:(r.aP.tasks t).port < (ay g t).length) :
  Calls Tryz.prog 27 #[.agg (dP g caps H).toArray,.int .i64 (t:Int)] w (Bn w o R g caps (K+1) H (eX g caps r t).1 (.bool (eX g caps r t).2)):=by
 have hrt:=hr;rw [oV ht hg hp] at hrt;have hbit:=(hK.task t ht).part hg hp;have hdl:=hG.linked.inn t _ ht hp;have hda:=He hG.linked ht hp;have hto:=(hK.task t ht).took hg hp;have aay:=(h.task t ht).kp;obtain ⟨d,hd⟩:∃ x,bY g t (r.aP.tasks t).port=x:=⟨_,rfl⟩;rw [hd] at hrt hdl hda;obtain ⟨V,l,hVl⟩:∃ V l,r.aP.strs d=V :: l:=by
  cases hh:r.aP.strs d with
  | nil=>rw [hh] at hrt;simp at hrt
  | cons V l=>exact ⟨V,l,rfl⟩
 have hstep:eX g caps r t=(⟨⟨upd r.aP.tasks t (l8 (rI g t (r.aP.tasks t).port) (r.aP.tasks t) V),upd r.aP.strs d l⟩,none⟩,true):=by
  unfold eX;rw [hf];unfold iJ;rw [if_neg (by omega),if_neg (by simp [hg]),if_pos hp,hd,hVl];rfl
 rw [hstep];have GZ:=af aay;have SH:=af hto;have HVL:=af hVl;have HGF:=af hg;have HDL:=af hdl;have YP:zA (r.aP.tasks t) (gv t)=(r.aP.tasks t).hand.flatten.length:=by unfold zA;rw [hg];rfl
 have Nr:=af YP;rw [<- YP] at hbit;have UF:=af hbit;have HDA:=af hda;obtain ⟨p,hpe⟩:∃ x,(r.aP.tasks t).port=x:=⟨_,rfl⟩;rw [hpe] at hp UF HDA;have HPE:=af hpe;have SC:=af hp;clear hrt hbit hdl hda hto aay hd hVl hstep hg YP hpe hp;have hrd:∀ w1,Below w.heap.size w w1->Calls Tryz.prog 48 #[.agg (dP g caps H).toArray,.int .i64 (t:Int)] w1 (fq (.bool true) w1):=fun w1 hb=>by
  have:=yx (h.below hb) hG hK hN ht hf (h.task t ht).rest;rw [hr] at this;exact this
 obtain ⟨⟨ri,rl⟩,ro,SB⟩:=rq hG.acts t;have qE:=af ri;have Gp:=af rl;have sI:=af ro;have Hf:=af SB;have HO:=af (hK.task t ht);have HG:=af hG;have rP:=af ht;have vT:=af hf;have HNB:=af hN;have BD:=af hK;unfold dP at hrd ⊢;obtain ⟨aa,ac,ae,ec,ai,nc,ao,uc,cv,cc,ta,tc,sa',dz,fl⟩:=H;obtain ⟨tg,oF,htc,-,hfz,-,hcl⟩:=h.pF ht;dsimp only at oF htc;subst oF;obtain ⟨T,hTe⟩:∃ x,eH g t=x:=⟨_,rfl⟩;obtain ⟨N,hNe⟩:∃ x,(r.aP.tasks t).n=x:=⟨_,rfl⟩;obtain ⟨A,BH⟩:∃ x,zA (r.aP.tasks t) (gv t)=x:=⟨_,rfl⟩;obtain ⟨Wh,J6⟩:∃ x,(r.aP.tasks t).whole=x:=⟨_,rfl⟩;obtain ⟨v,uH⟩:∃ x,tv t=x:=⟨_,rfl⟩;have hT:=h.task t ht;unfold taskX iw at hcl;rw [hTe,hNe,BH,J6,uH] at hcl;rw [uH] at hT;have HVE:=af uH;have Rl:=af hTe;have u7:=af hNe;have YE:=af J6;clear hTe hNe J6 uH;obtain ⟨pa,pl,pc,ia,il,ic,oa,ol,oc,ka,kl,kc,sa,sl,sc,da,dl,dc,ha,hl,hc,ga,gl,gc⟩:=v;obtain ⟨a0,a1,a2,a3,a4,a5,a6,a7,a8,a9,qF,pK⟩:=Bf hcl;clear hcl;have bX:(t:Int) < g.actors.length:=by omega
 have VN:(g.actors.length:Int)<=tc:=by omega
 dsimp only at hrd ⊢;have BG:=af hrd;have J7:=af BH;have lH:=au w (.cells #[.string g.name,.slice aa g.actors.length ac,.slice ae g.edges.length ec,.slice ai g.ins.length nc,.slice ao g.outs.length uc,.slice cv caps.length cc,.slice (some ⟨tg,0,none⟩) g.actors.length tc,.slice sa' (aR g) dz,.slice (some ⟨fl,0,none⟩) 1 1] 37);have hX:=heap_alloc_new w (.cells #[.string g.name,.slice aa g.actors.length ac,.slice ae g.edges.length ec,.slice ai g.ins.length nc,.slice ao g.outs.length uc,.slice cv caps.length cc,.slice (some ⟨tg,0,none⟩) g.actors.length tc,.slice sa' (aR g) dz,.slice (some ⟨fl,0,none⟩) 1 1] 37);obtain ⟨x0,x1,x2,x3,x4,x5,x6,x7,x8⟩:=ou hX;have hX1:=dQ (w:=w) o (R+2110) #[.string g.name,.slice aa g.actors.length ac,.slice ae g.edges.length ec,.slice ai g.ins.length nc,.slice ao g.outs.length uc,.slice cv caps.length cc,.slice (some ⟨tg,0,none⟩) g.actors.length tc,.slice sa' (aR g) dz,.slice (some ⟨fl,0,none⟩) 1 1] 37;have T1:=Turn.of_below o (R+2110) lH;have HXB:=af hX1;have H1:=af (h.turn T1 (fun _ h=>h.elim));have HT:=af (hT.turn T1 (fun h=>h) (fun h=>h) (fun h=>h));have qG:=af (T1.mono (D:=eu R) (fun _ h=>h.elim));have pO:=af lH;have aL:=uy lH ⟨a0,a1,a2,a3,a4,a5,a6,a7,a8,a9,qF,pK⟩;clear a0 a1 a2 a3 a4 a5 a6 a7 a8 a9 qF pK;obtain ⟨a0,a1,a2,a3,a4,a5,a6,a7,a8,a9,qF,pK⟩:=aL;have W9:=af (And.intro a0 (And.intro a1 (And.intro a2 (And.intro a3 (And.intro a4 (And.intro a5 (And.intro a6 (And.intro a7 (And.intro a8 (And.intro a9 (And.intro qF pK)))))))))));generalize ext o w.heap.size (R+2110)=o0 at *;clear a0 a1 a2 a3 a4 a5 a6 a7 a8 a9 qF pK;clear h hG hK hT hrd ri rl ro SB BH hf hr hfz htc lH hX hX1 T1 hN;go_enter Tryz.func27,Tryz.ntmps27;go_wp2_with fail;refine (BG.out _ pO.out).mono ?_;rintro e w1 ⟨rfl,hb1⟩;have T1:=Turn.of_below o0 (R+2005) hb1;replace HXB:=af (HXB.out.turn T1 (fun h=>h));replace H1:=af (H1.out.turn T1 (fun _ h=>h.elim));replace HT:=af (HT.out.turn T1 (fun h=>h) (fun h=>h) (fun h=>h));replace qG:=af (qG.out.trans T1 (fun _ h=>h.elim));obtain ⟨a0,a1,a2,a3,a4,a5,a6,a7,a8,a9,qF,pK⟩:=W9.out;have aL:=uy hb1 ⟨a0,a1,a2,a3,a4,a5,a6,a7,a8,a9,qF,pK⟩;clear a0 a1 a2 a3 a4 a5 a6 a7 a8 a9 qF pK;obtain ⟨a0,a1,a2,a3,a4,a5,a6,a7,a8,a9,qF,pK⟩:=aL;generalize ext o0 _ (R+2005)=o2 at *;clear x0 x1 x2 x3 x4 x5 x6 x7 x8;have x6:=HXB.out.cell 6 _ rfl;have hb2:=au w1 (.cells #[.int .u8 T,.slice pa pl pc,.slice ia il ic,.slice oa ol oc,.slice ka kl kc,.int .i64 N,.slice sa sl sc,.slice da dl dc,.int .i64 (A:Nat),.slice ha hl hc,.slice ga gl gc,.int .i64 (Wh:Nat)] 88);have T2:=Turn.of_below o2 (R+2111) hb2;have eP:=af (dQ (w:=w1) o2 (R+2111) #[.int .u8 T,.slice pa pl pc,.slice ia il ic,.slice oa ol oc,.slice ka kl kc,.int .i64 N,.slice sa sl sc,.slice da dl dc,.int .i64 (A:Nat),.slice ha hl hc,.slice ga gl gc,.int .i64 (Wh:Nat)] 88);replace HXB:=af (HXB.out.turn T2 (fun h=>h));replace H1:=af (H1.out.turn T2 (fun _ h=>h.elim));replace HT:=af (HT.out.turn T2 (fun h=>h) (fun h=>h) (fun h=>h));replace qG:=af (qG.out.trans T2 (fun _ h=>h.elim));generalize ext o2 w1.heap.size (R+2111)=o1 at *;clear T1 T2 hb1 hb2 W9 BG pO;go_wp2_with fail;refine (rA (o:=o1) (c:=R+3) HT.out.vi qE.out Gp.out).mono ?_;rintro e wq ⟨rfl,rfl⟩;obtain ⟨W,hW⟩:∃ x,w1.alloc (.cells #[.int .u8 T,.slice pa pl pc,.slice ia il ic,.slice oa ol oc,.slice ka kl kc,.int .i64 N,.slice sa sl sc,.slice da dl dc,.int .i64 (A:Nat),.slice ha hl hc,.slice ga gl gc,.int .i64 (Wh:Nat)] 88)=x:=⟨_,rfl⟩;obtain ⟨Y,uJ⟩:∃ x,w1.heap.size=x:=⟨_,rfl⟩;rw [hW] at H1 HXB eP HT qG ⊢;rw [uJ] at eP ⊢;clear hW uJ x6;clear a0 a1 a2 a3 a4 a5 a6 a7 a8 a9 qF pK;obtain ⟨I,hI⟩:∃ x,fH (ay g t)=x:=⟨_,rfl⟩;have hI5:I<=4096:=by have h1:=gZ qE.out;have h2:=Gp.out;omega
 rw [hI];have HI:=af hI;clear hI;obtain ⟨Z,SI⟩:∃ x,w.heap.size=x:=⟨_,rfl⟩;rw [SI] at HXB ⊢;have HZE:=af SI;clear SI;have hd2:d < aR g:=by have:=HDL.out;unfold aR;omega
 obtain ⟨sg,hsa,hsc,aaz,-,-,s0,s1⟩:=H1.out.sW hd2;dsimp only at hsa hsc;subst hsa;have hds:=H1.out.yw hd2;have hnn:=HNB.out d;unfold rT.v at s0;obtain ⟨zz,hzz⟩:∃ x,sv d=x:=⟨_,rfl⟩;rw [hzz] at s0 hds;have Xi:=af hzz;obtain ⟨za,zl,zc⟩:=zz;dsimp only at s0 hds;obtain ⟨Gn,hGn⟩:∃ x,(hs d).length=x:=⟨_,rfl⟩;rw [hGn] at s1 hds hnn;have HGN:=af hGn;have hall:=H1.out.all d hd2;rw [hzz] at hall;unfold rT.v at hall;have hlen:(hs d ++ r.aP.strs d).length=Gn+1+l.length:=by rw [List.length_append,hGn,HVL.out,List.length_cons];omega
 have hgz:Gn < zl:=by rw [HVL.out,List.length_cons] at hds;omega
 obtain ⟨gz,oz,hza,-,hzc,-,-,aaA⟩:=cu.at hall.vals (by rw [aX];omega);subst hza;have v0:=aaA Gn (by rw [aX];omega);rw [iC (by omega)] at v0;rw [show (hs d ++ r.aP.strs d)[Gn]?.getD 0=V by rw [HVL.out,<- hGn];simp] at v0;change W.cell? ⟨gz,oz+Gn,none⟩=some (.int .i64 V) at v0;have aaB:zl<=100000000000000:=by omega
 have HZL:=af aaB;have HGZ:=af hgz;have HD2:=af hd2;have jX:=af hsc;have HZC:=af hzc;have HSG:=af aaz;clear hds hnn hall hlen aaA hzz hGn aaB hd2 hsc hzc hgz aaz;have hlt:A < I:=by
  have h2:=UF.out.2;rw [J7.out] at h2;have:=ru (l:=ay g t) (p+1);rw [HI.out] at this;omega
 have Xa:(A:Int) < I:=Int.ofNat_lt.2 hlt;obtain ⟨gb,off,rfl,-,NH,-,-,hcl⟩:=Ints.at HT.out.src (by rw [jl];have:=SC.out;omega);have c0:=hcl p (by rw [jl];exact SC.out);rw [HDA.out] at c0;have hsl:sl=(ay g t).length:=by have:=Ints.len HT.out.src;rw [jl] at this;exact this
 dsimp only at NH;have hpi:(p:Int) < sl:=by rw [hsl];exact Int.ofNat_lt.2 SC.out
 have VO:(sl:Int)<=sc:=Int.ofNat_le.2 NH;have hdi:(d:Int) < aR g:=Int.ofNat_lt.2 HD2.out;have Rm:(aR g:Int)<=dz:=Int.ofNat_le.2 jX.out;have x7:=HXB.out.cell 7 _ rfl;have y2:=eP.out.cell 2 _ rfl;have y6:=eP.out.cell 6 _ rfl;have y8:=eP.out.cell 8 _ rfl;clear hcl NH hsl;go_wp2_with fail;refine fC (fun w'=>Below W.heap.size W w'/\w'.cell? ⟨Y,6,none⟩=some (.slice (some ⟨gb,off,none⟩) sl sc)/\w'.cell? ⟨Y,2,none⟩=some (.slice ia il ic)/\w'.cell? ⟨Y,8,none⟩=some (.int .i64 (A:Nat))/\w'.cell? ⟨gb,off+p,none⟩=some (.int .i64 (d:Nat))) [0,1,2,3,4,5,6,7,8,9,10] [] (by kernel_rfl) (by kernel_rfl) rfl ⟨cK (n:=1) (Below.refl _ _),y6,y2,y8,c0⟩ ?_;simp only [pk];refine fD ?_;refine gT (.int .i64 (p:Nat)) 50 #[.slice ia il ic,.int .i64 (A:Nat)] (by rfl) (fun wz=>by go_simp) (fun wz hz=>?_) ?_
 ·
  refine (uz (o:=fun _=>0) (c:=0) (HT.out.vi.has.below hz.1) qE.out Gp.out SC.out (by rw [<- J7.out];exact UF.out.1) (by rw [<- J7.out];exact UF.out.2)).mono ?_;rintro e wy ⟨rfl,rfl⟩;exact ⟨rfl,hz⟩
 simp only [pt];refine fD ?_;refine iI ?_;intro w3 hS;have T3:=Turn.of_below o1 (R+2005) hS.1;replace HXB:=af (HXB.out.turn T3 (fun h=>h));replace eP:=af (eP.out.turn T3 (fun h=>h));replace H1:=af (H1.out.turn T3 (fun _ h=>h.elim));replace HT:=af (HT.out.turn T3 (fun h=>h) (fun h=>h) (fun h=>h));replace qG:=af (qG.out.trans T3 (fun _ h=>h.elim));replace s0:=T3.cell s0 (fun h=>h);replace s1:=T3.cell s1 (fun h=>h);replace v0:=T3.cell v0 (fun h=>h);generalize ext o1 W.heap.size (R+2005)=o3 at *;clear T3 hS x7 y2 y6 y8 c0 Xa;have x7:=HXB.out.cell 7 _ rfl;have y9:=eP.out.cell 9 _ rfl;have acE:(Gn:Int) < zl:=Int.ofNat_lt.2 HGZ.out;have acF:(zl:Int)<=zc:=Int.ofNat_le.2 HZC.out;go_wp2_with fail
 go_cut [37] from 37 to 56 (fun _ wx=>∃ q az lz cz,Turn o3 q (fun x=>x=R+2111) w3 wx/\dZ wx q (R+2111) Y 88 #[.int .u8 T,.slice pa pl pc,.slice ia il ic,.slice oa ol oc,.slice ka kl kc,.int .i64 N,.slice (some ⟨gb,off,none⟩) sl sc,.slice da dl dc,.int .i64 (A:Nat),.slice az lz cz,.slice ga gl gc,.int .i64 (Wh:Nat)]/\Ints wx q (R+3) (.slice az lz cz) ((r.aP.tasks t).hand.flatten ++ [V]))
 case first =>
  refine cB (fun w'=>w'.cell? ⟨Y,9,none⟩=some (.slice ha hl hc)/\w'.cell? ⟨Z,7,none⟩=some (.slice (some ⟨sg,0,none⟩) (aR g) dz)/\w'.cell? ⟨sg,d*2,none⟩=some (.slice (some ⟨gz,oz,none⟩) zl zc)/\w'.cell? ⟨sg,d*2+1,none⟩=some (.int .i64 (Gn:Nat))/\w'.cell? ⟨gz,oz+Gn,none⟩=some (.int .i64 V)) [0,1,3,4,5,6,7,8,9,10,11,12,13,14,15,16] [2] [0,1,3,4,5,6,7,8,9,10,11,12,13,14,15,16] 5 (by kernel_rfl) (by kernel_rfl) rfl ⟨y9,x7,s0,s1,v0⟩ ?_;intro Q' hQ' lD;simp only [pk];refine aD ?_;refine ax ?_;have T0:=(Turn.refl o3 (fun _=>False) w3).drew;replace eP:=af (eP.out.turn T0 (fun h=>h));have NR:=af (HT.out.hand.turn T0 (fun h=>h));have rU:=af (T0.mono (D:=fun x=>x=R+2111) (fun _ h=>h.elim));replace x7:=T0.cell x7 (fun h=>h);replace s0:=T0.cell s0 (fun h=>h);replace s1:=T0.cell s1 (fun h=>h);replace v0:=T0.cell v0 (fun h=>h);replace y9:=T0.cell y9 (fun h=>h);obtain ⟨wd,hwd⟩:∃ x,w3.drew=x:=⟨_,rfl⟩;rw [hwd] at eP NR rU x7 s0 s1 v0 y9 ⊢;have hL5:(r.aP.tasks t).hand.flatten.length<=4096:=by have h1:=Nr.out;rw [J7.out] at h1;omega
  have HL5:=af hL5;obtain ⟨i0,hif,hz0,hz1,hz2⟩:=info_parts bU;have HIF:=af hif;clear hwd T0 lD hL5 hif H1 HXB HT qG hlt;have EK:=af (And.intro y9 (And.intro x7 (And.intro s0 (And.intro s1 v0))));clear y9 x7 s0 s1 v0;refine fZ (i:=2) (k:=17) (by kernel_rfl) ?_ ?_
  ·
   simp only [pk];go_wp2_with fail;refine (gW (o:=o3) (c:=R+3) _ ha hl hc _ NR.out (Nat.le_trans HL5.out (by decide))).mono ?_;rintro e w5 ⟨v9,rfl,K9,EN⟩;obtain ⟨sp9,cp9,rfl⟩:=aA K9;have VW:Hid (_/\_/\_/\_/\_):=af ⟨cell_later EN EK.out.1,cell_later EN EK.out.2.1,cell_later EN EK.out.2.2.1,cell_later EN EK.out.2.2.2.1,cell_later EN EK.out.2.2.2.2⟩;have Kg:=af EN;obtain ⟨L,hL⟩:∃ x,(r.aP.tasks t).hand.flatten.length=x:=⟨_,rfl⟩;rw [hL] at K9 ⊢;have WL:=af K9;have hL5:L<=4096:=by rw [<- hL];exact HL5.out
   clear EN K9 hL;go_wp2_with fail;refine ⟨by intros;exact VW.out,?_⟩;refine aJ (ks:=[17,18,19,20]) (fun _ _ hx h=>⟨hx.cell h.1,hx.cell h.2.1,hx.cell h.2.2.1,hx.cell h.2.2.2.1,hx.cell h.2.2.2.2⟩) (by kernel_rfl) ?_;simp only [pk];go_wp2_with (at_builtin;refine aU ?_);refine dR ?_;refine aS rfl _ _ 27 rfl wd.heap.size 3 i0 _ 1 8 Tryz.underlying27 HIF.out hz0 hz1 hz2 rfl (.slice sp9 L cp9) L _ rfl (WL.out.alloc _) (some ⟨w5.heap.size,0,none⟩) 1 1 [.int .i64 V] rfl rfl (fun h=>by cases h) (oW (w:=w5) (n:=w5.heap.size) rfl [.int .i64 V] 3) (by simp [Value.oneCell']) (by unfold maxLen;omega) (bA (by omega)) (by have:=Kg.out.size;simp;omega) ?_;intro v7 w7 k1 k20 _ _;have BR:=Kg.out.trans (gJ WL.out k20 Kg.out.size);obtain ⟨iM,iN,rfl⟩:=aA k1;have T7:=Turn.of_below o3 (R+3) BR;have LC:=eP.out.turn T7 (fun h=>h);have d9:=LC.cell 9 _ rfl;have f9:=LC.frozen 9;obtain ⟨Fh,YQ⟩:=LC.set 9 (.slice iM (L+1) iN);have eT:Hid (∃ q az lz cz,Turn o3 q (fun x=>x=R+2111) w3 (w7.setCell ⟨Y,9,none⟩ (.slice iM (L+1) iN))/\dZ (w7.setCell ⟨Y,9,none⟩ (.slice iM (L+1) iN)) q (R+2111) Y 88 #[.int .u8 T,.slice pa pl pc,.slice ia il ic,.slice oa ol oc,.slice ka kl kc,.int .i64 N,.slice (some ⟨gb,off,none⟩) sl sc,.slice da dl dc,.int .i64 (A:Nat),.slice az lz cz,.slice ga gl gc,.int .i64 (Wh:Nat)]/\Ints (w7.setCell ⟨Y,9,none⟩ (.slice iM (L+1) iN)) q (R+3) (.slice az lz cz) ((r.aP.tasks t).hand.flatten ++ [V])) :=
    af ⟨_,iM,L+1,iN,(rU.out.trans T7 (fun _ h=>h.elim)).trans YQ (fun _ h=>h),by simpa using Fh,((Own.made o3 (R+3) (by rw [bB,List.map_append];exact k1)).vals).turn YQ (by omega)⟩
   clear k1 k20 BR T7 LC Fh YQ;go_wp2
   go_meet
   case rel=>exact eT.out
  ·
   have hbq:=au wd (.cells #[.int .i64 V] 3);have Xj:=af (bC wd [.int .i64 V] 3);have Xk:Hid (_/\_/\_/\_/\_):=af ⟨cell_later hbq EK.out.1,cell_later hbq EK.out.2.1,cell_later hbq EK.out.2.2.1,cell_later hbq EK.out.2.2.2.1,cell_later hbq EK.out.2.2.2.2⟩;have HHQ:=af (NR.out.has.below hbq);have Jl:=af hbq;clear hbq;simp only [pk];go_wp2_with fail;obtain ⟨wn,hwn⟩:∃ x,wd.alloc (.cells #[.int .i64 V] 3)=x:=⟨_,rfl⟩;obtain ⟨bn,hbn⟩:∃ x,wd.heap.size=x:=⟨_,rfl⟩;change Hid (∀ ad,some (⟨wd.heap.size,0,none⟩:Addr)=some ad->∀ j u,[Value.int .i64 V][j]?=some u->(wd.alloc (.cells #[.int .i64 V] 3)).cell? (ad.add j)=some u) at Xj;rw [hwn] at Xk HHQ Jl Xj ⊢;have HBN:=af hbn;rw [hbn] at Xj ⊢;clear hwn hbn;refine ⟨by intros;exact Xk.out,?_⟩;refine aB (i:=2) (by kernel_rfl) ?_;simp only [pk];go_wp2_with fail;refine (gW (o:=fun _=>0) (c:=0) _ ha hl hc _ HHQ.out (Nat.le_trans HL5.out (by decide))).mono ?_;rintro e w5 ⟨v9,rfl,K9,EN⟩;obtain ⟨sp9,cp9,rfl⟩:=aA K9;have VW:Hid (_/\_/\_/\_/\_):=af ⟨cell_later EN Xk.out.1,cell_later EN Xk.out.2.1,cell_later EN Xk.out.2.2.1,cell_later EN Xk.out.2.2.2.1,cell_later EN Xk.out.2.2.2.2⟩;have hn5:∀ ad,some (⟨bn,0,none⟩:Addr)=some ad->∀ j u,[Value.int .i64 V][j]?=some u->w5.cell? (ad.add j)=some u:=fun ad had j u hu=>cell_later EN (Xj.out ad had j u hu);have Ry:=af hn5;have K9':=bI K9 (base':=wd.heap.size) (fun k hk=>by have:=(K9.lt k hk).1;have:=Jl.out.size;omega);have Kg:=af (Jl.out.trans (EN.mono Jl.out.size));obtain ⟨L,hL⟩:∃ x,(r.aP.tasks t).hand.flatten.length=x:=⟨_,rfl⟩;rw [hL] at K9' ⊢;have WL:=af K9';have hL5:L<=4096:=by rw [<- hL];exact HL5.out
   clear EN K9 K9' hL hn5 Xj Xk HHQ Jl;go_wp2_with fail;refine ⟨by intros;exact VW.out,?_⟩;refine aJ (ks:=[18,19,20]) (fun _ _ hx h=>⟨hx.cell h.1,hx.cell h.2.1,hx.cell h.2.2.1,hx.cell h.2.2.2.1,hx.cell h.2.2.2.2⟩) (by kernel_rfl) ?_;simp only [pk];go_wp2_with (at_builtin;refine aU ?_);refine dR ?_;refine aS rfl _ _ 27 rfl wd.heap.size 3 i0 _ 1 8 Tryz.underlying27 HIF.out hz0 hz1 hz2 rfl (.slice sp9 L cp9) L _ rfl WL.out (some ⟨bn,0,none⟩) 1 1 [.int .i64 V] rfl rfl (fun h=>by cases h) Ry.out (by simp [Value.oneCell']) (by unfold maxLen;omega) (bA (by omega)) (by have:=Kg.out.size;omega) ?_;intro v7 w7 k1 k20 _ _;have BR:Below wd.heap.size wd w7:=Kg.out.trans ((aG.of_grownBy k20).below Kg.out.size (fun k hk e=>by have:=(WL.out.lt k e).1;omega));obtain ⟨iM,iN,rfl⟩:=aA k1;have T7:=Turn.of_below o3 (R+3) BR;have LC:=eP.out.turn T7 (fun h=>h);have d9:=LC.cell 9 _ rfl;have f9:=LC.frozen 9;obtain ⟨Fh,YQ⟩:=LC.set 9 (.slice iM (L+1) iN);have eT:Hid (∃ q az lz cz,Turn o3 q (fun x=>x=R+2111) w3 (w7.setCell ⟨Y,9,none⟩ (.slice iM (L+1) iN))/\dZ (w7.setCell ⟨Y,9,none⟩ (.slice iM (L+1) iN)) q (R+2111) Y 88 #[.int .u8 T,.slice pa pl pc,.slice ia il ic,.slice oa ol oc,.slice ka kl kc,.int .i64 N,.slice (some ⟨gb,off,none⟩) sl sc,.slice da dl dc,.int .i64 (A:Nat),.slice az lz cz,.slice ga gl gc,.int .i64 (Wh:Nat)]/\Ints (w7.setCell ⟨Y,9,none⟩ (.slice iM (L+1) iN)) q (R+3) (.slice az lz cz) ((r.aP.tasks t).hand.flatten ++ [V])) :=
    af ⟨_,iM,L+1,iN,(rU.out.trans T7 (fun _ h=>h.elim)).trans YQ (fun _ h=>h),by simpa using Fh,((Own.made o3 (R+3) (by rw [bB,List.map_append];exact k1)).vals).turn YQ (by omega)⟩
   clear k1 k20 BR T7 LC Fh YQ;go_wp2
   go_meet
   case rel=>exact eT.out
 case rest =>
  obtain ⟨q,az,lz,cz,TC,hY,hH⟩:=hcut;have Hy:=H1.out.most.1;have htl:=rP.out;replace H1:=af (H1.out.turn TC (fun k hk=>by rw [hk];unfold jY;omega));replace HXB:=af (HXB.out.turn TC (by omega));replace HT:=af (HT.out.turn TC (by omega) (by omega) (by omega));replace qG:=af (qG.out.trans TC (wV (by omega)));clear x7 y9 s0 s1 v0 TC;obtain ⟨sg',YJ,-,-,hfz,-,s0,s1⟩:=H1.out.sW HD2.out;cases YJ
  rw [HGN.out] at s1;have f1:=hfz (d*2+1);have x7:=HXB.out.cell 7 _ rfl;obtain ⟨hG1,TG⟩:=H1.out.VL HDL.out rfl HVL.out;rw [HGN.out] at hG1 TG;obtain ⟨G1,YR⟩:∃ x,Gn+1=x:=⟨_,rfl⟩;obtain ⟨B1,YS⟩:∃ x,A+1=x:=⟨_,rfl⟩;rw [YR] at hG1 TG;obtain ⟨hw1,hw2⟩:=add_one (Nat.le_trans (Nat.le_of_lt HGZ.out) HZL.out) YR;obtain ⟨hw3,hw4⟩:=add_one (Nat.le_trans (Nat.le_of_lt hlt) (Nat.le_trans hI5 (by decide))) YS;have Td:=(Turn.refl q (fun _=>False) (wc.setCell ⟨sg,d*2+1,none⟩ (.int .i64 (G1:Int)))).drew;have Ox:=af (hG1.turn Td (fun _ h=>h.elim));have HYG:=af ((hY.turn TG (by omega)).turn Td (fun h=>h));have HXG:=af ((HXB.out.turn TG (by omega)).turn Td (fun h=>h));have HTG:=af ((HT.out.turn TG (by omega) (by omega) (by omega)).turn Td (fun h=>h) (fun h=>h) (fun h=>h));have HHG:=af ((hH.turn TG (by omega)).turn Td (fun h=>h));have aaC:=af ((qG.out.trans TG (wV (by omega))).trans Td (fun _ h=>h.elim));clear hG1 TG Td YR hY hH hfz s0;have hdi:(d:Int) < aR g:=Int.ofNat_lt.2 HD2.out;go_wp2_with fail;refine aM (fun w'=>w'.cell? ⟨Z,7,none⟩=some (.slice (some ⟨sg,0,none⟩) (aR g) dz)/\w'.cell? ⟨sg,d*2+1,none⟩=some (.int .i64 (Gn:Nat))) [0,1,2,3,4,5,6,7,8,9] [10,11,12] (by kernel_rfl) (by kernel_rfl) rfl (fun _ _ hx h=>⟨hx.cell h.1,hx.cell h.2⟩) ⟨x7,s1⟩ ?_;intro Q5 hQ5;simp only [pk];refine aD ?_;refine ax ?_
  go_upto_region 9 with fail
  obtain ⟨w4,hw4⟩:∃ x,(wc.setCell ⟨sg,d*2+1,none⟩ (.int .i64 (G1:Int))).drew=x:=⟨_,rfl⟩;rw [hw4] at Ox HYG HXG HTG HHG aaC ⊢;clear hw4 f1 x7 s1;have d8:=HYG.out.cell 8 _ rfl;have f8:=HYG.out.frozen 8;obtain ⟨zC,Bp⟩:=HYG.out.set 8 (.int .i64 (B1:Int));simp only [List.setIfInBounds_toArray,List.set_cons_zero,List.set_cons_succ] at zC;have hG9:=Ox.out.turn Bp (fun k hk=>by rw [hk];unfold jY;omega);have Zq:=HXG.out.turn Bp (by omega);have BI:=HTG.out.turn Bp (by omega) (by omega) (by omega);have YO:=HHG.out.turn Bp (by omega);have Hw:oC (w4.setCell ⟨Y,8,none⟩ (.int .i64 (B1:Int))) q R g t (l8 (rI g t p) (r.aP.tasks t) V) (gv t) ⟨pa,pl,pc,ia,il,ic,oa,ol,oc,ka,kl,kc,some ⟨gb,off,none⟩,sl,sc,da,dl,dc,az,lz,cz,ga,gl,gc⟩ :=
   ⟨BI.vp,BI.vi,BI.vo,BI.vk,BI.src,BI.dst,by rw [SH.out];exact YO,fun e=>absurd (show (r.aP.tasks t).gives=true from e) (by rw [HGF.out];simp),fun e=>absurd (show (r.aP.tasks t).gives=true from e) (by rw [HGF.out];simp),GZ.out⟩
  obtain ⟨lS,lT⟩:=hG9.zU (tg:=tg) rP.out rfl Hw (fl:=none) (by unfold iK;dsimp only;rw [vT.out]);have hAt:zA (l8 (rI g t p) (r.aP.tasks t) V) (gv t)=B1:=by
   have e:(l8 (rI g t p) (r.aP.tasks t) V).gives=false:=HGF.out;unfold zA;rw [e,SH.out,List.length_append,<- Nr.out,J7.out];exact YS
  unfold taskX iw at lS lT;rw [hAt] at lS lT;dsimp only at lS lT;rw [Rl.out] at lS lT;rw [show (l8 (rI g t p) (r.aP.tasks t) V).n=N from u7.out,show (l8 (rI g t p) (r.aP.tasks t) V).whole=Wh from YE.out] at lS lT;have eT:=af lS;have YT:=af ((aaC.out.trans Bp (wV (by omega))).trans lT (wV (by omega)));obtain ⟨tg',VU,-,-,hfz,-,hcl⟩:=(hG9).pF rP.out;cases VU
  unfold taskX iw at hcl;obtain ⟨a0,a1,a2,a3,a4,a5,a6,a7,a8,a9,qF,pK⟩:=Bf hcl;have g0:=hfz (t*12);have g1:=hfz (t*12+1);have g2:=hfz (t*12+2);have g3:=hfz (t*12+3);have g4:=hfz (t*12+4);have g5:=hfz (t*12+5);have g6:=hfz (t*12+6);have g7:=hfz (t*12+7);have g8:=hfz (t*12+8);have g9:=hfz (t*12+9);have g10:=hfz (t*12+10);have g11:=hfz (t*12+11);clear hcl hfz;obtain ⟨y0,y1,y2,y3,y4,y5,y6,y7,y8,y9,OA,y11⟩:=Rh zC;have x6:=Zq.cell 6 _ rfl;clear YS zC Bp hG9 Zq BI YO Hw lS lT hAt Hy htl;go_wp2_with fail;go_ret;rw [<- HPE.out] at eT;exact ⟨_,_,_,_,_,rfl,YT.out,eT.out⟩
end
end Go.Proofs.YtepjkmnhmcjbkaaGreat
