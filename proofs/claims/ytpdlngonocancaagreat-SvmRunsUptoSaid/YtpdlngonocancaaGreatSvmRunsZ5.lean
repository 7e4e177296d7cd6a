import Derived.Test.YtpdlngonocancaaGreatSvmRunsZ4
import Derived.Test.YtpdlngonocancaaGreatSvmRunsZ2
import Derived.Test.YtpdlngonocancaaGreatSvmRunsZ1
import Derived.Test.YtpdlngonocancaaGreatSvmRunsZ3
set_option linter.unusedVariables false
set_option linter.unusedSimpArgs false
set_option maxRecDepth 100000
set_option maxHeartbeats 20000000
namespace Go.Proofs.YtpdlngonocancaaGreat
open Go.RowKit
theorem yN {N:Nat}{w w':World}(h:Below N w.drew w'):Below N w w':=⟨h.os,h.tape,h.output,h.size,h.block⟩
theorem Wl (w:World)(o:Col)(c:Nat)(a1 a2 a3 a4:Option Addr)(n1 n2 n3 n4 c1 c2 c3 c4:Nat)(bL:Value)(n x:Int)(ps keep:List Int)
  (hk:Has w (.slice a4 n4 c4) (aV keep)) (hp:Has w (.slice a1 n1 c1) (aV ps)) (hl:ps.length=keep.length+1) (Ra:ps.length≤16) (hfp:∀ z∈ps,Fits z) (Ep:∀ z∈keep,Fits z) (hx:Fits x) (hins:LL w bL [[x]]) :
  Calls Tryz.prog 103 #[.agg #[.int .u8 1,.slice a1 n1 c1,.slice a2 n2 c2,.slice a3 n3 c3,.slice a4 n4 c4,.int .i64 n],bL] w (dL w o c 1 (.slice a1 n1 c1) (.slice a2 n2 c2) (.slice a3 n3 c3) (.slice a4 n4 c4) n ((mE 0 ps (x :: keep)).map fun y=>([[y]],(x :: keep).take keep.length))):=by
 obtain ⟨ia,ic,rfl⟩:=hins.slice;obtain ⟨bi,oi,rfl,hci,hrow⟩:=hins.at (by simp);obtain ⟨a0,c0,hr0,hh0⟩:=hrow 0 (by simp);simp only [List.length_cons,List.length_nil,List.getElem?_cons_zero,Option.getD_some,Nat.add_zero,Nat.zero_add] at hr0 hh0 hci ⊢;obtain ⟨b0,o0,rfl,-,hc0,-,-,hx0⟩:=dn.at hh0 (by simp);have hx1:=hx0 0 (by simp);simp at hx1;have hbi:bi < w.heap.size:=World.block_lt_of_cell? _ _ hr0;have hbo:b0 < w.heap.size:=World.block_lt_of_cell? _ _ hx1;have EG:(1:Int)≤ic:=by omega
 have QY:(1:Int)≤c0:=by omega
 obtain ⟨r,hr⟩:∃ r,(mE 0 ps (x :: keep)).map (fun y=>([[y]],(x :: keep).take keep.length))=r:=⟨_,rfl⟩
 have HC:=Lib.hid (fun (W:World) (hbW:Below w.heap.size w W)=>GL W (ext o w.heap.size (c+1)) c a1 a2 a3 a4 n1 n2 n3 n4 c1 c2 c3 c4 n x ps keep (hk.below hbW) (hp.below hbW) hl Ra hfp Ep hx);rw [hr] at HC ⊢;have S0:=qw w (.int .u8 1) (.slice a1 n1 c1) (.slice a2 n2 c2) (.slice a3 n3 c3) (.slice a4 n4 c4) (.int .i64 n) 83;obtain ⟨A,hA⟩:∃ A,A=Obj.cells #[.int .u8 1,.slice a1 n1 c1,.slice a2 n2 c2,.slice a3 n3 c3,.slice a4 n4 c4,.int .i64 n] 83:=⟨_,rfl⟩
 obtain ⟨B,hB⟩:∃ B,B=Obj.cells #[.int .u8 0,.slice none 0 0,.slice none 0 0,.slice none 0 0,.slice none 0 0,.int .i64 0] 83:=⟨_,rfl⟩
 have hbW:Below w.heap.size w ((w.alloc A).alloc B):=(au w _).alloc (by simp) _;have hB0:=heap_alloc_new (w.alloc A) B;rw [World.size_alloc] at hB0;have H0:=Lib.hid (cell_later hbW hr0);have H1:=Lib.hid (cell_later hbW hx1);rw [← hA] at S0;have HS:=Lib.hid (S0.alloc B);subst hA hB;have dP:=Lib.hid hbW;have HB0:=Lib.hid hB0;clear hbW hB0 hr hk hp hl Ra hfp Ep hx hins hrow hr0 hh0 hx0 hx1 S0
 rcases r with _ | ⟨outs,keep'⟩
 ·
  go_enter Tryz.func103,Tryz.ntmps103
  go_wp2_with fail
  refine oP (fun w'=>Cq w' w.heap.size (.int .u8 1) (.slice a1 n1 c1) (.slice a2 n2 c2) (.slice a3 n3 c3) (.slice a4 n4 c4) (.int .i64 n)∧w'.cell? ⟨bi,oi,none⟩=some (.slice (some ⟨b0,o0,none⟩) 1 c0)∧w'.cell? ⟨b0,o0,none⟩=some (.int .i64 x)) [0,1,2,3,4,5] 6 [7,8,9] [6,10] 3 (by kernel_rfl) (by kernel_rfl) rfl ⟨HS.out,H0.out,H1.out⟩ ?_;intro Q' hQ';simp only [pk];refine aA ?_;refine av ?_
  go_wp2_with fail
  refine (HC.out _ (gG dP.out)).mono ?_;rintro e w3 ⟨rfl,hb3⟩;have JR:=yN hb3;have bf:=aT HB0.out (aI.of_below JR (fun _=>False)) (fun h=>h);have q0:=ah _ _ bf 0 _ rfl;have q1:=ah _ _ bf 1 _ rfl;have q2:=ah _ _ bf 2 _ rfl;have q3:=ah _ _ bf 3 _ rfl;have q4:=ah _ _ bf 4 _ rfl;have q5:=ah _ _ bf 5 _ rfl;have r0:=aj bf 0;have r1:=aj bf 1;have r2:=aj bf 2;have r3:=aj bf 3;have r4:=aj bf 4;have r5:=aj bf 5;have HB3:=Lib.hid JR;have fU:=Lib.hid bf;have oQ:=Lib.hid hb3;clear hb3 JR bf;go_wp2;refine ⟨⟨HS.out.below HB3.out,cell_later HB3.out H0.out,cell_later HB3.out H1.out⟩,?_⟩;refine aA ?_;refine av ?_;refine aG (i:=10) (by kernel_rfl) ?_;simp only [pk];go_wp2;refine ⟨fun _ hS=>La hS (by omega) (by show bi≠_;omega) (by show b0≠_;omega),?_⟩;refine bg (ks:=[11,12]) (fun _ _ hx h=>⟨h.1.ext hx,hx.cell h.2.1,hx.cell h.2.2⟩) (by kernel_rfl) ?_;simp only [pk];go_wp2;have bf:=fU.out;have hK:=block_setCell (block_setCell (block_setCell (block_setCell (block_setCell (block_setCell bf 0 (.int .u8 1)) 1 (.slice a1 n1 c1)) 2 (.slice a2 n2 c2)) 3 (.slice a3 n3 c3)) 4 (.slice a4 n4 c4)) 5 (.int .i64 n);refine bodyPost_ret_by (aJ rfl _ _ _ _ _ _ _ rfl hK Tryz.underlying83 rfl (by kernel_rfl)) rfl ?_;exact kW (gG dP.out) oQ.out (kV (aI.refl _ _) rfl)
 ·
  go_enter Tryz.func103,Tryz.ntmps103
  go_wp2_with fail
  refine oP (fun w'=>Cq w' w.heap.size (.int .u8 1) (.slice a1 n1 c1) (.slice a2 n2 c2) (.slice a3 n3 c3) (.slice a4 n4 c4) (.int .i64 n)∧w'.cell? ⟨bi,oi,none⟩=some (.slice (some ⟨b0,o0,none⟩) 1 c0)∧w'.cell? ⟨b0,o0,none⟩=some (.int .i64 x)) [0,1,2,3,4,5] 6 [7,8,9] [6,10] 3 (by kernel_rfl) (by kernel_rfl) rfl ⟨HS.out,H0.out,H1.out⟩ ?_;intro Q' hQ';simp only [pk];refine aA ?_;refine av ?_
  go_wp2_with fail
  refine (HC.out _ (gG dP.out)).mono ?_;rintro e w3 ⟨ov,Dx,rfl,hk',ho,hb3⟩;obtain ⟨ak,ck,rfl⟩:=hk'.slice;obtain ⟨ao,co,rfl⟩:=ho.ll.slice;have JR:=yN hb3;have bf:=aT HB0.out (aI.of_below JR (fun _=>False)) (fun h=>h);have q0:=ah _ _ bf 0 _ rfl;have q1:=ah _ _ bf 1 _ rfl;have q2:=ah _ _ bf 2 _ rfl;have q3:=ah _ _ bf 3 _ rfl;have q4:=ah _ _ bf 4 _ rfl;have q5:=ah _ _ bf 5 _ rfl;have r0:=aj bf 0;have r1:=aj bf 1;have r2:=aj bf 2;have r3:=aj bf 3;have r4:=aj bf 4;have r5:=aj bf 5;have HB3:=Lib.hid JR;have fU:=Lib.hid bf;have oQ:=Lib.hid hb3;have A9:=Lib.hid hk';have HO:=Lib.hid ho;clear hb3 JR bf hk' ho;go_wp2;refine ⟨⟨HS.out.below HB3.out,cell_later HB3.out H0.out,cell_later HB3.out H1.out⟩,?_⟩;refine aA ?_;refine av ?_;refine aG (i:=10) (by kernel_rfl) ?_;simp only [pk];go_wp2;refine ⟨fun _ hS=>La hS (by omega) (by show bi≠_;omega) (by show b0≠_;omega),?_⟩;refine bg (ks:=[11,12]) (fun _ _ hx h=>⟨h.1.ext hx,hx.cell h.2.1,hx.cell h.2.2⟩) (by kernel_rfl) ?_;simp only [pk];go_wp2;have bf:=fU.out;have hK:=block_setCell (block_setCell (block_setCell (block_setCell (block_setCell (block_setCell bf 0 (.int .u8 1)) 1 (.slice a1 n1 c1)) 2 (.slice a2 n2 c2)) 3 (.slice a3 n3 c3)) 4 (.slice ak keep'.length ck)) 5 (.int .i64 n);refine bodyPost_ret_by (aJ rfl _ _ _ _ _ _ _ rfl hK Tryz.underlying83 rfl (by kernel_rfl)) rfl ?_;exact pK (gG dP.out) (by simp) oQ.out A9.out HO.out (kV (aI.refl _ _) rfl)
theorem MX (w:World)(t n:Int)(vp vi vo vk bL:Value)(xss:List (List Int))(L:List Int)(hL:L.length≤64)(hi:Has w vi (aV L))(hins:LL w bL xss) :
  Calls Tryz.prog 102 #[.agg #[.int .u8 t,vp,vi,vo,vk,.int .i64 n],bL] w fun e w'=>e=.returned (.bool (decide (xss.map (fun l=>(l.length:Int))=L)))∧Below w.heap.size w w':=by
 obtain ⟨ia,ic,rfl⟩:=hins.slice;obtain ⟨va,vc,rfl⟩:=hi.slice;rw [aD] at hi ⊢
 by_cases hlen:xss.length=L.length
 ·
  have HL:=Lib.hid hlen;have XI:(xss.length:Int)=L.length:=by omega
  have hlb:(xss.length:Int)≤64:=by omega
  have Ye:=Lib.hid XI;have HI:=Lib.hid hi;have HX:=Lib.hid hins;have hb0:=au w (.cells #[.int .u8 t,vp,.slice va L.length vc,vo,vk,.int .i64 n] 83);have HB0:=Lib.hid hb0;rw [← hlen];clear hlen hi hins XI hb0
  go_enter Tryz.func102,Tryz.ntmps102
  go_wp2_with fail
  go_loopw [5] (fun i wr=>∃ j:Nat,j≤xss.length∧i=.int .i64 j∧(∃ m,wr=(w.alloc (.cells #[.int .u8 t,vp,.slice va xss.length vc,vo,vk,.int .i64 n] 83)).drewN m)∧∀ k,k < j→((xss[k]?.getD []).length:Int)=L[k]?.getD 0) (fun i _=>xss.length - (intOf i).toNat)
  case atStart=>exact ⟨0,Nat.zero_le _,rfl,⟨0,rfl⟩,fun k hk=>by omega⟩
  case round =>
   obtain ⟨j,hj,rfl,⟨m,rfl⟩,hall⟩:=hrel;have Ju:=Lib.hid hall;clear hall
   by_cases hjn:j < xss.length
   ·
    have Vo:(j:Int) < xss.length:=by omega
    obtain ⟨bi,oi,ie,hci,hrow⟩:=HX.out.at (by omega);subst ie;obtain ⟨a0,c0,hr0,-⟩:=hrow j hjn;obtain ⟨gb,go,eg,-,hcR,-,-,hcell⟩:=dn.at HI.out (by rw [aD];have:=HL.out;omega);subst eg;have hx:=hcell j (by rw [aD];have:=HL.out;omega);rw [iy (by have:=HL.out;omega)] at hx;have hr1:=cell_later HB0.out hr0;have hx1:=cell_later HB0.out hx;rw [← HL.out] at hr1 hx1;have Zl:(xss.length:Int)≤vc:=by have:=HL.out;omega
    have aaJ:(xss.length:Int)≤ic:=by omega
    have jL:=Lib.hid (fun h=>Ql (R:=L) hjn h);have HST:=Lib.hid (fun (h:((xss[j]?.getD []).length:Int)=L[j]?.getD 0) k (hk:k < j+1)=>(by
     by_cases hkj:k=j
     ·
      rw [hkj];exact h
     ·
      exact Ju.out k (by omega):((xss[k]?.getD []).length:Int)=L[k]?.getD 0))
    clear hrow hcell hr0 hx;generalize (xss[j]?.getD []).length=lm at *;generalize L[j]?.getD 0=rm at *
    by_cases hq:(lm:Int)=rm
    ·
     have HQ:=Lib.hid (HST.out hq);clear HST;subst hq;go_wp2;go_quiet (fail);go_wp2;go_roundw
     case rel=>exact ⟨j+1,by omega,by go_num,⟨_,rfl⟩,HQ.out⟩
     case measure=>simp [intOf];omega
    ·
     go_wp2;go_quiet (fail);go_wp2;go_ret
     rw [jL.out hq];exact ⟨rfl,fw (fw (au w _) _) _⟩
   ·
    obtain rfl:j=xss.length:=by omega
    have yO:=Lib.hid (KW HL.out Ju.out);clear Ju;go_wp2;go_ret
    rw [yO.out,decide_eq_true rfl];exact ⟨rfl,fw (au w _) _⟩
 ·
  have XI:¬ (xss.length:Int)=L.length:=by omega
  have ou:Hid (decide (xss.map (fun l=>(l.length:Int))=L)=false):=Lib.hid (decide_eq_false fun e=>hlen (by have:=congrArg List.length e;simpa using this));clear hlen hi hins
  go_enter Tryz.func102,Tryz.ntmps102
  go_wp2;go_ret
  rw [ou.out];exact ⟨rfl,au w _⟩
structure Kp (t:Int) (ps keep:List Int):Prop where
 good:aF t ps
 Cj:∀ x∈ps,Fits x
 ql:∀ x∈keep,Fits x
 nU:t=1→ps.length=keep.length+1
 mH:t=8∨t=10→keep.length=1
theorem Rh {ps:List Int}(h:ps.length=1):ps=[hd ps]:=one_num (by omega)
theorem JS {ps:List Int}(h:ps.length=2):ps=[hd ps,hd1 ps]:=by
 match ps,h with
 | [x,y],_=>rfl
theorem MZ {w:World}{o:Col}{c:Nat}{t n:Int}{vp vi vo vk bL:Value}{ps keep:List Int}{xss:List (List Int)}{li lo:List Int}(hK:Kp t ps keep)(hp:Has w vp (aV ps))(hvi:Has w vi (aV li))(Gb:Has w vo (aV lo))(hk:Ints w o c vk keep)(hins:LL w bL xss)
  (hlen:xss.map (fun l=>(l.length:Int))=bT t ps) (hf:∀ l∈xss,∀ x∈l,Fits x) :
  Calls Tryz.prog 103 #[.agg #[.int .u8 t,vp,vi,vo,vk,.int .i64 n],bL] w (dL w o c t vp vi vo vk n (fK t ps keep xss)):=by
 obtain ⟨a1,c1,rfl⟩:=hp.slice;obtain ⟨a2,c2,rfl⟩:=hvi.slice;obtain ⟨a3,c3,rfl⟩:=Gb.slice;obtain ⟨a4,c4,rfl⟩:=hk.slice;obtain ⟨ia,ic,rfl⟩:=hins.slice;have hg:=hK.good
 rcases lW hg with rfl | rfl | rfl | rfl | rfl | rfl | rfl | rfl | rfl | rfl | rfl
 ·
  obtain ⟨l,rfl,hl⟩:=jS hlen;obtain ⟨x,rfl⟩:∃ x,l=[x]:=⟨_,one_num hl⟩
  have hg1:1≤ps.length∧ps.length≤16:=by unfold aF at hg;omega
  exact Wl w o c a1 a2 a3 a4 _ _ _ _ c1 c2 c3 c4 _ n x ps keep hk.has hp (hK.nU rfl) hg1.2 hK.Cj hK.ql (hf [x] (by simp) x (by simp)) hins
 ·
  have h1:bS ps 64:=by simpa [aF] using hg
  obtain ⟨l,rfl,hl⟩:=jS hlen;obtain ⟨x,rfl⟩:∃ x,l=[x]:=⟨_,one_num hl⟩
  obtain ⟨u,hu⟩:∃ u:Nat,hd ps=u:=⟨(hd ps).toNat,by have:=h1.2;omega⟩
  have hu2:=h1.2;rw [hu] at hu2;have hps:=Rh h1.1;rw [hu] at hps;have e:fK 2 ps keep [[x]]=some ([x :: List.replicate (u - 1) 0],keep):=by
   show some ([x :: List.replicate ((hd ps).toNat - 1) 0],keep)=_
   rw [hu,Int.toNat_natCast]
  rw [e];exact V7 w o c a1 a2 a3 a4 _ _ _ _ c1 c2 c3 c4 _ n x u keep hk (by rw [hps] at hp ⊢;exact hp) hins (by omega) (by omega)
 ·
  obtain ⟨l,rfl,hl⟩:=jS hlen;have h1:bS ps 64:=by simpa [aF] using hg
  exact V4 w o c a1 a2 a3 a4 _ _ _ _ c1 c2 c3 c4 _ n l keep hk hins (by have:=h1.2;omega)
 ·
  have h1:bD ps:=by simpa [aF] using hg
  obtain ⟨h2,h3,h4,h5⟩:=h1;obtain ⟨u,hu⟩:∃ u:Nat,hd ps=u:=⟨(hd ps).toNat,by omega⟩
  obtain ⟨m,hm⟩:∃ u:Nat,hd1 ps=u:=⟨(hd1 ps).toNat,by omega⟩
  have hps:=JS h2;rw [hu,hm] at hps;have hlen':xss.map (fun l=>(l.length:Int))=List.replicate u (m:Int):=by rw [hlen];simp [bT,hu,hm]
  have hxl:xss.length=u:=by have:=congrArg List.length hlen';simpa using this
  have hall:∀ l∈xss,l.length=m:=fun l hl=>by
   have:(l.length:Int)∈xss.map (fun l=>(l.length:Int)):=List.mem_map.2 ⟨l,hl,rfl⟩;rw [hlen'] at this;have:=(List.mem_replicate.1 this).2;omega
  have e:fK 4 ps keep xss=some ([dz xss m],keep):=by
   show some ([dz xss (hd1 ps).toNat],keep)=_
   rw [hm,Int.toNat_natCast]
  rw [e];exact V5 w o c a1 a2 a3 a4 _ _ _ _ c1 c2 c3 c4 _ n u m keep xss hk (by rw [hps] at hp ⊢;exact hp) hins (by omega) (by omega) hxl hall
 ·
  have h1:bD ps:=by simpa [aF] using hg
  obtain ⟨h2,h3,h4,h5⟩:=h1;obtain ⟨u,hu⟩:∃ u:Nat,hd ps=u:=⟨(hd ps).toNat,by omega⟩
  obtain ⟨m,hm⟩:∃ u:Nat,hd1 ps=u:=⟨(hd1 ps).toNat,by omega⟩
  obtain ⟨l,rfl,hl⟩:=jS hlen;have hps:=JS h2;rw [hu,hm] at hps;have e:fK 5 ps keep [l]=some (fF u m l,keep):=by
   show some (fF (hd ps).toNat (hd1 ps).toNat l,keep)=_
   rw [hu,hm,Int.toNat_natCast,Int.toNat_natCast]
  rw [e];exact V6 w o c a1 a2 a3 a4 _ _ _ _ c1 c2 c3 c4 _ n u m keep l hk (by rw [hps] at hp ⊢;exact hp) hins (by omega) (by omega) (by rw [hu,hm] at hl;exact_mod_cast hl)
 ·
  have h1:bS ps 16:=by simpa [aF] using hg
  have hlen':xss.map (fun l=>(l.length:Int))=List.replicate (hd ps).toNat 1:=hlen;have hxl:xss.length=(hd ps).toNat:=by have:=congrArg List.length hlen';simpa using this
  have hall:∀ l∈xss,l.length=1:=fun l hl=>by
   have:(l.length:Int)∈xss.map (fun l=>(l.length:Int)):=List.mem_map.2 ⟨l,hl,rfl⟩;rw [hlen'] at this;have:=(List.mem_replicate.1 this).2;omega
  exact GN w o c a1 a2 a3 a4 _ _ _ _ c1 c2 c3 c4 ia _ ic n _ (fun W hb=>Wj W _ c a1 a2 a3 a4 _ _ _ _ c1 c2 c3 c4 _ n keep xss (hk.turn (Turn.of_below o (c+1) hb) (fun h=>h)) (hins.below hb) hall (by have:=h1.2;omega) hf)
 ·
  obtain ⟨x,y,rfl⟩:=Gh hlen;exact GQ w o c a1 a2 a3 a4 _ _ _ _ c1 c2 c3 c4 ia _ ic n _ (fun W hb=>Wd W _ c a1 a2 a3 a4 _ _ _ _ c1 c2 c3 c4 _ n x y keep (hk.turn (Turn.of_below o (c+1) hb) (fun h=>h)) (hins.below hb) (hf [x] (by simp) x (by simp)) (hf [y] (by simp) y (by simp)))
 ·
  obtain ⟨l,rfl,hl⟩:=jS hlen;obtain ⟨x,rfl⟩:∃ x,l=[x]:=⟨_,one_num hl⟩
  have hkk:keep=[hd keep]:=one_num (by have:=hK.mH (.inl rfl);omega);have Ep:Fits (hd keep):=hK.ql _ (by rw [hkk];exact List.mem_cons_self);exact GU w o c a1 a2 a3 a4 _ _ _ _ c1 c2 c3 c4 ia _ ic n _ (fun W hb=>Wh W _ c a1 a2 a3 a4 _ _ _ _ c1 c2 c3 c4 _ n x (hd keep) (by rw [← hkk];exact hk.turn (Turn.of_below o (c+1) hb) (fun h=>h)) (hins.below hb) (hf [x] (by simp) x (by simp)) Ep)
 ·
  have h1:bS ps 16:=by simpa [aF] using hg
  obtain ⟨l,rfl,hl⟩:=jS hlen;obtain ⟨x,rfl⟩:∃ x,l=[x]:=⟨_,one_num hl⟩
  obtain ⟨u,hu⟩:∃ u:Nat,hd ps=u:=⟨(hd ps).toNat,by have:=h1.2;omega⟩
  have hu2:=h1.2;rw [hu] at hu2;have hps:=Rh h1.1;rw [hu] at hps;have e:fK 9 ps keep [[x]]=some (List.replicate u [x],keep):=by
   show some (List.replicate (hd ps).toNat [x],keep)=_
   rw [hu,Int.toNat_natCast]
  rw [e];exact V9 w o c a1 a2 a3 a4 _ _ _ _ c1 c2 c3 c4 _ n x u keep hk (by rw [hps] at hp ⊢;exact hp) hins (by omega)
 ·
  have h2:ps.length=2:=by unfold aF at hg;omega
  have hfp:Fits (hd1 ps):=hK.Cj _ (by unfold hd1;rw [List.getElem?_eq_getElem (by omega),Option.getD_some];exact List.getElem_mem _);have hkk:keep=[hd keep]:=one_num (by have:=hK.mH (.inr rfl);omega);have Ep:Fits (hd keep):=hK.ql _ (by rw [hkk];exact List.mem_cons_self);exact EI w o c a1 a2 a3 a4 _ _ _ _ c1 c2 c3 c4 ia _ ic n _ (fun W hb=>Rf W _ c a1 a2 a3 a4 _ _ _ _ c1 c2 c3 c4 _ n (hd ps) (hd1 ps) (hd keep) (by rw [← hkk];exact hk.turn (Turn.of_below o (c+1) hb) (fun h=>h)) (by rw [← JS h2];exact hp.below hb) hfp Ep)
 ·
  exact QX w o c a1 a2 a3 a4 _ _ _ _ c1 c2 c3 c4 _ n keep hk
def uG (w:World)(o:Col)(c:Nat)(v:Value)(t:Int)(ps keep:List Int)(n:Int):Prop :=
 ∃ vp vi vo vk,v=.agg #[.int .u8 t,vp,vi,vo,vk,.int .i64 n]∧Ints w o c vp ps∧Ints w o c vi (bT t ps)∧Ints w o c vo (bP t ps)∧Ints w o c vk keep
theorem uG.turn {w w':World}{o o':Col}{C:Nat→Prop}{c:Nat}{v:Value}{t:Int}{ps keep:List Int}{n:Int}(h:uG w o c v t ps keep n)(T:Turn o o' C w w')(hc:¬ C c):uG w' o' c v t ps keep n:=by
 obtain ⟨vp,vi,vo,vk,h0,h1,h2,h3,h4⟩:=h;exact ⟨vp,vi,vo,vk,h0,h1.turn T hc,h2.turn T hc,h3.turn T hc,h4.turn T hc⟩
def JU (w:World)(o:Col)(c:Nat)(v:Value)(t:Int)(ps:List Int)(n:Int)(fit:Bool)(r:Option (List (List Int) × List Int))(e:Ending)(w':World):Prop :=
 match fit,r with
 | false,_=>e=.returned (.tuple #[v,.slice none 0 0,.int .i64 1])∧Below w.heap.size w w'
 | true,none=>e=.returned (.tuple #[v,.slice none 0 0,.int .i64 70])∧Below w.heap.size w w'
 | true,some (outs,keep')=>∃ v' ov,e=.returned (.tuple #[v',ov,.int .i64 0])∧uG w' (ext o w.heap.size c) c v' t ps keep' (n+1)∧uV w' (ext o w.heap.size c) c ov outs∧Below w.heap.size w w'
theorem Na {w w3 w4 w5:World}{o:Col}{c:Nat}{t n:Int}{vp vi vo Dx ov v:Value}{ps keep':List Int}{outs:List (List Int)}(h1:Ints w o c vp ps)(h2:Ints w o c vi (bT t ps))(h3:Ints w o c vo (bP t ps))
  (hb3:Below w.heap.size w w3) (hs:w.heap.size+2≤w3.heap.size) (hb4:Below w3.heap.size w3 w4) (hk:Ints w4 (ext (ext o w.heap.size (c+1)) w3.heap.size c) c Dx keep') (ho:uV w4 (ext (ext o w.heap.size (c+1)) w3.heap.size c) c ov outs) (hM:aI (fun k=>k=w.heap.size+1) w4 w5) :
  JU w o c v t ps n true (some (outs,keep')) (.returned (.tuple #[.agg #[.int .u8 t,vp,vi,vo,Dx,.int .i64 (n+1)],ov,.int .i64 0])) w5:=by
 have hb:=hb3.trans (hb4.mono hb3.size);have hB:Below w.heap.size w w5:=hb.trans (hM.below hb.size (fun k hk e=>by omega));have T:Turn (ext (ext o w.heap.size (c+1)) w3.heap.size c) (ext (ext o w.heap.size (c+1)) w3.heap.size c) (fun x=>x=c+1) w4 w5:=⟨hM.mono (fun k _ e=>by
  subst e;rw [bX (by omega),aW (by omega)]),fun _ _=>rfl⟩
 have hc:∀ k,k < w5.heap.size→ext (ext o w.heap.size (c+1)) w3.heap.size c k=c→ext o w.heap.size c k=c:=fun k _ e=>by
  by_cases h:k < w.heap.size
  ·
   rw [bX (by omega),bX h] at e;rw [bX h];exact e
  ·
   exact aW (by omega)
 have T0:=Turn.of_below o c hB;exact ⟨_,ov,rfl,⟨vp,vi,vo,Dx,rfl,h1.turn T0 (fun h=>h),h2.turn T0 (fun h=>h),h3.turn T0 (fun h=>h),(hk.turn T (by omega)).dS hc⟩,(ho.turn T (by omega)).dS hc,hB⟩
theorem Nb (w:World)(o:Col)(c:Nat)(t n:Int)(a1 a2 a3 a4:Option Addr)(m1 m2 m3 m4 c1 c2 c3 c4:Nat)(ia:Option Addr)(il ic:Nat)(ps keep:List Int)(fit:Bool)(r:Option (List (List Int) × List Int))(hn1:Fits (n+1))
  (h1:Ints w o c (.slice a1 m1 c1) ps) (h2:Ints w o c (.slice a2 m2 c2) (bT t ps)) (h3:Ints w o c (.slice a3 m3 c3) (bP t ps))
  (hfits:∀ W,Below w.heap.size w W→Calls Tryz.prog 102 #[.agg #[.int .u8 t,.slice a1 m1 c1,.slice a2 m2 c2,.slice a3 m3 c3,.slice a4 m4 c4,.int .i64 n],.slice ia il ic] W fun e w'=>e=.returned (.bool fit)∧Below W.heap.size W w')
  (hdone:fit=true→∀ W,Below w.heap.size w W→Calls Tryz.prog 103 #[.agg #[.int .u8 t,.slice a1 m1 c1,.slice a2 m2 c2,.slice a3 m3 c3,.slice a4 m4 c4,.int .i64 n],.slice ia il ic] W (dL W (ext o w.heap.size (c+1)) c t (.slice a1 m1 c1) (.slice a2 m2 c2) (.slice a3 m3 c3) (.slice a4 m4 c4) n r)) :
  Calls Tryz.prog 100 #[.agg #[.int .u8 t,.slice a1 m1 c1,.slice a2 m2 c2,.slice a3 m3 c3,.slice a4 m4 c4,.int .i64 n],.slice ia il ic] w (JU w o c (.agg #[.int .u8 t,.slice a1 m1 c1,.slice a2 m2 c2,.slice a3 m3 c3,.slice a4 m4 c4,.int .i64 n]) t ps n fit r):=by
 have HF:=Lib.hid hfits;have HD:=Lib.hid hdone;have H1:=Lib.hid h1;have H2:=Lib.hid h2;have H3:=Lib.hid h3;have HN1:=Lib.hid hn1;clear hfits hdone h1 h2 h3 hn1;obtain ⟨A,hA⟩:∃ A,A=Obj.cells #[.int .u8 t,.slice a1 m1 c1,.slice a2 m2 c2,.slice a3 m3 c3,.slice a4 m4 c4,.int .i64 n] 83:=⟨_,rfl⟩
 obtain ⟨B,hB⟩:∃ B,B=Obj.cells #[.int .u8 0,.slice none 0 0,.slice none 0 0,.slice none 0 0,.slice none 0 0,.int .i64 0] 83:=⟨_,rfl⟩
 have hbW:Below w.heap.size w ((w.alloc A).alloc B):=(au w _).alloc (by simp) _;have hB0:=heap_alloc_new (w.alloc A) B;have VZ:=aK (heap_alloc_new w A) B;rw [World.size_alloc] at hB0;subst hA hB;have dP:=Lib.hid hbW;have HB0:=Lib.hid hB0;have MV:=Lib.hid VZ;clear hbW hB0 VZ;cases fit with
 | false =>
  go_enter Tryz.func100,Tryz.ntmps100
  go_wp2_with fail
  refine (HF.out _ dP.out).mono ?_;rintro e w3 ⟨rfl,hb3⟩;have bf:=aT HB0.out (aI.of_below hb3 (fun _=>False)) (fun h=>h);have tJ:=aT MV.out (aI.of_below hb3 (fun _=>False)) (fun h=>h);have q0:=ah _ _ bf 0 _ rfl;have q1:=ah _ _ bf 1 _ rfl;have q2:=ah _ _ bf 2 _ rfl;have q3:=ah _ _ bf 3 _ rfl;have q4:=ah _ _ bf 4 _ rfl;have q5:=ah _ _ bf 5 _ rfl;have r0:=aj bf 0;have r1:=aj bf 1;have r2:=aj bf 2;have r3:=aj bf 3;have r4:=aj bf 4;have r5:=aj bf 5;have s0:=ah _ _ tJ 0 (.int .u8 t) rfl;have s1:=ah _ _ tJ 1 (.slice a1 m1 c1) rfl;have s2:=ah _ _ tJ 2 (.slice a2 m2 c2) rfl;have s3:=ah _ _ tJ 3 (.slice a3 m3 c3) rfl;have s4:=ah _ _ tJ 4 (.slice a4 m4 c4) rfl;have s5:=ah _ _ tJ 5 (.int .i64 n) rfl;have HB3:=Lib.hid hb3;have fU:=Lib.hid bf;clear hb3 bf tJ;go_wp2;have bf:=fU.out;have hK:=block_setCell (block_setCell (block_setCell (block_setCell (block_setCell (block_setCell bf 0 (.int .u8 t)) 1 (.slice a1 m1 c1)) 2 (.slice a2 m2 c2)) 3 (.slice a3 m3 c3)) 4 (.slice a4 m4 c4)) 5 (.int .i64 n);refine bodyPost_ret_by (aJ rfl _ _ _ _ _ _ _ rfl hK Tryz.underlying83 rfl (by kernel_rfl)) rfl ?_;have hb:=dP.out.trans (HB3.out.mono dP.out.size);exact ⟨rfl,hb.trans ((kV (aI.refl (fun k=>k=w.heap.size+1) w3) rfl).below hb.size (fun k hk e=>by omega))⟩
 | true =>
  rcases r with _ | ⟨outs,keep'⟩
  ·
   go_enter Tryz.func100,Tryz.ntmps100
   go_wp2_with fail
   refine (HF.out _ dP.out).mono ?_;rintro e w3 ⟨rfl,hb3⟩;have tJ:=aT MV.out (aI.of_below hb3 (fun _=>False)) (fun h=>h);have s0:=ah _ _ tJ 0 (.int .u8 t) rfl;have s1:=ah _ _ tJ 1 (.slice a1 m1 c1) rfl;have s2:=ah _ _ tJ 2 (.slice a2 m2 c2) rfl;have s3:=ah _ _ tJ 3 (.slice a3 m3 c3) rfl;have s4:=ah _ _ tJ 4 (.slice a4 m4 c4) rfl;have s5:=ah _ _ tJ 5 (.int .i64 n) rfl;have HB3:=Lib.hid hb3;have HAA:=Lib.hid tJ;have nV:=Lib.hid (dP.out.trans (hb3.mono dP.out.size));clear hb3 tJ
   go_wp2_with fail
   refine (HD.out (by first | rfl | trivial) _ nV.out).mono ?_;rintro e w4 ⟨rfl,hb4⟩;clear s0 s1 s2 s3 s4 s5;have hB4:=aT (aT HB0.out (aI.of_below HB3.out (fun _=>False)) (fun h=>h)) (aI.of_below hb4 (fun _=>False)) (fun h=>h);have bf:=aK hB4 (.cells #[.int .u8 t,.slice a1 m1 c1,.slice a2 m2 c2,.slice a3 m3 c3,.slice a4 m4 c4,.int .i64 n] 83);have tJ:=aK (aT HAA.out (aI.of_below hb4 (fun _=>False)) (fun h=>h)) (.cells #[.int .u8 t,.slice a1 m1 c1,.slice a2 m2 c2,.slice a3 m3 c3,.slice a4 m4 c4,.int .i64 n] 83);have q0:=ah _ _ bf 0 _ rfl;have q1:=ah _ _ bf 1 _ rfl;have q2:=ah _ _ bf 2 _ rfl;have q3:=ah _ _ bf 3 _ rfl;have q4:=ah _ _ bf 4 _ rfl;have q5:=ah _ _ bf 5 _ rfl;have r0:=aj bf 0;have r1:=aj bf 1;have r2:=aj bf 2;have r3:=aj bf 3;have r4:=aj bf 4;have r5:=aj bf 5;have s0:=ah _ _ tJ 0 (.int .u8 t) rfl;have s1:=ah _ _ tJ 1 (.slice a1 m1 c1) rfl;have s2:=ah _ _ tJ 2 (.slice a2 m2 c2) rfl;have s3:=ah _ _ tJ 3 (.slice a3 m3 c3) rfl;have s4:=ah _ _ tJ 4 (.slice a4 m4 c4) rfl;have s5:=ah _ _ tJ 5 (.int .i64 n) rfl;have fU:=Lib.hid bf;have ZP:=Lib.hid (nV.out.trans (hb4.mono nV.out.size));clear hb4 bf tJ hB4;go_wp2;have bf:=fU.out;have hK:=block_setCell (block_setCell (block_setCell (block_setCell (block_setCell (block_setCell bf 0 (.int .u8 t)) 1 (.slice a1 m1 c1)) 2 (.slice a2 m2 c2)) 3 (.slice a3 m3 c3)) 4 (.slice a4 m4 c4)) 5 (.int .i64 n);refine bodyPost_ret_by (aJ rfl _ _ _ _ _ _ _ rfl hK Tryz.underlying83 rfl (by kernel_rfl)) rfl ?_;have hb:=ZP.out.alloc ZP.out.size (.cells #[.int .u8 t,.slice a1 m1 c1,.slice a2 m2 c2,.slice a3 m3 c3,.slice a4 m4 c4,.int .i64 n] 83);exact ⟨rfl,hb.trans ((kV (aI.refl (fun k=>k=w.heap.size+1) _) rfl).below hb.size (fun k hk e=>by omega))⟩
  ·
   go_enter Tryz.func100,Tryz.ntmps100
   go_wp2_with fail
   refine (HF.out _ dP.out).mono ?_;rintro e w3 ⟨rfl,hb3⟩;have tJ:=aT MV.out (aI.of_below hb3 (fun _=>False)) (fun h=>h);have s0:=ah _ _ tJ 0 (.int .u8 t) rfl;have s1:=ah _ _ tJ 1 (.slice a1 m1 c1) rfl;have s2:=ah _ _ tJ 2 (.slice a2 m2 c2) rfl;have s3:=ah _ _ tJ 3 (.slice a3 m3 c3) rfl;have s4:=ah _ _ tJ 4 (.slice a4 m4 c4) rfl;have s5:=ah _ _ tJ 5 (.int .i64 n) rfl;have HB3:=Lib.hid hb3;have HAA:=Lib.hid tJ;have nV:=Lib.hid (dP.out.trans (hb3.mono dP.out.size));clear hb3 tJ
   go_wp2_with fail
   refine (HD.out (by first | rfl | trivial) _ nV.out).mono ?_;rintro e w4 ⟨ov,Dx,rfl,hk',ho,hb4⟩;obtain ⟨ak,ck,rfl⟩:=hk'.slice;obtain ⟨ao,co,rfl⟩:=ho.ll.slice;clear s0 s1 s2 s3 s4 s5;have hn1:=HN1.out;unfold Fits at hn1;have hw1:wrap64 (n+1)=n+1:=IntWalk.wrap64_in _ hn1;clear hn1;have hB4:=aT (aT HB0.out (aI.of_below HB3.out (fun _=>False)) (fun h=>h)) (aI.of_below hb4 (fun _=>False)) (fun h=>h);have bf:=aK hB4 (.cells #[.int .u8 t,.slice a1 m1 c1,.slice a2 m2 c2,.slice a3 m3 c3,.slice ak keep'.length ck,.int .i64 (n+1)] 83);have q0:=ah _ _ bf 0 _ rfl;have q1:=ah _ _ bf 1 _ rfl;have q2:=ah _ _ bf 2 _ rfl;have q3:=ah _ _ bf 3 _ rfl;have q4:=ah _ _ bf 4 _ rfl;have q5:=ah _ _ bf 5 _ rfl;have r0:=aj bf 0;have r1:=aj bf 1;have r2:=aj bf 2;have r3:=aj bf 3;have r4:=aj bf 4;have r5:=aj bf 5;have fU:=Lib.hid bf;have Dj:=Lib.hid hb4;have A9:=Lib.hid hk';have HO:=Lib.hid ho;have ZP:=Lib.hid (nV.out.trans (hb4.mono nV.out.size));have Uq:=Lib.hid (show w.heap.size+2≤w3.heap.size by have:=HB3.out.size;simpa using this);clear hb4 bf hB4 hk' ho;go_wp2;have bf:=fU.out;have hK:=block_setCell (block_setCell (block_setCell (block_setCell (block_setCell (block_setCell bf 0 (.int .u8 t)) 1 (.slice a1 m1 c1)) 2 (.slice a2 m2 c2)) 3 (.slice a3 m3 c3)) 4 (.slice ak keep'.length ck)) 5 (.int .i64 (n+1));refine bodyPost_ret_by (aJ rfl _ _ _ _ _ _ _ rfl hK Tryz.underlying83 rfl (by kernel_rfl)) rfl ?_;exact Na H1.out H2.out H3.out nV.out Uq.out Dj.out A9.out HO.out (kV ((aI.refl (fun k=>k=w.heap.size+1) w4).alloc _) rfl)
theorem Nc {w:World}{o:Col}{c:Nat}{v bL:Value}{t n:Int}{ps keep:List Int}{xss:List (List Int)}(hK:Kp t ps keep)(h:uG w o c v t ps keep n)(hins:LL w bL xss)(hf:∀ l∈xss,∀ x∈l,Fits x)(hn1:Fits (n+1)) :
  Calls Tryz.prog 100 #[v,bL] w (JU w o c v t ps n (decide (xss.map (fun l=>(l.length:Int))=bT t ps)) (fK t ps keep xss)):=by
 obtain ⟨vp,vi,vo,vk,rfl,h1,h2,h3,h4⟩:=h;obtain ⟨a1,c1,rfl⟩:=h1.slice;obtain ⟨a2,c2,rfl⟩:=h2.slice;obtain ⟨a3,c3,rfl⟩:=h3.slice;obtain ⟨a4,c4,rfl⟩:=h4.slice;obtain ⟨ia,ic,rfl⟩:=hins.slice;refine Nb w o c t n a1 a2 a3 a4 _ _ _ _ c1 c2 c3 c4 ia _ ic ps keep _ _ hn1 h1 h2 h3 (fun W hb=>MX W t n _ _ _ _ _ xss (bT t ps) (sI hK.good).1 (h2.has.below hb) (hins.below hb)) (fun hfit W hb=>?_);exact MZ hK (h1.has.below hb) (h2.has.below hb) (h3.has.below hb) (h4.turn (Turn.of_below o (c+1) hb) (fun h=>h)) (hins.below hb) (of_decide_eq_true hfit) hf
def bF (w:World)(o:Col)(c:Nat)(e:TypeId)(v:Value)(xs:List Value):Prop :=
 (xs=[]∧v=.slice none 0 0) ∨
 ∃ g off cap cur,v=.slice (some ⟨g,off,none⟩) xs.length cap∧w.heap[g]?=some (.cells cur e (0,0))∧o g=c∧xs.length≤cap∧off+cap≤cur.size∧cap≤maxLen∧(cur.toList.drop off).take xs.length=xs
theorem bF.nil (w:World)(o:Col)(c:Nat)(e:TypeId):bF w o c e (.slice none 0 0) []:=.inl ⟨rfl,rfl⟩
theorem bF.turn {w w':World}{o o':Col}{C:Nat→Prop}{c:Nat}{e:TypeId}{v:Value}{xs:List Value}(h:bF w o c e v xs)(T:Turn o o' C w w')(hc:¬ C c):bF w' o' c e v xs:=by
 rcases h with h | ⟨g,off,cap,cur,h1,h2,h3,h4,h5,h6,h7⟩
 ·
  exact .inl h
 ·
  obtain ⟨k1,k2⟩:=T.block h2 (by rw [h3];exact hc);exact .inr ⟨g,off,cap,cur,h1,k1,k2.trans h3,h4,h5,h6,h7⟩
theorem bF.slice {w:World}{o:Col}{c:Nat}{e:TypeId}{v:Value}{xs:List Value}(h:bF w o c e v xs):∃ ao cap,v=.slice ao xs.length cap:=by
 rcases h with ⟨rfl,h⟩ | ⟨g,off,cap,cur,h1,_⟩
 ·
  exact ⟨none,0,h⟩
 ·
  exact ⟨_,_,h1⟩
theorem bF.vals {w:World}{o:Col}{c:Nat}{e:TypeId}{v:Value}{xs:List Value}(h:bF w o c e v xs):dn w o c v xs:=by
 rcases h with ⟨rfl,h⟩ | ⟨g,off,cap,cur,h1,h2,h3,h4,h5,h6,h7⟩
 ·
  exact .inl ⟨rfl,_,_,h⟩
 ·
  by_cases hp:0 < xs.length
  ·
   refine .inr ⟨hp,g,off,cap,h1,h4,block_lt h2,h3,fun k hk=>?_⟩;have h8:xs[k]?=cur.toList[off+k]?:=by
    rw [← h7,List.getElem?_take_of_lt hk,List.getElem?_drop]
   have h9:off+k < cur.size:=by omega
   rw [h8];refine ah w g h2 (off+k) _ ?_;rw [← Array.getElem?_toList];rw [List.getElem?_eq_getElem (by simpa using h9)];rfl
  ·
   have:xs=[]:=List.eq_nil_of_length_eq_zero (by omega);subst this;exact .inl ⟨rfl,_,_,h1⟩
theorem bF.drop {w:World}{o:Col}{c:Nat}{e:TypeId}{g off n cap:Nat}{xs:List Value}(h:bF w o c e (.slice (some ⟨g,off,none⟩) n cap) xs){k:Nat}(hk:k≤xs.length)(_hc:cap≠k):bF w o c e (.slice (some ⟨g,off+k,none⟩) (n - k) (cap - k)) (xs.drop k):=by
 rcases h with ⟨_,h⟩ | ⟨g,off,cap,cur,h1,h2,h3,h4,h5,h6,h7⟩
 ·
  cases h
 ·
  cases h1
  refine .inr ⟨g,off+k,cap - k,cur,by rw [List.length_drop],h2,h3,by rw [List.length_drop];omega,by omega,by omega,?_⟩;rw [List.length_drop,← List.drop_drop,← List.drop_take,h7]
theorem bF.empty {w:World}{o:Col}{c:Nat}{e:TypeId}{g off n cap:Nat}{xs:List Value}(h:bF w o c e (.slice (some ⟨g,off,none⟩) n cap) xs):bF w o c e (.slice (some ⟨g,off,none⟩) 0 0) []:=by
 rcases h with ⟨_,h⟩ | ⟨g,off,cap,cur,h1,h2,h3,h4,h5,h6,h7⟩
 ·
  cases h
 ·
  cases h1
  exact .inr ⟨g,off,0,cur,rfl,h2,h3,Nat.le_refl _,by omega,by omega,rfl⟩
theorem bF.EJ {w:World}{o:Col}{c:Nat}{e:TypeId}{v:Value}{n:Nat}{xs:List Value}(h:Own w o c e 1 v n xs):bF w o c e v xs:=by
 obtain ⟨⟨hl,h⟩,ho⟩:=h;rw [Nat.mul_one] at hl
 rcases h with ⟨rfl,h⟩ | ⟨g,cap,cur,rfl,_,h2,h3,h4,h5,h6⟩
 ·
  exact .inl ⟨List.eq_nil_of_length_eq_zero (by omega),rfl⟩
 ·
  refine .inr ⟨g,0,cap,cur,by rw [hl],h2,ho g rfl,by omega,by omega,h4,?_⟩;rw [Nat.mul_one] at h6;rw [List.drop_zero,hl,h6]
theorem EK {P:Program}(w:World)(t ty e:TypeId)(i:TypeInfo)(ht:P.underlying t=some (.slice e))(hi:P.info? e=some i)(h1s:i.size=1)
  (g off sLen sCap:Nat) (cur:Array Value) (hg:w.heap[g]?=some (.cells cur e (0,0)))
  (a:Addr) (m c:Nat) (news:List Value) (hl:news.length=m) (hnews:∀ j u,news[j]?=some u→w.cell? (a.add j)=some u) (h1:∀ u∈news,u.oneCell'=true)
  (hroom:sLen+m≤sCap) (hfit:off+sCap≤cur.size) :
  (Builtin.append_ #[t,t] ty #[.slice (some ⟨g,off,none⟩) sLen sCap,.slice (some a) m c]).run P w =
   .ok (.slice (some ⟨g,off,none⟩) (sLen+m) sCap) (w.setRow g (cur.toList.take (off+sLen) ++ news ++ cur.toList.drop (off+sLen+news.length)).toArray):=by
 have hf:=run_firstCells_some (P:=P) w i.size m a m c news (by rw [h1s,hl,Nat.mul_one]) hnews;have hst:=run_storeCells_at P g (off+sLen) e news 0 cur w hg (by omega) h1;simp only [Nat.add_zero] at hst;rw [h1s] at hf;simp [Builtin.append_,run_underlying ht,sizeOf,typeInfo,hi,Builtin.lenOf,hroom,hf,Addr.add_lit,hst,h1s]
theorem GV {P:Program}(w:World)(o:Col)(k:Nat)(t ty e:TypeId)(i:TypeInfo)(z:Value)(bytes:Nat)(ht:P.underlying t=some (.slice e))(hi:P.info? e=some i)(hz:i.zero=some z)
  (hsize:i.size=1) (hby:i.bytes=bytes) (hzs:z.cells.size=1)
  (v:Value) (xs:List Value) (hown:bF w o k e v xs)
  (ao:Option Addr) (m c:Nat) (news:List Value) (hl:news.length=m) (hnone:ao=none→m=0) (hnews:∀ a,ao=some a→∀ j u,news[j]?=some u→w.cell? (a.add j)=some u) (h1:∀ u∈news,u.oneCell'=true)
  (h63:xs.length+m≤maxLen) (hgrow:∀ old,old < xs.length+m→Builtin.nextslicecap (xs.length+m) old*bytes≤281474976710656) :
  ∃ v' w',(Builtin.append_ #[t,t] ty #[v,.slice ao m c]).run P w=.ok v' w'∧Turn o (ext o w.heap.size k) (fun x=>x=k) w w'∧bF w' (ext o w.heap.size k) k e v' (xs ++ news):=by
 have T0:Turn o (ext o w.heap.size k) (fun x=>x=k) w w:=⟨aI.refl _ _,fun j hj=>bX hj⟩;have hlo:(xs ++ news).length=xs.length+m:=by rw [List.length_append,hl]
 cases ao with
 | none =>
  obtain rfl:=hnone rfl;have hn:news=[]:=List.eq_nil_of_length_eq_zero hl;subst hn;rw [List.append_nil];refine ⟨v,w,?_,T0,?_⟩
  ·
   rcases hown with ⟨rfl,rfl⟩ | ⟨g,off,cap,cur,rfl,h2,h3,h4,h5,h6,h7⟩
   ·
    simp [Builtin.append_,run_underlying ht,sizeOf,typeInfo,hi,Builtin.lenOf,Builtin.firstCells]
   ·
    simp [Builtin.append_,run_underlying ht,sizeOf,typeInfo,hi,Builtin.lenOf,Builtin.firstCells,h4,storeCells]
  ·
   rcases hown with h | ⟨g,off,cap,cur,h1,h2,h3,h⟩
   ·
    exact .inl h
   ·
    exact .inr ⟨g,off,cap,cur,h1,h2,(bX (block_lt h2)).trans h3,h⟩
 | some a =>
  have hnews:=hnews a rfl;have hsmall:xs.length+m≤9223372036854775807:=by simp only [maxLen] at h63;omega
  have grown:∀ (old:Nat),old < xs.length+m →
    Turn o (ext o w.heap.size k) (fun x=>x=k) w (w.drew.alloc (.cells (xs.toArray ++ news.toArray ++ Builtin.zeroCells z.cells (grownCap w (xs.length+m) old e - (xs.length+m))) e)) ∧
    bF (w.drew.alloc (.cells (xs.toArray ++ news.toArray ++ Builtin.zeroCells z.cells (grownCap w (xs.length+m) old e - (xs.length+m))) e)) (ext o w.heap.size k) k e (.slice (some ⟨w.heap.size,0,none⟩) (xs.length+m) (grownCap w (xs.length+m) old e)) (xs ++ news):=by
   intro old ho;have hge:=grownCap_ge w (xs.length+m) old e;have hcm:grownCap w (xs.length+m) old e≤maxLen:=grownCap_le_maxLen w (xs.length+m) old e h63;have hb:Below w.heap.size w (w.drew.alloc (.cells (xs.toArray ++ news.toArray ++ Builtin.zeroCells z.cells (grownCap w (xs.length+m) old e - (xs.length+m))) e)):=⟨rfl,rfl,rfl,by simp,fun k hk=>Below.heap_alloc w.drew _ k (by simpa using hk)⟩;refine ⟨(Turn.of_below o k hb).mono (fun _ h=>h.elim),.inr ⟨w.heap.size,0,_,_,by rw [hlo],heap_alloc_new w.drew _,aW (Nat.le_refl _),by rw [hlo];exact hge,?_,hcm,?_⟩⟩
   ·
    simp only [Array.size_append,List.size_toArray,size_zeroCells,hzs,hl];omega
   ·
    simp only [Array.toList_append,List.append_assoc,List.drop_zero];rw [← List.append_assoc];exact List.take_left
  rcases hown with ⟨rfl,rfl⟩ | ⟨g,off,cap,cur,rfl,h2,h3,h4,h5,h6,h7⟩
  ·
   by_cases hm:m=0
   ·
    subst hm;have hn:news=[]:=List.eq_nil_of_length_eq_zero hl;subst hn;refine ⟨.slice none 0 0,w,?_,T0,bF.nil _ _ _ _⟩;simp [Builtin.append_,run_underlying ht,sizeOf,typeInfo,hi,Builtin.lenOf,Builtin.firstCells,loadCells,loadCellsFrom]
   ·
    have hb0:=hgrow 0 (by simp;omega);simp only [List.length_nil,Nat.zero_add,nextslicecap_zero (need:=m) (by omega)] at hb0;have hr:=run_append_nil (P:=P) w t ty e i z ht hi hz a m c news (by rw [hsize,hl,Nat.mul_one]) hnews (by omega) (by have:=hsmall;simp at this;omega) (by rw [hby];exact hb0);have hgr:=grown 0 (by simp;omega);simp only [List.length_nil,Nat.zero_add,List.nil_append,Array.empty_append] at hgr ⊢;exact ⟨_,_,hr,hgr.1,hgr.2⟩
  ·
   by_cases hroom:xs.length+m≤cap
   ·
    have hr:=EK (P:=P) w t ty e i ht hi hsize g off xs.length cap cur h2 a m c news hl hnews h1 hroom h5;have hm:aI (fun j=>j=g) w (w.setRow g (cur.toList.take (off+xs.length) ++ news ++ cur.toList.drop (off+xs.length+news.length)).toArray):=⟨rfl,rfl,rfl,by simp,fun j _ hj=>setRow_other w g j _ hj⟩;refine ⟨_,_,hr,Turn.gN o k hm (fun j _ e=>by rw [e];exact h3),.inr ⟨g,off,cap,_,by rw [hlo],setRow_heap w g cur _ e _ h2,(bX (block_lt h2)).trans h3,by rw [hlo];exact hroom,?_,h6,?_⟩⟩
    ·
     simp only [List.size_toArray,List.length_append,List.length_take,List.length_drop,Array.length_toList];omega
    ·
     simp only [hlo];have e1:(cur.toList.take (off+xs.length)).drop off=xs:=by rw [List.drop_take,Nat.add_sub_cancel_left,h7]
     have hlt:(cur.toList.take (off+xs.length)).length=off+xs.length:=by
      have hcl:cur.toList.length=cur.size:=Array.length_toList;rw [List.length_take];omega
     rw [List.append_assoc,List.drop_append_of_le_length (by rw [hlt];omega),e1,← List.append_assoc,← hlo];exact List.take_left
   ·
    have holds:∀ j u,xs[j]?=some u→w.cell? ((⟨g,off,none⟩:Addr).add j)=some u:=fun j u hu=>by
     have hj:=(List.getElem?_eq_some_iff.1 hu).1;rw [Addr.add_lit];refine ah w g h2 (off+j) u ?_;rw [← h7,List.getElem?_take_of_lt hj,List.getElem?_drop] at hu;rw [← Array.getElem?_toList];exact hu
    have hr:=run_append_grow (P:=P) w t ty e i z ht hi hz ⟨g,off,none⟩ xs.length cap xs (by rw [hsize,Nat.mul_one]) holds a m c news (by rw [hsize,hl,Nat.mul_one]) hnews (by omega) (by omega) (by rw [hby];exact hgrow cap (by omega));have hgr:=grown cap (by omega);exact ⟨_,_,hr,hgr.1,hgr.2⟩
theorem dA {P:Program}{w:World}{ops:Array Oper}{rest:List Oper}{op:Oper}{a:Go.Act}{Q:Exit→Go.Act→World→Prop}(hgd:op.guard=none)(s x:Operand)(t:TypeId)
  (ho:op.op=.call { callee:=.builtin .append,args:=#[s,x],argTypes:=#[t,t] })
  (o:Col) (k:Nat) (e:TypeId) (i:TypeInfo) (z:Value) (bytes:Nat) (ht:P.underlying t=some (.slice e)) (hi:P.info? e=some i) (hz:i.zero=some z)
  (hsize:i.size=1) (hby:i.bytes=bytes) (hzs:z.cells.size=1)
  (v:Value) (xs:List Value) (hs:a.eval s=v) (hown:bF w o k e v xs)
  (ao:Option Addr) (m c:Nat) (news:List Value) (hx:a.eval x=.slice ao m c) (hl:news.length=m) (hnone:ao=none→m=0) (hnews:∀ ad,ao=some ad→∀ j u,news[j]?=some u→w.cell? (ad.add j)=some u) (h1:∀ u∈news,u.oneCell'=true)
  (h63:xs.length+m≤maxLen) (hgrow:∀ old,old < xs.length+m→Builtin.nextslicecap (xs.length+m) old*bytes≤281474976710656)
  (h:∀ v' w',Turn o (ext o w.heap.size k) (fun x=>x=k) w w'→bF w' (ext o w.heap.size k) k e v' (xs ++ news)→wpList P ops Q rest (a.put op.dst v') w'):wpList P ops Q (op :: rest) a w:=by
 refine wpList_plain hgd fun K hK=>?_
 obtain ⟨v',w',hr,h2,h3⟩:=GV (P:=P) w o k t op.type e i z bytes ht hi hz hsize hby hzs v xs hown ao m c news hl hnone hnews h1 h63 hgrow;unfold Oper.wp execOp;simp only [ho,resolve,invoke,builtin,Sem.run_bind,Sem.run_pure,Result.andThen_ok,List.map_toArray,List.map_cons,List.map_nil,hs,hx,hr];exact hK _ _ (h v' w' h2 h3)
theorem Own.setAt {w:World}{o:Col}{c:Nat}{e:TypeId}{size g cap n:Nat}{xs:List Value}(h:Own w o c e size (.slice (some ⟨g,0,none⟩) n cap) n xs){i:Nat}(_hi:i < xs.length)(u:Value) :
  Own (w.setCell ⟨g,i,none⟩ u) o c e size (.slice (some ⟨g,0,none⟩) n cap) n (xs.set i u)∧Turn o o (fun x=>x=c) w (w.setCell ⟨g,i,none⟩ u):=by
 obtain ⟨⟨hl,h⟩,ho⟩:=h
 rcases h with ⟨h,_⟩ | ⟨g',cap',cur,h1,hb,h2,h3,h4,h5,h6⟩
 ·
  cases h
 ·
  cases h1
  refine ⟨⟨⟨by rw [List.length_set];exact hl,.inr ⟨g,cap,cur.setIfInBounds i u,rfl,hb,block_setCell h2 i u,h3,h4,by rw [Array.size_setIfInBounds];exact h5,?_⟩⟩,ho⟩,⟨(aI.refl (fun k=>o k=c) w).setCell (p:=⟨g,i,none⟩) (fun _=>ho g rfl) u,fun _ _=>rfl⟩⟩;rw [Array.toList_setIfInBounds,List.take_set,h6]
theorem Own.addr {w:World}{o:Col}{c:Nat}{e:TypeId}{size n:Nat}{v:Value}{xs:List Value}(h:Own w o c e size v n xs)(hp:0 < n):∃ g cap,v=.slice (some ⟨g,0,none⟩) n cap∧n≤cap∧w.heap[g]?.isSome=true:=by
 rcases h.1.2 with ⟨_,h0⟩ | ⟨g,cap,cur,h1,hb,h2,h3,_⟩
 ·
  omega
 ·
  exact ⟨g,cap,h1,h3,by rw [h2];rfl⟩
theorem Own.cellAt {w:World}{o:Col}{c:Nat}{e:TypeId}{size g n cap:Nat}{xs:List Value}(h:Own w o c e size (.slice (some ⟨g,0,none⟩) n cap) n xs){i:Nat}{u:Value}(hu:xs[i]?=some u):w.cell? ⟨g,i,none⟩=some u:=by
 have:=h.1.cells (g:=g) rfl i u hu;rw [Addr.add_lit] at this
 simpa using this
def jc (l:kT):List Value:=[.int .i64 l.base,.int .i64 l.size,.int .i64 l.pos,.int .i64 l.cnt]
def gH (l:List kT):List Value:=l.flatMap jc
theorem Ba:∀ l:List kT,(gH l).length=l.length*4
 | []=>rfl
 | x :: l=>by
  have:=Ba l;simp only [gH,List.flatMap_cons,List.length_append,List.length_cons] at this ⊢;rw [this];simp [jc];omega
theorem Bb:∀ (l:List kT) (k i:Nat) (hk:k < l.length),i < 4→(gH l)[k*4+i]?=(jc l[k])[i]?
 | [],k,i,hk,_=>by simp at hk
 | x :: l,0,i,_,hi=>by
  rw [Nat.zero_mul,Nat.zero_add];show (jc x ++ gH l)[i]?=_
  rw [List.getElem?_append_left (by simp [jc];omega)];rfl
 | x :: l,k+1,i,hk,hi=>by
  have ih:=Bb l k i (by simpa using hk) hi;show (jc x ++ gH l)[(k+1)*4+i]?=_
  rw [List.getElem?_append_right (by simp [jc];omega),show (k+1)*4+i - (jc x).length=k*4+i by simp [jc];omega,ih];rfl
theorem Bc:∀ (l:List kT) (k i:Nat) (u:Value) (y:kT) (hk:k < l.length),i < 4→(jc l[k]).set i u=jc y→(gH l).set (k*4+i) u=gH (l.set k y)
 | [],k,i,u,y,hk,_,_=>by simp at hk
 | x :: l,0,i,u,y,_,hi,h=>by
  rw [Nat.zero_mul,Nat.zero_add];show (jc x ++ gH l).set i u=jc y ++ gH l
  rw [List.set_append_left _ _ (by simp [jc];omega),← h];rfl
 | x :: l,k+1,i,u,y,hk,hi,h=>by
  have ih:=Bc l k i u y (by simpa using hk) hi h;show (jc x ++ gH l).set ((k+1)*4+i) u=jc x ++ gH (l.set k y)
  rw [List.set_append_right _ _ (by simp [jc];omega),show (k+1)*4+i - (jc x).length=k*4+i by simp [jc];omega,ih]
structure kD (w:World) (o:Col) (c d g:Nat) (l:List (List Int)) (vs:List Value):Prop where
 len:vs.length=l.length
 blk:dY w o c g 42 vs.toArray
 row:∀ k (h:k < l.length),bF w o (d+k) 3 (vs[k]'(by rw [len];exact h)) (aV l[k])
theorem kD.turn {w w':World}{o o':Col}{C:Nat→Prop}{c d g:Nat}{l:List (List Int)}{vs:List Value}(h:kD w o c d g l vs)(T:Turn o o' C w w')(hc:¬ C c)(hd:∀ k,k < l.length→¬ C (d+k)):kD w' o' c d g l vs :=
 ⟨h.len,h.blk.turn T hc,fun k hk=>(h.row k hk).turn T (hd k hk)⟩
theorem kD.put {w w1:World}{o o1:Col}{c d g:Nat}{l:List (List Int)}{vs:List Value}{k:Nat}{v:Value}{r:List Int}(h:kD w o c d g l vs)(hk:k < l.length)(T:Turn o o1 (fun x=>x=d+k) w w1)(hc:c < d)(hv:bF w1 o1 (d+k) 3 v (aV r)) :
  kD (w1.setCell ⟨g,k,none⟩ v) o1 c d g (l.set k r) (vs.set k v)∧Turn o o1 (fun x=>x=c∨x=d+k) w (w1.setCell ⟨g,k,none⟩ v):=by
 have hb:=h.blk.turn T (by omega);have hs:=hb.set k v;have T2:Turn o o1 (fun x=>x=c∨x=d+k) w (w1.setCell ⟨g,k,none⟩ v):=(T.mono (fun x hx=>Or.inr hx)).trans hs.2 (fun x hx=>Or.inl hx);refine ⟨⟨by rw [List.length_set,List.length_set];exact h.len,by have:=hs.1;rwa [List.setIfInBounds_toArray] at this,fun j hj=>?_⟩,T2⟩;rw [List.length_set] at hj
 by_cases e:j=k
 ·
  subst e;simp only [List.getElem_set_self];exact hv.turn hs.2 (by omega)
 ·
  simp only [List.getElem_set_ne (Ne.symm e)];exact ((h.row j hj).turn T (by omega)).turn hs.2 (by omega)
def tY:Option OZ→List Value
 | none=>[.bool false,.int .i64 0,.int .u8 0,.int .i64 0,.slice none 0 0,.int .u8 0]
 | some e=>[.bool true,.int .i64 e.op,.int .u8 e.kind,.int .i64 e.line,.slice none 0 0,.int .u8 e.halt]
structure bV where
 mem:Nat
 lines:Value
 fed:Nat
 out:Nat
 ops:Value
 takes:Value
 bH:Value
 cs:Nat
 hand:Value
 uH:List Value
 outs:List Value
 ptrs:List Nat
def bC (m:aH)(v:bV):List Value :=
 [.slice (some ⟨v.mem,0,none⟩) m.mem.length m.mem.length,v.lines,.slice (some ⟨v.fed,0,none⟩) m.fed.length m.fed.length,.slice (some ⟨v.out,0,none⟩) m.out.length m.out.length,v.ops,v.takes,v.bH,.slice (some ⟨v.cs,0,none⟩) m.cs.length m.cs.length,v.hand,.int .i64 m.next,.int .i64 m.periods] ++ tY m.last
structure aN (w:World) (o:Col) (M b:Nat) (P:ay) (m:aH) (v:bV):Prop where
 blk:dY w o M b 71 (bC m v).toArray
 mem:dY w o (M+1) v.mem 3 (aV m.mem).toArray
 lines:Own w o (M+2) 73 4 v.lines m.lines.length (gH m.lines)
 fed:kD w o (M+3) (M+16) v.fed m.fed v.uH
 out:kD w o (M+4) (M+32) v.out m.out v.outs
 ops:Own w o (M+5) 58 3 v.ops P.ops.length (opsV P.ops)
 takes:Own w o (M+6) 3 1 v.takes P.parts.length (aV (P.parts.map fun p=>(kU p:Int)))
 bH:Own w o (M+7) 74 1 v.bH P.parts.length (v.ptrs.map fun b=>.pointer (some ⟨b,0,none⟩))
 ptrs:v.ptrs.length=P.parts.length
 acts:∀ k (h:k < P.parts.length),Ew w o (M+64+2*k) (M+65+2*k) (v.ptrs[k]'(by rw [ptrs];exact h)) (partAt P k) (bB m k)
 cs:dY w o (M+8) v.cs 3 (aV m.cs).toArray
 hand:bF w o (M+9) 3 v.hand (aV m.hand)
 small:m.fed.length≤16∧m.out.length≤16∧P.parts.length≤32
def Mine (M:Nat)(x:Nat):Prop:=M≤x∧x < M+200
theorem aN.turn {w w':World}{o o':Col}{C:Nat→Prop}{M b:Nat}{P:ay}{m:aH}{v:bV}(h:aN w o M b P m v)(T:Turn o o' C w w')(hC:∀ k,C k→¬ Mine M k):aN w' o' M b P m v:=by
 have hn:∀ k,k < 200→¬ C (M+k):=fun k hk hc=>hC _ hc (by unfold Mine;omega)
 have hs:=h.small;exact ⟨h.blk.turn T (hn 0 (by omega)),h.mem.turn T (hn _ (by omega)),h.lines.turn T (hn _ (by omega)),h.fed.turn T (hn _ (by omega)) (fun k hk=>by rw [Nat.add_assoc];exact hn _ (by omega)),h.out.turn T (hn _ (by omega)) (fun k hk=>by rw [Nat.add_assoc];exact hn _ (by omega)),h.ops.turn T (hn _ (by omega)),h.takes.turn T (hn _ (by omega)),h.bH.turn T (hn _ (by omega)),h.ptrs,fun k hk=>(h.acts k hk).turn T (by rw [Nat.add_assoc];exact hn _ (by omega)) (by rw [Nat.add_assoc];exact hn _ (by omega)),h.cs.turn T (hn _ (by omega)),h.hand.turn T (hn _ (by omega)),hs⟩
section
variable {w w1:World} {o o1:Col} {M b:Nat} {P:ay} {m:aH} {v:bV}
theorem aN.cell (h:aN w o M b P m v)(i:Nat){u:Value}(hu:(bC m v)[i]?=some u):w.cell? ⟨b,i,none⟩=some u:=h.blk.cell i u (by simpa using hu)
theorem aN.EL {m':aH}(h:aN w o M b P m v)(T:Turn o o1 (fun x=>x=M) w w1)(hb:dY w1 o1 M b 71 (bC m' v).toArray)(e1:m'.mem=m.mem)(e2:m'.lines=m.lines)(e3:m'.fed=m.fed)(e4:m'.out=m.out)(e5:m'.bH=m.bH)(e6:m'.cs=m.cs)(e7:m'.hand=m.hand):aN w1 o1 M b P m' v:=by
 have hbk:∀ k,bB m' k=bB m k:=fun k=>by unfold bB;rw [e5]
 exact ⟨hb,by rw [e1];exact h.mem.turn T (by omega),by rw [e2];exact h.lines.turn T (by omega),by rw [e3];exact h.fed.turn T (by omega) (fun k _=>by omega),by rw [e4];exact h.out.turn T (by omega) (fun k _=>by omega),h.ops.turn T (by omega),h.takes.turn T (by omega),h.bH.turn T (by omega),h.ptrs,fun k hk=>by rw [hbk];exact (h.acts k hk).turn T (by omega) (by omega),by rw [e6];exact h.cs.turn T (by omega),by rw [e7];exact h.hand.turn T (by omega),by rw [e3,e4];exact h.small⟩
theorem aN.block {m':aH}(h:aN w o M b P m v)(i:Nat)(u:Value)(e:(bC m v).set i u=bC m' v)(e1:m'.mem=m.mem)(e2:m'.lines=m.lines)(e3:m'.fed=m.fed)(e4:m'.out=m.out)(e5:m'.bH=m.bH)(e6:m'.cs=m.cs)(e7:m'.hand=m.hand) :
  aN (w.setCell ⟨b,i,none⟩ u) o M b P m' v∧Turn o o (Mine M) w (w.setCell ⟨b,i,none⟩ u):=by
 have hs:=h.blk.set i u;refine ⟨h.EL hs.2 (by have:=hs.1;rw [List.setIfInBounds_toArray,e] at this;exact this) e1 e2 e3 e4 e5 e6 e7,hs.2.mono (fun x hx=>by unfold Mine;omega)⟩
theorem aN.iW {hv:Value}{l:List Int}(h:aN w o M b P m v)(T:Turn o o1 (fun x=>x=M+9) w w1)(hh:bF w1 o1 (M+9) 3 hv (aV l)) :
  aN (w1.setCell ⟨b,8,none⟩ hv) o1 M b P { m with hand:=l } { v with hand:=hv }∧Turn o o1 (Mine M) w (w1.setCell ⟨b,8,none⟩ hv):=by
 have hb:=h.blk.turn T (by omega);have hs:=hb.set 8 hv;have T2:Turn o o1 (fun x=>x=M+9∨x=M) w (w1.setCell ⟨b,8,none⟩ hv):=(T.mono (fun x hx=>Or.inl hx)).trans hs.2 (fun x hx=>Or.inr hx);refine ⟨⟨by have:=hs.1;rw [List.setIfInBounds_toArray] at this;exact this,h.mem.turn T2 (by omega),h.lines.turn T2 (by omega),h.fed.turn T2 (by omega) (fun k _=>by omega),h.out.turn T2 (by omega) (fun k _=>by omega),h.ops.turn T2 (by omega),h.takes.turn T2 (by omega),h.bH.turn T2 (by omega),h.ptrs,fun k hk=>(h.acts k hk).turn T2 (by omega) (by omega),h.cs.turn T2 (by omega),hh.turn hs.2 (by omega),h.small⟩,T2.mono (fun x hx=>by unfold Mine;omega)⟩
theorem aN.Bd (h:aN w o M b P m v)(k:Nat)(x:Int) :
  aN (w.setCell ⟨v.mem,k,none⟩ (.int .i64 x)) o M b P { m with mem:=m.mem.set k x } v∧Turn o o (Mine M) w (w.setCell ⟨v.mem,k,none⟩ (.int .i64 x)):=by
 have hs:=h.mem.set k (.int .i64 x);have T:=hs.2;have e:(aV m.mem).set k (.int .i64 x)=aV (m.mem.set k x):=by simp [aV,List.map_set]
 have hb:bC { m with mem:=m.mem.set k x } v=bC m v:=by
  unfold bC;simp only [List.length_set]
 refine ⟨⟨by rw [hb];exact h.blk.turn T (by omega),by have:=hs.1;rw [List.setIfInBounds_toArray,e] at this;exact this,h.lines.turn T (by omega),h.fed.turn T (by omega) (fun k _=>by omega),h.out.turn T (by omega) (fun k _=>by omega),h.ops.turn T (by omega),h.takes.turn T (by omega),h.bH.turn T (by omega),h.ptrs,fun k hk=>(h.acts k hk).turn T (by omega) (by omega),h.cs.turn T (by omega),h.hand.turn T (by omega),h.small⟩,T.mono (fun x hx=>by unfold Mine;omega)⟩
theorem aN.GX (h:aN w o M b P m v)(k:Nat)(x:Int) :
  aN (w.setCell ⟨v.cs,k,none⟩ (.int .i64 x)) o M b P { m with cs:=m.cs.set k x } v∧Turn o o (Mine M) w (w.setCell ⟨v.cs,k,none⟩ (.int .i64 x)):=by
 have hs:=h.cs.set k (.int .i64 x);have T:=hs.2;have e:(aV m.cs).set k (.int .i64 x)=aV (m.cs.set k x):=by simp [aV,List.map_set]
 have hb:bC { m with cs:=m.cs.set k x } v=bC m v:=by
  unfold bC;simp only [List.length_set]
 refine ⟨⟨by rw [hb];exact h.blk.turn T (by omega),h.mem.turn T (by omega),h.lines.turn T (by omega),h.fed.turn T (by omega) (fun k _=>by omega),h.out.turn T (by omega) (fun k _=>by omega),h.ops.turn T (by omega),h.takes.turn T (by omega),h.bH.turn T (by omega),h.ptrs,fun k hk=>(h.acts k hk).turn T (by omega) (by omega),by have:=hs.1;rw [List.setIfInBounds_toArray,e] at this;exact this,h.hand.turn T (by omega),h.small⟩,T.mono (fun x hx=>by unfold Mine;omega)⟩
theorem aN.EM {g cap k i:Nat}{u:Value}{y:kT}(h:aN w o M b P m v)(hg:v.lines=.slice (some ⟨g,0,none⟩) m.lines.length cap)(hk:k < m.lines.length)(hi:i < 4)(hu:(jc m.lines[k]).set i u=jc y) :
  aN (w.setCell ⟨g,k*4+i,none⟩ u) o M b P { m with lines:=m.lines.set k y } v∧Turn o o (Mine M) w (w.setCell ⟨g,k*4+i,none⟩ u):=by
 have hl:=h.lines;rw [hg] at hl;have hs:=hl.setAt (i:=k*4+i) (by rw [Ba];omega) u;rw [Bc _ k i u y hk hi hu,← hg] at hs;have T:=hs.2;have hb:bC { m with lines:=m.lines.set k y } v=bC m v:=rfl;refine ⟨⟨by rw [hb];exact h.blk.turn T (by omega),h.mem.turn T (by omega),by rw [List.length_set];exact hs.1,h.fed.turn T (by omega) (fun k _=>by omega),h.out.turn T (by omega) (fun k _=>by omega),h.ops.turn T (by omega),h.takes.turn T (by omega),h.bH.turn T (by omega),h.ptrs,fun k hk=>(h.acts k hk).turn T (by omega) (by omega),h.cs.turn T (by omega),h.hand.turn T (by omega),h.small⟩,T.mono (fun x hx=>by unfold Mine;omega)⟩
theorem aN.Ri {k:Nat}{r:Value}{l:List Int}(h:aN w o M b P m v)(hk:k < m.fed.length)(T:Turn o o1 (fun x=>x=M+16+k) w w1)(hr:bF w1 o1 (M+16+k) 3 r (aV l)) :
  aN (w1.setCell ⟨v.fed,k,none⟩ r) o1 M b P { m with fed:=m.fed.set k l } { v with uH:=v.uH.set k r }∧Turn o o1 (Mine M) w (w1.setCell ⟨v.fed,k,none⟩ r):=by
 have h16:=h.small;obtain ⟨h1,T2⟩:=h.fed.put hk T (by omega) hr;have hb:bC { m with fed:=m.fed.set k l } { v with uH:=v.uH.set k r }=bC m v:=by
  unfold bC;simp only [List.length_set]
 refine ⟨⟨by rw [hb];exact h.blk.turn T2 (by omega),h.mem.turn T2 (by omega),h.lines.turn T2 (by omega),h1,h.out.turn T2 (by omega) (fun k _=>by omega),h.ops.turn T2 (by omega),h.takes.turn T2 (by omega),h.bH.turn T2 (by omega),h.ptrs,fun k hk=>(h.acts k hk).turn T2 (by omega) (by omega),h.cs.turn T2 (by omega),h.hand.turn T2 (by omega),by have:=h.small;simp only [List.length_set];exact this⟩,T2.mono (fun x hx=>by unfold Mine;omega)⟩
theorem aN.ZQ {k:Nat}{r:Value}{l:List Int}(h:aN w o M b P m v)(hk:k < m.out.length)(T:Turn o o1 (fun x=>x=M+32+k) w w1)(hr:bF w1 o1 (M+32+k) 3 r (aV l)) :
  aN (w1.setCell ⟨v.out,k,none⟩ r) o1 M b P { m with out:=m.out.set k l } { v with outs:=v.outs.set k r }∧Turn o o1 (Mine M) w (w1.setCell ⟨v.out,k,none⟩ r):=by
 have h16:=h.small;obtain ⟨h1,T2⟩:=h.out.put hk T (by omega) hr;have hb:bC { m with out:=m.out.set k l } { v with outs:=v.outs.set k r }=bC m v:=by
  unfold bC;simp only [List.length_set]
 refine ⟨⟨by rw [hb];exact h.blk.turn T2 (by omega),h.mem.turn T2 (by omega),h.lines.turn T2 (by omega),h.fed.turn T2 (by omega) (fun k _=>by omega),h1,h.ops.turn T2 (by omega),h.takes.turn T2 (by omega),h.bH.turn T2 (by omega),h.ptrs,fun k hk=>(h.acts k hk).turn T2 (by omega) (by omega),h.cs.turn T2 (by omega),h.hand.turn T2 (by omega),by have:=h.small;simp only [List.length_set];exact this⟩,T2.mono (fun x hx=>by unfold Mine;omega)⟩
theorem aN.JV {k:Nat}{x:List Int × Int}(h:aN w o M b P m v)(hl:m.bH.length=P.parts.length)(hk:k < P.parts.length)(T:Turn o o1 (fun x=>x=M+64+2*k) w w1)(ha:Ew w1 o1 (M+64+2*k) (M+65+2*k) (v.ptrs[k]'(by rw [h.ptrs];exact hk)) (partAt P k) x) :
  aN w1 o1 M b P { m with bH:=m.bH.set k x } v∧Turn o o1 (Mine M) w w1  :=by
 have h16:=h.small;refine ⟨⟨h.blk.turn T (by omega),h.mem.turn T (by omega),h.lines.turn T (by omega),h.fed.turn T (by omega) (fun k _=>by omega),h.out.turn T (by omega) (fun k _=>by omega),h.ops.turn T (by omega),h.takes.turn T (by omega),h.bH.turn T (by omega),h.ptrs,fun j hj=>?_,h.cs.turn T (by omega),h.hand.turn T (by omega),h.small⟩,T.mono (fun x hx=>by unfold Mine;omega)⟩
 by_cases e:j=k
 ·
  subst e;have:bB { m with bH:=m.bH.set j x } j=x:=by
   unfold bB;rw [List.getElem?_set_self (by rw [hl];exact hk)];rfl
  rw [this];exact ha
 ·
  have:bB { m with bH:=m.bH.set k x } j=bB m j:=by
   unfold bB;rw [List.getElem?_set_ne (Ne.symm e)]
  rw [this];exact (h.acts j hj).turn T (by omega) (by omega)
end
def iX (w:World)(l:List Int)(e:Ending)(w':World):Prop:=∃ v,e=.returned v∧w'.ownsRow w.heap.size 3 1 v l.length (aV l)∧Below w.heap.size w w'
theorem dK (l:List Nat):(bU l).length=l.length:=by simp [bU]
theorem EN (l:kT)(d n:Nat):aV (bU (bQ l d (n+1)))=aV (bU (bQ l d n)) ++ [.int .i64 ((l.base+(l.pos+d+n) % l.size:Nat):Int)]:=by
 simp [bQ,bU,List.range_succ,aV]
theorem DC (w:World)(g a:Nat)(l:kT)(d n:Nat)(h0:w.cell? ⟨g,a,none⟩=some (.int .i64 l.base))(h1:w.cell? ⟨g,a+1,none⟩=some (.int .i64 l.size))(h2:w.cell? ⟨g,a+2,none⟩=some (.int .i64 l.pos))
  (hs:0 < n→0 < l.size) (hb:(l.base≤100000∧l.size≤100000)∧l.pos≤100000∧d≤100000∧n≤100000) :
  Calls Tryz.prog 101 #[.pointer (some ⟨g,a,none⟩),.int .i64 d,.int .i64 n] w (iX w (bU (bQ l d n))):=by
 obtain ⟨i0,hi,hz0,hz1,hz2⟩:=info_parts bJ;have HI:=Lib.hid hi;obtain ⟨⟨b1,b2⟩,b3,b4,b5⟩:=hb
 go_enter Tryz.func101,Tryz.ntmps101
 go_wp2_with fail
 go_loopw [7,10] (fun v i wl=>∃ (k:Nat),k≤n∧i=.int .i64 k∧Below w.heap.size w wl∧wl.ownsRow w.heap.size 3 1 v k (aV (bU (bQ l d k)))) (fun _ i _=>n - (intOf i).toNat)
 case atStart=>exact ⟨0,Nat.zero_le _,rfl,Below.refl _ _,World.ownsRow_nil w w.heap.size 3 1⟩
 case round =>
  obtain ⟨k,hk,rfl,hbl,hO⟩:=hrel;have HB:=Lib.hid hbl;have HO:=Lib.hid hO
  by_cases hlt:k < n
  ·
   have hsz:=hs (by omega);have dG:(k:Int) < n:=by omega
   have c0:=cell_later hbl h0;have c1:=cell_later hbl h1;have c2:=cell_later hbl h2;have hml:=Nat.mod_lt (l.pos+d+k) hsz;have hP:=EN l d k;obtain ⟨X,hX⟩:∃ x:Int,((l.base+(l.pos+d+k) % l.size:Nat):Int)=x:=⟨_,rfl⟩
   rw [hX] at hP;obtain ⟨r,hr⟩:∃ x:Int,(((l.pos+d+k) % l.size:Nat):Int)=x:=⟨_,rfl⟩
   have key:IntKind.i64.wrap ((l.base:Int)+(IntKind.i64.wrap (IntKind.i64.wrap ((l.pos:Int)+d)+k)).tmod (l.size:Int))=X:=by
    rw [IntWalk.i64_in ((l.pos:Int)+d) (by omega),IntWalk.i64_in ((l.pos:Int)+d+k) (by omega),Int.tmod_eq_emod_of_nonneg (by omega),show ((l.pos:Int)+d+k) % (l.size:Int)=r by rw [← hr];rfl,IntWalk.i64_in _ (by omega)];omega
   have hne:¬ (l.size:Int)=0:=by omega
   obtain ⟨bz,hbz⟩:∃ x:Int,(l.base:Int)=x:=⟨_,rfl⟩
   obtain ⟨Sz,hSz⟩:∃ x:Int,(l.size:Int)=x:=⟨_,rfl⟩
   obtain ⟨pz,hpz⟩:∃ x:Int,(l.pos:Int)=x:=⟨_,rfl⟩
   rw [hbz] at c0 key;rw [hSz] at c1 hne key;rw [hpz] at c2 key;have HKEY:=Lib.hid key;clear hbz hSz hpz hr key;have HP:=Lib.hid hP;obtain ⟨sa,sc,rfl⟩:=aB hO;clear hX hml hP hO hbl hs h0 h1 h2
   go_wp2_with fail
   refine ax (fun w'=>w'.cell? ⟨g,a,none⟩=some (.int .i64 bz)∧w'.cell? ⟨g,a+1,none⟩=some (.int .i64 Sz)∧w'.cell? ⟨g,a+2,none⟩=some (.int .i64 pz)) [0,1,2,3,4,5,6,7,8,9,10,11,12,13,14,15,16,17,18,19,20] [21,22,23] (by kernel_rfl) (by kernel_rfl) rfl (fun _ _ hx h=>⟨hx.cell h.1,hx.cell h.2.1,hx.cell h.2.2⟩) ⟨c0,c1,c2⟩ ?_;intro Q' hQ';simp only [pk];refine aA ?_;refine av ?_;simp only [HKEY.out];obtain ⟨wx,hwx⟩:∃ x,wr.drew=x:=⟨_,rfl⟩
   have HB2:=Lib.hid (HB.out.drew);have hO2:wr.drew.ownsRow w.heap.size 3 1 (.slice sa k sc) k (aV (bU (bQ l d k))):=HO.out;rw [hwx] at HB2 hO2 ⊢;have nQ:=Lib.hid hO2;clear hwx hO2 HO HB c0 c1 c2
   go_wp2_with (at_builtin;refine aM ?_)
   refine bR ?_;refine aR rfl _ _ 42 rfl w.heap.size 3 i0 _ 1 8 Tryz.underlying42 HI.out hz0 hz1 hz2 rfl (.slice sa k sc) k _ rfl (nQ.out.alloc _) (some ⟨wx.heap.size,0,none⟩) 1 1 [.int .i64 X] rfl rfl (fun h=>by cases h) (bA wx [.int .i64 X] 3) (by simp [Value.oneCell']) (by unfold maxLen;omega) (aZ (by omega)) (by have:=HB2.out.size;simp;omega) ?_;intro v7 w7 k1 k20 _ _;have uI:=HB2.out.trans (dW nQ.out k20 HB2.out.size);rw [← HP.out] at k1;have K1:=Lib.hid k1;clear k1 k20;go_wp2;go_roundw
   case rel=>exact ⟨k+1,hlt,by go_num,uI,K1.out⟩
   case measure=>simp [intOf];omega
  ·
   obtain rfl:k=n:=by omega
   obtain ⟨sa,sc,rfl⟩:=aB hO;clear hO hbl;go_wp2;go_ret
   exact ⟨_,rfl,by rw [dK,eF];exact HO.out,HB.out⟩
theorem aO {M k:Nat}(h:200≤k):¬ Mine M (M+k):=by unfold Mine;omega
theorem sV {m:aH}{k:Nat}(h:k < m.lines.length):aC m k=m.lines[k]:=by unfold aC;rw [List.getElem?_eq_getElem h];rfl
theorem vQ {l:kT}{d n N c:Nat}(h:l.base+l.size≤N)(hs:0 < l.size)(hc:c∈bQ l d n):c < N:=by
 obtain ⟨k,_,rfl⟩:=List.mem_map.1 hc;have:=Nat.mod_lt (l.pos+d+k) hs;omega
theorem GY {w:World}{o:Col}{M b:Nat}{P:ay}{m:aH}{v:bV}(h:aN w o M b P m v){c:Nat}(hc:c < m.mem.length):w.cell? ⟨v.mem,c,none⟩=some (.int .i64 (m.mem[c]?.getD 0)):=h.mem.cell c _ (by simp [aV,hc])
theorem jY {w:World}{o:Col}{M b:Nat}{P:ay}{m:aH}{v:bV}(h:aN w o M b P m v){k:Nat}(hk:k < m.lines.length):∃ g cap,v.lines=.slice (some ⟨g,0,none⟩) m.lines.length cap∧m.lines.length≤cap∧w.cell? ⟨g,k*4,none⟩=some (.int .i64 (aC m k).base)∧w.cell? ⟨g,k*4+1,none⟩=some (.int .i64 (aC m k).size)∧w.cell? ⟨g,k*4+2,none⟩=some (.int .i64 (aC m k).pos)∧w.cell? ⟨g,k*4+3,none⟩=some (.int .i64 (aC m k).cnt)∧∀ i,w.frozen? ⟨g,i,none⟩=false:=by
 obtain ⟨g,cap,e,hc,_⟩:=h.lines.addr (by omega);have hl:=h.lines;rw [e] at hl;have hx:∀ i u,i < 4→(jc m.lines[k])[i]?=some u→w.cell? ⟨g,k*4+i,none⟩=some u:=fun i u hi hu=>hl.cellAt (by rw [Bb _ _ _ hk hi];exact hu)
 rw [sV hk];exact ⟨g,cap,e,hc,hx 0 _ (by omega) rfl,hx 1 _ (by omega) rfl,hx 2 _ (by omega) rfl,hx 3 _ (by omega) rfl,fun i=>nC hl i⟩
theorem Lc {w:World}{N n:Nat}{ao:Option Addr}{cap:Nat}{l:List Int}(h:w.ownsRow N 3 1 (.slice ao n cap) l.length (aV l)){j:Nat}(hj:j < l.length):∃ g,ao=some ⟨g,0,none⟩∧n=l.length∧n≤cap∧N≤g∧g < w.heap.size∧w.cell? ⟨g,j,none⟩=some (.int .i64 (l[j]?.getD 0)):=by
 rcases h.2 with ⟨_,h0⟩ | ⟨g,cap',cur,e,hb,hg,hc,_⟩
 ·
  omega
 ·
  cases e
  have:=h.cells (g:=g) rfl j (.int .i64 (l[j]?.getD 0)) (by simp [aV,hj]);rw [Addr.add_lit,Nat.zero_add] at this;exact ⟨g,rfl,rfl,hc,hb,block_lt hg,this⟩
def Ld (w:World)(o:Col)(M b:Nat)(P:ay)(m:aH)(v:bV)(k n:Nat)(e:Ending)(w':World):Prop :=
 ∃ o' tv wv,e=.returned (.tuple #[tv,wv])∧Turn o o' (Mine M) w w'∧aN w' o' M b P { m with lines:=m.lines.set k { aC m k with pos:=((aC m k).pos+n) % (aC m k).size,cnt:=(aC m k).cnt - n } } v ∧
  Ints w' o' (M+211) tv (fP m.mem (bQ (aC m k) 0 n))∧Own w' o' (M+210) 3 1 wv (bU (bQ (aC m k) 0 n)).length (aV (bU (bQ (aC m k) 0 n)))
theorem Nf (mem:List Int)(pl:List Nat){j:Nat}(hj:j < pl.length):aV ((fP mem pl).take (j+1))=aV ((fP mem pl).take j) ++ [.int .i64 (mem[pl[j]]?.getD 0)]:=by
 rw [List.take_succ_eq_append_getElem (by simp [fP];exact hj)];simp [fP,aV]
theorem Ng {w:World}{o:Col}{M b:Nat}{P:ay}{m:aH}{v:bV}{F s:Nat}(h:aN w o M b P m v)(hP:tX P)(hm:lH P F s m){k n:Nat}(hk:k < m.lines.length)(hn:0 < n)(hc:n≤(aC m k).cnt){g:Nat}{cap:Nat}(hg:v.lines=.slice (some ⟨g,0,none⟩) m.lines.length cap) :
  Calls Tryz.prog 96 #[.pointer (some ⟨b,0,none⟩),.pointer (some ⟨g,k*4,none⟩),.int .i64 n] w (Ld w o M b P m v k n):=by
 obtain ⟨i0,hi,hz0,hz1,hz2⟩:=info_parts bJ;have HI:=Lib.hid hi;have hL:=lI hm.line k;have hPm:=hP.mem;have hmem:=hm.mem;have hr1:=hL.reg;have hr2:=hL.cnt;have hr3:=hL.pos;obtain ⟨g',cap',e',hcap,q0,q1,q2,q3,qf⟩:=jY h hk;rw [hg] at e';cases e'
 have HM:=Lib.hid h;have rz:=Lib.hid hm;have HG:=Lib.hid hg;have FC:=Lib.hid (sV hk);have HL:Hid (∃ x,aC m k=x):=Lib.hid ⟨_,rfl⟩;obtain ⟨l,hl⟩:=HL.out;have HE:=Lib.hid hl;rw [hl] at q0 q1 q2 q3 hr1 hr2 hr3 hc;unfold Ld;rw [hl];have hsz:0 < l.size:=by omega
 have JW:n≤1024:=by omega
 have HQ:=Lib.hid qf;clear hl hL hm hg h qf HL
 go_enter Tryz.func96,Tryz.ntmps96
 go_wp2_with fail
 refine (DC w g (k*4) l 0 n q0 q1 q2 (fun _=>hsz) (by omega)).mono ?_;rintro e w1 ⟨wv,rfl,K1,hb1⟩;have qP:=Lib.hid K1;have HB1:=Lib.hid hb1;obtain ⟨wa,wc,rfl⟩:=aB K1;rw [dK,eF] at *;obtain ⟨pl,hpl⟩:∃ x,bQ l 0 n=x:=⟨_,rfl⟩
 have hpn:pl.length=n:=by rw [← hpl];exact eF _ _ _
 have rQ:Hid (∀ c∈pl,c < m.mem.length):=Lib.hid fun c hc=>by
  rw [← hpl] at hc;exact vQ (by omega) hsz hc
 rw [hpl] at qP;have Cr:=Lib.hid hpn;have MI:=Lib.hid hpl;clear K1 hb1 hpl hpn
 go_wp2_with fail
 go_loopw [9,17] (fun tv i wl=>∃ (j:Nat),j≤n∧i=.int .i64 j∧Below w1.heap.size w1 wl∧wl.ownsRow w1.heap.size 3 1 tv j (aV ((fP m.mem pl).take j))) (fun _ i _=>n - (intOf i).toNat)
 case atStart=>exact ⟨0,Nat.zero_le _,rfl,Below.refl _ _,by rw [List.take_zero];exact World.ownsRow_nil w1 w1.heap.size 3 1⟩
 case round =>
  obtain ⟨j,hj,rfl,hbl,hO⟩:=hrel;have HB:=Lib.hid hbl;have HO:=Lib.hid hO;have hB:=HB1.out.trans (hbl.mono HB1.out.size);obtain ⟨sa,sc,rfl⟩:=aB hO
  by_cases hlt:j < n
  ·
   have dG:(j:Int) < n:=by omega
   have hjp:j < pl.length:=by have:=Cr.out;omega
   have hK1:=qP.out;rw [← Cr.out,← dK] at hK1;obtain ⟨wg,rfl,-,hwc,-,-,f1⟩:=Lc hK1 (by rw [dK];exact hjp);rw [dK,Cr.out] at hwc;have hcm:=rQ.out pl[j] (List.getElem_mem hjp);have f2:=GY HM.out hcm;have hgs:=Nf m.mem pl hjp;rw [show (bU pl)[j]?.getD 0=((pl[j]:Nat):Int) by simp [bU,hjp]] at f1;obtain ⟨c,hcc⟩:∃ x,pl[j]=x:=⟨_,rfl⟩
   rw [hcc] at f1 f2 hcm hgs;have f1':=cell_later hbl f1;have f2':=cell_later hB f2;have f0':=cell_later hB (HM.out.cell 0 (u:=.slice (some ⟨v.mem,0,none⟩) m.mem.length m.mem.length) rfl);have hci:(c:Int) < m.mem.length:=by omega
   have ach:(n:Int)≤wc:=by omega
   have ZR:=Lib.hid hgs;clear f1 f2 hgs hcc hK1 hO hbl hB hr1 hr2 hr3 hc
   go_wp2_with (at_builtin;refine aM ?_)
   refine bR ?_;refine aR rfl _ _ 42 rfl w1.heap.size 3 i0 _ 1 8 Tryz.underlying42 HI.out hz0 hz1 hz2 rfl (.slice sa j sc) j _ rfl (HO.out.alloc _) (some ⟨wr.heap.size,0,none⟩) 1 1 [.int .i64 (m.mem[c]?.getD 0)] rfl rfl (fun h=>by cases h) (bA wr [.int .i64 (m.mem[c]?.getD 0)] 3) (by simp [Value.oneCell']) (by unfold maxLen;omega) (aZ (by omega)) (by have:=HB.out.size;simp;omega) ?_;intro v7 w7 k1 k20 _ _;have uI:=HB.out.trans (dW HO.out k20 HB.out.size);rw [← ZR.out] at k1;have K1:=Lib.hid k1;clear k1 k20 f0' f1' f2';go_wp2;go_roundw
   case rel=>exact ⟨j+1,hlt,by go_num,uI,K1.out⟩
   case measure=>simp [intOf];omega
  ·
   obtain rfl:j=n:=by omega
   have hgl:(fP m.mem pl).take j=fP m.mem pl:=List.take_of_length_le (by rw [pG,Cr.out];omega);rw [hgl] at hO;have Ta:=Turn.of_below o (M+210) HB1.out;have Tb:=Turn.of_below (ext o w.heap.size (M+210)) (M+211) hbl;have hA:Own wr (ext (ext o w.heap.size (M+210)) w1.heap.size (M+211)) (M+210) 3 1 (.slice wa j wc) (bU pl).length (aV (bU pl)):=by
    have hK1:=qP.out;have:=(show Own w1 (ext o w.heap.size (M+210)) (M+210) 3 1 _ _ _ from ⟨bG hK1 (fun _ _=>Nat.zero_le _),fun k hk=>aW (hK1.lt k hk).1⟩).turn Tb (fun h=>h);rw [dK,Cr.out];exact this
   have hT:Ints wr (ext (ext o w.heap.size (M+210)) w1.heap.size (M+211)) (M+211) (.slice sa j sc) (fP m.mem pl):=by
    have e:j=(fP m.mem pl).length:=by rw [pG,Cr.out]
    exact (Own.vals (e:=3) (n:=j) ⟨bG hO (fun _ _=>Nat.zero_le _),fun k hk=>aW (hO.lt k hk).1⟩)
   have h1:=(HM.out.turn Ta (fun _ h=>h.elim)).turn Tb (fun _ h=>h.elim);have hlc:=jY h1 hk;obtain ⟨g9,Wm,e9,-,c0,c1,c2,c3,cf⟩:=hlc;rw [HG.out] at e9;cases e9
   rw [HE.out] at c1 c2 c3;have T1:Turn o (ext (ext o w.heap.size (M+210)) w1.heap.size (M+211)) (fun _=>False) w wr:=Ta.trans Tb (fun _ h=>h);have HT1:=Lib.hid T1;have H1:=Lib.hid h1;have HA:=Lib.hid hA;have Le:=Lib.hid hT;clear hgl hO Ta Tb hA hT h1 T1 c0 hbl hB HO HB HM qP;generalize ext (ext o w.heap.size (M+210)) w1.heap.size (M+211)=q at *;obtain ⟨r,hr⟩:∃ x:Int,(((l.pos+j) % l.size:Nat):Int)=x:=⟨_,rfl⟩
   obtain ⟨rc,hrc⟩:∃ x:Int,((l.cnt - j:Nat):Int)=x:=⟨_,rfl⟩
   have key:Int.tmod (IntKind.i64.wrap ((l.pos:Int)+j)) (l.size:Int)=r:=by
    rw [IntWalk.i64_in _ (by omega),Int.tmod_eq_emod_of_nonneg (by omega),← hr];rfl
   have e4:IntKind.i64.wrap ((l.cnt:Int) - j)=rc:=by rw [IntWalk.i64_in _ (by omega)];omega
   have hne:¬ (l.size:Int)=0:=by omega
   have hLk:m.lines[k]=l:=FC.out.symm.trans HE.out;have S1:=H1.out.EM (k:=k) (i:=2) (u:=.int .i64 r) (y:={ l with pos:=(l.pos+j) % l.size }) HG.out hk (by omega) (by rw [hLk,← hr];rfl);have hk2:k < (m.lines.set k { l with pos:=(l.pos+j) % l.size }).length:=by rw [List.length_set];exact hk
   have hG2:v.lines=.slice (some ⟨g,0,none⟩) (m.lines.set k { l with pos:=(l.pos+j) % l.size }).length cap:=by rw [List.length_set];exact HG.out
   have S2:=S1.1.EM (k:=k) (i:=3) (u:=.int .i64 rc) (y:={ l with pos:=(l.pos+j) % l.size,cnt:=l.cnt - j }) hG2 hk2 (by omega) (by simp only [List.getElem_set_self];rw [← hrc];rfl);have Rj:=Lib.hid S1;have HS2:=Lib.hid S2;have d0:=cf (k*4+2);have d1:=cf (k*4+3);obtain ⟨Sz,hSz⟩:∃ x:Int,(l.size:Int)=x:=⟨_,rfl⟩
   obtain ⟨pz,hpz⟩:∃ x:Int,(l.pos:Int)=x:=⟨_,rfl⟩
   obtain ⟨cz,hcz⟩:∃ x:Int,(l.cnt:Int)=x:=⟨_,rfl⟩
   rw [hSz] at c1 key hne;rw [hpz] at c2 key;rw [hcz] at c3 e4;have HKEY:=Lib.hid key;clear hSz hpz hcz hr hrc key cf hLk hk2 hG2 S1 S2 hr1 hr2 hr3 hc
   go_wp2_with fail
   refine ax (fun w'=>w'.cell? ⟨g,k*4+1,none⟩=some (.int .i64 Sz)∧w'.cell? ⟨g,k*4+2,none⟩=some (.int .i64 pz)) [0,1,2,3,4,5,6,7,8,9,10,11,12,13,14] [15] (by kernel_rfl) (by kernel_rfl) rfl (fun _ _ hx h=>⟨hx.cell h.1,hx.cell h.2⟩) ⟨c1,c2⟩ ?_;intro Q' hQ';simp only [pk];refine aA ?_;refine av ?_;simp only [HKEY.out];go_wp2
   go_ret2
   have T2:=(HT1.out.mono (D:=Mine M) (fun _ h=>h.elim)).trans (Rj.out.2.trans HS2.out.2 (fun _ h=>h)) (fun _ h=>h);have hfin:=HS2.out.1;simp only [List.set_set] at hfin;have Nh:=Rj.out.2.trans HS2.out.2 (fun _ h=>h);rw [MI.out];refine ⟨_,_,_,rfl,T2.drewN 1,hfin.turn ((Turn.refl _ (fun _=>False) _).drewN 1) (fun _ h=>h.elim),?_,?_⟩
   ·
    exact (Le.out.turn Nh (aO (by omega))).drewN 1
   ·
    exact (HA.out.turn Nh (aO (by omega))).drewN 1
theorem Bf:∀ (pl:List Nat) (ts mem:List Int) (j:Nat) (h:j < pl.length) (h2:j < ts.length),oO mem (pl.take (j+1)) (ts.take (j+1))=(oO mem (pl.take j) (ts.take j)).set pl[j] ts[j]
 | [],_,_,_,h,_=>by simp at h
 | _ :: _,[],_,_,_,h=>by simp at h
 | c :: pl,t :: ts,mem,0,_,_=>by cases pl <;> rfl
 | c :: pl,t :: ts,mem,j+1,h,h2=>by
  rw [List.take_succ_cons,List.take_succ_cons,List.take_succ_cons,List.take_succ_cons,oO,oO];exact Bf pl ts _ j (by simpa using h) (by simpa using h2)
def Rk (w:World)(o:Col)(M b:Nat)(P:ay)(m:aH)(v:bV)(k:Nat)(ts:List Int)(e:Ending)(w':World):Prop :=
 ∃ o' wv,e=.returned wv∧Turn o o' (Mine M) w w'∧aN w' o' M b P { m with mem:=oO m.mem (bQ (aC m k) (aC m k).cnt ts.length) ts,lines:=m.lines.set k { aC m k with cnt:=(aC m k).cnt+ts.length } } v ∧
  Own w' o' (M+210) 3 1 wv (bU (bQ (aC m k) (aC m k).cnt ts.length)).length (aV (bU (bQ (aC m k) (aC m k).cnt ts.length)))
theorem Rl {w:World}{o:Col}{M b:Nat}{P:ay}{m:aH}{v:bV}{F s:Nat}(h:aN w o M b P m v)(hP:tX P)(hm:lH P F s m){k:Nat}{ts:List Int}{tv:Value}{ct:Nat}(hts:Ints w o ct tv ts)(hct:ct≠M+1)(hk:k < m.lines.length)(hn:0 < ts.length)(hc:(aC m k).cnt+ts.length≤(aC m k).size){g:Nat}{cap:Nat}(hg:v.lines=.slice (some ⟨g,0,none⟩) m.lines.length cap) :
  Calls Tryz.prog 98 #[.pointer (some ⟨b,0,none⟩),.pointer (some ⟨g,k*4,none⟩),tv] w (Rk w o M b P m v k ts):=by
 have hL:=lI hm.line k;have hPm:=hP.mem;have hmem:=hm.mem;have hr1:=hL.reg;have hr3:=hL.pos;obtain ⟨g',cap',e',hcap,q0,q1,q2,q3,qf⟩:=jY h hk;rw [hg] at e';cases e'
 have HM:=Lib.hid h;have HG:=Lib.hid hg;have FC:=Lib.hid (sV hk);have HL:Hid (∃ x,aC m k=x):=Lib.hid ⟨_,rfl⟩;obtain ⟨l,hl⟩:=HL.out;have HE:=Lib.hid hl;rw [hl] at q0 q1 q2 q3 hr1 hr3 hc;unfold Rk;rw [hl];obtain ⟨ta,tc,rfl⟩:=hts.slice;have JX:=Lib.hid hts;obtain ⟨n,hnn⟩:∃ x,ts.length=x:=⟨_,rfl⟩
 have HN:=Lib.hid hnn;rw [hnn] at hn hc JX ⊢;have hsz:0 < l.size:=by omega
 have JW:n≤1024:=by omega
 have EO:l.base+l.size≤m.mem.length:=by omega
 have hlen:m.mem.length≤1024:=by omega
 clear hmem hPm hr1;clear hl hL hm hg h qf HL hts hnn
 go_enter Tryz.func98,Tryz.ntmps98
 go_wp2_with fail
 refine (DC w g (k*4) l l.cnt n q0 q1 q2 (fun _=>hsz) (by omega)).mono ?_;rintro e w1 ⟨wv,rfl,K1,hb1⟩;have HB1:=Lib.hid hb1;obtain ⟨wa,wc,rfl⟩:=aB K1;rw [dK,eF] at K1 ⊢;obtain ⟨pl,hpl⟩:∃ x,bQ l l.cnt n=x:=⟨_,rfl⟩
 have hpn:pl.length=n:=by rw [← hpl];exact eF _ _ _
 have rQ:Hid (∀ c∈pl,c < m.mem.length):=Lib.hid fun c hc=>by
  rw [← hpl] at hc;exact vQ (by omega) hsz hc
 rw [hpl] at K1;have MI:=Lib.hid hpl;have T1:=Turn.of_below o (M+210) hb1;have hA:Own w1 (ext o w.heap.size (M+210)) (M+210) 3 1 (.slice wa n wc) n (aV (bU pl)):=⟨bG K1 (fun _ _=>Nat.zero_le _),fun k hk=>aW (K1.lt k hk).1⟩;have hT:=JX.out.turn T1 (fun h=>h);have hM:=HM.out.turn T1 (fun _ h=>h.elim);have EP:=Lib.hid hM;have HA:=Lib.hid hA;have HT1:=Lib.hid T1;have Le:=Lib.hid hT;have Cr:=Lib.hid hpn;clear K1 hb1 hpl hpn hA hT hM T1 JX HM HB1 q0 q1 q2 q3;generalize ext o w.heap.size (M+210)=q at *
 go_wp2_with fail
 go_loopw [20] (fun i wl=>∃ (j:Nat),j≤n∧i=.int .i64 j∧Turn q q (fun x=>x=M+1) w1 wl∧aN wl q M b P { m with mem:=oO m.mem (pl.take j) (ts.take j) } v) (fun i _=>n - (intOf i).toNat)
 case atStart=>exact ⟨0,Nat.zero_le _,rfl,Turn.refl _ _ _,by rw [List.take_zero,List.take_zero];exact EP.out⟩
 case round =>
  obtain ⟨j,hj,rfl,FD,Rm⟩:=hrel;have wM:=Lib.hid FD;have HML:=Lib.hid Rm
  by_cases hlt:j < n
  ·
   have dG:(j:Int) < n:=by omega
   have hjp:j < pl.length:=by have:=Cr.out;omega
   have hjt:j < ts.length:=by have:=HN.out;omega
   have hA:=HA.out.turn FD (by omega);obtain ⟨wg,wo,rfl,-,hwc,-,-,f1⟩:=Ints.at (l:=bU pl) hA.vals (by rw [dK];omega);have f1:=f1 j (by rw [dK];exact hjp);have hTk:=Le.out.turn FD hct;obtain ⟨tg,to,rfl,-,htc,-,-,f3⟩:=Ints.at hTk (by omega);have f3:=f3 j hjt;have hcm:=rQ.out pl[j] (List.getElem_mem hjp);rw [show (bU pl)[j]?.getD 0=((pl[j]:Nat):Int) by simp [bU,hjp]] at f1;rw [show ts[j]?.getD 0=ts[j] by simp [hjt]] at f3;have hls:=Bf pl ts m.mem j hjp hjt;obtain ⟨c,hcc⟩:∃ x,pl[j]=x:=⟨_,rfl⟩
   obtain ⟨t,XT⟩:∃ x,ts[j]=x:=⟨_,rfl⟩
   rw [hcc] at f1 hcm hls;rw [XT] at f3 hls;have f0:=Rm.cell 0 (u:=.slice (some ⟨v.mem,0,none⟩) (oO m.mem (pl.take j) (ts.take j)).length (oO m.mem (pl.take j) (ts.take j)).length) rfl;rw [pF] at f0;have fr:=Rm.mem.frozen c;have f2:=GY Rm (c:=c) (by simp only [pF];exact hcm);have S1:=Rm.Bd c t;simp only at S1;rw [← hls] at S1;have S2:=(Rm.mem.set c (.int .i64 t)).2;have Rj:=Lib.hid S1.1;have HS2:=Lib.hid (FD.trans S2 (fun _ h=>h));have hci:(c:Int) < m.mem.length:=by omega
   have ach:(n:Int)≤wc:=by omega
   have adI:(n:Int)≤tc:=by omega
   have f2':∃ u,wr.cell? ⟨v.mem,c,none⟩=some u:=⟨_,f2⟩
   clear hls hcc XT hA hTk Rm FD S1 S2 hr3 hc HML wM
   go_wp2_with fail
   refine ax (fun w'=>w'.cell? ⟨b,0,none⟩=some (.slice (some ⟨v.mem,0,none⟩) m.mem.length m.mem.length)∧w'.cell? ⟨tg,to+j,none⟩=some (.int .i64 t)) [0,1,2,3,4,5,6,7,8,9] [10] (by kernel_rfl) (by kernel_rfl) rfl (fun _ _ hx h=>⟨hx.cell h.1,hx.cell h.2⟩) ⟨f0,f3⟩ ?_;intro Q' hQ';simp only [pk];refine aA ?_;refine av ?_;go_wp2;go_roundw
   case rel=>exact ⟨j+1,hlt,by go_num,HS2.out.drewN 1,Rj.out.turn ((Turn.refl _ (fun _=>False) _).drewN 1) (fun _ h=>h.elim)⟩
   case measure=>simp [intOf];omega
  ·
   obtain rfl:j=n:=by omega
   have hpt:pl.take j=pl:=List.take_of_length_le (by rw [Cr.out];omega);have XT:ts.take j=ts:=List.take_of_length_le (by rw [HN.out];omega);rw [hpt,XT] at Rm;have hA:=HA.out.turn FD (by omega);obtain ⟨g9,Wm,e9,-,c0,c1,c2,c3,cf⟩:=jY Rm (k:=k) hk;rw [HG.out] at e9;cases e9
   have hle:aC { m with mem:=oO m.mem pl ts } k=l:=HE.out;rw [hle] at c3;obtain ⟨rc,hrc⟩:∃ x:Int,((l.cnt+j:Nat):Int)=x:=⟨_,rfl⟩
   have e4:IntKind.i64.wrap ((l.cnt:Int)+j)=rc:=by rw [IntWalk.i64_in _ (by omega)];omega
   have hLk:m.lines[k]=l:=FC.out.symm.trans HE.out;have S1:=Rm.EM (k:=k) (i:=3) (u:=.int .i64 rc) (y:={ l with cnt:=l.cnt+j }) HG.out hk (by omega) (by show (jc m.lines[k]).set _ _=_;rw [hLk,← hrc];rfl);have Rj:=Lib.hid S1;have HA2:=Lib.hid hA;have d1:=cf (k*4+3);have wM:=Lib.hid ((HT1.out.mono (D:=Mine M) (fun _ h=>h.elim)).trans FD (fun x h=>by rw [h];unfold Mine;omega));obtain ⟨cz,hcz⟩:∃ x:Int,(l.cnt:Int)=x:=⟨_,rfl⟩
   rw [hcz] at c3 e4;clear hcz hrc cf hLk S1 hr3 hc hA FD Rm hpt XT c0 c1 c2 hle HML;go_wp2;go_ret
   rw [MI.out];refine ⟨_,_,rfl,wM.out.trans Rj.out.2 (fun _ h=>h),Rj.out.1,?_⟩;rw [dK,Cr.out];exact HA2.out.turn Rj.out.2 (aO (by omega))
def gu (M x:Nat):Prop:=M≤x∧x < M+206
theorem Mine.x {M:Nat}(x:Nat)(h:Mine M x):gu M x:=by unfold Mine at h;unfold gu;omega
theorem pO {M k:Nat}(h:206≤k):¬ gu M (M+k):=by unfold gu;omega
def gU (w:World)(o:Col)(M eb:Nat)(op kd ln h:Int)(cells:List Int):Prop :=
 ∃ cv,dY w o (M+205) eb 69 #[.int .i64 op,.int .u8 kd,.int .i64 ln,cv,.int .u8 h]∧Own w o (M+210) 3 1 cv cells.length (aV cells)∧(cells=[]→cv=.slice none 0 0)
section
variable {w w':World} {o o':Col} {C:Nat→Prop} {M eb:Nat} {op kd ln h:Int} {cells:List Int}
theorem gU.turn (H:gU w o M eb op kd ln h cells)(T:Turn o o' C w w')(h1:¬ C (M+205))(h2:¬ C (M+210)):gU w' o' M eb op kd ln h cells:=by
 obtain ⟨cv,a,b,c⟩:=H;exact ⟨cv,a.turn T h1,b.turn T h2,c⟩
theorem gU.halt (H:gU w o M eb op kd ln h cells)(x:Int):gU (w.setCell ⟨eb,4,none⟩ (.int .u8 x)) o M eb op kd ln x cells∧Turn o o (fun c=>c=M+205) w (w.setCell ⟨eb,4,none⟩ (.int .u8 x)):=by
 obtain ⟨cv,a,b,c⟩:=H;obtain ⟨s,T⟩:=a.set 4 (.int .u8 x);exact ⟨⟨cv,s,b.turn T (by omega),c⟩,T⟩
theorem gU.list (H:gU w o M eb op kd ln h cells){v:Value}{l:List Int}(hv:Own w o (M+210) 3 1 v l.length (aV l))(hl:0 < l.length):gU (w.setCell ⟨eb,3,none⟩ v) o M eb op kd ln h l∧Turn o o (fun c=>c=M+205) w (w.setCell ⟨eb,3,none⟩ v):=by
 obtain ⟨cv,a,b,_⟩:=H;obtain ⟨s,T⟩:=a.set 3 v;exact ⟨⟨v,s,hv.turn T (by omega),fun e=>by rw [e] at hl;simp at hl⟩,T⟩
theorem gU.frozen (H:gU w o M eb op kd ln h cells)(i:Nat):w.frozen? ⟨eb,i,none⟩=false:=by
 obtain ⟨cv,a,b,_⟩:=H;exact a.frozen i
theorem gU.reads (H:gU w o M eb op kd ln h cells):∃ a0 c0,w.cell? ⟨eb,3,none⟩=some (.slice a0 cells.length c0)∧w.cell? ⟨eb,4,none⟩=some (.int .u8 h)∧w.cell? ⟨eb,0,none⟩=some (.int .i64 op)∧w.cell? ⟨eb,1,none⟩=some (.int .u8 kd)∧w.cell? ⟨eb,2,none⟩=some (.int .i64 ln)∧Own w o (M+210) 3 1 (.slice a0 cells.length c0) cells.length (aV cells):=by
 obtain ⟨cv,a,b,_⟩:=H;obtain ⟨a0,c0,rfl⟩:=b.slice;exact ⟨a0,c0,a.cell 3 _ rfl,a.cell 4 _ rfl,a.cell 0 _ rfl,a.cell 1 _ rfl,a.cell 2 _ rfl,b⟩
theorem gU.jZ (H:gU w o M eb op kd ln h []):w.cell? ⟨eb,3,none⟩=some (.slice none 0 0):=by
 obtain ⟨cv,a,b,c⟩:=H;rw [← c rfl];exact a.cell 3 _ rfl
end
def mP (w:World)(o:Col)(M b:Nat)(P:ay)(eb:Nat)(op kd ln h:Int)(cells:List Nat)(m':aH)(e:Ending)(w':World):Prop :=
 ∃ o' v',e=.returned (.tuple #[])∧Turn o o' (gu M) w w'∧w'.cell? ⟨b,9,none⟩=some (.int .i64 ((m'.next:Int) - 1))∧w'.frozen? ⟨b,9,none⟩=false ∧
  aN (w'.setCell ⟨b,9,none⟩ (.int .i64 (m'.next:Int))) o' M b P m' v'∧gU w' o' M eb op kd ln h (bU cells)
def kX (w:World)(o:Col)(M b:Nat)(P:ay)(m:aH)(eb:Nat)(op kd ln h:Int)(e:Ending)(w':World):Prop :=
 ∃ o' v',e=.returned (.tuple #[])∧Turn o o' (gu M) w w'∧aN w' o' M b P m v'∧gU w' o' M eb op kd ln h []
section
variable {w:World} {o:Col} {M b:Nat} {P:ay} {m:aH} {v:bV}
theorem aN.frozen (h:aN w o M b P m v)(i:Nat):w.frozen? ⟨b,i,none⟩=false:=h.blk.frozen i
theorem aN.zX (h:aN w o M b P m v)(n:Nat):aN (w.setCell ⟨b,9,none⟩ (.int .i64 (n:Int))) o M b P { m with next:=n } v∧Turn o o (Mine M) w (w.setCell ⟨b,9,none⟩ (.int .i64 (n:Int))) :=
 h.block 9 _ (by unfold bC;rcases m.last with _ | e <;> rfl) rfl rfl rfl rfl rfl rfl rfl
theorem aN.JY (h:aN w o M b P m v)(n:Nat):aN (w.setCell ⟨b,10,none⟩ (.int .i64 (n:Int))) o M b P { m with periods:=n } v∧Turn o o (Mine M) w (w.setCell ⟨b,10,none⟩ (.int .i64 (n:Int))) :=
 h.block 10 _ (by unfold bC;rcases m.last with _ | e <;> rfl) rfl rfl rfl rfl rfl rfl rfl
theorem aN.GZ (h:aN w o M b P m v)(x:Int)(n:Nat):(w.setCell ⟨b,9,none⟩ (.int .i64 x)).cell? ⟨b,9,none⟩=some (.int .i64 x)∧(w.setCell ⟨b,9,none⟩ (.int .i64 x)).frozen? ⟨b,9,none⟩=false∧Turn o o (Mine M) w (w.setCell ⟨b,9,none⟩ (.int .i64 x)) ∧
  aN ((w.setCell ⟨b,9,none⟩ (.int .i64 x)).setCell ⟨b,9,none⟩ (.int .i64 (n:Int))) o M b P { m with next:=n } v:=by
 obtain ⟨b1,T1⟩:=h.blk.set 9 (.int .i64 x);obtain ⟨b2,T2⟩:=b1.set 9 (.int .i64 (n:Int));refine ⟨b1.cell 9 _ (by unfold bC;simp),b1.frozen 9,T1.mono (fun c hc=>by unfold Mine;omega),h.EL (T1.trans T2 (fun _ h=>h)) ?_ rfl rfl rfl rfl rfl rfl rfl⟩;simp only [List.setIfInBounds_toArray,List.set_set] at b2;exact b2
theorem mP.next {eb:Nat}{op kd ln h:Int}{cells:List Nat}{e:Ending}{w':World}{o':Col}{v':bV}{m':aH}(he:e=.returned (.tuple #[]))(T:Turn o o' (gu M) w w')(hM:aN w' o' M b P m' v')(hE:gU w' o' M eb op kd ln h (bU cells)):mP w o M b P eb op kd ln h cells { m' with next:=m'.next+1 } e w':=by
 refine ⟨o',v',he,T,?_,hM.frozen 9,(hM.zX (m'.next+1)).1,hE⟩;have:=hM.cell 9 (u:=.int .i64 (m'.next:Int)) (by unfold bC;rfl);rw [this];simp
end
theorem rR {w:World}{o:Col}{M b:Nat}{P:ay}{m:aH}{v:bV}(h:aN w o M b P m v)(n:Nat)(hn:m.hand.length≤100000∧n≤100000) :
  Calls Tryz.prog 95 #[.pointer (some ⟨b,0,none⟩),.int .i64 n] w (vC (.bool (decide (64 < m.hand.length+n))) w):=by
 have c8:=h.cell 8 (u:=v.hand) (by unfold bC;rfl);obtain ⟨ao,cap,e⟩:=h.hand.slice;rw [aD] at e;rw [e] at c8;obtain ⟨a,ha⟩:∃ x:Nat,m.hand.length=x:=⟨_,rfl⟩
 rw [ha] at c8 hn ⊢;obtain ⟨s,hs⟩:∃ x:Int,((a+n:Nat):Int)=x:=⟨_,rfl⟩
 have e1:IntKind.i64.wrap ((a:Int)+n)=s:=by rw [IntWalk.i64_in _ (by omega)];omega
 clear h e ha
 by_cases hx:64 < a+n
 ·
  have hxi:(64:Int) < s:=by omega
  rw [decide_eq_true hx];clear hs hx
  go_enter Tryz.func95,Tryz.ntmps95
  go_wp2;go_ret
  exact ⟨rfl,rfl⟩
 ·
  have hxi:¬ (64:Int) < s:=by omega
  rw [decide_eq_false hx];clear hs hx
  go_enter Tryz.func95,Tryz.ntmps95
  go_wp2;go_ret
  exact ⟨rfl,rfl⟩
def FE (x:fG):Value:=.agg #[.int .u8 x.kind,.int .i64 x.a,.int .i64 x.b]
theorem Wn {w:World}{o:Col}{M b eb:Nat}{P:ay}{m:aH}{v:bV}{op kd ln:Int}(x:fG)(h:aN w o M b P m v)(hE:gU w o M eb op kd ln 0 [])(hb:m.hand.length≤64)(hp:m.periods≤1000000000000) :
  Calls Tryz.prog 76 #[.pointer (some ⟨b,0,none⟩),FE x,.pointer (some ⟨eb,0,none⟩)] w
   (if 0 < m.hand.length then kX w o M b P m eb op kd ln 4 else mP w o M b P eb op kd ln 1 [] { m with periods:=m.periods+1,next:=0 }):=by
 have hbx:=au w (.cells #[.int .u8 x.kind,.int .i64 x.a,.int .i64 x.b] 58);have Tx:=Turn.of_below o (M+206) hbx;have h1:=h.turn Tx (fun _ h=>h.elim);have hE1:=hE.turn Tx (fun h=>h) (fun h=>h);generalize ext o w.heap.size (M+206)=q at *;have c8:=h1.cell 8 (u:=v.hand) (by unfold bC;rfl);have c10:=h1.cell 10 (u:=.int .i64 (m.periods:Int)) (by unfold bC;rfl);have c9:=h1.cell 9 (u:=.int .i64 (m.next:Int)) (by unfold bC;rfl);have f9:=h1.frozen 9;have f10:=h1.frozen 10;obtain ⟨ao,cap,e⟩:=h1.hand.slice;rw [aD] at e;rw [e] at c8;have fe:=hE1.frozen 4;obtain ⟨_,_,_,x4,_⟩:=hE1.reads;have HM:=Lib.hid h1;have HE:=Lib.hid hE1;have HT:=Lib.hid Tx;clear h hE hbx Tx h1 hE1 e;unfold FE
 by_cases hx:0 < m.hand.length
 ·
  rw [if_pos hx];have hxi:(0:Int) < (m.hand.length:Int):=by omega
  have S:=HE.out.halt 4;have HS:=Lib.hid S;clear S
  go_enter Tryz.func76,Tryz.ntmps76
  go_wp2;go_end0
  exact ⟨q,v,rfl,(HT.out.mono (D:=gu M) (fun _ h=>h.elim)).trans HS.out.2 (fun c hc=>by rw [hc];unfold gu;omega),HM.out.turn HS.out.2 (fun c hc=>by rw [hc];exact aO (by omega)),HS.out.1⟩
 ·
  rw [if_neg hx];have hxi:¬ (0:Int) < (m.hand.length:Int):=by omega
  have S:=HE.out.halt 1;have m2:=HM.out.turn S.2 (fun c hc=>by rw [hc];exact aO (by omega));have S3:=m2.JY (m.periods+1);have S4:=S3.1.GZ (-1) 0;obtain ⟨pz,hpz⟩:∃ x:Int,((m.periods+1:Nat):Int)=x:=⟨_,rfl⟩
  have e1:IntKind.i64.wrap ((m.periods:Int)+1)=pz:=by rw [IntWalk.i64_in _ (by omega)];omega
  rw [hpz] at S3 S4;have E4:=(S.1.turn S3.2 (aO (by omega)) (aO (by omega))).turn S4.2.2.1 (aO (by omega)) (aO (by omega));have HS:=Lib.hid S.2;have Yf:=Lib.hid S3.2;have Yg:=Lib.hid S4;have HE4:=Lib.hid E4;clear S S3 S4 E4 m2 hpz
  go_enter Tryz.func76,Tryz.ntmps76
  go_wp2;go_end0
  refine ⟨q,v,rfl,?_,Yg.out.1,Yg.out.2.1,Yg.out.2.2.2,HE4.out⟩;have T:=(HT.out.mono (D:=gu M) (fun _ h=>h.elim)).trans HS.out (fun c hc=>by rw [hc];unfold gu;omega);exact (T.trans Yf.out Mine.x).trans Yg.out.2.2.1 Mine.x
section
variable {w:World} {o:Col} {M b:Nat} {P:ay} {m:aH} {v:bV}
theorem EQ (h:aN w o M b P m v){k:Nat}(hk:k < m.cs.length):w.cell? ⟨v.cs,k,none⟩=some (.int .i64 (m.cs[k]?.getD 0)):=h.cs.cell k _ (by simp [aV,hk])
end
theorem mP.drewN {w w':World}{o:Col}{M b:Nat}{P:ay}{eb:Nat}{op kd ln h:Int}{cells:List Nat}{m':aH}{e:Ending}(H:mP w o M b P eb op kd ln h cells m' e w')(n:Nat):mP w o M b P eb op kd ln h cells m' e (w'.drewN n):=by
 obtain ⟨o',v',h0,h1,h2,h3,h4,h5⟩:=H;exact ⟨o',v',h0,h1.drewN n,h2,h3,h4.turn ((Turn.refl o' (fun _=>False) _).drewN n) (fun _ h=>h.elim),h5.turn ((Turn.refl o' (fun _=>False) _).drewN n) (fun h=>h) (fun h=>h)⟩
theorem kX.drewN {w w':World}{o:Col}{M b:Nat}{P:ay}{m:aH}{eb:Nat}{op kd ln h:Int}{e:Ending}(H:kX w o M b P m eb op kd ln h e w')(n:Nat):kX w o M b P m eb op kd ln h e (w'.drewN n):=by
 obtain ⟨o',v',h0,h1,h4,h5⟩:=H;exact ⟨o',v',h0,h1.drewN n,h4.turn ((Turn.refl o' (fun _=>False) _).drewN n) (fun _ h=>h.elim),h5.turn ((Turn.refl o' (fun _=>False) _).drewN n) (fun h=>h) (fun h=>h)⟩
theorem Rn {w:World}{o:Col}{M b eb:Nat}{P:ay}{m:aH}{v:bV}{op kd ln:Int}(x:fG)(h:aN w o M b P m v)(hE:gU w o M eb op kd ln 0 []){a:Nat}(ha:x.a=a)(hk:a < m.cs.length) :
  Calls Tryz.prog 77 #[.pointer (some ⟨b,0,none⟩),FE x,.pointer (some ⟨eb,0,none⟩)] w (mP w o M b P eb op kd ln 0 [] { m with cs:=m.cs.set a x.b,next:=m.next+1 }):=by
 obtain ⟨kd',xa,xb⟩:=x;dsimp only at ha ⊢;subst ha;unfold FE;dsimp only;have hbx:=au w (.cells #[.int .u8 kd',.int .i64 (a:Int),.int .i64 xb] 58);have Tx:=Turn.of_below o (M+206) hbx;have h1:=h.turn Tx (fun _ h=>h.elim);have hE1:=hE.turn Tx (fun h=>h) (fun h=>h);have hX:dY (w.alloc (.cells #[.int .u8 kd',.int .i64 (a:Int),.int .i64 xb] 58)) (ext o w.heap.size (M+206)) (M+206) w.heap.size 58 #[.int .u8 kd',.int .i64 (a:Int),.int .i64 xb]:=⟨heap_alloc_new w _,aW (Nat.le_refl _)⟩;have x1:=hX.cell 1 _ rfl;have x2:=hX.cell 2 _ rfl;generalize ext o w.heap.size (M+206)=q at *;clear h hE hbx;have c5:=h1.cell 7 (u:=.slice (some ⟨v.cs,0,none⟩) m.cs.length m.cs.length) (by unfold bC;rfl);have ck:=EQ h1 hk;have fk:=h1.cs.frozen a;have S:=h1.GX a xb;have HM:=Lib.hid (mP.next (e:=.returned (.tuple #[])) (w:=w) (o:=o) (cells:=[]) rfl ((Tx.mono (D:=gu M) (fun _ h=>h.elim)).trans S.2 Mine.x) S.1 (hE1.turn S.2 (aO (by omega)) (aO (by omega))));have hki:(a:Int) < m.cs.length:=by omega
 clear Tx h1 hE1 S
 go_enter Tryz.func77,Tryz.ntmps77
 go_wp2_with fail
 refine ax (fun w'=>w'.cell? ⟨b,7,none⟩=some (.slice (some ⟨v.cs,0,none⟩) m.cs.length m.cs.length)∧w'.cell? ⟨w.heap.size,1,none⟩=some (.int .i64 a)∧w'.cell? ⟨w.heap.size,2,none⟩=some (.int .i64 xb)) [0,1,2,3,4,5,6,7,8] [9] (by kernel_rfl) (by kernel_rfl) rfl (fun _ _ hx h=>⟨hx.cell h.1,hx.cell h.2.1,hx.cell h.2.2⟩) ⟨c5,x1,x2⟩ ?_;intro Q' hQ';simp only [pk];refine aA ?_;refine av ?_;go_wp2;go_end0
 exact HM.out.drewN 1
theorem Ro {w:World}{o:Col}{M b eb:Nat}{P:ay}{m:aH}{v:bV}{op kd ln:Int}(x:fG)(h:aN w o M b P m v)(hE:gU w o M eb op kd ln 0 []){a t:Nat}(ha:x.a=a)(ht:x.b=t)(htn:t≤1000000)(hk:a < m.cs.length){c:Int}(hc:m.cs[a]?.getD 0=c)(hcf:-100000≤c∧c≤100000) :
  Calls Tryz.prog 78 #[.pointer (some ⟨b,0,none⟩),FE x,.pointer (some ⟨eb,0,none⟩)] w (mP w o M b P eb op kd ln 0 [] { m with cs:=m.cs.set a (c - 1),next:=if 0 < c - 1 then t else m.next+1 }):=by
 obtain ⟨kd',xa,xb⟩:=x;dsimp only at ha ht ⊢;subst ha ht;unfold FE;dsimp only;have hbx:=au w (.cells #[.int .u8 kd',.int .i64 (a:Int),.int .i64 (t:Int)] 58);have Tx:=Turn.of_below o (M+206) hbx;have h1:=h.turn Tx (fun _ h=>h.elim);have hE1:=hE.turn Tx (fun h=>h) (fun h=>h);have hX:dY (w.alloc (.cells #[.int .u8 kd',.int .i64 (a:Int),.int .i64 (t:Int)] 58)) (ext o w.heap.size (M+206)) (M+206) w.heap.size 58 #[.int .u8 kd',.int .i64 (a:Int),.int .i64 (t:Int)]:=⟨heap_alloc_new w _,aW (Nat.le_refl _)⟩;have x1:=hX.cell 1 _ rfl;have x2:=hX.cell 2 _ rfl;generalize ext o w.heap.size (M+206)=q at *;clear h hE hbx;have c7:=h1.cell 7 (u:=.slice (some ⟨v.cs,0,none⟩) m.cs.length m.cs.length) (by unfold bC;rfl);have ck:=EQ h1 hk;rw [hc] at ck;have fk:=h1.cs.frozen a;have f9:=h1.frozen 9;have S:=h1.GX a (c - 1);have e1:IntKind.i64.wrap (c - 1)=c - 1:=IntWalk.i64_in _ (by omega);have hki:(a:Int) < m.cs.length:=by omega
 have z7:=S.1.cell 7 (u:=.slice (some ⟨v.cs,0,none⟩) (m.cs.set a (c - 1)).length (m.cs.set a (c - 1)).length) (by unfold bC;rfl);rw [List.length_set] at z7;have zk:=EQ S.1 (k:=a) (by simpa using hk);rw [show ({ m with cs:=m.cs.set a (c - 1) }:aH).cs[a]?.getD 0=c - 1 by simp [hk]] at zk;have hX2:=hX.turn S.2 (aO (by omega));have z1:=hX2.cell 1 _ rfl;have z2:=hX2.cell 2 _ rfl;have g9:=S.1.frozen 9;have z9:=S.1.cell 9 (u:=.int .i64 (m.next:Int)) (by unfold bC;rfl);have TT:=(Tx.mono (D:=gu M) (fun _ h=>h.elim)).trans S.2 Mine.x;have EE:=hE1.turn S.2 (aO (by omega)) (aO (by omega));have HS:=Lib.hid S.1;have HT:=Lib.hid TT;have HE:=Lib.hid EE;clear Tx h1 hE1 S TT EE hX hX2
 by_cases hp:0 < c - 1
 ·
  rw [if_pos hp];have S9:=HS.out.GZ ((t:Int) - 1) t;have Bg:=Lib.hid S9;have e2:IntKind.i64.wrap ((t:Int) - 1)=(t:Int) - 1:=IntWalk.i64_in _ (by omega);clear S9
  go_enter Tryz.func78,Tryz.ntmps78
  go_wp2_with fail
  refine ax (fun w'=>w'.cell? ⟨b,7,none⟩=some (.slice (some ⟨v.cs,0,none⟩) m.cs.length m.cs.length)∧w'.cell? ⟨w.heap.size,1,none⟩=some (.int .i64 a)∧w'.cell? ⟨v.cs,a,none⟩=some (.int .i64 c)) [0,1,2,3,4,5,6,7,8,9] [10] (by kernel_rfl) (by kernel_rfl) rfl (fun _ _ hx h=>⟨hx.cell h.1,hx.cell h.2.1,hx.cell h.2.2⟩) ⟨c7,x1,ck⟩ ?_;intro Q' hQ';simp only [pk];refine aA ?_;refine av ?_
  go_wp2_with fail
  refine ax (fun w'=>w'.cell? ⟨b,7,none⟩=some (.slice (some ⟨v.cs,0,none⟩) m.cs.length m.cs.length)∧w'.cell? ⟨w.heap.size,1,none⟩=some (.int .i64 a)∧w'.cell? ⟨v.cs,a,none⟩=some (.int .i64 (c - 1))) [0,1,2,3,4,5,6,7,8] [] (by kernel_rfl) (by kernel_rfl) rfl (fun _ _ hx h=>⟨hx.cell h.1,hx.cell h.2.1,hx.cell h.2.2⟩) ⟨z7,z1,zk⟩ ?_;intro Q' hQ';simp only [pk];refine aA ?_;refine av ?_;go_wp2;go_end0
  have hfin:mP w o M b P eb op kd ln 0 [] { m with cs:=m.cs.set a (c - 1),next:=t } (.returned (.tuple #[])) (((w.alloc (.cells #[.int .u8 kd',.int .i64 (a:Int),.int .i64 (t:Int)] 58)).setCell ⟨v.cs,a,none⟩ (.int .i64 (c - 1))).setCell ⟨b,9,none⟩ (.int .i64 ((t:Int) - 1))) :=
   ⟨q,v,rfl,HT.out.trans Bg.out.2.2.1 Mine.x,Bg.out.1,Bg.out.2.1,Bg.out.2.2.2,HE.out.turn Bg.out.2.2.1 (aO (by omega)) (aO (by omega))⟩
  exact hfin.drewN 2
 ·
  rw [if_neg hp]
  go_enter Tryz.func78,Tryz.ntmps78
  go_wp2_with fail
  refine ax (fun w'=>w'.cell? ⟨b,7,none⟩=some (.slice (some ⟨v.cs,0,none⟩) m.cs.length m.cs.length)∧w'.cell? ⟨w.heap.size,1,none⟩=some (.int .i64 a)∧w'.cell? ⟨v.cs,a,none⟩=some (.int .i64 c)) [0,1,2,3,4,5,6,7,8,9] [10] (by kernel_rfl) (by kernel_rfl) rfl (fun _ _ hx h=>⟨hx.cell h.1,hx.cell h.2.1,hx.cell h.2.2⟩) ⟨c7,x1,ck⟩ ?_;intro Q' hQ';simp only [pk];refine aA ?_;refine av ?_
  go_wp2_with fail
  refine ax (fun w'=>w'.cell? ⟨b,7,none⟩=some (.slice (some ⟨v.cs,0,none⟩) m.cs.length m.cs.length)∧w'.cell? ⟨w.heap.size,1,none⟩=some (.int .i64 a)∧w'.cell? ⟨v.cs,a,none⟩=some (.int .i64 (c - 1))) [0,1,2,3,4,5,6,7,8] [] (by kernel_rfl) (by kernel_rfl) rfl (fun _ _ hx h=>⟨hx.cell h.1,hx.cell h.2.1,hx.cell h.2.2⟩) ⟨z7,z1,zk⟩ ?_;intro Q' hQ';simp only [pk];refine aA ?_;refine av ?_;go_wp2;go_end0
  have hfin:mP w o M b P eb op kd ln 0 [] { m with cs:=m.cs.set a (c - 1),next:=m.next+1 } (.returned (.tuple #[])) ((w.alloc (.cells #[.int .u8 kd',.int .i64 (a:Int),.int .i64 (t:Int)] 58)).setCell ⟨v.cs,a,none⟩ (.int .i64 (c - 1))):=mP.next rfl HT.out HS.out HE.out
  exact hfin.drewN 2
theorem aN.drewN {w:World}{o:Col}{M b:Nat}{P:ay}{m:aH}{v:bV}(h:aN w o M b P m v)(n:Nat):aN (w.drewN n) o M b P m v:=h.turn ((Turn.refl o (fun _=>False) w).drewN n) (fun _ h=>h.elim)
theorem gU.drewN {w:World}{o:Col}{M eb:Nat}{op kd ln h:Int}{cells:List Int}(H:gU w o M eb op kd ln h cells)(n:Nat):gU (w.drewN n) o M eb op kd ln h cells:=H.turn ((Turn.refl o (fun _=>False) w).drewN n) (fun h=>h) (fun h=>h)
theorem gU.stop {w w1:World}{o q:Col}{M b eb:Nat}{P:ay}{m:aH}{v:bV}{op kd ln:Int}(hE:gU w1 q M eb op kd ln 0 [])(hM:aN w1 q M b P m v)(T:Turn o q (gu M) w w1)(h:Int):kX w o M b P m eb op kd ln h (.returned (.tuple #[])) (w1.setCell ⟨eb,4,none⟩ (.int .u8 h)):=by
 have S:=hE.halt h;exact ⟨q,v,rfl,T.trans S.2 (fun c hc=>by rw [hc];unfold gu;omega),hM.turn S.2 (fun c hc=>by rw [hc];exact aO (by omega)),S.1⟩
theorem Rp {w:World}{o:Col}{M b eb:Nat}{P:ay}{m:aH}{v:bV}{F s:Nat}{op kd ln:Int}(x:fG)(h:aN w o M b P m v)(hE:gU w o M eb op kd ln 0 [])(hP:tX P)(hm:lH P F s m){k n:Nat}(ha:x.a=k)(ht:x.b=n)(hk:k < m.lines.length)(hn:0 < n∧n≤64) :
  Calls Tryz.prog 79 #[.pointer (some ⟨b,0,none⟩),FE x,.pointer (some ⟨eb,0,none⟩)] w
   (if (aC m k).cnt < n∨64 < m.hand.length+n then kX w o M b P m eb op kd ln 4 else mP w o M b P eb op kd ln 0 (bQ (aC m k) 0 n) { m with
    hand:=m.hand ++ fP m.mem (bQ (aC m k) 0 n)
    lines:=m.lines.set k { aC m k with pos:=((aC m k).pos+n) % (aC m k).size,cnt:=(aC m k).cnt - n }
    next:=m.next+1 }):=by
 obtain ⟨kd',xa,xb⟩:=x;dsimp only at ha ht ⊢;subst ha ht;unfold FE;dsimp only;have hbx:=au w (.cells #[.int .u8 kd',.int .i64 (k:Int),.int .i64 (n:Int)] 58);have Tx:=Turn.of_below o (M+206) hbx;have h1:=h.turn Tx (fun _ h=>h.elim);have hE1:=hE.turn Tx (fun h=>h) (fun h=>h);have hX:dY (w.alloc (.cells #[.int .u8 kd',.int .i64 (k:Int),.int .i64 (n:Int)] 58)) (ext o w.heap.size (M+206)) (M+206) w.heap.size 58 #[.int .u8 kd',.int .i64 (k:Int),.int .i64 (n:Int)]:=⟨heap_alloc_new w _,aW (Nat.le_refl _)⟩;have x1:=hX.cell 1 _ rfl;have x2:=hX.cell 2 _ rfl;generalize ext o w.heap.size (M+206)=q at *;clear h hE hbx;have Bh:=hm.hand.1;have HMK:=Lib.hid hm;obtain ⟨g,cap,hg,hcap,-,-,-,q3,-⟩:=jY h1 hk;have c1:=h1.cell 1 (u:=v.lines) (by unfold bC;rfl);rw [hg] at c1;have HG:=Lib.hid hg;have hki:(k:Int) < m.lines.length:=by omega
 have HX:=Lib.hid hX;have HM:=Lib.hid h1;have HE:=Lib.hid hE1;have HT:=Lib.hid (Tx.mono (D:=gu M) (fun _ h=>h.elim));have fe:=hE1.frozen 4;obtain ⟨_,_,_,x4,_⟩:=hE1.reads;clear hm hg hX h1 hE1 Tx
 by_cases hA:(aC m k).cnt < n
 ·
  rw [if_pos (Or.inl hA)];obtain ⟨cz,hcz⟩:∃ x:Int,((aC m k).cnt:Int)=x:=⟨_,rfl⟩
  rw [hcz] at q3;have hlt:cz < (n:Int):=by omega
  clear hcz hA
  go_enter Tryz.func79,Tryz.ntmps79
  go_wp2_with fail
  refine ax (fun w'=>w'.cell? ⟨b,1,none⟩=some (.slice (some ⟨g,0,none⟩) m.lines.length cap)∧w'.cell? ⟨w.heap.size,1,none⟩=some (.int .i64 k)) [0,1,2,3,4,5,6,7,8] [] (by kernel_rfl) (by kernel_rfl) rfl (fun _ _ hx h=>⟨hx.cell h.1,hx.cell h.2⟩) ⟨c1,x1⟩ ?_;intro Q' hQ';simp only [pk];refine aA ?_;refine av ?_
  go_wp2_with fail
  refine ax (fun w'=>w'.cell? ⟨g,k*4+3,none⟩=some (.int .i64 cz)∧w'.cell? ⟨w.heap.size,2,none⟩=some (.int .i64 n)) [0,1,2,3,4,5,6,7,8,9,10] [11,12] (by kernel_rfl) (by kernel_rfl) rfl (fun _ _ hx h=>⟨hx.cell h.1,hx.cell h.2⟩) ⟨q3,x2⟩ ?_;intro Q' hQ';simp only [pk];refine aA ?_;refine av ?_;go_wp2;go_end0
  exact (gU.stop HE.out HM.out HT.out 4).drewN 2
 ·
  have hnlt:¬ ((aC m k).cnt:Int) < (n:Int):=by omega
  by_cases hB:64 < m.hand.length+n
  ·
   rw [if_pos (Or.inr hB)];obtain ⟨cz,hcz⟩:∃ x:Int,((aC m k).cnt:Int)=x:=⟨_,rfl⟩
   rw [hcz] at q3 hnlt;have hnb:decide (cz < (n:Int))=false:=decide_eq_false hnlt;have HB:=Lib.hid (decide_eq_true hB);clear hcz hA hB
   go_enter Tryz.func79,Tryz.ntmps79
   go_wp2_with fail
   refine ax (fun w'=>w'.cell? ⟨b,1,none⟩=some (.slice (some ⟨g,0,none⟩) m.lines.length cap)∧w'.cell? ⟨w.heap.size,1,none⟩=some (.int .i64 k)) [0,1,2,3,4,5,6,7,8] [] (by kernel_rfl) (by kernel_rfl) rfl (fun _ _ hx h=>⟨hx.cell h.1,hx.cell h.2⟩) ⟨c1,x1⟩ ?_;intro Q' hQ';simp only [pk];refine aA ?_;refine av ?_
   go_wp2_with fail
   refine ax (fun w'=>w'.cell? ⟨g,k*4+3,none⟩=some (.int .i64 cz)∧w'.cell? ⟨w.heap.size,2,none⟩=some (.int .i64 n)) [0,1,2,3,4,5,6,7,8,9,10] [11,12] (by kernel_rfl) (by kernel_rfl) rfl (fun _ _ hx h=>⟨hx.cell h.1,hx.cell h.2⟩) ⟨q3,x2⟩ ?_;intro Q' hQ';simp only [pk];refine aA ?_;refine av ?_
   go_wp2_with fail
   refine (rR (HM.out.drewN 2) n (by omega)).mono ?_;rintro e w5 ⟨rfl,rfl⟩;rw [HB.out];go_wp2;go_end0
   exact (gU.stop HE.out HM.out HT.out 4).drewN 2
  ·
   rw [if_neg (by omega)];have HA:=Lib.hid hA;obtain ⟨cz,hcz⟩:∃ x:Int,((aC m k).cnt:Int)=x:=⟨_,rfl⟩
   rw [hcz] at q3 hnlt;have hnb:decide (cz < (n:Int))=false:=decide_eq_false hnlt;have HB:=Lib.hid (decide_eq_false hB);clear hcz hA;obtain ⟨i0,hi,hz0,hz1,hz2⟩:=info_parts bJ;have HI:=Lib.hid hi
   go_enter Tryz.func79,Tryz.ntmps79
   go_wp2_with fail
   refine ax (fun w'=>w'.cell? ⟨b,1,none⟩=some (.slice (some ⟨g,0,none⟩) m.lines.length cap)∧w'.cell? ⟨w.heap.size,1,none⟩=some (.int .i64 k)) [0,1,2,3,4,5,6,7,8] [] (by kernel_rfl) (by kernel_rfl) rfl (fun _ _ hx h=>⟨hx.cell h.1,hx.cell h.2⟩) ⟨c1,x1⟩ ?_;intro Q' hQ';simp only [pk];refine aA ?_;refine av ?_
   go_wp2_with fail
   refine ax (fun w'=>w'.cell? ⟨g,k*4+3,none⟩=some (.int .i64 cz)∧w'.cell? ⟨w.heap.size,2,none⟩=some (.int .i64 n)) [0,1,2,3,4,5,6,7,8,9,10] [11,12] (by kernel_rfl) (by kernel_rfl) rfl (fun _ _ hx h=>⟨hx.cell h.1,hx.cell h.2⟩) ⟨q3,x2⟩ ?_;intro Q' hQ';simp only [pk];refine aA ?_;refine av ?_
   go_wp2_with fail
   refine (rR (HM.out.drewN 2) n (by omega)).mono ?_;rintro e w5 ⟨rfl,rfl⟩;rw [HB.out]
   go_wp2_with fail
   refine oP (fun w'=>w'.cell? ⟨w.heap.size,2,none⟩=some (.int .i64 n)) [0,1,2,3,4,5] 6 [7,8,9] [6,10] 2 (by kernel_rfl) (by kernel_rfl) rfl x2 ?_;intro Q' hQ';simp only [pk];refine aA ?_;refine av ?_
   go_wp2_with fail
   refine (Ng (HM.out.drewN 3) hP HMK.out hk hn.1 (by have:=HA.out;omega) HG.out).mono ?_;rintro e w6 ⟨o6,tv,wv,rfl,T6,M6,I6,J6⟩;have E6:=(HE.out.drewN 3).turn T6 (aO (by omega)) (aO (by omega));have T6':=(HT.out.drewN 3).trans T6 Mine.x;have y2:=(HX.out.turn ((Turn.refl q (fun _=>False) _).drewN 3) (fun h=>h)).turn T6 (aO (by omega));have y2:=y2.cell 2 _ rfl;go_wp2;refine ⟨y2,?_⟩;refine aA ?_;refine av ?_;obtain ⟨ta,tc,rfl⟩:=I6.slice;obtain ⟨wa,wc,rfl⟩:=J6.slice;obtain ⟨hnone,hnews⟩:=dn.news I6;have c8:=M6.cell 8 (u:=v.hand) (by unfold bC;rfl);have htl:(aV (fP m.mem (bQ (aC m k) 0 n))).length=(fP m.mem (bQ (aC m k) 0 n)).length:=aD _;have hgl:(fP m.mem (bQ (aC m k) 0 n)).length=n:=by rw [pG,eF]
   have HH:=Lib.hid M6;have HE6:=Lib.hid E6;have mQ:=Lib.hid T6';have HJ:=Lib.hid J6;have jL:=Lib.hid hnone;have ou:=Lib.hid hnews;have wM:=Lib.hid (htl.trans hgl);have ZT:=Lib.hid htl;clear M6 E6 T6' T6 I6 J6 hnone hnews htl hgl HX q3 c1 x1 x2 x4 fe;refine aG (i:=10) (by kernel_rfl) ?_;simp only [pk];go_wp2;refine ⟨by intros;exact y2,?_⟩;refine bg (ks:=[11]) (fun _ _ hx h=>hx.cell h) (by kernel_rfl) ?_;simp only [pk]
   go_wp2_with (at_builtin;refine aM ?_)
   refine bR ?_;refine dA rfl _ _ 42 rfl o6 (M+9) 3 i0 _ 8 Tryz.underlying42 HI.out hz0 hz1 hz2 rfl v.hand (aV m.hand) rfl HH.out.hand ta _ tc (aV (fP m.mem (bQ (aC m k) 0 n))) rfl ZT.out jL.out ou.out (gT _) (by rw [← ZT.out,wM.out,aD];unfold maxLen;omega) (aZ (by rw [← ZT.out,wM.out,aD];omega)) ?_;intro v7 w7 T7 O7;obtain ⟨JE,xw,hv7⟩:=O7.slice;simp only [List.length_append,List.length_map] at hv7;subst hv7;have M7:=HH.out.iW (l:=m.hand ++ fP m.mem (bQ (aC m k) 0 n)) T7 (by rw [aV,List.map_append];exact O7);have E7:=HE6.out.turn M7.2 (aO (by omega)) (aO (by omega));have J7:=HJ.out.turn M7.2 (aO (by omega));have X7:=HH.out.blk.turn T7 (by omega);have c8:=X7.cell 8 v.hand (by simp [bC]);have f8:=X7.frozen 8;have E8:=E7.list J7 (by rw [dK,eF];exact hn.1);have f3:=E7.frozen 3;obtain ⟨_,_,x3,_⟩:=E7.reads;have hfin:=mP.next (b:=b) (op:=op) (kd:=kd) (ln:=ln) (h:=0) (e:=.returned (.tuple #[])) (cells:=bQ (aC m k) 0 n) rfl ((mQ.out.trans M7.2 Mine.x).trans E8.2 (fun c hc=>by rw [hc];unfold gu;omega)) (M7.1.turn E8.2 (fun c hc=>by rw [hc];exact aO (by omega))) E8.1
   have iq:=Lib.hid hfin;clear hfin E8 E7 J7 X7 M7 T7 O7 HH HE6 mQ HJ y2;go_wp2;go_end0
   exact iq.out
theorem bF.front {w:World}{o:Col}{c:Nat}{e:TypeId}{g off n cap:Nat}{xs:List Value}(h:bF w o c e (.slice (some ⟨g,off,none⟩) n cap) xs){k:Nat}(hk:k≤xs.length):dn w o c (.slice (some ⟨g,off,none⟩) k cap) (xs.take k):=by
 rcases h with ⟨_,h⟩ | ⟨g',off',cap',cur,h1,h2,h3,h4,h5,h6,h7⟩
 ·
  cases h
 ·
  cases h1
  by_cases hp:0 < k
  ·
   refine .inr ⟨by rw [List.length_take];omega,g,off,cap,by rw [List.length_take,Nat.min_eq_left hk],by rw [List.length_take];omega,block_lt h2,h3,fun j hj=>?_⟩;rw [List.length_take] at hj;have h8:xs[j]?=cur.toList[off+j]?:=by rw [← h7,List.getElem?_take_of_lt (by omega),List.getElem?_drop]
   have h9:off+j < cur.size:=by omega
   rw [List.getElem?_take_of_lt (by omega),h8];refine ah w g h2 (off+j) _ ?_;rw [← Array.getElem?_toList,List.getElem?_eq_getElem (by simpa using h9)];rfl
  ·
   obtain rfl:k=0:=by omega
   exact .inl ⟨List.take_zero,_,_,rfl⟩
theorem bF.cut {w:World}{o:Col}{c:Nat}{e:TypeId}{g off n cap:Nat}{xs:List Value}(h:bF w o c e (.slice (some ⟨g,off,none⟩) n cap) xs){k:Nat}(hk:k≤xs.length):bF w o c e (.slice (if cap=k then some ⟨g,off,none⟩ else some ⟨g,off+k,none⟩) (n - k) (cap - k)) (xs.drop k):=by
 by_cases hc:cap=k
 ·
  rw [if_pos hc];have h0:=h.empty
  rcases h with ⟨_,h⟩ | ⟨g',off',cap',cur,h1,h2,h3,h4,_⟩
  ·
   cases h
  ·
   cases h1
   have e:k=xs.length:=by omega
   rw [show xs.length - k=0 by omega,show cap - k=0 by omega,e,List.drop_length];exact h0
 ·
  rw [if_neg hc];exact h.drop hk hc
theorem bF.some {w:World}{o:Col}{c:Nat}{e:TypeId}{v:Value}{xs:List Value}(h:bF w o c e v xs)(hp:0 < xs.length):∃ g off cap,v=.slice (some ⟨g,off,none⟩) xs.length cap∧xs.length≤cap∧cap≤maxLen:=by
 rcases h with ⟨rfl,_⟩ | ⟨g,off,cap,cur,h1,_,_,h4,_,h6,_⟩
 ·
  simp at hp
 ·
  exact ⟨g,off,cap,h1,h4,h6⟩
theorem Rq {w:World}{o:Col}{M b eb:Nat}{P:ay}{m:aH}{v:bV}{F s:Nat}{op kd ln:Int}(x:fG)(h:aN w o M b P m v)(hE:gU w o M eb op kd ln 0 [])(hP:tX P)(hm:lH P F s m){k n:Nat}(ha:x.a=k)(ht:x.b=n)(hk:k < m.lines.length)(hn:0 < n∧n≤64) :
  Calls Tryz.prog 82 #[.pointer (some ⟨b,0,none⟩),FE x,.pointer (some ⟨eb,0,none⟩)] w
   (if m.hand.length < n∨(aC m k).size < (aC m k).cnt+n then kX w o M b P m eb op kd ln 4 else mP w o M b P eb op kd ln 0 (bQ (aC m k) (aC m k).cnt n) { m with
    mem:=oO m.mem (bQ (aC m k) (aC m k).cnt n) (m.hand.take n)
    lines:=m.lines.set k { aC m k with cnt:=(aC m k).cnt+n }
    hand:=m.hand.drop n
    next:=m.next+1 }):=by
 obtain ⟨kd',xa,xb⟩:=x;dsimp only at ha ht ⊢;subst ha ht;unfold FE;dsimp only;have hbx:=au w (.cells #[.int .u8 kd',.int .i64 (k:Int),.int .i64 (n:Int)] 58);have Tx:=Turn.of_below o (M+206) hbx;have h1:=h.turn Tx (fun _ h=>h.elim);have hE1:=hE.turn Tx (fun h=>h) (fun h=>h);have hX:dY (w.alloc (.cells #[.int .u8 kd',.int .i64 (k:Int),.int .i64 (n:Int)] 58)) (ext o w.heap.size (M+206)) (M+206) w.heap.size 58 #[.int .u8 kd',.int .i64 (k:Int),.int .i64 (n:Int)]:=⟨heap_alloc_new w _,aW (Nat.le_refl _)⟩;have x1:=hX.cell 1 _ rfl;have x2:=hX.cell 2 _ rfl;generalize ext o w.heap.size (M+206)=q at *;clear h hE hbx;have Bh:=hm.hand.1;have HMK:=Lib.hid hm;have hL:=lI hm.line k;have hl1:=hL.reg;have hl2:=hL.cnt;have hl3:=hP.mem;obtain ⟨g,cap,hg,hcap,-,q1,-,q3,-⟩:=jY h1 hk;have c1:=h1.cell 1 (u:=v.lines) (by unfold bC;rfl);rw [hg] at c1;have c8:=h1.cell 8 (u:=v.hand) (by unfold bC;rfl);obtain ⟨ha,hc,hv⟩:=h1.hand.slice;rw [aD] at hv;rw [hv] at c8;have Ni:=Lib.hid hv;have HG:=Lib.hid hg;have hki:(k:Int) < m.lines.length:=by omega
 have HX:=Lib.hid hX;have HM:=Lib.hid h1;have HE:=Lib.hid hE1;have HT:=Lib.hid (Tx.mono (D:=gu M) (fun _ h=>h.elim));have fe:=hE1.frozen 4;obtain ⟨_,_,_,x4,_⟩:=hE1.reads;clear hm hg hX h1 hE1 Tx hv hL;obtain ⟨cz,hcz⟩:∃ x:Int,((aC m k).cnt:Int)=x:=⟨_,rfl⟩
 obtain ⟨sz,hsz⟩:∃ x:Int,((aC m k).size:Int)=x:=⟨_,rfl⟩
 rw [hcz] at q3;rw [hsz] at q1;have e1:IntKind.i64.wrap (cz+(n:Int))=cz+(n:Int):=IntWalk.i64_in _ (by omega)
 by_cases hA:m.hand.length < n
 ·
  rw [if_pos (Or.inl hA)];have hb:(m.hand.length:Int) < (n:Int):=by omega
  clear hcz hsz hA hl1 hl2 hl3
  go_enter Tryz.func82,Tryz.ntmps82
  go_wp2_with fail
  refine ax (fun w'=>w'.cell? ⟨b,1,none⟩=some (.slice (some ⟨g,0,none⟩) m.lines.length cap)∧w'.cell? ⟨w.heap.size,1,none⟩=some (.int .i64 k)) [0,1,2,3,4,5,6,7,8] [] (by kernel_rfl) (by kernel_rfl) rfl (fun _ _ hx h=>⟨hx.cell h.1,hx.cell h.2⟩) ⟨c1,x1⟩ ?_;intro Q' hQ';simp only [pk];refine aA ?_;refine av ?_
  go_wp2_with fail
  refine ax (fun w'=>w'.cell? ⟨b,8,none⟩=some (.slice ha m.hand.length hc)∧w'.cell? ⟨g,k*4+3,none⟩=some (.int .i64 cz)∧w'.cell? ⟨g,k*4+1,none⟩=some (.int .i64 sz)∧w'.cell? ⟨w.heap.size,2,none⟩=some (.int .i64 n)) [0,1,2,3,4,5,6,7,8,9,10,11,12,13,14,15,16,17,18,19,20,21,22] [] (by kernel_rfl) (by kernel_rfl) rfl (fun _ _ hx h=>⟨hx.cell h.1,hx.cell h.2.1,hx.cell h.2.2.1,hx.cell h.2.2.2⟩) ⟨c8,q3,q1,x2⟩ ?_;intro Q' hQ';simp only [pk];refine aA ?_;refine av ?_;go_wp2;go_end0
  exact (gU.stop HE.out HM.out HT.out 4).drewN 2
 ·
  have hb:decide (m.hand.length < n)=false:=decide_eq_false (by omega);have hb1:¬ (m.hand.length:Int) < (n:Int):=by omega
  by_cases hB:(aC m k).size < (aC m k).cnt+n
  ·
   rw [if_pos (Or.inr hB)];have hb2:decide (sz < cz+(n:Int))=true:=decide_eq_true (by omega);clear hcz hsz hA hB hl1 hl2 hl3
   go_enter Tryz.func82,Tryz.ntmps82
   go_wp2_with fail
   refine ax (fun w'=>w'.cell? ⟨b,1,none⟩=some (.slice (some ⟨g,0,none⟩) m.lines.length cap)∧w'.cell? ⟨w.heap.size,1,none⟩=some (.int .i64 k)) [0,1,2,3,4,5,6,7,8] [] (by kernel_rfl) (by kernel_rfl) rfl (fun _ _ hx h=>⟨hx.cell h.1,hx.cell h.2⟩) ⟨c1,x1⟩ ?_;intro Q' hQ';simp only [pk];refine aA ?_;refine av ?_
   go_wp2_with fail
   refine ax (fun w'=>w'.cell? ⟨b,8,none⟩=some (.slice ha m.hand.length hc)∧w'.cell? ⟨g,k*4+3,none⟩=some (.int .i64 cz)∧w'.cell? ⟨g,k*4+1,none⟩=some (.int .i64 sz)∧w'.cell? ⟨w.heap.size,2,none⟩=some (.int .i64 n)) [0,1,2,3,4,5,6,7,8,9,10,11,12,13,14,15,16,17,18,19,20,21,22] [] (by kernel_rfl) (by kernel_rfl) rfl (fun _ _ hx h=>⟨hx.cell h.1,hx.cell h.2.1,hx.cell h.2.2.1,hx.cell h.2.2.2⟩) ⟨c8,q3,q1,x2⟩ ?_;intro Q' hQ';simp only [pk];refine aA ?_;refine av ?_;go_wp2;go_end0
   exact (gU.stop HE.out HM.out HT.out 4).drewN 2
  ·
   rw [if_neg (by omega)];have hb2:decide (sz < cz+(n:Int))=false:=decide_eq_false (by omega);have HA:=Lib.hid hA;have HB:=Lib.hid hB;obtain ⟨gh,oh,hc',hv2,hcl,hcm⟩:=(HM.out.hand).some (by rw [aD];omega);rw [aD] at hv2 hcl;rw [Ni.out] at hv2;simp only [Value.slice.injEq] at hv2;obtain ⟨rfl,-,rfl⟩:=hv2;have hnc:(n:Int)≤hc:=by omega
   have hc0:¬ hc=0:=by omega
   clear hcz hsz hA hB hl1 hl2 hl3
   go_enter Tryz.func82,Tryz.ntmps82
   go_wp2_with fail
   refine ax (fun w'=>w'.cell? ⟨b,1,none⟩=some (.slice (some ⟨g,0,none⟩) m.lines.length cap)∧w'.cell? ⟨w.heap.size,1,none⟩=some (.int .i64 k)) [0,1,2,3,4,5,6,7,8] [] (by kernel_rfl) (by kernel_rfl) rfl (fun _ _ hx h=>⟨hx.cell h.1,hx.cell h.2⟩) ⟨c1,x1⟩ ?_;intro Q' hQ';simp only [pk];refine aA ?_;refine av ?_
   go_wp2_with fail
   refine ax (fun w'=>w'.cell? ⟨b,8,none⟩=some (.slice (some ⟨gh,oh,none⟩) m.hand.length hc)∧w'.cell? ⟨g,k*4+3,none⟩=some (.int .i64 cz)∧w'.cell? ⟨g,k*4+1,none⟩=some (.int .i64 sz)∧w'.cell? ⟨w.heap.size,2,none⟩=some (.int .i64 n)) [0,1,2,3,4,5,6,7,8,9,10,11,12,13,14,15,16,17,18,19,20,21,22] [] (by kernel_rfl) (by kernel_rfl) rfl (fun _ _ hx h=>⟨hx.cell h.1,hx.cell h.2.1,hx.cell h.2.2.1,hx.cell h.2.2.2⟩) ⟨c8,q3,q1,x2⟩ ?_;intro Q' hQ';simp only [pk];refine aA ?_;refine av ?_
   go_wp2_with fail
   refine ax (fun w'=>w'.cell? ⟨b,8,none⟩=some (.slice (some ⟨gh,oh,none⟩) m.hand.length hc)∧w'.cell? ⟨w.heap.size,2,none⟩=some (.int .i64 n)) [0,1,2,3,4,5,6,7,8,9,10,11] [12,13,14,15] (by kernel_rfl) (by kernel_rfl) rfl (fun _ _ hx h=>⟨hx.cell h.1,hx.cell h.2⟩) ⟨c8,x2⟩ ?_;intro Q' hQ';simp only [pk];refine aA ?_;refine av ?_;have hlen:(m.hand.take n).length=n:=by rw [List.length_take];have:=HA.out;omega
   have Nj:Ints ((w.alloc (.cells #[.int .u8 kd',.int .i64 (k:Int),.int .i64 (n:Int)] 58)).drewN 3) q (M+9) (.slice (some ⟨gh,oh,none⟩) n hc) (m.hand.take n):=by
    have:=(HM.out.drewN 3).hand;rw [Ni.out] at this;have:=this.front (k:=n) (by rw [aD];have:=HA.out;omega);rw [aV,← List.map_take] at this;exact this
   have JX:=Lib.hid Nj;have HLEN:=Lib.hid hlen;clear Nj hlen
   go_wp2_with fail
   refine (Rl (HM.out.drewN 3) hP HMK.out JX.out (by omega) hk (by rw [HLEN.out];exact hn.1) (by rw [HLEN.out];have:=HB.out;omega) HG.out).mono ?_;rintro e w6 ⟨o6,wv,rfl,T6,M6,J6⟩;rw [HLEN.out] at M6 J6;obtain ⟨wa,wc,rfl⟩:=J6.slice;have E6:=(HE.out.drewN 3).turn T6 (aO (by omega)) (aO (by omega));have E7:=E6.list J6 (by rw [dK,eF];exact hn.1);have M7:=M6.turn E7.2 (fun c hc=>by rw [hc];exact aO (by omega));have T7:=((HT.out.drewN 3).trans T6 Mine.x).trans E7.2 (fun c hc=>by rw [hc];unfold gu;omega);have X7:=((HX.out.turn ((Turn.refl q (fun _=>False) _).drewN 3) (fun h=>h)).turn T6 (aO (by omega))).turn E7.2 (by omega);have y2:=X7.cell 2 _ rfl;have y8:=M7.cell 8 (u:=v.hand) (by unfold bC;rfl);rw [Ni.out] at y8;have g8:=M7.frozen 8;have hcut:=M7.hand;rw [Ni.out] at hcut;have hcut:=hcut.cut (k:=n) (by rw [aD];have:=HA.out;exact Nat.le_of_not_lt this);rw [aV,← List.map_drop] at hcut;have M8:=M7.iW (Turn.refl _ _ _) hcut;have E8:=E7.1.turn M8.2 (aO (by omega)) (aO (by omega));have iq:=Lib.hid (mP.next (b:=b) (op:=op) (kd:=kd) (ln:=ln) (h:=0) (e:=.returned (.tuple #[])) (cells:=bQ (aC m k) (aC m k).cnt n) rfl (T7.trans M8.2 Mine.x) M8.1 E8);have f3:=E6.frozen 3;obtain ⟨_,_,x3,_⟩:=E6.reads;have hnl:(n:Int)≤m.hand.length:=by have:=HA.out;omega
   clear E6 E7 M7 T7 X7 hcut M8 E8 T6 M6 J6 JX HLEN q3 q1 c1 c8 x1 x2 x4
   by_cases hcn:hc=n
   ·
    rw [if_pos hcn,show hc - n=0 by omega] at iq
    go_wp2_with fail
    refine ax (fun w'=>w'.cell? ⟨b,8,none⟩=some (.slice (some ⟨gh,oh,none⟩) m.hand.length hc)∧w'.cell? ⟨w.heap.size,2,none⟩=some (.int .i64 n)) [0,1,2,3,4,5,6,7] [8,9,10] (by kernel_rfl) (by kernel_rfl) rfl (fun _ _ hx h=>⟨hx.cell h.1,hx.cell h.2⟩) ⟨y8,y2⟩ ?_;intro Q' hQ';simp only [pk];refine aA ?_;refine av ?_;go_wp2;go_end0
    exact iq.out.drewN 1
   ·
    rw [if_neg hcn] at iq
    go_wp2_with fail
    refine ax (fun w'=>w'.cell? ⟨b,8,none⟩=some (.slice (some ⟨gh,oh,none⟩) m.hand.length hc)∧w'.cell? ⟨w.heap.size,2,none⟩=some (.int .i64 n)) [0,1,2,3,4,5,6,7] [8,9,10] (by kernel_rfl) (by kernel_rfl) rfl (fun _ _ hx h=>⟨hx.cell h.1,hx.cell h.2⟩) ⟨y8,y2⟩ ?_;intro Q' hQ';simp only [pk];refine aA ?_;refine av ?_;go_wp2;go_end0
    exact iq.out.drewN 1
theorem kD.at {w:World}{o:Col}{c d g:Nat}{l:List (List Int)}{vs:List Value}(h:kD w o c d g l vs){k:Nat}(hk:k < l.length):∃ ao cap,vs[k]?.getD undef=.slice ao (rowAt l k).length cap∧w.cell? ⟨g,k,none⟩=some (.slice ao (rowAt l k).length cap)∧bF w o (d+k) 3 (.slice ao (rowAt l k).length cap) (aV (rowAt l k))∧w.frozen? ⟨g,k,none⟩=false:=by
 have hr:=h.row k hk;obtain ⟨ao,cap,e⟩:=hr.slice;have hl:rowAt l k=l[k]:=by unfold rowAt;rw [List.getElem?_eq_getElem hk];rfl
 rw [aD] at e;have hv:k < vs.length:=by rw [h.len];exact hk
 rw [hl];refine ⟨ao,cap,by rw [List.getElem?_eq_getElem hv];exact e,?_,by rw [← e];exact hr,h.blk.frozen k⟩;rw [← e];exact h.blk.cell k _ (by simp [hv])
theorem JZ {w:World}{o:Col}{M b eb:Nat}{P:ay}{m:aH}{v:bV}{F s:Nat}{op kd ln:Int}(x:fG)(h:aN w o M b P m v)(hE:gU w o M eb op kd ln 0 [])(hm:lH P F s m){k n:Nat}(ha:x.a=k)(ht:x.b=n)(hk:k < m.fed.length)(hn:0 < n∧n≤64) :
  Calls Tryz.prog 80 #[.pointer (some ⟨b,0,none⟩),FE x,.pointer (some ⟨eb,0,none⟩)] w
   (if 64 < m.hand.length+n then kX w o M b P m eb op kd ln 4 else if (rowAt m.fed k).length < n then kX w o M b P m eb op kd ln 2 else mP w o M b P eb op kd ln 0 [] { m with
    hand:=m.hand ++ (rowAt m.fed k).take n
    fed:=m.fed.set k ((rowAt m.fed k).drop n)
    next:=m.next+1 }):=by
 obtain ⟨kd',xa,xb⟩:=x;dsimp only at ha ht ⊢;subst ha ht;unfold FE;dsimp only;have hbx:=au w (.cells #[.int .u8 kd',.int .i64 (k:Int),.int .i64 (n:Int)] 58);have Tx:=Turn.of_below o (M+206) hbx;have h1:=h.turn Tx (fun _ h=>h.elim);have hE1:=hE.turn Tx (fun h=>h) (fun h=>h);have hX:dY (w.alloc (.cells #[.int .u8 kd',.int .i64 (k:Int),.int .i64 (n:Int)] 58)) (ext o w.heap.size (M+206)) (M+206) w.heap.size 58 #[.int .u8 kd',.int .i64 (k:Int),.int .i64 (n:Int)]:=⟨heap_alloc_new w _,aW (Nat.le_refl _)⟩;have x1:=hX.cell 1 _ rfl;have x2:=hX.cell 2 _ rfl;generalize ext o w.heap.size (M+206)=q at *;clear h hE hbx;have Bh:=hm.hand.1;have c2:=h1.cell 2 (u:=.slice (some ⟨v.fed,0,none⟩) m.fed.length m.fed.length) (by unfold bC;rfl);obtain ⟨ra,rc,r0,r1,r2,-⟩:=h1.fed.at hk;have hki:(k:Int) < m.fed.length:=by omega
 have HX:=Lib.hid hX;have HM:=Lib.hid h1;have HE:=Lib.hid hE1;have HR:=Lib.hid r2;have HT:=Lib.hid (Tx.mono (D:=gu M) (fun _ h=>h.elim));have fe:=hE1.frozen 4;obtain ⟨_,_,_,x4,_⟩:=hE1.reads;obtain ⟨rl,hrl⟩:∃ x,(rowAt m.fed k).length=x:=⟨_,rfl⟩
 rw [hrl] at r0 r1 HR ⊢;have I8:=Lib.hid r0;have mV:=Lib.hid hrl;clear hm hX h1 hE1 Tx r2 hrl r0
 by_cases hA:64 < m.hand.length+n
 ·
  rw [if_pos hA];have HB:=Lib.hid (decide_eq_true hA);clear hA
  go_enter Tryz.func80,Tryz.ntmps80
  go_wp2_with fail
  refine (rR HM.out n (by omega)).mono ?_;rintro e w5 ⟨rfl,rfl⟩;rw [HB.out];go_wp2;go_end0
  exact gU.stop HE.out HM.out HT.out 4
 ·
  rw [if_neg hA];have HB:=Lib.hid (decide_eq_false hA);have HA:=Lib.hid hA;clear hA
  by_cases hC:rl < n
  ·
   rw [if_pos hC];have hb:(rl:Int) < (n:Int):=by omega
   go_enter Tryz.func80,Tryz.ntmps80
   go_wp2_with fail
   refine (rR HM.out n (by omega)).mono ?_;rintro e w5 ⟨rfl,rfl⟩;rw [HB.out]
   go_wp2_with fail
   refine ax (fun w'=>w'.cell? ⟨b,2,none⟩=some (.slice (some ⟨v.fed,0,none⟩) m.fed.length m.fed.length)∧w'.cell? ⟨w.heap.size,1,none⟩=some (.int .i64 k)∧w'.cell? ⟨v.fed,k,none⟩=some (.slice ra rl rc)∧w'.cell? ⟨w.heap.size,2,none⟩=some (.int .i64 n)) [0,1,2,3,4,5,6,7,8,9,10,11,12,13] [] (by kernel_rfl) (by kernel_rfl) rfl (fun _ _ hx h=>⟨hx.cell h.1,hx.cell h.2.1,hx.cell h.2.2.1,hx.cell h.2.2.2⟩) ⟨c2,x1,r1,x2⟩ ?_;intro Q' hQ';simp only [pk];refine aA ?_;refine av ?_;go_wp2;go_end0
   exact (gU.stop HE.out HM.out HT.out 2).drewN 1
  ·
   rw [if_neg hC];have hb:decide (rl < n)=false:=decide_eq_false (by omega);have hb1:¬ (rl:Int) < (n:Int):=by omega
   obtain ⟨gf,of',rc',hv2,hcl,hcm⟩:=(HR.out).some (by rw [aD,mV.out];omega);rw [aD,mV.out] at hv2 hcl;simp only [Value.slice.injEq] at hv2;obtain ⟨rfl,-,rfl⟩:=hv2;have hnc:(n:Int)≤rc:=by omega
   have hc0:¬ rc=0:=by omega
   obtain ⟨ha,hc,hv⟩:=HM.out.hand.slice;rw [aD] at hv;have c8:=HM.out.cell 8 (u:=v.hand) (by unfold bC;rfl);have Ni:=Lib.hid hv;obtain ⟨i0,hi,hz0,hz1,hz2⟩:=info_parts bJ;have HI:=Lib.hid hi;have hlen:((rowAt m.fed k).take n).length=n:=by rw [List.length_take,mV.out];omega
   have Nj:=HR.out.front (k:=n) (by rw [aD,mV.out];omega);rw [aV,← List.map_take] at Nj;obtain ⟨hnone,hnews⟩:=dn.news Nj;have jL:=Lib.hid hnone;have ou:=Lib.hid hnews;have HLEN:=Lib.hid hlen;clear Nj hlen hv hnone hnews
   go_enter Tryz.func80,Tryz.ntmps80
   go_wp2_with fail
   refine (rR HM.out n (by omega)).mono ?_;rintro e w5 ⟨rfl,rfl⟩;rw [HB.out]
   go_wp2_with fail
   refine ax (fun w'=>w'.cell? ⟨b,2,none⟩=some (.slice (some ⟨v.fed,0,none⟩) m.fed.length m.fed.length)∧w'.cell? ⟨w.heap.size,1,none⟩=some (.int .i64 k)∧w'.cell? ⟨v.fed,k,none⟩=some (.slice (some ⟨gf,of',none⟩) rl rc)∧w'.cell? ⟨w.heap.size,2,none⟩=some (.int .i64 n)) [0,1,2,3,4,5,6,7,8,9,10,11,12,13] [] (by kernel_rfl) (by kernel_rfl) rfl (fun _ _ hx h=>⟨hx.cell h.1,hx.cell h.2.1,hx.cell h.2.2.1,hx.cell h.2.2.2⟩) ⟨c2,x1,r1,x2⟩ ?_;intro Q' hQ';simp only [pk];refine aA ?_;refine av ?_
   go_wp2_with fail
   refine ax (fun w'=>w'.cell? ⟨b,8,none⟩=some v.hand∧w'.cell? ⟨b,2,none⟩=some (.slice (some ⟨v.fed,0,none⟩) m.fed.length m.fed.length)∧w'.cell? ⟨w.heap.size,1,none⟩=some (.int .i64 k)∧w'.cell? ⟨v.fed,k,none⟩=some (.slice (some ⟨gf,of',none⟩) rl rc)∧w'.cell? ⟨w.heap.size,2,none⟩=some (.int .i64 n)) [0,1,2,3,4,5,6,7,8,9,10,11,12,13,14,15,16] [17,18,19,20] (by kernel_rfl) (by kernel_rfl) rfl (fun _ _ hx h=>⟨hx.cell h.1,hx.cell h.2.1,hx.cell h.2.2.1,hx.cell h.2.2.2.1,hx.cell h.2.2.2.2⟩) ⟨c8,c2,x1,r1,x2⟩ ?_;intro Q' hQ';simp only [pk];refine aA ?_;refine av ?_
   go_wp2_with (at_builtin;refine aM ?_)
   refine bR ?_;refine dA rfl _ _ 42 rfl q (M+9) 3 i0 _ 8 Tryz.underlying42 HI.out hz0 hz1 hz2 rfl v.hand (aV m.hand) rfl (HM.out.drewN 2).hand (some ⟨gf,of',none⟩) n rc (aV ((rowAt m.fed k).take n)) rfl (by rw [aD];exact HLEN.out) jL.out ou.out (gT _) (by rw [aD];unfold maxLen;omega) (aZ (by rw [aD];omega)) ?_;intro v7 w7 T7 O7;obtain ⟨JE,xw,hv7⟩:=O7.slice;simp only [List.length_append,List.length_map] at hv7;rw [HLEN.out] at hv7;subst hv7;have M7:=(HM.out.drewN 2).iW (l:=m.hand ++ (rowAt m.fed k).take n) T7 (by rw [aV,List.map_append];exact O7);have E7:=(HE.out.drewN 2).turn M7.2 (aO (by omega)) (aO (by omega));have X7:=(HM.out.drewN 2).blk.turn T7 (by omega);have c8:=X7.cell 8 v.hand (by simp [bC]);have f8:=X7.frozen 8;have y2:=M7.1.cell 2 (u:=.slice (some ⟨v.fed,0,none⟩) m.fed.length m.fed.length) (by unfold bC;rfl);obtain ⟨ra9,rc9,e9,s1,s2,s3⟩:=M7.1.fed.at hk
   change _=Value.slice ra9 (rowAt m.fed k).length rc9 at e9
   have e9:=I8.out.symm.trans e9;rw [mV.out] at e9;simp only [Value.slice.injEq] at e9;obtain ⟨rfl,-,rfl⟩:=e9
   change World.cell? _ _=some (Value.slice _ (rowAt m.fed k).length _) at s1
   change bF _ _ _ _ (Value.slice _ (rowAt m.fed k).length _) (aV (rowAt m.fed k)) at s2
   rw [mV.out] at s1 s2;have hcut:=s2.cut (k:=n) (by rw [aD,mV.out];omega);rw [aV,← List.map_drop] at hcut;have X9:=(HX.out.turn ((Turn.refl q (fun _=>False) _).drewN 2) (fun h=>h)).turn M7.2 (aO (by omega));have y1:=X9.cell 1 _ rfl;have yn:=X9.cell 2 _ rfl;have M9:=M7.1.Ri (k:=k) hk (Turn.refl _ _ _) hcut;have E9:=E7.turn M9.2 (aO (by omega)) (aO (by omega));have iq:=Lib.hid (mP.next (b:=b) (op:=op) (kd:=kd) (ln:=ln) (h:=0) (e:=.returned (.tuple #[])) (cells:=[]) rfl (((HT.out.drewN 2).trans M7.2 Mine.x).trans M9.2 Mine.x) M9.1 E9);have hnl:(n:Int)≤rl:=by omega
   clear hcut X9 M9 E9 M7 E7 X7 T7 O7 s2 c2 x1 r1 x2 x4 fe ou
   by_cases hcn:rc=n
   ·
    rw [if_pos hcn,show rc - n=0 by omega] at iq
    go_wp2_with fail
    refine ax (fun w'=>w'.cell? ⟨b,2,none⟩=some (.slice (some ⟨v.fed,0,none⟩) m.fed.length m.fed.length)∧w'.cell? ⟨w.heap.size,1,none⟩=some (.int .i64 k)∧w'.cell? ⟨v.fed,k,none⟩=some (.slice (some ⟨gf,of',none⟩) rl rc)∧w'.cell? ⟨w.heap.size,2,none⟩=some (.int .i64 n)) [0,1,2,3,4,5,6,7,8,9,10,11,12,13,14,15,16,17,18] [19,20] (by kernel_rfl) (by kernel_rfl) rfl (fun _ _ hx h=>⟨hx.cell h.1,hx.cell h.2.1,hx.cell h.2.2.1,hx.cell h.2.2.2⟩) ⟨y2,y1,s1,yn⟩ ?_;intro Q' hQ';simp only [pk];refine aA ?_;refine av ?_;go_wp2;go_end0
    exact iq.out.drewN 1
   ·
    rw [if_neg hcn] at iq
    go_wp2_with fail
    refine ax (fun w'=>w'.cell? ⟨b,2,none⟩=some (.slice (some ⟨v.fed,0,none⟩) m.fed.length m.fed.length)∧w'.cell? ⟨w.heap.size,1,none⟩=some (.int .i64 k)∧w'.cell? ⟨v.fed,k,none⟩=some (.slice (some ⟨gf,of',none⟩) rl rc)∧w'.cell? ⟨w.heap.size,2,none⟩=some (.int .i64 n)) [0,1,2,3,4,5,6,7,8,9,10,11,12,13,14,15,16,17,18] [19,20] (by kernel_rfl) (by kernel_rfl) rfl (fun _ _ hx h=>⟨hx.cell h.1,hx.cell h.2.1,hx.cell h.2.2.1,hx.cell h.2.2.2⟩) ⟨y2,y1,s1,yn⟩ ?_;intro Q' hQ';simp only [pk];refine aA ?_;refine av ?_;go_wp2;go_end0
    exact iq.out.drewN 1
theorem Nk {w:World}{o:Col}{M b eb:Nat}{P:ay}{m:aH}{v:bV}{F s:Nat}{op kd ln:Int}(x:fG)(h:aN w o M b P m v)(hE:gU w o M eb op kd ln 0 [])(hm:lH P F s m)(hs:s≤1000000000){k n:Nat}(ha:x.a=k)(ht:x.b=n)(hk:k < m.out.length)(hn:0 < n∧n≤64) :
  Calls Tryz.prog 83 #[.pointer (some ⟨b,0,none⟩),FE x,.pointer (some ⟨eb,0,none⟩)] w
   (if m.hand.length < n then kX w o M b P m eb op kd ln 4 else mP w o M b P eb op kd ln 0 [] { m with
    out:=m.out.set k (rowAt m.out k ++ m.hand.take n)
    hand:=m.hand.drop n
    next:=m.next+1 }):=by
 obtain ⟨kd',xa,xb⟩:=x;dsimp only at ha ht ⊢;subst ha ht;unfold FE;dsimp only;have hbx:=au w (.cells #[.int .u8 kd',.int .i64 (k:Int),.int .i64 (n:Int)] 58);have Tx:=Turn.of_below o (M+206) hbx;have h1:=h.turn Tx (fun _ h=>h.elim);have hE1:=hE.turn Tx (fun h=>h) (fun h=>h);have hX:dY (w.alloc (.cells #[.int .u8 kd',.int .i64 (k:Int),.int .i64 (n:Int)] 58)) (ext o w.heap.size (M+206)) (M+206) w.heap.size 58 #[.int .u8 kd',.int .i64 (k:Int),.int .i64 (n:Int)]:=⟨heap_alloc_new w _,aW (Nat.le_refl _)⟩;have x1:=hX.cell 1 _ rfl;have x2:=hX.cell 2 _ rfl;generalize ext o w.heap.size (M+206)=q at *;clear h hE hbx;have Bh:=hm.hand.1;have hol:=(pI (Q:=fun r:List Int=>r.length≤64*s∧∀ x∈r,Fits x) hm.uE ⟨Nat.zero_le _,fun _ h=>by cases h⟩ k).1;have c8:=h1.cell 8 (u:=v.hand) (by unfold bC;rfl);obtain ⟨ha,hc,hv⟩:=h1.hand.slice;rw [aD] at hv;rw [hv] at c8;have Ni:=Lib.hid hv;have HX:=Lib.hid hX;have HM:=Lib.hid h1;have HE:=Lib.hid hE1;have HT:=Lib.hid (Tx.mono (D:=gu M) (fun _ h=>h.elim));have fe:=hE1.frozen 4;obtain ⟨_,_,_,x4,_⟩:=hE1.reads;clear hm hX h1 hE1 Tx hv
 by_cases hA:m.hand.length < n
 ·
  rw [if_pos hA];have hb:(m.hand.length:Int) < (n:Int):=by omega
  go_enter Tryz.func83,Tryz.ntmps83
  go_wp2_with fail
  refine ax (fun w'=>w'.cell? ⟨b,8,none⟩=some (.slice ha m.hand.length hc)∧w'.cell? ⟨w.heap.size,2,none⟩=some (.int .i64 n)) [0,1,2,3,4,5,6,7] [] (by kernel_rfl) (by kernel_rfl) rfl (fun _ _ hx h=>⟨hx.cell h.1,hx.cell h.2⟩) ⟨c8,x2⟩ ?_;intro Q' hQ';simp only [pk];refine aA ?_;refine av ?_;go_wp2;go_end0
  exact (gU.stop HE.out HM.out HT.out 4).drewN 1
 ·
  rw [if_neg hA];have hb:decide (m.hand.length < n)=false:=decide_eq_false (by omega);have hb1:¬ (m.hand.length:Int) < (n:Int):=by omega
  have HA:=Lib.hid hA;obtain ⟨gh,oh,hc',hv2,hcl,hcm⟩:=(HM.out.hand).some (by rw [aD];omega);rw [aD] at hv2 hcl;rw [Ni.out] at hv2;simp only [Value.slice.injEq] at hv2;obtain ⟨rfl,-,rfl⟩:=hv2;have hnc:(n:Int)≤hc:=by omega
  have hc0:¬ hc=0:=by omega
  have c3:=HM.out.cell 3 (u:=.slice (some ⟨v.out,0,none⟩) m.out.length m.out.length) (by unfold bC;rfl);obtain ⟨ra,rc,-,r1,r2,rf⟩:=HM.out.out.at hk;have hki:(k:Int) < m.out.length:=by omega
  obtain ⟨rl,hrl⟩:∃ x,(rowAt m.out k).length=x:=⟨_,rfl⟩
  rw [hrl] at r1 r2 hol;have HR:=Lib.hid r2;have mV:=Lib.hid hrl;obtain ⟨i0,hi,hz0,hz1,hz2⟩:=info_parts bJ;have HI:=Lib.hid hi;have hlen:(m.hand.take n).length=n:=by rw [List.length_take];omega
  have Nj:=HM.out.hand;rw [Ni.out] at Nj;have Nj:=Nj.front (k:=n) (by rw [aD];omega);rw [aV,← List.map_take] at Nj;obtain ⟨hnone,hnews⟩:=dn.news Nj;have jL:=Lib.hid hnone;have ou:=Lib.hid hnews;have HLEN:=Lib.hid hlen;clear Nj hlen hnone hnews r2 hrl hA
  go_enter Tryz.func83,Tryz.ntmps83
  go_wp2_with fail
  refine ax (fun w'=>w'.cell? ⟨b,8,none⟩=some (.slice (some ⟨gh,oh,none⟩) m.hand.length hc)∧w'.cell? ⟨w.heap.size,2,none⟩=some (.int .i64 n)) [0,1,2,3,4,5,6,7] [] (by kernel_rfl) (by kernel_rfl) rfl (fun _ _ hx h=>⟨hx.cell h.1,hx.cell h.2⟩) ⟨c8,x2⟩ ?_;intro Q' hQ';simp only [pk];refine aA ?_;refine av ?_
  go_wp2_with fail
  refine kL (fun w'=>w'.cell? ⟨b,8,none⟩=some (.slice (some ⟨gh,oh,none⟩) m.hand.length hc)∧w'.cell? ⟨b,3,none⟩=some (.slice (some ⟨v.out,0,none⟩) m.out.length m.out.length)∧w'.cell? ⟨w.heap.size,1,none⟩=some (.int .i64 k)∧w'.cell? ⟨v.out,k,none⟩=some (.slice ra rl rc)∧w'.cell? ⟨w.heap.size,2,none⟩=some (.int .i64 n)) [0,1,2,3,4,5,6,7,8,9,10,11,12,13,14,15,16,17,18,19,20,21,22] [] 23 [24,25] (by kernel_rfl) (by kernel_rfl) (by kernel_rfl) rfl (fun _ _ hx h=>⟨hx.cell h.1,hx.cell h.2.1,hx.cell h.2.2.1,hx.cell h.2.2.2.1,hx.cell h.2.2.2.2⟩) ⟨c8,c3,x1,r1,x2⟩ ?_;intro Q' hQ';simp only [pk];simp only [List.nil_append,pk];refine aA ?_;refine av ?_
  go_wp2_with (at_builtin;refine aM ?_)
  refine bR ?_;refine dA rfl _ _ 42 rfl q (M+32+k) 3 i0 _ 8 Tryz.underlying42 HI.out hz0 hz1 hz2 rfl (.slice ra rl rc) (aV (rowAt m.out k)) rfl (HR.out.turn ((Turn.refl q (fun _=>False) _).drewN 2) (fun h=>h)) (some ⟨gh,oh,none⟩) n hc (aV (m.hand.take n)) rfl (by rw [aD];exact HLEN.out) jL.out ou.out (gT _) (by rw [aD,mV.out];unfold maxLen;omega) (aZ (by rw [aD,mV.out];omega)) ?_;intro v7 w7 T7 O7;obtain ⟨JE,xw,hv7⟩:=O7.slice;simp only [List.length_append,List.length_map] at hv7;rw [HLEN.out,mV.out] at hv7;subst hv7;have M7:=(HM.out.drewN 2).ZQ (l:=rowAt m.out k ++ m.hand.take n) hk T7 (by rw [aV,List.map_append];exact O7);have E7:=(HE.out.drewN 2).turn M7.2 (aO (by omega)) (aO (by omega));have X7:=(HM.out.drewN 2).out.blk.turn T7 (by omega);have t8:=T7.cell c8 (by show ¬ q b=M+32+k;rw [HM.out.blk.2];omega);have t3:=T7.cell c3 (by show ¬ q b=M+32+k;rw [HM.out.blk.2];omega);have tx1:=T7.cell x1 (by show ¬ q w.heap.size=M+32+k;rw [HX.out.2];have:=HM.out.small;omega);have tx2:=T7.cell x2 (by show ¬ q w.heap.size=M+32+k;rw [HX.out.2];have:=HM.out.small;omega);have Ur:=T7.cell r1 (by show ¬ q v.out=M+32+k;rw [HM.out.out.blk.2];omega);have s1:∃ u,w7.cell? ⟨v.out,k,none⟩=some u:=⟨_,X7.cell k _ (by simp only [List.getElem?_toArray];rw [List.getElem?_eq_getElem (by rw [HM.out.out.len];exact hk)])⟩
  obtain ⟨u1,s1⟩:=s1;have s2:=X7.frozen k;have y8:=M7.1.cell 8 (u:=v.hand) (by unfold bC;rfl);rw [Ni.out] at y8;have g8:=M7.1.frozen 8;have hcut:=M7.1.hand
  change bF _ _ _ _ v.hand (aV m.hand) at hcut
  rw [Ni.out] at hcut;have hcut:=hcut.cut (k:=n) (by rw [aD];have:=HA.out;omega);rw [aV,← List.map_drop] at hcut;have M8:=M7.1.iW (Turn.refl _ _ _) hcut;have E8:=E7.turn M8.2 (aO (by omega)) (aO (by omega));have X9:=(HX.out.turn ((Turn.refl q (fun _=>False) _).drewN 2) (fun h=>h)).turn M7.2 (aO (by omega));have y2:=X9.cell 2 _ rfl;have iq:=Lib.hid (mP.next (b:=b) (op:=op) (kd:=kd) (ln:=ln) (h:=0) (e:=.returned (.tuple #[])) (cells:=[]) rfl (((HT.out.drewN 2).trans M7.2 Mine.x).trans M8.2 Mine.x) M8.1 E8);have hnl:(n:Int)≤m.hand.length:=by have:=HA.out;omega
  clear E7 M7 X7 hcut M8 E8 X9 T7 O7 c8 c3 x1 x2 r1 x4 fe ou;go_wp2;refine ⟨⟨t8,t3,tx1,Ur,tx2⟩,?_⟩;clear t8 t3 tx1 Ur tx2
  by_cases hcn:hc=n
  ·
   rw [if_pos hcn,show hc - n=0 by omega] at iq
   go_wp2_with fail
   refine ax (fun w'=>w'.cell? ⟨b,8,none⟩=some (.slice (some ⟨gh,oh,none⟩) m.hand.length hc)∧w'.cell? ⟨w.heap.size,2,none⟩=some (.int .i64 n)) [0,1,2,3,4,5,6,7] [8,9,10] (by kernel_rfl) (by kernel_rfl) rfl (fun _ _ hx h=>⟨hx.cell h.1,hx.cell h.2⟩) ⟨y8,y2⟩ ?_;intro Q' hQ';simp only [pk];refine aA ?_;refine av ?_;go_wp2;go_end0
   exact iq.out.drewN 1
  ·
   rw [if_neg hcn] at iq
   go_wp2_with fail
   refine ax (fun w'=>w'.cell? ⟨b,8,none⟩=some (.slice (some ⟨gh,oh,none⟩) m.hand.length hc)∧w'.cell? ⟨w.heap.size,2,none⟩=some (.int .i64 n)) [0,1,2,3,4,5,6,7] [8,9,10] (by kernel_rfl) (by kernel_rfl) rfl (fun _ _ hx h=>⟨hx.cell h.1,hx.cell h.2⟩) ⟨y8,y2⟩ ?_;intro Q' hQ';simp only [pk];refine aA ?_;refine av ?_;go_wp2;go_end0
   exact iq.out.drewN 1
theorem pQ {t:Int}{ps:List Int}(h:aF t ps):(∀ r∈bT t ps,1≤r∧r≤64)∧(bT t ps).length≤64:=by
 unfold aF bD bS at h;unfold bT
 split
 ·
  refine ⟨fun r hr=>?_,by simp⟩;simp at hr;omega
 split
 ·
  refine ⟨fun r hr=>?_,by simp;omega⟩;have:=List.eq_of_mem_replicate hr;omega
 split
 ·
  refine ⟨fun r hr=>?_,by simp⟩;simp at hr;have h5:t=5:=by omega
  have h1:(1≤hd ps∧hd ps≤16)∧(1≤hd1 ps∧hd1 ps≤64)∧hd ps*hd1 ps≤64:=by omega
  have h2:1*1≤hd ps*hd1 ps:=Int.mul_le_mul h1.1.1 h1.2.1.1 (by omega) (by omega);omega
 split
 ·
  refine ⟨fun r hr=>?_,by simp;omega⟩;have:=List.eq_of_mem_replicate hr;omega
 split
 ·
  exact ⟨fun r hr=>by simp at hr;omega,by simp⟩
 split
 ·
  exact ⟨fun r hr=>(by cases hr),by simp⟩
 ·
  exact ⟨fun r hr=>by simp at hr;omega,by simp⟩
theorem J2:∀ {l:List Int},(∀ r∈l,1≤r∧r≤64)→0≤l.sum
 | [],_=>Int.le_refl _
 | r :: l,h=>by
  have h1:=h r List.mem_cons_self;have h2:=J2 (l:=l) (fun x hx=>h x (List.mem_cons_of_mem _ hx));rw [List.sum_cons];omega
structure sW (is:List Int) (hand:List Int) (j:Nat) (done:List (List Int)) (l:List Int):Prop where
 all:done ++ dX (is.drop j) l=dX is hand
 sum:(l.length:Int)=(is.drop j).sum
 len:done.length=j
theorem sW.step {is hand l:List Int}{j:Nat}{done:List (List Int)}(h:sW is hand j done l)(hr:∀ r∈is,1≤r∧r≤64)(hj:j < is.length):∃ r:Nat,is[j]=r∧1≤r∧r≤64∧r≤l.length∧sW is hand (j+1) (done ++ [l.take r]) (l.drop r):=by
 have h1:=hr _ (List.getElem_mem hj);have h2:=J2 (l:=is.drop (j+1)) (fun x hx=>hr x (List.mem_of_mem_drop hx));have h3:=h.sum;have h4:=h.all;rw [List.drop_eq_getElem_cons hj,List.sum_cons] at h3;rw [List.drop_eq_getElem_cons hj,dX] at h4;obtain ⟨r,e⟩:∃ r:Nat,is[j]=r:=⟨is[j].toNat,by omega⟩
 rw [e] at h1 h3 h4;rw [Int.toNat_natCast] at h4;refine ⟨r,e,by omega,by omega,by omega,?_,?_,by rw [List.length_append,h.len];rfl⟩
 ·
  rw [← h4,List.append_assoc];rfl
 ·
  rw [List.length_drop];omega
theorem sW.done {is hand l:List Int}{done:List (List Int)}(h:sW is hand is.length done l):done=dX is hand:=by
 have:=h.all;rw [List.drop_length,dX,List.append_nil] at this;exact this
structure xH (w0 w:World) (N:Nat) (dv:Value) (done:List (List Int)) (vs:List Value):Prop where
 own:w.ownsRow N 42 1 dv done.length vs
 len:vs.length=done.length
 row:∀ k,k < done.length→Has w0 (vs[k]?.getD undef) (aV (done[k]?.getD []))
theorem xH.ll {w0 w:World}{dv:Value}{done:List (List Int)}{vs:List Value}{N:Nat}(h:xH w0 w N dv done vs)(hb:Below w0.heap.size w0 w):LL w dv done:=by
 refine ⟨vs,h.len,?_,fun k hk=>(h.row k hk).below hb⟩;have h1:=h.own;exact (Own.vals (w:=w) (o:=fun _=>0) (c:=0) (e:=42) (n:=done.length) ⟨bG h1 (fun _ _=>Nat.zero_le _),fun _ _=>rfl⟩)
theorem xH.push {w0 w w':World}{dv dv':Value}{done:List (List Int)}{vs:List Value}{N:Nat}{x:Value}{r:List Int}(h:xH w0 w N dv done vs)(h1:w'.ownsRow N 42 1 dv' (done.length+1) (vs ++ [x]))(hx:Has w0 x (aV r)):xH w0 w' N dv' (done ++ [r]) (vs ++ [x]):=by
 refine ⟨by rw [List.length_append];exact h1,by simp [h.len],fun k hk=>?_⟩;rw [List.length_append] at hk
 by_cases e:k < done.length
 ·
  rw [List.getElem?_append_left (by rw [h.len];exact e),List.getElem?_append_left e];exact h.row k e
 ·
  obtain rfl:k=done.length:=by simp at hk;omega
  have e1:(vs ++ [x])[done.length]?=some x:=by rw [← h.len];simp
  have e2:(done ++ [r])[done.length]?=some r:=by simp
  rw [e1,e2];exact hx
theorem xI {p:eu}(h:aF p.tag p.params):((kU p:Nat):Int)=(bT p.tag p.params).sum:=by
 have:=J2 (pQ h).1;unfold kU;omega
theorem Bj {P:ay}{k:Nat}(h:k < P.parts.length):partAt P k=P.parts[k]:=by unfold partAt;rw [List.getElem?_eq_getElem h];rfl
theorem Bl {w:World}{o:Col}{M b:Nat}{P:ay}{m:aH}{v:bV}(h:aN w o M b P m v){k:Nat}(hk:k < P.parts.length):∃ gb cb gt ct B,v.bH=.slice (some ⟨gb,0,none⟩) P.parts.length cb∧P.parts.length≤cb∧v.takes=.slice (some ⟨gt,0,none⟩) P.parts.length ct∧P.parts.length≤ct ∧
  w.cell? ⟨gb,k,none⟩=some (.pointer (some ⟨B,0,none⟩))∧w.cell? ⟨gt,k,none⟩=some (.int .i64 (kU (partAt P k):Int))∧∃ hp:k < v.ptrs.length,v.ptrs[k]=B:=by
 obtain ⟨gb,cb,e1,h1,_⟩:=h.bH.addr (by omega);obtain ⟨gt,ct,e2,h2,_⟩:=h.takes.addr (by omega);have hb:=h.bH;have ht:=h.takes;rw [e1] at hb;rw [e2] at ht;have hp:k < v.ptrs.length:=by rw [h.ptrs];exact hk
 refine ⟨gb,cb,gt,ct,v.ptrs[k],e1,h1,e2,h2,hb.cellAt (by simp [hp]),ht.cellAt (by simp [hk,Bj hk]),hp,rfl⟩
theorem xJ:∀ (l:List (List Int)) (j:Nat) (h:j < l.length),(l.take (j+1)).flatten=(l.take j).flatten ++ l[j]∧(l.take j).flatten.length+l[j].length≤l.flatten.length
 | [],_,h=>by simp at h
 | x :: l,0,_=>⟨by simp,by simp⟩
 | x :: l,j+1,h=>by
  obtain ⟨h1,h2⟩:=xJ l j (by simpa using h)
  constructor
  ·
   rw [List.take_succ_cons,List.flatten_cons,h1,List.take_succ_cons,List.flatten_cons,List.append_assoc];rfl
  ·
   rw [List.take_succ_cons,List.flatten_cons,List.flatten_cons,List.length_append,List.length_append];have e:(x :: l)[j+1]=l[j]'(by simpa using h):=rfl;rw [e];omega
theorem Rs (t:Int)(ps keep:List Int)(n:Int)(xss:List (List Int))(h:(jh t ps keep n xss).err≠0):(jh t ps keep n xss).keep=keep∧(jh t ps keep n xss).n=n:=by
 revert h
 unfold jh
 split
 ·
  split
  ·
   intro h;exact absurd rfl h
  ·
   intro _;exact ⟨rfl,rfl⟩
 ·
  intro _;exact ⟨rfl,rfl⟩
theorem Rt {w:World}{o:Col}{M b eb:Nat}{P:ay}{m:aH}{v:bV}{F s:Nat}{op kd ln:Int}(x:fG)(h:aN w o M b P m v)(hE:gU w o M eb op kd ln 0 [])(hP:tX P)(hf:iM P)(hm:lH P F s m)(hs:s≤1000000000){k:Nat}(hxa:x.a=k)(hk:k < P.parts.length) :
  Calls Tryz.prog 81 #[.pointer (some ⟨b,0,none⟩),FE x,.pointer (some ⟨eb,0,none⟩)] w
   (if m.hand.length≠kU (partAt P k) then kX w o M b P m eb op kd ln 4 else if (gI P x m).err≠0 then kX w o M b P m eb op kd ln 3 else mP w o M b P eb op kd ln 0 [] { m with
    hand:=(gI P x m).outs.flatten
    bH:=m.bH.set k ((gI P x m).keep,(gI P x m).n)
    next:=m.next+1 }):=by
 have hcs:gI P x m=jh (partAt P k).tag (partAt P k).params (bB m k).1 (bB m k).2 (dX (bT (partAt P k).tag (partAt P k).params) m.hand):=by unfold gI;rw [hxa];rfl
 rw [hcs];obtain ⟨kd',xa,xb⟩:=x;dsimp only at hxa ⊢;subst hxa;clear hcs;unfold FE;dsimp only;have hbx:=au w (.cells #[.int .u8 kd',.int .i64 (k:Int),.int .i64 xb] 58);have Tx:=Turn.of_below o (M+206) hbx;have h1:=h.turn Tx (fun _ h=>h.elim);have hE1:=hE.turn Tx (fun h=>h) (fun h=>h);have hX:dY (w.alloc (.cells #[.int .u8 kd',.int .i64 (k:Int),.int .i64 xb] 58)) (ext o w.heap.size (M+206)) (M+206) w.heap.size 58 #[.int .u8 kd',.int .i64 (k:Int),.int .i64 xb]:=⟨heap_alloc_new w _,aW (Nat.le_refl _)⟩;have x1:=hX.cell 1 _ rfl;have x2:=hX.cell 2 _ rfl;generalize ext o w.heap.size (M+206)=q at *;clear h hE hbx;have Bh:=hm.hand.1;have hnp:=hP.rH;have hg:=jC hP.parts hk;have hpf:=jC hf hk;have hbk:=Gx (Q:=fun b=>0≤b.2∧b.2≤s∧∀ x∈b.1,Fits x) hm.Cn (k:=k) (by rw [hm.bH];exact hk);have hso:=Ev (n:=(bB m k).2) hg hpf hbk.2.2 (kC (bT (partAt P k).tag (partAt P k).params) hm.hand.2);have Yh:=Lib.hid (kC (bT (partAt P k).tag (partAt P k).params) hm.hand.2);have HN1:Hid (Fits ((bB m k).2+1)):=Lib.hid (by unfold Fits;omega);have K4:=Lib.hid hso;have Us:=Lib.hid (Da (ps:=(partAt P k).params) (keep:=(bB m k).1) (n:=(bB m k).2) (xss:=dX (bT (partAt P k).tag (partAt P k).params) m.hand) hg).1;have Bn:=Lib.hid (pQ hg);have htn:=xI hg;have Gs:=Lib.hid hm.bH;obtain ⟨gb,cb,gt,ct,B,e1,hb1,e2,hb2,p1,p2,hpx⟩:=Bl h1 hk;have zC:=Lib.hid hpx;obtain ⟨hpl,hpb⟩:=hpx;have c6:=h1.cell 6 (u:=v.bH) (by unfold bC;rfl);have c5:=h1.cell 5 (u:=v.takes) (by unfold bC;rfl);have c8:=h1.cell 8 (u:=v.hand) (by unfold bC;rfl);rw [e1] at c6;rw [e2] at c5;have ZU:=h1.acts k hk;rw [hpb] at ZU;have ZV:=Lib.hid ZU;obtain ⟨ha,hc,hv⟩:=h1.hand.slice;rw [aD] at hv;rw [hv] at c8;have Ni:=Lib.hid hv;have hki:(k:Int) < P.parts.length:=by omega
 have adJ:(P.parts.length:Int)≤cb:=by omega
 have adK:(P.parts.length:Int)≤ct:=by omega
 have HX:=Lib.hid hX;have HM:=Lib.hid h1;have HE:=Lib.hid hE1;have HT:=Lib.hid (Tx.mono (D:=gu M) (fun _ h=>h.elim));have fe:=hE1.frozen 4;obtain ⟨_,_,_,x4,_⟩:=hE1.reads;obtain ⟨hl,ZW⟩:∃ x,m.hand.length=x:=⟨_,rfl⟩
 obtain ⟨tkn,htk⟩:∃ x,kU (partAt P k)=x:=⟨_,rfl⟩
 rw [ZW] at c8 Bh ⊢;rw [htk] at p2 htn ⊢;obtain ⟨tk,ZX⟩:∃ x:Int,(tkn:Int)=x:=⟨_,rfl⟩
 rw [ZX] at p2;have J3:=Lib.hid ZW;clear hm hX h1 hE1 Tx hv e1 e2 hso hbk hg hpf hf hP ZU hpl hpb ZW htk
 by_cases hA:hl≠tkn
 ·
  rw [if_pos hA];have hb:((hl:Int) != tk)=true:=by rw [bne_iff_ne];omega
  clear ZX htn hA
  go_enter Tryz.func81,Tryz.ntmps81
  go_wp2_with fail
  refine ax (fun w'=>w'.cell? ⟨b,6,none⟩=some (.slice (some ⟨gb,0,none⟩) P.parts.length cb)∧w'.cell? ⟨w.heap.size,1,none⟩=some (.int .i64 k)∧w'.cell? ⟨gb,k,none⟩=some (.pointer (some ⟨B,0,none⟩))) [0,1,2,3,4,5,6,7,8] [] (by kernel_rfl) (by kernel_rfl) rfl (fun _ _ hx h=>⟨hx.cell h.1,hx.cell h.2.1,hx.cell h.2.2⟩) ⟨c6,x1,p1⟩ ?_;intro Q' hQ';simp only [pk];refine aA ?_;refine av ?_
  go_wp2_with fail
  refine ax (fun w'=>w'.cell? ⟨b,8,none⟩=some (.slice ha hl hc)∧w'.cell? ⟨b,5,none⟩=some (.slice (some ⟨gt,0,none⟩) P.parts.length ct)∧w'.cell? ⟨w.heap.size,1,none⟩=some (.int .i64 k)∧w'.cell? ⟨gt,k,none⟩=some (.int .i64 tk)) [0,1,2,3,4,5,6,7,8,9,10,11,12,13] [] (by kernel_rfl) (by kernel_rfl) rfl (fun _ _ hx h=>⟨hx.cell h.1,hx.cell h.2.1,hx.cell h.2.2.1,hx.cell h.2.2.2⟩) ⟨c8,c5,x1,p2⟩ ?_;intro Q' hQ';simp only [pk];refine aA ?_;refine av ?_;go_wp2;go_end0
  exact (gU.stop HE.out HM.out HT.out 4).drewN 2
 ·
  rw [if_neg hA];have hb:((hl:Int) != tk)=false:=by rw [bne_eq_false_iff_eq];omega
  obtain ⟨is,his⟩:∃ x,bT (partAt P k).tag (partAt P k).params=x:=⟨_,rfl⟩
  rw [his] at htn Bn Yh K4 Us ⊢;have HIS:=Lib.hid his;have aci:Hid ((hl:Int)=is.sum):=Lib.hid (by omega);clear ZX htn hA his
  go_enter Tryz.func81,Tryz.ntmps81
  go_wp2_with fail
  refine ax (fun w'=>w'.cell? ⟨b,6,none⟩=some (.slice (some ⟨gb,0,none⟩) P.parts.length cb)∧w'.cell? ⟨w.heap.size,1,none⟩=some (.int .i64 k)∧w'.cell? ⟨gb,k,none⟩=some (.pointer (some ⟨B,0,none⟩))) [0,1,2,3,4,5,6,7,8] [] (by kernel_rfl) (by kernel_rfl) rfl (fun _ _ hx h=>⟨hx.cell h.1,hx.cell h.2.1,hx.cell h.2.2⟩) ⟨c6,x1,p1⟩ ?_;intro Q' hQ';simp only [pk];refine aA ?_;refine av ?_
  go_wp2_with fail
  refine ax (fun w'=>w'.cell? ⟨b,8,none⟩=some (.slice ha hl hc)∧w'.cell? ⟨b,5,none⟩=some (.slice (some ⟨gt,0,none⟩) P.parts.length ct)∧w'.cell? ⟨w.heap.size,1,none⟩=some (.int .i64 k)∧w'.cell? ⟨gt,k,none⟩=some (.int .i64 tk)) [0,1,2,3,4,5,6,7,8,9,10,11,12,13] [] (by kernel_rfl) (by kernel_rfl) rfl (fun _ _ hx h=>⟨hx.cell h.1,hx.cell h.2.1,hx.cell h.2.2.1,hx.cell h.2.2.2⟩) ⟨c8,c5,x1,p2⟩ ?_;intro Q' hQ';simp only [pk];refine aA ?_;refine av ?_;obtain ⟨i0,hi,hz0,hz1,hz2⟩:=info_parts je;have HI:=Lib.hid hi;obtain ⟨n,hn⟩:∃ x,is.length=x:=⟨_,rfl⟩
  have ER:=Lib.hid hn;have JW:=Bn.out.2;rw [hn] at JW;clear hn
  go_wp2_with fail
  refine (C9 (Act.drewN ZV.out 2)).mono ?_;rintro e w1 ⟨g1,c1,g2,c2,he,K1,K2,ZY,hb1⟩;rw [HIS.out,ER.out] at he K1;subst he;have T1:=Turn.of_below q (M+207) hb1;have M1:=(HM.out.drewN 2).turn T1 (fun _ h=>h.elim);have E1:=(HE.out.drewN 2).turn T1 (fun h=>h) (fun h=>h);have A1:=(Act.drewN ZV.out 2).turn T1 (fun h=>h) (fun h=>h);have TT1:=(HT.out.drewN 2).trans T1 (fun _ h=>h.elim);have qP:=Lib.hid K1;have EP:=Lib.hid M1;have HE1:=Lib.hid E1;have HA1:=Lib.hid A1;have HT1:=Lib.hid TT1;have hw1:=hb1.size;generalize ext q _ (M+207)=q1 at *;have d8:=M1.cell 8 (u:=v.hand) (by unfold bC;rfl);rw [Ni.out,J3.out] at d8;clear T1 M1 E1 A1 TT1 K1 K2 hb1 ZY HE ZV c5 c6 c8 p1 p2 x1 x2 x4 fe
  go_wp2_with fail
  go_loopw [7,8,53] (fun dv rest i wl=>∃ (j:Nat) (done:List (List Int)) (l:List Int) (vs:List Value),j≤n∧i=.int .i64 j∧Below w1.heap.size w1 wl∧xH w1 wl w1.heap.size dv done vs∧bF w1 q1 (M+9) 3 rest (aV l)∧sW is m.hand j done l) (fun _ _ i _=>n - (intOf i).toNat)
  case atStart =>
   refine ⟨0,[],m.hand,[],Nat.zero_le _,rfl,Below.refl _ _,⟨World.ownsRow_nil w1 w1.heap.size 42 1,rfl,fun k hk=>by simp at hk⟩,?_,⟨by rw [List.drop_zero];rfl,by rw [List.drop_zero,J3.out];exact aci.out,rfl⟩⟩;have:=EP.out.hand;rw [Ni.out,J3.out] at this;exact this
  case round =>
   obtain ⟨j,done,l,vs,hj,rfl,hbl,hDA,hO,hDl⟩:=hrel;have HB:=Lib.hid hbl;have Z0:=Lib.hid hDA;have Yi:=Lib.hid hDl;obtain ⟨da,dc,rfl⟩:=aB hDA.own
   by_cases hlt:j < n
   ·
    have hjl:j < is.length:=by have:=ER.out;omega
    obtain ⟨r,hr,hr1,hr2,hr3,hD2⟩:=hDl.step Bn.out.1 hjl;obtain ⟨gr,or',lc,rfl,hlc,-⟩:=hO.some (by rw [aD];omega);rw [aD] at *;have f1:=qP.out.cells (g:=g1) rfl j (.int .i64 (r:Int)) (by simp [aV,hjl,hr]);rw [Addr.add_lit,Nat.zero_add] at f1;have f1':=cell_later hbl f1;have hfr:=hO.front (k:=r) (by rw [aD];exact hr3);rw [aV,← List.map_take] at hfr;have hcut:=hO.cut (k:=r) (by rw [aD];exact hr3);rw [aV,← List.map_drop] at hcut;have OY:=Lib.hid hfr;have zG:=Lib.hid hcut;have HD2:=Lib.hid hD2;have dG:(j:Int) < n:=by omega
    have acj:(r:Int)≤lc:=by omega
    have adL:(r:Int)≤l.length:=by omega
    have adM:¬ lc=0:=by omega
    have hdl:done.length≤64:=by rw [hDl.len];omega
    clear hfr hcut hD2 hDl hDA hO hbl hr f1
    by_cases hcn:lc=r
    ·
     rw [if_pos hcn,show lc - r=0 by omega,show l.length - r=0 by omega] at zG;subst hcn
     go_wp2_with (at_builtin;refine aM ?_)
     refine bR ?_;refine aR rfl _ _ 63 rfl w1.heap.size 42 i0 _ 1 24 Tryz.underlying63 HI.out hz0 hz1 hz2 rfl (.slice da done.length dc) done.length vs rfl (Z0.out.own.alloc _) (some ⟨wr.heap.size,0,none⟩) 1 1 [.slice (some ⟨gr,or',none⟩) lc lc] rfl rfl (fun h=>by cases h) (bA wr [.slice (some ⟨gr,or',none⟩) lc lc] 42) (by simp [Value.oneCell']) (by unfold maxLen;omega) (aZ (by omega)) (by have:=HB.out.size;simp;omega) ?_;intro v7 w7 k1 k20 _ _;have uI:=HB.out.trans (dW Z0.out.own k20 HB.out.size);have D7:=Z0.out.push k1 (r:=l.take lc) OY.out.has;have Nl:=Lib.hid uI;have HD7:=Lib.hid D7;clear k1 k20 uI D7;go_wp2;go_roundw
     case rel=>exact ⟨j+1,_,_,_,hlt,by go_num,Nl.out,HD7.out,zG.out,HD2.out⟩
     case measure=>simp [intOf];omega
    ·
     rw [if_neg hcn] at zG
     go_wp2_with (at_builtin;refine aM ?_)
     refine bR ?_;refine aR rfl _ _ 63 rfl w1.heap.size 42 i0 _ 1 24 Tryz.underlying63 HI.out hz0 hz1 hz2 rfl (.slice da done.length dc) done.length vs rfl (Z0.out.own.alloc _) (some ⟨wr.heap.size,0,none⟩) 1 1 [.slice (some ⟨gr,or',none⟩) r lc] rfl rfl (fun h=>by cases h) (bA wr [.slice (some ⟨gr,or',none⟩) r lc] 42) (by simp [Value.oneCell']) (by unfold maxLen;omega) (aZ (by omega)) (by have:=HB.out.size;simp;omega) ?_;intro v7 w7 k1 k20 _ _;have uI:=HB.out.trans (dW Z0.out.own k20 HB.out.size);have D7:=Z0.out.push k1 (r:=l.take r) OY.out.has;have Nl:=Lib.hid uI;have HD7:=Lib.hid D7;clear k1 k20 uI D7;go_wp2;go_roundw
     case rel=>exact ⟨j+1,_,_,_,hlt,by go_num,Nl.out,HD7.out,zG.out,HD2.out⟩
     case measure=>simp [intOf];omega
   ·
    obtain rfl:j=n:=by omega
    have hdn:done=dX is m.hand:=by
     have:=Yi.out;rw [← ER.out] at this;exact this.done
    subst hdn;have TL:=Turn.of_below q1 (M+207) hbl;have M2:=EP.out.turn TL (fun _ h=>h.elim);have E2:=HE1.out.turn TL (fun h=>h) (fun h=>h);have A2:=HA1.out.turn TL (fun h=>h) (fun h=>h);have TT2:=HT1.out.trans TL (fun _ h=>h.elim);have FC:=Lib.hid (hDA.ll hbl);have J4:=Lib.hid M2;have HE2:=Lib.hid E2;have HA2:=Lib.hid A2;have HT2:=Lib.hid TT2;generalize ext q1 _ (M+207)=q2 at *;clear TL M2 E2 A2 TT2 hDA hO hDl hbl Z0 Yi EP HE1 HA1 HT1 HM HT HX HB d8
    go_wp2_with fail
    refine (Qw (M+211) (by omega) HA2.out FC.out Yh.out HN1.out).mono ?_;rintro e w3 ⟨gv,o3,rfl,T3,A3,O3⟩;obtain ⟨S,hS⟩:∃ x,jh (partAt P k).tag (partAt P k).params (bB m k).1 (bB m k).2 (dX is m.hand)=x:=⟨_,rfl⟩
    have hke:=Rs (partAt P k).tag (partAt P k).params (bB m k).1 (bB m k).2 (dX is m.hand);rw [hS] at A3 O3 K4 Us hke ⊢;have G6:=Lib.hid hS;have M3:=J4.out.JV (x:=(S.keep,S.n)) Gs.out hk T3 (by obtain ⟨_,e⟩:=zC.out;rw [e];exact A3);have E3:=HE2.out.turn M3.2 (aO (by omega)) (aO (by omega));have TT3:=HT2.out.trans M3.2 Mine.x;have hnd:=A3;clear hS T3 A3 hnd J4 HE2 HA2 HT2 FC;obtain ⟨ov,oc,rfl⟩:=O3.ll.slice
    by_cases G7:S.err=0
    ·
     have hb2:(S.err != 0)=false:=by rw [bne_eq_false_iff_eq];exact G7
     have M4:=M3.1.iW (l:=[]) (Turn.refl _ _ _) (bF.nil _ _ _ _);have fh:=M3.1.frozen 8;have ch:=M3.1.cell 8 (u:=v.hand) (by unfold bC;rfl);have E4:=E3.turn M4.2 (aO (by omega)) (aO (by omega));have O4:=O3.turn M4.2 (aO (by omega));have TT4:=TT3.trans M4.2 Mine.x;have HM4:=Lib.hid M4.1;have HE4:=Lib.hid E4;have Wo:=Lib.hid O4;have tZ:=Lib.hid TT4;have HER:=Lib.hid G7;obtain ⟨w4,hw4⟩:∃ x,w3.setCell ⟨b,8,none⟩ (.slice none 0 0)=x:=⟨_,rfl⟩
     rw [hw4] at HM4 HE4 Wo tZ;obtain ⟨N,hN⟩:∃ x,S.outs.length=x:=⟨_,rfl⟩
     have Ru:=Lib.hid hN;rw [hN];have adN:N≤64:=by have:=Us.out;omega
     clear M3 E3 TT3 M4 E4 O4 TT4 hke O3 G7 hN
     go_wp2_with fail
     clear hw4 fh ch;obtain ⟨i1,hi1,iz0,iz1,iz2⟩:=info_parts bJ;have HI1:=Lib.hid hi1;clear hi1
     go_loopw [83] (fun i wl=>∃ (j:Nat) (q:Col) (v':bV),j≤N∧i=.int .i64 j∧Turn o q (gu M) w wl∧aN wl q M b P { m with bH:=m.bH.set k (S.keep,S.n),hand:=(S.outs.take j).flatten } v'∧gU wl q M eb op kd ln 0 []∧jw wl q (M+211) (.slice ov N oc) S.outs) (fun i _=>N - (intOf i).toNat)
     case atStart=>exact ⟨0,o3,_,Nat.zero_le _,rfl,tZ.out,by rw [List.take_zero];exact HM4.out,HE4.out,by rw [← Ru.out];exact Wo.out⟩
     case round =>
      clear tZ HM4 HE4 Wo;obtain ⟨j,q5,v5,hj,rfl,T5,M5,E5,O5⟩:=hrel;have uJ:=Lib.hid T5;have yP:=Lib.hid M5;have HE5:=Lib.hid E5;have Lf:=Lib.hid O5
      by_cases hlt:j < N
      ·
       have hjl:j < S.outs.length:=by have:=Ru.out;omega
       obtain ⟨bo,off,rfl,hoc,hrow⟩:=O5.ll.at (by omega);obtain ⟨a0,c0,hr1,hr2⟩:=hrow j hjl;obtain ⟨R,hR⟩:∃ x,S.outs[j]?.getD []=x:=⟨_,rfl⟩
       rw [hR] at hr1 hr2;have hRe:S.outs[j]=R:=by rw [← hR,List.getElem?_eq_getElem hjl];rfl
       have hfl:=xJ S.outs j hjl;rw [hRe] at hfl;have hle:=K4.out.2.1;obtain ⟨X,hX⟩:∃ x,(S.outs.take j).flatten=x:=⟨_,rfl⟩
       rw [hX] at hfl yP M5;obtain ⟨hnone,hnews⟩:=dn.news hr2;have c8:=M5.cell 8 (u:=v5.hand) (by unfold bC;rfl);have HFL:=Lib.hid hfl;have dG:(j:Int) < N:=by omega
       have ack:(N:Int)≤oc:=by omega
       have hxl:X.length+R.length≤64:=by omega
       have jL:=Lib.hid hnone;have ou:=Lib.hid hnews;clear hfl hX hRe hR hrow hr2 T5 M5 E5 O5 hle hnone hnews
       go_wp2_with (at_builtin;refine aM ?_)
       refine bR ?_;refine dA rfl _ _ 42 rfl q5 (M+9) 3 i1 _ 8 Tryz.underlying42 HI1.out iz0 iz1 iz2 rfl v5.hand (aV X) rfl yP.out.hand a0 R.length c0 (aV R) rfl (aD _) jL.out ou.out (gT _) (by rw [aD];unfold maxLen;omega) (aZ (by rw [aD];omega)) ?_;intro v7 w7 T7 O7;obtain ⟨JE,xw,hv7⟩:=O7.slice;simp only [List.length_append,List.length_map] at hv7;subst hv7;have M7:=yP.out.iW (l:=(S.outs.take (j+1)).flatten) T7 (by rw [HFL.out.1,aV,List.map_append];exact O7);have E7:=HE5.out.turn M7.2 (aO (by omega)) (aO (by omega));have O7':=Lf.out.turn M7.2 (aO (by omega));have X7:=yP.out.blk.turn T7 (by omega);have d8:=X7.cell 8 v5.hand (by simp [bC]);have f8:=X7.frozen 8;have mW:=Lib.hid (uJ.out.trans M7.2 Mine.x);have pR:=Lib.hid M7.1;have HE7:=Lib.hid E7;have QC:=Lib.hid O7';clear M7 E7 O7' X7 T7 O7 ou c8 hr1;go_wp2;go_roundw
       case rel=>exact ⟨j+1,_,_,hlt,by go_num,mW.out,pR.out,HE7.out,QC.out⟩
       case measure=>simp [intOf];omega
      ·
       obtain rfl:j=N:=by omega
       have hall:S.outs.take j=S.outs:=List.take_of_length_le (by rw [Ru.out];exact Nat.le_refl _);rw [hall] at yP;have hfin:=mP.next (b:=b) (op:=op) (kd:=kd) (ln:=ln) (h:=0) (e:=.returned (.tuple #[])) (cells:=[]) rfl uJ.out yP.out HE5.out
       rw [← G6.out] at hfin;have iq:=Lib.hid hfin;clear hfin T5 M5 E5 O5;go_wp2
       ·
        go_end0
        exact iq.out
       ·
        rw [G6.out] at h;exact absurd HER.out h
    ·
     have hb2:(S.err != 0)=true:=by rw [bne_iff_ne];exact G7
     have fe:=E3.frozen 4;obtain ⟨_,_,_,x4,_⟩:=E3.reads;have hme:({ m with bH:=m.bH.set k (S.keep,S.n) }:aH)=m:=by
      rw [(hke G7).1,(hke G7).2];have:m.bH.set k ((bB m k).1,(bB m k).2)=m.bH:=by
       have hkb:k < m.bH.length:=by rw [Gs.out];exact hk
       show m.bH.set k (bB m k)=m.bH
       unfold bB;rw [List.getElem?_eq_getElem hkb];exact List.set_getElem_self hkb
      rw [this]
     rw [hme] at M3;have Yj:=Lib.hid M3.1;have HE3:=Lib.hid E3;have HT3:=Lib.hid TT3;have HER:=Lib.hid G7;clear M3 E3 TT3 hme hke G7 O3;go_wp2
     ·
      go_end0
      exact gU.stop HE3.out Yj.out HT3.out 3
     ·
      rw [G6.out] at h;exact absurd HER.out h
end Go.Proofs.YtpdlngonocancaaGreat
