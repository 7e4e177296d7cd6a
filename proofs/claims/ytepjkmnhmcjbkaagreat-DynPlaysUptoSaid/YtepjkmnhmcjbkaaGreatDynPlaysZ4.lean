import Derived.Test.YtepjkmnhmcjbkaaGreatDynPlaysZ3
import Derived.Test.YtepjkmnhmcjbkaaGreatDynPlaysZ2
import Derived.Carry
import Derived.Test.YtepjkmnhmcjbkaaGreatDynPlaysZ1
set_option linter.unusedVariables false
set_option linter.unusedSimpArgs false
set_option maxRecDepth 100000
set_option maxHeartbeats 20000000
namespace Go.Proofs.YtepjkmnhmcjbkaaGreat
open Go.RowKit
theorem qQ (w0 w:World)(o:Col)(C B:Nat)(X:mK)(k:kL)(v:Value)(l:List fF)(kd en:Int)(hv:pU w0 3 Cc v l)(K:Kept w0.heap.size o w0 w)(hn:k.seen.length+l.length<=1000000)(hs:∀ p∈l,p.name.size<=4611686018427387904)(h:bZ w o C B X k) :
  Calls Tryz.prog 58 #[.pointer (some ⟨C,0,none⟩),v,X.vO,.int .u8 kd,.int .i64 en] w (KW w o C B X (dJ k.seen k.outs l) ⟨bK k.seen l,k.ins,aY k.outs l⟩):=by
 obtain ⟨ao,cap,rfl⟩:=hv.slice;obtain ⟨E,hE⟩:∃ E,dJ k.seen k.outs l=E:=⟨_,rfl⟩;rw [hE];have HE:=af (show dJ (bK k.seen (l.take 0)) (aY k.outs (l.take 0)) (l.drop 0)=E by simpa [bK,aY] using hE);have HV:=af hv;have HN:=af hn;have Fa:=af hs;have hbR:=au w (.cells #[.int .u8 0,.int .i64 0,.int .i64 0] 110);have HT0:=af ((Turn.of_below o 7 hbR).mono (D:=jS) (fun _ h=>h.elim));have BD:=af (K.of_below 7 hbR);have mD:Hid (bZ _ _ C B X ⟨bK k.seen (l.take 0),k.ins,aY k.outs (l.take 0)⟩):=af (by simpa [bK,aY] using h.below 7 hbR);have vR:=af (qg w o 7);clear hE hv hn hs K h hbR;go_enter Tryz.func58,Tryz.ntmps58;go_wp2_with fail;obtain ⟨R,hR⟩:∃ R,w.heap.size=R:=⟨_,rfl⟩;have nV:=af hR;rw [hR] at vR HT0 BD mD ⊢;clear hR
 go_loopw [18] (fun i wr=>∃ (j:Nat) (q:Col),j<=l.length/\i=.int .i64 j/\Kept w0.heap.size q w0 wr/\Turn o q jS w wr/\dZ wr q 7 R 110 #[.int .u8 0,.int .i64 0,.int .i64 0]/\bZ wr q C B X ⟨bK k.seen (l.take j),k.ins,aY k.outs (l.take j)⟩/\dJ (bK k.seen (l.take j)) (aY k.outs (l.take j)) (l.drop j)=E) (fun i _=>l.length - (intOf i).toNat)
 case atStart=>exact ⟨0,_,Nat.zero_le _,rfl,BD.out,HT0.out,vR.out,mD.out,HE.out⟩
 case round =>
  clear BD HT0 vR mD HE;obtain ⟨j,q,hj,rfl,hK,hT,hR,hC,hE⟩:=hrel;have HK:=af hK;have HT:=af hT;have HR:=af hR;have HC:=af hC;have HE:=af hE;clear hK hT hR hC hE
  by_cases hlt:j < l.length
  ·
   have bX:(j:Int) < l.length:=by omega
   obtain ⟨b0,off,rfl,hcap,hb0,hrec⟩:=(HV.out.below oN HK.out.below).at (by omega);obtain ⟨cs,hcs,mY,hcl⟩:=hrec j hlt;obtain rfl:=mY;have c0:=hcl 0 (by omega);have c1:=hcl 1 (by omega);have c2:=hcl 2 (by omega);simp at c0 c1 c2;have fu:(l.length:Int)<=cap:=by omega
   clear hcl hcs hrec;have Ja:=HE.out;rw [yX hlt] at Ja;have qO:=af Ja;have X0:=af (yY (side:=k.outs) hlt);have rW:=af (yZ (seen:=k.seen) hlt);have hpz:=Fa.out l[j] (List.getElem_mem hlt);generalize l[j]=p at *;clear Ja;rw [AL] at qO;have hsl:=AO hj HN.out;obtain ⟨sn,hsn⟩:∃ x,bK k.seen (l.take j)=x:=⟨_,rfl⟩;obtain ⟨sd,hsd⟩:∃ x,aY k.outs (l.take j)=x:=⟨_,rfl⟩;rw [hsn,hsd] at qO HC;rw [hsn] at rW hsl;rw [hsd] at X0;clear hsn hsd HE;have hbX:=au wr (.cells #[.string p.name,.int .i64 p.aW,.int .i64 p.port] 79);have hX:dZ (wr.alloc (.cells #[.string p.name,.int .i64 p.aW,.int .i64 p.port] 79)) (ext q wr.heap.size 8) 8 wr.heap.size 79 #[.string p.name,.int .i64 p.aW,.int .i64 p.port]:=⟨heap_alloc_new wr _,dI (Nat.le_refl _)⟩;have Qd:=(Turn.of_below q 8 hbX).mono (D:=jS) (fun _ h=>h.elim);have zb:=af (HK.out.of_below 8 hbX);have HT2:=af (HT.out.trans Qd (fun _ h=>h));have HR2:=af (HR.out.turn (Turn.of_below q 8 hbX) (fun h=>h));have BB:=af (HC.out.below 8 hbX);have HX:=af hX;clear hbX hX Qd HK HT HR HC;go_wp2_with fail;refine (xP _ (ext q wr.heap.size 8) C B X ⟨sn,k.ins,sd⟩ p.name hpz hsl BB.out).mono ?_;rintro e w4 ⟨rfl,o4,WE,WG⟩;have T4:=WE.mono (D:=jS) (fun x e=>.inl e);have KX:=af (zb.out.turn T4 (by unfold jS;omega));have MG:=af (HT2.out.trans T4 (fun _ h=>h));have HR4:=af (HR2.out.turn T4 (by unfold jS;omega));have Ot:=af (HX.out.turn T4 (by unfold jS;omega));have KY:=af WG;clear WE T4 WG zb HT2 HR2 BB HX;obtain ⟨ne,hne⟩:∃ x,lg sn p.name=x:=⟨_,rfl⟩;rw [show lg (kL.seen ⟨sn,k.ins,sd⟩) p.name=ne from hne] at KY ⊢;rw [hne] at qO;clear hne
   by_cases h0:ne=0
   ·
    subst h0;have Sy:=KY.out rfl;obtain ⟨gI,tZ⟩:=Sy.outs;have Fb:=af Sy;have AP:=af tZ;have x1:=Ot.out.cell 1 _ rfl;have x2:=Ot.out.cell 2 _ rfl;rw [if_neg (by simp)] at qO;clear Sy tZ KY;go_wp2_with fail;refine (tY _ o4 5 6 X.vO sd gI p.aW p.port (by decide) AP.out).mono ?_;rintro e w5 ⟨rfl,T5,hS5⟩;have jc:=af (KX.out.turn T5 (by decide));have zI:=af (MG.out.trans T5 (fun x e=>by subst e;unfold jS;omega));have qP:=af (HR4.out.turn T5 (by decide));have wG:=af (fun (e:gD sd p.aW p.port=0)=>Fb.out.WC T5 (hS5 e));clear T5 hS5 KX MG HR4 Ot Fb AP x1 x2;obtain ⟨te,hte⟩:∃ x,gD sd p.aW p.port=x:=⟨_,rfl⟩;rw [hte] at qO wG ⊢;clear hte
    by_cases h0:te=0
    ·
     subst h0;have oJ:=af (wG.out rfl);rw [if_neg (by simp)] at qO;have HE2:Hid (dJ (bK k.seen (l.take (j+1))) (aY k.outs (l.take (j+1))) (l.drop (j+1))=E):=af (by rw [rW.out,X0.out];exact qO.out);have xq:Hid (bZ w5 o4 C B X ⟨bK k.seen (l.take (j+1)),k.ins,aY k.outs (l.take (j+1))⟩):=af (by rw [rW.out,X0.out];exact oJ.out);have hnn:=HN.out;clear wG oJ qO;go_wp2;go_roundw
     case rel=>exact ⟨j+1,o4,hlt,by go_num,jc.out,zI.out,qP.out,xq.out,HE2.out⟩
     case measure=>simp [intOf];omega
    ·
     have e:E=te:=by rw [<- qO.out,if_pos h0]
     subst e;have z0:=qP.out.cell 0 _ rfl;have z1:=qP.out.cell 1 _ rfl;have z2:=qP.out.cell 2 _ rfl;have f0:=qP.out.frozen 0;have f1:=qP.out.frozen 1;have f2:=qP.out.frozen 2;go_wp2;refine bodyPost_ret_by (aK rfl _ _ _ _ _ _ _ rfl (dn qP.out) Tryz.underlying110 rfl (by kernel_rfl)) rfl ?_;exact ⟨⟨_,_,_,rfl⟩,_,zI.out.late 7 (dF (by have:=nV.out;omega) _ _ _),fun h=>absurd h h0⟩
   ·
    have e:E=ne:=by rw [<- qO.out,if_pos h0]
    subst e;have z0:=HR4.out.cell 0 _ rfl;have z1:=HR4.out.cell 1 _ rfl;have z2:=HR4.out.cell 2 _ rfl;have f0:=HR4.out.frozen 0;have f1:=HR4.out.frozen 1;have f2:=HR4.out.frozen 2;go_wp2;refine bodyPost_ret_by (aK rfl _ _ _ _ _ _ _ rfl (dn HR4.out) Tryz.underlying110 rfl (by kernel_rfl)) rfl ?_;exact ⟨⟨_,_,_,rfl⟩,_,MG.out.late 7 (dF (by have:=nV.out;omega) _ _ _),fun h=>absurd h h0⟩
  ·
   obtain rfl:j=l.length:=by omega
   have hfin:=HE.out;rw [List.drop_length,List.take_length] at hfin;obtain rfl:E=0:=hfin.symm;have Jb:=HC.out;rw [List.take_length,] at Jb;have KZ:=af Jb;clear hfin Jb;have z0:=HR.out.cell 0 _ rfl;have z1:=HR.out.cell 1 _ rfl;have z2:=HR.out.cell 2 _ rfl;have f0:=HR.out.frozen 0;have f1:=HR.out.frozen 1;have f2:=HR.out.frozen 2;go_wp2;refine bodyPost_ret_by (aK rfl _ _ _ _ _ _ _ rfl (dn HR.out) Tryz.underlying110 rfl (by kernel_rfl)) rfl ?_;exact ⟨⟨_,_,_,rfl⟩,_,HT.out.late 7 (dF (by have:=nV.out;omega) _ _ _),fun _=>KZ.out.spot HR.out _ _ _⟩
theorem MI:(Tryz.prog.info? 4).map (fun i=>(i.zero,i.size,i.bytes))=some (some (.bool false),1,1):=by kernel_rfl
theorem Je:(Tryz.prog.info? 183).map (fun i=>(i.zero,i.size,i.bytes))=some (some (.slice none 0 0),1,24):=by kernel_rfl
theorem Jf (n:Nat):madeCells (Value.cells (.bool false)) (n*1)=(rR (List.replicate n false)).toArray:=by
 rw [Nat.mul_one];apply Array.toList_inj.1
 simp [madeCells,Value.cells,rR,Nat.mod_one,List.map_const']
theorem qR (w:World)(n:Nat)(h:n<=1000):(Instr.makeSlice 183 (.int .i64 (n:Int)) (.int .i64 (n:Int))).run Tryz.prog w=.ok (.slice (some ⟨w.heap.size,0,none⟩) n n) (w.alloc (.cells (rR (List.replicate n false)).toArray 4)):=by
 obtain ⟨i0,hi,hz0,hz1,hz2⟩:=info_parts MI;have hr:=run_make (P:=Tryz.prog) (w:=w) 183 4 i0 _ Tryz.underlying183 hi hz0 .i64 .i64 (n:Int) (n:Int) (by omega) (Int.le_refl _) (by rw [hz2];omega) (by omega);rw [hz1] at hr;simp only [Int.toNat_natCast] at hr;rw [hr,Jf]
def vz (o:Col)(n d c:Nat):Col:=fun k=>if k < n then o k else if k=n then d else c
theorem Gi {o:Col}{n d c k:Nat}(h:k < n):vz o n d c k=o k:=by simp [vz,h]
theorem U4 {o:Col}{n d c:Nat}:vz o n d c n=d:=by simp [vz]
theorem Qe {o:Col}{n d c k:Nat}(h:n < k):vz o n d c k=c:=by simp [vz,Nat.not_lt.2 (Nat.le_of_lt h),Nat.ne_of_gt h]
def sM (side:List (List Bool))(gs:List Nat):List Value:=(List.range side.length).map fun k=>.slice (some ⟨gs[k]?.getD 0,0,none⟩) (side[k]?.getD []).length (side[k]?.getD []).length
theorem Jg {side:List (List Bool)}{gs:List Nat}(h:gs.length=side.length)(r:List Bool)(g:Nat):sM (side ++ [r]) (gs ++ [g])=sM side gs ++ [.slice (some ⟨g,0,none⟩) r.length r.length]:=by
 unfold sM;rw [List.length_append,List.length_singleton,List.range_succ,List.map_append]
 congr 1
 ·
  refine List.map_congr_left fun k hk=>?_;have hk':=List.mem_range.1 hk;rw [List.getElem?_append_left (by omega),List.getElem?_append_left hk']
 ·
  simp [<- h]
theorem Side.push {w w2:World}{o:Col}{c d:Nat}{v v':Value}{side:List (List Bool)}{gs:List Nat}(h:Side w o c d v side gs)(hcd:c≠d)(n:Nat){tmp:Obj}
  (k1:w2.ownsRow 0 183 1 v' (side.length+1) (sM side gs ++ [.slice (some ⟨w.heap.size,0,none⟩) n n])) (k2:((w.alloc (.cells (rR (List.replicate n false)).toArray 4)).alloc tmp).grownBy w2 v.ownBlock)
  (k4:v'.ownBlock=v.ownBlock\/v'.ownBlock=some ((w.alloc (.cells (rR (List.replicate n false)).toArray 4)).alloc tmp).heap.size) :
  Turn o (vz o w.heap.size d c) (fun x=>x=c) w w2/\Side w2 (vz o w.heap.size d c) c d v' (side ++ [List.replicate n false]) (gs ++ [w.heap.size]):=by
 have hown:=fun b (hb:v.ownBlock=some b)=>h.own.1.lt b hb;have T:Turn o (vz o w.heap.size d c) (fun x=>x=c) w w2 :=
  ⟨((((aG.refl (fun b=>v.ownBlock=some b) w).alloc _).alloc tmp).grown k2 (fun b hb _=>hb)).mono (fun b _ hb=>h.own.2 b hb),fun k hk=>Gi hk⟩
 refine ⟨T,⟨by simp [h.len],⟨?_,fun b hb=>?_⟩,fun k hk=>?_,fun i j hij hj=>?_⟩⟩
 ·
  have e:=Jg h.len (List.replicate n false) w.heap.size;rw [List.length_replicate] at e;have e2:(side ++ [List.replicate n false]).length=side.length+1:=by simp
  rw [e2];rw [<- e] at k1;unfold sM at k1;rw [e2] at k1;exact k1
 ·
  rcases k4 with k4 | k4
  ·
   rw [k4] at hb;rw [Gi (hown b hb).2];exact h.own.2 b hb
  ·
   rw [k4] at hb;have:=Option.some.inj hb;simp at this;exact Qe (by omega)
 ·
  have hk':k < side.length+1:=by simpa using hk
  by_cases e:k < side.length
  ·
   rw [List.getElem?_append_left (by have:=h.len;omega),List.getElem?_append_left e];exact (h.rows k e).turn T (fun e=>hcd e.symm)
  ·
   obtain rfl:k=side.length:=by omega
   have e1:(gs ++ [w.heap.size])[side.length]?.getD 0=w.heap.size:=by rw [<- h.len];simp
   have e2:(side ++ [List.replicate n false])[side.length]?.getD []=List.replicate n false:=by simp
   rw [e1,e2];exact ⟨kJ (aI (heap_alloc_new w _) tmp) k2 (fun e=>by have:=(hown _ e).2;omega),U4⟩
 ·
  have hj':j < side.length+1:=by simpa using hj
  have hi:i < side.length:=by omega
  have e1:(gs ++ [w.heap.size])[i]?.getD 0=gs[i]?.getD 0:=by rw [List.getElem?_append_left (by have:=h.len;omega)]
  rw [e1]
  by_cases e:j < side.length
  ·
   rw [List.getElem?_append_left (by have:=h.len;omega)];exact h.apart i j hij e
  ·
   obtain rfl:j=side.length:=by omega
   have e2:(gs ++ [w.heap.size])[side.length]?.getD 0=w.heap.size:=by rw [<- h.len];simp
   rw [e2];have:=(h.rows i hi).lt;omega
theorem bZ.WJ {w w2:World}{o:Col}{C B:Nat}{X:mK}{k:kL}(h:bZ w o C B X k){gI:List Nat}(hs:Side w o 3 4 X.vI k.ins gI)(n:Nat){tmp:Obj}{v':Value}
  (k1:w2.ownsRow 0 183 1 v' (k.ins.length+1) (sM k.ins gI ++ [.slice (some ⟨w.heap.size,0,none⟩) n n])) (k2:((w.alloc (.cells (rR (List.replicate n false)).toArray 4)).alloc tmp).grownBy w2 X.vI.ownBlock)
  (k4:v'.ownBlock=X.vI.ownBlock\/v'.ownBlock=some ((w.alloc (.cells (rR (List.replicate n false)).toArray 4)).alloc tmp).heap.size) :
  (w2.cell? ⟨C,6,none⟩=some X.vI/\w2.frozen? ⟨C,6,none⟩=false)/\Turn o (vz o w.heap.size 4 3) gm w (w2.setCell ⟨C,6,none⟩ v')/\bZ (w2.setCell ⟨C,6,none⟩ v') (vz o w.heap.size 4 3) C B ⟨X.name,X.va,X.ve,X.vi,X.vo,v',X.vO⟩ ⟨k.seen,k.ins ++ [List.replicate n false],k.outs⟩:=by
 obtain ⟨D,m,gI',gO,h1,h2,h3,h4,h5,h6,h7⟩:=h.st;obtain ⟨T,S⟩:=hs.push (by decide) n k1 k2 k4;obtain ⟨m1,m2⟩:=nX h2 T (by rw [h3];decide);have b1:=h1.turn T (by decide);have b7:=h7.turn T (by decide) (by decide);obtain ⟨b2,T2⟩:=b1.set 6 v';obtain ⟨m3,m4⟩:=nX m1 T2 (by rw [m2,h3];decide);refine ⟨⟨b1.cell 6 _ rfl,b1.frozen 6⟩,(T.mono (fun x e=>by subst e;unfold gm;omega)).trans T2 (fun x e=>by subst e;unfold gm;omega),D,m,_,gO,?_,m3,m2.trans h3,h4,h5,S.turn T2 (by decide) (by decide),b7.turn T2 (by decide) (by decide)⟩;exact b2
theorem bZ.WK {w w2:World}{o:Col}{C B:Nat}{X:mK}{k:kL}(h:bZ w o C B X k){gO:List Nat}(hs:Side w o 5 6 X.vO k.outs gO)(n:Nat){tmp:Obj}{v':Value}
  (k1:w2.ownsRow 0 183 1 v' (k.outs.length+1) (sM k.outs gO ++ [.slice (some ⟨w.heap.size,0,none⟩) n n])) (k2:((w.alloc (.cells (rR (List.replicate n false)).toArray 4)).alloc tmp).grownBy w2 X.vO.ownBlock)
  (k4:v'.ownBlock=X.vO.ownBlock\/v'.ownBlock=some ((w.alloc (.cells (rR (List.replicate n false)).toArray 4)).alloc tmp).heap.size) :
  (w2.cell? ⟨C,7,none⟩=some X.vO/\w2.frozen? ⟨C,7,none⟩=false)/\Turn o (vz o w.heap.size 6 5) gm w (w2.setCell ⟨C,7,none⟩ v')/\bZ (w2.setCell ⟨C,7,none⟩ v') (vz o w.heap.size 6 5) C B ⟨X.name,X.va,X.ve,X.vi,X.vo,X.vI,v'⟩ ⟨k.seen,k.ins,k.outs ++ [List.replicate n false]⟩:=by
 obtain ⟨D,m,gI,gO',h1,h2,h3,h4,h5,h6,h7⟩:=h.st;obtain ⟨T,S⟩:=hs.push (by decide) n k1 k2 k4;obtain ⟨m1,m2⟩:=nX h2 T (by rw [h3];decide);have b1:=h1.turn T (by decide);have b6:=h6.turn T (by decide) (by decide);obtain ⟨b2,T2⟩:=b1.set 7 v';obtain ⟨m3,m4⟩:=nX m1 T2 (by rw [m2,h3];decide);refine ⟨⟨b1.cell 7 _ rfl,b1.frozen 7⟩,(T.mono (fun x e=>by subst e;unfold gm;omega)).trans T2 (fun x e=>by subst e;unfold gm;omega),D,m,gI,_,?_,m3,m2.trans h3,h4,h5,b6.turn T2 (by decide) (by decide),S.turn T2 (by decide) (by decide)⟩;exact b2
def U5 (w:World)(o:Col)(C B:Nat)(X:mK)(E:Int)(k:kL)(e:Ending)(w':World):Prop:=zR E e/\∃ o' vI vO,Turn o o' gm w w'/\(E=0->bZ w' o' C B ⟨X.name,X.va,X.ve,X.vi,X.vo,vI,vO⟩ k)
theorem Ee {c:kL}{l:List fE}{j:Nat}(h:j < l.length):iq c (l.drop j)=if nM c.seen l[j]≠0 then nM c.seen l[j] else iq (mH c l[j]) (l.drop (j+1)):=by
 rw [List.drop_eq_getElem_cons h,iq]
theorem Ef {c:kL}{l:List fE}{j:Nat}(h:j < l.length):cO c (l.take (j+1))=mH (cO c (l.take j)) l[j]:=by
 rw [List.take_succ_eq_append_getElem h,cO,List.foldl_append];rfl
theorem wH (l:List fE):∀ c:kL,(cO c l).seen=c.seen ++ l.map fE.name:=by
 induction l with
 | nil=>intro c;simp [cO]
 | cons a r ih=>intro c;rw [show cO c (a :: r)=cO (mH c a) r from rfl,ih];simp [mH]
theorem gB (l:List fE):∀ c:kL,(cO c l).ins.length=c.ins.length+l.length/\(cO c l).outs.length=c.outs.length+l.length:=by
 induction l with
 | nil=>intro c;simp [cO]
 | cons a r ih=>intro c;rw [show cO c (a :: r)=cO (mH c a) r from rfl,(ih _).1,(ih _).2];simp [mH];omega
theorem qh {t:Int}{ps:List Int}(h:aC t ps):(bJ t ps).length<=16/\(aV t ps).length<=16:=by
 have h1:bP ps 16->(hd ps).toNat<=16:=fun h=>by unfold bP at h;omega
 have h2:aZ ps->(hd ps).toNat<=16:=fun h=>by unfold aZ at h;omega
 unfold aC at h
 rcases h with ⟨rfl,h⟩ | ⟨rfl,h⟩ | ⟨rfl,h⟩ | ⟨rfl,h⟩ | ⟨rfl,h⟩ | ⟨rfl,h⟩ | ⟨rfl,h⟩ | ⟨rfl,h⟩ | ⟨rfl,h⟩ | ⟨rfl,h⟩ | ⟨rfl,h⟩ <;> simp [bJ,aV] <;> first | (have:=h1 h;omega) | (have:=h2 h;omega) | skip
theorem Gj (w0 w:World)(o:Col)(C B:Nat)(X:mK)(k:kL)(l:List fE)(hv:pU w0 3 DY X.va l)(K:Kept w0.heap.size o w0 w)(hn:k.seen.length+l.length<=1000000)(hi0:k.ins.length+l.length<=1000000)(ho0:k.outs.length+l.length<=1000000)
  (hs:∀ p∈l,p.name.size<=4611686018427387904/\p.params.length<=17600000000000) (h:bZ w o C B X k) :
  Calls Tryz.prog 56 #[.pointer (some ⟨C,0,none⟩)] w (U5 w o C B X (iq k l) (cO k l)):=by
 obtain ⟨i1,bi,bz0,bz1,bz2⟩:=info_parts Je;obtain ⟨ao,cap,uH⟩:=hv.slice;rw [uH] at hv;obtain ⟨E,hE⟩:∃ E,iq k l=E:=⟨_,rfl⟩;rw [hE];have HE:=af (show iq (cO k (l.take 0)) (l.drop 0)=E by simpa [cO] using hE);have HV:=af hv;have HVE:=af uH;have HN:=af hn;have HI:=af hi0;have HO:=af ho0;have Fa:=af hs;have hbR:=au w (.cells #[.int .u8 0,.int .i64 0,.int .i64 0] 110);have HT0:=af ((Turn.of_below o 7 hbR).mono (D:=gm) (fun _ h=>h.elim));have BD:=af (K.of_below 7 hbR);have hC0:=h.below 7 hbR;have q1:=hC0.cells.2.1;rw [uH] at q1;have mD:Hid (bZ _ _ C B X (cO k (l.take 0))):=af (by simpa [cO] using hC0);have vR:=af (qg w o 7);clear hE hv uH hn hi0 ho0 hs K h hbR hC0;go_enter Tryz.func56,Tryz.ntmps56;go_wp2_with fail;clear q1;obtain ⟨R,hR⟩:∃ R,w.heap.size=R:=⟨_,rfl⟩;have nV:=af hR;rw [hR] at vR HT0 BD mD ⊢;clear hR
 go_loopw [15] (fun i wr=>∃ (j:Nat) (q:Col) (vI vO:Value),j<=l.length/\i=.int .i64 j/\Kept w0.heap.size q w0 wr/\Turn o q gm w wr/\dZ wr q 7 R 110 #[.int .u8 0,.int .i64 0,.int .i64 0]/\bZ wr q C B ⟨X.name,X.va,X.ve,X.vi,X.vo,vI,vO⟩ (cO k (l.take j))/\iq (cO k (l.take j)) (l.drop j)=E) (fun i _=>l.length - (intOf i).toNat)
 case atStart=>exact ⟨0,_,X.vI,X.vO,Nat.zero_le _,rfl,BD.out,HT0.out,vR.out,mD.out,HE.out⟩
 case round =>
  clear BD HT0 vR mD HE;obtain ⟨j,q,vI,vO,hj,rfl,hK,hT,hR,hC,hE⟩:=hrel;have HK:=af hK;have HT:=af hT;have HR:=af hR;have HC:=af hC;have HE:=af hE;clear hK hT hR hC hE
  by_cases hlt:j < l.length
  ·
   have bX:(j:Int) < l.length:=by omega
   obtain ⟨b0,off,rfl,hcap,hb0,hrec⟩:=HV.out.at (by omega);obtain ⟨cs,hcs,mY,hcl⟩:=hrec j hlt;obtain ⟨xs,rfl,hst⟩:=mY;have c0:=cell_later HK.out.below (hcl 0 (by omega));have c1:=cell_later HK.out.below (hcl 1 (by omega));have c2:=cell_later HK.out.below (hcl 2 (by omega));simp at c0 c1 c2;have fu:(l.length:Int)<=cap:=by omega
   have Ja:=HE.out;rw [Ee hlt] at Ja;have qO:=af Ja;have X4:=af (Ef (c:=k) hlt);have hpz:=Fa.out l[j] (List.getElem_mem hlt);have hsl:(cO k (l.take j)).seen.length<=1000000:=by rw [wH];have:=HN.out;simp;omega
   have hil:(cO k (l.take j)).ins.length<=1000000:=by rw [(gB _ _).1];have:=HI.out;simp;omega
   have hol:(cO k (l.take j)).outs.length<=1000000:=by rw [(gB _ _).2];have:=HO.out;simp;omega
   have zH:Has w0 xs (bB l[j].params):=hst;obtain ⟨sa,sc,hxs⟩:=Ints.slice zH;subst hxs;have HST:=af zH;clear hcl hcs hrec hst zH Ja HE;generalize l[j]=p at *;obtain ⟨kk,hkk⟩:∃ x,cO k (l.take j)=x:=⟨_,rfl⟩;rw [hkk] at qO HC X4 hsl hil hol;clear hkk;have hbX:=au wr (.cells #[.string p.name,.int .u8 p.tag,.slice sa p.params.length sc] 56);have hX:dZ (wr.alloc (.cells #[.string p.name,.int .u8 p.tag,.slice sa p.params.length sc] 56)) (ext q wr.heap.size 8) 8 wr.heap.size 56 #[.string p.name,.int .u8 p.tag,.slice sa p.params.length sc]:=⟨heap_alloc_new wr _,dI (Nat.le_refl _)⟩;have Qd:=(Turn.of_below q 8 hbX).mono (D:=gm) (fun _ h=>h.elim);have zb:=af (HK.out.of_below 8 hbX);have HT2:=af (HT.out.trans Qd (fun _ h=>h));have HR2:=af (HR.out.turn (Turn.of_below q 8 hbX) (fun h=>h));have BB:=af (HC.out.below 8 hbX);have HX:=af hX;clear hbX hX Qd HK HT HR HC;go_wp2_with fail;refine (xP _ (ext q wr.heap.size 8) C B _ kk p.name hpz.1 hsl BB.out).mono ?_;rintro e w4 ⟨rfl,o4,WE,WG⟩;have T4:=WE.mono (D:=gm) (fun x e=>by subst e;unfold gm;omega);have KX:=af (zb.out.turn T4 (by unfold gm;omega));have MG:=af (HT2.out.trans T4 (fun _ h=>h));have HR4:=af (HR2.out.turn T4 (by unfold gm;omega));have Ot:=af (HX.out.turn T4 (by unfold gm;omega));have KY:=af WG;clear WE T4 WG zb HT2 HR2 BB HX;obtain ⟨ne,hne⟩:∃ x,lg kk.seen p.name=x:=⟨_,rfl⟩;rw [hne] at KY ⊢;have u7:=af hne;clear hne
   by_cases h0:ne=0
   ·
    subst h0;have Fb:=af (KY.out rfl);have x1:=Ot.out.cell 1 _ rfl;have x2:=Ot.out.cell 2 _ rfl;have HP4:Hid (Has w4 (.slice sa p.params.length sc) (bB p.params)):=af (HST.out.below KX.out.below);clear KY;go_wp2_with fail
    by_cases hg:aC p.tag p.params
    ·
     have HG:=af hg;have X8:=af (qh hg);refine (Wq _ p.tag sa _ sc p.params hg hpz.2 HP4.out).mono ?_;rintro e w5 ⟨vi,vo,rfl,p1,p2,hb5⟩;obtain ⟨a1,c1',rfl⟩:=aA p1;obtain ⟨a2,c2',rfl⟩:=aA p2;have jc:=af (KX.out.of_below 9 hb5);have zI:=af (MG.out.trans ((Turn.of_below o4 9 hb5).mono (D:=gm) (fun _ h=>h.elim)) (fun _ h=>h));have qP:=af (HR4.out.turn (Turn.of_below o4 9 hb5) (fun h=>h));have wG:=af (Fb.out.below 9 hb5);clear p1 p2 hb5 KX MG HR4 Ot Fb HP4 x1 x2 hg;generalize ext o4 w4.heap.size 9=q5 at *;obtain ⟨n1,hn1⟩:∃ n,(bJ p.tag p.params).length=n:=⟨_,rfl⟩;obtain ⟨n2,hn2⟩:∃ n,(aV p.tag p.params).length=n:=⟨_,rfl⟩;have Iu:=af hn1;have pJ:=af hn2;rw [hn1,hn2] at X8 ⊢;have hn16:=X8.out;clear hn1 hn2 X8;go_wp2_with fail;obtain ⟨gI,tZ⟩:=wG.out.ins;have hown:=tZ.own.1;obtain ⟨ia,ic,Fe⟩:=tZ.own.slice;have y6:=wG.out.cells.2.2.2.2.2.2.1;have X9:=wG.out.U0 6;rw [Fe] at y6 hown;have hr:=qR (w5).drew n1 (by omega);have AP:=af tZ;have Gl:=af Fe;have hlen:=hil;clear tZ Fe;have Eg:=ca (o:=.cells (rR (List.replicate n1 false)).toArray 4) (w:=w5) y6;refine cZ (fun w'=>w'.cell? ⟨C,6,none⟩=some (.slice ia kk.ins.length ic)) [0,1,2,3,4,5,6] [7,9] 6 (by kernel_rfl) (by kernel_rfl) rfl y6 ?_;intro Q' hQ';simp only [pk];refine aD ?_;refine ax ?_;refine aB (i:=7) (by kernel_rfl) ?_;simp only [pk];go_wp2;refine ⟨by first | exact fun _ _=>Eg | exact fun _=>Eg,?_⟩;refine aB (i:=8) (by kernel_rfl) ?_;simp only [pk];go_wp2;refine ⟨by first | exact fun _ h=>ca h | exact fun _=>ca Eg,?_⟩;refine aB (i:=9) (by kernel_rfl) ?_;simp only [pk];go_wp2_with (at_builtin;refine aU ?_);refine dR ?_;have hown2:(((w5).alloc (.cells (rR (List.replicate n1 false)).toArray 4)).alloc (.cells #[.slice (some ⟨(w5).heap.size,0,none⟩) n1 n1] 183)).ownsRow 0 183 1 (.slice ia kk.ins.length ic) kk.ins.length (sM kk.ins gI):=(hown.alloc _).alloc _;refine aS rfl _ _ 135 rfl 0 183 i1 _ 1 24 Tryz.underlying135 bi bz0 bz1 bz2 rfl (.slice ia kk.ins.length ic) kk.ins.length _ rfl hown2 (some ⟨(w5).heap.size+1,0,none⟩) 1 1 [.slice (some ⟨(w5).heap.size,0,none⟩) n1 n1] rfl rfl (fun h=>by cases h) (by simpa using bC ((w5).alloc (.cells (rR (List.replicate n1 false)).toArray 4)) [.slice (some ⟨(w5).heap.size,0,none⟩) n1 n1] 183) (by simp [Value.oneCell']) (by unfold maxLen;omega) (bA (by omega)) (Nat.zero_le _) ?_;intro v7 w7 k1 k20 _ k4;have k2:(((w5).alloc (.cells (rR (List.replicate n1 false)).toArray 4)).alloc (.cells #[.slice (some ⟨(w5).heap.size,0,none⟩) n1 n1] 183)).grownBy w7 (Value.slice ia kk.ins.length ic).ownBlock:=⟨k20.os,k20.tape,k20.output,k20.size,k20.block⟩;have Qf:v7.ownBlock=(Value.slice ia kk.ins.length ic).ownBlock\/v7.ownBlock=some (((w5).alloc (.cells (rR (List.replicate n1 false)).toArray 4)).alloc (.cells #[.slice (some ⟨(w5).heap.size,0,none⟩) n1 n1] 183)).heap.size:=k4;obtain ⟨s7,c7,rfl⟩:=aA k1;obtain ⟨⟨z6,zf⟩,TP,CP⟩:=wG.out.WJ AP.out n1 k1 (by rw [Gl.out];exact k2) (by rw [Gl.out];exact Qf);rw [Gl.out] at z6;have X6:=af (jc.out.turn TP (by unfold gm;omega));have K5:=af (zI.out.trans TP (fun _ h=>h));have BO:=af (qP.out.turn TP (by unfold gm;omega));have oJ:=af CP;clear TP CP k1 k2 k20 k4 Qf hown hown2 hr y6 Eg X9 jc zI qP wG AP;refine ⟨by first | exact fun _ _=>z6 | exact fun _=>z6,?_⟩;refine aJ (ks:=[10,11,12]) (fun _ _ hx h=>hx.cell h) (by kernel_rfl) ?_;simp only [pk];go_wp2_with fail;clear Gl z6 zf;generalize w7.setCell ⟨C,6,none⟩ (.slice s7 (kk.ins.length+1) c7)=w8 at *;generalize vz q5 w5.heap.size 4 3=q8 at *;obtain ⟨gO,tZ⟩:=oJ.out.outs;have hown:=tZ.own.1;obtain ⟨ia,ic,Fe⟩:=tZ.own.slice;have y6:=oJ.out.cells.2.2.2.2.2.2.2;have X9:=oJ.out.U0 7;rw [Fe] at y6 hown;have hr:=qR (w8).drew n2 (by omega);have AP:=af tZ;have Gl:=af Fe;have hlen:=hol;clear tZ Fe;have Eg:=ca (o:=.cells (rR (List.replicate n2 false)).toArray 4) (w:=w8) y6;refine cZ (fun w'=>w'.cell? ⟨C,7,none⟩=some (.slice ia kk.outs.length ic)) [0,1,2,3,4,5,6] [7,9] 6 (by kernel_rfl) (by kernel_rfl) rfl y6 ?_;intro Q' hQ';simp only [pk];refine aD ?_;refine ax ?_;refine aB (i:=7) (by kernel_rfl) ?_;simp only [pk];go_wp2;refine ⟨by first | exact fun _ _=>Eg | exact fun _=>Eg,?_⟩;refine aB (i:=8) (by kernel_rfl) ?_;simp only [pk];go_wp2;refine ⟨by first | exact fun _ h=>ca h | exact fun _=>ca Eg,?_⟩;refine aB (i:=9) (by kernel_rfl) ?_;simp only [pk];go_wp2_with (at_builtin;refine aU ?_);refine dR ?_;have hown2:(((w8).alloc (.cells (rR (List.replicate n2 false)).toArray 4)).alloc (.cells #[.slice (some ⟨(w8).heap.size,0,none⟩) n2 n2] 183)).ownsRow 0 183 1 (.slice ia kk.outs.length ic) kk.outs.length (sM kk.outs gO):=(hown.alloc _).alloc _;refine aS rfl _ _ 135 rfl 0 183 i1 _ 1 24 Tryz.underlying135 bi bz0 bz1 bz2 rfl (.slice ia kk.outs.length ic) kk.outs.length _ rfl hown2 (some ⟨(w8).heap.size+1,0,none⟩) 1 1 [.slice (some ⟨(w8).heap.size,0,none⟩) n2 n2] rfl rfl (fun h=>by cases h) (by simpa using bC ((w8).alloc (.cells (rR (List.replicate n2 false)).toArray 4)) [.slice (some ⟨(w8).heap.size,0,none⟩) n2 n2] 183) (by simp [Value.oneCell']) (by unfold maxLen;omega) (bA (by omega)) (Nat.zero_le _) ?_;intro v7 w7 k1 k20 _ k4;have k2:(((w8).alloc (.cells (rR (List.replicate n2 false)).toArray 4)).alloc (.cells #[.slice (some ⟨(w8).heap.size,0,none⟩) n2 n2] 183)).grownBy w7 (Value.slice ia kk.outs.length ic).ownBlock:=⟨k20.os,k20.tape,k20.output,k20.size,k20.block⟩;have Qf:v7.ownBlock=(Value.slice ia kk.outs.length ic).ownBlock\/v7.ownBlock=some (((w8).alloc (.cells (rR (List.replicate n2 false)).toArray 4)).alloc (.cells #[.slice (some ⟨(w8).heap.size,0,none⟩) n2 n2] 183)).heap.size:=k4;obtain ⟨s9,c9,rfl⟩:=aA k1;obtain ⟨⟨z6,zf⟩,TP,CP⟩:=oJ.out.WK AP.out n2 k1 (by rw [Gl.out];exact k2) (by rw [Gl.out];exact Qf);rw [Gl.out] at z6;have WL:=af (X6.out.turn TP (by unfold gm;omega));have K7:=af (K5.out.trans TP (fun _ h=>h));have U6:=af (BO.out.turn TP (by unfold gm;omega));have KZ:=af CP;clear TP CP k1 k2 k20 k4 Qf hown hown2 hr y6 Eg X9 X6 K5 BO oJ AP;refine ⟨by first | exact fun _ _=>z6 | exact fun _=>z6,?_⟩;refine aJ (ks:=[10,11,12]) (fun _ _ hx h=>hx.cell h) (by kernel_rfl) ?_;simp only [pk];have WM:E=iq (mH kk p) (l.drop (j+1)):=by rw [<- qO.out,nM,u7.out];simp [HG.out]
     have Sz:=af WM;have HAC:Hid (mH kk p=⟨kk.seen ++ [p.name],kk.ins ++ [List.replicate n1 false],kk.outs ++ [List.replicate n2 false]⟩):=af (by rw [<- Iu.out,<- pJ.out];rfl);clear WM;have hnn:=HN.out;go_wp2;go_roundw
     case rel=>exact ⟨j+1,_,_,_,hlt,by go_num,WL.out,K7.out,U6.out,by rw [X4.out,HAC.out];exact KZ.out,by rw [X4.out];exact Sz.out.symm⟩
     case measure=>simp [intOf];omega
    ·
     have HG:=af hg;refine (ZL _ p.tag sa _ sc p.params hg hpz.2 HP4.out).mono ?_;rintro e w5 ⟨he,hb5⟩;obtain ⟨x,hx⟩:∃ x,uG p.tag=x:=⟨_,rfl⟩;obtain ⟨z,hz⟩:∃ z:Nat,z=0:=⟨_,rfl⟩;have aci:z<=16:=by omega
     have he':e=.returned (.tuple #[.slice none z 0,.slice none z 0,.int .i64 x]):=by rw [he,hz,hx]
     subst he';clear he hz;have jc:=af (KX.out.of_below 9 hb5);have zI:=af (MG.out.trans ((Turn.of_below o4 9 hb5).mono (D:=gm) (fun _ h=>h.elim)) (fun _ h=>h));have qP:=af (HR4.out.turn (Turn.of_below o4 9 hb5) (fun h=>h));have wG:=af (Fb.out.below 9 hb5);clear hb5 KX MG HR4 Ot Fb HP4 x1 x2 hg;generalize ext o4 w4.heap.size 9=q5 at *;have hx0:¬ x=0:=by rw [<- hx];unfold uG;split <;> decide
     have WM:E=x:=by rw [<- qO.out,nM,u7.out];simp [HG.out,hx,hx0]
     subst WM;clear hx;go_wp2_with fail;obtain ⟨gI,tZ⟩:=wG.out.ins;have hown:=tZ.own.1;obtain ⟨ia,ic,Fe⟩:=tZ.own.slice;have y6:=wG.out.cells.2.2.2.2.2.2.1;have X9:=wG.out.U0 6;rw [Fe] at y6 hown;have hr:=qR (w5).drew z (by omega);have AP:=af tZ;have Gl:=af Fe;have hlen:=hil;clear tZ Fe;have Eg:=ca (o:=.cells (rR (List.replicate z false)).toArray 4) (w:=w5) y6;refine cZ (fun w'=>w'.cell? ⟨C,6,none⟩=some (.slice ia kk.ins.length ic)) [0,1,2,3,4,5,6] [7,9] 6 (by kernel_rfl) (by kernel_rfl) rfl y6 ?_;intro Q' hQ';simp only [pk];refine aD ?_;refine ax ?_;refine aB (i:=7) (by kernel_rfl) ?_;simp only [pk];go_wp2;refine ⟨by first | exact fun _ _=>Eg | exact fun _=>Eg,?_⟩;refine aB (i:=8) (by kernel_rfl) ?_;simp only [pk];go_wp2;refine ⟨by first | exact fun _ h=>ca h | exact fun _=>ca Eg,?_⟩;refine aB (i:=9) (by kernel_rfl) ?_;simp only [pk];go_wp2_with (at_builtin;refine aU ?_);refine dR ?_;have hown2:(((w5).alloc (.cells (rR (List.replicate z false)).toArray 4)).alloc (.cells #[.slice (some ⟨(w5).heap.size,0,none⟩) z z] 183)).ownsRow 0 183 1 (.slice ia kk.ins.length ic) kk.ins.length (sM kk.ins gI):=(hown.alloc _).alloc _;refine aS rfl _ _ 135 rfl 0 183 i1 _ 1 24 Tryz.underlying135 bi bz0 bz1 bz2 rfl (.slice ia kk.ins.length ic) kk.ins.length _ rfl hown2 (some ⟨(w5).heap.size+1,0,none⟩) 1 1 [.slice (some ⟨(w5).heap.size,0,none⟩) z z] rfl rfl (fun h=>by cases h) (by simpa using bC ((w5).alloc (.cells (rR (List.replicate z false)).toArray 4)) [.slice (some ⟨(w5).heap.size,0,none⟩) z z] 183) (by simp [Value.oneCell']) (by unfold maxLen;omega) (bA (by omega)) (Nat.zero_le _) ?_;intro v7 w7 k1 k20 _ k4;have k2:(((w5).alloc (.cells (rR (List.replicate z false)).toArray 4)).alloc (.cells #[.slice (some ⟨(w5).heap.size,0,none⟩) z z] 183)).grownBy w7 (Value.slice ia kk.ins.length ic).ownBlock:=⟨k20.os,k20.tape,k20.output,k20.size,k20.block⟩;have Qf:v7.ownBlock=(Value.slice ia kk.ins.length ic).ownBlock\/v7.ownBlock=some (((w5).alloc (.cells (rR (List.replicate z false)).toArray 4)).alloc (.cells #[.slice (some ⟨(w5).heap.size,0,none⟩) z z] 183)).heap.size:=k4;obtain ⟨s7,c7,rfl⟩:=aA k1;obtain ⟨⟨z6,zf⟩,TP,CP⟩:=wG.out.WJ AP.out z k1 (by rw [Gl.out];exact k2) (by rw [Gl.out];exact Qf);rw [Gl.out] at z6;have X6:=af (jc.out.turn TP (by unfold gm;omega));have K5:=af (zI.out.trans TP (fun _ h=>h));have BO:=af (qP.out.turn TP (by unfold gm;omega));have oJ:=af CP;clear TP CP k1 k2 k20 k4 Qf hown hown2 hr y6 Eg X9 jc zI qP wG AP;refine ⟨by first | exact fun _ _=>z6 | exact fun _=>z6,?_⟩;refine aJ (ks:=[10,11,12]) (fun _ _ hx h=>hx.cell h) (by kernel_rfl) ?_;simp only [pk];go_wp2_with fail;clear Gl z6 zf;generalize w7.setCell ⟨C,6,none⟩ (.slice s7 (kk.ins.length+1) c7)=w8 at *;generalize vz q5 w5.heap.size 4 3=q8 at *;obtain ⟨gO,tZ⟩:=oJ.out.outs;have hown:=tZ.own.1;obtain ⟨ia,ic,Fe⟩:=tZ.own.slice;have y6:=oJ.out.cells.2.2.2.2.2.2.2;have X9:=oJ.out.U0 7;rw [Fe] at y6 hown;have hr:=qR (w8).drew z (by omega);have AP:=af tZ;have Gl:=af Fe;have hlen:=hol;clear tZ Fe;have Eg:=ca (o:=.cells (rR (List.replicate z false)).toArray 4) (w:=w8) y6;refine cZ (fun w'=>w'.cell? ⟨C,7,none⟩=some (.slice ia kk.outs.length ic)) [0,1,2,3,4,5,6] [7,9] 6 (by kernel_rfl) (by kernel_rfl) rfl y6 ?_;intro Q' hQ';simp only [pk];refine aD ?_;refine ax ?_;refine aB (i:=7) (by kernel_rfl) ?_;simp only [pk];go_wp2;refine ⟨by first | exact fun _ _=>Eg | exact fun _=>Eg,?_⟩;refine aB (i:=8) (by kernel_rfl) ?_;simp only [pk];go_wp2;refine ⟨by first | exact fun _ h=>ca h | exact fun _=>ca Eg,?_⟩;refine aB (i:=9) (by kernel_rfl) ?_;simp only [pk];go_wp2_with (at_builtin;refine aU ?_);refine dR ?_;have hown2:(((w8).alloc (.cells (rR (List.replicate z false)).toArray 4)).alloc (.cells #[.slice (some ⟨(w8).heap.size,0,none⟩) z z] 183)).ownsRow 0 183 1 (.slice ia kk.outs.length ic) kk.outs.length (sM kk.outs gO):=(hown.alloc _).alloc _;refine aS rfl _ _ 135 rfl 0 183 i1 _ 1 24 Tryz.underlying135 bi bz0 bz1 bz2 rfl (.slice ia kk.outs.length ic) kk.outs.length _ rfl hown2 (some ⟨(w8).heap.size+1,0,none⟩) 1 1 [.slice (some ⟨(w8).heap.size,0,none⟩) z z] rfl rfl (fun h=>by cases h) (by simpa using bC ((w8).alloc (.cells (rR (List.replicate z false)).toArray 4)) [.slice (some ⟨(w8).heap.size,0,none⟩) z z] 183) (by simp [Value.oneCell']) (by unfold maxLen;omega) (bA (by omega)) (Nat.zero_le _) ?_;intro v7 w7 k1 k20 _ k4;have k2:(((w8).alloc (.cells (rR (List.replicate z false)).toArray 4)).alloc (.cells #[.slice (some ⟨(w8).heap.size,0,none⟩) z z] 183)).grownBy w7 (Value.slice ia kk.outs.length ic).ownBlock:=⟨k20.os,k20.tape,k20.output,k20.size,k20.block⟩;have Qf:v7.ownBlock=(Value.slice ia kk.outs.length ic).ownBlock\/v7.ownBlock=some (((w8).alloc (.cells (rR (List.replicate z false)).toArray 4)).alloc (.cells #[.slice (some ⟨(w8).heap.size,0,none⟩) z z] 183)).heap.size:=k4;obtain ⟨s9,c9,rfl⟩:=aA k1;obtain ⟨⟨z6,zf⟩,TP,CP⟩:=oJ.out.WK AP.out z k1 (by rw [Gl.out];exact k2) (by rw [Gl.out];exact Qf);rw [Gl.out] at z6;have WL:=af (X6.out.turn TP (by unfold gm;omega));have K7:=af (K5.out.trans TP (fun _ h=>h));have U6:=af (BO.out.turn TP (by unfold gm;omega));have KZ:=af CP;clear TP CP k1 k2 k20 k4 Qf hown hown2 hr y6 Eg X9 X6 K5 BO oJ AP;refine ⟨by first | exact fun _ _=>z6 | exact fun _=>z6,?_⟩;refine aJ (ks:=[10,11,12]) (fun _ _ hx h=>hx.cell h) (by kernel_rfl) ?_;simp only [pk];have z0:=U6.out.cell 0 _ rfl;have z1:=U6.out.cell 1 _ rfl;have z2:=U6.out.cell 2 _ rfl;have f0:=U6.out.frozen 0;have f1:=U6.out.frozen 1;have f2:=U6.out.frozen 2;go_wp2;refine bodyPost_ret_by (aK rfl _ _ _ _ _ _ _ rfl (dn U6.out) Tryz.underlying110 rfl (by kernel_rfl)) rfl ?_;exact ⟨⟨_,_,_,rfl⟩,_,vI,vO,K7.out.late 7 (dF (by have:=nV.out;omega) _ _ _),fun h=>absurd h hx0⟩
   ·
    have e:E=ne:=by rw [<- qO.out,nM,u7.out,if_pos h0,if_pos h0]
    subst e;have z0:=HR4.out.cell 0 _ rfl;have z1:=HR4.out.cell 1 _ rfl;have z2:=HR4.out.cell 2 _ rfl;have f0:=HR4.out.frozen 0;have f1:=HR4.out.frozen 1;have f2:=HR4.out.frozen 2;go_wp2;refine bodyPost_ret_by (aK rfl _ _ _ _ _ _ _ rfl (dn HR4.out) Tryz.underlying110 rfl (by kernel_rfl)) rfl ?_;exact ⟨⟨_,_,_,rfl⟩,_,vI,vO,MG.out.late 7 (dF (by have:=nV.out;omega) _ _ _),fun h=>absurd h h0⟩
  ·
   obtain rfl:j=l.length:=by omega
   have hfin:=HE.out;rw [List.drop_length,List.take_length] at hfin;obtain rfl:E=0:=hfin.symm;have Jb:=HC.out;rw [List.take_length] at Jb;have KZ:=af Jb;clear hfin Jb;have z0:=HR.out.cell 0 _ rfl;have z1:=HR.out.cell 1 _ rfl;have z2:=HR.out.cell 2 _ rfl;have f0:=HR.out.frozen 0;have f1:=HR.out.frozen 1;have f2:=HR.out.frozen 2;go_wp2;refine bodyPost_ret_by (aK rfl _ _ _ _ _ _ _ rfl (dn HR.out) Tryz.underlying110 rfl (by kernel_rfl)) rfl ?_;exact ⟨⟨_,_,_,rfl⟩,_,vI,vO,HT.out.late 7 (dF (by have:=nV.out;omega) _ _ _),fun _=>KZ.out.spot HR.out _ _ _⟩
def Jh (ins outs:List (List Bool))(i:Nat):Prop:=∀ r,r < i->(ins[r]?.getD []).all id=true/\(outs[r]?.getD []).all id=true
theorem Qg {ins outs:List (List Bool)}(hl:outs.length=ins.length)(h:Jh ins outs ins.length):mQ ins outs=0:=by
 have h1:(ins.all fun s=>s.all id)=true:=by
  rw [List.all_eq_true];intro x hx;obtain ⟨r,hr,rfl⟩:=List.mem_iff_getElem.1 hx;have:=(h r hr).1
  rwa [List.getElem?_eq_getElem hr,Option.getD_some] at this
 have h2:(outs.all fun s=>s.all id)=true:=by
  rw [List.all_eq_true];intro x hx;obtain ⟨r,hr,rfl⟩:=List.mem_iff_getElem.1 hx;have:=(h r (by omega)).2
  rwa [List.getElem?_eq_getElem hr,Option.getD_some] at this
 unfold mQ;rw [h1,h2];rfl
theorem Qh {ins outs:List (List Bool)}{i m:Nat}(hi:i < ins.length)(hm:m < (ins[i]?.getD []).length)(h:(ins[i]?.getD [])[m]?.getD false=false):mQ ins outs=87:=by
 have h1:(ins.all fun s=>s.all id)=false:=by
  rw [List.all_eq_false];rw [List.getElem?_eq_getElem hi,Option.getD_some] at hm h;refine ⟨ins[i],List.getElem_mem hi,?_⟩;rw [List.getElem?_eq_getElem hm,Option.getD_some] at h;simp only [Bool.not_eq_true,List.all_eq_false];exact ⟨_,List.getElem_mem hm,by simp [h]⟩
 unfold mQ;rw [h1];rfl
theorem MJ {ins outs:List (List Bool)}{i m:Nat}(hi:i < outs.length)(hm:m < (outs[i]?.getD []).length)(h:(outs[i]?.getD [])[m]?.getD false=false):mQ ins outs=87:=by
 have h1:(outs.all fun s=>s.all id)=false:=by
  rw [List.all_eq_false];rw [List.getElem?_eq_getElem hi,Option.getD_some] at hm h;refine ⟨outs[i],List.getElem_mem hi,?_⟩;rw [List.getElem?_eq_getElem hm,Option.getD_some] at h;simp only [Bool.not_eq_true,List.all_eq_false];exact ⟨_,List.getElem_mem hm,by simp [h]⟩
 unfold mQ;rw [h1,Bool.and_false];rfl
theorem Qi {l:List Bool}(h:∀ m,m < l.length->l[m]?.getD false=true):l.all id=true:=by
 rw [List.all_eq_true];intro x hx;obtain ⟨r,hr,rfl⟩:=List.mem_iff_getElem.1 hx;have:=h r hr
 rwa [List.getElem?_eq_getElem hr,Option.getD_some] at this
theorem Gm {l:List Bool}{k:Nat}(h:k < l.length):(rR l).toArray[k]?=some (.bool (l[k]?.getD false)):=by simp [rR,h]
theorem uf (w:World)(o:Col)(C B:Nat)(X:mK)(k:kL)(ao:Option Addr)(n cap:Nat)(hva:X.va=.slice ao n cap)(hi:k.ins.length=n)(ho:k.outs.length=n)(hn:n<=1000000)(hrl:∀ r:Nat,(k.ins[r]?.getD []).length<=1000000/\(k.outs[r]?.getD []).length<=1000000)(h:bZ w o C B X k) :
  Calls Tryz.prog 59 #[.pointer (some ⟨C,0,none⟩)] w (I9 w o C B X (mQ k.ins k.outs) k):=by
 obtain ⟨E,hE⟩:∃ E,mQ k.ins k.outs=E:=⟨_,rfl⟩;rw [hE];have HE:=af hE;have HI:=af hi;have HO:=af ho;have HN:=af hn;have Gp:=af hrl;have hbR:=au w (.cells #[.int .u8 0,.int .i64 0,.int .i64 0] 110);have HT0:=af ((Turn.of_below o 7 hbR).mono (D:=gm) (fun _ h=>h.elim));have hC0:=h.below 7 hbR;have q1:=hC0.cells.2.1;rw [hva] at q1;have mD:=af hC0;have vR:=af (qg w o 7);clear hE hva hi ho hn hrl h hbR hC0;go_enter Tryz.func59,Tryz.ntmps59;go_wp2_with fail;clear q1;obtain ⟨R,hR⟩:∃ R,w.heap.size=R:=⟨_,rfl⟩;have nV:=af hR;rw [hR] at vR HT0 mD ⊢;clear hR;generalize w.alloc (.cells #[.int .u8 0,.int .i64 0,.int .i64 0] 110)=W at *;generalize ext o R 7=q at *
 go_loopw [15] (fun i wr=>∃ j:Nat,j<=n/\i=.int .i64 j/\Below W.heap.size W wr/\Jh k.ins k.outs j) (fun i _=>n - (intOf i).toNat)
 case atStart=>exact ⟨0,Nat.zero_le _,rfl,Below.refl _ _,fun r hr=>absurd hr (by omega)⟩
 case round =>
  obtain ⟨j,hj,rfl,hb,hfull⟩:=hrel;have HB:=af hb;have HF:=af hfull;clear hb hfull
  by_cases hlt:j < n
  ·
   have bX:(j:Int) < n:=by omega
   have hC:=mD.out.below 9 HB.out;obtain ⟨gI,tZ⟩:=hC.ins;obtain ⟨gO,WI⟩:=hC.outs;obtain ⟨ia,ic,Fe⟩:=tZ.own.slice;obtain ⟨oa,oc,hOv⟩:=WI.own.slice;have y6:=hC.cells.2.2.2.2.2.2.1;have y7:=hC.cells.2.2.2.2.2.2.2;rw [Fe] at y6 tZ;rw [hOv] at y7 WI;obtain ⟨_,hci,g1,rfl,r1⟩:=tZ.row (a:=j) (by have:=HI.out;omega);obtain ⟨_,hco,g2,rfl,r2⟩:=WI.row (a:=j) (by have:=HO.out;omega);have b1:=tZ.rows j (by have:=HI.out;omega);have b2:=WI.rows j (by have:=HO.out;omega);obtain ⟨ri,WN⟩:∃ x,k.ins[j]?.getD []=x:=⟨_,rfl⟩;obtain ⟨ro,hro⟩:∃ x,k.outs[j]?.getD []=x:=⟨_,rfl⟩;have hbi:ri.length<=1000000:=WN ▸ (Gp.out j).1;have hbo:ro.length<=1000000:=hro ▸ (Gp.out j).2;rw [WN] at r1 b1;rw [hro] at r2 b2;generalize gI[j]?.getD 0=G1 at *;generalize gO[j]?.getD 0=G2 at *;have qE:=af WN;have sI:=af hro;have HB1:=af b1;have HB2:=af b2;have hIl:=HI.out;have hOl:=HO.out;rw [hIl] at y6 hci;rw [hOl] at y7 hco;have abv:(n:Int)<=ic:=by omega
   have acj:(n:Int)<=oc:=by omega
   clear hC tZ WI Fe hOv WN hro b1 b2 hIl hOl;go_wp2_with fail;refine aM (fun w'=>w'.cell? ⟨C,6,none⟩=some (.slice (some ⟨g1,0,none⟩) n ic)/\w'.cell? ⟨C,7,none⟩=some (.slice (some ⟨g2,0,none⟩) n oc)/\w'.cell? ⟨g1,j,none⟩=some (.slice (some ⟨G1,0,none⟩) ri.length ri.length)/\w'.cell? ⟨g2,j,none⟩=some (.slice (some ⟨G2,0,none⟩) ro.length ro.length)) [0,1,2,3,4,5,6,7,8,9,10,11,12,13,16] [14,15] (by kernel_rfl) (by kernel_rfl) rfl (fun _ _ hx h=>⟨hx.cell h.1,hx.cell h.2.1,hx.cell h.2.2.1,hx.cell h.2.2.2⟩) ⟨y6,y7,r1,r2⟩ ?_;intro Q' hQ';simp only [pk];refine aD ?_;refine ax ?_;have hbT:=au wr (.cells #[.slice (some ⟨G1,0,none⟩) ri.length ri.length,.slice (some ⟨G2,0,none⟩) ro.length ro.length] 183);have hT:=heap_alloc_new wr (.cells #[.slice (some ⟨G1,0,none⟩) ri.length ri.length,.slice (some ⟨G2,0,none⟩) ro.length ro.length] 183);have t0:=ah _ _ hT 0 _ rfl;have t1:=ah _ _ hT 1 _ rfl;have UF:=af (HB.out.trans (hbT.mono HB.out.size));have WO:=af (HB1.out.turn (Turn.of_below _ 9 hbT) (fun h=>h));have WQ:=af (HB2.out.turn (Turn.of_below _ 9 hbT) (fun h=>h));clear hbT hT y6 y7 r1 r2 HB1 HB2 HB;go_wp2_with fail;obtain ⟨W2,hW2⟩:∃ W2,(wr.alloc (.cells #[.slice (some ⟨G1,0,none⟩) ri.length ri.length,.slice (some ⟨G2,0,none⟩) ro.length ro.length] 183)).drew=W2:=⟨_,rfl⟩;have t0':W2.cell? ⟨wr.heap.size,0,none⟩=some (.slice (some ⟨G1,0,none⟩) ri.length ri.length):=by rw [<- hW2];exact t0
   have t1':W2.cell? ⟨wr.heap.size,1,none⟩=some (.slice (some ⟨G2,0,none⟩) ro.length ro.length):=by rw [<- hW2];exact t1
   have Ya:Hid (Below W.heap.size W W2):=af (by rw [<- hW2];exact cK (n:=1) UF.out);have HQ1:Hid (∀ m,m < ri.length->W2.cell? ⟨G1,m,none⟩=some (.bool (ri[m]?.getD false))):=af (fun m hm=>by rw [<- hW2];exact WO.out.cell m _ (Gm hm));have HQ2:Hid (∀ m,m < ro.length->W2.cell? ⟨G2,m,none⟩=some (.bool (ro[m]?.getD false))):=af (fun m hm=>by rw [<- hW2];exact WQ.out.cell m _ (Gm hm));rw [hW2];clear t0 t1 UF WO WQ hW2;generalize wr.heap.size=T at *
   go_loopw [34] (fun jv wq=>∃ m:Nat,m<=2/\jv=.int .i64 m/\wq=W2/\(1<=m->ri.all id=true)/\(2<=m->ro.all id=true)) (fun jv _=>2 - (intOf jv).toNat)
   case atStart=>exact ⟨0,by omega,rfl,rfl,fun h=>absurd h (by omega),fun h=>absurd h (by omega)⟩
   case round =>
    obtain ⟨m,hm,rfl,hw,hm1,hm2⟩:=hrel;subst hw;have HM1:=af hm1;have Yb:=af hm2;clear hm1 hm2
    by_cases h0:m=0
    ·
     subst h0;go_wp2_with fail
     go_loopw [40] (fun pv wq=>∃ p:Nat,p<=ri.length/\pv=.int .i64 p/\wq=wr/\∀ x,x < p->ri[x]?.getD false=true) (fun pv _=>ri.length - (intOf pv).toNat)
     case atStart=>exact ⟨0,Nat.zero_le _,rfl,rfl,fun x hx=>absurd hx (by omega)⟩
     case round =>
      obtain ⟨p,hp,rfl,hw2,hall⟩:=hrel;subst hw2;have Qj:=af hall;clear hall
      by_cases hpl:p < ri.length
      ·
       have hpi:(p:Int) < ri.length:=by omega
       have hq:=HQ1.out p hpl;obtain ⟨bb,hpf⟩:∃ bb,ri[p]?.getD false=bb:=⟨_,rfl⟩;rw [hpf] at hq;cases bb with
       | false =>
        have e:E=87:=by rw [<- HE.out];exact Qh (i:=j) (by have:=HI.out;omega) (by rw [qE.out];exact hpl) (by rw [qE.out];exact hpf)
        subst e;have aT:=Ya.out;have HR:=af (vR.out.turn (Turn.of_below q 9 aT) (fun h=>h));have HT:=af (HT0.out.trans ((Turn.of_below q 9 aT).mono (D:=gm) (fun _ h=>h.elim)) (fun _ h=>h));clear aT;have z0:=HR.out.cell 0 _ rfl;have z1:=HR.out.cell 1 _ rfl;have z2:=HR.out.cell 2 _ rfl;have f0:=HR.out.frozen 0;have f1:=HR.out.frozen 1;have f2:=HR.out.frozen 2;go_wp2;refine bodyPost_ret_by (aK rfl _ _ _ _ _ _ _ rfl (dn HR.out) Tryz.underlying110 rfl (by kernel_rfl)) rfl ?_;exact ⟨⟨_,_,_,rfl⟩,_,HT.out.late 7 (dF (by have:=nV.out;omega) _ _ _),fun h=>by cases h⟩
       | true =>
        have Qk:Hid (∀ x,x < p+1->ri[x]?.getD false=true):=af (fun x hx=>by
         by_cases e:x=p
         ·
          rw [e];exact hpf
         ·
          exact Qj.out x (by omega))
        clear hpf;go_wp2;go_roundw
        case rel=>exact ⟨p+1,hpl,by first | rfl | go_num,by first | rfl | trivial,Qk.out⟩
        case measure=>first | (simp [intOf];omega) | (rw [IntWalk.wrap64_in _ (by omega)];simp [intOf];omega)
      ·
       obtain rfl:p=ri.length:=by omega
       go_wp2;go_roundw
       case rel=>exact ⟨1,by omega,by first | rfl | go_num,by first | rfl | trivial,fun _=>Qi (Qj.out),fun h=>absurd h (by omega)⟩
       case measure=>simp [intOf]
    ·
     by_cases h1:m=1
     ·
      subst h1;go_wp2_with fail
      go_loopw [40] (fun pv wq=>∃ p:Nat,p<=ro.length/\pv=.int .i64 p/\wq=wr/\∀ x,x < p->ro[x]?.getD false=true) (fun pv _=>ro.length - (intOf pv).toNat)
      case atStart=>exact ⟨0,Nat.zero_le _,rfl,rfl,fun x hx=>absurd hx (by omega)⟩
      case round =>
       obtain ⟨p,hp,rfl,hw2,hall⟩:=hrel;subst hw2;have Qj:=af hall;clear hall
       by_cases hpl:p < ro.length
       ·
        have hpi:(p:Int) < ro.length:=by omega
        have hq:=HQ2.out p hpl;obtain ⟨bb,hpf⟩:∃ bb,ro[p]?.getD false=bb:=⟨_,rfl⟩;rw [hpf] at hq;cases bb with
        | false =>
         have e:E=87:=by rw [<- HE.out];exact MJ (i:=j) (by have:=HO.out;omega) (by rw [sI.out];exact hpl) (by rw [sI.out];exact hpf)
         subst e;have aT:=Ya.out;have HR:=af (vR.out.turn (Turn.of_below q 9 aT) (fun h=>h));have HT:=af (HT0.out.trans ((Turn.of_below q 9 aT).mono (D:=gm) (fun _ h=>h.elim)) (fun _ h=>h));clear aT;have z0:=HR.out.cell 0 _ rfl;have z1:=HR.out.cell 1 _ rfl;have z2:=HR.out.cell 2 _ rfl;have f0:=HR.out.frozen 0;have f1:=HR.out.frozen 1;have f2:=HR.out.frozen 2;go_wp2;refine bodyPost_ret_by (aK rfl _ _ _ _ _ _ _ rfl (dn HR.out) Tryz.underlying110 rfl (by kernel_rfl)) rfl ?_;exact ⟨⟨_,_,_,rfl⟩,_,HT.out.late 7 (dF (by have:=nV.out;omega) _ _ _),fun h=>by cases h⟩
        | true =>
         have Qk:Hid (∀ x,x < p+1->ro[x]?.getD false=true):=af (fun x hx=>by
          by_cases e:x=p
          ·
           rw [e];exact hpf
          ·
           exact Qj.out x (by omega))
         clear hpf;go_wp2;go_roundw
         case rel=>exact ⟨p+1,hpl,by first | rfl | go_num,by first | rfl | trivial,Qk.out⟩
         case measure=>first | (simp [intOf];omega) | (rw [IntWalk.wrap64_in _ (by omega)];simp [intOf];omega)
       ·
        obtain rfl:p=ro.length:=by omega
        go_wp2;go_roundw
        case rel=>exact ⟨2,by omega,by first | rfl | go_num,by first | rfl | trivial,fun _=>HM1.out (Nat.le_refl _),fun _=>Qi (Qj.out)⟩
        case measure=>simp [intOf]
     ·
      obtain rfl:m=2:=by omega
      have HFn:Hid (Jh k.ins k.outs (j+1)):=af (fun r hr=>by
       by_cases e:r=j
       ·
        subst e;rw [qE.out,sI.out];exact ⟨HM1.out (by omega),Yb.out (by omega)⟩
       ·
        exact HF.out r (by omega))
      have hnn:=HN.out;go_wp2;go_roundw
      case rel=>exact ⟨j+1,hlt,by go_num,Ya.out,HFn.out⟩
      case measure=>simp [intOf];omega
  ·
   obtain rfl:j=n:=by omega
   have e:E=0:=by rw [<- HE.out];exact Qg (HO.out.trans HI.out.symm) (HI.out.symm ▸ HF.out)
   subst e;have HR:=af (vR.out.turn (Turn.of_below q 9 HB.out) (fun h=>h));have HT:=af (HT0.out.trans ((Turn.of_below q 9 HB.out).mono (D:=gm) (fun _ h=>h.elim)) (fun _ h=>h));have KZ:=af (mD.out.below 9 HB.out);have z0:=HR.out.cell 0 _ rfl;have z1:=HR.out.cell 1 _ rfl;have z2:=HR.out.cell 2 _ rfl;have f0:=HR.out.frozen 0;have f1:=HR.out.frozen 1;have f2:=HR.out.frozen 2;go_wp2;refine bodyPost_ret_by (aK rfl _ _ _ _ _ _ _ rfl (dn HR.out) Tryz.underlying110 rfl (by kernel_rfl)) rfl ?_;exact ⟨⟨_,_,_,rfl⟩,_,HT.out.late 7 (dF (by have:=nV.out;omega) _ _ _),fun _=>KZ.out.spot HR.out _ _ _⟩
def wI (N:Nat):Col:=fun k=>if k < N then 0 else if k=N+2 then 2 else if k=N+3 then 1 else 7
def CJ (w:World)(s:ByteArray)(va ve vi vo:Value):World :=
 (((w.alloc (.cells #[.string s,va,ve,vi,vo] 26)).alloc (.cells #[.int .u8 0,.int .i64 0,.int .i64 0] 110)).alloc (.map #[] 0)).alloc (.cells #[.string s,va,ve,vi,vo,.map (some (w.heap.size+2)),.slice none 0 0,.slice none 0 0] 137)
theorem Ji (w:World)(s:ByteArray)(va ve vi vo:Value) :
  Kept w.heap.size (wI w.heap.size) w (CJ w s va ve vi vo)/\bZ (CJ w s va ve vi vo) (wI w.heap.size) (w.heap.size+3) (w.heap.size+2) ⟨s,va,ve,vi,vo,.slice none 0 0,.slice none 0 0⟩ j3 /\
  dZ (CJ w s va ve vi vo) (wI w.heap.size) 7 w.heap.size 26 #[.string s,va,ve,vi,vo]/\dZ (CJ w s va ve vi vo) (wI w.heap.size) 7 (w.heap.size+1) 110 #[.int .u8 0,.int .i64 0,.int .i64 0]:=by
 have h0:=heap_alloc_new w (.cells #[.string s,va,ve,vi,vo] 26);have h1:=heap_alloc_new (w.alloc (.cells #[.string s,va,ve,vi,vo] 26)) (.cells #[.int .u8 0,.int .i64 0,.int .i64 0] 110);have hm:=World.ownsMap_made (H:=Unit) ((w.alloc (.cells #[.string s,va,ve,vi,vo] 26)).alloc (.cells #[.int .u8 0,.int .i64 0,.int .i64 0] 110)) Tryz.prog 9 (plainElem Tryz.prog 3);have h3:=heap_alloc_new (((w.alloc (.cells #[.string s,va,ve,vi,vo] 26)).alloc (.cells #[.int .u8 0,.int .i64 0,.int .i64 0] 110)).alloc (.map #[] 0)) (.cells #[.string s,va,ve,vi,vo,.map (some (w.heap.size+2)),.slice none 0 0,.slice none 0 0] 137);simp only [World.size_alloc] at h1 hm h3;have hb:Below w.heap.size w (CJ w s va ve vi vo):=(((au w _).alloc (by simp) _).alloc (by simp;omega) _).alloc (by simp;omega) _;refine ⟨⟨hb,fun k hk=>by simp [wI,hk],hb.size⟩,⟨_,0,[],[],⟨h3,by simp [wI]⟩,hm.alloc _,by simp [wI],I8,Nat.zero_le _,Side.nil _ _ _ _,Side.nil _ _ _ _⟩,⟨aI (aI (aI h0 _) _) _,by simp [wI]⟩,⟨aI (aI h1 _) _,by simp [wI]⟩⟩
end Go.Proofs.YtepjkmnhmcjbkaaGreat
namespace Go.Proofs.YtepjkmnhmcjbkaaGreat
def gX (side:List (List Bool))(m:Nat):Prop:=∀ r:Nat,(side[r]?.getD []).length<=m
theorem CK (side:List (List Bool))(a p:Int):(lI side a p).length=side.length:=by simp [lI]
theorem vB {side:List (List Bool)}{m:Nat}(h:gX side m)(a p:Int):gX (lI side a p) m:=fun r=>by
 unfold lI
 by_cases e:a.toNat=r
 ·
  by_cases hr:r < side.length
  ·
   rw [e,List.getElem?_set_self hr,Option.getD_some,List.length_set];unfold wD;exact h _
  ·
   rw [List.getElem?_eq_none (by simpa using Nat.le_of_not_lt hr)];simp
 ·
  rw [List.getElem?_set_ne e];exact h r
theorem iZ (l:List jw):∀ c:kL,(iy c l).ins.length=c.ins.length/\(iy c l).outs.length=c.outs.length/\(iy c l).seen=c.seen:=by
 induction l with
 | nil=>intro c;exact ⟨rfl,rfl,rfl⟩
 | cons e r ih=>intro c;rw [show iy c (e :: r)=iy (yR c e) r from rfl,(ih _).1,(ih _).2.1,(ih _).2.2];simp [yR,CK]
theorem oP (l:List jw){m:Nat}:∀ c:kL,gX c.ins m->gX c.outs m->gX (iy c l).ins m/\gX (iy c l).outs m:=by
 induction l with
 | nil=>intro c h1 h2;exact ⟨h1,h2⟩
 | cons e r ih=>intro c h1 h2;exact ih _ (vB h1 _ _) (vB h2 _ _)
theorem jM (l:List fF):∀ side:List (List Bool),(aY side l).length=side.length:=by
 induction l with
 | nil=>intro s;rfl
 | cons p r ih=>intro s;rw [show aY s (p :: r)=aY (lI s p.aW p.port) r from rfl,ih,CK]
theorem iW (l:List fF){m:Nat}:∀ side:List (List Bool),gX side m->gX (aY side l) m:=by
 induction l with
 | nil=>intro s h;exact h
 | cons p r ih=>intro s h;exact ih _ (vB h _ _)
theorem ze {side:List (List Bool)}{m n:Nat}(h:gX side m)(hn:n<=m):gX (side ++ [List.replicate n false]) m:=fun r=>by
 by_cases hr:r < side.length
 ·
  rw [List.getElem?_append_left hr];exact h r
 ·
  by_cases e:r=side.length
  ·
   subst e;simp;exact hn
  ·
   rw [List.getElem?_eq_none (by simp;omega)];simp
theorem mZ (l:List fE):∀ c:kL,iq c l=0->gX c.ins 16->gX c.outs 16->gX (cO c l).ins 16/\gX (cO c l).outs 16:=by
 induction l with
 | nil=>intro c _ h1 h2;exact ⟨h1,h2⟩
 | cons a r ih =>
  intro c h h1 h2;unfold iq at h
  by_cases h0:nM c.seen a=0
  ·
   rw [if_neg (by simpa using h0)] at h;have hg:aC a.tag a.params:=by
    refine Decidable.byContradiction fun hn=>?_;unfold nM at h0
    split at h0
    ·
     rename_i hx;exact hx h0
    ·
     have h0:uG a.tag=0:=by first | exact h0 | (rw [if_neg hn] at h0;exact h0)
     unfold uG at h0
     split at h0 <;> cases h0
   have hl:=qh hg;exact ih _ h (ze h1 hl.1) (ze h2 hl.2)
  ·
   rw [if_pos h0] at h;exact absurd h h0
theorem jN (m:Nat):gX [] m:=fun r=>by simp
section
variable {P:Program} {md:Region.Mode} {ops:Array Oper} {Q:Exit->Go.Act->World->Prop} {S:World->Prop}
def Ql (md:Region.Mode)(ops:Array Oper)(r1:List Nat)(k m:Nat)(r2 M:List Nat):Bool :=
 Region.noSelect ops && ((r1 ++ r2).all fun i=>nH ops i || (List.range ops.size).all fun j=>jd ops j || (r1 ++ r2).contains j || M.contains j || gN md ops ops.size j i) &&
 fJ md ops (fun _=>true) r1 (Array.replicate ops.size false) && decide (Region.ready md ops (gF (Array.replicate ops.size false) r1)=[k,m]) &&
 fJ md ops (fun _=>true) r2 ((gF (Array.replicate ops.size false) r1).setIfInBounds k true) &&
 decide (Region.ready md ops ((gF (Array.replicate ops.size false) r1).setIfInBounds m true)=[k]) &&
 fJ md ops (fun _=>true) r2 (((gF (Array.replicate ops.size false) r1).setIfInBounds m true).setIfInBounds k true)
theorem lC {id:Nat}{l:List Oper}{a:Go.Act}{w:World}(S:World->Prop)(r1:List Nat)(k m:Nat)(r2 M:List Nat)(n:Nat)(hm:P.follows .mixedOrders=true)
  (hB:Ql .any l.toArray r1 k m r2 M=true) (hlen:r1.length+((r2.length+n)+1+1)=l.length) (hS:S w.drew)
  (h:∀ Q':Exit->Go.Act->World->Prop,(∀ a w,Q .normal a w->Q' .normal a w)->dX P l.toArray S (fun a' =>
   wpList P l.toArray (mW Q' fun a1 w1=>S w1/\dX P l.toArray S (fun a2=>eZ P .any l.toArray Q' S (oG l.toArray (r1 ++ r2) M) (n+1) (gF ((gF (Array.replicate l.length false) r1).setIfInBounds k true) r2) a2 w1) (aQ l.toArray r2) a1) (aQ l.toArray [k]) a' w.drew /\
   wpList P l.toArray (mW Q' fun a0 w0=>S w0/\wpList P l.toArray (mW Q' fun a1 w1=>S w1/\dX P l.toArray S (fun a2=>eZ P .any l.toArray Q' S (oG l.toArray (r1 ++ r2) M) n (gF (((gF (Array.replicate l.length false) r1).setIfInBounds m true).setIfInBounds k true) r2) a2 w1) (aQ l.toArray r2) a1) (aQ l.toArray [k]) a0 w0) (aQ l.toArray [m]) a' w.drew) (aQ l.toArray r1) a) :
  (Code.region id l.toArray true).wp P Q a w:=by
 refine wp_region_noPanic ?_;refine wp_region_any hm ?_;simp only [Ql,Bool.and_eq_true,List.all_eq_true,List.mem_range,Bool.or_eq_true,decide_eq_true_eq] at hB;obtain ⟨⟨⟨⟨⟨⟨hsel,hbe⟩,h1⟩,hk⟩,h2⟩,hkm⟩,h3⟩:=hB;refine kG (S:=S) (B:=oG l.toArray (r1 ++ r2) M) _ _ _ _ ?_;have ME:∀ i∈(r1 ++ r2),nH l.toArray i=false->∀ j,j < l.toArray.size->jd l.toArray j=true\/(r1 ++ r2).contains j=true\/M.contains j=true\/gN .any l.toArray l.toArray.size j i=true:=fun i hi hany j hj=>by
  rcases hbe i hi with h0 | h0
  ·
   rw [hany] at h0;cases h0
  rcases h0 j hj with ((h1 | h1) | h1) | h1
  ·
   exact .inl h1
  ·
   exact .inr (.inl h1)
  ·
   exact .inr (.inr (.inl h1))
  ·
   exact .inr (.inr (.inr h1))
 have hcl0:gH .any l.toArray (Array.replicate l.toArray.size false):=fun j oj _ hl=>by rw [getD_replicate_false] at hl;cases hl
 have UZ:=nW r1 _ hcl0 h1;have hkr:k∈Region.ready .any l.toArray (gF (Array.replicate l.toArray.size false) r1):=by rw [hk];simp
 have hmr:m∈Region.ready .any l.toArray (gF (Array.replicate l.toArray.size false) r1):=by rw [hk];simp
 have DW:=fK UZ hkr;have abw:=fK UZ hmr;have aaf:k∈Region.ready .any l.toArray ((gF (Array.replicate l.toArray.size false) r1).setIfInBounds m true):=by rw [hkm];simp
 have abx:=fK abw aaf;have hh:=h (NoPanic Q) (fun _ _ h=>NoPanic.normal h);have key:=gP (P:=P) (md:=.any) (Q:=NoPanic Q) (S:=S) (reads:=r1 ++ r2) (M:=M) (n:=(r2.length+n)+1+1) hsel (fun c a a' w h=>h) ME r1 (Array.replicate l.toArray.size false) a { w with drawn:=w.drawn+1 } (fun i hi=>by simp [hi]) hcl0 h1 hS;rw [hlen] at key;have hk':Region.ready .any l.toArray (gF (Array.replicate l.toArray.size false) r1)=[k,m]:=hk;have go:dX P l.toArray S (fun a'=>eZ P .any l.toArray (NoPanic Q) S (oG l.toArray (r1 ++ r2) M) (r2.length+n+1+1) (gF (Array.replicate l.toArray.size false) r1) a' { w with drawn:=w.drawn+1 }) (aQ l.toArray r1) a:=by
  refine qN (fun a' ha'=>?_) _ _ hh;refine ⟨fun h0=>(by rw [h0] at hk';cases hk'),fun j hj=>?_⟩;rw [hk'] at hj
  rcases List.mem_cons.1 hj with rfl | hj
  ·
   refine lX (eF hkr) (fun a1 w1 h1'=>?_) ha'.1;obtain ⟨hS1,hr2⟩:=h1';refine ⟨fun _ _=>hS1,?_⟩;have e:r2.length+n+1=r2.length+(n+1):=by omega
   rw [e];exact gP (P:=P) (md:=.any) (Q:=NoPanic Q) (S:=S) (reads:=r1 ++ r2) (M:=M) (n:=n+1) hsel (fun c a a' w h=>h) ME r2 _ a1 w1 (fun i hi=>by simp [hi]) DW h2 hS1 (by simpa using hr2)
  ·
   obtain rfl:j=m:=by simpa using hj
   refine lX (eF hmr) (fun a0 w0 h0'=>?_) ha'.2;obtain ⟨hS0,hkk⟩:=h0';refine ⟨fun _ _=>hS0,?_⟩;have Yc:Region.ready .any l.toArray ((gF (Array.replicate l.toArray.size false) r1).setIfInBounds j true)=[k]:=hkm;refine ⟨fun h0=>(by rw [h0] at Yc;cases Yc),fun i hi=>?_⟩;rw [Yc] at hi;obtain rfl:i=k:=by simpa using hi
   refine lX (eF aaf) (fun a1 w1 h1'=>?_) hkk;obtain ⟨hS1,hr2⟩:=h1';refine ⟨fun _ _=>hS1,?_⟩;exact gP (P:=P) (md:=.any) (Q:=NoPanic Q) (S:=S) (reads:=r1 ++ r2) (M:=M) (n:=n) hsel (fun c a a' w h=>h) ME r2 _ a1 w1 (fun i hi=>by simp [hi]) abx h3 hS1 (by simpa using hr2)
 have:=key go
 simpa using this
end
open Go.RowKit
def U7 (w:World)(E:Int)(e:Ending)(w':World):Prop:=zR E e/\Below w.heap.size w w'
structure mM (w wr:World) (q:Col) (s:ByteArray) (va ve vi vo:Value):Prop where
 kept:Kept w.heap.size q w wr
 gr:dZ wr q 7 w.heap.size 26 #[.string s,va,ve,vi,vo]
 sp:dZ wr q 7 (w.heap.size+1) 110 #[.int .u8 0,.int .i64 0,.int .i64 0]
theorem mM.turn {w wr wr':World}{q q':Col}{s:ByteArray}{va ve vi vo:Value}(h:mM w wr q s va ve vi vo)(T:Turn q q' gm wr wr'):mM w wr' q' s va ve vi vo :=
 ⟨h.kept.turn T (by unfold gm;omega),h.gr.turn T (by unfold gm;omega),h.sp.turn T (by unfold gm;omega)⟩
theorem mM.below {w wr wr':World}{q:Col}{s:ByteArray}{va ve vi vo:Value}(h:mM w wr q s va ve vi vo)(c:Nat)(hb:Below wr.heap.size wr wr'):mM w wr' (ext q wr.heap.size c) s va ve vi vo :=
 h.turn ((Turn.of_below q c hb).mono (fun _ h=>h.elim))
theorem mM.ret {w wr:World}{q:Col}{s:ByteArray}{va ve vi vo:Value}(h:mM w wr q s va ve vi vo)(a b c:Value):Below w.heap.size w (((wr.setCell ⟨w.heap.size+1,0,none⟩ a).setCell ⟨w.heap.size+1,1,none⟩ b).setCell ⟨w.heap.size+1,2,none⟩ c) :=
 ((h.kept.below.setCell (by simp) _).setCell (by simp) _).setCell (by simp) _
theorem jT {w:World}{o:Col}{R:Nat}{a b c:Int}(h:dZ w o 7 R 110 #[.int .u8 0,.int .i64 0,.int .i64 0]) :
 (((w.setCell ⟨R,0,none⟩ (.int .u8 a)).setCell ⟨R,1,none⟩ (.int .i64 b)).setCell ⟨R,2,none⟩ (.int .i64 c)).drew.heap[R]?=some (.cells #[.int .u8 a,.int .i64 b,.int .i64 c] 110 (0,0)):=dn h
theorem xQ (x:Nat)(h:jS x):gm x:=by unfold jS at h;unfold gm;omega
theorem mM.Qm {w wr wr':World}{q q':Col}{Cs:Nat->Prop}{s:ByteArray}{va ve vi vo:Value}(h:mM w wr q s va ve vi vo)(T:Turn q q' Cs wr wr')(h0:¬ Cs 0)(h7:¬ Cs 7):mM w wr' q' s va ve vi vo :=
 ⟨h.kept.turn T h0,h.gr.turn T h7,h.sp.turn T h7⟩
theorem bZ.xR {w w':World}{o o':Col}{Cs:Nat->Prop}{C B:Nat}{X:mK}{k:kL}(h:bZ w o C B X k)(T:Turn o o' Cs w w')(h1:¬ Cs 1):w'.cell? ⟨C,6,none⟩=some X.vI/\w'.cell? ⟨C,7,none⟩=some X.vO:=by
 obtain ⟨D,n,gI,gO,b,_⟩:=h.st;have b2:=b.turn T h1;exact ⟨b2.cell 6 _ rfl,b2.cell 7 _ rfl⟩
theorem xS {w:World}{o:Col}{L:Nat}{t:TypeId}{cs:Array Value}(h:dZ w o 8 L t cs)(a b c:Value):Turn o (ext o w.heap.size 8) (fun x=>x=8) w (((w.setCell ⟨L,0,none⟩ a).setCell ⟨L,1,none⟩ b).setCell ⟨L,2,none⟩ c) :=
 Turn.kT o 8 (CF w L a b c) (fun b _ e=>by subst e;exact h.2)
theorem xU {w:World}{o:Col}{R:Nat}{a b c:Int}(h:dZ w o 8 R 110 #[.int .u8 0,.int .i64 0,.int .i64 0]) :
  (((w.setCell ⟨R,0,none⟩ (.int .u8 a)).setCell ⟨R,1,none⟩ (.int .i64 b)).setCell ⟨R,2,none⟩ (.int .i64 c)).heap[R]?=some (.cells #[.int .u8 a,.int .i64 b,.int .i64 c] 110 (0,0)) :=
 block_setCell (block_setCell (block_setCell h.1 0 (.int .u8 a)) 1 (.int .i64 b)) 2 (.int .i64 c)
theorem AQ {g:av}(h1:lq g=0)(h2:iq j3 g.actors=0)(h3:jG (nP g) g.edges=0):jH g=if dJ (bE g).seen (bE g).ins g.ins≠0 then dJ (bE g).seen (bE g).ins g.ins
  else if dJ (bK (bE g).seen g.ins) (bE g).outs g.outs≠0 then dJ (bK (bE g).seen g.ins) (bE g).outs g.outs else mQ (aY (bE g).ins g.ins) (aY (bE g).outs g.outs):=by
 unfold jH;rw [h1,h2,h3];simp
theorem U8 {g:av}(h:lq g=0):g.actors.length<=32/\g.edges.length<=96/\g.ins.length<=16/\g.outs.length<=16:=by
 unfold lq at h
 split at h
 ·
  cases h
 split at h
 ·
  cases h
 split at h
 ·
  cases h
 split at h
 ·
  cases h
 split at h
 ·
  cases h
 split at h
 ·
  cases h
 omega
theorem Qn (g:av):(bE g).seen.length=g.actors.length:=by
 rw [bE,(iZ _ _).2.2,nP,wH];simp [j3]
theorem MK (w:World)(v:Value)(g:av)(h:dK w v g)(hs:g.name.size<=4611686018427387904)(hsa:∀ p∈g.actors,p.name.size<=4611686018427387904/\p.params.length<=17600000000000)(hsi:∀ p∈g.ins,p.name.size<=4611686018427387904)(hso:∀ p∈g.outs,p.name.size<=4611686018427387904) :
  Calls Tryz.prog 41 #[v] w (U7 w (jH g)):=by
 obtain ⟨va,ve,vi,vo,rfl,ra,re,ri,ro⟩:=h.shape;obtain ⟨a1,c1,rfl⟩:=ra.slice;obtain ⟨a2,c2,rfl⟩:=re.slice;obtain ⟨a3,c3,rfl⟩:=ri.slice;obtain ⟨a4,c4,rfl⟩:=ro.slice;obtain ⟨E,hE⟩:∃ E,jH g=E:=⟨_,rfl⟩;rw [hE];have HE:=af hE;have RA:=af ra;have RE:=af re;have RI:=af ri;have RO:=af ro;have HS:=af hs;have HSA:=af hsa;have AP:=af hsi;have U3:=af hso;have hmm:=@run_makeMap Tryz.prog;obtain ⟨k0,kc,kg,ks⟩:=Ji w g.name (.slice a1 g.actors.length c1) (.slice a2 g.edges.length c2) (.slice a3 g.ins.length c3) (.slice a4 g.outs.length c4);have HF0:=af (⟨k0,kg,ks⟩:mM _ _ _ _ _ _ _ _);have mD:=af kc;clear hE ra re ri ro hs hsa hsi hso k0 kc kg ks h;go_enter Tryz.func41,Tryz.ntmps41;go_wp2_with fail;clear hmm;unfold CJ at HF0 mD;refine (MH _ _ (w.heap.size+3) (w.heap.size+2) _ j3 a1 a2 a3 a4 _ _ _ _ c1 c2 c3 c4 rfl rfl rfl rfl HS.out mD.out).mono ?_;rintro e w1 ⟨⟨xa,xb,xc,rfl⟩,o1,T,U9⟩;rw [show uQ (mK.name ⟨g.name,.slice a1 g.actors.length c1,.slice a2 g.edges.length c2,.slice a3 g.ins.length c3,.slice a4 g.outs.length c4,.slice none 0 0,.slice none 0 0⟩) g.actors.length g.edges.length g.ins.length g.outs.length=lq g from rfl] at U9 ⊢;have KV:=af U9;have HF1:=af (HF0.out.turn T);have Yd:=af (HF1.out.below 7 (au _ (.cells #[.int .u8 xa,.int .i64 xb,.int .i64 xc] 110)));have hL:=heap_alloc_new w1 (.cells #[.int .u8 xa,.int .i64 xb,.int .i64 xc] 110);have l0:=ah _ _ hL 0 _ rfl;have l1:=ah _ _ hL 1 _ rfl;have l2:=ah _ _ hL 2 _ rfl;clear T U9 hL HF0 mD HF1;obtain ⟨ne,hne⟩:∃ x,lq g=x:=⟨_,rfl⟩;rw [hne] at KV ⊢;have u7:=af hne;clear hne
 by_cases h0:ne=0
 ·
  subst h0;have hok:=U8 u7.out;have BB:=af ((KV.out rfl).below 7 (au _ (.cells #[.int .u8 xa,.int .i64 xb,.int .i64 xc] 110)));clear KV l0 l1 l2;go_wp2_with fail;refine (Gj w _ _ (w.heap.size+3) (w.heap.size+2) _ j3 g.actors RA.out Yd.out.kept (by simp [j3];omega) (by simp [j3];omega) (by simp [j3];omega) HSA.out BB.out).mono ?_;rintro e w3 ⟨⟨xa,xb,xc,rfl⟩,o3,vI,vO,T,hC3⟩;have ZX:=af hC3;have BP:=af (Yd.out.turn T);have Qo:=af (BP.out.below 7 (au _ (.cells #[.int .u8 xa,.int .i64 xb,.int .i64 xc] 110)));have hL:=heap_alloc_new w3 (.cells #[.int .u8 xa,.int .i64 xb,.int .i64 xc] 110);have l0:=ah _ _ hL 0 _ rfl;have l1:=ah _ _ hL 1 _ rfl;have l2:=ah _ _ hL 2 _ rfl;clear T hC3 hL Yd BB BP;obtain ⟨ne,hne⟩:∃ x,iq j3 g.actors=x:=⟨_,rfl⟩;rw [hne] at ZX ⊢;have WR:=af hne;clear hne
  by_cases h0:ne=0
  ·
   subst h0;have KY:Hid (bZ _ _ (w.heap.size+3) (w.heap.size+2) _ (nP g)):=af ((ZX.out rfl).below 7 (au _ (.cells #[.int .u8 xa,.int .i64 xb,.int .i64 xc] 110)));clear ZX l0 l1 l2;go_wp2_with fail;refine (Jd w _ _ (w.heap.size+3) (w.heap.size+2) _ (nP g) g.edges RE.out Qo.out.kept (by omega) KY.out).mono ?_;rintro e w5 ⟨⟨xa,xb,xc,rfl⟩,o5,T,Sy⟩;have Fb:=af Sy;have HF5:=af (Qo.out.turn T);have WS:=af (HF5.out.below 7 (au _ (.cells #[.int .u8 xa,.int .i64 xb,.int .i64 xc] 110)));have hL:=heap_alloc_new w5 (.cells #[.int .u8 xa,.int .i64 xb,.int .i64 xc] 110);have l0:=ah _ _ hL 0 _ rfl;have l1:=ah _ _ hL 1 _ rfl;have l2:=ah _ _ hL 2 _ rfl;clear T Sy hL Qo KY HF5;obtain ⟨ne,hne⟩:∃ x,jG (nP g) g.edges=x:=⟨_,rfl⟩;rw [hne] at Fb ⊢;have Gq:=af hne;clear hne
   by_cases h0:ne=0
   ·
    subst h0;have wG:Hid (bZ _ _ (w.heap.size+3) (w.heap.size+2) ⟨g.name,.slice a1 g.actors.length c1,.slice a2 g.edges.length c2,.slice a3 g.ins.length c3,.slice a4 g.outs.length c4,vI,vO⟩ (bE g)):=af ((Fb.out rfl).below 7 (au _ (.cells #[.int .u8 xa,.int .i64 xb,.int .i64 xc] 110)));have y3:=WS.out.gr.cell 3 _ rfl;have y6:=wG.out.cells.2.2.2.2.2.2.1;clear Fb l0 l1 l2;go_wp2_with fail;generalize w5.alloc (.cells #[.int .u8 xa,.int .i64 xb,.int .i64 xc] 110)=V at *;generalize ext o5 w5.heap.size 7=q6 at *;have hlp:(bE g).seen.length+g.ins.length<=1000000:=by have:=Qn g;omega
    refine lC (fun w'=>w'.cell? ⟨w.heap.size,3,none⟩=some (.slice a3 g.ins.length c3)/\w'.cell? ⟨w.heap.size+3,6,none⟩=some vI) [0,1,2,3,4,5,6] 7 11 [8,9,10] [7] 2 (by kernel_rfl) (by kernel_rfl) rfl ⟨y3,y6⟩ ?_;intro Q' hQ';simp only [pk];refine aD ?_;refine ax ?_;refine ⟨?_,?_⟩
    ·
     go_wp2_with fail;refine (CG w _ _ (w.heap.size+3) (w.heap.size+2) ⟨g.name,.slice a1 g.actors.length c1,.slice a2 g.edges.length c2,.slice a3 g.ins.length c3,.slice a4 g.outs.length c4,vI,vO⟩ (bE g) _ g.ins 3 2 RI.out (WS.out.kept.drewN 1) hlp AP.out (wG.out.drewN 1)).mono ?_;rintro e w7 ⟨⟨xa,xb,xc,rfl⟩,o7,T,Gr⟩;have T7:=((Turn.refl _ jS _).drewN 1).trans T (fun _ h=>h);have AR:=af (WS.out.turn (T7.mono xQ));have oJ:=af Gr;have s3:=AR.out.gr.cell 3 _ rfl;have s6:=(wG.out.xR T7 (by unfold jS;omega)).1;clear T T7 Gr WS wG y3 y6;go_wp2;refine ⟨⟨s3,s6⟩,?_⟩;refine aD ?_;refine ax ?_;refine aJ (ks:=[11,12,13]) (fun _ _ hx h=>⟨hx.cell h.1,hx.cell h.2⟩) (by kernel_rfl) ?_;simp only [pk];have uI:=af (AR.out.below 8 (au _ (.cells #[.int .u8 xa,.int .i64 xb,.int .i64 xc] 110)));have hL:=heap_alloc_new w7 (.cells #[.int .u8 xa,.int .i64 xb,.int .i64 xc] 110);have l0:=ah _ _ hL 0 _ rfl;have l1:=ah _ _ hL 1 _ rfl;have l2:=ah _ _ hL 2 _ rfl;clear hL AR s3 s6;obtain ⟨ne,hne⟩:∃ x,dJ (bE g).seen (bE g).ins g.ins=x:=⟨_,rfl⟩;rw [hne] at oJ ⊢;have AU:=af (HE.out.symm.trans (AQ u7.out WR.out Gq.out)).symm;rw [hne] at AU;clear hne
     by_cases h0:ne=0
     ·
      subst h0;rw [if_neg (by simp)] at AU;have xq:=af ((oJ.out rfl).below 8 (au _ (.cells #[.int .u8 xa,.int .i64 xb,.int .i64 xc] 110)));clear oJ l0 l1 l2;go_wp2_with fail;generalize w7.alloc (.cells #[.int .u8 xa,.int .i64 xb,.int .i64 xc] 110)=W8 at *;generalize ext o7 w7.heap.size 8=q8 at *;have y4:=uI.out.gr.cell 4 _ rfl;have y7:=xq.out.cells.2.2.2.2.2.2.2;have hlq:(bK (bE g).seen g.ins).length+g.outs.length<=1000000:=by have:=Qn g;simp [bK];omega
      refine lC (fun w'=>w'.cell? ⟨w.heap.size,4,none⟩=some (.slice a4 g.outs.length c4)/\w'.cell? ⟨w.heap.size+3,7,none⟩=some vO) [0,1,2,3,4,5,6] 7 11 [8,9,10] [7] 2 (by kernel_rfl) (by kernel_rfl) rfl ⟨y4,y7⟩ ?_;intro Q' hQ';simp only [pk];refine aD ?_;refine ax ?_;refine ⟨?_,?_⟩
      ·
       go_wp2_with fail;refine (qQ w _ _ (w.heap.size+3) (w.heap.size+2) ⟨g.name,.slice a1 g.actors.length c1,.slice a2 g.edges.length c2,.slice a3 g.ins.length c3,.slice a4 g.outs.length c4,vI,vO⟩ ⟨bK (bE g).seen g.ins,aY (bE g).ins g.ins,(bE g).outs⟩ _ g.outs 4 1 RO.out (uI.out.kept.drewN 1) hlq U3.out (xq.out.drewN 1)).mono ?_;rintro e w7 ⟨⟨xa,xb,xc,rfl⟩,o7,T,Gr⟩;have T7:=((Turn.refl _ jS _).drewN 1).trans T (fun _ h=>h);have AR:=af (uI.out.turn (T7.mono xQ));have oJ:=af Gr;have s3:=AR.out.gr.cell 4 _ rfl;have s6:=(xq.out.xR T7 (by unfold jS;omega)).2;clear T T7 Gr uI xq y4 y7;go_wp2;refine ⟨⟨s3,s6⟩,?_⟩;refine aD ?_;refine ax ?_;refine aJ (ks:=[11,12,13]) (fun _ _ hx h=>⟨hx.cell h.1,hx.cell h.2⟩) (by kernel_rfl) ?_;simp only [pk];have uI:=af (AR.out.below 8 (au _ (.cells #[.int .u8 xa,.int .i64 xb,.int .i64 xc] 110)));have hL:=heap_alloc_new w7 (.cells #[.int .u8 xa,.int .i64 xb,.int .i64 xc] 110);have l0:=ah _ _ hL 0 _ rfl;have l1:=ah _ _ hL 1 _ rfl;have l2:=ah _ _ hL 2 _ rfl;clear hL AR s3 s6;obtain ⟨ne,hne⟩:∃ x,dJ (bK (bE g).seen g.ins) (bE g).outs g.outs=x:=⟨_,rfl⟩;rw [show dJ (kL.seen ⟨bK (bE g).seen g.ins,aY (bE g).ins g.ins,(bE g).outs⟩) (kL.outs ⟨bK (bE g).seen g.ins,aY (bE g).ins g.ins,(bE g).outs⟩) g.outs=ne from hne] at oJ ⊢;rw [hne] at AU;clear hne
       by_cases h0:ne=0
       ·
        subst h0;have xq:=af ((oJ.out rfl).below 8 (au _ (.cells #[.int .u8 xa,.int .i64 xb,.int .i64 xc] 110)));clear oJ l0 l1 l2;go_wp2_with fail;generalize w7.alloc (.cells #[.int .u8 xa,.int .i64 xb,.int .i64 xc] 110)=W8 at *;generalize ext o7 w7.heap.size 8=q8 at *;rw [if_neg (by simp)] at AU;have BQ:=mZ g.actors j3 WR.out (jN 16) (jN 16);have Jj:=oP g.edges (m:=16) (nP g) BQ.1 BQ.2;have Fx:gX (aY (bE g).ins g.ins) 16:=iW _ _ Jj.1;have hR2:gX (aY (bE g).outs g.outs) 16:=iW _ _ Jj.2;have hl1:(aY (bE g).ins g.ins).length=g.actors.length:=by rw [jM,bE,(iZ _ _).1,nP,(gB _ _).1];simp [j3]
        have hl2:(aY (bE g).outs g.outs).length=g.actors.length:=by rw [jM,bE,(iZ _ _).2.1,nP,(gB _ _).2];simp [j3]
        refine (uf _ _ (w.heap.size+3) (w.heap.size+2) _ _ a1 g.actors.length c1 rfl hl1 hl2 (by omega) (fun r=>⟨Nat.le_trans (Fx r) (by omega),Nat.le_trans (hR2 r) (by omega)⟩) xq.out).mono ?_;rintro e w11 ⟨⟨xa,xb,xc,rfl⟩,o11,T,_⟩;have AV:=af (uI.out.turn T);have bM:=af AV.out.sp;have e:E=mQ (aY (bE g).ins g.ins) (aY (bE g).outs g.outs):=AU.out.symm;clear T BQ Jj Fx hR2 hl1 hl2;subst e;have z0:=bM.out.cell 0 _ rfl;have z1:=bM.out.cell 1 _ rfl;have z2:=bM.out.cell 2 _ rfl;have f0:=bM.out.frozen 0;have f1:=bM.out.frozen 1;have f2:=bM.out.frozen 2;go_wp2;refine bodyPost_ret_by (aK rfl _ _ _ _ _ _ _ rfl (dn bM.out) Tryz.underlying110 rfl (by kernel_rfl)) rfl ?_;exact ⟨⟨_,_,_,rfl⟩,AV.out.ret _ _ _⟩
       ·
        have e:E=ne:=by rw [<- AU.out,if_pos h0]
        subst e;go_wp2_with fail;refine aM (fun w'=>w'.cell? ⟨w7.heap.size,0,none⟩=some (.int .u8 xa)/\w'.cell? ⟨w7.heap.size,1,none⟩=some (.int .i64 xb)/\w'.cell? ⟨w7.heap.size,2,none⟩=some (.int .i64 xc)) [0,1,2] [3] (by kernel_rfl) (by kernel_rfl) rfl (fun _ _ hx h=>⟨hx.cell h.1,hx.cell h.2.1,hx.cell h.2.2⟩) ⟨l0,l1,l2⟩ ?_;intro Q' hQ';simp only [pk];refine aD ?_;refine ax ?_;have bM:=af uI.out.sp;have z0:=bM.out.cell 0 _ rfl;have z1:=bM.out.cell 1 _ rfl;have z2:=bM.out.cell 2 _ rfl;have f0:=bM.out.frozen 0;have f1:=bM.out.frozen 1;have f2:=bM.out.frozen 2;go_wp2;refine bodyPost_ret_by (aK rfl _ _ _ _ _ _ _ rfl (jT bM.out) Tryz.underlying110 rfl (by kernel_rfl)) rfl ?_;exact ⟨⟨_,_,_,rfl⟩,cK (n:=1) (uI.out.ret _ _ _)⟩
      ·
       go_wp2;have hbL:=au W8 (.cells #[.int .u8 0,.int .i64 0,.int .i64 0] 110);have Qp:=af (uI.out.below 8 hbL);have Qq:=af (xq.out.below 8 hbL);have WT:Hid (dZ (W8.alloc (.cells #[.int .u8 0,.int .i64 0,.int .i64 0] 110)) (ext q8 W8.heap.size 8) 8 W8.heap.size 110 #[.int .u8 0,.int .i64 0,.int .i64 0]):=af ⟨heap_alloc_new _ _,dI (Nat.le_refl _)⟩;refine ⟨⟨ca y4,ca y7⟩,?_⟩;clear hbL uI xq y4 y7;go_wp2_with fail;refine (qQ w _ _ (w.heap.size+3) (w.heap.size+2) ⟨g.name,.slice a1 g.actors.length c1,.slice a2 g.edges.length c2,.slice a3 g.ins.length c3,.slice a4 g.outs.length c4,vI,vO⟩ ⟨bK (bE g).seen g.ins,aY (bE g).ins g.ins,(bE g).outs⟩ _ g.outs 4 1 RO.out (Qp.out.kept.drewN 1) hlq U3.out (Qq.out.drewN 1)).mono ?_;rintro e w7 ⟨⟨xa,xb,xc,rfl⟩,o7,T,Gr⟩;have T7:=((Turn.refl _ jS _).drewN 1).trans T (fun _ h=>h);have AR:=af (Qp.out.turn (T7.mono xQ));have oJ:=af Gr;have wJ:=af (WT.out.turn T7 (by unfold jS;omega));have s3:=AR.out.gr.cell 4 _ rfl;have s6:=(Qq.out.xR T7 (by unfold jS;omega)).2;clear T T7 Gr Qp Qq WT;go_wp2;refine ⟨⟨s3,s6⟩,?_⟩;refine aD ?_;refine ax ?_;refine aJ (ks:=[12,13]) (fun _ _ hx h=>⟨hx.cell h.1,hx.cell h.2⟩) (by kernel_rfl) ?_;simp only [pk];generalize W8.heap.size=L at *;have TS:=xS wJ.out (.int .u8 xa) (.int .i64 xb) (.int .i64 xc);have uI:=af (AR.out.Qm TS (by decide) (by decide));have hL:=xU (a:=xa) (b:=xb) (c:=xc) wJ.out;have l0:=ah _ _ hL 0 _ rfl;have l1:=ah _ _ hL 1 _ rfl;have l2:=ah _ _ hL 2 _ rfl;have k0:=wJ.out.cell 0 _ rfl;have k1:=wJ.out.cell 1 _ rfl;have k2:=wJ.out.cell 2 _ rfl;have kf0:=wJ.out.frozen 0;have kf1:=wJ.out.frozen 1;have Zi:=wJ.out.frozen 2;have Ou:=af TS;clear hL AR s3 s6 TS;obtain ⟨ne,hne⟩:∃ x,dJ (bK (bE g).seen g.ins) (bE g).outs g.outs=x:=⟨_,rfl⟩;rw [show dJ (kL.seen ⟨bK (bE g).seen g.ins,aY (bE g).ins g.ins,(bE g).outs⟩) (kL.outs ⟨bK (bE g).seen g.ins,aY (bE g).ins g.ins,(bE g).outs⟩) g.outs=ne from hne] at oJ ⊢;rw [hne] at AU;clear hne
       by_cases h0:ne=0
       ·
        subst h0;have xq:=af ((oJ.out rfl).turn Ou.out (fun x hx e=>by subst e;unfold gm at hx;omega));clear oJ l0 l1 l2 Ou wJ;go_wp2_with fail;clear k0 k1 k2 kf0 kf1 Zi;generalize ((w7.setCell ⟨L,0,none⟩ (.int .u8 xa)).setCell ⟨L,1,none⟩ (.int .i64 xb)).setCell ⟨L,2,none⟩ (.int .i64 xc)=W8 at *;generalize ext o7 w7.heap.size 8=q8 at *;rw [if_neg (by simp)] at AU;have BQ:=mZ g.actors j3 WR.out (jN 16) (jN 16);have Jj:=oP g.edges (m:=16) (nP g) BQ.1 BQ.2;have Fx:gX (aY (bE g).ins g.ins) 16:=iW _ _ Jj.1;have hR2:gX (aY (bE g).outs g.outs) 16:=iW _ _ Jj.2;have hl1:(aY (bE g).ins g.ins).length=g.actors.length:=by rw [jM,bE,(iZ _ _).1,nP,(gB _ _).1];simp [j3]
        have hl2:(aY (bE g).outs g.outs).length=g.actors.length:=by rw [jM,bE,(iZ _ _).2.1,nP,(gB _ _).2];simp [j3]
        refine (uf _ _ (w.heap.size+3) (w.heap.size+2) _ _ a1 g.actors.length c1 rfl hl1 hl2 (by omega) (fun r=>⟨Nat.le_trans (Fx r) (by omega),Nat.le_trans (hR2 r) (by omega)⟩) xq.out).mono ?_;rintro e w11 ⟨⟨xa,xb,xc,rfl⟩,o11,T,_⟩;have AV:=af (uI.out.turn T);have bM:=af AV.out.sp;have e:E=mQ (aY (bE g).ins g.ins) (aY (bE g).outs g.outs):=AU.out.symm;clear T BQ Jj Fx hR2 hl1 hl2;subst e;have z0:=bM.out.cell 0 _ rfl;have z1:=bM.out.cell 1 _ rfl;have z2:=bM.out.cell 2 _ rfl;have f0:=bM.out.frozen 0;have f1:=bM.out.frozen 1;have f2:=bM.out.frozen 2;go_wp2;refine bodyPost_ret_by (aK rfl _ _ _ _ _ _ _ rfl (dn bM.out) Tryz.underlying110 rfl (by kernel_rfl)) rfl ?_;exact ⟨⟨_,_,_,rfl⟩,AV.out.ret _ _ _⟩
       ·
        have e:E=ne:=by rw [<- AU.out,if_pos h0]
        subst e;go_wp2_with fail;refine aM (fun w'=>w'.cell? ⟨L,0,none⟩=some (.int .u8 xa)/\w'.cell? ⟨L,1,none⟩=some (.int .i64 xb)/\w'.cell? ⟨L,2,none⟩=some (.int .i64 xc)) [0,1,2] [3] (by kernel_rfl) (by kernel_rfl) rfl (fun _ _ hx h=>⟨hx.cell h.1,hx.cell h.2.1,hx.cell h.2.2⟩) ⟨l0,l1,l2⟩ ?_;intro Q' hQ';simp only [pk];refine aD ?_;refine ax ?_;have bM:=af uI.out.sp;have z0:=bM.out.cell 0 _ rfl;have z1:=bM.out.cell 1 _ rfl;have z2:=bM.out.cell 2 _ rfl;have f0:=bM.out.frozen 0;have f1:=bM.out.frozen 1;have f2:=bM.out.frozen 2;go_wp2;refine bodyPost_ret_by (aK rfl _ _ _ _ _ _ _ rfl (jT bM.out) Tryz.underlying110 rfl (by kernel_rfl)) rfl ?_;exact ⟨⟨_,_,_,rfl⟩,cK (n:=1) (uI.out.ret _ _ _)⟩
     ·
      have e:E=ne:=by rw [<- AU.out,if_pos h0]
      subst e;go_wp2_with fail;refine aM (fun w'=>w'.cell? ⟨w7.heap.size,0,none⟩=some (.int .u8 xa)/\w'.cell? ⟨w7.heap.size,1,none⟩=some (.int .i64 xb)/\w'.cell? ⟨w7.heap.size,2,none⟩=some (.int .i64 xc)) [0,1,2] [3] (by kernel_rfl) (by kernel_rfl) rfl (fun _ _ hx h=>⟨hx.cell h.1,hx.cell h.2.1,hx.cell h.2.2⟩) ⟨l0,l1,l2⟩ ?_;intro Q' hQ';simp only [pk];refine aD ?_;refine ax ?_;have bM:=af uI.out.sp;have z0:=bM.out.cell 0 _ rfl;have z1:=bM.out.cell 1 _ rfl;have z2:=bM.out.cell 2 _ rfl;have f0:=bM.out.frozen 0;have f1:=bM.out.frozen 1;have f2:=bM.out.frozen 2;go_wp2;refine bodyPost_ret_by (aK rfl _ _ _ _ _ _ _ rfl (jT bM.out) Tryz.underlying110 rfl (by kernel_rfl)) rfl ?_;exact ⟨⟨_,_,_,rfl⟩,cK (n:=1) (uI.out.ret _ _ _)⟩
    ·
     go_wp2;have hbL:=au V (.cells #[.int .u8 0,.int .i64 0,.int .i64 0] 110);have Qp:=af (WS.out.below 8 hbL);have Qq:=af (wG.out.below 8 hbL);have WT:Hid (dZ (V.alloc (.cells #[.int .u8 0,.int .i64 0,.int .i64 0] 110)) (ext q6 V.heap.size 8) 8 V.heap.size 110 #[.int .u8 0,.int .i64 0,.int .i64 0]):=af ⟨heap_alloc_new _ _,dI (Nat.le_refl _)⟩;refine ⟨⟨ca y3,ca y6⟩,?_⟩;clear hbL WS wG y3 y6;go_wp2_with fail;refine (CG w _ _ (w.heap.size+3) (w.heap.size+2) ⟨g.name,.slice a1 g.actors.length c1,.slice a2 g.edges.length c2,.slice a3 g.ins.length c3,.slice a4 g.outs.length c4,vI,vO⟩ (bE g) _ g.ins 3 2 RI.out (Qp.out.kept.drewN 1) hlp AP.out (Qq.out.drewN 1)).mono ?_;rintro e w7 ⟨⟨xa,xb,xc,rfl⟩,o7,T,Gr⟩;have T7:=((Turn.refl _ jS _).drewN 1).trans T (fun _ h=>h);have AR:=af (Qp.out.turn (T7.mono xQ));have oJ:=af Gr;have wJ:=af (WT.out.turn T7 (by unfold jS;omega));have s3:=AR.out.gr.cell 3 _ rfl;have s6:=(Qq.out.xR T7 (by unfold jS;omega)).1;clear T T7 Gr Qp Qq WT;go_wp2;refine ⟨⟨s3,s6⟩,?_⟩;refine aD ?_;refine ax ?_;refine aJ (ks:=[12,13]) (fun _ _ hx h=>⟨hx.cell h.1,hx.cell h.2⟩) (by kernel_rfl) ?_;simp only [pk];generalize V.heap.size=L at *;have TS:=xS wJ.out (.int .u8 xa) (.int .i64 xb) (.int .i64 xc);have uI:=af (AR.out.Qm TS (by decide) (by decide));have hL:=xU (a:=xa) (b:=xb) (c:=xc) wJ.out;have l0:=ah _ _ hL 0 _ rfl;have l1:=ah _ _ hL 1 _ rfl;have l2:=ah _ _ hL 2 _ rfl;have k0:=wJ.out.cell 0 _ rfl;have k1:=wJ.out.cell 1 _ rfl;have k2:=wJ.out.cell 2 _ rfl;have kf0:=wJ.out.frozen 0;have kf1:=wJ.out.frozen 1;have Zi:=wJ.out.frozen 2;have Ou:=af TS;clear hL AR s3 s6 TS;obtain ⟨ne,hne⟩:∃ x,dJ (bE g).seen (bE g).ins g.ins=x:=⟨_,rfl⟩;rw [hne] at oJ ⊢;have AU:=af (HE.out.symm.trans (AQ u7.out WR.out Gq.out)).symm;rw [hne] at AU;clear hne
     by_cases h0:ne=0
     ·
      subst h0;rw [if_neg (by simp)] at AU;have xq:=af ((oJ.out rfl).turn Ou.out (fun x hx e=>by subst e;unfold gm at hx;omega));clear oJ l0 l1 l2 Ou wJ;go_wp2_with fail;clear k0 k1 k2 kf0 kf1 Zi;generalize ((w7.setCell ⟨L,0,none⟩ (.int .u8 xa)).setCell ⟨L,1,none⟩ (.int .i64 xb)).setCell ⟨L,2,none⟩ (.int .i64 xc)=W8 at *;generalize ext o7 w7.heap.size 8=q8 at *;have y4:=uI.out.gr.cell 4 _ rfl;have y7:=xq.out.cells.2.2.2.2.2.2.2;have hlq:(bK (bE g).seen g.ins).length+g.outs.length<=1000000:=by have:=Qn g;simp [bK];omega
      refine lC (fun w'=>w'.cell? ⟨w.heap.size,4,none⟩=some (.slice a4 g.outs.length c4)/\w'.cell? ⟨w.heap.size+3,7,none⟩=some vO) [0,1,2,3,4,5,6] 7 11 [8,9,10] [7] 2 (by kernel_rfl) (by kernel_rfl) rfl ⟨y4,y7⟩ ?_;intro Q' hQ';simp only [pk];refine aD ?_;refine ax ?_;refine ⟨?_,?_⟩
      ·
       go_wp2_with fail;refine (qQ w _ _ (w.heap.size+3) (w.heap.size+2) ⟨g.name,.slice a1 g.actors.length c1,.slice a2 g.edges.length c2,.slice a3 g.ins.length c3,.slice a4 g.outs.length c4,vI,vO⟩ ⟨bK (bE g).seen g.ins,aY (bE g).ins g.ins,(bE g).outs⟩ _ g.outs 4 1 RO.out (uI.out.kept.drewN 1) hlq U3.out (xq.out.drewN 1)).mono ?_;rintro e w7 ⟨⟨xa,xb,xc,rfl⟩,o7,T,Gr⟩;have T7:=((Turn.refl _ jS _).drewN 1).trans T (fun _ h=>h);have AR:=af (uI.out.turn (T7.mono xQ));have oJ:=af Gr;have s3:=AR.out.gr.cell 4 _ rfl;have s6:=(xq.out.xR T7 (by unfold jS;omega)).2;clear T T7 Gr uI xq y4 y7;go_wp2;refine ⟨⟨s3,s6⟩,?_⟩;refine aD ?_;refine ax ?_;refine aJ (ks:=[11,12,13]) (fun _ _ hx h=>⟨hx.cell h.1,hx.cell h.2⟩) (by kernel_rfl) ?_;simp only [pk];have uI:=af (AR.out.below 8 (au _ (.cells #[.int .u8 xa,.int .i64 xb,.int .i64 xc] 110)));have hL:=heap_alloc_new w7 (.cells #[.int .u8 xa,.int .i64 xb,.int .i64 xc] 110);have l0:=ah _ _ hL 0 _ rfl;have l1:=ah _ _ hL 1 _ rfl;have l2:=ah _ _ hL 2 _ rfl;clear hL AR s3 s6;obtain ⟨ne,hne⟩:∃ x,dJ (bK (bE g).seen g.ins) (bE g).outs g.outs=x:=⟨_,rfl⟩;rw [show dJ (kL.seen ⟨bK (bE g).seen g.ins,aY (bE g).ins g.ins,(bE g).outs⟩) (kL.outs ⟨bK (bE g).seen g.ins,aY (bE g).ins g.ins,(bE g).outs⟩) g.outs=ne from hne] at oJ ⊢;rw [hne] at AU;clear hne
       by_cases h0:ne=0
       ·
        subst h0;have xq:=af ((oJ.out rfl).below 8 (au _ (.cells #[.int .u8 xa,.int .i64 xb,.int .i64 xc] 110)));clear oJ l0 l1 l2;go_wp2_with fail;generalize w7.alloc (.cells #[.int .u8 xa,.int .i64 xb,.int .i64 xc] 110)=W8 at *;generalize ext o7 w7.heap.size 8=q8 at *;rw [if_neg (by simp)] at AU;have BQ:=mZ g.actors j3 WR.out (jN 16) (jN 16);have Jj:=oP g.edges (m:=16) (nP g) BQ.1 BQ.2;have Fx:gX (aY (bE g).ins g.ins) 16:=iW _ _ Jj.1;have hR2:gX (aY (bE g).outs g.outs) 16:=iW _ _ Jj.2;have hl1:(aY (bE g).ins g.ins).length=g.actors.length:=by rw [jM,bE,(iZ _ _).1,nP,(gB _ _).1];simp [j3]
        have hl2:(aY (bE g).outs g.outs).length=g.actors.length:=by rw [jM,bE,(iZ _ _).2.1,nP,(gB _ _).2];simp [j3]
        refine (uf _ _ (w.heap.size+3) (w.heap.size+2) _ _ a1 g.actors.length c1 rfl hl1 hl2 (by omega) (fun r=>⟨Nat.le_trans (Fx r) (by omega),Nat.le_trans (hR2 r) (by omega)⟩) xq.out).mono ?_;rintro e w11 ⟨⟨xa,xb,xc,rfl⟩,o11,T,_⟩;have AV:=af (uI.out.turn T);have bM:=af AV.out.sp;have e:E=mQ (aY (bE g).ins g.ins) (aY (bE g).outs g.outs):=AU.out.symm;clear T BQ Jj Fx hR2 hl1 hl2;subst e;have z0:=bM.out.cell 0 _ rfl;have z1:=bM.out.cell 1 _ rfl;have z2:=bM.out.cell 2 _ rfl;have f0:=bM.out.frozen 0;have f1:=bM.out.frozen 1;have f2:=bM.out.frozen 2;go_wp2;refine bodyPost_ret_by (aK rfl _ _ _ _ _ _ _ rfl (dn bM.out) Tryz.underlying110 rfl (by kernel_rfl)) rfl ?_;exact ⟨⟨_,_,_,rfl⟩,AV.out.ret _ _ _⟩
       ·
        have e:E=ne:=by rw [<- AU.out,if_pos h0]
        subst e;go_wp2_with fail;refine aM (fun w'=>w'.cell? ⟨w7.heap.size,0,none⟩=some (.int .u8 xa)/\w'.cell? ⟨w7.heap.size,1,none⟩=some (.int .i64 xb)/\w'.cell? ⟨w7.heap.size,2,none⟩=some (.int .i64 xc)) [0,1,2] [3] (by kernel_rfl) (by kernel_rfl) rfl (fun _ _ hx h=>⟨hx.cell h.1,hx.cell h.2.1,hx.cell h.2.2⟩) ⟨l0,l1,l2⟩ ?_;intro Q' hQ';simp only [pk];refine aD ?_;refine ax ?_;have bM:=af uI.out.sp;have z0:=bM.out.cell 0 _ rfl;have z1:=bM.out.cell 1 _ rfl;have z2:=bM.out.cell 2 _ rfl;have f0:=bM.out.frozen 0;have f1:=bM.out.frozen 1;have f2:=bM.out.frozen 2;go_wp2;refine bodyPost_ret_by (aK rfl _ _ _ _ _ _ _ rfl (jT bM.out) Tryz.underlying110 rfl (by kernel_rfl)) rfl ?_;exact ⟨⟨_,_,_,rfl⟩,cK (n:=1) (uI.out.ret _ _ _)⟩
      ·
       go_wp2;have hbL:=au W8 (.cells #[.int .u8 0,.int .i64 0,.int .i64 0] 110);have Qp:=af (uI.out.below 8 hbL);have Qq:=af (xq.out.below 8 hbL);have WT:Hid (dZ (W8.alloc (.cells #[.int .u8 0,.int .i64 0,.int .i64 0] 110)) (ext q8 W8.heap.size 8) 8 W8.heap.size 110 #[.int .u8 0,.int .i64 0,.int .i64 0]):=af ⟨heap_alloc_new _ _,dI (Nat.le_refl _)⟩;refine ⟨⟨ca y4,ca y7⟩,?_⟩;clear hbL uI xq y4 y7;go_wp2_with fail;refine (qQ w _ _ (w.heap.size+3) (w.heap.size+2) ⟨g.name,.slice a1 g.actors.length c1,.slice a2 g.edges.length c2,.slice a3 g.ins.length c3,.slice a4 g.outs.length c4,vI,vO⟩ ⟨bK (bE g).seen g.ins,aY (bE g).ins g.ins,(bE g).outs⟩ _ g.outs 4 1 RO.out (Qp.out.kept.drewN 1) hlq U3.out (Qq.out.drewN 1)).mono ?_;rintro e w7 ⟨⟨xa,xb,xc,rfl⟩,o7,T,Gr⟩;have T7:=((Turn.refl _ jS _).drewN 1).trans T (fun _ h=>h);have AR:=af (Qp.out.turn (T7.mono xQ));have oJ:=af Gr;have wJ:=af (WT.out.turn T7 (by unfold jS;omega));have s3:=AR.out.gr.cell 4 _ rfl;have s6:=(Qq.out.xR T7 (by unfold jS;omega)).2;clear T T7 Gr Qp Qq WT;go_wp2;refine ⟨⟨s3,s6⟩,?_⟩;refine aD ?_;refine ax ?_;refine aJ (ks:=[12,13]) (fun _ _ hx h=>⟨hx.cell h.1,hx.cell h.2⟩) (by kernel_rfl) ?_;simp only [pk];generalize W8.heap.size=L at *;have TS:=xS wJ.out (.int .u8 xa) (.int .i64 xb) (.int .i64 xc);have uI:=af (AR.out.Qm TS (by decide) (by decide));have hL:=xU (a:=xa) (b:=xb) (c:=xc) wJ.out;have l0:=ah _ _ hL 0 _ rfl;have l1:=ah _ _ hL 1 _ rfl;have l2:=ah _ _ hL 2 _ rfl;have k0:=wJ.out.cell 0 _ rfl;have k1:=wJ.out.cell 1 _ rfl;have k2:=wJ.out.cell 2 _ rfl;have kf0:=wJ.out.frozen 0;have kf1:=wJ.out.frozen 1;have Zi:=wJ.out.frozen 2;have Ou:=af TS;clear hL AR s3 s6 TS;obtain ⟨ne,hne⟩:∃ x,dJ (bK (bE g).seen g.ins) (bE g).outs g.outs=x:=⟨_,rfl⟩;rw [show dJ (kL.seen ⟨bK (bE g).seen g.ins,aY (bE g).ins g.ins,(bE g).outs⟩) (kL.outs ⟨bK (bE g).seen g.ins,aY (bE g).ins g.ins,(bE g).outs⟩) g.outs=ne from hne] at oJ ⊢;rw [hne] at AU;clear hne
       by_cases h0:ne=0
       ·
        subst h0;have xq:=af ((oJ.out rfl).turn Ou.out (fun x hx e=>by subst e;unfold gm at hx;omega));clear oJ l0 l1 l2 Ou wJ;go_wp2_with fail;clear k0 k1 k2 kf0 kf1 Zi;generalize ((w7.setCell ⟨L,0,none⟩ (.int .u8 xa)).setCell ⟨L,1,none⟩ (.int .i64 xb)).setCell ⟨L,2,none⟩ (.int .i64 xc)=W8 at *;generalize ext o7 w7.heap.size 8=q8 at *;rw [if_neg (by simp)] at AU;have BQ:=mZ g.actors j3 WR.out (jN 16) (jN 16);have Jj:=oP g.edges (m:=16) (nP g) BQ.1 BQ.2;have Fx:gX (aY (bE g).ins g.ins) 16:=iW _ _ Jj.1;have hR2:gX (aY (bE g).outs g.outs) 16:=iW _ _ Jj.2;have hl1:(aY (bE g).ins g.ins).length=g.actors.length:=by rw [jM,bE,(iZ _ _).1,nP,(gB _ _).1];simp [j3]
        have hl2:(aY (bE g).outs g.outs).length=g.actors.length:=by rw [jM,bE,(iZ _ _).2.1,nP,(gB _ _).2];simp [j3]
        refine (uf _ _ (w.heap.size+3) (w.heap.size+2) _ _ a1 g.actors.length c1 rfl hl1 hl2 (by omega) (fun r=>⟨Nat.le_trans (Fx r) (by omega),Nat.le_trans (hR2 r) (by omega)⟩) xq.out).mono ?_;rintro e w11 ⟨⟨xa,xb,xc,rfl⟩,o11,T,_⟩;have AV:=af (uI.out.turn T);have bM:=af AV.out.sp;have e:E=mQ (aY (bE g).ins g.ins) (aY (bE g).outs g.outs):=AU.out.symm;clear T BQ Jj Fx hR2 hl1 hl2;subst e;have z0:=bM.out.cell 0 _ rfl;have z1:=bM.out.cell 1 _ rfl;have z2:=bM.out.cell 2 _ rfl;have f0:=bM.out.frozen 0;have f1:=bM.out.frozen 1;have f2:=bM.out.frozen 2;go_wp2;refine bodyPost_ret_by (aK rfl _ _ _ _ _ _ _ rfl (dn bM.out) Tryz.underlying110 rfl (by kernel_rfl)) rfl ?_;exact ⟨⟨_,_,_,rfl⟩,AV.out.ret _ _ _⟩
       ·
        have e:E=ne:=by rw [<- AU.out,if_pos h0]
        subst e;go_wp2_with fail;refine aM (fun w'=>w'.cell? ⟨L,0,none⟩=some (.int .u8 xa)/\w'.cell? ⟨L,1,none⟩=some (.int .i64 xb)/\w'.cell? ⟨L,2,none⟩=some (.int .i64 xc)) [0,1,2] [3] (by kernel_rfl) (by kernel_rfl) rfl (fun _ _ hx h=>⟨hx.cell h.1,hx.cell h.2.1,hx.cell h.2.2⟩) ⟨l0,l1,l2⟩ ?_;intro Q' hQ';simp only [pk];refine aD ?_;refine ax ?_;have bM:=af uI.out.sp;have z0:=bM.out.cell 0 _ rfl;have z1:=bM.out.cell 1 _ rfl;have z2:=bM.out.cell 2 _ rfl;have f0:=bM.out.frozen 0;have f1:=bM.out.frozen 1;have f2:=bM.out.frozen 2;go_wp2;refine bodyPost_ret_by (aK rfl _ _ _ _ _ _ _ rfl (jT bM.out) Tryz.underlying110 rfl (by kernel_rfl)) rfl ?_;exact ⟨⟨_,_,_,rfl⟩,cK (n:=1) (uI.out.ret _ _ _)⟩
     ·
      have e:E=ne:=by rw [<- AU.out,if_pos h0]
      subst e;go_wp2_with fail;refine aM (fun w'=>w'.cell? ⟨L,0,none⟩=some (.int .u8 xa)/\w'.cell? ⟨L,1,none⟩=some (.int .i64 xb)/\w'.cell? ⟨L,2,none⟩=some (.int .i64 xc)) [0,1,2] [3] (by kernel_rfl) (by kernel_rfl) rfl (fun _ _ hx h=>⟨hx.cell h.1,hx.cell h.2.1,hx.cell h.2.2⟩) ⟨l0,l1,l2⟩ ?_;intro Q' hQ';simp only [pk];refine aD ?_;refine ax ?_;have bM:=af uI.out.sp;have z0:=bM.out.cell 0 _ rfl;have z1:=bM.out.cell 1 _ rfl;have z2:=bM.out.cell 2 _ rfl;have f0:=bM.out.frozen 0;have f1:=bM.out.frozen 1;have f2:=bM.out.frozen 2;go_wp2;refine bodyPost_ret_by (aK rfl _ _ _ _ _ _ _ rfl (jT bM.out) Tryz.underlying110 rfl (by kernel_rfl)) rfl ?_;exact ⟨⟨_,_,_,rfl⟩,cK (n:=1) (uI.out.ret _ _ _)⟩
   ·
    have e:E=ne:=by rw [<- HE.out,jH,u7.out,if_neg (by simp),WR.out,if_neg (by simp),Gq.out,if_pos h0]
    subst e;go_wp2_with fail;refine aM (fun w'=>w'.cell? ⟨w5.heap.size,0,none⟩=some (.int .u8 xa)/\w'.cell? ⟨w5.heap.size,1,none⟩=some (.int .i64 xb)/\w'.cell? ⟨w5.heap.size,2,none⟩=some (.int .i64 xc)) [0,1,2] [3] (by kernel_rfl) (by kernel_rfl) rfl (fun _ _ hx h=>⟨hx.cell h.1,hx.cell h.2.1,hx.cell h.2.2⟩) ⟨l0,l1,l2⟩ ?_;intro Q' hQ';simp only [pk];refine aD ?_;refine ax ?_;have bM:=af WS.out.sp;have z0:=bM.out.cell 0 _ rfl;have z1:=bM.out.cell 1 _ rfl;have z2:=bM.out.cell 2 _ rfl;have f0:=bM.out.frozen 0;have f1:=bM.out.frozen 1;have f2:=bM.out.frozen 2;go_wp2;refine bodyPost_ret_by (aK rfl _ _ _ _ _ _ _ rfl (jT bM.out) Tryz.underlying110 rfl (by kernel_rfl)) rfl ?_;exact ⟨⟨_,_,_,rfl⟩,cK (n:=1) (WS.out.ret _ _ _)⟩
  ·
   have e:E=ne:=by rw [<- HE.out,jH,u7.out,if_neg (by simp),WR.out,if_pos h0]
   subst e;go_wp2_with fail;refine aM (fun w'=>w'.cell? ⟨w3.heap.size,0,none⟩=some (.int .u8 xa)/\w'.cell? ⟨w3.heap.size,1,none⟩=some (.int .i64 xb)/\w'.cell? ⟨w3.heap.size,2,none⟩=some (.int .i64 xc)) [0,1,2] [3] (by kernel_rfl) (by kernel_rfl) rfl (fun _ _ hx h=>⟨hx.cell h.1,hx.cell h.2.1,hx.cell h.2.2⟩) ⟨l0,l1,l2⟩ ?_;intro Q' hQ';simp only [pk];refine aD ?_;refine ax ?_;have bM:=af Qo.out.sp;have z0:=bM.out.cell 0 _ rfl;have z1:=bM.out.cell 1 _ rfl;have z2:=bM.out.cell 2 _ rfl;have f0:=bM.out.frozen 0;have f1:=bM.out.frozen 1;have f2:=bM.out.frozen 2;go_wp2;refine bodyPost_ret_by (aK rfl _ _ _ _ _ _ _ rfl (jT bM.out) Tryz.underlying110 rfl (by kernel_rfl)) rfl ?_;exact ⟨⟨_,_,_,rfl⟩,cK (n:=1) (Qo.out.ret _ _ _)⟩
 ·
  have e:E=ne:=by rw [<- HE.out,jH,u7.out,if_pos h0]
  subst e;go_wp2_with fail;refine aM (fun w'=>w'.cell? ⟨w1.heap.size,0,none⟩=some (.int .u8 xa)/\w'.cell? ⟨w1.heap.size,1,none⟩=some (.int .i64 xb)/\w'.cell? ⟨w1.heap.size,2,none⟩=some (.int .i64 xc)) [0,1,2] [3] (by kernel_rfl) (by kernel_rfl) rfl (fun _ _ hx h=>⟨hx.cell h.1,hx.cell h.2.1,hx.cell h.2.2⟩) ⟨l0,l1,l2⟩ ?_;intro Q' hQ';simp only [pk];refine aD ?_;refine ax ?_;have bM:=af Yd.out.sp;have z0:=bM.out.cell 0 _ rfl;have z1:=bM.out.cell 1 _ rfl;have z2:=bM.out.cell 2 _ rfl;have f0:=bM.out.frozen 0;have f1:=bM.out.frozen 1;have f2:=bM.out.frozen 2;go_wp2;refine bodyPost_ret_by (aK rfl _ _ _ _ _ _ _ rfl (jT bM.out) Tryz.underlying110 rfl (by kernel_rfl)) rfl ?_;exact ⟨⟨_,_,_,rfl⟩,cK (n:=1) (Yd.out.ret _ _ _)⟩
def mO (g:av):Prop:=g.name.size<=4611686018427387904/\(∀ p∈g.actors,p.name.size<=4611686018427387904/\p.params.length<=17600000000000)/\(∀ p∈g.ins,p.name.size<=4611686018427387904)/\∀ p∈g.outs,p.name.size<=4611686018427387904
theorem vC (w:World)(v:Value)(g:av)(h:dK w v g)(hs:mO g):Calls Tryz.prog 12 #[v] w (fq (.int .i64 (jH g)) w):=by
 obtain ⟨va,ve,vi,vo,rfl,_⟩:=h.shape;have WH:=au w (.cells #[.string g.name,va,ve,vi,vo] 26);have hG:=heap_alloc_new w (.cells #[.string g.name,va,ve,vi,vo] 26);have q0:=ah _ _ hG 0 _ rfl;have q1:=ah _ _ hG 1 _ rfl;have q2:=ah _ _ hG 2 _ rfl;have q3:=ah _ _ hG 3 _ rfl;have q4:=ah _ _ hG 4 _ rfl;have HG:=af (h.below WH);have HB:=af WH;have HS:=af hs;obtain ⟨E,hE⟩:∃ E,jH g=E:=⟨_,rfl⟩;rw [hE];have HE:=af hE;clear h hs WH hG hE;go_enter Tryz.func12,Tryz.ntmps12;go_wp2_with fail;refine (MK _ _ g HG.out HS.out.1 HS.out.2.1 HS.out.2.2.1 HS.out.2.2.2).mono ?_;rintro e w1 ⟨⟨a,b,c,rfl⟩,hb1⟩;rw [HE.out];have hb:Below w.heap.size w w1:=HB.out.trans (hb1.mono HB.out.size);have lN:=af (hb.alloc hb.size (.cells #[.int .u8 a,.int .i64 b,.int .i64 c] 110));clear hb hb1 q0 q1 q2 q3 q4;go_wp2;go_ret;exact ⟨rfl,lN.out⟩
def AX (g:av):Prop:=∀ x∈g.actors,aC x.tag x.params
theorem Jk (w:World)(v:Value)(g:av)(i:Nat)(h:dK w v g)(hs:mO g)(hi:i < g.actors.length)(hi2:i<=1000000):Calls Tryz.prog 66 #[v,.int .i64 (i:Int)] w (fq (.int .i64 (nR g i g.actors[i])) w):=by
 obtain ⟨va,ve,vi,vo,rfl,ra,re,ri,ro⟩:=h.shape;obtain ⟨aa,ac,rfl⟩:=ra.slice;obtain ⟨ae,ec,rfl⟩:=re.slice;obtain ⟨ai,ic,rfl⟩:=ri.slice;obtain ⟨ao,oc,rfl⟩:=ro.slice;have HG:=af h;have rV:=af ra;have nV:=af re;have qE:=af ri;have sI:=af ro;have hb:=au w (.cells #[.string g.name,.slice aa g.actors.length ac,.slice ae g.edges.length ec,.slice ai g.ins.length ic,.slice ao g.outs.length oc] 26);have HB:=af hb;have hX:=heap_alloc_new w (.cells #[.string g.name,.slice aa g.actors.length ac,.slice ae g.edges.length ec,.slice ai g.ins.length ic,.slice ao g.outs.length oc] 26);have HXB:=af hX;have x0:=ah _ _ hX 0 _ rfl;have x1:=ah _ _ hX 1 _ rfl;have x2:=ah _ _ hX 2 _ rfl;have x3:=ah _ _ hX 3 _ rfl;have x4:=ah _ _ hX 4 _ rfl;clear h ra re ri ro hb hX;obtain ⟨b0,off,rfl,hcap,hb0,hrec⟩:=rV.out.at (by omega);obtain ⟨cs,hcs,mY,hcl⟩:=hrec i hi;obtain ⟨xs,rfl,hst⟩:=mY;have c0:=cell_later HB.out (hcl 0 (by omega));have c1:=cell_later HB.out (hcl 1 (by omega));have c2:=cell_later HB.out (hcl 2 (by omega));simp at c0 c1 c2;obtain ⟨sa,sc,hxs⟩:=Ints.slice hst;subst hxs;have HST:=af hst;obtain ⟨a,hae⟩:∃ a,g.actors[i]=a:=⟨_,rfl⟩;have hnm:=(hs.2.1 _ (List.getElem_mem hi)).1;rw [hae] at c0 c1 c2 HST hnm ⊢;have HNM:=af hnm;have fu:(g.actors.length:Int)<=ac:=by omega
 have hii:(i:Int) < g.actors.length:=by omega
 have Gs:=af hi;obtain ⟨N,hN⟩:∃ N,nR g i a=N:=⟨_,rfl⟩;rw [hN];unfold nR uP at hN;have HN:=af hN;clear hN;obtain ⟨E,hE⟩:∃ E,nameP a.name=E:=⟨_,rfl⟩;obtain ⟨T,hT⟩:∃ T,jq g i 0 0 a.name=T:=⟨_,rfl⟩;have HE:=af hE;have HT:=af hT;clear hrec hcl hcs hst hb0 hcap hnm hE hT hae;have hsz:(w.alloc (.cells #[.string g.name,.slice (some ⟨b0,off,none⟩) g.actors.length ac,.slice ae g.edges.length ec,.slice ai g.ins.length ic,.slice ao g.outs.length oc] 26)).heap.size=w.heap.size+1:=by simp
 have hby:=au (w.alloc (.cells #[.string g.name,.slice (some ⟨b0,off,none⟩) g.actors.length ac,.slice ae g.edges.length ec,.slice ai g.ins.length ic,.slice ao g.outs.length oc] 26)) (.cells #[.string a.name,.int .u8 a.tag,.slice sa a.params.length sc] 56);have hY:=heap_alloc_new (w.alloc (.cells #[.string g.name,.slice (some ⟨b0,off,none⟩) g.actors.length ac,.slice ae g.edges.length ec,.slice ai g.ins.length ic,.slice ao g.outs.length oc] 26)) (.cells #[.string a.name,.int .u8 a.tag,.slice sa a.params.length sc] 56);rw [hsz] at hY;replace x0:=cell_later hby x0;replace x1:=cell_later hby x1;replace x2:=cell_later hby x2;replace x3:=cell_later hby x3;replace x4:=cell_later hby x4;have vD:=af (HB.out.trans (hby.mono HB.out.size));clear hby hsz;have y0:=ah _ _ hY 0 _ rfl;have y1:=ah _ _ hY 1 _ rfl;have y2:=ah _ _ hY 2 _ rfl;clear hY;go_enter Tryz.func66,Tryz.ntmps66;go_wp2_with fail;obtain ⟨wy,vE⟩:∃ x,(w.alloc (.cells #[.string g.name,.slice (some ⟨b0,off,none⟩) g.actors.length ac,.slice ae g.edges.length ec,.slice ai g.ins.length ic,.slice ao g.outs.length oc] 26)).alloc (.cells #[.string a.name,.int .u8 a.tag,.slice sa a.params.length sc] 56)=x:=⟨_,rfl⟩;rw [vE] at vD x0 x1 x2 x3 x4 ⊢;rw [vE] at y0 y1 y2;clear vE c0 c1 c2;refine (tX _ _ HNM.out).mono ?_;rintro e _ ⟨rfl,rfl⟩;rw [HE.out];cases E with
 | false =>
  have e:N=82:=by rw [<- HN.out,HE.out];simp
  subst e;go_wp2;go_ret;exact ⟨rfl,vD.out⟩
 | true =>
  go_wp2_with fail;refine (xO _ _ g i 0 0 a.name (HG.out.below vD.out) ⟨by have:=Gs.out;omega,hi2⟩ ⟨Nat.zero_le _,by decide⟩ ⟨Nat.zero_le _,by decide⟩).mono ?_;rintro e w3 ⟨rfl,hb3⟩;rw [HT.out];cases T with
  | true =>
   have e:N=83:=by rw [<- HN.out,HE.out,HT.out];simp
   subst e;have HB3:=af (vD.out.trans (hb3.mono vD.out.size));clear hb3;go_wp2;go_ret;exact ⟨rfl,HB3.out⟩
  | false =>
   have hN:(if aC a.tag a.params then 0 else uG a.tag)=N:=by
    rw [<- HN.out,HE.out,HT.out];simp
   have pJ:=af hN;have y1:=cell_later hb3 y1;have y2:=cell_later hb3 y2;have HB3:=af (vD.out.trans (hb3.mono vD.out.size));clear hb3 y0 hN;go_wp2_with fail
   by_cases hg:aC a.tag a.params
   ·
    have e:N=0:=by rw [<- pJ.out,if_pos hg]
    subst e;refine (xM _ _ sa _ sc a.params hg (HST.out.below HB3.out)).mono ?_;rintro e w4 ⟨v1,v2,rfl,o1,o2,hb4⟩;obtain ⟨s1,k1,rfl⟩:=aA o1;obtain ⟨s2,k2,rfl⟩:=aA o2;have xV:=af (HB3.out.trans (hb4.mono HB3.out.size));clear hb4 o1 o2;go_wp2;go_ret;exact ⟨rfl,xV.out⟩
   ·
    have e:uG a.tag=N:=by rw [<- pJ.out,if_neg hg]
    refine (XY _ _ sa _ sc a.params hg (HST.out.below HB3.out)).mono ?_;rw [e];rintro e w4 ⟨rfl,hb4⟩;have xV:=af (HB3.out.trans (hb4.mono HB3.out.size));clear hb4 hg;go_wp2;go_ret;exact ⟨rfl,xV.out⟩
theorem ML (w:World)(v:Value)(g:av)(i:Nat)(h:dK w v g)(hg:AX g)(hi:i < g.edges.length)(hi2:i<=1000000):Calls Tryz.prog 67 #[v,.int .i64 (i:Int)] w (fun e w'=>∃ k,e=.returned (.tuple #[.int .i64 (p9 g i g.edges[i]),.int .i64 k])/\Below w.heap.size w w'):=by
 obtain ⟨va,ve,vi,vo,rfl,ra,re,ri,ro⟩:=h.shape;obtain ⟨aa,ac,rfl⟩:=ra.slice;obtain ⟨ae,ec,rfl⟩:=re.slice;obtain ⟨ai,ic,rfl⟩:=ri.slice;obtain ⟨ao,oc,rfl⟩:=ro.slice;have HG:=af h;have rV:=af ra;have nV:=af re;have qE:=af ri;have sI:=af ro;have hb:=au w (.cells #[.string g.name,.slice aa g.actors.length ac,.slice ae g.edges.length ec,.slice ai g.ins.length ic,.slice ao g.outs.length oc] 26);have HB:=af hb;have hX:=heap_alloc_new w (.cells #[.string g.name,.slice aa g.actors.length ac,.slice ae g.edges.length ec,.slice ai g.ins.length ic,.slice ao g.outs.length oc] 26);have HXB:=af hX;have x0:=ah _ _ hX 0 _ rfl;have x1:=ah _ _ hX 1 _ rfl;have x2:=ah _ _ hX 2 _ rfl;have x3:=ah _ _ hX 3 _ rfl;have x4:=ah _ _ hX 4 _ rfl;clear h ra re ri ro hb hX;obtain ⟨b0,off,rfl,hcap,hb0,hrec⟩:=nV.out.at (by omega);obtain ⟨cs,hcs,mY,hcl⟩:=hrec i hi;obtain ⟨xs,rfl,hst⟩:=mY;have c0:=cell_later HB.out (hcl 0 (by omega));have c1:=cell_later HB.out (hcl 1 (by omega));have c2:=cell_later HB.out (hcl 2 (by omega));have c3:=cell_later HB.out (hcl 3 (by omega));have c4:=cell_later HB.out (hcl 4 (by omega));simp at c0 c1 c2 c3 c4;obtain ⟨sa,sc,hxs⟩:=Ints.slice hst;subst hxs;obtain ⟨a,hae⟩:∃ a,g.edges[i]=a:=⟨_,rfl⟩;rw [hae] at c0 c1 c2 c3 c4 ⊢;have fu:(g.edges.length:Int)<=ec:=by omega
 have hii:(i:Int) < g.edges.length:=by omega
 have Gs:=af hi;have vw:=af hg;obtain ⟨N,hN⟩:∃ N,p9 g i a=N:=⟨_,rfl⟩;rw [hN];unfold p9 at hN;obtain ⟨t1,ht1⟩:∃ T,outT g i 0 a.src a.dw=T:=⟨_,rfl⟩;obtain ⟨t2,ht2⟩:∃ T,inT g i 0 a.dst a.dx=T:=⟨_,rfl⟩;rw [ht1,ht2] at hN;obtain ⟨E1,hE1⟩:∃ T,p8 g (aF g) a.src a.dw t1=T:=⟨_,rfl⟩;obtain ⟨E2,hE2⟩:∃ T,p8 g (ay g) a.dst a.dx t2=T:=⟨_,rfl⟩;rw [hE1,hE2] at hN;have HN:=af hN;have HT1:=af ht1;have HT2:=af ht2;have SA:=af hE1;have HE2:=af hE2;clear hrec hcl hcs hst hb0 hcap hae hN ht1 ht2 hE1 hE2 hg;have hsz:(w.alloc (.cells #[.string g.name,.slice aa g.actors.length ac,.slice (some ⟨b0,off,none⟩) g.edges.length ec,.slice ai g.ins.length ic,.slice ao g.outs.length oc] 26)).heap.size=w.heap.size+1:=by simp
 have hby:=au (w.alloc (.cells #[.string g.name,.slice aa g.actors.length ac,.slice (some ⟨b0,off,none⟩) g.edges.length ec,.slice ai g.ins.length ic,.slice ao g.outs.length oc] 26)) (.cells #[.int .i64 a.src,.int .i64 a.dw,.int .i64 a.dst,.int .i64 a.dx,.slice sa a.start.length sc] 68);have hY:=heap_alloc_new (w.alloc (.cells #[.string g.name,.slice aa g.actors.length ac,.slice (some ⟨b0,off,none⟩) g.edges.length ec,.slice ai g.ins.length ic,.slice ao g.outs.length oc] 26)) (.cells #[.int .i64 a.src,.int .i64 a.dw,.int .i64 a.dst,.int .i64 a.dx,.slice sa a.start.length sc] 68);rw [hsz] at hY;replace x0:=cell_later hby x0;replace x1:=cell_later hby x1;replace x2:=cell_later hby x2;replace x3:=cell_later hby x3;replace x4:=cell_later hby x4;have vD:=af (HB.out.trans (hby.mono HB.out.size));clear hby hsz;have y0:=ah _ _ hY 0 _ rfl;have y1:=ah _ _ hY 1 _ rfl;have y2:=ah _ _ hY 2 _ rfl;have y3:=ah _ _ hY 3 _ rfl;have y4:=ah _ _ hY 4 _ rfl;clear hY;go_enter Tryz.func67,Tryz.ntmps67;go_wp2_with fail;obtain ⟨wy,vE⟩:∃ x,(w.alloc (.cells #[.string g.name,.slice aa g.actors.length ac,.slice (some ⟨b0,off,none⟩) g.edges.length ec,.slice ai g.ins.length ic,.slice ao g.outs.length oc] 26)).alloc (.cells #[.int .i64 a.src,.int .i64 a.dw,.int .i64 a.dst,.int .i64 a.dx,.slice sa a.start.length sc] 68)=x:=⟨_,rfl⟩;rw [vE] at vD x0 x1 x2 x3 x4 ⊢;rw [vE] at y0 y1 y2 y3 y4;clear vE c0 c1 c2 c3 c4;obtain ⟨Y,uJ⟩:∃ x,w.heap.size+1=x:=⟨_,rfl⟩;rw [uJ] at y0 y1 y2 y3 y4 ⊢;clear uJ;refine jF (fun w'=>(w'.cell? ⟨w.heap.size,0,none⟩=some (.string g.name)/\w'.cell? ⟨w.heap.size,1,none⟩=some (.slice aa g.actors.length ac)/\w'.cell? ⟨w.heap.size,2,none⟩=some (.slice (some ⟨b0,off,none⟩) g.edges.length ec)/\w'.cell? ⟨w.heap.size,3,none⟩=some (.slice ai g.ins.length ic)/\w'.cell? ⟨w.heap.size,4,none⟩=some (.slice ao g.outs.length oc))/\w'.cell? ⟨Y,0,none⟩=some (.int .i64 a.src)/\w'.cell? ⟨Y,1,none⟩=some (.int .i64 a.dw))
  [0,1,2,3,4,5,6,7,8,9,10] [] 11 [12,13] (by kernel_rfl) (by kernel_rfl) (by kernel_rfl) rfl (fun _ _ hx h=>⟨⟨hx.cell h.1.1,hx.cell h.1.2.1,hx.cell h.1.2.2.1,hx.cell h.1.2.2.2.1,hx.cell h.1.2.2.2.2⟩,hx.cell h.2.1,hx.cell h.2.2⟩) ⟨⟨x0,x1,x2,x3,x4⟩,y0,y1⟩ ?_
 intro Q' hQ';simp only [pk];refine aD ?_;refine ax ?_;go_wp2_with fail;refine (qM _ _ g i 0 a.src a.dw (HG.out.below (vD.out).drew) (by have:=Gs.out;omega) (Nat.zero_le _) hi2 (by decide)).mono ?_;rintro e w1 ⟨rfl,hb1⟩;rw [HT1.out];replace x0:=cell_later hb1 x0;replace x1:=cell_later hb1 x1;replace x2:=cell_later hb1 x2;replace x3:=cell_later hb1 x3;replace x4:=cell_later hb1 x4;replace y0:=cell_later hb1 y0;replace y1:=cell_later hb1 y1;replace y2:=cell_later hb1 y2;replace y3:=cell_later hb1 y3;replace y4:=cell_later hb1 y4;have Jl:=af ((vD.out).drew.trans (hb1.mono (vD.out).drew.size));clear hb1;go_wp2;refine ⟨⟨⟨x0,x1,x2,x3,x4⟩,y0,y1⟩,?_⟩;go_wp2_with fail;refine (Gd _ _ g a.src a.dw _ (HG.out.below Jl.out) vw.out).mono ?_;rintro e w2 ⟨rfl,hb2⟩;replace x0:=cell_later hb2 x0;replace x1:=cell_later hb2 x1;replace x2:=cell_later hb2 x2;replace x3:=cell_later hb2 x3;replace x4:=cell_later hb2 x4;replace y0:=cell_later hb2 y0;replace y1:=cell_later hb2 y1;replace y2:=cell_later hb2 y2;replace y3:=cell_later hb2 y3;replace y4:=cell_later hb2 y4;have Ye:=af (Jl.out.trans (hb2.mono Jl.out.size));clear hb2 Jl;rw [SA.out]
 by_cases z1:E1=0
 ·
  rw [z1];have HZ1:=af z1;clear z1;go_wp2_with fail;clear vD;have Jm:=af Ye.out;clear Ye;refine jF (fun w'=>(w'.cell? ⟨w.heap.size,0,none⟩=some (.string g.name)/\w'.cell? ⟨w.heap.size,1,none⟩=some (.slice aa g.actors.length ac)/\w'.cell? ⟨w.heap.size,2,none⟩=some (.slice (some ⟨b0,off,none⟩) g.edges.length ec)/\w'.cell? ⟨w.heap.size,3,none⟩=some (.slice ai g.ins.length ic)/\w'.cell? ⟨w.heap.size,4,none⟩=some (.slice ao g.outs.length oc))/\w'.cell? ⟨Y,2,none⟩=some (.int .i64 a.dst)/\w'.cell? ⟨Y,3,none⟩=some (.int .i64 a.dx))
   [0,1,2,3,4,5,6,7,8,9,10] [] 11 [12,13] (by kernel_rfl) (by kernel_rfl) (by kernel_rfl) rfl (fun _ _ hx h=>⟨⟨hx.cell h.1.1,hx.cell h.1.2.1,hx.cell h.1.2.2.1,hx.cell h.1.2.2.2.1,hx.cell h.1.2.2.2.2⟩,hx.cell h.2.1,hx.cell h.2.2⟩) ⟨⟨x0,x1,x2,x3,x4⟩,y2,y3⟩ ?_
  intro Q' hQ';simp only [pk];refine aD ?_;refine ax ?_;go_wp2_with fail;refine (sJ _ _ g i 0 a.dst a.dx (HG.out.below (Jm.out).drew) (by have:=Gs.out;omega) (Nat.zero_le _) hi2 (by decide)).mono ?_;rintro e w1 ⟨rfl,hb1⟩;rw [HT2.out];replace x0:=cell_later hb1 x0;replace x1:=cell_later hb1 x1;replace x2:=cell_later hb1 x2;replace x3:=cell_later hb1 x3;replace x4:=cell_later hb1 x4;replace y0:=cell_later hb1 y0;replace y1:=cell_later hb1 y1;replace y2:=cell_later hb1 y2;replace y3:=cell_later hb1 y3;replace y4:=cell_later hb1 y4;have Jl:=af ((Jm.out).drew.trans (hb1.mono (Jm.out).drew.size));clear hb1;go_wp2;refine ⟨⟨⟨x0,x1,x2,x3,x4⟩,y2,y3⟩,?_⟩;go_wp2_with fail;refine (Cz _ _ g a.dst a.dx _ (HG.out.below Jl.out) vw.out).mono ?_;rintro e w2 ⟨rfl,hb2⟩;replace x0:=cell_later hb2 x0;replace x1:=cell_later hb2 x1;replace x2:=cell_later hb2 x2;replace x3:=cell_later hb2 x3;replace x4:=cell_later hb2 x4;replace y0:=cell_later hb2 y0;replace y1:=cell_later hb2 y1;replace y2:=cell_later hb2 y2;replace y3:=cell_later hb2 y3;replace y4:=cell_later hb2 y4;have Ye:=af (Jl.out.trans (hb2.mono Jl.out.size));clear hb2 Jl;rw [HE2.out]
  by_cases z2:E2=0
  ·
   rw [z2];have HZ2:=af z2;clear z2
   by_cases hl:256 < a.start.length
   ·
    have e:N=88:=by rw [<- HN.out,HZ1.out,HZ2.out,if_neg (by simp),if_neg (by simp),if_pos hl]
    subst e;have E9:(256:Int) < a.start.length:=by omega
    go_wp2;go_ret2;exact ⟨_,rfl,Ye.out⟩
   ·
    have e:N=0:=by rw [<- HN.out,HZ1.out,HZ2.out,if_neg (by simp),if_neg (by simp),if_neg hl]
    subst e;have E9:¬ (256:Int) < a.start.length:=by omega
    go_wp2;go_ret2;exact ⟨_,rfl,Ye.out⟩
  ·
   have e:E2=N:=by rw [<- HN.out,HZ1.out,if_neg (by simp),if_pos z2]
   have hb:(E2 != 0)=true:=by rw [bne_iff_ne];exact z2
   rw [e] at hb ⊢;clear z2 HE2;go_wp2;go_ret2;exact ⟨_,rfl,Ye.out⟩
 ·
  have e:E1=N:=by rw [<- HN.out,if_pos z1]
  have hb:(E1 != 0)=true:=by rw [bne_iff_ne];exact z1
  rw [e] at hb ⊢;clear z1 SA;go_wp2;go_ret2;exact ⟨_,rfl,Ye.out⟩
theorem Va (w:World)(v:Value)(g:av)(i:Nat)(h:dK w v g)(hs:mO g)(hg:AX g)(hi:i < g.ins.length)(hf:g.actors.length<=1000000/\g.edges.length<=1000000/\g.ins.length<=1000000/\g.outs.length<=1000000):Calls Tryz.prog 68 #[v,.int .i64 (i:Int)] w (fun e w'=>∃ k,e=.returned (.tuple #[.int .i64 (Mt g i g.ins[i]),.int .i64 k])/\Below w.heap.size w w'):=by
 obtain ⟨va,ve,vi,vo,rfl,ra,re,ri,ro⟩:=h.shape;obtain ⟨aa,ac,rfl⟩:=ra.slice;obtain ⟨ae,ec,rfl⟩:=re.slice;obtain ⟨ai,ic,rfl⟩:=ri.slice;obtain ⟨ao,oc,rfl⟩:=ro.slice;have HG:=af h;have rV:=af ra;have nV:=af re;have qE:=af ri;have sI:=af ro;have hb:=au w (.cells #[.string g.name,.slice aa g.actors.length ac,.slice ae g.edges.length ec,.slice ai g.ins.length ic,.slice ao g.outs.length oc] 26);have HB:=af hb;have hX:=heap_alloc_new w (.cells #[.string g.name,.slice aa g.actors.length ac,.slice ae g.edges.length ec,.slice ai g.ins.length ic,.slice ao g.outs.length oc] 26);have HXB:=af hX;have x0:=ah _ _ hX 0 _ rfl;have x1:=ah _ _ hX 1 _ rfl;have x2:=ah _ _ hX 2 _ rfl;have x3:=ah _ _ hX 3 _ rfl;have x4:=ah _ _ hX 4 _ rfl;clear h ra re ri ro hb hX;obtain ⟨fa,fe,fi,fo⟩:=hf;obtain ⟨b0,off,rfl,hcap,hb0,hrec⟩:=qE.out.at (by omega);obtain ⟨cs,hcs,mY,hcl⟩:=hrec i hi;obtain rfl:=mY;have c0:=cell_later HB.out (hcl 0 (by omega));have c1:=cell_later HB.out (hcl 1 (by omega));have c2:=cell_later HB.out (hcl 2 (by omega));simp at c0 c1 c2;obtain ⟨a,hae⟩:∃ a,g.ins[i]=a:=⟨_,rfl⟩;have hnm:=hs.2.2.1 _ (List.getElem_mem hi);rw [hae] at c0 c1 c2 hnm ⊢;have HNM:=af hnm;have fu:(g.ins.length:Int)<=ic:=by omega
 have hii:(i:Int) < g.ins.length:=by omega
 have Gs:=af hi;have vw:=af hg;obtain ⟨N,hN⟩:∃ N,Mt g i a=N:=⟨_,rfl⟩;rw [hN];unfold Mt uP at hN;obtain ⟨E,hE⟩:∃ E,nameP a.name=E:=⟨_,rfl⟩;obtain ⟨T,hT⟩:∃ T,jq g g.actors.length i 0 a.name=T:=⟨_,rfl⟩;obtain ⟨t1,ht1⟩:∃ T,inT g g.edges.length i a.aW a.port=T:=⟨_,rfl⟩;rw [hE,hT,ht1] at hN;obtain ⟨E1,hE1⟩:∃ T,p8 g (ay g) a.aW a.port t1=T:=⟨_,rfl⟩;rw [hE1] at hN;have HN:=af hN;have HE:=af hE;have HT:=af hT;have HT1:=af ht1;have SA:=af hE1;clear hrec hcl hcs hb0 hcap hae hN ht1 hE1 hg hE hT hnm;have hsz:(w.alloc (.cells #[.string g.name,.slice aa g.actors.length ac,.slice ae g.edges.length ec,.slice (some ⟨b0,off,none⟩) g.ins.length ic,.slice ao g.outs.length oc] 26)).heap.size=w.heap.size+1:=by simp
 have hby:=au (w.alloc (.cells #[.string g.name,.slice aa g.actors.length ac,.slice ae g.edges.length ec,.slice (some ⟨b0,off,none⟩) g.ins.length ic,.slice ao g.outs.length oc] 26)) (.cells #[.string a.name,.int .i64 a.aW,.int .i64 a.port] 79);have hY:=heap_alloc_new (w.alloc (.cells #[.string g.name,.slice aa g.actors.length ac,.slice ae g.edges.length ec,.slice (some ⟨b0,off,none⟩) g.ins.length ic,.slice ao g.outs.length oc] 26)) (.cells #[.string a.name,.int .i64 a.aW,.int .i64 a.port] 79);rw [hsz] at hY;replace x0:=cell_later hby x0;replace x1:=cell_later hby x1;replace x2:=cell_later hby x2;replace x3:=cell_later hby x3;replace x4:=cell_later hby x4;have vD:=af (HB.out.trans (hby.mono HB.out.size));clear hby hsz;have y0:=ah _ _ hY 0 _ rfl;have y1:=ah _ _ hY 1 _ rfl;have y2:=ah _ _ hY 2 _ rfl;clear hY;go_enter Tryz.func68,Tryz.ntmps68;go_wp2_with fail;obtain ⟨wy,vE⟩:∃ x,(w.alloc (.cells #[.string g.name,.slice aa g.actors.length ac,.slice ae g.edges.length ec,.slice (some ⟨b0,off,none⟩) g.ins.length ic,.slice ao g.outs.length oc] 26)).alloc (.cells #[.string a.name,.int .i64 a.aW,.int .i64 a.port] 79)=x:=⟨_,rfl⟩;rw [vE] at vD x0 x1 x2 x3 x4 ⊢;rw [vE] at y0 y1 y2;clear vE c0 c1 c2;obtain ⟨Y,uJ⟩:∃ x,w.heap.size+1=x:=⟨_,rfl⟩;rw [uJ] at y0 y1 y2 ⊢;clear uJ;refine (tX _ _ HNM.out).mono ?_;rintro e _ ⟨rfl,rfl⟩;rw [HE.out];cases E with
 | false =>
  have e:N=82:=by rw [<- HN.out];simp
  subst e;go_wp2;go_ret2;exact ⟨_,rfl,vD.out⟩
 | true =>
  go_wp2_with fail;refine (xO _ _ g g.actors.length i 0 a.name (HG.out.below vD.out) ⟨Nat.le_refl _,fa⟩ ⟨by have:=Gs.out;omega,by have:=Gs.out;omega⟩ ⟨Nat.zero_le _,by decide⟩).mono ?_;rintro e w3 ⟨rfl,hb3⟩;rw [HT.out];cases T with
  | true =>
   have e:N=83:=by rw [<- HN.out];simp
   subst e;have HB3:=af (vD.out.trans (hb3.mono vD.out.size));clear hb3;go_wp2;go_ret2;exact ⟨_,rfl,HB3.out⟩
  | false =>
   have e:E1=N:=by rw [<- HN.out];simp
   have HE3:=af e;replace x0:=cell_later hb3 x0;replace x1:=cell_later hb3 x1;replace x2:=cell_later hb3 x2;replace x3:=cell_later hb3 x3;replace x4:=cell_later hb3 x4;replace y1:=cell_later hb3 y1;replace y2:=cell_later hb3 y2;have HB3:=af (vD.out.trans (hb3.mono vD.out.size));clear hb3 y0 e vD;go_wp2_with fail;refine jF (fun w'=>(w'.cell? ⟨w.heap.size,0,none⟩=some (.string g.name)/\w'.cell? ⟨w.heap.size,1,none⟩=some (.slice aa g.actors.length ac)/\w'.cell? ⟨w.heap.size,2,none⟩=some (.slice ae g.edges.length ec)/\w'.cell? ⟨w.heap.size,3,none⟩=some (.slice (some ⟨b0,off,none⟩) g.ins.length ic)/\w'.cell? ⟨w.heap.size,4,none⟩=some (.slice ao g.outs.length oc))/\w'.cell? ⟨Y,1,none⟩=some (.int .i64 a.aW)/\w'.cell? ⟨Y,2,none⟩=some (.int .i64 a.port))
    [0,1,2,3,4,5,6,7,8,9,10,11,12,13] [] 14 [15,16,17] (by kernel_rfl) (by kernel_rfl) (by kernel_rfl) rfl (fun _ _ hx h=>⟨⟨hx.cell h.1.1,hx.cell h.1.2.1,hx.cell h.1.2.2.1,hx.cell h.1.2.2.2.1,hx.cell h.1.2.2.2.2⟩,hx.cell h.2.1,hx.cell h.2.2⟩) ⟨⟨x0,x1,x2,x3,x4⟩,y1,y2⟩ ?_
   intro Q' hQ';simp only [pk];refine aD ?_;refine ax ?_;go_wp2_with fail;refine (sJ _ _ g g.edges.length i a.aW a.port (HG.out.below HB3.out.drew) (Nat.le_refl _) (by have:=Gs.out;omega) fe (by have:=Gs.out;omega)).mono ?_;rintro e w4 ⟨rfl,hb4⟩;rw [HT1.out];replace x0:=cell_later hb4 x0;replace x1:=cell_later hb4 x1;replace x2:=cell_later hb4 x2;replace x3:=cell_later hb4 x3;replace x4:=cell_later hb4 x4;replace y1:=cell_later hb4 y1;replace y2:=cell_later hb4 y2;have xV:=af (HB3.out.drew.trans (hb4.mono HB3.out.drew.size));clear hb4;go_wp2;refine ⟨⟨⟨x0,x1,x2,x3,x4⟩,y1,y2⟩,?_⟩;go_wp2_with fail;refine (Cz _ _ g a.aW a.port _ (HG.out.below xV.out) vw.out).mono ?_;rintro e w5 ⟨rfl,hb5⟩;rw [SA.out,HE3.out];have AY:=af (xV.out.trans (hb5.mono xV.out.size));clear hb5 SA HE3;go_wp2;go_ret2;exact ⟨_,rfl,AY.out⟩
theorem Qr (w:World)(v:Value)(g:av)(i:Nat)(h:dK w v g)(hs:mO g)(hg:AX g)(hi:i < g.outs.length)(hf:g.actors.length<=1000000/\g.edges.length<=1000000/\g.ins.length<=1000000/\g.outs.length<=1000000):Calls Tryz.prog 69 #[v,.int .i64 (i:Int)] w (fun e w'=>∃ k,e=.returned (.tuple #[.int .i64 (xL g i g.outs[i]),.int .i64 k])/\Below w.heap.size w w'):=by
 obtain ⟨va,ve,vi,vo,rfl,ra,re,ri,ro⟩:=h.shape;obtain ⟨aa,ac,rfl⟩:=ra.slice;obtain ⟨ae,ec,rfl⟩:=re.slice;obtain ⟨ai,ic,rfl⟩:=ri.slice;obtain ⟨ao,oc,rfl⟩:=ro.slice;have HG:=af h;have rV:=af ra;have nV:=af re;have qE:=af ri;have sI:=af ro;have hb:=au w (.cells #[.string g.name,.slice aa g.actors.length ac,.slice ae g.edges.length ec,.slice ai g.ins.length ic,.slice ao g.outs.length oc] 26);have HB:=af hb;have hX:=heap_alloc_new w (.cells #[.string g.name,.slice aa g.actors.length ac,.slice ae g.edges.length ec,.slice ai g.ins.length ic,.slice ao g.outs.length oc] 26);have HXB:=af hX;have x0:=ah _ _ hX 0 _ rfl;have x1:=ah _ _ hX 1 _ rfl;have x2:=ah _ _ hX 2 _ rfl;have x3:=ah _ _ hX 3 _ rfl;have x4:=ah _ _ hX 4 _ rfl;clear h ra re ri ro hb hX;obtain ⟨fa,fe,fi,fo⟩:=hf;obtain ⟨b0,off,rfl,hcap,hb0,hrec⟩:=sI.out.at (by omega);obtain ⟨cs,hcs,mY,hcl⟩:=hrec i hi;obtain rfl:=mY;have c0:=cell_later HB.out (hcl 0 (by omega));have c1:=cell_later HB.out (hcl 1 (by omega));have c2:=cell_later HB.out (hcl 2 (by omega));simp at c0 c1 c2;obtain ⟨a,hae⟩:∃ a,g.outs[i]=a:=⟨_,rfl⟩;have hnm:=hs.2.2.2 _ (List.getElem_mem hi);rw [hae] at c0 c1 c2 hnm ⊢;have HNM:=af hnm;have fu:(g.outs.length:Int)<=oc:=by omega
 have hii:(i:Int) < g.outs.length:=by omega
 have Gs:=af hi;have vw:=af hg;obtain ⟨N,hN⟩:∃ N,xL g i a=N:=⟨_,rfl⟩;rw [hN];unfold xL uP at hN;obtain ⟨E,hE⟩:∃ E,nameP a.name=E:=⟨_,rfl⟩;obtain ⟨T,hT⟩:∃ T,jq g g.actors.length g.ins.length i a.name=T:=⟨_,rfl⟩;obtain ⟨t1,ht1⟩:∃ T,outT g g.edges.length i a.aW a.port=T:=⟨_,rfl⟩;rw [hE,hT,ht1] at hN;obtain ⟨E1,hE1⟩:∃ T,p8 g (aF g) a.aW a.port t1=T:=⟨_,rfl⟩;rw [hE1] at hN;have HN:=af hN;have HE:=af hE;have HT:=af hT;have HT1:=af ht1;have SA:=af hE1;clear hrec hcl hcs hb0 hcap hae hN ht1 hE1 hg hE hT hnm;have hsz:(w.alloc (.cells #[.string g.name,.slice aa g.actors.length ac,.slice ae g.edges.length ec,.slice ai g.ins.length ic,.slice (some ⟨b0,off,none⟩) g.outs.length oc] 26)).heap.size=w.heap.size+1:=by simp
 have hby:=au (w.alloc (.cells #[.string g.name,.slice aa g.actors.length ac,.slice ae g.edges.length ec,.slice ai g.ins.length ic,.slice (some ⟨b0,off,none⟩) g.outs.length oc] 26)) (.cells #[.string a.name,.int .i64 a.aW,.int .i64 a.port] 79);have hY:=heap_alloc_new (w.alloc (.cells #[.string g.name,.slice aa g.actors.length ac,.slice ae g.edges.length ec,.slice ai g.ins.length ic,.slice (some ⟨b0,off,none⟩) g.outs.length oc] 26)) (.cells #[.string a.name,.int .i64 a.aW,.int .i64 a.port] 79);rw [hsz] at hY;replace x0:=cell_later hby x0;replace x1:=cell_later hby x1;replace x2:=cell_later hby x2;replace x3:=cell_later hby x3;replace x4:=cell_later hby x4;have vD:=af (HB.out.trans (hby.mono HB.out.size));clear hby hsz;have y0:=ah _ _ hY 0 _ rfl;have y1:=ah _ _ hY 1 _ rfl;have y2:=ah _ _ hY 2 _ rfl;clear hY;go_enter Tryz.func69,Tryz.ntmps69;go_wp2_with fail;obtain ⟨wy,vE⟩:∃ x,(w.alloc (.cells #[.string g.name,.slice aa g.actors.length ac,.slice ae g.edges.length ec,.slice ai g.ins.length ic,.slice (some ⟨b0,off,none⟩) g.outs.length oc] 26)).alloc (.cells #[.string a.name,.int .i64 a.aW,.int .i64 a.port] 79)=x:=⟨_,rfl⟩;rw [vE] at vD x0 x1 x2 x3 x4 ⊢;rw [vE] at y0 y1 y2;clear vE c0 c1 c2;obtain ⟨Y,uJ⟩:∃ x,w.heap.size+1=x:=⟨_,rfl⟩;rw [uJ] at y0 y1 y2 ⊢;clear uJ;refine (tX _ _ HNM.out).mono ?_;rintro e _ ⟨rfl,rfl⟩;rw [HE.out];cases E with
 | false =>
  have e:N=82:=by rw [<- HN.out];simp
  subst e;go_wp2;go_ret2;exact ⟨_,rfl,vD.out⟩
 | true =>
  go_wp2_with fail;refine (xO _ _ g g.actors.length g.ins.length i a.name (HG.out.below vD.out) ⟨Nat.le_refl _,fa⟩ ⟨Nat.le_refl _,fi⟩ ⟨by have:=Gs.out;omega,by have:=Gs.out;omega⟩).mono ?_;rintro e w3 ⟨rfl,hb3⟩;rw [HT.out];cases T with
  | true =>
   have e:N=83:=by rw [<- HN.out];simp
   subst e;have HB3:=af (vD.out.trans (hb3.mono vD.out.size));clear hb3;go_wp2;go_ret2;exact ⟨_,rfl,HB3.out⟩
  | false =>
   have e:E1=N:=by rw [<- HN.out];simp
   have HE3:=af e;replace x0:=cell_later hb3 x0;replace x1:=cell_later hb3 x1;replace x2:=cell_later hb3 x2;replace x3:=cell_later hb3 x3;replace x4:=cell_later hb3 x4;replace y1:=cell_later hb3 y1;replace y2:=cell_later hb3 y2;have HB3:=af (vD.out.trans (hb3.mono vD.out.size));clear hb3 y0 e vD;go_wp2_with fail;refine jF (fun w'=>(w'.cell? ⟨w.heap.size,0,none⟩=some (.string g.name)/\w'.cell? ⟨w.heap.size,1,none⟩=some (.slice aa g.actors.length ac)/\w'.cell? ⟨w.heap.size,2,none⟩=some (.slice ae g.edges.length ec)/\w'.cell? ⟨w.heap.size,3,none⟩=some (.slice ai g.ins.length ic)/\w'.cell? ⟨w.heap.size,4,none⟩=some (.slice (some ⟨b0,off,none⟩) g.outs.length oc))/\w'.cell? ⟨Y,1,none⟩=some (.int .i64 a.aW)/\w'.cell? ⟨Y,2,none⟩=some (.int .i64 a.port))
    [0,1,2,3,4,5,6,7,8,9,10,11,12,13] [] 14 [15,16,17] (by kernel_rfl) (by kernel_rfl) (by kernel_rfl) rfl (fun _ _ hx h=>⟨⟨hx.cell h.1.1,hx.cell h.1.2.1,hx.cell h.1.2.2.1,hx.cell h.1.2.2.2.1,hx.cell h.1.2.2.2.2⟩,hx.cell h.2.1,hx.cell h.2.2⟩) ⟨⟨x0,x1,x2,x3,x4⟩,y1,y2⟩ ?_
   intro Q' hQ';simp only [pk];refine aD ?_;refine ax ?_;go_wp2_with fail;refine (qM _ _ g g.edges.length i a.aW a.port (HG.out.below HB3.out.drew) (Nat.le_refl _) (by have:=Gs.out;omega) fe (by have:=Gs.out;omega)).mono ?_;rintro e w4 ⟨rfl,hb4⟩;rw [HT1.out];replace x0:=cell_later hb4 x0;replace x1:=cell_later hb4 x1;replace x2:=cell_later hb4 x2;replace x3:=cell_later hb4 x3;replace x4:=cell_later hb4 x4;replace y1:=cell_later hb4 y1;replace y2:=cell_later hb4 y2;have xV:=af (HB3.out.drew.trans (hb4.mono HB3.out.drew.size));clear hb4;go_wp2;refine ⟨⟨⟨x0,x1,x2,x3,x4⟩,y1,y2⟩,?_⟩;go_wp2_with fail;refine (Gd _ _ g a.aW a.port _ (HG.out.below xV.out) vw.out).mono ?_;rintro e w5 ⟨rfl,hb5⟩;rw [SA.out,HE3.out];have AY:=af (xV.out.trans (hb5.mono xV.out.size));clear hb5 SA HE3;go_wp2;go_ret2;exact ⟨_,rfl,AY.out⟩
theorem Qs {n m:Nat}{f g:Nat->Bool}{j:Nat}(hj:j < n)(hf:f j=false):((List.range n).any (fun k=>!f k) || (List.range m).any (fun k=>!g k))=true:=by
 rw [Bool.or_eq_true,List.any_eq_true];exact .inl ⟨j,List.mem_range.2 hj,by rw [hf];rfl⟩
theorem MN {n m:Nat}{f g:Nat->Bool}{j:Nat}(hj:j < m)(hf:g j=false):((List.range n).any (fun k=>!f k) || (List.range m).any (fun k=>!g k))=true:=by
 rw [Bool.or_eq_true,List.any_eq_true,List.any_eq_true];exact .inr ⟨j,List.mem_range.2 hj,by rw [hf];rfl⟩
theorem Vb {n m:Nat}{f g:Nat->Bool}(hf:∀ j,j < n->f j=true)(hg:∀ j,j < m->g j=true):((List.range n).any (fun k=>!f k) || (List.range m).any (fun k=>!g k))=false:=by
 rw [Bool.or_eq_false_iff,List.any_eq_false,List.any_eq_false];exact ⟨fun k hk=>by rw [hf k (List.mem_range.1 hk)];simp,fun k hk=>by rw [hg k (List.mem_range.1 hk)];simp⟩
theorem MO (w:World)(v:Value)(g:av)(i:Nat)(h:dK w v g)(hg:AX g)(hi:i < g.actors.length)(hf:g.actors.length<=1000000/\g.edges.length<=1000000/\g.ins.length<=1000000/\g.outs.length<=1000000):Calls Tryz.prog 70 #[v,.int .i64 (i:Int)] w (fq (.bool (mJ g i)) w):=by
 obtain ⟨va,ve,vi,vo,rfl,ra,re,ri,ro⟩:=h.shape;obtain ⟨aa,ac,rfl⟩:=ra.slice;obtain ⟨ae,ec,rfl⟩:=re.slice;obtain ⟨ai,ic,rfl⟩:=ri.slice;obtain ⟨ao,oc,rfl⟩:=ro.slice;have HG:=af h;have rV:=af ra;have nV:=af re;have qE:=af ri;have sI:=af ro;have hb:=au w (.cells #[.string g.name,.slice aa g.actors.length ac,.slice ae g.edges.length ec,.slice ai g.ins.length ic,.slice ao g.outs.length oc] 26);have HB:=af hb;have hX:=heap_alloc_new w (.cells #[.string g.name,.slice aa g.actors.length ac,.slice ae g.edges.length ec,.slice ai g.ins.length ic,.slice ao g.outs.length oc] 26);have HXB:=af hX;have x0:=ah _ _ hX 0 _ rfl;have x1:=ah _ _ hX 1 _ rfl;have x2:=ah _ _ hX 2 _ rfl;have x3:=ah _ _ hX 3 _ rfl;have x4:=ah _ _ hX 4 _ rfl;clear h ra re ri ro hb hX;obtain ⟨fa,fe,fi,fo⟩:=hf;have hR:=vv _ _ g i (HG.out.below HB.out) hi (hg _ (List.getElem_mem hi));have hsI:(ay g i).length<=16/\(aF g i).length<=16:=by
  have:=qh (hg _ (List.getElem_mem hi));unfold ay aF;rw [List.getElem?_eq_getElem hi];exact this
 obtain ⟨N,hN⟩:∃ N,mJ g i=N:=⟨_,rfl⟩;rw [hN];unfold mJ at hN;obtain ⟨n,hn⟩:∃ n,(ay g i).length=n:=⟨_,rfl⟩;obtain ⟨m,hm⟩:∃ n,(aF g i).length=n:=⟨_,rfl⟩;rw [hn,hm] at hN hR hsI;have HR:=af hR;have HN:=af hN;clear hR hN hn hm hg;obtain ⟨hn16,ack⟩:=hsI;go_enter Tryz.func70,Tryz.ntmps70;go_wp2_with fail;refine HR.out.mono ?_;rintro e w1 ⟨rfl,hb1⟩;replace x0:=cell_later hb1 x0;replace x1:=cell_later hb1 x1;replace x2:=cell_later hb1 x2;replace x3:=cell_later hb1 x3;replace x4:=cell_later hb1 x4;have HB1:=af (HB.out.trans (hb1.mono HB.out.size));clear hb1 HR HB HXB;go_wp2_with fail
 go_loopw [7] (fun x wl=>∃ j:Nat,j<=n/\x=.int .i64 j/\Below w1.heap.size w1 wl/\∀ k,k < j->inT g g.edges.length g.ins.length i k=true) (fun x _=>n - (intOf x).toNat)
 case atStart=>exact ⟨0,Nat.zero_le _,rfl,Below.refl _ _,fun k hk=>by omega⟩
 case round =>
  obtain ⟨j,hj,rfl,hbl,hall⟩:=hrel;have HA:=af hall;have Ov:=af hbl;have jU:=af (HB1.out.trans (hbl.mono HB1.out.size));clear hall hbl
  by_cases hlt:j < n
  ·
   have bX:(j:Int) < n:=by omega
   have y0:=cell_later Ov.out x0;have y1:=cell_later Ov.out x1;have y2:=cell_later Ov.out x2;have y3:=cell_later Ov.out x3;have y4:=cell_later Ov.out x4;go_wp2_with fail;refine (sJ _ _ g g.edges.length g.ins.length i j (HG.out.below jU.out) (Nat.le_refl _) (Nat.le_refl _) fe fi).mono ?_;rintro e w2 ⟨rfl,hb2⟩;obtain ⟨T,hT⟩:∃ T,inT g g.edges.length g.ins.length i j=T:=⟨_,rfl⟩;rw [hT];have HT:=af hT;have HB2:=af (Ov.out.trans (hb2.mono Ov.out.size));have MP:=af (jU.out.trans (hb2.mono jU.out.size));clear hT hb2 y0 y1 y2 y3 y4;cases T with
   | false =>
    have e:N=true:=by rw [<- HN.out];exact Qs (f:=fun k=>inT g g.edges.length g.ins.length i k) hlt HT.out
    subst e;go_wp2;go_ret;exact ⟨rfl,MP.out⟩
   | true =>
    go_wp2;go_roundw
    case rel=>exact ⟨j+1,hlt,by go_num,HB2.out,fun k hk=>by
     by_cases e:k=j
     ·
      subst e;exact HT.out
     ·
      exact HA.out k (by omega)⟩
    case measure=>simp [intOf];omega
  ·
   obtain rfl:j=n:=by omega
   have bX:¬ ((j:Int) < j):=by omega
   have y0:=cell_later Ov.out x0;have y1:=cell_later Ov.out x1;have y2:=cell_later Ov.out x2;have y3:=cell_later Ov.out x3;have y4:=cell_later Ov.out x4;clear hlt hj x0 x1 x2 x3 x4;go_wp2_with fail
   go_loopw [8] (fun x wl=>∃ j:Nat,j<=m/\x=.int .i64 j/\Below wr.heap.size wr wl/\∀ k,k < j->outT g g.edges.length g.outs.length i k=true) (fun x _=>m - (intOf x).toNat)
   case atStart=>exact ⟨0,Nat.zero_le _,rfl,Below.refl _ _,fun k hk=>by omega⟩
   case round =>
    obtain ⟨k,hk,rfl,hbl,hall⟩:=hrel;have HA2:=af hall;have Jo:=af hbl;have MP:=af (jU.out.trans (hbl.mono jU.out.size));clear hall hbl
    by_cases hlt:k < m
    ·
     have bX:(k:Int) < m:=by omega
     have z0:=cell_later Jo.out y0;have z1:=cell_later Jo.out y1;have z2:=cell_later Jo.out y2;have z3:=cell_later Jo.out y3;have z4:=cell_later Jo.out y4;go_wp2_with fail;refine (qM _ _ g g.edges.length g.outs.length i k (HG.out.below MP.out) (Nat.le_refl _) (Nat.le_refl _) fe fo).mono ?_;rintro e w2 ⟨rfl,hb2⟩;obtain ⟨T,hT⟩:∃ T,outT g g.edges.length g.outs.length i k=T:=⟨_,rfl⟩;rw [hT];have HT:=af hT;have HB2:=af (Jo.out.trans (hb2.mono Jo.out.size));have ng:=af (MP.out.trans (hb2.mono MP.out.size));clear hT hb2 z0 z1 z2 z3 z4;cases T with
     | false =>
      have e:N=true:=by rw [<- HN.out];exact MN (g:=fun k=>outT g g.edges.length g.outs.length i k) hlt HT.out
      subst e;go_wp2;go_ret;exact ⟨rfl,ng.out⟩
     | true =>
      go_wp2;go_roundw
      case rel=>exact ⟨k+1,hlt,by go_num,HB2.out,fun q hq=>by
       by_cases e:q=k
       ·
        subst e;exact HT.out
       ·
        exact HA2.out q (by omega)⟩
      case measure=>simp [intOf];omega
    ·
     obtain rfl:k=m:=by omega
     have bX:¬ ((k:Int) < k):=by omega
     have e:N=false:=by rw [<- HN.out];exact Vb (f:=fun k=>inT g g.edges.length g.ins.length i k) (g:=fun k=>outT g g.edges.length g.outs.length i k) HA.out HA2.out
     subst e;go_wp2;go_ret;exact ⟨rfl,MP.out⟩
abbrev vF (w:World) (os:List Obj):World:=os.foldl World.alloc w
theorem zh:∀ (os:List Obj) (w:World) (b:Nat) (x:Obj),w.heap[b]?=some x->(vF w os).heap[b]?=some x
 | [],_,_,_,h=>h
 | o :: os,w,b,x,h=>zh os (w.alloc o) b x (aI h o)
theorem gq:∀ (os:List Obj) (w:World) (k:Nat) (o:Obj),os[k]?=some o->(vF w os).heap[w.heap.size+k]?=some o
 | [],_,_,_,h=>by simp at h
 | x :: os,w,0,o,h=>by
  have e:x=o:=by simpa using h
  subst e;exact zh os (w.alloc x) _ x (heap_alloc_new w x)
 | x :: os,w,k+1,o,h=>by
  have:=gq os (w.alloc x) k o (by simpa using h);rw [World.size_alloc,show w.heap.size+1+k=w.heap.size+(k+1) by omega] at this;exact this
theorem ja:∀ (os:List Obj) (w:World),Below w.heap.size w (vF w os)/\w.heap.size<=(vF w os).heap.size
 | [],w=>⟨Below.refl _ _,Nat.le_refl _⟩
 | o :: os,w=>by
  have h:=ja os (w.alloc o);have h1:=au w o;have h2:w.heap.size<=(w.alloc o).heap.size:=h1.size;exact ⟨h1.trans (h.1.mono h2),Nat.le_trans h2 h.2⟩
theorem bG (w:World)(os:List Obj)(b i:Nat){cs:Array Value}{t:TypeId}{v:Value}(h:os[b]?=some (.cells cs t (0,0)))(hv:cs[i]?=some v):(vF w os).cell? ⟨w.heap.size+b,i,none⟩=some v:=ah _ _ (gq os w b _ h) i v hv
theorem Jp (w:World)(os:List Obj)(b:Nat){x:Int}{t:TypeId}(h:os[b]?=some (.cells #[.int .i64 x] t (0,0))):Has (vF w os) (.slice (some ⟨w.heap.size+b,0,none⟩) 1 1) (bB [x]) :=
 .inr ⟨by simp,_,0,1,rfl,Nat.le_refl _,block_lt (gq os w b _ h),rfl,fun k hk=>by
  match k,hk with
  | 0,_=>exact bG w os b 0 h rfl⟩
end Go.Proofs.YtepjkmnhmcjbkaaGreat
namespace Go.Proofs.YtepjkmnhmcjbkaaGreat
theorem Vd (t:Int):uG t≠0:=by rcases Jq t with h | h <;> rw [h] <;> decide
 where Jq (t:Int):uG t=60\/uG t=61:=by unfold uG;split <;> simp
theorem qU {g:av}:∀ (l:List fE) (i:Nat),iY g i l=0->∀ a∈l,aC a.tag a.params
 | [],_,_,_,h=>by cases h
 | x :: r,i,h,a,ha=>by
  rw [iY] at h
  split at h
  ·
   rename_i hne;exact absurd h hne
  ·
   rename_i hne
   rcases List.mem_cons.1 ha with rfl | ha
   ·
    unfold nR at hne
    split at hne
    ·
     rename_i h1;exact absurd h1 hne
    ·
     split at hne
     ·
      rename_i h2;exact h2
     ·
      exact absurd (Vd a.tag) hne
   ·
    exact qU r (i+1) h a ha
theorem CO {g:av}:∀ (l:List jw) (i:Nat),kI g i l=0->∀ k (h:k < l.length),p9 g (i+k) l[k]=0
 | [],_,_,k,h=>by simp at h
 | x :: r,i,h,k,hk=>by
  rw [kI] at h
  split at h
  ·
   rename_i hne;exact absurd h hne
  ·
   rename_i hne
   cases k with
   | zero=>show p9 g i x=0;omega
   | succ k =>
    have:=CO r (i+1) h k (by simpa using hk);rw [show i+1+k=i+(k+1) by omega] at this;exact this
theorem La {g:av}:∀ (l:List fF) (i:Nat),u6 g i l=0->∀ k (h:k < l.length),Mt g (i+k) l[k]=0
 | [],_,_,k,h=>by simp at h
 | x :: r,i,h,k,hk=>by
  rw [u6] at h
  split at h
  ·
   rename_i hne;exact absurd h hne
  ·
   rename_i hne
   cases k with
   | zero=>show Mt g i x=0;omega
   | succ k =>
    have:=La r (i+1) h k (by simpa using hk);rw [show i+1+k=i+(k+1) by omega] at this;exact this
theorem Gt {g:av}:∀ (l:List fF) (i:Nat),nU g i l=0->∀ k (h:k < l.length),xL g (i+k) l[k]=0
 | [],_,_,k,h=>by simp at h
 | x :: r,i,h,k,hk=>by
  rw [nU] at h
  split at h
  ·
   rename_i hne;exact absurd h hne
  ·
   rename_i hne
   cases k with
   | zero=>show xL g i x=0;omega
   | succ k =>
    have:=Gt r (i+1) h k (by simpa using hk);rw [show i+1+k=i+(k+1) by omega] at this;exact this
theorem zS {g:av}{L:Nat->List Int}{a p:Int}{b:Bool}(h:p8 g L a p b=0):(0<=a/\a < g.actors.length)/\(0<=p/\p < (L a.toNat).length)/\b=false:=by
 unfold p8 at h
 split at h
 ·
  cases h
 split at h
 ·
  cases h
 split at h
 ·
  cases h
 ·
  rename_i h1 h2 h3
  exact ⟨by omega,by omega,by simpa using h3⟩
structure Sound (g:av):Prop where
 head:lq g=0
 good:∀ a∈g.actors,aC a.tag a.params
 edge:∀ k (h:k < g.edges.length),(0<=g.edges[k].src/\g.edges[k].src < g.actors.length)/\(0<=g.edges[k].dw/\g.edges[k].dw < (aF g g.edges[k].src.toNat).length)/\outT g k 0 g.edges[k].src g.edges[k].dw=false /\
  (0<=g.edges[k].dst/\g.edges[k].dst < g.actors.length)/\(0<=g.edges[k].dx/\g.edges[k].dx < (ay g g.edges[k].dst.toNat).length)/\inT g k 0 g.edges[k].dst g.edges[k].dx=false/\g.edges[k].start.length<=256
 ins:∀ k (h:k < g.ins.length),(0<=g.ins[k].aW/\g.ins[k].aW < g.actors.length)/\(0<=g.ins[k].port/\g.ins[k].port < (ay g g.ins[k].aW.toNat).length)/\inT g g.edges.length k g.ins[k].aW g.ins[k].port=false
 outs:∀ k (h:k < g.outs.length),(0<=g.outs[k].aW/\g.outs[k].aW < g.actors.length)/\(0<=g.outs[k].port/\g.outs[k].port < (aF g g.outs[k].aW.toNat).length)/\outT g g.edges.length k g.outs[k].aW g.outs[k].port=false
 allI:∀ t q,t < g.actors.length->q < (ay g t).length->inT g g.edges.length g.ins.length t q=true
 aby:∀ t q,t < g.actors.length->q < (aF g t).length->outT g g.edges.length g.outs.length t q=true
theorem Gu {g:av}(h:jH g=0):Sound g:=by
 rw [<- Cx] at h;unfold I5 at h
 split at h
 ·
  rename_i h1;exact absurd h h1
 rename_i h1
 split at h
 ·
  rename_i h2;exact absurd h h2
 rename_i h2
 split at h
 ·
  rename_i h3;exact absurd h h3
 rename_i h3
 split at h
 ·
  rename_i h4;exact absurd h h4
 rename_i h4
 split at h
 ·
  rename_i h5;exact absurd h h5
 rename_i h5
 have q2:iY g 0 g.actors=0:=by omega
 have q3:kI g 0 g.edges=0:=by omega
 have q4:u6 g 0 g.ins=0:=by omega
 have q5:nU g 0 g.outs=0:=by omega
 refine ⟨by omega,qU _ 0 q2,fun k hk=>?_,fun k hk=>?_,fun k hk=>?_,fun t q ht hq=>?_,fun t q ht hq=>?_⟩
 ·
  have e:=CO g.edges 0 q3 k hk;rw [Nat.zero_add] at e;unfold p9 at e
  split at e
  ·
   rename_i e1;exact absurd e e1
  split at e
  ·
   rename_i e1;exact absurd e e1
  split at e
  ·
   cases e
  rename_i e1 e2 e3
  obtain ⟨a1,a2,a3⟩:=zS (show p8 g (aF g) g.edges[k].src g.edges[k].dw (outT g k 0 g.edges[k].src g.edges[k].dw)=0 by omega);obtain ⟨b1,b2,b3⟩:=zS (show p8 g (ay g) g.edges[k].dst g.edges[k].dx (inT g k 0 g.edges[k].dst g.edges[k].dx)=0 by omega);exact ⟨a1,a2,a3,b1,b2,b3,by omega⟩
 ·
  have e:=La g.ins 0 q4 k hk;rw [Nat.zero_add] at e;unfold Mt at e
  split at e
  ·
   rename_i e1;exact absurd e e1
  ·
   exact zS e
 ·
  have e:=Gt g.outs 0 q5 k hk;rw [Nat.zero_add] at e;unfold xL at e
  split at e
  ·
   rename_i e1;exact absurd e e1
  ·
   exact zS e
 all_goals
  unfold yU at h
  split at h
  ·
   cases h
  rename_i h6
  rw [List.any_eq_true] at h6;have h7:mJ g t=false:=by
   cases e:mJ g t with
   | false=>rfl
   | true=>exact absurd ⟨t,List.mem_range.2 ht,e⟩ h6
  unfold mJ at h7;rw [Bool.or_eq_false_iff,List.any_eq_false,List.any_eq_false] at h7
 ·
  have:=h7.1 q (List.mem_range.2 hq)
  simpa using this
 ·
  have:=h7.2 q (List.mem_range.2 hq)
  simpa using this
end Go.Proofs.YtepjkmnhmcjbkaaGreat
