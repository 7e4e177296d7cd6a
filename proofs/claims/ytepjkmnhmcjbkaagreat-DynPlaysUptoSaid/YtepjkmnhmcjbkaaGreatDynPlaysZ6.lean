import Derived.Test.YtepjkmnhmcjbkaaGreatDynPlaysZ5
import Derived.Test.YtepjkmnhmcjbkaaGreatDynPlaysZ3
import Derived.Test.YtepjkmnhmcjbkaaGreatDynPlaysZ2
import Derived.Laws.ResultCell
import Derived.Laws.Rows
set_option linter.unusedVariables false
set_option linter.unusedSimpArgs false
set_option maxRecDepth 100000
set_option maxHeartbeats 20000000
namespace Go.Proofs.YtepjkmnhmcjbkaaGreat
open Go.RowKit
section
variable {w:World} {o o':Col}
theorem cu.iO {c:Nat}{v:Value}{vs:List Value}(h:cu w o c v vs)(ho:∀ k,o k=c->o' k=c):cu w o' c v vs:=by
 rcases h with h | ⟨hp,b,off,cap,e,hl,hb,hc,hcl⟩
 ·
  exact .inl h
 ·
  exact .inr ⟨hp,b,off,cap,e,hl,hb,ho b hc,hcl⟩
theorem iQ.dO {c d b:Nat}{t:Int}{ps keep:List Int}{n:Int}{K:Nat}{vi vo vt vs:Value}(h:iQ w o c d b t ps keep n K vi vo vt vs)(hc:∀ k,o k=c->o' k=c)(hd:∀ k,o k=d->o' k=d):iQ w o' c d b t ps keep n K vi vo vt vs :=
 ⟨h.body.dO (hd b h.body.2),h.kind.dO (hc K h.kind.2),h.ins.iO hd,h.outs.iO hd,fun e=>⟨(h.oI e).1.iO hd,(h.oI e).2.1.iO hd,(h.oI e).2.2⟩,h.good,h.BL,h.qK,h.mR,h.sF,h.Uz,h.ne⟩
theorem Act.dO {c d b:Nat}{t:Int}{ps keep:List Int}{n:Int}(h:Act w o c d b t ps keep n)(hc:∀ k,o k=c->o' k=c)(hd:∀ k,o k=d->o' k=d):Act w o' c d b t ps keep n:=by
 obtain ⟨K,vi,vo,vt,vs,h⟩:=h;exact ⟨K,vi,vo,vt,vs,h.dO hc hd⟩
end
def Li (w:World)(o:Col)(c d:Nat)(gv:Value)(l:List (List Int))(vs:List Value):Prop :=
 Own w o c 27 1 gv l.length vs/\vs.length=l.length/\∀ k (h:k < l.length),bT w o (d+k) 3 (vs[k]?.getD undef) (bB l[k])
open Classical in
theorem M9 {w:World}{o:Col}{c d b:Nat}{t:Int}{ps keep:List Int}{n:Int}{bF:Value}{xss:List (List Int)}(c8 d8:Nat)(h:Act w o c d b t ps keep n)(hins:LL w bF xss)(hf:∀ l∈xss,∀ x∈l,Fits x)(hn1:Fits (n+1)) :
  Calls Tryz.prog 74 #[.pointer (some ⟨b,0,none⟩),bF] w fun e w'=>∃ gv o' vs,e=.returned (.tuple #[gv,.int .i64 (iD t ps keep n xss).err])/\Turn o o' (fun x=>x=c) w w'/\Act w' o' c d b t ps (iD t ps keep n xss).keep (iD t ps keep n xss).n/\Li w' o' c8 d8 gv (iD t ps keep n xss).outs vs:=by
 obtain ⟨E,hE⟩:∃ E,E=c+d+1:=⟨_,rfl⟩;obtain ⟨oz,hoz⟩:∃ oz:Col,oz=fun k=>if o k=E then E+1 else o k:=⟨_,rfl⟩;have z1:∀ k,oz k≠E:=fun k=>by
  rw [hoz];show (if o k=E then E+1 else o k)≠E
  split
  ·
   omega
  ·
   assumption
 have z2:∀ k,oz k≠E+1->oz k=o k:=fun k=>by
  rw [hoz];show (if o k=E then E+1 else o k)≠E+1->(if o k=E then E+1 else o k)=o k
  split
  ·
   intro h;exact absurd rfl h
  ·
   intro _;rfl
 have z3:∀ k,o k≠E->oz k=o k:=fun k hk=>by
  rw [hoz];show (if o k=E then E+1 else o k)=o k
  rw [if_neg hk]
 have hz:Act w oz c d b t ps keep n:=h.dO (fun k hk=>by rw [z3 k (by omega),hk]) (fun k hk=>by rw [z3 k (by omega),hk]);refine (PX E (by omega) hz hins hf hn1).mono ?_;rintro e w' ⟨gv,o1,rfl,T,hA,vs,v1,v2,v3,v4,v5⟩;obtain ⟨outs,hout⟩:∃ x,(iD t ps keep n xss).outs=x:=⟨_,rfl⟩;rw [hout] at v1 v3 v4 v5 ⊢;have new:∀ k,o1 k=E->w.heap.size<=k:=fun k hk=>by
  rcases Nat.lt_or_ge k w.heap.size with h | h
  ·
   rw [T.same k h] at hk;exact absurd hk (z1 k)
  ·
   exact h
 obtain ⟨o2,ho2⟩:∃ o2:Col,o2=fun k=>if k < w.heap.size then o k else if gv.ownBlock=some k then c8 else if hj:∃ j,j < outs.length/\(vs[j]?.getD undef).ownBlock=some k then d8+Classical.choose hj else o1 k:=⟨_,rfl⟩;have hold:∀ k,k < w.heap.size->o2 k=o k:=fun k hk=>by rw [ho2];exact if_pos hk
 have hel:∀ k,o1 k≠E->w.heap.size<=k->o2 k=o1 k:=fun k hk hs=>by
  rw [ho2];show (if k < w.heap.size then o k else if gv.ownBlock=some k then c8 else if hj:∃ j,j < outs.length/\(vs[j]?.getD undef).ownBlock=some k then d8+Classical.choose hj else o1 k)=o1 k
  rw [if_neg (by omega),if_neg (fun hg=>hk (v2.2 k hg)),dif_neg (fun hj=>by
   obtain ⟨j,j1,j2⟩:=hj;exact hk ((v3 j j1).2 k j2))]
 refine ⟨gv,o2,vs,rfl,⟨T.mods.mono (fun k hk hc=>?_),hold⟩,hA.dO (fun k hk=>?_) (fun k hk=>?_),?_,v1,fun j hj=>?_⟩
 ·
  show o k=c
  have hc:oz k=c:=hc;rw [<- z2 k (by omega)];exact hc
 ·
  rcases Nat.lt_or_ge k w.heap.size with hs | hs
  ·
   rw [T.same k hs] at hk;rw [hold k hs,<- z2 k (by omega)];exact hk
  ·
   rw [hel k (by omega) hs];exact hk
 ·
  rcases Nat.lt_or_ge k w.heap.size with hs | hs
  ·
   rw [T.same k hs] at hk;rw [hold k hs,<- z2 k (by omega)];exact hk
  ·
   rw [hel k (by omega) hs];exact hk
 ·
  rw [<- v1];refine v2.dO (fun k hk=>?_);have hs:=new k (v2.2 k hk);rw [ho2];show (if k < w.heap.size then o k else if gv.ownBlock=some k then c8 else _)=c8
  rw [if_neg (by omega),if_pos hk]
 ·
  have hr:=v3 j hj;rw [List.getElem?_eq_getElem hj] at hr;refine bT.JB (n:=outs[j].length) (hr.dO (fun k hk=>?_));have hs:=new k (hr.2 k hk);have hx:∃ j,j < outs.length/\(vs[j]?.getD undef).ownBlock=some k:=⟨j,hj,hk⟩;rw [ho2];show (if k < w.heap.size then o k else if gv.ownBlock=some k then c8 else if hj:∃ j,j < outs.length/\(vs[j]?.getD undef).ownBlock=some k then d8+Classical.choose hj else o1 k)=d8+j
  rw [if_neg (by omega),if_neg (v5 j k hj hk),dif_pos hx];obtain ⟨y1,y2⟩:=Classical.choose_spec hx
  congr 1
  rcases Nat.lt_trichotomy (Classical.choose hx) j with hlt | heq | hgt
  ·
   exact absurd hk (v4 _ j k hlt hj y2)
  ·
   exact heq
  ·
   exact absurd y2 (v4 j _ k hgt y1 hk)
theorem dW.fired {w w2:World}{o o2:Col}{M b:Nat}{g:av}{qs:bR}{t:Nat}{x:bW}{v:jf}{S:Mr}{gv:Value}{gs:List Value}(h:dW w o M b g qs t x v)(T0:Turn o o2 (fun c=>c=M+1) w w2)(hA:∀ a,g.actors[t]?=some a->Act w2 o2 (M+1) (M+2) v.body a.tag a.params S.keep S.n)(hG:Li w2 o2 (M+8) (M+32) gv S.outs gs)(hol:S.outs.length<=16) :
  dW (((w2.setCell ⟨b,6,none⟩ gv).setCell ⟨b,8,none⟩ (.bool true)).setCell ⟨b,7,none⟩ (.int .i64 0)) o2 M b g qs t { x with keep:=S.keep,n:=S.n,bg:=S.outs,gives:=true,port:=0 } { v with bg:=gv,GA:=gs }/\Turn o2 o2 (fun c=>c=M) w2 (((w2.setCell ⟨b,6,none⟩ gv).setCell ⟨b,8,none⟩ (.bool true)).setCell ⟨b,7,none⟩ (.int .i64 0)):=by
 obtain ⟨B1,S1⟩:=(h.blk.turn T0 (by omega)).set 6 gv;obtain ⟨B2,S2⟩:=B1.set 8 (.bool true);obtain ⟨B3,S3⟩:=B2.set 7 (.int .i64 0);have SS:=(S1.trans S2 (fun _ h=>h)).trans S3 (fun _ h=>h);have TS:=(T0.mono (D:=fun c=>c=M+1\/c=M) (fun c hc=>.inl hc)).trans (SS.mono (D:=fun c=>c=M+1\/c=M) (fun c hc=>.inr hc)) (fun _ h=>h);obtain ⟨f1,f2,f3,f4⟩:=h.few;obtain ⟨g1,g2,g3⟩:=hG;refine ⟨⟨?_,fun a ha=>(hA a ha).turn SS (by omega) (by omega),h.ins.turn TS (by omega),h.outs.turn TS (by omega),h.src.turn TS (by omega),h.dst.turn TS (by omega),h.hand.turn TS (by omega) (fun k _=>by omega),.inr ⟨rfl,g1.turn SS (by omega),g2,fun k hk=>(g3 k hk).turn SS (by omega)⟩,f1,f2,f3,hol⟩,SS⟩;have hcs:(((iX x v (ay g t).length).toArray.setIfInBounds 6 gv).setIfInBounds 8 (.bool true)).setIfInBounds 7 (.int .i64 0)=(iX { x with keep:=S.keep,n:=S.n,bg:=S.outs,gives:=true,port:=0 } { v with bg:=gv,GA:=gs } (ay g t).length).toArray:=by
  unfold iX;simp
 rw [hcs] at B3;exact B3
theorem dW.failed {w w2:World}{o o2:Col}{M b:Nat}{g:av}{qs:bR}{t:Nat}{x:bW}{v:jf}(h:dW w o M b g qs t x v)(T0:Turn o o2 (fun c=>c=M+1) w w2)(hA:∀ a,g.actors[t]?=some a->Act w2 o2 (M+1) (M+2) v.body a.tag a.params x.keep x.n):dW w2 o2 M b g qs t x v :=
 ⟨h.blk.turn T0 (by omega),hA,h.ins.turn T0 (by omega),h.outs.turn T0 (by omega),h.src.turn T0 (by omega),h.dst.turn T0 (by omega),h.hand.turn T0 (by omega) (fun k _=>by omega),h.bg.turn T0 (by omega) (fun k _=>by omega),h.few⟩
theorem Na {t:Int}{ps keep:List Int}{n:Int}{xss:List (List Int)}(h:(iD t ps keep n xss).err≠0):(iD t ps keep n xss).keep=keep/\(iD t ps keep n xss).n=n:=by
 unfold iD at h ⊢
 split
 ·
  rename_i hf
  rw [if_pos hf] at h
  split
  ·
   rename_i hr
   rw [hr] at h;exact absurd rfl h
  ·
   exact ⟨rfl,rfl⟩
 ·
  exact ⟨rfl,rfl⟩
theorem QL {g:av}(hg:fG g){t:Nat}(ht:t < g.actors.length){x:bW}(he:(dV g t x).err=0):(dV g t x).outs.length=(aF g t).length:=by
 have ha:g.actors[t]?=some g.actors[t]:=List.getElem?_eq_getElem ht;have hgood:=hg.good _ (List.getElem_mem ht);have eO:aF g t=aV g.actors[t].tag g.actors[t].params:=by unfold aF;rw [ha]
 have eS:dV g t x=iD g.actors[t].tag g.actors[t].params x.keep x.n x.hand:=by unfold dV;rw [ha]
 rw [eS] at he ⊢;unfold iD at he ⊢
 split
 ·
  rename_i hfit
  rw [if_pos hfit] at he
  split
  ·
   rename_i outs keep' hr
   have:=congrArg List.length (nD hgood hfit hr);rw [List.length_map] at this;rw [eO];exact this
  ·
   rename_i hr
   rw [hr] at he;cases he
 ·
  rename_i hfit
  rw [if_neg hfit] at he;cases he
end Go.Proofs.YtepjkmnhmcjbkaaGreat
namespace Go.Proofs.YtepjkmnhmcjbkaaGreat
section
variable {P:Program} {md:Region.Mode} {ops:Array Oper} {Q:Exit->Go.Act->World->Prop} {S:World->Prop}
def Lj (md:Region.Mode)(ops:Array Oper)(listed:Array Bool):Bool :=
 (List.range ops.size).all fun j=>!(listed.getD j false) || (match ops[j]? with | none=>true | some o=>o.after.all fun e=>!(Region.binds md e) || listed.getD e.on false)
theorem Er {listed:Array Bool}(h:Lj md ops listed=true):gH md ops listed:=by
 intro j oj hj hl e he hb;have hlt:=(Array.getElem?_eq_some_iff.1 hj).1;have h1:=List.all_eq_true.1 h j (List.mem_range.2 hlt);rw [hl,hj] at h1;simp only [Bool.not_true,Bool.false_or] at h1;have h2:=Array.all_eq_true'.1 h1 e he;rw [hb] at h2
 simpa using h2
def Vq (md:Region.Mode)(ops:Array Oper)(reads M:List Nat):Bool :=
 Region.noSelect ops && (reads.all fun i=>nH ops i || (List.range ops.size).all fun j=>jd ops j || reads.contains j || M.contains j || gN md ops ops.size j i)
theorem QM {reads M:List Nat}(h:Vq md ops reads M=true):Region.noSelect ops=true/\∀ i∈reads,nH ops i=false->∀ j,j < ops.size->jd ops j=true\/reads.contains j=true\/M.contains j=true\/gN md ops ops.size j i=true:=by
 simp only [Vq,Bool.and_eq_true,List.all_eq_true,List.mem_range,Bool.or_eq_true] at h;refine ⟨h.1,fun i hi hany j hj=>?_⟩
 rcases h.2 i hi with h0 | h0
 ·
  rw [hany] at h0;cases h0
 rcases h0 j hj with ((h1 | h1) | h1) | h1
 ·
  exact .inl h1
 ·
  exact .inr (.inl h1)
 ·
  exact .inr (.inr (.inl h1))
 ·
  exact .inr (.inr (.inr h1))
theorem cB {id:Nat}{l:List Oper}{a:Go.Act}{w:World}(S:World->Prop)(reads M r:List Nat)(n:Nat)(hm:P.follows .mixedOrders=true)
  (hB:(Vq .any l.toArray reads M && fJ .any l.toArray (fun _=>true) r (Array.replicate l.toArray.size false) && r.all fun i=>reads.contains i)=true) (hlen:r.length+n=l.length) (hS:S w.drew)
  (h:∀ Q':Exit->Go.Act->World->Prop,(∀ a w,Q .normal a w->Q' .normal a w)->(∀ c a a' w,Q' (.panic c) a w->Q' (.panic c) a' w)->dX P l.toArray S (fun a'=>eZ P .any l.toArray Q' S (oG l.toArray reads M) n (gF (Array.replicate l.length false) r) a' w.drew) (aQ l.toArray r) a):(Code.region id l.toArray true).wp P Q a w:=by
 refine wp_region_noPanic ?_;refine wp_region_any hm ?_;simp only [Bool.and_eq_true] at hB;obtain ⟨⟨hb,hl⟩,hr⟩:=hB;obtain ⟨hsel,hbe⟩:=QM hb;refine kG (S:=S) (B:=oG l.toArray reads M) _ _ _ _ ?_;have key:=gP (P:=P) (md:=.any) (Q:=NoPanic Q) (S:=S) (reads:=reads) (M:=M) (n:=n) hsel (fun c a a' w h=>h) hbe r (Array.replicate l.toArray.size false) a { w with drawn:=w.drawn+1 } (fun i hi=>by simpa using List.all_eq_true.1 hr i hi)
  (fun j oj _ hl=>by rw [getD_replicate_false] at hl;cases hl) hl hS (by simpa using h (NoPanic Q) (fun _ _ h=>NoPanic.normal h) (fun c a a' w h=>h))
 rw [hlen] at key
 simpa using key
theorem dM {reads M:List Nat}{r:List Nat}{n:Nat}{listed:Array Bool}{a:Go.Act}{w:World}(hQ:∀ c a a' w,Q (.panic c) a w->Q (.panic c) a' w)
  (hB:(Vq md ops reads M && Lj md ops listed && fJ md ops (fun _=>true) r listed && r.all fun i=>reads.contains i)=true) (hS:S w) (h:dX P ops S (fun a'=>eZ P md ops Q S (oG ops reads M) n (gF listed r) a' w) (aQ ops r) a):eZ P md ops Q S (oG ops reads M) (r.length+n) listed a w:=by
 simp only [Bool.and_eq_true] at hB;obtain ⟨⟨⟨hb,hc⟩,hl⟩,hr⟩:=hB;obtain ⟨hsel,hbe⟩:=QM hb;exact gP hsel hQ hbe r listed a w (fun i hi=>by simpa using List.all_eq_true.1 hr i hi) (Er hc) hl hS h
theorem Es {B:Nat->Bool}{n i k m:Nat}{listed:Array Bool}{a:Go.Act}{w:World}(hr:Region.ready md ops listed=[i,k,m])(h:wpList P ops (mW Q fun a' w'=>(B i=true->S w->S w')/\eZ P md ops Q S B n (listed.setIfInBounds i true) a' w') (aQ ops [i]) a w)
  (h':wpList P ops (mW Q fun a' w'=>(B k=true->S w->S w')/\eZ P md ops Q S B n (listed.setIfInBounds k true) a' w') (aQ ops [k]) a w)
  (h'':wpList P ops (mW Q fun a' w'=>(B m=true->S w->S w')/\eZ P md ops Q S B n (listed.setIfInBounds m true) a' w') (aQ ops [m]) a w):eZ P md ops Q S B (n+1) listed a w:=by
 have hi:i∈Region.ready md ops listed:=by rw [hr];simp
 have hk:k∈Region.ready md ops listed:=by rw [hr];simp
 have hm:m∈Region.ready md ops listed:=by rw [hr];simp
 refine ⟨fun h0=>(by rw [h0] at hr;cases hr),fun j hj=>?_⟩;rw [hr] at hj
 rcases List.mem_cons.1 hj with rfl | hj
 ·
  exact jQ (eF hi) h
 rcases List.mem_cons.1 hj with rfl | hj
 ·
  exact jQ (eF hk) h'
 ·
  obtain rfl:j=m:=by simpa using hj
  exact jQ (eF hm) h''
end
open Go.RowKit
theorem vH.ll {w:World}{o:Col}{c d g:Nat}{l:List (List Int)}{vs:List Value}(h:vH w o c d g l vs):LL w (.slice (some ⟨g,0,none⟩) l.length l.length) l:=by
 have:=lU (w:=w) (o:=o) (c:=c) (ao:=some ⟨g,0,none⟩) (vs:=vs) (cap:=l.length) (by rw [h.len];exact Nat.le_refl _) (fun h=>by cases h) (fun a ha=>by cases ha;rfl) (fun ad had j u hu=>by
  obtain rfl:=Option.some.inj had;rw [Addr.add_lit,Nat.zero_add];exact h.blk.cell j u (by simpa using hu)) (fun a ha _=>by cases ha;exact h.blk.2)
 rw [h.len] at this;refine ⟨vs,h.len,this.has,fun k hk=>?_⟩;have hr:=(h.row k hk).vals.has;rw [List.getElem?_eq_getElem (by rw [h.len];exact hk),List.getElem?_eq_getElem hk];exact hr
def aat (w:World)(o:Col)(M b:Nat)(g:av)(qs:bR)(t:Nat)(x:bW)(S:Mr)(x':bW)(e:Ending)(w':World):Prop :=
 ∃ o' v',Turn o o' (dG M) w w'/\((S.err≠0/\e=.returned (.bool false)/\dW w' o' M b g qs t x v')\/(S.err=0/\e=.returned (.bool true)/\dW w' o' M b g qs t x' v'))
theorem GI {w:World}{o:Col}{M b s:Nat}{g:av}{qs:bR}{t:Nat}{x:bW}{v:jf}(h:dW w o M b g qs t x v)(hg:x.gives=false)(hO:xu g t s x)(hga:fG g)(ht:t < g.actors.length)(hs:s < 4611686018427387904)(hp:¬ x.port < (ay g t).length) :
  Calls Tryz.prog 47 #[.pointer (some ⟨b,0,none⟩)] w (aat w o M b g qs t x (dV g t x) (uZ (ay g t).length (aF g t).length x (dV g t x))):=by
 obtain ⟨C9,hpl,hfull,hnone,hless⟩:=hO.take hg;have Yj:x.whole < 4611686018427387904:=by have:=hO.whole;omega
 have hn1:Fits (x.n+1):=by have:=hO.num;unfold Fits;omega
 have ha:g.actors[t]?=some g.actors[t]:=List.getElem?_eq_getElem ht;have hS:dV g t x=iD g.actors[t].tag g.actors[t].params x.keep x.n x.hand:=by unfold dV;rw [ha]
 have hact:=h.act _ ha;have WX:(dV g t x).err≠0->(dV g t x).keep=x.keep/\(dV g t x).n=x.n:=by rw [hS];exact Na
 have zJ:(dV g t x).err=0->(dV g t x).outs.length<=16:=fun he=>by rw [QL hga ht he];exact h.few.2.1
 have vT:=af (And.intro WX (And.intro zJ ha));clear WX zJ;have hll:=h.hand.ll;rw [hO.hlen] at hll;have Ll:=fun m=>M9 (M+8) (M+32) (hact.drewN m) (hll.below (cK (n:=m) (Below.refl _ w))) hO.hfit hn1;rw [<- hS] at Ll;have hb:=h.blk;unfold iX at hb;have c8:=hb.cell 8 _ rfl;have c7:=hb.cell 7 _ rfl;have c0:=hb.cell 0 _ rfl;have c3:=hb.cell 3 _ rfl;have c5:=hb.cell 5 _ rfl;obtain ⟨ia,ic,hia⟩:=h.ins.slice;change w.cell? _=some v.ins at c3;change w.cell? _=some (.bool x.gives) at c8;change w.cell? _=some (.slice (some ⟨v.hand,0,none⟩) (ay g t).length (ay g t).length) at c5;change w.cell? _=some (.int .i64 (x.port:Int)) at c7;rw [hg] at c8;rw [hia] at c3;have hpe:x.port=(ay g t).length:=by omega
 obtain ⟨n,hn⟩:∃ n,(ay g t).length=n:=⟨_,rfl⟩;rw [hn] at c3 c5 hpe Ll;rw [hpe] at c7;have H:=af h;have HF:=af (Ll 2);have HG:=af (And.intro hn (And.intro hg (And.intro Yj C9)));obtain ⟨X',QG⟩:∃ y,uZ n (aF g t).length x (dV g t x)=y:=⟨_,rfl⟩;rw [hn,QG];have Yl:=af QG;obtain ⟨er,her⟩:∃ y,(dV g t x).err=y:=⟨_,rfl⟩;have HER:=af her;clear QG h hg hO C9 hpl hfull hnone hless hn1 ha hact hll Ll hb hia hpe hn Yj hs hp her;go_enter Tryz.func47,Tryz.ntmps47;go_wp2_with fail;refine aM (fun w'=>w'.cell? ⟨b,7,none⟩=some (.int .i64 (n:Int))/\w'.cell? ⟨b,3,none⟩=some (.slice ia n ic)) [0,1,2,3,4,5,6,7,8,9] [10] (by kernel_rfl) (by kernel_rfl) rfl (fun _ _ hx h=>⟨hx.cell h.1,hx.cell h.2⟩) ⟨c7,c3⟩ ?_;intro Q' hQ';simp only [pk];refine aD ?_;refine ax ?_;go_wp2_with fail;refine cB (fun w'=>w'.cell? ⟨b,0,none⟩=some (.pointer (some ⟨v.body,0,none⟩))/\w'.cell? ⟨b,5,none⟩=some (.slice (some ⟨v.hand,0,none⟩) n n)) [0,1,2,3,4,5,6,7,9,10,11] [] [0,1,2,3,4,5,6,7] 6 (by kernel_rfl) (by kernel_rfl) rfl ⟨c0,c5⟩ ?_;intro Q' hQ' lD;simp only [pk];refine aD ?_;refine ax ?_;refine aB (i:=8) (by kernel_rfl) ?_;simp only [pk];go_wp2_with fail;refine HF.out.mono ?_;rintro e w2 ⟨gv,o2,gs,rfl,T,A2,G2⟩;obtain ⟨ga,gc,rfl⟩:=G2.1.slice;obtain ⟨gl,hgl⟩:∃ y,(dV g t x).outs.length=y:=⟨_,rfl⟩;have HG2:=af G2;rw [hgl];have HGL:=af hgl;have T0:=(((Turn.refl o (fun x=>x=M+1) w).drewN 2).trans T (fun _ h=>h));have d0:=T0.cell c0 (by show ¬ o b=M+1;rw [H.out.blk.2];omega);have d5:=T0.cell c5 (by show ¬ o b=M+1;rw [H.out.blk.2];omega);have B2:=H.out.blk.turn T0 (by omega);have e6:=B2.cell 6 _ rfl;have e7:=B2.cell 7 _ rfl;have e8:=B2.cell 8 _ rfl;have f6:=B2.frozen 6;have f7:=B2.frozen 7;have f8:=B2.frozen 8;have HT0:=af T0;have HA2:=af A2;rw [HER.out];clear T A2 G2 T0 c0 c5 c7 c3 B2 hgl;go_wp2_with fail;refine ⟨(fun h=>by cases h),?_⟩;refine dM (r:=[9,10,11]) (n:=2) lD (by kernel_rfl) ⟨d0,d5⟩ ?_;simp only [pk];refine aD ?_;refine ax ?_;clear lD;refine aJ (ks:=[12,13]) (fun _ _ hx h=>⟨hx.cell h.1,hx.cell h.2⟩) (by kernel_rfl) ?_;simp only [pk]
 by_cases hz:er=0
 ·
  have hei:(er != 0)=false:=by rw [hz];rfl
  have HZ:=af hz;clear hz;obtain ⟨Zk,S4⟩:=H.out.fired HT0.out (S:=dV g t x) (fun a ha=>by rw [vT.out.2.2] at ha;cases ha;exact HA2.out) HG2.out (vT.out.2.1 (by rw [HER.out];exact HZ.out));rw [HGL.out] at Zk S4;have QH:=af Zk;have Zl:=af S4;clear Zk S4;go_wp2_with fail;refine (sS QH.out HG.out.2.2.1 (Nat.zero_le _)).mono ?_;rintro e w5 ⟨o5,v5,rfl,T5,WW⟩;have zI:=af T5;have QI:=af WW;clear T5 WW;go_wp2_with fail;go_ret;refine ⟨o5,v5,((HT0.out.mono (D:=dG M) (fun c hc=>by rw [hc];unfold dG;omega)).trans (Zl.out.mono (oh M)) (fun _ h=>h)).trans zI.out (fun _ h=>h),.inr ⟨HER.out.trans HZ.out,rfl,?_⟩⟩;rw [<- Yl.out,<- HG.out.1];exact QI.out
 ·
  have hei:(er != 0)=true:=by simpa using hz
  have HZ:=af hz;clear hz;go_wp2_with fail;go_ret;refine ⟨o2,v,HT0.out.mono (fun c hc=>by rw [hc];unfold dG;omega),.inl ⟨by rw [HER.out];exact HZ.out,rfl,H.out.failed HT0.out (fun a ha=>?_)⟩⟩;rw [vT.out.2.2] at ha;cases ha
  have hh:=vT.out.1 (by rw [HER.out];exact HZ.out);have hA:=HA2.out;rw [hh.1,hh.2] at hA;exact hA
theorem fU.stepped {w w2 w':World}{o o2 o':Col}{R b:Nat}{g:av}{caps:List Int}{N N':Nat->Nat}{qs:bR}{r:bH}{v:bO}{C:Nat->Prop}{t:Nat}{x':bW}{tv':jf}{Da:Nat->List Int}{rows':Nat->Value}(h:fU w o R b g caps N qs r v)(ht:t < g.actors.length)(T1:Turn o o2 C w w2)(hC:∀ k,C k->R+4000<=k/\k < R+6000)(T2:Turn o2 o' (dG (R+100+64*t)) w2 w')
  (TA:dW w' o' (R+100+64*t) (v.tb t) g qs t x' tv')
  (hq:∀ d,d < g.edges.length+g.ins.length->xw w' o' (R+4000+d) (qs d) (oK caps d) (Da d) (N' d))
  (htp:∀ d,g.edges.length+g.ins.length<=d->d < g.edges.length+g.ins.length+g.outs.length->xW w' o' (R+4000+d) (R+5000+d) (qs d) (rows' d) (Da d)) :
  fU w' o' R b g caps N' qs ⟨⟨upd r.aP.tasks t x',Da⟩,r.failed⟩ { v with tv:=upd v.tv t tv',rows:=rows' }/\Turn o o' (bV R) w w':=by
 obtain ⟨f1,f2,f3,f4⟩:=h.few;have TT:=(T1.mono (D:=fun k=>(R+4000<=k/\k < R+6000)\/dG (R+100+64*t) k) (fun k hk=>.inl (hC k hk))).trans (T2.mono (D:=fun k=>(R+4000<=k/\k < R+6000)\/dG (R+100+64*t) k) (fun k hk=>.inr hk)) (fun _ h=>h);have no:∀ j,j < 100->¬ ((R+4000<=R+j/\R+j < R+6000)\/dG (R+100+64*t) (R+j)):=fun j hj=>by unfold dG;omega
 refine ⟨⟨h.blk.turn TT (no 0 (by omega)),h.tasks.turn TT (no 1 (by omega)),h.edges.turn TT (no 2 (by omega)),h.inputs.turn TT (no 3 (by omega)),h.tapes.turn TT (no 4 (by omega)),fun u hu=>?_,hq,htp,h.few⟩,TT.mono (fun k hk=>?_)⟩
 ·
  show dW w' o' (R+100+64*u) (v.tb u) g qs u (upd r.aP.tasks t x' u) (upd v.tv t tv' u)
  by_cases e:u=t
  ·
   subst e;rw [upd_same,upd_same];exact TA
  ·
   rw [aO e,aO e];refine (h.task u hu).turn TT (fun k hk hm=>?_);unfold dG at hm hk;omega
 ·
  unfold bV
  rcases hk with hk | hk
  ·
   omega
  ·
   unfold dG at hk;omega
def xX (w:World)(o:Col)(R b:Nat)(g:av)(caps:List Int)(N:Nat->Nat)(qs:bR)(r:bH)(tb:Nat->Nat)(t:Nat)(e:Ending)(w':World):Prop :=
 ∃ o' v',Turn o o' (bV R) w w'/\v'.tb=tb/\((iJ g caps r.aP t=.fails/\e=.returned (.bool false)/\fU w' o' R b g caps (oQ g N) qs r v')\/∃ s',iJ g caps r.aP t=.goes s'/\e=.returned (.bool true)/\fU w' o' R b g caps (oQ g N) qs ⟨s',r.failed⟩ v')
theorem JK {w:World}{o:Col}{R b:Nat}{g:av}{caps:List Int}{N:Nat->Nat}{s:Nat}{qs:bR}{r:bH}{v:bO}(h:fU w o R b g caps N qs r v)(hL:Linked g)(hcl:caps.length=g.edges.length)(hK:vS g s r.aP)(hs:s < 4611686018427387904)(hN:∀ d,N d < 27000000000000)(hln:∀ d,g.edges.length+g.ins.length<=d->(r.aP.strs d).length < 27000000000000){t:Nat}(ht:t < g.actors.length)(hr:isReady g caps r.aP t=true)(hg:(r.aP.tasks t).gives=true) :
  Calls Tryz.prog 47 #[gG (v.tb t)] w (xX w o R b g caps N qs r v.tb t):=by
 have hT:=h.task t ht;have hO:=hK.task t ht;obtain ⟨f1,f2,f3,f4⟩:=h.few;have hp:=(hO.give hg).1;rw [oU ht hg] at hr;have hnf:rM caps r.aP (toP g t (r.aP.tasks t).port)=false:=by simpa using hr
 have hstep:iJ g caps r.aP t=.goes ⟨upd r.aP.tasks t (sG (ay g t).length (aF g t).length (r.aP.tasks t)),upd r.aP.strs (toP g t (r.aP.tasks t).port) (r.aP.strs (toP g t (r.aP.tasks t).port) ++ [lu (r.aP.tasks t)])⟩:=by
  unfold iJ;rw [if_neg (by omega),if_pos hg,if_neg (by simp [hnf])]
 have hout:=hL.out t _ ht hp;obtain ⟨d,hd⟩:∃ d,toP g t (r.aP.tasks t).port=d:=⟨_,rfl⟩;rw [hd] at hnf hstep hout;have hmt:∀ k,R+4000<=k->¬ dG (R+100+64*t) k:=fun k hk hm=>by unfold dG at hm;omega
 have fin:∀ {C:Nat->Prop} {F:Col->World->Prop},(∀ k,C k->k=R+4000+d\/k=R+5000+d)->d < g.edges.length+g.ins.length+g.outs.length ->
   (∀ o2 w2 o' w',F o2 w2->Turn o2 o' (dG (R+100+64*t)) w2 w'->∃ rw',(d < g.edges.length+g.ins.length->xw w' o' (R+4000+d) (qs d) (oK caps d) (r.aP.strs d ++ [lu (r.aP.tasks t)]) (oQ g N d))/\(g.edges.length+g.ins.length<=d->xW w' o' (R+4000+d) (R+5000+d) (qs d) rw' (r.aP.strs d ++ [lu (r.aP.tasks t)]))) ->
   ∀ e w',StepT w o C F (R+100+64*t) (v.tb t) g qs t (sG (ay g t).length (aF g t).length (r.aP.tasks t)) e w'->xX w o R b g caps N qs r v.tb t e w':=by
  intro C F hC hdl hF e w' ⟨o2,w2,o',v',he,T1,hf,T2,TA⟩;obtain ⟨rw',q1,q2⟩:=hF o2 w2 o' w' hf T2;obtain ⟨K,TT⟩:=h.stepped (Da:=upd r.aP.strs d (r.aP.strs d ++ [lu (r.aP.tasks t)])) (rows':=upd v.rows d rw') (N':=oQ g N) ht T1 (fun k hk=>by rcases hC k hk with h | h <;> omega) T2 TA (fun u hu=>by
   by_cases e:u=d
   ·
    subst e;rw [upd_same];exact q1 hu
   ·
    rw [aO e];exact (((h.queue u hu).turn T1 (fun hk=>by rcases hC _ hk with h | h <;> omega)).turn T2 (hmt _ (by omega))).mono (qi _ _ _)) (fun u hu hu2=>by
   by_cases e:u=d
   ·
    subst e;rw [upd_same,upd_same];exact q2 hu
   ·
    rw [aO e,aO e];obtain ⟨k1,k2⟩:=h.tape u hu hu2;exact ⟨(k1.turn T1 (fun hk=>by rcases hC _ hk with h | h <;> omega)).turn T2 (hmt _ (by omega)),(k2.turn T1 (fun hk=>by rcases hC _ hk with h | h <;> omega)).turn T2 (hmt _ (by omega))⟩)
  exact ⟨o',{ v with tv:=upd v.tv t v',rows:=upd v.rows d rw' },TT,rfl,.inr ⟨_,hstep,he,K⟩⟩
 by_cases hed:d < g.edges.length
 ·
  have hq:=(h.queue d (by omega));have hcap:((r.aP.strs d).length:Int) < oK caps d:=by
   rw [C8 (by omega)] at hnf;have:=of_decide_eq_false hnf;omega
  refine (zn (C:=fun x=>x=R+4000+d) (F:=fun o' w'=>xw w' o' (R+4000+d) (qs d) (oK caps d) (r.aP.strs d ++ [lu (r.aP.tasks t)]) (N d+1)) (f:=52) (ty:=73) (cv:=.agg #[.pointer (some ⟨qs d,0,none⟩)]) hT hg hO hs (JF _) (fun args w=>Tryz.call52 args w) (by unfold sP;rw [hd,if_pos hed]) (fun k hk=>hmt k (by omega)) ?_).mono (fin (fun k hk=>.inl hk) (by omega) (fun o2 w2 o' w' hf T2=>⟨.slice none 0 0,fun _=>by rw [JC hed];exact hf.turn T2 (hmt _ (by omega)),fun hh=>by omega⟩));refine (CZ _ (hq.turn ((Turn.refl o (fun _=>False) w).drew) (fun h=>h)) (hN _) hcap).mono ?_;rintro e w' ⟨o',rfl,T,Q⟩;exact ⟨o',rfl,T,Q⟩
 ·
  have hr2:g.edges.length+g.ins.length<=d/\d < g.edges.length+g.ins.length+g.outs.length:=by
   rcases hout with h | h
   ·
    exact absurd h hed
   ·
    exact h
  have WY:=h.tape d hr2.1 hr2.2;refine (zn (C:=fun x=>x=R+4000+d\/x=R+5000+d) (F:=fun o' w'=>∃ rw',xW w' o' (R+4000+d) (R+5000+d) (qs d) rw' (r.aP.strs d ++ [lu (r.aP.tasks t)])) (f:=129) (ty:=80) (cv:=.pointer (some ⟨qs d,0,none⟩)) hT hg hO hs (JH _) (fun args w=>Tryz.call129 args w) (by unfold sP;rw [hd,if_neg hed]) (fun k hk=>hmt k (by omega)) ?_).mono (fin (fun k hk=>hk) hr2.2 (fun o2 w2 o' w' hf T2=>by
   obtain ⟨rw',k1,k2⟩:=hf;exact ⟨rw',fun hh=>by omega,fun _=>⟨k1.turn T2 (hmt _ (by omega)),k2.turn T2 (hmt _ (by omega))⟩⟩))
  have T0:=(Turn.refl o (fun _=>False) w).drew;refine (M7 _ (⟨WY.1.turn T0 (fun h=>h),WY.2.turn T0 (fun h=>h)⟩:xW w.drew o (R+4000+d) (R+5000+d) (qs d) (v.rows d) (r.aP.strs d)) (by omega) (hln d hr2.1)).mono ?_;rintro e w' ⟨o',rw',rfl,T,Q⟩;exact ⟨o',rfl,T,rw',Q⟩
theorem JL {w:World}{o:Col}{R b:Nat}{g:av}{caps:List Int}{N:Nat->Nat}{s:Nat}{qs:bR}{r:bH}{v:bO}(h:fU w o R b g caps N qs r v)(hL:Linked g)(hga:fG g)(hK:vS g s r.aP)(hN:∀ d,N d < 27000000000000){t:Nat}(ht:t < g.actors.length)(hr:isReady g caps r.aP t=true)(hg:(r.aP.tasks t).gives=false)(hp:(r.aP.tasks t).port < (ay g t).length) :
  Calls Tryz.prog 47 #[gG (v.tb t)] w (xX w o R b g caps N qs r v.tb t):=by
 have hT:=h.task t ht;have hO:=hK.task t ht;obtain ⟨f1,f2,f3,f4⟩:=h.few;rw [oV ht hg hp] at hr;have hdl:=hL.inn t _ ht hp;obtain ⟨d,hd⟩:∃ d,bY g t (r.aP.tasks t).port=d:=⟨_,rfl⟩;rw [hd] at hr hdl;obtain ⟨X,l,hXl⟩:∃ X l,r.aP.strs d=X :: l:=by
  cases hh:r.aP.strs d with
  | nil=>rw [hh] at hr;simp at hr
  | cons X l=>exact ⟨X,l,rfl⟩
 have hstep:iJ g caps r.aP t=.goes ⟨upd r.aP.tasks t (l8 (rI g t (r.aP.tasks t).port) (r.aP.tasks t) X),upd r.aP.strs d l⟩:=by
  unfold iJ;rw [if_neg (by omega),if_neg (by simp [hg]),if_pos hp,hd,hXl];rfl
 have hmt:∀ k,R+4000<=k->¬ dG (R+100+64*t) k:=fun k hk hm=>by unfold dG at hm;omega
 have hq:=h.queue d hdl;rw [hXl] at hq;refine (GH (C:=fun x=>x=R+4000+d) (F:=fun o' w'=>xw w' o' (R+4000+d) (qs d) (oK caps d) l (N d)) (X:=X) hT hg hO hga hp (fun k hk=>hmt k (by omega)) (fun m=>?_)).mono ?_
 ·
  rw [hd];refine (M4 (hq.turn ((Turn.refl o (fun _=>False) w).drewN m) (fun h=>h)) (by have:=hN d;omega)).mono ?_;rintro e w' ⟨o',rfl,T,Q⟩;exact ⟨o',rfl,T,Q⟩
 ·
  rintro e w' ⟨o2,w2,o',v',he,T1,hf,T2,TA⟩;obtain ⟨K,TT⟩:=h.stepped (Da:=upd r.aP.strs d l) (rows':=v.rows) (N':=oQ g N) ht T1 (fun k hk=>by omega) T2 TA (fun u hu=>by
   by_cases e:u=d
   ·
    subst e;rw [upd_same];exact (hf.turn T2 (hmt _ (by omega))).mono (qi _ _ _)
   ·
    rw [aO e];exact (((h.queue u hu).turn T1 (fun hk=>by omega)).turn T2 (hmt _ (by omega))).mono (qi _ _ _)) (fun u hu hu2=>by
   have e:u≠d:=by omega
   rw [aO e];obtain ⟨k1,k2⟩:=h.tape u hu hu2;exact ⟨(k1.turn T1 (fun hk=>by omega)).turn T2 (hmt _ (by omega)),(k2.turn T1 (fun hk=>by omega)).turn T2 (hmt _ (by omega))⟩)
  exact ⟨o',{ v with tv:=upd v.tv t v',rows:=v.rows },TT,rfl,.inr ⟨_,hstep,he,K⟩⟩
theorem GJ {α:Type}(f:Nat->α)(i:Nat):upd f i (f i)=f:=by
 funext j
 unfold upd
 split
 ·
  rename_i h;rw [h]
 ·
  rfl
theorem JM {w:World}{o:Col}{R b:Nat}{g:av}{caps:List Int}{N:Nat->Nat}{s:Nat}{qs:bR}{r:bH}{v:bO}(h:fU w o R b g caps N qs r v)(hga:fG g)(hK:vS g s r.aP)(hs:s < 4611686018427387904){t:Nat}(ht:t < g.actors.length)(hg:(r.aP.tasks t).gives=false)(hp:¬ (r.aP.tasks t).port < (ay g t).length) :
  Calls Tryz.prog 47 #[gG (v.tb t)] w (xX w o R b g caps N qs r v.tb t):=by
 have hT:=h.task t ht;have hO:=hK.task t ht;obtain ⟨f1,f2,f3,f4⟩:=h.few;have hmt:∀ k,R+4000<=k->¬ dG (R+100+64*t) k:=fun k hk hm=>by unfold dG at hm;omega
 refine (GI hT hg hO hga ht hs hp).mono ?_;rintro e w' ⟨o',v',T2,hh⟩;have fin:∀ x',dW w' o' (R+100+64*t) (v.tb t) g qs t x' v'->fU w' o' R b g caps (oQ g N) qs ⟨⟨upd r.aP.tasks t x',r.aP.strs⟩,r.failed⟩ { v with tv:=upd v.tv t v',rows:=v.rows }/\Turn o o' (bV R) w w':=fun x' TA =>
  h.stepped (C:=fun _=>False) (Da:=r.aP.strs) (rows':=v.rows) (N':=oQ g N) ht (Turn.refl _ _ _) (fun k hk=>hk.elim) T2 TA (fun u hu=>((h.queue u hu).turn T2 (hmt _ (by omega))).mono (qi _ _ _)) (fun u hu hu2=>by
   obtain ⟨k1,k2⟩:=h.tape u hu hu2;exact ⟨k1.turn T2 (hmt _ (by omega)),k2.turn T2 (hmt _ (by omega))⟩)
 rcases hh with ⟨he,hv,TA⟩ | ⟨he,hv,TA⟩
 ·
  obtain ⟨K,TT⟩:=fin _ TA;rw [GJ] at K;refine ⟨o',{ v with tv:=upd v.tv t v',rows:=v.rows },TT,rfl,.inl ⟨?_,hv,K⟩⟩;exact Av.2 ⟨ht,hg,hp,he⟩
 ·
  obtain ⟨K,TT⟩:=fin _ TA;refine ⟨o',{ v with tv:=upd v.tv t v',rows:=v.rows },TT,rfl,.inr ⟨_,?_,hv,K⟩⟩;unfold iJ;rw [if_neg (by omega),if_neg (by simp [hg]),if_neg hp,if_neg (by simp [he])]
theorem Nb {w:World}{o:Col}{R b:Nat}{g:av}{caps:List Int}{N:Nat->Nat}{s:Nat}{qs:bR}{r:bH}{v:bO}(h:fU w o R b g caps N qs r v)(hL:Linked g)(hga:fG g)(hcl:caps.length=g.edges.length)(hK:vS g s r.aP)(hs:s < 4611686018427387904)(hN:∀ d,N d < 27000000000000)(hln:∀ d,g.edges.length+g.ins.length<=d->(r.aP.strs d).length < 27000000000000){t:Nat}(ht:t < g.actors.length)(hr:isReady g caps r.aP t=true) :
  Calls Tryz.prog 47 #[gG (v.tb t)] w (xX w o R b g caps N qs r v.tb t):=by
 by_cases hg:(r.aP.tasks t).gives=true
 ·
  exact JK h hL hcl hK hs hN hln ht hr hg
 ·
  have hg:(r.aP.tasks t).gives=false:=by simpa using hg
  by_cases hp:(r.aP.tasks t).port < (ay g t).length
  ·
   exact JL h hL hga hK hN ht hr hg hp
  ·
   exact JM h hga hK hs ht hg hp
theorem fU.mono {w:World}{o:Col}{R b:Nat}{g:av}{caps:List Int}{N N':Nat->Nat}{qs:bR}{r:bH}{v:bO}(h:fU w o R b g caps N qs r v)(hN:∀ d,N d<=N' d):fU w o R b g caps N' qs r v:={ h with queue:=fun d hd=>(h.queue d hd).mono (hN d) }
theorem fU.below {w w':World}{o:Col}{R b:Nat}{g:av}{caps:List Int}{N:Nat->Nat}{qs:bR}{r:bH}{v:bO}(h:fU w o R b g caps N qs r v)(hb:Below w.heap.size w w'):fU w' (ext o w.heap.size 0) R b g caps N qs r v:=h.turn (Turn.of_below o 0 hb) (fun _ h=>h.elim)
theorem fU.Et {w:World}{o:Col}{R b:Nat}{g:av}{caps:List Int}{N:Nat->Nat}{qs:bR}{r:bH}{v:bO}(h:fU w o R b g caps N qs r v)(t:Nat):fU (w.setCell ⟨b,4,none⟩ (.int .i64 (t:Int))) o R b g caps N qs ⟨r.aP,some t⟩ v/\Turn o o (bV R) w (w.setCell ⟨b,4,none⟩ (.int .i64 (t:Int))):=by
 obtain ⟨B,S⟩:=h.blk.set 4 (.int .i64 (t:Int));obtain ⟨f1,f2,f3,f4⟩:=h.few;refine ⟨⟨?_,h.tasks.turn S (by omega),h.edges.turn S (by omega),h.inputs.turn S (by omega),h.tapes.turn S (by omega),fun u hu=>(h.task u hu).turn S (fun k hk hm=>by unfold dG at hm;omega),fun d hd=>(h.queue d hd).turn S (by omega),fun d hd hd2=>⟨(h.tape d hd hd2).1.turn S (by omega),(h.tape d hd hd2).2.turn S (by omega)⟩,h.few⟩,S.mono (fun k hk=>by rw [hk];unfold bV;omega)⟩;have hcs:(jC r v).toArray.setIfInBounds 4 (.int .i64 (t:Int))=(jC ⟨r.aP,some t⟩ v).toArray:=by unfold jC;simp
 rw [hcs] at B;exact B
def iG (g:av)(caps:List Int)(r:bH)(k:Int):bH × Bool:=if k < 0 then (r,false) else eX g caps r k.toNat
def Stepped (w:World)(o:Col)(R b:Nat)(g:av)(caps:List Int)(N:Nat->Nat)(qs:bR)(v:bO)(x:bH × Bool)(e:Ending)(w':World):Prop :=
 ∃ o' v',e=.returned (.bool x.2)/\Turn o o' (bV R) w w'/\v'.tb=v.tb/\fU w' o' R b g caps (oQ g N) qs x.1 v'
theorem um {g:av}{caps:List Int}{r:bH}{t:Nat}(h:g.actors.length<=t\/isReady g caps r.aP t=false):eX g caps r t=(r,false):=by
 have:iJ g caps r.aP t=.waits:=by
  rcases h with h | h
  ·
   unfold iJ;rw [if_pos h]
  ·
   unfold isReady at h;cases hs:iJ g caps r.aP t with
   | waits=>rfl
   | fails=>rw [hs] at h;cases h
   | goes s=>rw [hs] at h;cases h
 unfold eX;rw [this];cases r.failed <;> rfl
theorem Nc {w:World}{o:Col}{R b:Nat}{g:av}{caps:List Int}{N:Nat->Nat}{s:Nat}{qs:bR}{r:bH}{v:bO}(k:Int)(h:fU w o R b g caps N qs r v)(hL:Linked g)(hga:fG g)(hcl:caps.length=g.edges.length)(hK:vS g s r.aP)(hs:s < 4611686018427387904)(hN:∀ d,N d < 27000000000000)(hln:∀ d,g.edges.length+g.ins.length<=d->(r.aP.strs d).length < 27000000000000) :
  Calls Tryz.prog 26 #[.pointer (some ⟨b,0,none⟩),.int .i64 k] w (Stepped w o R b g caps N qs v (iG g caps r k)):=by
 have hb:=h.blk;unfold jC at hb;have c0:=hb.cell 0 _ rfl;have c4:=hb.cell 4 _ rfl;change w.cell? _=some v.tasks at c0;have H:=af h;have hself:Stepped w o R b g caps N qs v (r,false) (.returned (.bool false)) w:=⟨o,v,rfl,Turn.refl _ _ _,rfl,h.mono (qi g N)⟩;obtain ⟨X,hX⟩:∃ x,iG g caps r k=x:=⟨_,rfl⟩;rw [hX];have QN:=af hself;obtain ⟨ta,tc,e1⟩:=h.tasks.slice;rw [List.length_map,List.length_range] at e1;rw [e1] at c0;obtain ⟨n,hn⟩:∃ n,g.actors.length=n:=⟨_,rfl⟩;rw [hn] at c0;clear hself hb;cases hf:r.failed with
 | some t =>
  rw [hf] at c4;change w.cell? _=some (.int .i64 (t:Int)) at c4;have ht0:(0:Int)<=(t:Int):=by omega
  have pE:X=(r,false):=by
   rw [<- hX];unfold iG eX;rw [hf]
   split <;> rfl
  rw [pE];clear h hX pE e1 hn hL hga hcl hK hs hN hln hf;go_enter Tryz.func26,Tryz.ntmps26;go_wp2_with fail;go_ret;exact QN.out
 | none =>
  rw [hf] at c4;change w.cell? _=some (.int .i64 (-1)) at c4;have hm1:¬ (0:Int)<=(-1:Int):=by omega
  by_cases hk0:k < 0
  ·
   have pE:X=(r,false):=by
    rw [<- hX];unfold iG;rw [if_pos hk0]
   rw [pE];clear h hX pE e1 hn hL hga hcl hK hs hN hln hf;go_enter Tryz.func26,Tryz.ntmps26;go_wp2_with fail;go_ret;exact QN.out
  ·
   obtain ⟨t,rfl⟩:∃ t:Nat,k=t:=⟨k.toNat,by omega⟩
   by_cases htn:n<=t
   ·
    have pE:X=(r,false):=by
     rw [<- hX];unfold iG;rw [if_neg (by omega)];exact um (.inl (by simp;omega))
    rw [pE];have hti:(n:Int)<=(t:Int):=by omega
    clear h hX pE e1 hn hL hga hcl hK hs hN hln hf htn;go_enter Tryz.func26,Tryz.ntmps26;go_wp2_with fail;go_ret;exact QN.out
   ·
    have htn:t < n:=by omega
    have ht:t < g.actors.length:=by omega
    have hti:¬ (n:Int)<=(t:Int):=by omega
    have aco:(t:Int) < (n:Int):=by omega
    obtain ⟨gt,ft,ct,u1,u2,u3,JN⟩:=om h.tasks (k:=t) (by simpa using ht);simp only [List.length_map,List.length_range,List.getElem_map,List.getElem_range] at u1 u2 u3;rw [e1,hn] at u1;simp only [Value.slice.injEq] at u1;obtain ⟨rfl,-,rfl⟩:=u1;rw [hn] at u2;have Vr:(n:Int)<=tc:=by omega
    obtain ⟨tb,htb⟩:∃ x,v.tb t=x:=⟨_,rfl⟩;rw [htb] at u3;change w.cell? _=some (.pointer (some ⟨tb,0,none⟩)) at u3;have hrd:=A7 h hL hcl hK (fun d=>Nat.le_of_lt (hN d)) ht;rw [htb] at hrd;obtain ⟨z,hz⟩:∃ z,isReady g caps r.aP t=z:=⟨_,rfl⟩;rw [hz] at hrd;change Calls Tryz.prog 46 #[.pointer (some ⟨tb,0,none⟩)] w _ at hrd;have BG:=af hrd;have hstp:∀ w1,Below w.heap.size w w1->z=true->Calls Tryz.prog 47 #[.pointer (some ⟨tb,0,none⟩)] w1 (xX w1 (ext o w.heap.size 0) R b g caps N qs r v.tb t):=fun w1 hb1 hz1=>by
     have:=Nb (h.below hb1) hL hga hcl hK hs hN hln ht (by rw [hz];exact hz1);rw [htb] at this;exact this
    have HST:=af hstp;have HX:=af hX;have HZ:=af hz;have vT:=af hf;have HTN:=af ht;clear h hX e1 hn hL hga hcl hK hs hN hln hf htn ht hrd hstp hz htb JN u2;go_enter Tryz.func26,Tryz.ntmps26;go_wp2_with fail;refine BG.out.mono ?_;rintro e w1 ⟨rfl,hb1⟩;have c0:=cell_later hb1 c0;have u3:=cell_later hb1 u3;have HB1:=af hb1;clear hb1;cases z with
    | false =>
     go_wp2_with fail;go_ret;have pE:X=(r,false):=by
      rw [<- HX.out];unfold iG;rw [if_neg (by omega)];exact um (.inr (by simpa using HZ.out))
     rw [pE];exact ⟨_,v,rfl,(Turn.of_below o 0 HB1.out).mono (fun _ h=>h.elim),rfl,(H.out.below HB1.out).mono (qi g N)⟩
    | true =>
     go_wp2_with fail;refine (HST.out _ HB1.out (by simp)).mono ?_;rintro e w2 ⟨o2,v2,T2,ht2,hh⟩;have HT2:=af (((Turn.of_below o 0 HB1.out).mono (D:=bV R) (fun _ h=>h.elim)).trans T2 (fun _ h=>h));have aau:=af ht2;clear T2 ht2
     rcases hh with ⟨q1,rfl,q2⟩ | ⟨s',q1,rfl,q2⟩
     ·
      have pE:X=(⟨r.aP,some t⟩,true):=by
       rw [<- HX.out];unfold iG eX;rw [if_neg (by omega),vT.out];simp only [Int.toNat_natCast];rw [q1]
      obtain ⟨K,TF⟩:=q2.Et t;have f4:=q2.blk.frozen 4;have d4:=q2.blk.cell 4 _ rfl;have HK:=af K;have HTF:=af TF;have Nf:=af pE;clear K TF q1 q2 pE;go_wp2_with fail;go_ret;rw [Nf.out];exact ⟨o2,v2,rfl,HT2.out.trans HTF.out (fun _ h=>h),aau.out,HK.out⟩
     ·
      have pE:X=(⟨s',none⟩,true):=by
       rw [<- HX.out];unfold iG eX;rw [if_neg (by omega),vT.out];simp only [Int.toNat_natCast];rw [q1]
      rw [vT.out] at q2;have HK:=af q2;have Nf:=af pE;clear q1 q2 pE;go_wp2_with fail;go_ret;rw [Nf.out];exact ⟨o2,v2,rfl,HT2.out,aau.out,HK.out⟩
def kr (w:World)(l:List Int)(e:Ending)(w':World):Prop:=∃ v,e=.returned v/\w'.ownsRow w.heap.size 3 1 v l.length (bB l)/\Below w.heap.size w w'
theorem oW {w:World}{n:Nat}(hn:n=w.heap.size)(l:List Value)(t:TypeId):∀ ad,some (⟨n,0,none⟩:Addr)=some ad->∀ j u,l[j]?=some u->(w.alloc (.cells l.toArray t)).cell? (ad.add j)=some u:=by
 subst hn;exact bC w l t
def kR (p:Nat->Bool)(j:Nat):List Int:=((List.range j).filter p).map fun k:Nat=>(k:Int)
theorem GK {p:Nat->Bool}{j:Nat}(h:p j=true):kR p (j+1)=kR p j ++ [(j:Int)]:=by
 unfold kR;rw [List.range_succ,List.filter_append,List.map_append];simp [h]
theorem Lm {p:Nat->Bool}{j:Nat}(h:p j=false):kR p (j+1)=kR p j:=by
 unfold kR;rw [List.range_succ,List.filter_append,List.map_append];simp [h]
theorem GL (p:Nat->Bool)(j:Nat):(kR p j).length<=j:=by
 unfold kR;rw [List.length_map];exact Nat.le_trans (List.length_filter_le _ _) (by simp)
def jO (g:av)(caps:List Int)(r:bH):List Int:=(dY g caps r).map fun k:Nat=>(k:Int)
theorem vJ {w:World}{o:Col}{R b:Nat}{g:av}{caps:List Int}{N:Nat->Nat}{s:Nat}{qs:bR}{r:bH}{v:bO}(h:fU w o R b g caps N qs r v)(hL:Linked g)(hcl:caps.length=g.edges.length)(hK:vS g s r.aP)(hN:∀ d,N d<=27000000000000) :
  Calls Tryz.prog 33 #[.pointer (some ⟨b,0,none⟩)] w (kr w (jO g caps r)):=by
 have hb:=h.blk;unfold jC at hb;have c0:=hb.cell 0 _ rfl;have c4:=hb.cell 4 _ rfl;change w.cell? _=some v.tasks at c0;obtain ⟨ta,tc,e1⟩:=h.tasks.slice;rw [List.length_map,List.length_range] at e1;rw [e1] at c0;obtain ⟨n,hn⟩:∃ n,g.actors.length=n:=⟨_,rfl⟩;rw [hn] at c0;cases hf:r.failed with
 | some t =>
  rw [hf] at c4;change w.cell? _=some (.int .i64 (t:Int)) at c4;have ht0:(0:Int)<=(t:Int):=by omega
  have pE:jO g caps r=[]:=by unfold jO dY;rw [hf];rfl
  rw [pE];clear h pE e1 hn hL hcl hK hN hf hb;go_enter Tryz.func33,Tryz.ntmps33;go_wp2_with fail;go_ret;exact ⟨_,rfl,World.ownsRow_nil w w.heap.size 3 1,Below.refl _ _⟩
 | none =>
  rw [hf] at c4;change w.cell? _=some (.int .i64 (-1)) at c4;have hm1:¬ (0:Int)<=(-1:Int):=by omega
  have hn32:n<=32:=by rw [<- hn];exact h.few.1
  obtain ⟨i0,hi,hz0,hz1,hz2⟩:=info_parts bU;have HI:=af hi;have pE:jO g caps r=kR (isReady g caps r.aP) n:=by unfold jO dY kR;rw [hf,hn]
  have Nf:=af pE;have HN:=af hn;have H:=af h;have HE:=af e1;have hrd:∀ t,t < n->∀ w1,Below w.heap.size w w1->Calls Tryz.prog 46 #[gG (v.tb t)] w1 (fq (.bool (isReady g caps r.aP t)) w1):=fun t ht w1 hb1=>A7 (h.below hb1) hL hcl hK hN (by omega);have BG:=af hrd;obtain ⟨p,hp⟩:∃ p,isReady g caps r.aP=p:=⟨_,rfl⟩;have HP:=af hp;clear h pE e1 hn hL hcl hK hN hf hb hi hrd hp;go_enter Tryz.func33,Tryz.ntmps33;go_wp2_with fail
  go_loopw [3,20] (fun v i wl=>∃ (j:Nat),j<=n/\i=.int .i64 j/\Below w.heap.size w wl/\wl.ownsRow w.heap.size 3 1 v (kR p j).length (bB (kR p j))) (fun _ i _=>n - (intOf i).toNat)
  case atStart=>exact ⟨0,Nat.zero_le _,rfl,Below.refl _ _,World.ownsRow_nil w w.heap.size 3 1⟩
  case round =>
   obtain ⟨j,hj,rfl,hbl,hO⟩:=hrel;obtain ⟨sa,sc,rfl⟩:=aA hO;have hlen:=GL p j;obtain ⟨L,GN⟩:∃ L,(kR p j).length=L:=⟨_,rfl⟩;rw [GN] at hO hlen ⊢;have uL:=af GN;clear GN
   by_cases hlt:j < n
   ·
    have bX:(j:Int) < n:=by omega
    have Zm:j < g.actors.length:=by have:=HN.out;omega
    obtain ⟨gt,ft,ct,u1,u2,u3,JN⟩:=om H.out.tasks (k:=j) (by simpa using Zm);simp only [List.length_map,List.length_range,List.getElem_map,List.getElem_range] at u1 u2 u3;rw [HE.out,HN.out] at u1;simp only [Value.slice.injEq] at u1;obtain ⟨rfl,-,rfl⟩:=u1;rw [HN.out] at u2;have Vr:(n:Int)<=tc:=by omega
    have d3:=cell_later hbl u3;have hrd:=BG.out j hlt _ hbl;rw [HP.out] at hrd;obtain ⟨z,hz⟩:∃ z,p j=z:=⟨_,rfl⟩;rw [hz] at hrd;have HZ:=af hz;have HR1:=af hrd;have HB:=af hbl;have HO:=af hO;clear hrd hz hbl hO u3 JN u2;unfold gG at d3;go_wp2_with fail;refine HR1.out.mono ?_;rintro e w5 ⟨rfl,hb5⟩;have AY:=af (HB.out.trans (hb5.mono HB.out.size));have QO:=eD HO.out (aG.of_below hb5 (fun _=>False)) (fun _ _ h=>h);have HO:=af QO;clear hb5 QO d3;cases z with
    | true =>
     have hgs:kR p (j+1)=kR p j ++ [(j:Int)]:=GK HZ.out;have xY:=af hgs;clear hgs;go_wp2_with (at_builtin;refine aU ?_);refine dR ?_;refine aS rfl _ _ 27 rfl w.heap.size 3 i0 _ 1 8 Tryz.underlying27 HI.out hz0 hz1 hz2 rfl (.slice sa L sc) L _ rfl (HO.out.alloc _) (some ⟨w5.heap.size,0,none⟩) 1 1 [.int .i64 (j:Int)] rfl rfl (fun h=>by cases h) (oW (w:=w5) (n:=w5.heap.size) rfl [.int .i64 (j:Int)] 3) (by simp [Value.oneCell']) (by unfold maxLen;omega) (bA (by omega)) (by have:=AY.out.size;simp;omega) ?_;intro v7 w7 k1 k20 _ _;have BR:=AY.out.trans (gJ HO.out k20 AY.out.size);have K1:=af k1;clear k1 k20;go_wp2;go_roundw
     case rel=>exact ⟨j+1,hlt,by go_num,BR,by rw [xY.out,List.length_append,uL.out,show bB (kR p j ++ [(j:Int)])=bB (kR p j) ++ [.int .i64 (j:Int)] by simp [bB]];exact K1.out⟩
     case measure=>simp [intOf];omega
    | false =>
     have hgs:kR p (j+1)=kR p j:=Lm HZ.out;have xY:=af hgs;clear hgs;go_wp2;go_roundw
     case rel=>exact ⟨j+1,hlt,by go_num,AY.out,by rw [xY.out,uL.out];exact HO.out⟩
     case measure=>simp [intOf];omega
   ·
    obtain rfl:j=n:=by omega
    have HO:=af hO;have HB:=af hbl;clear hO hbl;go_wp2;go_ret;refine ⟨_,rfl,?_,HB.out⟩;rw [Nf.out,HP.out,uL.out];exact HO.out
def iK (r:bH):Int:=match r.failed with | some t=>(t:Int) | none=>-1
def uS (g:av)(caps:List Int)(r:bH):Int:=if r.failed≠none then 3 else if dY g caps r=[] then 5 else 0
theorem zu {w:World}{o:Col}{R b:Nat}{g:av}{caps:List Int}{N:Nat->Nat}{qs:bR}{r:bH}{v:bO}(h:fU w o R b g caps N qs r v):Calls Tryz.prog 24 #[.pointer (some ⟨b,0,none⟩)] w (pW (.int .i64 (iK r)) w):=by
 have hb:=h.blk;unfold jC at hb;have c4:=hb.cell 4 _ rfl;change w.cell? _=some (.int .i64 (iK r)) at c4;generalize iK r=x at c4 ⊢;clear h hb;go_enter Tryz.func24,Tryz.ntmps24;go_wp2_with fail;go_ret;exact ⟨rfl,rfl⟩
theorem Db {w:World}{o:Col}{R b:Nat}{g:av}{caps:List Int}{N:Nat->Nat}{s:Nat}{qs:bR}{r:bH}{v:bO}(h:fU w o R b g caps N qs r v)(hL:Linked g)(hcl:caps.length=g.edges.length)(hK:vS g s r.aP)(hN:∀ d,N d<=27000000000000) :
  Calls Tryz.prog 23 #[.pointer (some ⟨b,0,none⟩)] w (fq (.int .u8 (uS g caps r)) w):=by
 have hb:=h.blk;unfold jC at hb;have c4:=hb.cell 4 _ rfl;have hR:=vJ h hL hcl hK hN;unfold uS;cases hf:r.failed with
 | some t =>
  rw [hf] at c4;change w.cell? _=some (.int .i64 (t:Int)) at c4;have ht0:(0:Int)<=(t:Int):=by omega
  rw [if_pos (by simp)];clear h hb hR hL hcl hK hN hf;go_enter Tryz.func23,Tryz.ntmps23;go_wp2_with fail;go_ret;exact ⟨rfl,Below.refl _ _⟩
 | none =>
  rw [hf] at c4;change w.cell? _=some (.int .i64 (-1)) at c4;have hm1:¬ (0:Int)<=(-1:Int):=by omega
  rw [if_neg (by simp)];have hz:(((jO g caps r).length:Int) == 0)=decide (dY g caps r=[]):=by
   unfold jO;cases hl:dY g caps r with
   | nil=>simp
   | cons a l=>rw [decide_eq_false (by simp),beq_eq_false_iff_ne];simp;omega
  obtain ⟨L,hL2⟩:∃ L,(jO g caps r).length=L:=⟨_,rfl⟩;unfold kr at hR;rw [hL2] at hz hR;have HR:=af hR;clear h hb hR hL hcl hK hN hf hL2
  by_cases he:dY g caps r=[]
  ·
   rw [if_pos he];rw [decide_eq_true he] at hz;clear he;go_enter Tryz.func23,Tryz.ntmps23;go_wp2_with fail;refine HR.out.mono ?_;rintro e w1 ⟨x,rfl,hO,hB⟩;obtain ⟨sa,sc,rfl⟩:=aA hO;have HB:=af hB;clear hO hB;go_wp2_with fail;go_ret;exact ⟨rfl,HB.out⟩
  ·
   rw [if_neg he];rw [decide_eq_false he] at hz;clear he;go_enter Tryz.func23,Tryz.ntmps23;go_wp2_with fail;refine HR.out.mono ?_;rintro e w1 ⟨x,rfl,hO,hB⟩;obtain ⟨sa,sc,rfl⟩:=aA hO;have HB:=af hB;clear hO hB;go_wp2_with fail;go_ret;exact ⟨rfl,HB.out⟩
structure BS (g:av) (caps:List Int):Prop where
 linked:Linked g
 acts:fG g
 caps:caps.length=g.edges.length
structure fw (w:World) (o:Col) (R b:Nat) (g:av) (caps:List Int) (M:Nat) (J:Nat->Nat) (qs:bR) (tb:Nat->Nat) (r:bH) (v:bO):Prop where
 mem:fU w o R b g caps (jg g M J) qs r v
 ok:vS g M r.aP
 len:∀ d,(r.aP.strs d).length<=jg g M J d
 ins:∀ k,J k < 27000000000000
 tbs:v.tb=tb
theorem fw.lt {w:World}{o:Col}{R b:Nat}{g:av}{caps:List Int}{M:Nat}{J:Nat->Nat}{qs:bR}{tb:Nat->Nat}{r:bH}{v:bO}(h:fw w o R b g caps M J qs tb r v)(hM:M < 27000000000000)(d:Nat):jg g M J d < 27000000000000:=by
 unfold jg
 split
 ·
  exact h.ins _
 ·
  exact hM
theorem fw.tape {w:World}{o:Col}{R b:Nat}{g:av}{caps:List Int}{M:Nat}{J:Nat->Nat}{qs:bR}{tb:Nat->Nat}{r:bH}{v:bO}(h:fw w o R b g caps M J qs tb r v)(hM:M < 27000000000000)(d:Nat)(hd:g.edges.length+g.ins.length<=d):(r.aP.strs d).length < 27000000000000:=by
 have:=h.len d;rw [CY hd] at this;omega
theorem vS.mono {g:av}{s s':Nat}{r:pX}(h:vS g s r)(hs:s<=s'):vS g s' r:=⟨fun t ht=>(h.task t ht).later hs,h.fits⟩
theorem fw.mono {w:World}{o:Col}{R b:Nat}{g:av}{caps:List Int}{M M':Nat}{J:Nat->Nat}{qs:bR}{tb:Nat->Nat}{r:bH}{v:bO}(h:fw w o R b g caps M J qs tb r v)(hM:M<=M'):fw w o R b g caps M' J qs tb r v:=⟨h.mem.mono (qj hM),h.ok.mono hM,fun d=>Nat.le_trans (h.len d) (qj hM d),h.ins,h.tbs⟩
theorem fw.turn {w w':World}{o o':Col}{C:Nat->Prop}{R b:Nat}{g:av}{caps:List Int}{M:Nat}{J:Nat->Nat}{qs:bR}{tb:Nat->Nat}{r:bH}{v:bO}(h:fw w o R b g caps M J qs tb r v)(T:Turn o o' C w w')(hC:∀ k,C k->¬ bV R k):fw w' o' R b g caps M J qs tb r v:=⟨h.mem.turn T hC,h.ok,h.len,h.ins,h.tbs⟩
theorem Vs {g:av}{caps:List Int}{s s1:pX}{t M m:Nat}{J:Nat->Nat}(hL:Linked g)(hK:vS g m s)(h:iJ g caps s t=.goes s1)(hl:∀ d,(s.strs d).length<=jg g M J d):∀ d,(s1.strs d).length<=jg g (M+1) J d:=by
 obtain ⟨ht,k⟩:=pY.1 h;intro d;have hd:=Nat.le_trans (hl d) (qj (M':=M+1) (by omega) d);cases k with
 | give x hg hf hx =>
  show (upd s.strs (toP g t (s.tasks t).port) (s.strs (toP g t (s.tasks t).port) ++ [lu (s.tasks t)]) d).length<=jg g (M+1) J d
  have hp:=((hK.task t ht).give hg).1
  by_cases e:d=toP g t (s.tasks t).port
  ·
   rw [e,upd_same,List.length_append];have:=hl (toP g t (s.tasks t).port)
   rcases hL.out t _ ht hp with h1 | h1
   ·
    rw [MW h1] at this ⊢;simp;omega
   ·
    rw [CY h1.1] at this ⊢;simp;omega
  ·
   rw [aO e];exact hd
 | take x v l hg hp hv hx =>
  show (upd s.strs (bY g t (s.tasks t).port) l d).length<=jg g (M+1) J d
  by_cases e:d=bY g t (s.tasks t).port
  ·
   rw [e,upd_same];rw [e,hv] at hd;simp at hd;omega
  ·
   rw [aO e];exact hd
 | fire x hg hp he hx=>exact hd
theorem QS {g:av}{caps:List Int}{r:bH}{t M:Nat}{J:Nat->Nat}(hL:Linked g)(hga:fG g)(h1:vS g M r.aP)(h2:∀ d,(r.aP.strs d).length<=jg g M J d):vS g (M+1) (eX g caps r t).1.aP/\∀ d,((eX g caps r t).1.aP.strs d).length<=jg g (M+1) J d:=by
 have same:vS g (M+1) r.aP/\∀ d,(r.aP.strs d).length<=jg g (M+1) J d:=⟨h1.mono (by omega),fun d=>Nat.le_trans (h2 d) (qj (by omega) d)⟩;unfold eX;cases r.failed with
 | some t=>exact same
 | none =>
  simp only;cases hs:iJ g caps r.aP t with
  | waits=>exact same
  | fails=>exact same
  | goes s'=>exact ⟨h1.step hga hs,Vs hL h1 hs h2⟩
def A8 (w:World)(o:Col)(R b:Nat)(g:av)(caps:List Int)(M:Nat)(J:Nat->Nat)(qs:bR)(tb:Nat->Nat)(x:bH)(y:Value)(e:Ending)(w':World):Prop :=
 ∃ o' v',e=.returned y/\Turn o o' (bV R) w w'/\fw w' o' R b g caps M J qs tb x v'
theorem wM {w:World}{o:Col}{R b:Nat}{g:av}{caps:List Int}{M:Nat}{J:Nat->Nat}{qs:bR}{tb:Nat->Nat}{r:bH}{v:bO}(k:Int)(h:fw w o R b g caps M J qs tb r v)(hG:BS g caps)(hM:M < 27000000000000) :
  Calls Tryz.prog 26 #[.pointer (some ⟨b,0,none⟩),.int .i64 k] w (A8 w o R b g caps (M+1) J qs tb (iG g caps r k).1 (.bool (iG g caps r k).2)):=by
 refine (Nc k h.mem hG.linked hG.acts hG.caps h.ok (by omega) (h.lt hM) (h.tape hM)).mono ?_;rintro e w' ⟨o',v',he,T,ht,K⟩;have hh:vS g (M+1) (iG g caps r k).1.aP/\∀ d,((iG g caps r k).1.aP.strs d).length<=jg g (M+1) J d:=by
  unfold iG
  split
  ·
   exact ⟨h.ok.mono (by omega),fun d=>Nat.le_trans (h.len d) (qj (by omega) d)⟩
  ·
   exact QS hG.linked hG.acts h.ok h.len
 rw [MV] at K;exact ⟨o',v',he,T,K,hh.1,hh.2,h.ins,ht.trans h.tbs⟩
end Go.Proofs.YtepjkmnhmcjbkaaGreat
namespace Go.Proofs.YtepjkmnhmcjbkaaGreat
def oZ (g:av)(t:Nat):List Int:=match g.actors[t]? with | some a=>eB a.tag a.params | none=>[]
def fO (g:av)(t:Nat):bW:=⟨oZ g t,0,List.replicate (ay g t).length [],[],0,false,0⟩
def bN (g:av):pX:=⟨fO g,fun d=>if d < g.edges.length then (qW g d).start else []⟩
def newE (g:av)(caps:List Int):Int:=if jH g≠0 then jH g else if caps.length≠g.edges.length then 240 else if caps.any (fun c=>decide (c < 0)) then 240 else 0
def iR:av:=⟨{ data:=#[103] },[⟨{ data:=#[97] },10,[1,1]⟩,⟨{ data:=#[98] },6,[1]⟩,⟨{ data:=#[99] },8,[]⟩],[⟨0,0,1,0,[]⟩,⟨1,0,2,0,[]⟩],[],[⟨{ data:=#[121] },2,0⟩]⟩
theorem GQ:decide (10 < (bS iR [1,1] 10 ⟨bN iR,none⟩).2)=true/\Yh iR (bS iR [1,1] 10 ⟨bN iR,none⟩).1.aP 0=[1,3]:=by constructor <;> kernel_rfl
theorem Dc:(bS iR [1,1] 10 ⟨bN iR,none⟩).1.failed=none:=by kernel_rfl
theorem JO:(dY iR [1,1] (bS iR [1,1] 10 ⟨bN iR,none⟩).1).length=2:=by kernel_rfl
theorem JQ:newE iR [1,1]=0:=by kernel_rfl
open Go.RowKit
def iT (qs:bR)(g:av)(t B:Nat):List Value:=(List.range (ay g t).length).map fun q=>if bY g t q < B then vG qs g t q else .nilIface
def toS (qs:bR)(g:av)(t B:Nat):List Value:=(List.range (aF g t).length).map fun p=>if toP g t p < B then sP qs g t p else .nilIface
theorem xZ (qs:bR)(g:av)(t B:Nat):(iT qs g t B).length=(ay g t).length:=by simp [iT]
theorem Eu (qs:bR)(g:av)(t B:Nat):(toS qs g t B).length=(aF g t).length:=by simp [toS]
theorem JR (qs:bR)(g:av)(t:Nat):iT qs g t 0=List.replicate (ay g t).length .nilIface:=by
 refine List.ext_getElem (by simp [iT]) fun i h1 h2=>?_;simp [iT]
theorem QT (qs:bR)(g:av)(t:Nat):toS qs g t 0=List.replicate (aF g t).length .nilIface:=by
 refine List.ext_getElem (by simp [toS]) fun i h1 h2=>?_;simp [toS]
theorem yc {qs:bR}{g:av}{t B d:Nat}(b:Nat)(h:B<=d):iT (upd qs d b) g t B=iT qs g t B:=by
 refine List.ext_getElem (by simp [iT]) fun i h1 h2=>?_;simp only [iT,List.getElem_map,List.getElem_range]
 split
 ·
  unfold vG;rw [aO (by omega)]
 ·
  rfl
theorem Ev {qs:bR}{g:av}{t B d:Nat}(b:Nat)(h:B<=d):toS (upd qs d b) g t B=toS qs g t B:=by
 refine List.ext_getElem (by simp [toS]) fun i h1 h2=>?_;simp only [toS,List.getElem_map,List.getElem_range]
 split
 ·
  unfold sP;rw [aO (by omega)]
 ·
  rfl
theorem Df {g:av}{t p q:Nat}(h:bY g t p=bY g t q)(hl:bY g t p < g.edges.length+g.ins.length):p=q:=by
 have key:∀ (p:Nat),bY g t p < g.edges.length+g.ins.length->(∃ i e,bY g t p=i/\i < g.edges.length/\g.edges[i]?=some e/\e.dx=(p:Int))\/(∃ i e,bY g t p=g.edges.length+i/\i < g.ins.length/\g.ins[i]?=some e/\e.port=(p:Int)):=by
  intro p hp;unfold bY at hp ⊢;cases h1:g.edges.findIdx? (fun e=>decide (e.dst=(t:Int)) && decide (e.dx=(p:Int))) with
  | some i =>
   obtain ⟨hi,hp,_⟩:=List.findIdx?_eq_some_iff_getElem.1 h1;simp at hp;exact .inl ⟨i,g.edges[i],rfl,hi,List.getElem?_eq_getElem hi,hp.2⟩
  | none =>
   rw [h1] at hp;cases h2:g.ins.findIdx? (fun e=>decide (e.aW=(t:Int)) && decide (e.port=(p:Int))) with
   | some i =>
    obtain ⟨hi,hp,_⟩:=List.findIdx?_eq_some_iff_getElem.1 h2;simp at hp;exact .inr ⟨i,g.ins[i],rfl,hi,List.getElem?_eq_getElem hi,hp.2⟩
   | none =>
    rw [h2] at hp;simp only at hp;omega
 rcases key p hl with ⟨i,e,h1,h2,h3,h4⟩ | ⟨i,e,h1,h2,h3,h4⟩ <;> rcases key q (by omega) with ⟨j,f,k1,k2,k3,k4⟩ | ⟨j,f,k1,k2,k3,k4⟩
 ·
  obtain rfl:i=j:=by omega
  rw [h3] at k3;cases k3
  omega
 ·
  omega
 ·
  omega
 ·
  obtain rfl:i=j:=by omega
  rw [h3] at k3;cases k3
  omega
theorem Lp {g:av}{t p q:Nat}(h:toP g t p=toP g t q)(hl:toP g t p < g.edges.length+g.ins.length+g.outs.length):p=q:=by
 have key:∀ (p:Nat),toP g t p < g.edges.length+g.ins.length+g.outs.length->(∃ i e,toP g t p=i/\i < g.edges.length/\g.edges[i]?=some e/\e.dw=(p:Int))\/(∃ i e,toP g t p=g.edges.length+g.ins.length+i/\i < g.outs.length/\g.outs[i]?=some e/\e.port=(p:Int)):=by
  intro p hp;unfold toP at hp ⊢;cases h1:g.edges.findIdx? (fun e=>decide (e.src=(t:Int)) && decide (e.dw=(p:Int))) with
  | some i =>
   obtain ⟨hi,hp,_⟩:=List.findIdx?_eq_some_iff_getElem.1 h1;simp at hp;exact .inl ⟨i,g.edges[i],rfl,hi,List.getElem?_eq_getElem hi,hp.2⟩
  | none =>
   rw [h1] at hp;cases h2:g.outs.findIdx? (fun e=>decide (e.aW=(t:Int)) && decide (e.port=(p:Int))) with
   | some i =>
    obtain ⟨hi,hp,_⟩:=List.findIdx?_eq_some_iff_getElem.1 h2;simp at hp;exact .inr ⟨i,g.outs[i],rfl,hi,List.getElem?_eq_getElem hi,hp.2⟩
   | none =>
    rw [h2] at hp;simp only at hp;omega
 rcases key p hl with ⟨i,e,h1,h2,h3,h4⟩ | ⟨i,e,h1,h2,h3,h4⟩ <;> rcases key q (by omega) with ⟨j,f,k1,k2,k3,k4⟩ | ⟨j,f,k1,k2,k3,k4⟩
 ·
  obtain rfl:i=j:=by omega
  rw [h3] at k3;cases k3
  omega
 ·
  omega
 ·
  omega
 ·
  obtain rfl:i=j:=by omega
  rw [h3] at k3;cases k3
  omega
theorem Ng {qs:bR}{g:av}{t q B:Nat}(he:bY g t q=B)(hB:B < g.edges.length+g.ins.length):(iT qs g t B).set q (vG qs g t q)=iT qs g t (B+1):=by
 refine List.ext_getElem (by simp [iT]) fun i h1 h2=>?_;rw [List.getElem_set];simp only [iT,List.getElem_map,List.getElem_range]
 by_cases e:q=i
 ·
  subst e;rw [if_pos rfl,if_pos (by omega)]
 ·
  rw [if_neg e];have:bY g t i≠B:=fun h=>e (Df (g:=g) (t:=t) (p:=q) (q:=i) (by omega) (by omega))
  by_cases h:bY g t i < B
  ·
   rw [if_pos h,if_pos (by omega)]
  ·
   rw [if_neg h,if_neg (by omega)]
theorem JS {qs:bR}{g:av}{t u q B:Nat}(he:bY g t q=B)(hu:u≠t):iT qs g u B=iT qs g u (B+1):=by
 refine List.ext_getElem (by simp [iT]) fun i h1 h2=>?_;simp only [iT,List.getElem_map,List.getElem_range];have:bY g u i≠B:=fun h=>hu (Cv (h.trans he.symm))
 by_cases h:bY g u i < B
 ·
  rw [if_pos h,if_pos (by omega)]
 ·
  rw [if_neg h,if_neg (by omega)]
theorem Vt {qs:bR}{g:av}{t p B:Nat}(he:toP g t p=B)(hB:B < g.edges.length+g.ins.length+g.outs.length):(toS qs g t B).set p (sP qs g t p)=toS qs g t (B+1):=by
 refine List.ext_getElem (by simp [toS]) fun i h1 h2=>?_;rw [List.getElem_set];simp only [toS,List.getElem_map,List.getElem_range]
 by_cases e:p=i
 ·
  subst e;rw [if_pos rfl,if_pos (by omega)]
 ·
  rw [if_neg e];have:toP g t i≠B:=fun h=>e (Lp (g:=g) (t:=t) (p:=p) (q:=i) (by omega) (by omega))
  by_cases h:toP g t i < B
  ·
   rw [if_pos h,if_pos (by omega)]
  ·
   rw [if_neg h,if_neg (by omega)]
theorem QU {qs:bR}{g:av}{t u p B:Nat}(he:toP g t p=B)(hu:u≠t):toS qs g u B=toS qs g u (B+1):=by
 refine List.ext_getElem (by simp [toS]) fun i h1 h2=>?_;simp only [toS,List.getElem_map,List.getElem_range];have:toP g u i≠B:=fun h=>hu (KS (h.trans he.symm))
 by_cases h:toP g u i < B
 ·
  rw [if_pos h,if_pos (by omega)]
 ·
  rw [if_neg h,if_neg (by omega)]
theorem Nh {qs:bR}{g:av}{t B:Nat}(h:∀ q,q < (ay g t).length->bY g t q < B):iT qs g t B=(List.range (ay g t).length).map (vG qs g t):=by
 refine List.ext_getElem (by simp [iT]) fun i h1 h2=>?_;simp only [iT,List.getElem_map,List.getElem_range];rw [if_pos (h i (by simpa [iT] using h1))]
theorem Vu {qs:bR}{g:av}{t B:Nat}(h:∀ q,q < (aF g t).length->toP g t q < B):toS qs g t B=(List.range (aF g t).length).map (sP qs g t):=by
 refine List.ext_getElem (by simp [toS]) fun i h1 h2=>?_;simp only [toS,List.getElem_map,List.getElem_range];rw [if_pos (h i (by simpa [toS] using h1))]
theorem Lr {qs:bR}{g:av}{t n:Nat}(h:∀ p,p < (aF g t).length->toP g t p < g.edges.length\/g.edges.length+g.ins.length<=toP g t p)(hn:n<=g.ins.length):toS qs g t g.edges.length=toS qs g t (g.edges.length+n):=by
 refine List.ext_getElem (by simp [toS]) fun i h1 h2=>?_;simp only [toS,List.getElem_map,List.getElem_range];have:=h i (by simpa [toS] using h1)
 by_cases h:toP g t i < g.edges.length
 ·
  rw [if_pos h,if_pos (by omega)]
 ·
  rw [if_neg h,if_neg (by omega)]
theorem dZ.vals {w:World}{o:Col}{c b:Nat}{ty:TypeId}{vs:List Value}(h:dZ w o c b ty vs.toArray){n cap:Nat}(hn:n=vs.length)(hc:n<=cap):cu w o c (.slice (some ⟨b,0,none⟩) n cap) vs:=by
 subst hn
 by_cases hp:0 < vs.length
 ·
  refine .inr ⟨hp,b,0,cap,rfl,hc,h.lt,h.2,fun k hk=>h.cell (0+k) _ ?_⟩;rw [Nat.zero_add];simp [hk]
 ·
  obtain rfl:vs=[]:=List.eq_nil_of_length_eq_zero (by omega);exact .inl ⟨rfl,_,_,rfl⟩
structure mU (w:World) (o:Col) (M b:Nat) (g:av) (t:Nat) (x:bW) (v:jf) (S D:List Value):Prop where
 blk:dZ w o M b 64 (iX x v (ay g t).length).toArray
 act:∀ a,g.actors[t]?=some a->Act w o (M+1) (M+2) v.body a.tag a.params x.keep x.n
 ins:Ints w o (M+3) v.ins (ay g t)
 outs:Ints w o (M+4) v.outs (aF g t)
 src:∃ gs,v.src=.slice (some ⟨gs,0,none⟩) (ay g t).length (ay g t).length/\dZ w o (M+5) gs 77 S.toArray
 dst:∃ gd,v.dst=.slice (some ⟨gd,0,none⟩) (aF g t).length (aF g t).length/\dZ w o (M+6) gd 75 D.toArray
 Yp:S.length=(ay g t).length
 Yq:D.length=(aF g t).length
 hand:vH w o (M+7) (M+16) v.hand x.hand v.hvs
 bg:sQ w o (M+8) (M+32) x v
 few:(ay g t).length<=16/\(aF g t).length<=16/\x.hand.length<=16/\x.bg.length<=16
theorem mU.turn {w w':World}{o o':Col}{C:Nat->Prop}{M b:Nat}{g:av}{t:Nat}{x:bW}{v:jf}{S D:List Value}(h:mU w o M b g t x v S D)(T:Turn o o' C w w')(hC:∀ k,C k->¬ dG M k):mU w' o' M b g t x v S D:=by
 have hc:∀ j,j < 48->¬ C (M+j):=fun j hj hcc=>hC _ hcc ⟨by omega,by omega⟩;have h0:¬ C M:=hc 0 (by omega);obtain ⟨_,_,f3,f4⟩:=h.few;obtain ⟨gs,e1,b1⟩:=h.src;obtain ⟨gd,e2,b2⟩:=h.dst;exact ⟨h.blk.turn T h0,fun a ha=>(h.act a ha).turn T (hc 1 (by omega)) (hc 2 (by omega)),h.ins.turn T (hc 3 (by omega)),h.outs.turn T (hc 4 (by omega)),⟨gs,e1,b1.turn T (hc 5 (by omega))⟩,⟨gd,e2,b2.turn T (hc 6 (by omega))⟩,h.Yp,h.Yq,h.hand.turn T (hc 7 (by omega)) (fun k hk=>by rw [Nat.add_assoc];exact hc _ (by omega)),h.bg.turn T (hc 8 (by omega)) (fun k hk=>by rw [Nat.add_assoc];exact hc _ (by omega)),h.few⟩
theorem mU.whole {w:World}{o:Col}{M b:Nat}{g:av}{qs:bR}{t:Nat}{x:bW}{v:jf}{S D:List Value}(h:mU w o M b g t x v S D)(hS:S=(List.range (ay g t).length).map (vG qs g t))(hD:D=(List.range (aF g t).length).map (sP qs g t)):dW w o M b g qs t x v:=by
 obtain ⟨gs,e1,b1⟩:=h.src;obtain ⟨gd,e2,b2⟩:=h.dst;subst hS hD;exact ⟨h.blk,h.act,h.ins,h.outs,by rw [e1];exact b1.vals (by simp) (Nat.le_refl _),by rw [e2];exact b2.vals (by simp) (Nat.le_refl _),h.hand,h.bg,h.few⟩
theorem mU.Yr {w:World}{o:Col}{M b:Nat}{g:av}{t:Nat}{x:bW}{v:jf}{S D:List Value}(h:mU w o M b g t x v S D){gs:Nat}(he:v.src=.slice (some ⟨gs,0,none⟩) (ay g t).length (ay g t).length)(q:Nat)(u:Value) :
  mU (w.setCell ⟨gs,q,none⟩ u) o M b g t x v (S.set q u) D/\Turn o o (fun c=>c=M+5) w (w.setCell ⟨gs,q,none⟩ u):=by
 obtain ⟨gs',e1,b1⟩:=h.src;rw [he] at e1;cases e1
 obtain ⟨B,T⟩:=b1.set q u;obtain ⟨gd,e2,b2⟩:=h.dst;have no:∀ j,j≠5->¬ (M+j=M+5):=fun j hj=>by omega
 refine ⟨⟨h.blk.turn T (no 0 (by omega)),fun a ha=>(h.act a ha).turn T (no 1 (by omega)) (no 2 (by omega)),h.ins.turn T (no 3 (by omega)),h.outs.turn T (no 4 (by omega)),⟨gs,he,by rw [List.setIfInBounds_toArray] at B;exact B⟩,⟨gd,e2,b2.turn T (no 6 (by omega))⟩,by rw [List.length_set];exact h.Yp,h.Yq,h.hand.turn T (no 7 (by omega)) (fun k hk=>by omega),h.bg.turn T (no 8 (by omega)) (fun k hk=>by omega),h.few⟩,T⟩
theorem mU.Yt {w:World}{o:Col}{M b:Nat}{g:av}{t:Nat}{x:bW}{v:jf}{S D:List Value}(h:mU w o M b g t x v S D){gd:Nat}(he:v.dst=.slice (some ⟨gd,0,none⟩) (aF g t).length (aF g t).length)(p:Nat)(u:Value) :
  mU (w.setCell ⟨gd,p,none⟩ u) o M b g t x v S (D.set p u)/\Turn o o (fun c=>c=M+6) w (w.setCell ⟨gd,p,none⟩ u):=by
 obtain ⟨gd',e2,b2⟩:=h.dst;rw [he] at e2;cases e2
 obtain ⟨B,T⟩:=b2.set p u;obtain ⟨gs,e1,b1⟩:=h.src;have no:∀ j,j≠6->¬ (M+j=M+6):=fun j hj=>by omega
 refine ⟨⟨h.blk.turn T (no 0 (by omega)),fun a ha=>(h.act a ha).turn T (no 1 (by omega)) (no 2 (by omega)),h.ins.turn T (no 3 (by omega)),h.outs.turn T (no 4 (by omega)),⟨gs,e1,b1.turn T (no 5 (by omega))⟩,⟨gd,he,by rw [List.setIfInBounds_toArray] at B;exact B⟩,h.Yp,by rw [List.length_set];exact h.Yq,h.hand.turn T (no 7 (by omega)) (fun k hk=>by omega),h.bg.turn T (no 8 (by omega)) (fun k hk=>by omega),h.few⟩,T⟩
structure iL (w:World) (o:Col) (R b:Nat) (g:av) (caps:List Int) (qs:bR) (nT nE nI nO F B:Nat) (v:bO):Prop where
 blk:dZ w o R b 53 (jC ⟨bN g,none⟩ v).toArray
 tasks:Own w o (R+1) 60 1 v.tasks nT ((List.range nT).map fun t=>gG (v.tb t))
 edges:Own w o (R+2) 73 1 v.edges nE ((List.range nE).map fun d=>gG (qs d))
 inputs:Own w o (R+3) 73 1 v.inputs nI ((List.range nI).map fun d=>gG (qs (g.edges.length+d)))
 tapes:Own w o (R+4) 80 1 v.tapes nO ((List.range nO).map fun d=>gG (qs (g.edges.length+g.ins.length+d)))
 task:∀ t,t < nT->mU w o (R+100+64*t) (v.tb t) g t (fO g t) (v.tv t) (iT qs g t F) (toS qs g t B)
 queue:∀ d,d < nE\/(g.edges.length<=d/\d < g.edges.length+nI)->xw w o (R+4000+d) (qs d) (oK caps d) ((bN g).strs d) 256
 tape:∀ d,g.edges.length+g.ins.length<=d->d < g.edges.length+g.ins.length+nO->dZ w o (R+4000+d) (qs d) 82 #[v.rows d]/\Own w o (R+5000+d) 3 1 (v.rows d) 0 []
 most:nT<=g.actors.length/\nE<=g.edges.length/\nI<=g.ins.length/\nO<=g.outs.length
 few:g.actors.length<=32/\g.edges.length<=96/\g.ins.length<=16/\g.outs.length<=16
theorem iL.turn {w w':World}{o o':Col}{C:Nat->Prop}{R b:Nat}{g:av}{caps:List Int}{qs:bR}{nT nE nI nO F B:Nat}{v:bO}(h:iL w o R b g caps qs nT nE nI nO F B v)(T:Turn o o' C w w')(hC:∀ k,C k->bV R k->R+100+64*nT<=k/\k < R+4000):iL w' o' R b g caps qs nT nE nI nO F B v:=by
 have hc:∀ j,j < 6000->j < 100+64*nT\/4000<=j->¬ C (R+j):=fun j hj hn hcc=>by
  have:=hC _ hcc ⟨by omega,by omega⟩;omega
 have h0:¬ C R:=hc 0 (by omega) (by omega);obtain ⟨f1,f2,f3,f4⟩:=h.few;obtain ⟨m1,m2,m3,m4⟩:=h.most;refine ⟨h.blk.turn T h0,h.tasks.turn T (hc 1 (by omega) (by omega)),h.edges.turn T (hc 2 (by omega) (by omega)),h.inputs.turn T (hc 3 (by omega) (by omega)),h.tapes.turn T (hc 4 (by omega) (by omega)),fun t ht=>(h.task t ht).turn T (fun k hk hm=>?_),fun d hd=>(h.queue d hd).turn T (by rw [Nat.add_assoc];exact hc _ (by omega) (by omega)),fun d hd hd2=>⟨(h.tape d hd hd2).1.turn T (by rw [Nat.add_assoc];exact hc _ (by omega) (by omega)),(h.tape d hd hd2).2.turn T (by rw [Nat.add_assoc];exact hc _ (by omega) (by omega))⟩,h.most,h.few⟩;unfold dG at hm;have:=hC k hk ⟨by omega,by omega⟩;omega
theorem iL.whole {w:World}{o:Col}{R b:Nat}{g:av}{caps:List Int}{qs:bR}{v:bO}(h:iL w o R b g caps qs g.actors.length g.edges.length g.ins.length g.outs.length (g.edges.length+g.ins.length) (g.edges.length+g.ins.length+g.outs.length) v)(hS:Sound g):fU w o R b g caps (jg g 256 (fun _=>256)) qs ⟨bN g,none⟩ v:=by
 refine ⟨h.blk,h.tasks.vals,h.edges.vals,h.inputs.vals,h.tapes.vals,fun t ht=>(h.task t ht).whole (Nh fun q hq=>hS.Le ht hq) (Vu fun p hp=>?_),fun d hd=>by rw [show jg g 256 (fun _=>256) d=256 by unfold jg;split <;> rfl];exact h.queue d (by omega),fun d hd hd2=>?_,h.few⟩
 ·
  rcases hS.Lf ht hp with h | h <;> omega
 ·
  have e:(bN g).strs d=[]:=by
   unfold bN;simp only;rw [if_neg (by omega)]
  rw [e];exact h.tape d hd hd2
theorem iL.zT {w w':World}{o o':Col}{R b:Nat}{g:av}{caps:List Int}{qs:bR}{k:Nat}{v:bO}{vt:Value}{Zn:Nat}{QV:jf}(h:iL w o R b g caps qs k 0 0 0 0 0 v)(hk:k < g.actors.length)(T:Turn o o' (fun c=>c=R\/c=R+1\/dG (R+100+64*k) c) w w')
  (hB:dZ w' o' R b 53 (jC ⟨bN g,none⟩ { v with tasks:=vt }).toArray) (hO:Own w' o' (R+1) 60 1 vt (k+1) (((List.range k).map fun t=>gG (v.tb t)) ++ [gG Zn])) (hT:mU w' o' (R+100+64*k) Zn g k (fO g k) QV (iT qs g k 0) (toS qs g k 0)) :
  iL w' o' R b g caps qs (k+1) 0 0 0 0 0 { v with tasks:=vt,tb:=upd v.tb k Zn,tv:=upd v.tv k QV }:=by
 obtain ⟨f1,f2,f3,f4⟩:=h.few;obtain ⟨m1,m2,m3,m4⟩:=h.most;refine ⟨hB,?_,h.edges.turn T (by unfold dG;omega),h.inputs.turn T (by unfold dG;omega),h.tapes.turn T (by unfold dG;omega),fun t ht=>?_,fun d hd=>by omega,fun d hd hd2=>by omega,⟨hk,m2,m3,m4⟩,h.few⟩
 ·
  have e:((List.range (k+1)).map fun t=>gG (upd v.tb k Zn t))=((List.range k).map fun t=>gG (v.tb t)) ++ [gG Zn]:=by
   rw [List.range_succ,List.map_append]
   congr 1
   ·
    refine List.map_congr_left fun t ht=>?_;rw [aO (by have:=List.mem_range.1 ht;omega)]
   ·
    simp [upd_same]
  rw [e];exact hO
 ·
  show mU w' o' (R+100+64*t) (upd v.tb k Zn t) g t (fO g t) (upd v.tv k QV t) _ _
  by_cases e:t=k
  ·
   subst e;rw [upd_same,upd_same];exact hT
  ·
   rw [aO e,aO e];exact (h.task t (by omega)).turn T (fun c hc hm=>by unfold dG at hc hm;omega)
theorem iL.Vv {w w':World}{o o':Col}{R b:Nat}{g:av}{caps:List Int}{qs:bR}{i q:Nat}{v:bO}{ve:Value}(h:iL w o R b g caps qs g.actors.length i 0 0 i i v)(hi:i < g.edges.length)(T:Turn o o' (fun c=>c=R\/c=R+2) w w')
  (hB:dZ w' o' R b 53 (jC ⟨bN g,none⟩ { v with edges:=ve }).toArray) (hO:Own w' o' (R+2) 73 1 ve (i+1) (((List.range i).map fun d=>gG (qs d)) ++ [gG q])) (hQ:xw w' o' (R+4000+i) q (oK caps i) (qW g i).start 256) :
  iL w' o' R b g caps (upd qs i q) g.actors.length (i+1) 0 0 i i { v with edges:=ve }:=by
 obtain ⟨f1,f2,f3,f4⟩:=h.few;obtain ⟨m1,m2,m3,m4⟩:=h.most;refine ⟨hB,h.tasks.turn T (by omega),?_,?_,?_,fun t ht=>?_,fun d hd=>?_,fun d hd hd2=>by omega,⟨m1,hi,m3,m4⟩,h.few⟩
 ·
  have e:((List.range (i+1)).map fun d=>gG (upd qs i q d))=((List.range i).map fun d=>gG (qs d)) ++ [gG q]:=by
   rw [List.range_succ,List.map_append]
   congr 1
   ·
    refine List.map_congr_left fun t ht=>?_;rw [aO (by have:=List.mem_range.1 ht;omega)]
   ·
    simp [upd_same]
  rw [e];exact hO
 ·
  exact h.inputs.turn T (by omega)
 ·
  exact h.tapes.turn T (by omega)
 ·
  rw [yc q (Nat.le_refl _),Ev q (Nat.le_refl _)];exact (h.task t ht).turn T (fun c hc hm=>by unfold dG at hm;omega)
 ·
  by_cases e:d=i
  ·
   subst e;have e2:(bN g).strs d=(qW g d).start:=by unfold bN;simp only;rw [if_pos hi]
   rw [upd_same,e2];exact hQ
  ·
   rw [aO e];exact (h.queue d (by omega)).turn T (by omega)
theorem iL.QW {w w':World}{o o':Col}{R b:Nat}{g:av}{caps:List Int}{qs:bR}{i q:Nat}{v:bO}{ve:Value}(h:iL w o R b g caps qs g.actors.length g.edges.length i 0 (g.edges.length+i) (g.edges.length+i) v)(hi:i < g.ins.length)(T:Turn o o' (fun c=>c=R\/c=R+3) w w')
  (hB:dZ w' o' R b 53 (jC ⟨bN g,none⟩ { v with inputs:=ve }).toArray) (hO:Own w' o' (R+3) 73 1 ve (i+1) (((List.range i).map fun d=>gG (qs (g.edges.length+d))) ++ [gG q])) (hQ:xw w' o' (R+4000+(g.edges.length+i)) q (oK caps (g.edges.length+i)) [] 256) :
  iL w' o' R b g caps (upd qs (g.edges.length+i) q) g.actors.length g.edges.length (i+1) 0 (g.edges.length+i) (g.edges.length+i) { v with inputs:=ve }:=by
 obtain ⟨f1,f2,f3,f4⟩:=h.few;obtain ⟨m1,m2,m3,m4⟩:=h.most;refine ⟨hB,h.tasks.turn T (by omega),?_,?_,?_,fun t ht=>?_,fun d hd=>?_,fun d hd hd2=>by omega,⟨m1,m2,hi,m4⟩,h.few⟩
 ·
  have e:((List.range g.edges.length).map fun d=>gG (upd qs (g.edges.length+i) q d))=(List.range g.edges.length).map fun d=>gG (qs d):=by
   refine List.map_congr_left fun t ht=>?_;rw [aO (by have:=List.mem_range.1 ht;omega)]
  rw [e];exact h.edges.turn T (by omega)
 ·
  have e:((List.range (i+1)).map fun d=>gG (upd qs (g.edges.length+i) q (g.edges.length+d)))=((List.range i).map fun d=>gG (qs (g.edges.length+d))) ++ [gG q]:=by
   rw [List.range_succ,List.map_append]
   congr 1
   ·
    refine List.map_congr_left fun t ht=>?_;rw [aO (by have:=List.mem_range.1 ht;omega)]
   ·
    simp [upd_same]
  rw [e];exact hO
 ·
  exact h.tapes.turn T (by omega)
 ·
  rw [yc q (Nat.le_refl _),Ev q (Nat.le_refl _)];exact (h.task t ht).turn T (fun c hc hm=>by unfold dG at hm;omega)
 ·
  by_cases e:d=g.edges.length+i
  ·
   subst e;have e2:(bN g).strs (g.edges.length+i)=[]:=by unfold bN;simp only;rw [if_neg (by omega)]
   rw [upd_same,e2];exact hQ
  ·
   rw [aO e];exact (h.queue d (by omega)).turn T (by omega)
theorem iL.Vw {w w':World}{o o':Col}{R b:Nat}{g:av}{caps:List Int}{qs:bR}{i q:Nat}{v:bO}{ve:Value}(h:iL w o R b g caps qs g.actors.length g.edges.length g.ins.length i (g.edges.length+g.ins.length) (g.edges.length+g.ins.length+i) v)(hi:i < g.outs.length)(T:Turn o o' (fun c=>c=R\/c=R+4) w w')
  (hB:dZ w' o' R b 53 (jC ⟨bN g,none⟩ { v with tapes:=ve }).toArray) (hO:Own w' o' (R+4) 80 1 ve (i+1) (((List.range i).map fun d=>gG (qs (g.edges.length+g.ins.length+d))) ++ [gG q])) (hQ:dZ w' o' (R+4000+(g.edges.length+g.ins.length+i)) q 82 #[.slice none 0 0]) :
  iL w' o' R b g caps (upd qs (g.edges.length+g.ins.length+i) q) g.actors.length g.edges.length g.ins.length (i+1) (g.edges.length+g.ins.length) (g.edges.length+g.ins.length+i) { v with tapes:=ve,rows:=upd v.rows (g.edges.length+g.ins.length+i) (.slice none 0 0) }:=by
 obtain ⟨f1,f2,f3,f4⟩:=h.few;obtain ⟨m1,m2,m3,m4⟩:=h.most;refine ⟨hB,h.tasks.turn T (by omega),?_,?_,?_,fun t ht=>?_,fun d hd=>?_,fun d hd hd2=>?_,⟨m1,m2,m3,hi⟩,h.few⟩
 ·
  have e:((List.range g.edges.length).map fun d=>gG (upd qs (g.edges.length+g.ins.length+i) q d))=(List.range g.edges.length).map fun d=>gG (qs d):=by
   refine List.map_congr_left fun t ht=>?_;rw [aO (by have:=List.mem_range.1 ht;omega)]
  rw [e];exact h.edges.turn T (by omega)
 ·
  have e:((List.range g.ins.length).map fun d=>gG (upd qs (g.edges.length+g.ins.length+i) q (g.edges.length+d)))=(List.range g.ins.length).map fun d=>gG (qs (g.edges.length+d)):=by
   refine List.map_congr_left fun t ht=>?_;rw [aO (by have:=List.mem_range.1 ht;omega)]
  rw [e];exact h.inputs.turn T (by omega)
 ·
  have e:((List.range (i+1)).map fun d=>gG (upd qs (g.edges.length+g.ins.length+i) q (g.edges.length+g.ins.length+d)))=((List.range i).map fun d=>gG (qs (g.edges.length+g.ins.length+d))) ++ [gG q]:=by
   rw [List.range_succ,List.map_append]
   congr 1
   ·
    refine List.map_congr_left fun t ht=>?_;rw [aO (by have:=List.mem_range.1 ht;omega)]
   ·
    simp [upd_same]
  rw [e];exact hO
 ·
  rw [yc q (by omega),Ev q (Nat.le_refl _)];exact (h.task t ht).turn T (fun c hc hm=>by unfold dG at hm;omega)
 ·
  rw [aO (by omega)];exact (h.queue d hd).turn T (by omega)
 ·
  show dZ _ _ _ _ _ #[upd v.rows (g.edges.length+g.ins.length+i) (.slice none 0 0) d]/\Own _ _ _ _ _ (upd v.rows (g.edges.length+g.ins.length+i) (.slice none 0 0) d) _ _
  by_cases e:d=g.edges.length+g.ins.length+i
  ·
   subst e;rw [upd_same,upd_same];exact ⟨hQ,Own.nil _ _ _ _ _⟩
  ·
   rw [aO e,aO e];obtain ⟨k1,k2⟩:=h.tape d hd (by omega);exact ⟨k1.turn T (by omega),k2.turn T (by omega)⟩
theorem iL.sU {w:World}{o:Col}{R b:Nat}{g:av}{caps:List Int}{qs:bR}{nE nI nO F B:Nat}{v:bO}(h:iL w o R b g caps qs g.actors.length nE nI nO F B v){t q gs:Nat}(ht:t < g.actors.length)(hq:bY g t q=F)(hF:F < g.edges.length+g.ins.length)(he:(v.tv t).src=.slice (some ⟨gs,0,none⟩) (ay g t).length (ay g t).length) :
  iL (w.setCell ⟨gs,q,none⟩ (vG qs g t q)) o R b g caps qs g.actors.length nE nI nO (F+1) B v/\Turn o o (fun c=>c=R+100+64*t+5) w (w.setCell ⟨gs,q,none⟩ (vG qs g t q)):=by
 obtain ⟨f1,f2,f3,f4⟩:=h.few;obtain ⟨m1,m2,m3,m4⟩:=h.most;obtain ⟨H,T⟩:=(h.task t ht).Yr he q (vG qs g t q);rw [Ng hq hF] at H;refine ⟨⟨h.blk.turn T (by omega),h.tasks.turn T (by omega),h.edges.turn T (by omega),h.inputs.turn T (by omega),h.tapes.turn T (by omega),fun u hu=>?_,fun d hd=>(h.queue d hd).turn T (by omega),fun d hd hd2=>⟨(h.tape d hd hd2).1.turn T (by omega),(h.tape d hd hd2).2.turn T (by omega)⟩,h.most,h.few⟩,T⟩
 by_cases e:u=t
 ·
  subst e;exact H
 ·
  rw [<- JS hq e];exact (h.task u hu).turn T (fun c hc hm=>by unfold dG at hm;omega)
theorem iL.A9 {w:World}{o:Col}{R b:Nat}{g:av}{caps:List Int}{qs:bR}{nE nI nO F B:Nat}{v:bO}(h:iL w o R b g caps qs g.actors.length nE nI nO F B v){t p gd:Nat}(ht:t < g.actors.length)(hp:toP g t p=B)(hB:B < g.edges.length+g.ins.length+g.outs.length)(he:(v.tv t).dst=.slice (some ⟨gd,0,none⟩) (aF g t).length (aF g t).length) :
  iL (w.setCell ⟨gd,p,none⟩ (sP qs g t p)) o R b g caps qs g.actors.length nE nI nO F (B+1) v/\Turn o o (fun c=>c=R+100+64*t+6) w (w.setCell ⟨gd,p,none⟩ (sP qs g t p)):=by
 obtain ⟨f1,f2,f3,f4⟩:=h.few;obtain ⟨m1,m2,m3,m4⟩:=h.most;obtain ⟨H,T⟩:=(h.task t ht).Yt he p (sP qs g t p);rw [Vt hp hB] at H;refine ⟨⟨h.blk.turn T (by omega),h.tasks.turn T (by omega),h.edges.turn T (by omega),h.inputs.turn T (by omega),h.tapes.turn T (by omega),fun u hu=>?_,fun d hd=>(h.queue d hd).turn T (by omega),fun d hd hd2=>⟨(h.tape d hd hd2).1.turn T (by omega),(h.tape d hd hd2).2.turn T (by omega)⟩,h.most,h.few⟩,T⟩
 by_cases e:u=t
 ·
  subst e;exact H
 ·
  rw [<- QU hp e];exact (h.task u hu).turn T (fun c hc hm=>by unfold dG at hm;omega)
theorem iL.pass {w:World}{o:Col}{R b:Nat}{g:av}{caps:List Int}{qs:bR}{nI nO F n m:Nat}{v:bO}(h:iL w o R b g caps qs g.actors.length g.edges.length nI nO F (g.edges.length+n) v)(hS:Sound g)(hn:n<=g.ins.length)(hm:m<=g.ins.length):iL w o R b g caps qs g.actors.length g.edges.length nI nO F (g.edges.length+m) v:=by
 refine { h with task:=fun t ht=>?_ };have hp:∀ p,p < (aF g t).length->toP g t p < g.edges.length\/g.edges.length+g.ins.length<=toP g t p:=fun p hp=>by
  rcases hS.Lf ht hp with h | h <;> omega
 rw [<- Lr hp hm,Lr hp hn];exact h.task t ht
theorem Yu {g:av}(hS:Sound g)(hA:fG g)(hs:∀ e∈g.edges,∀ x∈e.start,Fits x):vS g 256 (bN g)/\∀ d,((bN g).strs d).length<=jg g 256 (fun _=>256) d:=by
 refine ⟨⟨fun t ht=>?_,fun d z hz=>?_⟩,fun d=>?_⟩
 ·
  have e:(bN g).tasks t=kH (ay g t).length (fO g t):=rfl;rw [e];refine Gx hA (fun z hz=>?_) (by simp [fO]) (by simp [fO]);change z∈oZ g t at hz;unfold oZ at hz;rw [List.getElem?_eq_getElem ht] at hz;exact (yT (hA.good _ (List.getElem_mem ht)) (hA.fits _ (List.getElem_mem ht))).1 z hz
 ·
  unfold bN at hz;simp only at hz
  split at hz
  ·
   rename_i hd
   unfold qW at hz;rw [List.getElem?_eq_getElem hd] at hz;exact hs _ (List.getElem_mem hd) z hz
  ·
   cases hz
 ·
  rw [show jg g 256 (fun _=>256) d=256 by unfold jg;split <;> rfl];unfold bN;simp only
  split
  ·
   rename_i hd
   obtain ⟨_,_,_,_,_,_,h⟩:=hS.edge d hd;unfold qW;rw [List.getElem?_eq_getElem hd];exact h
  ·
   simp
theorem bT.iO {w:World}{o o':Col}{c:Nat}{e:TypeId}{v:Value}{xs:List Value}(h:bT w o c e v xs)(ho:∀ k,o k=c->o' k=c):bT w o' c e v xs:=by
 rcases h with h | ⟨g,off,cap,cur,h1,h2,h3,h⟩
 ·
  exact .inl h
 ·
  exact .inr ⟨g,off,cap,cur,h1,h2,ho _ h3,h⟩
theorem fU.dO {w:World}{o o':Col}{R b:Nat}{g:av}{caps:List Int}{N:Nat->Nat}{qs:bR}{r:bH}{v:bO}(h:fU w o R b g caps N qs r v)(ho:∀ k,bV R (o k)->o' k=o k):fU w o' R b g caps N qs r v:=by
 have hc:∀ j,j < 6000->∀ k,o k=R+j->o' k=R+j:=fun j hj k hk=>by rw [ho k (by unfold bV;omega),hk]
 have h0:∀ k,o k=R->o' k=R:=hc 0 (by omega);obtain ⟨f1,f2,f3,f4⟩:=h.few;refine ⟨h.blk.dO (h0 _ h.blk.2),h.tasks.iO (hc 1 (by omega)),h.edges.iO (hc 2 (by omega)),h.inputs.iO (hc 3 (by omega)),h.tapes.iO (hc 4 (by omega)),fun t ht=>?_,fun d hd=>?_,fun d hd hd2=>?_,h.few⟩
 ·
  have k:=h.task t ht;have kc:∀ j,j < 48->∀ k,o k=R+100+64*t+j->o' k=R+100+64*t+j:=fun j hj k hk=>by
   have:=hc (100+64*t+j) (by omega) k (by omega);omega
  obtain ⟨e1,e2,e3,e4⟩:=k.few;refine ⟨k.blk.dO (kc 0 (by omega) _ k.blk.2),fun a ha=>(k.act a ha).dO (kc 1 (by omega)) (kc 2 (by omega)),k.ins.iO (kc 3 (by omega)),k.outs.iO (kc 4 (by omega)),k.src.iO (kc 5 (by omega)),k.dst.iO (kc 6 (by omega)),⟨k.hand.len,k.hand.blk.dO (kc 7 (by omega) _ k.hand.blk.2),fun j hj=>(k.hand.row j hj).iO (by rw [Nat.add_assoc];exact kc _ (by omega))⟩,?_,k.few⟩
  rcases k.bg with z | ⟨z1,z2,z3,z4⟩
  ·
   exact .inl z
  ·
   exact .inr ⟨z1,z2.dO (fun j hj=>kc 8 (by omega) _ (z2.2 j hj)),z3,fun j hj=>(z4 j hj).iO (by rw [Nat.add_assoc];exact kc _ (by omega))⟩
 ·
  obtain ⟨r,q1,q2,q3⟩:=h.queue d hd;have:=hc (4000+d) (by omega);exact ⟨r,q1,by rw [Nat.add_assoc];exact this _ (by omega),fun k hk=>by have:=this k (by have:=q3 k hk;omega);omega⟩
 ·
  obtain ⟨q1,q2⟩:=h.tape d hd hd2;have a1:=hc (4000+d) (by omega);have a2:=hc (5000+d) (by omega);exact ⟨q1.dO (by have:=a1 (qs d) (by have:=q1.2;omega);omega),q2.dO (fun k hk=>by have:=a2 k (by have:=q2.2 k hk;omega);omega)⟩
theorem fw.dO {w:World}{o o':Col}{R b:Nat}{g:av}{caps:List Int}{M:Nat}{J:Nat->Nat}{qs:bR}{tb:Nat->Nat}{r:bH}{v:bO}(h:fw w o R b g caps M J qs tb r v)(ho:∀ k,bV R (o k)->o' k=o k):fw w o' R b g caps M J qs tb r v:=⟨h.mem.dO ho,h.ok,h.len,h.ins,h.tbs⟩
theorem eY {P:Program}{fn:Func}{p u:Tmp}{ty:TypeId}(h:fn.results=#[.cell p ty,.tmp u])(tmps:Array Value)(w:World)(g:Nat)(t:TypeId)(cs:Array Value)(fr:Nat × Nat)(d:TypeDesc)
  (hp:tmps.getD p undef=.pointer (some ⟨g,0,none⟩)) (hg:w.heap[g]?=some (.cells cs t fr))
  (hu:P.underlying ty=some d) (hd:(match d with | .struct _ | .array _ _=>true | _=>false)=true) (hi:(P.info? ty).map (·.size)=some cs.size) :
  (results fn tmps).run P w=.ok (.tuple #[.agg cs,tmps.getD u undef]) w:=by
 rw [results_cell_tmp h,hp];simp [asAddr,run_loadVar_row w g t ty cs fr d hg hu hd hi,Result.andThen]
def yg (w:World)(t:Int)(ps:List Int)(e:Ending)(w':World):Prop :=
 ∃ vp vi vo vk,e=.returned (.tuple #[.agg #[.int .u8 t,vp,vi,vo,vk,.int .i64 0],.int .i64 0])/\w'.ownsRow w.heap.size 3 1 vp ps.length (bB ps)/\w'.ownsRow w.heap.size 3 1 vi (bJ t ps).length (bB (bJ t ps)) /\
  w'.ownsRow w.heap.size 3 1 vo (aV t ps).length (bB (aV t ps))/\w'.ownsRow w.heap.size 3 1 vk (eB t ps).length (bB (eB t ps))/\Below w.heap.size w w'
def six (w:World)(g:Nat)(a b c d e f:Value):World:=(((((w.setCell ⟨g,0,none⟩ a).setCell ⟨g,1,none⟩ b).setCell ⟨g,2,none⟩ c).setCell ⟨g,3,none⟩ d).setCell ⟨g,4,none⟩ e).setCell ⟨g,5,none⟩ f
theorem mg {w0 w:World}{g:Nat}{a b c d e f:Value}{F:Nat->Prop}(h:aG F w0 w)(hg:F g):aG F w0 (six w g a b c d e f) :=
 (((((h.setCell (p:=⟨g,0,none⟩) (fun _=>hg) a).setCell (p:=⟨g,1,none⟩) (fun _=>hg) b).setCell (p:=⟨g,2,none⟩) (fun _=>hg) c).setCell (p:=⟨g,3,none⟩) (fun _=>hg) d).setCell (p:=⟨g,4,none⟩) (fun _=>hg) e).setCell (p:=⟨g,5,none⟩) (fun _=>hg) f
theorem qX {w w1 w2 W:World}{t:Int}{ps:List Int}{vi vo vp vk:Value}{a b c d e f:Value}(sw:w.heap.size+1<=w1.heap.size)(hb:Below w.heap.size w w1)(hb2:Below w1.heap.size w1 w2)(hW:Below w2.heap.size w2 W)
  (o1:w1.ownsRow (w.heap.size+1) 3 1 vi (bJ t ps).length (bB (bJ t ps))) (o2:w1.ownsRow (w.heap.size+1) 3 1 vo (aV t ps).length (bB (aV t ps)))
  (o3:w2.ownsRow w1.heap.size 3 1 vp ps.length (bB ps)) (o4:W.ownsRow w2.heap.size 3 1 vk (eB t ps).length (bB (eB t ps))) :
  yg w t ps (.returned (.tuple #[.agg #[.int .u8 t,vp,vi,vo,vk,.int .i64 0],.int .i64 0])) (six W w.heap.size a b c d e f):=by
 have s2:=hb2.size;have M1:aG (fun k=>k=w.heap.size) w1 (six W w.heap.size a b c d e f):=mg (aG.of_below (hb2.trans (hW.mono s2)) _) rfl;have M2:aG (fun k=>k=w.heap.size) w2 (six W w.heap.size a b c d e f):=mg (aG.of_below hW _) rfl;have M3:aG (fun k=>k=w.heap.size) W (six W w.heap.size a b c d e f):=mg (aG.refl _ _) rfl;have M0:aG (fun k=>k=w.heap.size) w (six W w.heap.size a b c d e f):=mg (aG.of_below (hb.trans ((hb2.trans (hW.mono s2)).mono hb.size)) _) rfl;exact ⟨vp,vi,vo,vk,rfl,bI (eD o3 M2 (fun k hk e=>by have:=(o3.lt k hk).1;omega)) (fun k hk=>by have:=(o3.lt k hk).1;omega),
  bI (eD o1 M1 (fun k hk e=>by have:=(o1.lt k hk).1;omega)) (fun k hk=>by have:=(o1.lt k hk).1;omega),
  bI (eD o2 M1 (fun k hk e=>by have:=(o2.lt k hk).1;omega)) (fun k hk=>by have:=(o2.lt k hk).1;omega),
  bI (eD o4 M3 (fun k hk e=>by have:=(o4.lt k hk).1;omega)) (fun k hk=>by have:=(o4.lt k hk).1;omega),
  M0.below (Nat.le_refl _) (fun k hk e=>by omega)⟩
theorem Ni {o:Col}{c:Nat}(w:World)(t:Int)(ao:Option Addr)(n cap:Nat)(ps:List Int)(hg:aC t ps)(h:Ints w o c (.slice ao n cap) ps)(t1:¬ t=1)(t8:¬ t=8)(t10:¬ t=10):Calls Tryz.prog 19 #[.int .u8 t,.slice ao n cap] w (yg w t ps):=by
 have HH:=af h;have HG:=af hg;have hl:ps.length<=64:=by
  unfold aC bP aZ at hg;omega
 clear h hg;go_enter Tryz.func19,Tryz.ntmps19;go_wp2_with fail;refine (xM _ t ao n cap ps HG.out (HH.out.has.below (au w _))).mono ?_;rintro e w1 ⟨vi,vo,rfl,o1,o2,hb1⟩;have hB:=heap_alloc_new w (.cells #[.int .u8 0,.slice none 0 0,.slice none 0 0,.slice none 0 0,.slice none 0 0,.int .i64 0] 84);have hB1:=aN hB (aG.of_below hb1 (fun _=>False)) (fun h=>h);have hb:Below w.heap.size w w1:=(au w _).trans (hb1.mono (by simp));have Yv:=af (HH.out.has.below hb);obtain ⟨ai,ci,rfl⟩:=aA o1;obtain ⟨a2,c2,rfl⟩:=aA o2;rw [World.size_alloc] at o1 o2;have O1:=af o1;have O2:=af o2;have HB1:=af hB1;clear o1 o2 hB hB1;go_wp2_with fail;refine (gW _ ao n cap ps Yv.out (by omega)).mono ?_;rintro e w2 ⟨vp,rfl,o3,hb2⟩;obtain ⟨a3,c3,rfl⟩:=aA o3;have O3:=af o3;clear o3;have HB2:=af (aN HB1.out (aG.of_below hb2 (fun _=>False)) (fun h=>h));have hB3:=aI HB2.out (.cells #[.int .u8 t,.slice a3 ps.length c3,.slice ai (bJ t ps).length ci,.slice a2 (aV t ps).length c2,.slice none 0 0,.int .i64 0] 84);have q0:=ah _ _ hB3 0 _ rfl;have q1:=ah _ _ hB3 1 _ rfl;have q2:=ah _ _ hB3 2 _ rfl;have q3:=ah _ _ hB3 3 _ rfl;have q4:=ah _ _ hB3 4 _ rfl;have q5:=ah _ _ hB3 5 _ rfl;have r0:=aj hB3 0;have r1:=aj hB3 1;have r2:=aj hB3 2;have r3:=aj hB3 3;have r4:=aj hB3 4;have r5:=aj hB3 5;have HB3:=af hB3;clear hB3;go_wp2;have hK:=block_setCell (block_setCell (block_setCell (block_setCell (block_setCell (block_setCell HB3.out 0 (.int .u8 t)) 1 (.slice a3 ps.length c3)) 2 (.slice ai (bJ t ps).length ci)) 3 (.slice a2 (aV t ps).length c2)) 4 (.slice none 0 0)) 5 (.int .i64 0);refine bodyPost_ret_by (eY rfl _ _ _ _ _ _ _ rfl hK Tryz.underlying84 rfl (by kernel_rfl)) rfl ?_;have s1:=hb1.size;have s2:=hb2.size;have sw:w.heap.size+1<=w1.heap.size:=by simpa using s1
 have hbw2:Below w.heap.size w w2:=hb.trans (hb2.mono hb.size);exact qX sw hb hb2 (au w2 _) O1.out O2.out O3.out (by rw [show eB t ps=[] by unfold eB;rw [if_neg t1,if_neg t8,if_neg t10]];exact World.ownsRow_nil _ _ _ _)
theorem Yw {o:Col}{c:Nat}(w:World)(ao:Option Addr)(n cap:Nat)(ps:List Int)(hg:aC 8 ps)(h:Ints w o c (.slice ao n cap) ps):Calls Tryz.prog 19 #[.int .u8 8,.slice ao n cap] w (yg w 8 ps):=by
 have HH:=af h;have HG:=af hg;have hl:ps.length<=64:=by
  simp [aC] at hg;simp [hg]
 clear h hg;go_enter Tryz.func19,Tryz.ntmps19;go_wp2_with fail;refine (xM _ 8 ao n cap ps HG.out (HH.out.has.below (au w _))).mono ?_;rintro e w1 ⟨vi,vo,rfl,o1,o2,hb1⟩;have hB:=heap_alloc_new w (.cells #[.int .u8 0,.slice none 0 0,.slice none 0 0,.slice none 0 0,.slice none 0 0,.int .i64 0] 84);have hB1:=aN hB (aG.of_below hb1 (fun _=>False)) (fun h=>h);have hb:Below w.heap.size w w1:=(au w _).trans (hb1.mono (by simp));have Yv:=af (HH.out.has.below hb);obtain ⟨ai,ci,rfl⟩:=aA o1;obtain ⟨a2,c2,rfl⟩:=aA o2;rw [World.size_alloc] at o1 o2;have O1:=af o1;have O2:=af o2;have HB1:=af hB1;clear o1 o2 hB hB1;go_wp2_with fail;refine (gW _ ao n cap ps Yv.out (by omega)).mono ?_;rintro e w2 ⟨vp,rfl,o3,hb2⟩;obtain ⟨a3,c3,rfl⟩:=aA o3;have O3:=af o3;clear o3;have HB2:=af (aN HB1.out (aG.of_below hb2 (fun _=>False)) (fun h=>h));have hB3:=aI (aI HB2.out (.cells #[.int .u8 8,.slice a3 ps.length c3,.slice ai (bJ 8 ps).length ci,.slice a2 (aV 8 ps).length c2,.slice (some ⟨w2.heap.size+1,0,none⟩) 1 1,.int .i64 0] 84)) (.cells #[.int .i64 0] 3);have q0:=ah _ _ hB3 0 _ rfl;have q1:=ah _ _ hB3 1 _ rfl;have q2:=ah _ _ hB3 2 _ rfl;have q3:=ah _ _ hB3 3 _ rfl;have q4:=ah _ _ hB3 4 _ rfl;have q5:=ah _ _ hB3 5 _ rfl;have r0:=aj hB3 0;have r1:=aj hB3 1;have r2:=aj hB3 2;have r3:=aj hB3 3;have r4:=aj hB3 4;have r5:=aj hB3 5;have HB3:=af hB3;clear hB3;go_wp2;have hK:=block_setCell (block_setCell (block_setCell (block_setCell (block_setCell (block_setCell HB3.out 0 (.int .u8 8)) 1 (.slice a3 ps.length c3)) 2 (.slice ai (bJ 8 ps).length ci)) 3 (.slice a2 (aV 8 ps).length c2)) 4 (.slice (some ⟨w2.heap.size+1,0,none⟩) 1 1)) 5 (.int .i64 0);refine bodyPost_ret_by (eY rfl _ _ _ _ _ _ _ rfl hK Tryz.underlying84 rfl (by kernel_rfl)) rfl ?_;have s1:=hb1.size;have s2:=hb2.size;have sw:w.heap.size+1<=w1.heap.size:=by simpa using s1
 have hlit:=bI (pV (w2.alloc (.cells #[.int .u8 8,.slice a3 ps.length c3,.slice ai (bJ 8 ps).length ci,.slice a2 (aV 8 ps).length c2,.slice (some ⟨w2.heap.size+1,0,none⟩) 1 1,.int .i64 0] 84)) [0] (by simp)) (base':=w2.heap.size) (fun k hk=>by have e:=Option.some.inj hk;simp at e;omega);rw [World.size_alloc] at hlit;exact qX sw hb hb2 ((au w2 _).alloc (by simp) _) O1.out O2.out O3.out hlit
theorem Vx {o:Col}{c:Nat}(w:World)(ao:Option Addr)(n cap:Nat)(ps:List Int)(hg:aC 10 ps)(h:Ints w o c (.slice ao n cap) ps):Calls Tryz.prog 19 #[.int .u8 10,.slice ao n cap] w (yg w 10 ps):=by
 have hl2:ps.length=2:=by simpa [aC] using hg
 have hl:ps.length<=64:=by omega
 have hpi:(0:Int) < ps.length:=by omega
 obtain rfl:=h.len;obtain ⟨b,off,rfl,-,hcap,-,-,hc⟩:=h.at (by omega);have c0:=hc 0 (by omega);have fu:(ps.length:Int)<=cap:=by omega
 rw [Nat.add_zero] at c0;have hk0:eB 10 ps=[ps[0]?.getD 0]:=rfl;generalize ps[0]?.getD 0=x at *;have BD:=af hk0;have HG:=af hg;have HH:=af h;clear hc h hg hk0 hl2;go_enter Tryz.func19,Tryz.ntmps19;go_wp2_with fail;refine (xM _ 10 _ _ _ ps HG.out (HH.out.has.below (au w _))).mono ?_;rintro e w1 ⟨vi,vo,rfl,o1,o2,hb1⟩;have hB:=heap_alloc_new w (.cells #[.int .u8 0,.slice none 0 0,.slice none 0 0,.slice none 0 0,.slice none 0 0,.int .i64 0] 84);have hB1:=aN hB (aG.of_below hb1 (fun _=>False)) (fun h=>h);have hb:Below w.heap.size w w1:=(au w _).trans (hb1.mono (by simp));have Yv:=af (HH.out.has.below hb);obtain ⟨ai,ci,rfl⟩:=aA o1;obtain ⟨a2,c2,rfl⟩:=aA o2;rw [World.size_alloc] at o1 o2;have O1:=af o1;have O2:=af o2;have HB1:=af hB1;clear o1 o2 hB hB1;go_wp2_with fail;refine (gW _ _ _ _ ps Yv.out (by omega)).mono ?_;rintro e w2 ⟨vp,rfl,o3,hb2⟩;obtain ⟨a3,c3,rfl⟩:=aA o3;have O3:=af o3;clear o3;have HB2:=af (aN HB1.out (aG.of_below hb2 (fun _=>False)) (fun h=>h));have c2x:=cell_later hb2 (cell_later hb c0);have c3x:=ca (o:=.cells #[.int .u8 10,.slice a3 ps.length c3,.slice ai (bJ 10 ps).length ci,.slice a2 (aV 10 ps).length c2,.slice none 0 0,.int .i64 0] 84) c2x;have hB3:=aI (aI HB2.out (.cells #[.int .u8 10,.slice a3 ps.length c3,.slice ai (bJ 10 ps).length ci,.slice a2 (aV 10 ps).length c2,.slice (some ⟨w2.heap.size+1,0,none⟩) 1 1,.int .i64 0] 84)) (.cells #[.int .i64 x] 3);have q0:=ah _ _ hB3 0 _ rfl;have q1:=ah _ _ hB3 1 _ rfl;have q2:=ah _ _ hB3 2 _ rfl;have q3:=ah _ _ hB3 3 _ rfl;have q4:=ah _ _ hB3 4 _ rfl;have q5:=ah _ _ hB3 5 _ rfl;have r0:=aj hB3 0;have r1:=aj hB3 1;have r2:=aj hB3 2;have r3:=aj hB3 3;have r4:=aj hB3 4;have r5:=aj hB3 5;have HB3:=af hB3;clear hB3;go_wp2;have hK:=block_setCell (block_setCell (block_setCell (block_setCell (block_setCell (block_setCell HB3.out 0 (.int .u8 10)) 1 (.slice a3 ps.length c3)) 2 (.slice ai (bJ 10 ps).length ci)) 3 (.slice a2 (aV 10 ps).length c2)) 4 (.slice (some ⟨w2.heap.size+1,0,none⟩) 1 1)) 5 (.int .i64 0);refine bodyPost_ret_by (eY rfl _ _ _ _ _ _ _ rfl hK Tryz.underlying84 rfl (by kernel_rfl)) rfl ?_;have s1:=hb1.size;have s2:=hb2.size;have sw:w.heap.size+1<=w1.heap.size:=by simpa using s1
 have hlit:=bI (pV (w2.alloc (.cells #[.int .u8 10,.slice a3 ps.length c3,.slice ai (bJ 10 ps).length ci,.slice a2 (aV 10 ps).length c2,.slice (some ⟨w2.heap.size+1,0,none⟩) 1 1,.int .i64 0] 84)) [x] (by simp)) (base':=w2.heap.size) (fun k hk=>by have e:=Option.some.inj hk;simp at e;omega);rw [World.size_alloc] at hlit;exact qX sw hb hb2 ((au w2 _).alloc (by simp) _) O1.out O2.out O3.out (by rw [BD.out];exact hlit)
theorem Yx {o:Col}{c:Nat}(w:World)(ao:Option Addr)(n cap:Nat)(ps:List Int)(hg:aC 1 ps)(h:Ints w o c (.slice ao n cap) ps):Calls Tryz.prog 19 #[.int .u8 1,.slice ao n cap] w (yg w 1 ps):=by
 have hl2:1<=ps.length/\ps.length<=16:=by simpa [aC] using hg
 obtain ⟨i0,hi,hz0,hz1,hz2⟩:=info_parts bU;have hl:ps.length<=64:=by omega
 have hpi:(1:Int)<=ps.length:=by omega
 have hpi2:(ps.length:Int)<=16:=by omega
 obtain rfl:=h.len;have HG:=af hg;have HH:=af h;clear h hg;go_enter Tryz.func19,Tryz.ntmps19;go_wp2_with fail;refine (xM _ 1 ao _ cap ps HG.out (HH.out.has.below (au w _))).mono ?_;rintro e w1 ⟨vi,vo,rfl,o1,o2,hb1⟩;have hB:=heap_alloc_new w (.cells #[.int .u8 0,.slice none 0 0,.slice none 0 0,.slice none 0 0,.slice none 0 0,.int .i64 0] 84);have hB1:=aN hB (aG.of_below hb1 (fun _=>False)) (fun h=>h);have hb:Below w.heap.size w w1:=(au w _).trans (hb1.mono (by simp));have Yv:=af (HH.out.has.below hb);obtain ⟨ai,ci,rfl⟩:=aA o1;obtain ⟨a2,c2,rfl⟩:=aA o2;rw [World.size_alloc] at o1 o2;have O1:=af o1;have O2:=af o2;have HB1:=af hB1;clear o1 o2 hB hB1;go_wp2_with fail;refine (gW _ ao _ cap ps Yv.out (by omega)).mono ?_;rintro e w2 ⟨vp,rfl,o3,hb2⟩;obtain ⟨a3,c3,rfl⟩:=aA o3;have O3:=af o3;clear o3;have HB2:=af (aN HB1.out (aG.of_below hb2 (fun _=>False)) (fun h=>h));obtain ⟨w3,hr,hown,hg⟩:=run_make_full (P:=Tryz.prog) (w2.alloc (.cells #[.int .u8 1,.slice a3 ps.length c3,.slice ai (bJ 1 ps).length ci,.slice a2 (aV 1 ps).length c2,.slice none 0 0,.int .i64 0] 84)) (w2.alloc (.cells #[.int .u8 1,.slice a3 ps.length c3,.slice ai (bJ 1 ps).length ci,.slice a2 (aV 1 ps).length c2,.slice none 0 0,.int .i64 0] 84)).heap.size 27 3 i0 _ 1 Tryz.underlying27 hi hz0 hz1 .i64 .i64 (ps.length - 1) (by rw [hz2];omega) (by unfold maxLen;omega) (Nat.le_refl _);rw [show ((ps.length - 1:Nat):Int)=(ps.length:Int) - 1 by omega] at hr;rw [lM] at hown;have hb3:Below (w2.alloc (.cells #[.int .u8 1,.slice a3 ps.length c3,.slice ai (bJ 1 ps).length ci,.slice a2 (aV 1 ps).length c2,.slice none 0 0,.int .i64 0] 84)).heap.size (w2.alloc (.cells #[.int .u8 1,.slice a3 ps.length c3,.slice ai (bJ 1 ps).length ci,.slice a2 (aV 1 ps).length c2,.slice none 0 0,.int .i64 0] 84)) w3:=((aG.refl (fun _=>False) _).grown hg (fun k hk _=>by cases hk)).below (Nat.le_refl _) (fun _ _ h=>h);have hBa:=aN (heap_alloc_new w2 (.cells #[.int .u8 1,.slice a3 ps.length c3,.slice ai (bJ 1 ps).length ci,.slice a2 (aV 1 ps).length c2,.slice none 0 0,.int .i64 0] 84)) (aG.of_below hb3 (fun _=>False)) (fun h=>h);have hBw:=aN (aI HB2.out (.cells #[.int .u8 1,.slice a3 ps.length c3,.slice ai (bJ 1 ps).length ci,.slice a2 (aV 1 ps).length c2,.slice none 0 0,.int .i64 0] 84)) (aG.of_below hb3 (fun _=>False)) (fun h=>h);have sw3:w2.heap.size < w3.heap.size:=by have:=hb3.size;simp at this;omega
 have s1:=hb1.size;have s2:=hb2.size;have sw:w.heap.size+1<=w1.heap.size:=by simpa using s1
 have qa4:=ah _ _ hBa 4 _ rfl;have ra4:=aj hBa 4;have Yy:=block_setCell hBa 4 (.slice (some ⟨w2.heap.size+1,0,none⟩) (ps.length - 1) (ps.length - 1));have qs0:=ah _ _ Yy 0 _ rfl;have qs1:=ah _ _ Yy 1 _ rfl;have qs2:=ah _ _ Yy 2 _ rfl;have qs3:=ah _ _ Yy 3 _ rfl;have qs4:=ah _ _ Yy 4 _ rfl;have qs5:=ah _ _ Yy 5 _ rfl;have hB3:=gV (a:=⟨w2.heap.size,4,none⟩) hBw (show w.heap.size≠w2.heap.size by omega) (.slice (some ⟨w2.heap.size+1,0,none⟩) (ps.length - 1) (ps.length - 1));have q0:=ah _ _ hB3 0 _ rfl;have q1:=ah _ _ hB3 1 _ rfl;have q2:=ah _ _ hB3 2 _ rfl;have q3:=ah _ _ hB3 3 _ rfl;have q4:=ah _ _ hB3 4 _ rfl;have q5:=ah _ _ hB3 5 _ rfl;have r0:=aj hB3 0;have r1:=aj hB3 1;have r2:=aj hB3 2;have r3:=aj hB3 3;have r4:=aj hB3 4;have r5:=aj hB3 5;have HB3:=af hB3;have HOWN:=af hown;have abD:=af hb3;clear hB3 hown hb3 hg Yy hBw hBa;go_wp2_with fail;have hK:=block_setCell (block_setCell (block_setCell (block_setCell (block_setCell (block_setCell HB3.out 0 (.int .u8 1)) 1 (.slice a3 ps.length c3)) 2 (.slice ai (bJ 1 ps).length ci)) 3 (.slice a2 (aV 1 ps).length c2)) 4 (.slice (some ⟨w2.heap.size+1,0,none⟩) (ps.length - 1) (ps.length - 1))) 5 (.int .i64 0);refine bodyPost_ret_by (eY rfl _ _ _ _ _ _ _ rfl hK Tryz.underlying84 rfl (by kernel_rfl)) rfl ?_;have hW:Below w2.heap.size w2 (w3.setCell ⟨w2.heap.size,4,none⟩ (.slice (some ⟨w2.heap.size+1,0,none⟩) (ps.length - 1) (ps.length - 1))):=((au w2 _).trans (abD.out.mono (by simp))).setCell (Nat.le_refl _) _;have hrow:(w3.setCell ⟨w2.heap.size,4,none⟩ (.slice (some ⟨w2.heap.size+1,0,none⟩) (ps.length - 1) (ps.length - 1))).ownsRow w2.heap.size 3 1 (.slice (some ⟨w2.heap.size+1,0,none⟩) (ps.length - 1) (ps.length - 1)) (ps.length - 1) (bB (List.replicate (ps.length - 1) 0)):=by
  have h1:=HOWN.out;rw [World.size_alloc] at h1;refine bI (eD h1 ((aG.refl (fun k=>k=w2.heap.size) w3).setCell (p:=⟨w2.heap.size,4,none⟩) (fun _=>rfl) _) (fun k hk e=>by have:=(h1.lt k hk).1;omega)) (fun k hk=>by have:=(h1.lt k hk).1;omega)
 have hk0:eB 1 ps=List.replicate (ps.length - 1) 0:=rfl;exact qX sw hb hb2 hW O1.out O2.out O3.out (by rw [hk0,List.length_replicate];exact hrow)
theorem Ls {o:Col}{c:Nat}(w:World)(t:Int)(ao:Option Addr)(n cap:Nat)(ps:List Int)(hg:aC t ps)(h:Ints w o c (.slice ao n cap) ps):Calls Tryz.prog 19 #[.int .u8 t,.slice ao n cap] w (yg w t ps):=by
 by_cases t1:t=1
 ·
  subst t1;exact Yx w ao n cap ps hg h
 by_cases t8:t=8
 ·
  subst t8;exact Yw w ao n cap ps hg h
 by_cases t10:t=10
 ·
  subst t10;exact Vx w ao n cap ps hg h
 exact Ni w t ao n cap ps hg h t1 t8 t10
structure Yz where
 vp:Value
 vi:Value
 vo:Value
 vk:Value
 src:Value
 dst:Value
structure Ew where
 caps:Value
 tasks:Value
 streams:Value
 fail:Nat
 tv:Nat->Yz
 sv:Nat->Value
def eH (g:av)(t:Nat):Int:=match g.actors[t]? with | some a=>a.tag | none=>0
def jh (g:av)(t:Nat):List Int:=match g.actors[t]? with | some a=>a.params | none=>[]
def iA (g:av)(v:Nat->Yz)(t:Nat):List Value:=[.int .u8 (eH g t),(v t).vp,(v t).vi,(v t).vo,(v t).vk,.int .i64 0,(v t).src,(v t).dst,.int .i64 0,.slice none 0 0,.slice none 0 0,.int .i64 0]
def ql (v:Nat->Value)(d:Nat):List Value:=[v d,.int .i64 0]
def ku (g:av)(t B:Nat):List Int:=(List.range (ay g t).length).map fun q=>if bY g t q < B then (bY g t q:Int) else 0
def zw (g:av)(t B:Nat):List Int:=(List.range (aF g t).length).map fun p=>if toP g t p < B then (toP g t p:Int) else 0
theorem jl (g:av)(t B:Nat):(ku g t B).length=(ay g t).length:=by simp [ku]
theorem l5 (g:av)(t B:Nat):(zw g t B).length=(aF g t).length:=by simp [zw]
theorem Ba (g:av)(t:Nat):ku g t 0=List.replicate (ay g t).length 0:=by
 refine List.ext_getElem (by simp [ku]) fun i h1 h2=>?_;simp [ku]
theorem GR (g:av)(t:Nat):zw g t 0=List.replicate (aF g t).length 0:=by
 refine List.ext_getElem (by simp [zw]) fun i h1 h2=>?_;simp [zw]
theorem Nj {g:av}{t q B:Nat}(he:bY g t q=B)(hB:B < g.edges.length+g.ins.length):(ku g t B).set q (B:Int)=ku g t (B+1):=by
 refine List.ext_getElem (by simp [ku]) fun i h1 h2=>?_;rw [List.getElem_set];simp only [ku,List.getElem_map,List.getElem_range]
 by_cases e:q=i
 ·
  subst e;rw [if_pos rfl,if_pos (by omega),he]
 ·
  rw [if_neg e];have:bY g t i≠B:=fun h=>e (Df (g:=g) (t:=t) (p:=q) (q:=i) (by omega) (by omega))
  by_cases h:bY g t i < B
  ·
   rw [if_pos h,if_pos (by omega)]
  ·
   rw [if_neg h,if_neg (by omega)]
theorem JU {g:av}{t u q B:Nat}(he:bY g t q=B)(hu:u≠t):ku g u B=ku g u (B+1):=by
 refine List.ext_getElem (by simp [ku]) fun i h1 h2=>?_;simp only [ku,List.getElem_map,List.getElem_range];have:bY g u i≠B:=fun h=>hu (Cv (h.trans he.symm))
 by_cases h:bY g u i < B
 ·
  rw [if_pos h,if_pos (by omega)]
 ·
  rw [if_neg h,if_neg (by omega)]
theorem Vy {g:av}{t p B:Nat}(he:toP g t p=B)(hB:B < g.edges.length+g.ins.length+g.outs.length):(zw g t B).set p (B:Int)=zw g t (B+1):=by
 refine List.ext_getElem (by simp [zw]) fun i h1 h2=>?_;rw [List.getElem_set];simp only [zw,List.getElem_map,List.getElem_range]
 by_cases e:p=i
 ·
  subst e;rw [if_pos rfl,if_pos (by omega),he]
 ·
  rw [if_neg e];have:toP g t i≠B:=fun h=>e (Lp (g:=g) (t:=t) (p:=p) (q:=i) (by omega) (by omega))
  by_cases h:toP g t i < B
  ·
   rw [if_pos h,if_pos (by omega)]
  ·
   rw [if_neg h,if_neg (by omega)]
theorem QX {g:av}{t u p B:Nat}(he:toP g t p=B)(hu:u≠t):zw g u B=zw g u (B+1):=by
 refine List.ext_getElem (by simp [zw]) fun i h1 h2=>?_;simp only [zw,List.getElem_map,List.getElem_range];have:toP g u i≠B:=fun h=>hu (KS (h.trans he.symm))
 by_cases h:toP g u i < B
 ·
  rw [if_pos h,if_pos (by omega)]
 ·
  rw [if_neg h,if_neg (by omega)]
theorem jW {f:Nat->List Value}{sz:Nat}(hf:∀ t,(f t).length=sz):∀ n:Nat,((List.range n).flatMap f).length=n*sz
 | 0=>by simp
 | n+1=>by
  rw [List.range_succ,List.flatMap_append,List.length_append,jW hf n];simp [hf,Nat.add_mul]
theorem kN {f:Nat->List Value}{sz:Nat}(hf:∀ t,(f t).length=sz){t k:Nat}(hk:k < sz):∀ {n:Nat},t < n->((List.range n).flatMap f)[t*sz+k]?=(f t)[k]?
 | n+1,ht=>by
  have hl:=jW hf n;rw [List.range_succ,List.flatMap_append]
  by_cases e:t=n
  ·
   subst e;rw [List.getElem?_append_right (by omega),hl,Nat.add_sub_cancel_left];simp
  ·
   have h1:t < n:=by omega
   have h2:t*sz+k < n*sz:=by
    have:(t+1)*sz<=n*sz:=Nat.mul_le_mul_right _ (by omega);rw [Nat.add_mul,Nat.one_mul] at this;omega
   rw [List.getElem?_append_left (by omega)];exact kN hf hk h1
theorem qY (f:Nat->List Value)(n:Nat):(List.range (n+1)).flatMap f=(List.range n).flatMap f ++ f n:=by
 rw [List.range_succ,List.flatMap_append];simp
theorem o9 {f h:Nat->List Value}{n:Nat}(e:∀ t,t < n->f t=h t):(List.range n).flatMap f=(List.range n).flatMap h:=by
 induction n with
 | zero=>rfl
 | succ n ih=>rw [qY,qY,ih (fun t ht=>e t (by omega)),e n (by omega)]
theorem JV (g:av)(v:Nat->Yz)(t:Nat):(iA g v t).length=12:=rfl
structure qZ (w:World) (o:Col) (R:Nat) (g:av) (t:Nat) (v:Yz) (F B:Nat):Prop where
 vp:Ints w o (R+3) v.vp (jh g t)
 vi:Ints w o (R+3) v.vi (ay g t)
 vo:Ints w o (R+3) v.vo (aF g t)
 vk:Ints w o (R+3) v.vk (oZ g t)
 src:∃ gs,v.src=.slice (some ⟨gs,0,none⟩) (ay g t).length (ay g t).length/\dZ w o (R+1000+2*t) gs 3 (bB (ku g t F)).toArray
 dst:∃ gd,v.dst=.slice (some ⟨gd,0,none⟩) (aF g t).length (aF g t).length/\dZ w o (R+1001+2*t) gd 3 (bB (zw g t B)).toArray
def zK (gv:List Value)(v:Ew):List Value:=gv ++ [v.caps,v.tasks,v.streams,.slice (some ⟨v.fail,0,none⟩) 1 1]
structure jP (w:World) (o:Col) (R b:Nat) (g:av) (gv:List Value) (caps:List Int) (nT nS F B:Nat) (v:Ew):Prop where
 aP:dZ w o (R+5) b 37 (zK gv v).toArray
 caps:Ints w o (R+3) v.caps caps
 fail:dZ w o (R+4) v.fail 3 #[.int .i64 (-1)]
 tasks:Own w o (R+1) 88 12 v.tasks nT ((List.range nT).flatMap (iA g v.tv))
 streams:Own w o (R+2) 90 2 v.streams nS ((List.range nS).flatMap (ql v.sv))
 task:∀ t,t < nT->qZ w o R g t (v.tv t) F B
 all:∀ d,d < nS->Own w o (R+10+d) 3 1 (v.sv d) ((bN g).strs d).length (bB ((bN g).strs d))
 most:nT<=32/\nS<=128
def jY (R c:Nat):Prop:=R<=c/\c < R+2000
theorem qZ.turn {w w':World}{o o':Col}{C:Nat->Prop}{R t F B:Nat}{g:av}{v:Yz}(h:qZ w o R g t v F B)(T:Turn o o' C w w')(h3:¬ C (R+3))(hs:¬ C (R+1000+2*t))(hd:¬ C (R+1001+2*t)):qZ w' o' R g t v F B:=by
 obtain ⟨gs,e1,b1⟩:=h.src;obtain ⟨gd,e2,b2⟩:=h.dst;exact ⟨h.vp.turn T h3,h.vi.turn T h3,h.vo.turn T h3,h.vk.turn T h3,⟨gs,e1,b1.turn T hs⟩,⟨gd,e2,b2.turn T hd⟩⟩
theorem jP.turn {w w':World}{o o':Col}{C:Nat->Prop}{R b:Nat}{g:av}{gv:List Value}{caps:List Int}{nT nS F B:Nat}{v:Ew}(h:jP w o R b g gv caps nT nS F B v)(T:Turn o o' C w w')(hC:∀ k,C k->¬ jY R k):jP w' o' R b g gv caps nT nS F B v:=by
 have hc:∀ j,j < 2000->¬ C (R+j):=fun j hj hcc=>hC _ hcc ⟨by omega,by omega⟩;obtain ⟨m1,m2⟩:=h.most;exact ⟨h.aP.turn T (hc 5 (by omega)),h.caps.turn T (hc 3 (by omega)),h.fail.turn T (hc 4 (by omega)),h.tasks.turn T (hc 1 (by omega)),h.streams.turn T (hc 2 (by omega)),fun t ht=>(h.task t ht).turn T (hc 3 (by omega)) (by rw [Nat.add_assoc];exact hc _ (by omega)) (by rw [Nat.add_assoc];exact hc _ (by omega)),fun d hd=>(h.all d hd).turn T (by rw [Nat.add_assoc];exact hc _ (by omega)),h.most⟩
theorem jP.zT {w w':World}{o o':Col}{R b k:Nat}{g:av}{gv:List Value}{caps:List Int}{v:Ew}{vt:Value}{QV:Yz}(h:jP w o R b g gv caps k 0 0 0 v)(hk:k < 32)(T:Turn o o' (fun c=>c=R+5\/c=R+1) w w')
  (hB:dZ w' o' (R+5) b 37 (zK gv { v with tasks:=vt }).toArray) (hO:Own w' o' (R+1) 88 12 vt (k+1) ((List.range k).flatMap (iA g v.tv) ++ iA g (fun _=>QV) k)) (hT:qZ w' o' R g k QV 0 0) :
  jP w' o' R b g gv caps (k+1) 0 0 0 { v with tasks:=vt,tv:=upd v.tv k QV }:=by
 refine ⟨hB,h.caps.turn T (by omega),h.fail.turn T (by omega),?_,h.streams.turn T (by omega),fun t ht=>?_,fun d hd=>by omega,⟨hk,by omega⟩⟩
 ·
  have e:(List.range (k+1)).flatMap (iA g (upd v.tv k QV))=(List.range k).flatMap (iA g v.tv) ++ iA g (fun _=>QV) k:=by
   rw [qY]
   congr 1
   ·
    refine o9 fun t ht=>?_;unfold iA;rw [aO (by omega)]
   ·
    unfold iA;rw [upd_same]
  show Own w' o' (R+1) 88 12 vt (k+1) ((List.range (k+1)).flatMap (iA g (upd v.tv k QV)))
  rw [e];exact hO
 ·
  show qZ w' o' R g t (upd v.tv k QV t) 0 0
  by_cases e:t=k
  ·
   subst e;rw [upd_same];exact hT
  ·
   rw [aO e];exact (h.task t (by omega)).turn T (by omega) (by omega) (by omega)
theorem jP.yh {w w':World}{o o':Col}{R b k F B nT:Nat}{g:av}{gv:List Value}{caps:List Int}{v:Ew}{vt:Value}{sk:Value}(h:jP w o R b g gv caps nT k F B v)(hk:k < 128)(T:Turn o o' (fun c=>c=R+5\/c=R+2) w w')
  (hB:dZ w' o' (R+5) b 37 (zK gv { v with streams:=vt }).toArray) (hO:Own w' o' (R+2) 90 2 vt (k+1) ((List.range k).flatMap (ql v.sv) ++ ql (fun _=>sk) k)) (hA:Own w' o' (R+10+k) 3 1 sk ((bN g).strs k).length (bB ((bN g).strs k))) :
  jP w' o' R b g gv caps nT (k+1) F B { v with streams:=vt,sv:=upd v.sv k sk }:=by
 obtain ⟨m1,m2⟩:=h.most;refine ⟨hB,h.caps.turn T (by omega),h.fail.turn T (by omega),h.tasks.turn T (by omega),?_,fun t ht=>(h.task t ht).turn T (by omega) (by omega) (by omega),fun d hd=>?_,⟨m1,hk⟩⟩
 ·
  have e:(List.range (k+1)).flatMap (ql (upd v.sv k sk))=(List.range k).flatMap (ql v.sv) ++ ql (fun _=>sk) k:=by
   rw [qY]
   congr 1
   ·
    refine o9 fun t ht=>?_;unfold ql;rw [aO (by omega)]
   ·
    unfold ql;rw [upd_same]
  show Own w' o' (R+2) 90 2 vt (k+1) ((List.range (k+1)).flatMap (ql (upd v.sv k sk)))
  rw [e];exact hO
 ·
  show Own w' o' (R+10+d) 3 1 (upd v.sv k sk d) _ _
  by_cases e:d=k
  ·
   subst e;rw [upd_same];exact hA
  ·
   rw [aO e];exact (h.all d (by omega)).turn T (by omega)
theorem Lu (l:List Int)(k:Nat)(x:Int):(bB l).toArray.setIfInBounds k (.int .i64 x)=(bB (l.set k x)).toArray:=by
 rw [List.setIfInBounds_toArray];unfold bB;rw [List.map_set]
theorem jP.sU {w:World}{o:Col}{R b:Nat}{g:av}{gv:List Value}{caps:List Int}{nT nS F B:Nat}{v:Ew}(h:jP w o R b g gv caps nT nS F B v){t q gs:Nat}(ht:t < nT)(hq:bY g t q=F)(hF:F < g.edges.length+g.ins.length)(he:(v.tv t).src=.slice (some ⟨gs,0,none⟩) (ay g t).length (ay g t).length) :
  jP (w.setCell ⟨gs,q,none⟩ (.int .i64 (F:Int))) o R b g gv caps nT nS (F+1) B v/\Turn o o (fun c=>c=R+1000+2*t) w (w.setCell ⟨gs,q,none⟩ (.int .i64 (F:Int))):=by
 obtain ⟨m1,m2⟩:=h.most;obtain ⟨gs',e1,b1⟩:=(h.task t ht).src;rw [he] at e1;cases e1
 obtain ⟨H,T⟩:=b1.set q (.int .i64 (F:Int));rw [Lu,Nj hq hF] at H;refine ⟨⟨h.aP.turn T (by omega),h.caps.turn T (by omega),h.fail.turn T (by omega),h.tasks.turn T (by omega),h.streams.turn T (by omega),fun u hu=>?_,fun d hd=>(h.all d hd).turn T (by omega),h.most⟩,T⟩;have k:=h.task u hu;obtain ⟨gd,e2,b2⟩:=k.dst
 by_cases e:u=t
 ·
  subst e;exact ⟨k.vp.turn T (by omega),k.vi.turn T (by omega),k.vo.turn T (by omega),k.vk.turn T (by omega),⟨gs,he,H⟩,⟨gd,e2,b2.turn T (by omega)⟩⟩
 ·
  obtain ⟨gs2,e1,b1⟩:=k.src;rw [JU hq e] at b1;exact ⟨k.vp.turn T (by omega),k.vi.turn T (by omega),k.vo.turn T (by omega),k.vk.turn T (by omega),⟨gs2,e1,b1.turn T (by omega)⟩,⟨gd,e2,b2.turn T (by omega)⟩⟩
theorem jP.A9 {w:World}{o:Col}{R b:Nat}{g:av}{gv:List Value}{caps:List Int}{nT nS F B:Nat}{v:Ew}(h:jP w o R b g gv caps nT nS F B v){t p gd:Nat}(ht:t < nT)(hp:toP g t p=B)(hB:B < g.edges.length+g.ins.length+g.outs.length)(he:(v.tv t).dst=.slice (some ⟨gd,0,none⟩) (aF g t).length (aF g t).length) :
  jP (w.setCell ⟨gd,p,none⟩ (.int .i64 (B:Int))) o R b g gv caps nT nS F (B+1) v/\Turn o o (fun c=>c=R+1001+2*t) w (w.setCell ⟨gd,p,none⟩ (.int .i64 (B:Int))):=by
 obtain ⟨m1,m2⟩:=h.most;obtain ⟨gd',e1,b1⟩:=(h.task t ht).dst;rw [he] at e1;cases e1
 obtain ⟨H,T⟩:=b1.set p (.int .i64 (B:Int));rw [Lu,Vy hp hB] at H;refine ⟨⟨h.aP.turn T (by omega),h.caps.turn T (by omega),h.fail.turn T (by omega),h.tasks.turn T (by omega),h.streams.turn T (by omega),fun u hu=>?_,fun d hd=>(h.all d hd).turn T (by omega),h.most⟩,T⟩;have k:=h.task u hu;obtain ⟨gs,e2,b2⟩:=k.src
 by_cases e:u=t
 ·
  subst e;exact ⟨k.vp.turn T (by omega),k.vi.turn T (by omega),k.vo.turn T (by omega),k.vk.turn T (by omega),⟨gs,e2,b2.turn T (by omega)⟩,⟨gd,he,H⟩⟩
 ·
  obtain ⟨gd2,e1,b1⟩:=k.dst;rw [QX hp e] at b1;exact ⟨k.vp.turn T (by omega),k.vi.turn T (by omega),k.vo.turn T (by omega),k.vk.turn T (by omega),⟨gs,e2,b2.turn T (by omega)⟩,⟨gd2,e1,b1.turn T (by omega)⟩⟩
theorem jP.wO {w:World}{o:Col}{R b:Nat}{g:av}{gv:List Value}{caps:List Int}{nT nS F B:Nat}{v:Ew}(h:jP w o R b g gv caps nT nS F B v){t:Nat}(ht:t < nT):∃ tg tc,v.tasks=.slice (some ⟨tg,0,none⟩) nT tc/\nT<=tc/\o tg=R+1/\∀ k (u:Value),k < 12->(iA g v.tv t)[k]?=some u->w.cell? ⟨tg,t*12+k,none⟩=some u:=by
 rcases h.tasks.1.2 with ⟨_,h0⟩ | ⟨tg,tc,cur,e,_,hg,hc,_⟩
 ·
  omega
 ·
  refine ⟨tg,tc,e,hc,h.tasks.2 tg (by rw [e];rfl),fun k u hk hu=>?_⟩;have hh:=h.tasks.1;rw [e] at hh;have:=hh.cells (g:=tg) rfl (t*12+k) u (by rw [kN (JV g v.tv) hk ht];exact hu);rw [Addr.add_lit] at this
  simpa using this
end Go.Proofs.YtepjkmnhmcjbkaaGreat
namespace Go.Proofs.YtepjkmnhmcjbkaaGreat
theorem Dg {t:Int}{ps:List Int}(h:aC t ps):(bJ t ps).length<=64/\(aV t ps).length<=64:=by
 unfold aC aZ bP at h;refine ⟨?_,?_⟩
 ·
  unfold bJ
  split
  ·
   simp
  ·
   split
   ·
    simp;omega
   ·
    split
    ·
     simp
    ·
     split
     ·
      simp;omega
     ·
      split
      ·
       simp
      ·
       split <;> simp
 ·
  unfold aV
  split
  ·
   simp
  ·
   split
   ·
    simp
   ·
    split
    ·
     simp;omega
    ·
     split
     ·
      simp;omega
     ·
      split <;> simp
theorem rq {g:av}(h:fG g)(t:Nat):((∀ x∈ay g t,1<=x/\x<=64)/\(ay g t).length<=64)/\(∀ x∈aF g t,1<=x/\x<=64)/\(aF g t).length<=64:=by
 unfold ay aF;cases ha:g.actors[t]? with
 | none=>exact ⟨⟨fun x hx=>(by cases hx),by simp⟩,fun x hx=>(by cases hx),by simp⟩
 | some a =>
  have hg:=h.good a (List.mem_of_getElem? ha);exact ⟨⟨(ug hg).1,(Dg hg).1⟩,(ug hg).2,(Dg hg).2⟩
def fH (l:List Int):Nat:=(l.map Int.toNat).sum
theorem uo {l:List Int}{i:Nat}(h:i < l.length):fH (l.take (i+1))=fH (l.take i)+l[i].toNat:=by
 unfold fH;rw [List.take_succ_eq_append_getElem h,List.map_append,List.sum_append];simp
theorem yj {l:List Int}{i j:Nat}(h:i<=j):fH (l.take i)<=fH (l.take j):=by
 obtain ⟨d,rfl⟩:=Nat.le.dest h;unfold fH;rw [List.take_add,List.map_append,List.sum_append];omega
theorem wP (l:List Int):fH (l.take l.length)=fH l:=by rw [List.take_length]
theorem ru {l:List Int}(i:Nat):fH (l.take i)<=fH l:=by
 rcases Nat.le_total i l.length with h | h
 ·
  rw [<- wP l];exact yj h
 ·
  rw [List.take_of_length_le h];exact Nat.le_refl _
def jr:List Int->List Int->List (List Int)
 | [],_=>[]
 | r :: rs,l=>l.take r.toNat :: jr rs (l.drop r.toNat)
theorem zx:∀ (is hand:List Int) (i:Nat) (h:i < is.length),jr (is.take (i+1)) hand=jr (is.take i) hand ++ [(hand.drop (fH (is.take i))).take is[i].toNat]
 | [],_,_,h=>by simp at h
 | r :: rs,hand,0,_=>by simp [jr,fH]
 | r :: rs,hand,i+1,h=>by
  have ih:=zx rs (hand.drop r.toNat) i (by simpa using h);rw [List.take_succ_cons,jr,ih,List.take_succ_cons,jr];rw [List.drop_drop];simp [fH]
theorem zy:∀ (is:List Int) (l:List (List Int)),l.length=is.length->(∀ q,q < is.length->bD l q=is[q]?.getD 0)->jr is l.flatten=l
 | [],l,h,_=>by
  obtain rfl:l=[]:=List.eq_nil_of_length_eq_zero h;rfl
 | r :: rs,[],h,_=>by simp at h
 | r :: rs,x :: l,h,hq=>by
  have h0:=hq 0 (by simp);simp [bD] at h0;have e:r.toNat=x.length:=by omega
  rw [jr,e,List.flatten_cons,List.take_left,List.drop_left,zy rs l (by simpa using h) (fun q hq2=>?_)];have:=hq (q+1) (by simpa using hq2)
  simpa [bD] using this
theorem uq:∀ (is:List Int) (l:List (List Int)) (p:Nat),l.length=is.length->(∀ q,q < p->bD l q=is[q]?.getD 0)->(∀ q,p < q->bD l q=0)->(l.flatten.length:Int)=fH (is.take p)+bD l p
 | [],l,p,h,_,_=>by
  obtain rfl:l=[]:=List.eq_nil_of_length_eq_zero h;simp [fH,bD]
 | r :: rs,[],_,h,_,_=>by simp at h
 | r :: rs,x :: l,0,h,_,h2=>by
  have hz:l.flatten=[]:=by
   rw [List.flatten_eq_nil_iff];intro y hy;obtain ⟨k,hk,rfl⟩:=List.getElem_of_mem hy;have:=h2 (k+1) (by omega);simp [bD,hk] at this;exact this
  simp [fH,bD,hz]
 | r :: rs,x :: l,p+1,h,h1,h2=>by
  have ih:=uq rs l p (by simpa using h) (fun q hq=>by simpa [bD] using h1 (q+1) (by omega)) (fun q hq=>by simpa [bD] using h2 (q+1) (by omega));have h0:=h1 0 (by omega);simp [bD] at h0;have e:bD (x :: l) (p+1)=bD l p:=by simp [bD]
  rw [e,List.flatten_cons,List.length_append,List.take_succ_cons];simp only [fH,List.map_cons,List.sum_cons] at ih ⊢;omega
theorem Dh:∀ (os:List Int) (l:List (List Int)) (p:Nat),l.length=os.length->p < os.length->(∀ q,q < p->bD l q=0)->(∀ q,p < q->q < os.length->bD l q=os[q]?.getD 0)->l.flatten.length+fH (os.take (p+1))=fH os+(bD l p).toNat/\l.flatten=(l[p]?.getD []) ++ (l.drop (p+1)).flatten
 | [],_,_,_,hp,_,_=>by simp at hp
 | r :: rs,[],_,h,_,_,_=>by simp at h
 | r :: rs,x :: l,0,h,_,_,h2=>by
  have key:∀ (os:List Int) (l:List (List Int)),l.length=os.length->(∀ q,q < os.length->bD l q=os[q]?.getD 0)->l.flatten.length=fH os:=by
   intro os l hl hq;have:=uq os l os.length hl (fun q h=>hq q h) (fun q h=>uh (by omega));rw [wP,uh (by omega)] at this;omega
  have hk:=key rs l (by simpa using h) (fun q hq=>by simpa [bD] using h2 (q+1) (by omega) (by simpa using hq));refine ⟨?_,by simp⟩;simp [fH,bD] at hk ⊢;omega
 | r :: rs,x :: l,p+1,h,hp,h1,h2=>by
  have h0:=h1 0 (by omega);have hx:x=[]:=by simpa [bD] using h0
  subst hx;obtain ⟨a,b⟩:=Dh rs l p (by simpa using h) (by simpa using hp) (fun q hq=>by simpa [bD] using h1 (q+1) (by omega)) (fun q hq hr=>by simpa [bD] using h2 (q+1) (by omega) (by simpa using hr));refine ⟨?_,by simpa using b⟩;have e:bD ([] :: l) (p+1)=bD l p:=by simp [bD]
  rw [e];simp only [List.flatten_cons,List.nil_append,List.take_succ_cons,fH,List.map_cons,List.sum_cons] at a ⊢;omega
theorem mh:∀ (l:List (List Int)) (p:Nat) (v:List Int),p < l.length->(l.set p v).flatten=(l.take p).flatten ++ v ++ (l.drop (p+1)).flatten
 | [],_,_,h=>by simp at h
 | x :: l,0,v,_=>by simp
 | x :: l,p+1,v,h=>by
  have:=mh l p v (by simpa using h);simp [this]
theorem vK {l:List (List Int)}(h:∀ q,q < l.length->bD l q=0):l.flatten=[]:=by
 rw [List.flatten_eq_nil_iff];intro y hy;obtain ⟨k,hk,rfl⟩:=List.getElem_of_mem hy;have:=h k hk;simp [bD,hk] at this;exact this
def zA (x:bW)(gv:List Int):Nat:=if x.gives then x.hand.flatten.length+1+gv.length else x.hand.flatten.length
def YA (g:av)(t:Nat)(x:bW)(gv:List Int):Prop:=x.gives=true->gv.length+x.bg.flatten.length=fH (aF g t)
section
variable {g:av} {t s:Nat} {x:bW} {gv:List Int}
theorem xu.full (h:xu g t s x)(hp:¬ x.gives=true->¬ x.port < (ay g t).length):x.hand.flatten.length=fH (ay g t)/\jr (ay g t) x.hand.flatten=x.hand:=by
 have key:∀ q,q < (ay g t).length->bD x.hand q=(ay g t)[q]?.getD 0:=by
  intro q hq;cases hg:x.gives with
  | true=>exact (h.give hg).2.2.1 q hq
  | false =>
   obtain ⟨_,k1,k2,_⟩:=h.take hg;exact k2 q (by have:=hp (by rw [hg];simp);omega)
 have:=uq (ay g t) x.hand (ay g t).length h.hlen key (fun q hq=>uh (by rw [h.hlen];omega));rw [wP,uh (by rw [h.hlen];exact Nat.le_refl _)] at this;exact ⟨by omega,zy _ _ h.hlen key⟩
theorem xu.part (h:xu g t s x)(hg:x.gives=false)(hp:x.port < (ay g t).length):fH ((ay g t).take x.port)<=x.hand.flatten.length/\x.hand.flatten.length < fH ((ay g t).take (x.port+1)):=by
 obtain ⟨_,k1,k2,k3,k4⟩:=h.take hg;have:=uq (ay g t) x.hand x.port h.hlen k2 k3;have h4:=k4 hp;have h5:(0:Int)<=bD x.hand x.port:=by unfold bD;omega
 unfold rI at h4;rw [List.getElem?_eq_getElem hp] at h4;rw [uo hp];simp at h4;omega
theorem xu.took (h:xu g t s x)(hg:x.gives=false)(hp:x.port < (ay g t).length)(r v:Int):(l8 r x v).hand.flatten=x.hand.flatten ++ [v]:=by
 obtain ⟨_,k1,k2,k3,k4⟩:=h.take hg;have hp':x.port < x.hand.length:=by rw [h.hlen];exact hp
 have hz:(x.hand.drop (x.port+1)).flatten=[]:=vK fun q hq=>by
  have:=k3 (x.port+1+q) (by omega);unfold bD at this ⊢;rw [List.getElem?_drop];exact this
 have e:x.hand=x.hand.set x.port (x.hand[x.port]?.getD []):=by
  rw [List.getElem?_eq_getElem hp'];simp
 have e1:=congrArg List.flatten e;rw [mh _ _ _ hp',hz,List.append_nil] at e1;show (x.hand.set x.port ((x.hand[x.port]?.getD []) ++ [v])).flatten=_
 rw [mh _ _ _ hp',hz,List.append_nil,e1,List.append_assoc]
theorem xu.WZ (hga:fG g)(h:xu g t s x)(hg:x.gives=true)(hv:YA g t x gv) :
  fH ((aF g t).take x.port)<=gv.length/\gv.length < fH ((aF g t).take (x.port+1))/\∃ l,x.bg.flatten=lu x :: l/\(x.bg.set x.port (x.bg[x.port]?.getD []).tail).flatten=l:=by
 obtain ⟨k1,k2,_,k4,k5,k6,k7⟩:=h.give hg;obtain ⟨e1,e2⟩:=Dh (aF g t) x.bg x.port k2 k1 k4 k5;have hl:=hv hg;have hr:=Ei hga k1;unfold rO at hr k7;rw [List.getElem?_eq_getElem k1] at hr k7;rw [uo k1] at e1 ⊢;simp at hr k7;have hp':x.port < x.bg.length:=by rw [k2];exact k1
 refine ⟨by omega,by omega,?_⟩;obtain ⟨y,l,hy⟩:∃ y l,x.bg[x.port]?.getD []=y :: l:=by
  unfold bD at k6;cases hh:x.bg[x.port]?.getD [] with
  | nil=>rw [hh] at k6;simp at k6
  | cons y l=>exact ⟨y,l,rfl⟩
 have hz:(x.bg.take x.port).flatten=[]:=vK fun q hq=>by
  have hq':q < x.port:=by simp at hq;omega
  have:=k4 q hq';unfold bD at this ⊢;rw [List.getElem?_take_of_lt hq'];exact this
 refine ⟨l ++ (x.bg.drop (x.port+1)).flatten,?_,?_⟩
 ·
  rw [e2,hy];unfold lu;rw [hy];rfl
 ·
  rw [mh _ _ _ hp',hz,hy];rfl
theorem xu.last (hga:fG g)(h:xu g t s x)(hg:x.gives=true):((if (x.bg[x.port]?.getD []).tail=[] then x.port+1 else x.port)=(aF g t).length)↔(x.bg.set x.port (x.bg[x.port]?.getD []).tail).flatten=[]:=by
 obtain ⟨k1,k2,_,k4,k5,k6,k7⟩:=h.give hg;have hp':x.port < x.bg.length:=by rw [k2];exact k1
 have hz:(x.bg.take x.port).flatten=[]:=vK fun q hq=>by
  have hq':q < x.port:=by simp at hq;omega
  have:=k4 q hq';unfold bD at this ⊢;rw [List.getElem?_take_of_lt hq'];exact this
 rw [mh _ _ _ hp',hz,List.nil_append]
 by_cases ht:(x.bg[x.port]?.getD []).tail=[]
 ·
  rw [if_pos ht,ht,List.nil_append]
  constructor
  ·
   intro e;rw [e,<- k2,List.drop_length];rfl
  ·
   intro e
   rcases Nat.lt_or_ge (x.port+1) (aF g t).length with hlt | hge
   ·
    have h5:=k5 (x.port+1) (by omega) hlt;have hr:=(Ei hga hlt).1;rw [<- h5] at hr;unfold bD at hr;have hlt':x.port+1 < x.bg.length:=by rw [k2];exact hlt
    rw [List.flatten_eq_nil_iff] at e;have:=e (x.bg[x.port+1]) (by rw [List.mem_iff_getElem];exact ⟨0,by simp;omega,by simp⟩);rw [List.getElem?_eq_getElem hlt'] at hr;simp [this] at hr
   ·
    omega
 ·
  rw [if_neg ht]
  constructor
  ·
   intro e;omega
  ·
   intro e;exact absurd (List.append_eq_nil_iff.1 e).1 ht
end
open Go.RowKit
def wQ (a b:Int):Option Int:=if Fits (a*b) then some (a*b) else none
theorem JW (n:Int):∃ q:Int,wrap64 n=n+q*18446744073709551616/\-9223372036854775808<=wrap64 n/\wrap64 n<=9223372036854775807:=by
 unfold wrap64;exact ⟨-((n+9223372036854775808) / 18446744073709551616),by omega,by omega,by omega⟩
theorem Ey {p z:Int}(hp:∃ q:Int,p=z+q*18446744073709551616)(h:(p - z).natAbs < 18446744073709551616):p=z:=by
 obtain ⟨q,e⟩:=hp;omega
theorem JX {a b:Int}(fa:Fits a)(fb:Fits b)(h0:b≠0)(hm:¬ (b = -1/\a = -9223372036854775808)):wrap64 ((wrap64 (a*b)).tdiv b)=a↔Fits (a*b):=by
 unfold Fits at *
 constructor
 ·
  intro h;obtain ⟨q,e,p1,p2⟩:=JW (a*b);generalize wrap64 (a*b)=p at *;have hpd:p.tdiv b=a:=by
   by_cases hb:b = -1
   ·
    subst hb;have e1:p.tdiv (-1) = -p:=by simp
    rw [e1] at h ⊢
    by_cases hp:p = -9223372036854775808
    ·
     subst hp
     exfalso
     have:wrap64 (-(-9223372036854775808)) = -9223372036854775808:=by unfold wrap64;omega
     rw [this] at h;exact hm ⟨rfl,h.symm⟩
    ·
     rw [IntWalk.wrap64_in _ (by omega)] at h;exact h
   ·
    rw [xI ⟨p1,p2⟩ h0 hb] at h;exact h
  have hdm:=Int.mul_tdiv_add_tmod p b;rw [hpd] at hdm;have hlt:(p.tmod b).natAbs < b.natAbs:=by
   rw [Int.natAbs_tmod];exact Nat.mod_lt _ (by omega)
  have hpe:p=a*b:=Ey ⟨q,e⟩ (by
   have e2:p - a*b=p.tmod b:=by rw [Int.mul_comm a b];omega
   rw [e2];omega)
  omega
 ·
  intro h;rw [IntWalk.wrap64_in _ h,Int.mul_tdiv_cancel _ h0];exact IntWalk.wrap64_in _ fa
theorem Di (w:World)(a b:Int)(fa:Fits a)(fb:Fits b):Calls Tryz.prog 106 #[.int .i64 a,.int .i64 b] w fun e w'=>e=.returned (FL (wQ a b))/\w=w':=by
 by_cases ha:a=0
 ·
  subst ha;have e:wQ 0 b=some 0:=by simp [wQ,Fits]
  rw [e];go_enter Tryz.func106,Tryz.ntmps106;go_wp2;go_ret2;exact ⟨rfl,rfl⟩
 by_cases hb:b=0
 ·
  subst hb;have e:wQ a 0=some 0:=by simp [wQ,Fits]
  rw [e];go_enter Tryz.func106,Tryz.ntmps106;go_wp2;go_ret2;exact ⟨rfl,rfl⟩
 by_cases h1:a = -1/\b = -9223372036854775808
 ·
  obtain ⟨rfl,rfl⟩:=h1;have e:wQ (-1) (-9223372036854775808)=none:=by decide
  rw [e];clear fa fb ha hb;go_enter Tryz.func106,Tryz.ntmps106;go_wp2;go_ret2;exact ⟨rfl,rfl⟩
 by_cases h2:b = -1/\a = -9223372036854775808
 ·
  obtain ⟨rfl,rfl⟩:=h2;have e:wQ (-9223372036854775808) (-1)=none:=by decide
  rw [e];clear fa fb ha hb h1;go_enter Tryz.func106,Tryz.ntmps106;go_wp2;go_ret2;exact ⟨rfl,rfl⟩
 have hback:=JX fa fb hb h2;have hw:Fits (a*b)->wrap64 (a*b)=a*b:=fun h=>IntWalk.wrap64_in _ h;obtain ⟨p,hp⟩:∃ p,wQ a b=p:=⟨_,rfl⟩;rw [hp];have HP:=af hp;have HB:=af hback;have HW:=af hw;clear fa fb hp hback hw;have key:(wrap64 ((wrap64 (a*b)).tdiv b)=a/\wrap64 (a*b)=a*b/\p=some (a*b))\/(¬ wrap64 ((wrap64 (a*b)).tdiv b)=a/\p=none):=by
  by_cases hf:Fits (a*b)
  ·
   exact .inl ⟨HB.out.2 hf,HW.out hf,by rw [<- HP.out,wQ,if_pos hf]⟩
  ·
   exact .inr ⟨fun e=>hf (HB.out.1 e),by rw [<- HP.out,wQ,if_neg hf]⟩
 clear HP HB HW;have Vz:(a == 0)=false:=by simpa using ha
 have hB0:(b == 0)=false:=by simpa using hb
 obtain ⟨x,hA1⟩:∃ x,(a == -1)=x:=⟨_,rfl⟩;obtain ⟨y,hB1⟩:∃ x,(b == -1)=x:=⟨_,rfl⟩;obtain ⟨u,hAm⟩:∃ x,(a == -9223372036854775808)=x:=⟨_,rfl⟩;obtain ⟨v,hBm⟩:∃ x,(b == -9223372036854775808)=x:=⟨_,rfl⟩;have hc1:¬ (x=true/\v=true):=by
  rintro ⟨rfl,rfl⟩;exact h1 ⟨by simpa using hA1,by simpa using hBm⟩
 have hc2:¬ (y=true/\u=true):=by
  rintro ⟨rfl,rfl⟩;exact h2 ⟨by simpa using hB1,by simpa using hAm⟩
 clear h1 h2
 rcases key with ⟨hq,hw,rfl⟩ | ⟨hq,rfl⟩
 ·
  have hq':(wrap64 ((wrap64 (a*b)).tdiv b) != a)=false:=by simpa using hq
  have HW:=af hw;clear hq hw;cases x <;> cases y <;> cases u <;> cases v <;> first
   | exact absurd ⟨rfl,rfl⟩ hc1
   | exact absurd ⟨rfl,rfl⟩ hc2
   | (clear hc1 hc2;go_enter Tryz.func106,Tryz.ntmps106;go_wp2;go_ret2;show Ending.returned (.tuple #[.int .i64 (wrap64 (a*b)),.bool true])=_/\_;rw [HW.out];exact ⟨rfl,rfl⟩)
 ·
  have hq':(wrap64 ((wrap64 (a*b)).tdiv b) != a)=true:=by simpa using hq
  clear hq;cases x <;> cases y <;> cases u <;> cases v <;> first
   | exact absurd ⟨rfl,rfl⟩ hc1
   | exact absurd ⟨rfl,rfl⟩ hc2
   | (clear hc1 hc2;go_enter Tryz.func106,Tryz.ntmps106;go_wp2;go_ret2;exact ⟨rfl,rfl⟩)
theorem uw (w:World)(a b:Int)(_ha:Fits a)(hb:Fits b)(h:Fits (a+b)):Calls Tryz.prog 105 #[.int .i64 a,.int .i64 b] w fun e w'=>e=.returned (.tuple #[.int .i64 (a+b),.bool true])/\w=w':=by
 unfold Fits at hb h
 by_cases h0:0 < b
 ·
  have h1:¬ b < 0:=by omega
  go_enter Tryz.func105,Tryz.ntmps105;go_wp2;go_ret2;exact ⟨rfl,rfl⟩
 ·
  by_cases h1:b < 0
  ·
   go_enter Tryz.func105,Tryz.ntmps105;go_wp2;go_ret2;exact ⟨rfl,rfl⟩
  ·
   go_enter Tryz.func105,Tryz.ntmps105;go_wp2;go_ret2;exact ⟨rfl,rfl⟩
theorem wR (w:World)(a b:Int)(ha:Fits a)(hb:Fits b)(h:¬ Fits (a+b)):Calls Tryz.prog 105 #[.int .i64 a,.int .i64 b] w fun e w'=>e=.returned (.tuple #[.int .i64 0,.bool false])/\w=w':=by
 unfold Fits at ha hb h
 by_cases h0:0 < b
 ·
  have h1:9223372036854775807 - b < a:=by omega
  clear h;go_enter Tryz.func105,Tryz.ntmps105;go_wp2;go_ret2;exact ⟨rfl,rfl⟩
 ·
  have h1:b < 0:=by omega
  have h2:a < -9223372036854775808 - b:=by omega
  clear h;go_enter Tryz.func105,Tryz.ntmps105;go_wp2;go_ret2;exact ⟨rfl,rfl⟩
theorem Nk (w:World)(a b:Int)(ha:Fits a)(hb:Fits b)(h:Fits (a*b)):Calls Tryz.prog 106 #[.int .i64 a,.int .i64 b] w fun e w'=>e=.returned (.tuple #[.int .i64 (a*b),.bool true])/\w=w':=by
 have:=Di w a b ha hb
 rwa [show wQ a b=some (a*b) by simp [wQ,h]] at this
theorem QY (w:World)(a b:Int)(ha:Fits a)(hb:Fits b)(h:¬ Fits (a*b)):Calls Tryz.prog 106 #[.int .i64 a,.int .i64 b] w fun e w'=>e=.returned (.tuple #[.int .i64 0,.bool false])/\w=w':=by
 have:=Di w a b ha hb
 rwa [show wQ a b=none by simp [wQ,h]] at this
theorem Nl {o o':Col}{c c':Nat}(w:World)(ao bo:Option Addr)(n m cap cap':Nat)(xs ys:List Int)(hx:Ints w o c (.slice ao n cap) xs)(hy:Ints w o' c' (.slice bo m cap') ys)(hxy:xs.length=ys.length)(hn:xs.length<=17600000000000)(hfx:∀ x∈xs,Fits x)(Pn:∀ x∈ys,Fits x) :
  Calls Tryz.prog 104 #[.slice ao n cap,.slice bo m cap'] w (Quiet (FL (mI 0 xs ys)) w):=by
 obtain rfl:=hx.len;obtain rfl:=hy.len;have HX:=af hx;have HY:=af hy;have HXY:=af hxy;have Ir:=af hfx;have HFY:=af Pn;have hni:(xs.length:Int)<=17600000000000:=by omega
 have f0:Fits 0:=by unfold Fits;omega
 rw [<- hxy];clear hx hy hxy hfx Pn;go_enter Tryz.func104,Tryz.ntmps104;go_wp2_with fail
 go_loopw [6,7] (fun s i wr=>∃ (k:Nat) (acc:Int) (q:Nat),k<=xs.length/\s=.int .i64 acc/\i=.int .i64 k/\Fits acc/\mI 0 xs ys=mI acc (xs.drop k) (ys.drop k)/\wr=w.drewN q) (fun _ i _=>xs.length - (intOf i).toNat)
 case atStart=>exact ⟨0,0,0,Nat.zero_le _,rfl,rfl,f0,by simp,rfl⟩
 case round =>
  obtain ⟨k,acc,q,hk,rfl,rfl,hfa,hd,hw⟩:=hrel;have HW:=af hw;clear hw;have vT:=af hfa;have HD:=af hd;clear hfa hd
  by_cases hlt:k < xs.length
  ·
   have hlt2:k < ys.length:=by have:=HXY.out;omega
   have bX:(k:Int) < xs.length:=by omega
   obtain ⟨b1,f1,rfl,-,hc1,-,-,hcell1⟩:=cu.at HX.out (by rw [aX];omega);obtain ⟨b2,f2,rfl,-,hc2,-,-,hcell2⟩:=cu.at HY.out (by rw [aX];omega);have hx1:=hcell1 k (by rw [aX];omega);have hx2:=hcell2 k (by rw [aX];omega);rw [iC hlt] at hx1;rw [iC hlt2] at hx2;rw [List.getElem?_eq_getElem hlt,Option.getD_some] at hx1;rw [List.getElem?_eq_getElem hlt2,Option.getD_some] at hx2;replace hx1:wr.cell? ⟨b1,f1+k,none⟩=some (iv xs[k]):=(by rw [HW.out];exact hx1);replace hx2:wr.cell? ⟨b2,f2+k,none⟩=some (iv ys[k]):=(by rw [HW.out];exact hx2);have M8:(xs.length:Int)<=cap:=by omega
   have acp:(xs.length:Int)<=cap':=by have:=HXY.out;omega
   have HS:=af (Ci (acc:=acc) hlt hlt2);have HFx:=af (Ir.out _ (List.getElem_mem hlt));have HFy:=af (HFY.out _ (List.getElem_mem hlt2));clear hcell1 hcell2;generalize xs[k]=x at *;generalize ys[k]=y at *
   by_cases hf1:Fits (x*y)
   ·
    have Hf1:=af hf1;clear hf1;go_wp2;go_quiet ((go_at_call 106;go_must (exact Calls.quiet_of_same ((Nk _ x y HFx.out HFy.out Hf1.out).mono fun e w' ⟨h1,h2⟩=>⟨h1,h2.symm⟩))));go_wp2_with fail
    by_cases hf2:Fits (acc+x*y)
    ·
     refine (uw _ acc (x*y) vT.out Hf1.out hf2).mono ?_;rintro e w1 ⟨rfl,rfl⟩;have KN:=af hf2;clear hf2;go_wp2;go_roundw
     case rel=>exact ⟨k+1,acc+x*y,q+_,by omega,rfl,by go_num,KN.out,by rw [HD.out,HS.out,if_pos ⟨Hf1.out,KN.out⟩],by rw [HW.out];exact World.drewN_drewN _ _ _⟩
     case measure=>simp [intOf];omega
    ·
     refine (wR _ acc (x*y) vT.out Hf1.out hf2).mono ?_;rintro e w1 ⟨rfl,rfl⟩;have KN:=af hf2;clear hf2;go_wp2;go_ret2;refine ⟨?_,q+_,by rw [HW.out];exact World.drewN_drewN _ _ _⟩;rw [HD.out,HS.out,if_neg (fun h=>KN.out h.2)];rfl
   ·
    have Hf1:=af hf1;clear hf1;go_wp2;go_quiet ((go_at_call 106;go_must (exact Calls.quiet_of_same ((QY _ x y HFx.out HFy.out Hf1.out).mono fun e w' ⟨h1,h2⟩=>⟨h1,h2.symm⟩))));go_wp2;go_ret2;refine ⟨?_,q+_,by rw [HW.out];exact World.drewN_drewN _ _ _⟩;rw [HD.out,HS.out,if_neg (fun h=>Hf1.out h.1)];rfl
  ·
   obtain rfl:k=xs.length:=by omega
   go_wp2;go_ret2;refine ⟨?_,q,HW.out⟩;rw [HD.out,List.drop_length,mI]
   ·
    rfl
   ·
    intro x xs' y ys' h;cases h
section
variable {o o':Col} {C:Nat->Prop} {w w' w2:World} {c d:Nat}
theorem cu.dO {v:Value}{vs:List Value}(h:cu w o c v vs)(ho:∀ k,k < w.heap.size->o k=c->o' k=d):cu w o' d v vs:=by
 rcases h with h | ⟨hp,b,off,cap,rfl,hl,hb,hob,hcl⟩
 ·
  exact .inl h
 ·
  exact .inr ⟨hp,b,off,cap,rfl,hl,hb,ho b hb hob,hcl⟩
def vU (w:World)(o:Col)(c:Nat)(v:Value)(xss:List (List Int)):Prop :=
 ∃ vs,vs.length=xss.length/\cu w o c v vs/\∀ k,k < xss.length->Ints w o c (vs[k]?.getD undef) (xss[k]?.getD [])
theorem vU.turn {v:Value}{xss:List (List Int)}(h:vU w o c v xss)(T:Turn o o' C w w')(hc:¬ C c):vU w' o' c v xss:=by
 obtain ⟨vs,h1,h2,h3⟩:=h;exact ⟨vs,h1,h2.turn T hc,fun k hk=>(h3 k hk).turn T hc⟩
theorem vU.dO {v:Value}{xss:List (List Int)}(h:vU w o c v xss)(ho:∀ k,k < w.heap.size->o k=c->o' k=d):vU w o' d v xss:=by
 obtain ⟨vs,h1,h2,h3⟩:=h;exact ⟨vs,h1,h2.dO ho,fun k hk=>(h3 k hk).dO ho⟩
theorem vU.ll {v:Value}{xss:List (List Int)}(h:vU w o c v xss):LL w v xss:=by
 obtain ⟨vs,h1,h2,h3⟩:=h;exact ⟨vs,h1,h2.has,fun k hk=>(h3 k hk).has⟩
theorem vU.nil (w:World)(o:Col)(c:Nat):vU w o c (.slice none 0 0) []:=⟨[],rfl,cu.nil _ _ _ _ _,fun k hk=>by simp at hk⟩
theorem vU.drewN {v:Value}{xss:List (List Int)}(h:vU w o c v xss)(m:Nat):vU (w.drewN m) o c v xss:=h.turn (Turn.jE o ⟨m,rfl⟩) (fun h=>h)
def kQ (w:World)(o:Col)(v:Value)(n:Nat)(vs:List Value)(xss:List (List Int)):Prop :=
 Own w o 1 27 1 v n vs/\xss.length=n/\∀ k,k < n->Ints w o 2 (vs[k]?.getD undef) (xss[k]?.getD [])
theorem kQ.nil (w:World)(o:Col):kQ w o (.slice none 0 0) 0 [] []:=⟨Own.nil _ _ _ _ _,rfl,fun k hk=>by omega⟩
theorem kQ.turn {v:Value}{n:Nat}{vs:List Value}{xss:List (List Int)}(h:kQ w o v n vs xss)(T:Turn o o' C w w')(h1:¬ C 1)(h2:¬ C 2):kQ w' o' v n vs xss :=
 ⟨h.1.turn T h1,h.2.1,fun k hk=>(h.2.2 k hk).turn T h2⟩
theorem kQ.app {v v' u:Value}{n:Nat}{vs:List Value}{xss:List (List Int)}{l:List Int}{tmp:Obj}(h:kQ w o v n vs xss)(hu:Ints w o 2 u l)(k1:w2.ownsRow 0 27 1 v' (n+1) (vs ++ [u]))(k2:(w.alloc tmp).grownBy w2 v.ownBlock)
  (k4:v'.ownBlock=v.ownBlock\/v'.ownBlock=some (w.alloc tmp).heap.size):kQ w2 (ext o w.heap.size 1) v' (n+1) (vs ++ [u]) (xss ++ [l])/\Turn o (ext o w.heap.size 1) (fun x=>x=1) w w2:=by
 obtain ⟨h1,h2,h3⟩:=h;have hl:=h1.len;have T:Turn o (ext o w.heap.size 1) (fun x=>x=1) w w2 :=
  Turn.kT o 1 (((aG.refl (fun b=>v.ownBlock=some b) w).alloc tmp).grown k2 (fun b hb _=>hb)) (fun b _ hb=>h1.2 b hb)
 refine ⟨⟨⟨k1,fun b hb=>?_⟩,by simp [h2],fun k hk=>?_⟩,T⟩
 ·
  rcases k4 with k4 | k4
  ·
   rw [k4] at hb;exact (dm (h1.1.lt b hb).2).trans (h1.2 b hb)
  ·
   rw [k4] at hb;have:=Option.some.inj hb;simp at this;exact dI (by omega)
 ·
  by_cases e:k < n
  ·
   rw [List.getElem?_append_left (by omega),List.getElem?_append_left (by omega)];exact (h3 k e).turn T (by decide)
  ·
   obtain rfl:k=n:=by omega
   rw [<- hl,List.getElem?_concat_length,hl,<- h2,List.getElem?_concat_length];exact hu.turn T (by decide)
theorem kQ.llc {v:Value}{n:Nat}{vs:List Value}{xss:List (List Int)}(h:kQ w o v n vs xss)(ho:∀ k,k < w.heap.size->o k=1\/o k=2->o' k=c):vU w o' c v xss:=by
 obtain ⟨h1,h2,h3⟩:=h;have hl:=h1.len;exact ⟨vs,by omega,h1.vals.dO (fun k hk e=>ho k hk (.inl e)),fun k hk=>(h3 k (by omega)).dO (fun k hk e=>ho k hk (.inr e))⟩
def Ez (N:Nat):Col:=fun k=>if k < N then 0 else 2
end
theorem QZ (ins:List (List Int))(j i:Nat)(h:i < ins.length):(wE ins j).take (i+1)=(wE ins j).take i ++ [(ins[i]?.getD [])[j]?.getD 0]:=by
 rw [List.take_succ_eq_append_getElem (by simpa [wE] using h)];simp [wE,h]
theorem JY (w:World)(n m:Nat)(ins:List (List Int))(bF:Value)(hn:n<=16)(hm:m<=64)(hl:ins.length=n)(hr:∀ l∈ins,l.length=m)(h:LL w bF ins) :
  Calls Tryz.prog 99 #[.int .i64 n,.int .i64 m,bF] w (PE w (dN ins m)):=by
 obtain ⟨i0,hi,hz0,hz1,hz2⟩:=info_parts bU;obtain ⟨ia,ic,rfl⟩:=h.slice;rw [hl] at h ⊢;have HI:=af h;have HL:=af hl;have HR:=af hr;have hni:(n:Int)<=16:=by omega
 have Pv:(m:Int)<=64:=by omega
 clear h hl hr;go_enter Tryz.func99,Tryz.ntmps99;go_wp2_with fail
 go_loopw [7,8,9] (fun v j _ wr=>∃ (k:Nat) (q:Nat),k<=m/\j=.int .i64 k/\wr.ownsRow w.heap.size 3 1 v (dN ins k).length (bB (dN ins k))/\(dN ins k).length=q/\Below w.heap.size w wr) (fun _ j _ _=>m - (intOf j).toNat)
 case atStart=>exact ⟨0,0,Nat.zero_le _,rfl,by simpa [dN] using World.ownsRow_nil w w.heap.size 3 1,by simp [dN],Below.refl _ _⟩
 case round =>
  obtain ⟨k,q,hk,rfl,ho,hq,hb⟩:=hrel;obtain ⟨sv,cv,rfl⟩:=aA ho
  by_cases hlt:k < m
  ·
   have bX:(k:Int) < m:=by omega
   have HO:=af ho;have HB:=af hb;clear ho hb hq;go_wp2_with fail
   go_loopw [7,9] (fun v i wr=>∃ (p:Nat),p<=n/\i=.int .i64 p/\wr.ownsRow w.heap.size 3 1 v (dN ins k ++ (wE ins k).take p).length (bB (dN ins k ++ (wE ins k).take p))/\Below w.heap.size w wr) (fun _ i _=>n - (intOf i).toNat)
   case atStart=>exact ⟨0,Nat.zero_le _,rfl,by simpa using HO.out,HB.out⟩
   case round =>
    clear HO HB;obtain ⟨p,hp,rfl,ho,hb⟩:=hrel;obtain ⟨sv,cv,rfl⟩:=aA ho;have hsz:=hb.size
    by_cases hpn:p < n
    ·
     have hpi:(p:Int) < n:=by omega
     obtain ⟨bi,oi,ie,hci,hrow⟩:=HI.out.at (by have:=HL.out;omega);subst ie;obtain ⟨a0,c0,hr0,hh0⟩:=hrow p (by have:=HL.out;omega);have hrl:(ins[p]?.getD []).length=m:=HR.out _ (by have:=HL.out;simp [show p < ins.length by omega]);rw [hrl] at hr0 hh0;obtain ⟨bd,ofd,rfl,-,hcd,-,-,Bb⟩:=cu.at hh0 (by rw [aX];omega);have hx1:=Bb k (by rw [aX];omega);rw [iC (by omega)] at hx1;have hr1:=cell_later hb hr0;have hx2:=cell_later hb hx1;have JZ:(n:Int)<=ic:=by omega
     have abE:(m:Int)<=c0:=by omega
     have HST:=af (QZ ins k p (by have:=HL.out;omega));have hql:(dN ins k ++ (wE ins k).take p).length<=1024:=by
      rw [List.length_append,uY,HL.out,List.length_take];have:k*n<=64*16:=Nat.mul_le_mul (by omega) hn;have:k*n+n<=64*16:=by
       have:(k+1)*n<=64*16:=Nat.mul_le_mul (by omega) hn;rw [Nat.add_mul] at this;omega
      omega
     clear hrow Bb hr0 hx1 hh0 hrl;generalize (ins[p]?.getD [])[k]?.getD 0=x at *;obtain ⟨L,hL⟩:∃ L,dN ins k ++ (wE ins k).take p=L:=⟨_,rfl⟩;have uL:=af hL;rw [hL] at ho hql ⊢;clear hL;go_wp2_with (at_builtin;refine aU ?_);refine dR ?_;refine aS rfl _ _ 27 rfl w.heap.size 3 i0 _ 1 8 Tryz.underlying27 hi hz0 hz1 hz2 rfl (.slice sv L.length cv) L.length _ rfl (ho.alloc (.cells #[.int .i64 x] 3)) (some ⟨wr.heap.size,0,none⟩) 1 1 [.int .i64 x] rfl rfl (fun h=>by cases h) (bC wr [.int .i64 x] 3) (by simp [Value.oneCell']) (by unfold maxLen;omega) (bA (by omega)) (gy hsz _) ?_;intro v5 w5 k1 k20 _ _;have k2:(wr.alloc (.cells #[.int .i64 x] 3)).grownBy w5 (Value.slice sv L.length cv).ownBlock:=⟨k20.os,k20.tape,k20.output,k20.size,k20.block⟩;have hb5:=hb.trans (gJ ho k2 hsz);have k3:w5.ownsRow w.heap.size 3 1 v5 (dN ins k ++ (wE ins k).take (p+1)).length (bB (dN ins k ++ (wE ins k).take (p+1))):=by
      rw [HST.out,<- List.append_assoc,uL.out]
      simpa using k1
     clear k1 k20 k2 ho;go_wp2;go_roundw
     case rel=>exact ⟨p+1,by omega,by go_num,k3,hb5⟩
     case measure=>simp [intOf];omega
    ·
     obtain rfl:p=n:=by omega
     have hst:dN ins k ++ (wE ins k).take p=dN ins (k+1):=by
      rw [List.take_of_length_le (by simp [wE,HL.out]),dN,dN,List.range_succ,List.flatMap_append];simp
     rw [hst] at ho ⊢;clear hst;go_wp2;go_roundw
     case rel=>exact ⟨k+1,_,by omega,by go_num,ho,rfl,hb⟩
     case measure=>simp [intOf];omega
  ·
   obtain rfl:k=m:=by omega
   clear hq;go_wp2;go_ret;exact ⟨_,rfl,ho,hb⟩
section
variable {o o':Col} {C:Nat->Prop} {w w' w2:World} {c d:Nat}
theorem Own.app {e n m:Nat}{v v':Value}{xs news:List Value}{tmp:Obj}(h:Own w o c e 1 v n xs)(k1:w2.ownsRow 0 e 1 v' (n+m) (xs ++ news))(k2:(w.alloc tmp).grownBy w2 v.ownBlock)
  (k4:v'.ownBlock=v.ownBlock\/v'.ownBlock=some (w.alloc tmp).heap.size):Own w2 (ext o w.heap.size c) c e 1 v' (n+m) (xs ++ news)/\Turn o (ext o w.heap.size c) (fun x=>x=c) w w2:=by
 have T:Turn o (ext o w.heap.size c) (fun x=>x=c) w w2 :=
  Turn.kT o c (((aG.refl (fun b=>v.ownBlock=some b) w).alloc tmp).grown k2 (fun b hb _=>hb)) (fun b _ hb=>h.2 b hb)
 refine ⟨⟨k1,fun b hb=>?_⟩,T⟩
 rcases k4 with k4 | k4
 ·
  rw [k4] at hb;exact (dm (h.1.lt b hb).2).trans (h.2 b hb)
 ·
  rw [k4] at hb;have:=Option.some.inj hb;simp at this;exact dI (by omega)
def Oy (o:Col):Col:=fun k=>if o k=3 then 2 else o k
theorem kQ.Oy {v:Value}{n:Nat}{vs:List Value}{xss:List (List Int)}(h:kQ w o v n vs xss):kQ w (Oy o) v n vs xss :=
 ⟨⟨h.1.1,fun k hk=>by have:=h.1.2 k hk;simp [Proofs.YtepjkmnhmcjbkaaGreat.Oy,this]⟩,h.2.1,fun k hk=>(h.2.2 k hk).dO (fun j _ e=>by simp [Proofs.YtepjkmnhmcjbkaaGreat.Oy,e])⟩
theorem Kept.Oy {B:Nat}{w0:World}(h:Kept B o w0 w):Kept B (Oy o) w0 w:=⟨h.below,fun k hk=>by simp [Proofs.YtepjkmnhmcjbkaaGreat.Oy,h.old k hk],h.size⟩
end
theorem GU {p:Nat}(h:p<=4611686018427387904):wrap64 (p:Int)=p:=IntWalk.wrap64_in _ (by omega)
theorem Nn {q n p:Nat}(e:q*n=p)(h:p<=4611686018427387904):wrap64 ((q:Int)*n)=p:=by rw [<- Int.natCast_mul,e];exact GU h
theorem Np {q n p:Nat}(e:q+n=p)(h:p<=4611686018427387904):wrap64 ((q:Int)+n)=p:=by rw [<- Int.natCast_add,e];exact GU h
theorem mo {w:World}{o:Col}{c n:Nat}(l:List Int)(t:TypeId)(hn:n=w.heap.size)(ho:o n=c)(k:Nat)(hk:k=l.length):Ints (w.alloc (.cells (bB l).toArray t)) o c (.slice (some ⟨n,0,none⟩) k k) l:=by
 subst hn hk
 by_cases hp:0 < l.length
 ·
  refine .inr ⟨by simpa using hp,w.heap.size,0,l.length,by simp,by simp,by simp,ho,fun k hk=>?_⟩;rw [Nat.zero_add];have hk':k < l.length:=by simpa using hk
  exact ah _ _ (heap_alloc_new w _) k _ (by simp [bB,hk'])
 ·
  obtain rfl:l=[]:=List.eq_nil_of_length_eq_zero (by omega);exact .inl ⟨rfl,_,_,rfl⟩
theorem nk {w:World}{o:Col}{c n:Nat}{v:Value}{l:List Int}(t:TypeId)(hn:n=w.heap.size)(ho:o n=c)(hv:Ints w o c v l):vU (w.alloc (.cells #[v] t)) o c (.slice (some ⟨n,0,none⟩) 1 1) [l]:=by
 subst hn;have T:Turn o o (fun _=>False) w (w.alloc (.cells #[v] t)):=⟨(aG.refl _ _).alloc _,fun _ _=>rfl⟩;refine ⟨[v],rfl,.inr ⟨by simp,w.heap.size,0,1,rfl,Nat.le_refl _,by simp,ho,fun k hk=>?_⟩,fun k hk=>?_⟩
 ·
  obtain rfl:k=0:=by simp at hk;omega
  exact ah _ _ (heap_alloc_new w _) 0 v rfl
 ·
  obtain rfl:k=0:=by simp at hk;omega
  exact hv.turn T (fun h=>h)
theorem GV (w:World)(n m:Nat)(l:List Int)(lv:Value)(hn:n<=16)(hm:m<=64)(hl:l.length=n*m)(h:Has w lv (bB l)) :
  Calls Tryz.prog 100 #[.int .i64 n,.int .i64 m,lv] w fun e w'=>∃ ov,e=.returned ov/\vU w' (Ez w.heap.size) 2 ov (gu n m l)/\Below w.heap.size w w':=by
 obtain ⟨i0,hi,hz0,hz1,hz2⟩:=info_parts bU;obtain ⟨j0,ji,XK,jz1,XL⟩:=info_parts lK;obtain ⟨la,lc,rfl⟩:=h.slice;have h64:n*m<=16*64:=Nat.mul_le_mul hn hm;rw [aX] at h ⊢;have HI:=af h;have HL:=af hl;have hni:(n:Int)<=16:=by omega
 have Pv:(m:Int)<=64:=by omega
 have hlb:(l.length:Int)<=1024:=by omega
 clear h hl;go_enter Tryz.func100,Tryz.ntmps100;go_wp2_with fail
 go_loopw [7,8,9,10] (fun v i _ _ wr=>∃ (k:Nat) (o:Col) (vs:List Value),k<=n/\i=.int .i64 k/\kQ wr o v k vs ((gu n m l).take k)/\Kept w.heap.size o w wr) (fun _ i _ _ _=>n - (intOf i).toNat)
 case atStart=>exact ⟨0,fun _=>0,[],Nat.zero_le _,rfl,by simpa using kQ.nil w (fun _=>0),Kept.start w⟩
 case round =>
  obtain ⟨k,o,vs,hk,rfl,hG,hK⟩:=hrel;obtain ⟨sv,cv,rfl⟩:=hG.1.slice
  by_cases hlt:k < n
  ·
   have bX:(k:Int) < n:=by omega
   have HG:=af hG;have HK:=af hK;clear hG hK;go_wp2_with fail
   go_loopw [9,10] (fun p j wq=>∃ (q:Nat) (o:Col),q<=m/\j=.int .i64 q/\Own wq o 3 3 1 p q (bB (((gu n m l)[k]?.getD []).take q))/\kQ wq o (.slice sv k cv) k vs ((gu n m l).take k)/\Kept w.heap.size o w wq) (fun _ j _=>m - (intOf j).toNat)
   case atStart=>exact ⟨0,o,Nat.zero_le _,rfl,by simpa using Own.nil wr o 3 3 1,HG.out,HK.out⟩
   case round =>
    clear HG HK o;obtain ⟨q,o,hq,rfl,hp,hG,hK⟩:=hrel;obtain ⟨sp,cp,rfl⟩:=hp.slice
    by_cases hqm:q < m
    ·
     have hqi:(q:Int) < m:=by omega
     have hidx:q*n+k < l.length:=by
      rw [HL.out];have:q*n+n<=m*n:=by rw [<- Nat.succ_mul];exact Nat.mul_le_mul_right n hqm
      rw [Nat.mul_comm n m];omega
     obtain ⟨bd,ofd,rfl,-,hcd,-,-,Bb⟩:=cu.at HI.out (by rw [aX];omega);have hx1:=Bb (q*n+k) (by rw [aX];omega);rw [iC hidx] at hx1;have hx2:=cell_later hK.below hx1;have abE:(l.length:Int)<=lc:=by omega
     have hST:((gu n m l)[k]?.getD []).take (q+1)=((gu n m l)[k]?.getD []).take q ++ [l[q*n+k]?.getD 0]:=by
      rw [F3 n m l k hlt,List.take_succ_eq_append_getElem (by simpa using hqm)];simp
     have HST:=af hST;have HG:=af hG;have HK:=af hK;have HP:=af hp;have hsz:=hK.size;clear Bb hx1 hST hG hK hp;generalize l[q*n+k]?.getD 0=x at *;obtain ⟨p,hp⟩:∃ p,q*n=p:=⟨_,rfl⟩;obtain ⟨r,hr⟩:∃ r,p+k=r:=⟨_,rfl⟩;have hqn:(r:Int) < l.length:=by omega
     have b1:p<=4611686018427387904:=by omega
     have b2:r<=4611686018427387904:=by omega
     have hw1:=Nn hp b1;have hw2:=Np hr b2;clear b1 b2;rw [hp,hr] at hx2;clear hp hidx hr;go_wp2_with (at_builtin;refine aU ?_);refine dR ?_;clear hw1 hw2;have hown:=HP.out.1;refine aS rfl _ _ 27 rfl 0 3 i0 _ 1 8 Tryz.underlying27 hi hz0 hz1 hz2 rfl (.slice sp q cp) q _ rfl (hown.alloc (.cells #[.int .i64 x] 3)) (some ⟨wr.heap.size,0,none⟩) 1 1 [.int .i64 x] rfl rfl (fun h=>by cases h) (bC wr [.int .i64 x] 3) (by simp [Value.oneCell']) (by unfold maxLen;omega) (bA (by omega)) (Nat.zero_le _) ?_;intro v5 w5 k1 k20 _ k4;have k2:(wr.alloc (.cells #[.int .i64 x] 3)).grownBy w5 (Value.slice sp q cp).ownBlock:=⟨k20.os,k20.tape,k20.output,k20.size,k20.block⟩;obtain ⟨P5,T5⟩:=HP.out.app k1 k2 k4;have HG5:=af (HG.out.turn T5 (by decide) (by decide));have jc:=af (HK.out.turn T5 (by decide));have HP5:Hid (Own w5 (ext o wr.heap.size 3) 3 3 1 v5 (q+1) (bB (((gu n m l)[k]?.getD []).take (q+1)))):=af (by rw [HST.out];simpa using P5);clear k1 k20 k2 k4 hown P5 T5 HG HK HP HST;go_wp2;go_roundw
     case rel=>exact ⟨q+1,_,by omega,by go_num,HP5.out,HG5.out,jc.out⟩
     case measure=>simp [intOf];omega
    ·
     obtain rfl:q=m:=by omega
     have hfull:((gu n q l)[k]?.getD []).take q=(gu n q l)[k]?.getD []:=List.take_of_length_le (by rw [Ea n q l k hlt];exact Nat.le_refl _);rw [hfull] at hp;have hGu:=hG.Oy;have hpu:Ints wr (Oy o) 2 (.slice sp q cp) ((gu n q l)[k]?.getD []):=hp.vals.dO (fun j _ e=>by simp [Oy,e]);have HG:=af (hGu.turn (Turn.of_below _ 4 (au wr (.cells #[.slice sp q cp] 27))) (fun h=>h) (fun h=>h));have HPU:=af (hpu.turn (Turn.of_below _ 4 (au wr (.cells #[.slice sp q cp] 27))) (fun h=>h));have HK:=af hK.Oy;have HGU:=af hGu;have HPP:=af hpu;have hsz:=hK.size;clear hfull hp hG hK hGu hpu;go_wp2_with (at_builtin;refine aU ?_);refine dR ?_;have hown:=HGU.out.1.1;refine aS rfl _ _ 43 rfl 0 27 j0 _ 1 24 Tryz.underlying43 ji XK jz1 XL rfl (.slice sv k cv) k _ rfl (hown.alloc (.cells #[.slice sp q cp] 27)) (some ⟨wr.heap.size,0,none⟩) 1 1 [.slice sp q cp] rfl rfl (fun h=>by cases h) (bC wr [.slice sp q cp] 27) (by simp [Value.oneCell']) (by unfold maxLen;omega) (bA (by omega)) (Nat.zero_le _) ?_;intro v5 w5 k1 k20 _ k4;have k2:(wr.alloc (.cells #[.slice sp q cp] 27)).grownBy w5 (Value.slice sv k cv).ownBlock:=⟨k20.os,k20.tape,k20.output,k20.size,k20.block⟩;obtain ⟨G5,T5⟩:=HGU.out.app HPP.out k1 k2 k4;have hst:(gu n q l).take (k+1)=(gu n q l).take k ++ [(gu n q l)[k]?.getD []]:=by
      have hk':k < (gu n q l).length:=by rw [FZ];exact hlt
      rw [List.take_succ_eq_append_getElem hk'];simp [hk']
     have HG5:Hid (kQ w5 (ext (Oy o) wr.heap.size 1) v5 (k+1) (vs ++ [.slice sp q cp]) ((gu n q l).take (k+1))):=af (by rw [hst];exact G5);have jc:=af (HK.out.turn T5 (by decide));clear k1 k20 k2 k4 hown G5 T5 HG HK HGU HPP HPU hst;go_wp2;go_roundw
     case rel=>exact ⟨k+1,_,_,by omega,by go_num,HG5.out,jc.out⟩
     case measure=>simp [intOf];omega
  ·
   obtain rfl:k=n:=by omega
   have hfull:(gu k m l).take k=gu k m l:=List.take_of_length_le (by rw [FZ];exact Nat.le_refl _);rw [hfull] at hG;have hL:vU wr (Ez w.heap.size) 2 (.slice sv k cv) (gu k m l):=hG.llc (fun j _ e=>by
    have:¬ j < w.heap.size:=fun hj=>by have:=hK.old j hj;omega
    simp [Ez,this])
   have hb:=hK.below;clear hfull hG hK;go_wp2;go_ret;exact ⟨_,rfl,hL,hb⟩
end Go.Proofs.YtepjkmnhmcjbkaaGreat
