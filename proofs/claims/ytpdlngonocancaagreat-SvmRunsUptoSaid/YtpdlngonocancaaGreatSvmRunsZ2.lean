import Derived.Test.YtpdlngonocancaaGreatSvmRunsZ1
import Derived.Shelf.Bits.Mul64
import Derived.TacticsIn
import Derived.Deep.QuietTactic
set_option linter.unusedVariables false
set_option linter.unusedSimpArgs false
set_option maxRecDepth 100000
set_option maxHeartbeats 20000000
namespace Go.Proofs.YtpdlngonocancaaGreat
open Go.RowKit
abbrev Has (w:World) (v:Value) (vs:List Value):Prop:=dn w (fun _=>0) 0 v vs
section
variable {o o' o1 o2:Col} {C D:Nat→Prop} {w w' w1 w2:World} {c d:Nat}
theorem dn.has {v:Value}{vs:List Value}(h:dn w o c v vs):Has w v vs:=by
 rcases h with h | ⟨hp,b,off,cap,rfl,hl,hb,_,hcl⟩
 ·
  exact .inl h
 ·
  exact .inr ⟨hp,b,off,cap,rfl,hl,hb,rfl,hcl⟩
theorem dn.below {v:Value}{vs:List Value}(h:Has w v vs)(hb:Below w.heap.size w w'):Has w' v vs:=h.turn (o':=fun _=>0) (C:=fun _=>False) ⟨aI.of_below hb _,fun _ _=>rfl⟩ (fun h=>h)
def LL (w:World)(v:Value)(xss:List (List Int)):Prop :=
 ∃ vs,vs.length=xss.length∧Has w v vs∧∀ k,k < xss.length→Has w (vs[k]?.getD undef) (aV (xss[k]?.getD []))
theorem LL.below {v:Value}{xss:List (List Int)}(h:LL w v xss)(hb:Below w.heap.size w w'):LL w' v xss:=by
 obtain ⟨vs,h1,h2,h3⟩:=h;exact ⟨vs,h1,h2.below hb,fun k hk=>(h3 k hk).below hb⟩
theorem LL.slice {v:Value}{xss:List (List Int)}(h:LL w v xss):∃ ao cap,v=.slice ao xss.length cap:=by
 obtain ⟨vs,h1,h2,_⟩:=h;rw [← h1];exact h2.slice
theorem LL.at {ao:Option Addr}{n cap:Nat}{xss:List (List Int)}(h:LL w (.slice ao n cap) xss)(hp:0 < xss.length):∃ b off,ao=some ⟨b,off,none⟩∧n≤cap ∧
  ∀ k,k < xss.length→∃ a0 c0,w.cell? ⟨b,off+k,none⟩=some (.slice a0 (xss[k]?.getD []).length c0)∧Has w (.slice a0 (xss[k]?.getD []).length c0) (aV (xss[k]?.getD [])):=by
 obtain ⟨vs,h1,h2,h3⟩:=h;obtain ⟨b,off,e,_,hc,_,_,hcl⟩:=h2.at (by omega);refine ⟨b,off,e,hc,fun k hk=>?_⟩;have hr:=h3 k hk;have hk':=hcl k (by omega);obtain ⟨a0,c0,e0⟩:=hr.slice;rw [aD] at e0;rw [e0] at hr hk';exact ⟨a0,c0,hk',hr⟩
def canon (N R:Nat):Col:=fun k=>if k=R then 2 else if k < N then 0 else 1
theorem oW {N R k:Nat}(h:N≤k)(hR:k≠R):canon N R k=1:=by simp [canon,hR,Nat.not_lt.2 h]
theorem Ar {N R k:Nat}(h:canon N R k=1):N≤k∧k≠R:=by
 unfold canon at h
 split at h
 ·
  cases h
 ·
  split at h
  ·
   cases h
  ·
   exact ⟨by omega,by assumption⟩
def jw (w:World)(o:Col)(c:Nat)(ov:Value)(xss:List (List Int)):Prop :=
 ∃ vs,vs.length=xss.length∧Own w o c 42 1 ov vs.length vs∧(∀ k,k < xss.length→Own w o c 3 1 (vs[k]?.getD undef) (xss[k]?.getD []).length (aV (xss[k]?.getD []))) ∧
  (∀ i j B,i < j→j < xss.length→(vs[i]?.getD undef).ownBlock=some B→(vs[j]?.getD undef).ownBlock≠some B)∧∀ i B,i < xss.length→(vs[i]?.getD undef).ownBlock=some B→ov.ownBlock≠some B
theorem jw.turn {ov:Value}{xss:List (List Int)}(h:jw w o c ov xss)(T:Turn o o' C w w')(hc:¬ C c):jw w' o' c ov xss:=by
 obtain ⟨vs,h1,h2,h3,h4,h5⟩:=h;exact ⟨vs,h1,h2.turn T hc,fun k hk=>(h3 k hk).turn T hc,h4,h5⟩
theorem jw.dS {ov:Value}{xss:List (List Int)}(h:jw w o c ov xss)(ho:∀ k,k < w.heap.size→o k=c→o' k=d):jw w o' d ov xss:=by
 obtain ⟨vs,h1,h2,h3,h4,h5⟩:=h;exact ⟨vs,h1,⟨h2.1,fun k hk=>ho k (h2.1.lt k hk).2 (h2.2 k hk)⟩,fun k hk=>⟨(h3 k hk).1,fun j hj=>ho j ((h3 k hk).1.lt j hj).2 ((h3 k hk).2 j hj)⟩,h4,h5⟩
theorem jw.ll {ov:Value}{xss:List (List Int)}(h:jw w o c ov xss):LL w ov xss:=by
 obtain ⟨vs,h1,h2,h3,h4,h5⟩:=h;exact ⟨vs,h1,h2.vals.has,fun k hk=>(h3 k hk).vals.has⟩
theorem jw.nil (w:World)(o:Col)(c:Nat):jw w o c (.slice none 0 0) []:=⟨[],rfl,Own.nil _ _ _ _ _,fun k hk=>by simp at hk,fun i j B _ hj=>by simp at hj,fun i B hi=>by simp at hi⟩
theorem vz {N R:Nat}{v:Value}{l:List Int}(hv:w1.ownsRow N 3 1 v l.length (aV l))(hs:N≤w1.heap.size)(hR:v.ownBlock≠some R)(hR1:w1.heap.size≠R) :
  jw (w1.alloc (.cells #[v] 42)) (canon N R) 1 (.slice (some ⟨w1.heap.size,0,none⟩) 1 1) [l]:=by
 have hb:=heap_alloc_new w1 (.cells #[v] 42);have hv':=hv.alloc (.cells #[v] 42);refine ⟨[v],rfl,⟨⟨rfl,.inr ⟨w1.heap.size,1,#[v],rfl,Nat.zero_le _,hb,Nat.le_refl _,by unfold maxLen;omega,rfl,rfl⟩⟩,fun k hk=>?_⟩,fun k hk=>?_,fun i j B hij hj=>by simp at hj;omega,fun i B hi hB=>?_⟩
 ·
  obtain rfl:=Option.some.inj hk;exact oW hs hR1
 ·
  obtain rfl:k=0:=by simpa using hk
  exact ⟨bG hv' (fun _ _=>Nat.zero_le _),fun j hj=>oW (hv.lt j hj).1 (fun e=>hR (by rw [← e];exact hj))⟩
 ·
  obtain rfl:i=0:=by simpa using hi
  intro e;obtain rfl:=Option.some.inj e;exact absurd (hv.lt _ hB).2 (Nat.lt_irrefl _)
theorem jw.set {g n cap i:Nat}{xss:List (List Int)}{v':Value}{l':List Int}{F:Nat→Prop}{vs:List Value}(h1:vs.length=xss.length)(h2:Own w o c 42 1 (.slice (some ⟨g,0,none⟩) n cap) vs.length vs)
  (h3:∀ k,k < xss.length→Own w o c 3 1 (vs[k]?.getD undef) (xss[k]?.getD []).length (aV (xss[k]?.getD []))) (h4:∀ i j B,i < j→j < xss.length→(vs[i]?.getD undef).ownBlock=some B→(vs[j]?.getD undef).ownBlock≠some B)
  (h5:∀ i B,i < xss.length→(vs[i]?.getD undef).ownBlock=some B→g≠B) (hi:i < xss.length) (hm:aI F w w1) (hF:∀ k,k < w.heap.size→F k→(vs[i]?.getD undef).ownBlock=some k)
  (hv:Own w1 o c 3 1 v' l'.length (aV l')) (hb:v'.ownBlock=(vs[i]?.getD undef).ownBlock∨∀ k,v'.ownBlock=some k→w.heap.size≤k) :
  jw (w1.setCell ⟨g,i,none⟩ v') o c (.slice (some ⟨g,0,none⟩) n cap) (xss.set i l'):=by
 have hgw:g < w.heap.size:=(h2.1.lt g rfl).2;have hg1:g < w1.heap.size:=Nat.lt_of_lt_of_le hgw hm.size;have new:∀ k,k < w.heap.size→(vs[i]?.getD undef).ownBlock≠some k→v'.ownBlock≠some k:=fun k hk hn e=>by
  rcases hb with hb | hb
  ·
   exact hn (hb ▸ e)
  ·
   have:=hb k e;omega
 have hgn:v'.ownBlock≠some g:=new g hgw (fun e=>h5 i g hi e rfl);have hown1:w1.ownsRow 0 42 1 (.slice (some ⟨g,0,none⟩) n cap) vs.length vs:=fD h2.1 hm (fun k hk f=>h5 i k hi (hF k (by have e:g=k:=Option.some.inj hk;omega) f) (Option.some.inj hk));have hn:n=vs.length:=by
  rcases h2.1.2 with ⟨e,_⟩ | ⟨_,_,_,e,_⟩
  ·
   cases e
  ·
   cases e;rfl
 subst hn;have hst:=(hown1.stored i v').1;refine ⟨vs.set i v',by simp [h1],⟨by rw [List.length_set];exact hst,h2.2⟩,fun k hk=>?_,fun a b B hab hb' hB=>?_,fun a B ha hB=>?_⟩
 ·
  rw [List.length_set] at hk
  by_cases hki:k=i
  ·
   subst hki;have e1:(vs.set k v')[k]?.getD undef=v':=by simp [show k < vs.length by omega]
   have e2:(xss.set k l')[k]?.getD []=l':=by simp [hk]
   rw [e1,e2];exact ⟨ownsRow_setCell_other hv.1 hgn v',hv.2⟩
  ·
   have e1:(vs.set i v')[k]?.getD undef=vs[k]?.getD undef:=by rw [List.getElem?_set_ne (Ne.symm hki)]
   have e2:(xss.set i l')[k]?.getD []=xss[k]?.getD []:=by rw [List.getElem?_set_ne (Ne.symm hki)]
   rw [e1,e2];have hk3:=h3 k hk;refine ⟨ownsRow_setCell_other (fD hk3.1 hm fun B hB f=>?_) (fun e=>h5 k g hk e rfl) v',hk3.2⟩;have:=hF B (hk3.1.lt B hB).2 f
   rcases Nat.lt_or_gt_of_ne hki with hlt | hlt
   ·
    exact h4 k i B hlt hi hB this
   ·
    exact h4 i k B hlt hk this hB
 ·
  rw [List.length_set] at hb';have olt:∀ k B,k < xss.length→(vs[k]?.getD undef).ownBlock=some B→B < w.heap.size:=fun k B hk hB=>((h3 k hk).1.lt B hB).2
  by_cases hai:a=i
  ·
   subst hai;rw [show (vs.set a v')[a]?.getD undef=v' by simp [show a < vs.length by omega]] at hB;rw [List.getElem?_set_ne (by omega)];intro e;have hBl:=olt b B hb' e;exact new B hBl (fun e'=>h4 a b B hab hb' e' e) hB
  ·
   rw [List.getElem?_set_ne (Ne.symm hai)] at hB
   by_cases hbi:b=i
   ·
    subst hbi;rw [show (vs.set b v')[b]?.getD undef=v' by simp [show b < vs.length by omega]];exact new B (olt a B (by omega) hB) (h4 a b B hab hb' hB)
   ·
    rw [List.getElem?_set_ne (Ne.symm hbi)];exact h4 a b B hab hb' hB
 ·
  rw [List.length_set] at ha
  by_cases hai:a=i
  ·
   subst hai;rw [show (vs.set a v')[a]?.getD undef=v' by simp [show a < vs.length by omega]] at hB;intro e;exact hgn (by rw [hB];exact e.symm)
  ·
   rw [List.getElem?_set_ne (Ne.symm hai)] at hB;intro e;exact h5 a B ha hB (Option.some.inj e)
end
end Go.Proofs.YtpdlngonocancaaGreat
namespace Go.Proofs.YtpdlngonocancaaGreat
section
variable {P:Program} {md:Region.Mode} {ops:Array Oper} {Q:Exit→Act→World→Prop} {S:World→Prop}
def fu (l:Array Bool)(r:List Nat):Array Bool:=r.foldl (fun l i=>l.setIfInBounds i true) l
def nS (ops:Array Oper)(reads M:List Nat)(j:Nat):Bool:=iZ ops j || reads.contains j || M.contains j
def KS (md:Region.Mode)(ops:Array Oper)(reads M:List Nat):Bool :=
 Region.noSelect ops && (reads.all fun i=>mY ops i || (List.range ops.size).all fun j=>iZ ops j || reads.contains j || M.contains j || fV md ops ops.size j i) &&
 eX md ops (fun _=>true) reads (Array.replicate ops.size false)
theorem fZ {reads M:List Nat}{n:Nat}(hsel:Region.noSelect ops=true)(hQ:∀ c a a' w,Q (.panic c) a w→Q (.panic c) a' w)
  (hbe:∀ i∈reads,mY ops i=false→∀ j,j < ops.size→iZ ops j=true∨reads.contains j=true∨M.contains j=true∨fV md ops ops.size j i=true) :
  ∀ (r:List Nat) (listed:Array Bool) (a:Act) (w:World),(∀ i∈r,i∈reads)→fO md ops listed→eX md ops (fun _=>true) r listed=true→S w →
   dO P ops S (fun a'=>dM P md ops Q S (nS ops reads M) n (fu listed r) a' w) (aX ops r) a →
   dM P md ops Q S (nS ops reads M) (r.length+n) listed a w
 | [],listed,a,w,_,_,_,_,h=>by
  rw [show ([]:List Nat).length+n=n by simp];exact h
 | i :: r,listed,a,w,hr,hcl,hB,hS,h=>by
  simp only [eX,Bool.and_eq_true] at hB;obtain ⟨⟨uZ,hfree⟩,hB'⟩:=hB;have lU:i∈Region.ready md ops listed:=by simpa using uZ
  have hlt:=eO lU;have hi:ops[i]?=some ops[i]:=Array.getElem?_eq_getElem hlt;have hp:aX ops (i :: r)=ops[i] :: aX ops r:=ja hi r;rw [hp] at h;obtain ⟨v,hy,hK⟩:=h;rw [show (i :: r).length+n=(r.length+n)+1 by simp;omega];refine qg (S':=fun w=>Eg ops[i]=true∨S w) hi (Region.noSelect_spec hsel) (fun c a w h=>hQ c _ _ w h) (fun j listed w w' hc hj zu hb hS=>?_) (fun w _ _ h=>h) _ listed a w hcl (Region.free_spec hi hfree) lU hy (.inr hS) ?_
  ·
   rcases hS with hS | hS
   ·
    exact .inl hS
   ·
    cases hany:Eg ops[i] with
    | true=>exact .inl rfl
    | false =>
     right
     rcases hbe i (hr i (by simp)) (by unfold mY;rw [hi];exact hany) j (eO hj) with h1 | h1 | h1 | h1
     ·
      exact hb (by simp [nS,h1]) hS
     ·
      exact hb (by unfold nS;rw [h1];simp) hS
     ·
      exact hb (by unfold nS;rw [h1];simp) hS
     ·
      have:=mJ hc h1 hj;rw [zu] at this;cases this
  ·
   exact fZ hsel hQ hbe r _ _ w (fun x hx=>hr x (by simp [hx])) (eZ hcl lU) hB' hS hK
theorem eP {id:Nat}{l:List Oper}{a:Act}{w:World}(S:World→Prop)(reads M:List Nat)(n:Nat)(hm:P.follows .mixedOrders=true)
  (hB:KS .any l.toArray reads M=true) (hlen:reads.length+n=l.length) (hS:S w.drew)
  (h:∀ Q':Exit→Act→World→Prop,(∀ a w,Q .normal a w→Q' .normal a w)→dO P l.toArray S (fun a'=>dM P .any l.toArray Q' S (nS l.toArray reads M) n (fu (Array.replicate l.length false) reads) a' w.drew) (aX l.toArray reads) a):(Code.region id l.toArray true).wp P Q a w:=by
 refine wp_region_noPanic ?_;refine wp_region_any hm ?_;simp only [KS,Bool.and_eq_true,List.all_eq_true,List.mem_range,Bool.or_eq_true] at hB;obtain ⟨⟨hsel,hbe⟩,hl⟩:=hB;refine jU (S:=S) (B:=nS l.toArray reads M) _ _ _ _ ?_;have key:=fZ (P:=P) (md:=.any) (Q:=NoPanic Q) (S:=S) (reads:=reads) (M:=M) (n:=n) hsel (fun c a a' w h=>h) (fun i hi hany j hj=>by
  rcases hbe i hi with h0 | h0
  ·
   rw [hany] at h0;cases h0
  rcases h0 j hj with ((h1 | h1) | h1) | h1
  ·
   exact .inl h1
  ·
   exact .inr (.inl h1)
  ·
   exact .inr (.inr (.inl h1))
  ·
   exact .inr (.inr (.inr h1))) reads (Array.replicate l.toArray.size false) a { w with drawn:=w.drawn+1 } (fun _ h=>h)
  (fun j oj _ hl=>by rw [getD_replicate_false] at hl;cases hl) hl hS (by simpa using h (NoPanic Q) (fun _ _ h=>NoPanic.normal h))
 rw [hlen] at key
 simpa using key
theorem qi {i:Nat}{K:Act→World→Prop}{a:Act}{w:World}(hi:i < ops.size)(h:wpList P ops (nR Q K) (aX ops [i]) a w):wpOp P ops Q i K a w:=by
 have ho:ops[i]?=some ops[i]:=Array.getElem?_eq_getElem hi;rw [ja ho []] at h;have hw:wpOp P ops (nR Q K) i (wpList P ops (nR Q K) (aX ops [])) a w:=by unfold wpOp;simp only [ho];exact h
 exact wS (fun a' w' h'=>h') hw
theorem aG {B:Nat→Bool}{n i:Nat}{listed:Array Bool}{a:Act}{w:World}(hr:Region.ready md ops listed=[i])(h:wpList P ops (nR Q fun a' w'=>(B i=true→S w→S w')∧dM P md ops Q S B n (listed.setIfInBounds i true) a' w') (aX ops [i]) a w):dM P md ops Q S B (n+1) listed a w:=by
 have hi:i∈Region.ready md ops listed:=by rw [hr];simp
 refine ⟨fun h0=>(by rw [h0] at hr;cases hr),fun j hj=>?_⟩;rw [hr] at hj;obtain rfl:j=i:=by simpa using hj
 exact qi (eO hi) h
theorem iT {B:Nat→Bool}{n i k:Nat}{listed:Array Bool}{a:Act}{w:World}(hr:Region.ready md ops listed=[i,k])(h:wpList P ops (nR Q fun a' w'=>(B i=true→S w→S w')∧dM P md ops Q S B n (listed.setIfInBounds i true) a' w') (aX ops [i]) a w)
  (h':wpList P ops (nR Q fun a' w'=>(B k=true→S w→S w')∧dM P md ops Q S B n (listed.setIfInBounds k true) a' w') (aX ops [k]) a w):dM P md ops Q S B (n+1) listed a w:=by
 have hi:i∈Region.ready md ops listed:=by rw [hr];simp
 have hk:k∈Region.ready md ops listed:=by rw [hr];simp
 refine ⟨fun h0=>(by rw [h0] at hr;cases hr),fun j hj=>?_⟩;rw [hr] at hj
 rcases List.mem_cons.1 hj with rfl | hj
 ·
  exact qi (eO hi) h
 ·
  obtain rfl:j=k:=by simpa using hj
  exact qi (eO hk) h'
theorem bg {reads M:List Nat}{ks:List Nat}{listed:Array Bool}{a:Act}{w:World}(CK:∀ w w',Ext w w'→S w→S w')(hB:(kg md ops (fun l=>(Region.ready md ops l).isEmpty) ks listed && ks.all fun k=>!(reads.contains k || M.contains k))=true)(h:wpList P ops Q (aX ops ks) a w):dM P md ops Q S (nS ops reads M) ks.length listed a w:=by
 simp only [Bool.and_eq_true,List.all_eq_true,Bool.not_eq_true'] at hB;have go:∀ (ks:List Nat) (listed:Array Bool) (a:Act) (w:World),kg md ops (fun l=>(Region.ready md ops l).isEmpty) ks listed=true→(∀ k∈ks,(reads.contains k || M.contains k)=false)→wpList P ops Q (aX ops ks) a w→dM P md ops Q S (nS ops reads M) ks.length listed a w:=by
  intro ks
  induction ks with
  | nil=>exact fun listed a w h1 _ h=>⟨by simpa [kg] using h1,h⟩
  | cons k r ih =>
   intro listed a w h1 h2 h;simp only [kg,Bool.and_eq_true,decide_eq_true_eq] at h1;have uZ:k∈Region.ready md ops listed:=by rw [h1.1];simp
   have hlt:=eO uZ;have ho:ops[k]?=some ops[k]:=Array.getElem?_eq_getElem hlt;rw [ja ho r] at h;refine ⟨fun h0=>(by rw [h0] at h1;cases h1.1),fun j hj=>?_⟩;rw [h1.1] at hj;obtain rfl:j=k:=by simpa using hj
   have hw:wpOp P ops Q j (wpList P ops Q (aX ops r)) a w:=by unfold wpOp;simp only [ho];exact h
   by_cases hm:iZ ops j=true
   ·
    obtain ⟨o,ho',hmo⟩:=Af hm;exact wpOp_mono (fun a' w' h'=>⟨fun _ hS=>CK _ _ h'.1 hS,ih _ a' w' h1.2 (fun x hx=>h2 x (by simp [hx])) h'.2⟩) (uo ho' hmo hw)
   ·
    have hf:nS ops reads M j=false:=by
     have h3:=h2 j (by simp);rw [Bool.or_eq_false_iff] at h3;unfold nS;rw [h3.1,h3.2]
     simpa using hm
    exact wpOp_mono (fun a' w' h'=>⟨fun hb=>(by rw [hf] at hb;cases hb),ih _ a' w' h1.2 (fun x hx=>h2 x (by simp [hx])) h'⟩) hw
 exact go ks listed a w hB.1 (fun k hk=>hB.2 k hk) h
end
open Go.RowKit
def Fits (n:Int):Prop:=-9223372036854775808≤n∧n≤9223372036854775807
instance (n:Int):Decidable (Fits n):=by unfold Fits;infer_instance
theorem zR (w:World)(a b:Int)(_ha:Fits a)(hb:Fits b)(h:Fits (a+b)):Calls Tryz.prog 134 #[.int .i64 a,.int .i64 b] w fun e w'=>e=.returned (.tuple #[.int .i64 (a+b),.bool true])∧w=w':=by
 unfold Fits at hb h
 by_cases h0:0 < b
 ·
  have h1:¬ b < 0:=by omega
  go_enter Tryz.func134,Tryz.ntmps134
  go_wp2
  go_ret2
  exact ⟨rfl,rfl⟩
 ·
  by_cases h1:b < 0
  ·
   go_enter Tryz.func134,Tryz.ntmps134
   go_wp2
   go_ret2
   exact ⟨rfl,rfl⟩
  ·
   go_enter Tryz.func134,Tryz.ntmps134
   go_wp2
   go_ret2
   exact ⟨rfl,rfl⟩
theorem En (w:World)(a b:Int)(ha:Fits a)(hb:Fits b)(h:¬ Fits (a+b)):Calls Tryz.prog 134 #[.int .i64 a,.int .i64 b] w fun e w'=>e=.returned (.tuple #[.int .i64 0,.bool false])∧w=w':=by
 unfold Fits at ha hb h
 by_cases h0:0 < b
 ·
  have h1:9223372036854775807 - b < a:=by omega
  clear h
  go_enter Tryz.func134,Tryz.ntmps134
  go_wp2
  go_ret2
  exact ⟨rfl,rfl⟩
 ·
  have h1:b < 0:=by omega
  have h2:a < -9223372036854775808 - b:=by omega
  clear h
  go_enter Tryz.func134,Tryz.ntmps134
  go_wp2
  go_ret2
  exact ⟨rfl,rfl⟩
theorem Ve (w:World)(a b:Int)(_ha:Fits a)(hb:Fits b)(h:Fits (a - b)):Calls Tryz.prog 145 #[.int .i64 a,.int .i64 b] w fun e w'=>e=.returned (.tuple #[.int .i64 (a - b),.bool true])∧w=w':=by
 unfold Fits at hb h
 by_cases h0:b < 0
 ·
  have h1:¬ 0 < b:=by omega
  go_enter Tryz.func145,Tryz.ntmps145
  go_wp2
  go_ret2
  exact ⟨rfl,rfl⟩
 ·
  by_cases h1:0 < b
  ·
   go_enter Tryz.func145,Tryz.ntmps145
   go_wp2
   go_ret2
   exact ⟨rfl,rfl⟩
  ·
   go_enter Tryz.func145,Tryz.ntmps145
   go_wp2
   go_ret2
   exact ⟨rfl,rfl⟩
theorem Y8 (w:World)(a b:Int)(ha:Fits a)(hb:Fits b)(h:¬ Fits (a - b)):Calls Tryz.prog 145 #[.int .i64 a,.int .i64 b] w fun e w'=>e=.returned (.tuple #[.int .i64 0,.bool false])∧w=w':=by
 unfold Fits at ha hb h
 by_cases h0:b < 0
 ·
  have h1:9223372036854775807+b < a:=by omega
  clear h
  go_enter Tryz.func145,Tryz.ntmps145
  go_wp2
  go_ret2
  exact ⟨rfl,rfl⟩
 ·
  have h1:0 < b:=by omega
  have h2:a < -9223372036854775808+b:=by omega
  clear h
  go_enter Tryz.func145,Tryz.ntmps145
  go_wp2
  go_ret2
  exact ⟨rfl,rfl⟩
theorem CS (x y:Nat)(hx:x < 18446744073709551616)(hy:y < 18446744073709551616)(w:World) :
  Calls Tryz.prog 135 #[.int .u64 x,.int .u64 y] w fun e w'=>e=.returned (.tuple #[.int .u64 ((x*y / 18446744073709551616:Nat):Int),.int .u64 ((x*y % 18446744073709551616:Nat):Int)])∧w=w':=by
 obtain ⟨bd,bt,bw,hhi⟩:=Lib.mul64_hi x y hx hy;have ba:=Lib.half_mul_le (a:=x / 4294967296) (b:=y / 4294967296) (by omega) (by omega);have bb:=Lib.half_mul_le (a:=x / 4294967296) (b:=y % 4294967296) (by omega) (by omega);have bc:=Lib.half_mul_le (a:=x % 4294967296) (b:=y / 4294967296) (by omega) (by omega);have ba':x / 4294967296*(y / 4294967296) < 18446744073709551616:=by omega
 have bb':x / 4294967296*(y % 4294967296) < 18446744073709551616:=by omega
 have bc':x % 4294967296*(y / 4294967296) < 18446744073709551616:=by omega
 have bh1:x / 4294967296*(y / 4294967296)+(x / 4294967296*(y % 4294967296)+x % 4294967296*(y % 4294967296) / 4294967296) / 4294967296 < 18446744073709551616:=by omega
 have bh:x / 4294967296*(y / 4294967296)+(x / 4294967296*(y % 4294967296)+x % 4294967296*(y % 4294967296) / 4294967296) / 4294967296+((x / 4294967296*(y % 4294967296)+x % 4294967296*(y % 4294967296) / 4294967296) % 4294967296+x % 4294967296*(y / 4294967296)) / 4294967296 < 18446744073709551616:=by omega
 go_enter Tryz.func135,Tryz.ntmps135
 go_wp2;simp only [Mul64.maskN x hx,Mul64.maskN y hy,Mul64.divN,Mul64.mulN,Mul64.addN,Mul64.wrapN _ bd,Mul64.wrapN _ bb',Mul64.wrapN _ bt,Mul64.maskN _ bt,Mul64.wrapN _ bc',Mul64.wrapN _ bw,Mul64.wrapN _ ba',Mul64.wrapN _ bh1,Mul64.wrapN _ bh,Mul64.wrapM (x*y)];rw [hhi]
 go_ret2
 exact ⟨rfl,rfl⟩
theorem fC (w:World)(a:Int)(ha:Fits a):Calls Tryz.prog 136 #[.int .i64 a] w fun e w'=>e=.returned (.int .u64 (a.natAbs:Int))∧w=w':=by
 unfold Fits at ha
 by_cases h0:a < 0
 ·
  go_enter Tryz.func136,Tryz.ntmps136
  go_wp2;go_ret
  exact ⟨KR (by rw [IntKind.wrap_u64,IntKind.wrap_u64];omega),rfl⟩
 ·
  go_enter Tryz.func136,Tryz.ntmps136
  go_wp2;go_ret
  exact ⟨KR (by omega),rfl⟩
theorem ku (w:World)(x y p:Nat)(hp:x*y=p)(hx:x < 18446744073709551616)(hy:y < 18446744073709551616)(h:p < 18446744073709551616) :
  Calls Tryz.prog 135 #[.int .u64 x,.int .u64 y] w fun e w'=>e=.returned (.tuple #[.int .u64 0,.int .u64 (p:Int)])∧w=w':=by
 have:=CS x y hx hy w;rw [hp,Nat.div_eq_of_lt h,Nat.mod_eq_of_lt h] at this;exact this
theorem Jj (w:World)(x y:Nat)(hx:x < 18446744073709551616)(hy:y < 18446744073709551616)(h:18446744073709551616≤x*y) :
  Calls Tryz.prog 135 #[.int .u64 x,.int .u64 y] w fun e w'=>(∃ u v:Int,1≤u∧e=.returned (.tuple #[.int .u64 u,.int .u64 v]))∧w=w':=by
 refine (CS x y hx hy w).mono ?_;rintro e w' ⟨rfl,rfl⟩;refine ⟨⟨_,_,?_,rfl⟩,rfl⟩;have:=Nat.div_le_div_right (c:=18446744073709551616) h;omega
theorem F7 (a b:Int):((a < 0↔b < 0)→a*b=((a.natAbs*b.natAbs:Nat):Int))∧(¬ (a < 0↔b < 0)→a*b = -((a.natAbs*b.natAbs:Nat):Int)):=by
 rcases Int.natAbs_eq a with ha | ha <;> rcases Int.natAbs_eq b with hb | hb
 all_goals
  rw [ha,hb];simp only [Int.natAbs_neg,Int.natAbs_natCast,Int.natCast_mul,Int.neg_mul,Int.mul_neg,Int.neg_neg];generalize a.natAbs=x;generalize b.natAbs=y
 ·
  exact ⟨fun _=>trivial,fun h=>by omega⟩
 ·
  refine ⟨fun h=>?_,fun _=>trivial⟩;obtain rfl:y=0:=by omega
  simp
 ·
  refine ⟨fun h=>?_,fun _=>trivial⟩;obtain rfl:x=0:=by omega
  simp
 ·
  refine ⟨fun _=>trivial,fun h=>?_⟩
  rcases Nat.eq_zero_or_pos x with rfl | hx
  ·
   simp
  ·
   rcases Nat.eq_zero_or_pos y with rfl | hy
   ·
    simp
   ·
    exact absurd (by omega) h
theorem jg {a:Int}(h:Fits a):a.natAbs < 18446744073709551616:=by unfold Fits at h;omega
theorem Vf (w:World)(a b:Int)(ha:Fits a)(hb:Fits b)(h:Fits (a*b)):Calls Tryz.prog 133 #[.int .i64 a,.int .i64 b] w fun e w'=>e=.returned (.tuple #[.int .i64 (a*b),.bool true])∧w=w':=by
 obtain ⟨hs1,hs2⟩:=F7 a b;have hfa:=Lib.hid ha;have Eo:=Lib.hid hb;obtain ⟨p,hp⟩:∃ p,a.natAbs*b.natAbs=p:=⟨_,rfl⟩
 rw [hp] at hs1 hs2;have Hp:=Lib.hid hp;clear hp ha hb;generalize a*b=q at h hs1 hs2
 by_cases h0:a < 0
 ·
  have t1:decide (a < 0)=true:=by simpa using h0
  by_cases h1:b < 0
  ·
   have t2:decide (b < 0)=true:=by simpa using h1
   have Hq:=Lib.hid (hs1 ⟨fun _=>h1,fun _=>h0⟩);have hpl:(p:Int)≤9223372036854775807:=by have:=Hq.out;unfold Fits at h;omega
   clear hs1 hs2 h
   go_enter Tryz.func133,Tryz.ntmps133
   go_wp2_with fail
   refine (fC _ a hfa.out).mono ?_;rintro e w1 ⟨rfl,rfl⟩
   go_wp2_with fail
   refine (fC _ b Eo.out).mono ?_;rintro e w1 ⟨rfl,rfl⟩
   go_wp2_with fail
   refine (ku _ _ _ p Hp.out (jg hfa.out) (jg Eo.out) (by omega)).mono ?_;rintro e w1 ⟨rfl,rfl⟩;go_wp2
   go_ret2
   exact ⟨by rw [Hq.out];rfl,rfl⟩
  ·
   have t2:decide (b < 0)=false:=by simpa using h1
   have Hq:=Lib.hid (hs2 (fun x=>h1 (x.1 h0)));have hpl:(p:Int)≤9223372036854775808:=by have:=Hq.out;unfold Fits at h;omega
   have Hr:Hid (wrap64 (IntKind.u64.wrap (-(p:Int)))=q):=Lib.hid (by rw [IntKind.wrap_u64,Hq.out];unfold wrap64;omega);clear hs1 hs2 h
   go_enter Tryz.func133,Tryz.ntmps133
   go_wp2_with fail
   refine (fC _ a hfa.out).mono ?_;rintro e w1 ⟨rfl,rfl⟩
   go_wp2_with fail
   refine (fC _ b Eo.out).mono ?_;rintro e w1 ⟨rfl,rfl⟩
   go_wp2_with fail
   refine (ku _ _ _ p Hp.out (jg hfa.out) (jg Eo.out) (by omega)).mono ?_;rintro e w1 ⟨rfl,rfl⟩;go_wp2
   go_ret2
   exact ⟨by rw [← Hr.out];rfl,rfl⟩
 ·
  have t1:decide (a < 0)=false:=by simpa using h0
  by_cases h1:b < 0
  ·
   have t2:decide (b < 0)=true:=by simpa using h1
   have Hq:=Lib.hid (hs2 (fun x=>h0 (x.2 h1)));have hpl:(p:Int)≤9223372036854775808:=by have:=Hq.out;unfold Fits at h;omega
   have Hr:Hid (wrap64 (IntKind.u64.wrap (-(p:Int)))=q):=Lib.hid (by rw [IntKind.wrap_u64,Hq.out];unfold wrap64;omega);clear hs1 hs2 h
   go_enter Tryz.func133,Tryz.ntmps133
   go_wp2_with fail
   refine (fC _ a hfa.out).mono ?_;rintro e w1 ⟨rfl,rfl⟩
   go_wp2_with fail
   refine (fC _ b Eo.out).mono ?_;rintro e w1 ⟨rfl,rfl⟩
   go_wp2_with fail
   refine (ku _ _ _ p Hp.out (jg hfa.out) (jg Eo.out) (by omega)).mono ?_;rintro e w1 ⟨rfl,rfl⟩;go_wp2
   go_ret2
   exact ⟨by rw [← Hr.out];rfl,rfl⟩
  ·
   have t2:decide (b < 0)=false:=by simpa using h1
   have Hq:=Lib.hid (hs1 ⟨fun x=>absurd x h0,fun x=>absurd x h1⟩);have hpl:(p:Int)≤9223372036854775807:=by have:=Hq.out;unfold Fits at h;omega
   clear hs1 hs2 h
   go_enter Tryz.func133,Tryz.ntmps133
   go_wp2_with fail
   refine (fC _ a hfa.out).mono ?_;rintro e w1 ⟨rfl,rfl⟩
   go_wp2_with fail
   refine (fC _ b Eo.out).mono ?_;rintro e w1 ⟨rfl,rfl⟩
   go_wp2_with fail
   refine (ku _ _ _ p Hp.out (jg hfa.out) (jg Eo.out) (by omega)).mono ?_;rintro e w1 ⟨rfl,rfl⟩;go_wp2
   go_ret2
   exact ⟨by rw [Hq.out];rfl,rfl⟩
theorem Y9 (w:World)(a b:Int)(ha:Fits a)(hb:Fits b)(h:¬ Fits (a*b)):Calls Tryz.prog 133 #[.int .i64 a,.int .i64 b] w fun e w'=>e=.returned (.tuple #[.int .i64 0,.bool false])∧w=w':=by
 obtain ⟨hs1,hs2⟩:=F7 a b;have hfa:=Lib.hid ha;have Eo:=Lib.hid hb
 by_cases hbig:18446744073709551616≤a.natAbs*b.natAbs
 ·
  have Hb:=Lib.hid hbig;clear hbig hs1 hs2 h ha hb
  go_enter Tryz.func133,Tryz.ntmps133
  go_wp2_with fail
  refine (fC _ a hfa.out).mono ?_;rintro e w1 ⟨rfl,rfl⟩
  go_wp2_with fail
  refine (fC _ b Eo.out).mono ?_;rintro e w1 ⟨rfl,rfl⟩
  go_wp2_with fail
  refine (Jj _ _ _ (jg hfa.out) (jg Eo.out) Hb.out).mono ?_;rintro e w1 ⟨⟨u,v,hu,rfl⟩,rfl⟩;have hu0:(u == 0)=false:=by simp;omega
  go_wp2
  go_ret2
  exact ⟨rfl,rfl⟩
 ·
  obtain ⟨p,hp⟩:∃ p,a.natAbs*b.natAbs=p:=⟨_,rfl⟩
  rw [hp] at hs1 hs2 hbig;have Hp:=Lib.hid hp;clear hp ha hb;generalize a*b=q at h hs1 hs2;unfold Fits at h
  by_cases h0:a < 0
  ·
   have t1:decide (a < 0)=true:=by simpa using h0
   by_cases h1:b < 0
   ·
    have t2:decide (b < 0)=true:=by simpa using h1
    have hpl:(9223372036854775807:Int) < p:=by have:=hs1 ⟨fun _=>h1,fun _=>h0⟩;omega
    clear hs1 hs2 h
    go_enter Tryz.func133,Tryz.ntmps133
    go_wp2_with fail
    refine (fC _ a hfa.out).mono ?_;rintro e w1 ⟨rfl,rfl⟩
    go_wp2_with fail
    refine (fC _ b Eo.out).mono ?_;rintro e w1 ⟨rfl,rfl⟩
    go_wp2_with fail
    refine (ku _ _ _ p Hp.out (jg hfa.out) (jg Eo.out) (by omega)).mono ?_;rintro e w1 ⟨rfl,rfl⟩;go_wp2
    go_ret2
    exact ⟨rfl,rfl⟩
   ·
    have t2:decide (b < 0)=false:=by simpa using h1
    have hpl:(9223372036854775808:Int) < p:=by have:=hs2 (fun x=>h1 (x.1 h0));omega
    clear hs1 hs2 h
    go_enter Tryz.func133,Tryz.ntmps133
    go_wp2_with fail
    refine (fC _ a hfa.out).mono ?_;rintro e w1 ⟨rfl,rfl⟩
    go_wp2_with fail
    refine (fC _ b Eo.out).mono ?_;rintro e w1 ⟨rfl,rfl⟩
    go_wp2_with fail
    refine (ku _ _ _ p Hp.out (jg hfa.out) (jg Eo.out) (by omega)).mono ?_;rintro e w1 ⟨rfl,rfl⟩;go_wp2
    go_ret2
    exact ⟨rfl,rfl⟩
  ·
   have t1:decide (a < 0)=false:=by simpa using h0
   by_cases h1:b < 0
   ·
    have t2:decide (b < 0)=true:=by simpa using h1
    have hpl:(9223372036854775808:Int) < p:=by have:=hs2 (fun x=>h0 (x.2 h1));omega
    clear hs1 hs2 h
    go_enter Tryz.func133,Tryz.ntmps133
    go_wp2_with fail
    refine (fC _ a hfa.out).mono ?_;rintro e w1 ⟨rfl,rfl⟩
    go_wp2_with fail
    refine (fC _ b Eo.out).mono ?_;rintro e w1 ⟨rfl,rfl⟩
    go_wp2_with fail
    refine (ku _ _ _ p Hp.out (jg hfa.out) (jg Eo.out) (by omega)).mono ?_;rintro e w1 ⟨rfl,rfl⟩;go_wp2
    go_ret2
    exact ⟨rfl,rfl⟩
   ·
    have t2:decide (b < 0)=false:=by simpa using h1
    have hpl:(9223372036854775807:Int) < p:=by have:=hs1 ⟨fun x=>absurd x h0,fun x=>absurd x h1⟩;omega
    clear hs1 hs2 h
    go_enter Tryz.func133,Tryz.ntmps133
    go_wp2_with fail
    refine (fC _ a hfa.out).mono ?_;rintro e w1 ⟨rfl,rfl⟩
    go_wp2_with fail
    refine (fC _ b Eo.out).mono ?_;rintro e w1 ⟨rfl,rfl⟩
    go_wp2_with fail
    refine (ku _ _ _ p Hp.out (jg hfa.out) (jg Eo.out) (by omega)).mono ?_;rintro e w1 ⟨rfl,rfl⟩;go_wp2
    go_ret2
    exact ⟨rfl,rfl⟩
def mE:Int→List Int→List Int→Option Int
 | acc,x :: xs,y :: ys=>if Fits (x*y)∧Fits (acc+x*y) then mE (acc+x*y) xs ys else none
 | acc,_,_=>some acc
def nT:Int→List Int→Option Int
 | acc,x :: xs=>if Fits (acc+x) then nT (acc+x) xs else none
 | acc,[]=>some acc
def F8 (r:Option Int):Value:=.tuple #[.int .i64 (r.getD 0),.bool r.isSome]
theorem CU {acc:Int}{xs ys:List Int}{k:Nat}(h1:k < xs.length)(h2:k < ys.length):mE acc (xs.drop k) (ys.drop k) =
  if Fits (xs[k]*ys[k])∧Fits (acc+xs[k]*ys[k]) then mE (acc+xs[k]*ys[k]) (xs.drop (k+1)) (ys.drop (k+1)) else none:=by
 rw [List.drop_eq_getElem_cons h1,List.drop_eq_getElem_cons h2,mE]
theorem CV {acc:Int}{xs:List Int}{k:Nat}(h1:k < xs.length):nT acc (xs.drop k)=if Fits (acc+xs[k]) then nT (acc+xs[k]) (xs.drop (k+1)) else none:=by
 rw [List.drop_eq_getElem_cons h1,nT]
theorem Vg {o:Col}{c:Nat}(w:World)(ao:Option Addr)(n cap:Nat)(l:List Int)(hl:Ints w o c (.slice ao n cap) l)(hn:l.length≤17600000000000)(hf:∀ x∈l,Fits x) :
  Calls Tryz.prog 143 #[.slice ao n cap] w fun e w'=>e=.returned (F8 (nT 0 l))∧w=w':=by
 obtain rfl:=hl.len;have HL:=Lib.hid hl;have HF:=Lib.hid hf;have hni:(l.length:Int)≤17600000000000:=by omega
 obtain ⟨R,hR⟩:∃ R,nT 0 l=R:=⟨_,rfl⟩
 rw [hR];have HR:=Lib.hid hR;clear hl hf hn hR
 go_enter Tryz.func143,Tryz.ntmps143
 go_wp2_with fail
 go_loop [4,10] (fun t i=>∃ (k:Nat) (acc:Int),k≤l.length∧i=.int .i64 k∧t=.int .i64 acc∧Fits acc∧nT acc (l.drop k)=R) (fun _ i=>l.length - (intOf i).toNat)
 case atStart=>exact ⟨0,0,Nat.zero_le _,rfl,rfl,by unfold Fits;omega,HR.out⟩
 case round =>
  obtain ⟨k,acc,hk,rfl,rfl,hacc,hres⟩:=hrel;have PW:=Lib.hid hacc;have PX:=Lib.hid hres;clear hacc hres
  by_cases hlt:k < l.length
  ·
   have dG:(k:Int) < l.length:=by omega
   obtain ⟨b,off,e1,-,-,-,-,hc⟩:=HL.out.at (by omega);subst e1;have hck:=hc k hlt;have hx:l[k]?.getD 0=l[k]:=by simp [hlt]
   rw [hx] at hck;have hstep:=CV (acc:=acc) hlt;rw [PX.out] at hstep;have hfx:Fits l[k]:=HF.out _ (List.getElem_mem hlt);have Vh:=Lib.hid hstep;have Za:=Lib.hid hfx;clear hc hx hstep hfx;generalize l[k]=x at hck Vh Za
   go_wp2_with fail
   by_cases hfit:Fits (acc+x)
   ·
    refine (zR _ acc x PW.out Za.out hfit).mono ?_;rintro e w1 ⟨rfl,rfl⟩;have Vi:=Lib.hid hfit;clear hfit;go_wp2
    go_round
    case rel=>exact ⟨k+1,acc+x,by omega,by go_num,rfl,Vi.out,by have:=Vh.out;rw [if_pos Vi.out] at this;exact this.symm⟩
    case measure=>simp [intOf];omega
   ·
    refine (En _ acc x PW.out Za.out hfit).mono ?_;rintro e w1 ⟨rfl,rfl⟩;have Vi:=Lib.hid hfit;clear hfit;go_wp2
    go_ret2
    refine ⟨?_,rfl⟩;have:=Vh.out;rw [if_neg Vi.out] at this;rw [this];rfl
  ·
   obtain rfl:k=l.length:=by omega
   go_wp2
   go_ret2
   refine ⟨?_,rfl⟩;have:=PX.out;rw [List.drop_length,nT] at this;rw [← this];rfl
theorem Vj {o o':Col}{c c':Nat}(w:World)(ao bo:Option Addr)(n m cap cap':Nat)(xs ys:List Int)(hx:Ints w o c (.slice ao n cap) xs)(hy:Ints w o' c' (.slice bo m cap') ys)(hxy:xs.length=ys.length)(hn:xs.length≤17600000000000)(hfx:∀ x∈xs,Fits x)(PY:∀ x∈ys,Fits x) :
  Calls Tryz.prog 132 #[.slice ao n cap,.slice bo m cap'] w fun e w'=>e=.returned (F8 (mE 0 xs ys))∧w=w':=by
 obtain rfl:=hx.len;have hm:=hy.len;rw [← hxy] at hm;subst hm;have HX:=Lib.hid hx;have HY:=Lib.hid hy;have KT:=Lib.hid hfx;have HFY:=Lib.hid PY;have HXY:=Lib.hid hxy;have hni:(xs.length:Int)≤17600000000000:=by omega
 obtain ⟨R,hR⟩:∃ R,mE 0 xs ys=R:=⟨_,rfl⟩
 rw [hR];have HR:=Lib.hid hR;clear hx hy hfx PY hn hR hxy
 go_enter Tryz.func132,Tryz.ntmps132
 go_wp2_with fail
 go_loop [6,18] (fun t i=>∃ (k:Nat) (acc:Int),k≤xs.length∧i=.int .i64 k∧t=.int .i64 acc∧Fits acc∧mE acc (xs.drop k) (ys.drop k)=R) (fun _ i=>xs.length - (intOf i).toNat)
 case atStart=>exact ⟨0,0,Nat.zero_le _,rfl,rfl,by unfold Fits;omega,HR.out⟩
 case round =>
  obtain ⟨k,acc,hk,rfl,rfl,hacc,hres⟩:=hrel;have PW:=Lib.hid hacc;have PX:=Lib.hid hres;clear hacc hres
  by_cases hlt:k < xs.length
  ·
   have dG:(k:Int) < xs.length:=by omega
   have hlty:k < ys.length:=by have:=HXY.out;omega
   obtain ⟨b,off,e1,-,-,-,-,hc⟩:=HX.out.at (by omega);obtain ⟨b',off',e2,-,-,-,-,hc'⟩:=HY.out.at (by omega);subst e1 e2;have hck:=hc k hlt;have aaF:=hc' k hlty;rw [show xs[k]?.getD 0=xs[k] by simp [hlt]] at hck;rw [show ys[k]?.getD 0=ys[k] by simp [hlty]] at aaF;have hstep:=CU (acc:=acc) hlt hlty;rw [PX.out] at hstep;have Vh:=Lib.hid hstep;have Za:=Lib.hid (KT.out _ (List.getElem_mem hlt));have Hfy:=Lib.hid (HFY.out _ (List.getElem_mem hlty));clear hc hc' hstep;generalize xs[k]=x at hck Vh Za;generalize ys[k]=y at aaF Vh Hfy;clear hlty
   go_wp2_with fail
   by_cases hf1:Fits (x*y)
   ·
    refine (Vf _ x y Za.out Hfy.out hf1).mono ?_;rintro e w1 ⟨rfl,rfl⟩;have Hf1:=Lib.hid hf1;clear hf1
    go_wp2_with fail
    by_cases hf2:Fits (acc+x*y)
    ·
     refine (zR _ acc (x*y) PW.out Hf1.out hf2).mono ?_;rintro e w1 ⟨rfl,rfl⟩;have KU:=Lib.hid hf2;clear hf2;go_wp2
     go_round
     case rel=>exact ⟨k+1,acc+x*y,by omega,by go_num,rfl,KU.out,by have:=Vh.out;rw [if_pos ⟨Hf1.out,KU.out⟩] at this;exact this.symm⟩
     case measure=>simp [intOf];omega
    ·
     refine (En _ acc (x*y) PW.out Hf1.out hf2).mono ?_;rintro e w1 ⟨rfl,rfl⟩;have KU:=Lib.hid hf2;clear hf2;go_wp2
     go_ret2
     refine ⟨?_,rfl⟩;have:=Vh.out;rw [if_neg (fun h=>KU.out h.2)] at this;rw [this];rfl
   ·
    refine (Y9 _ x y Za.out Hfy.out hf1).mono ?_;rintro e w1 ⟨rfl,rfl⟩;have Hf1:=Lib.hid hf1;clear hf1;go_wp2
    go_ret2
    refine ⟨?_,rfl⟩;have:=Vh.out;rw [if_neg (fun h=>Hf1.out h.1)] at this;rw [this];rfl
  ·
   obtain rfl:k=xs.length:=by omega
   go_wp2
   go_ret2
   refine ⟨?_,rfl⟩;have:=PX.out;rw [List.drop_length,mE] at this
   ·
    rw [← this];rfl
   ·
    intro x xs' y ys' h;cases h
def kS (t:Int):TypeId:=if t=1 then 129 else if t=2 then 132 else if t=3 then 134 else if t=4 then 136 else if t=5 then 138 else if t=6 then 140 else if t=7 then 142 else if t=8 then 147 else if t=9 then 149 else if t=10 then 152 else 154
def kP (t:Int):TypeId:=if t=1 then 127 else if t=2 then 130 else if t=3 then 133 else if t=4 then 135 else if t=5 then 137 else if t=6 then 139 else if t=7 then 141 else if t=8 then 143 else if t=9 then 148 else if t=10 then 150 else 153
def qj (t:Int)(vi vo:Value)(n x b:Int)(vt vs:Value):Array Value :=
 if t=1 then #[vi,vo,.int .i64 n,vt,vs] else if t=8 then #[vi,vo,.int .i64 n,.int .i64 x] else if t=10 then #[vi,vo,.int .i64 n,.int .i64 x,.int .i64 b] else #[vi,vo,.int .i64 n]
def eT (t:Int)(ps:List Int):List Int:=if t=1 then List.replicate (ps.length - 1) 0 else if t=8 then [0] else if t=10 then [hd ps] else []
def Made (w:World)(t:Int)(vi vo:Value)(ps:List Int)(e:Ending)(w':World):Prop :=
 ∃ K vt vs,e=.returned (.iface (kP t) (.pointer (some ⟨K,0,none⟩)))∧w'.heap[K]?=some (.cells (qj t vi vo 0 (hd (eT t ps)) (hd1 ps) vt vs) (kS t) (0,0))∧w.heap.size≤K∧Below w.heap.size w w' ∧
  (t=1→w'.ownsRow w.heap.size 3 1 vt ps.length (aV ps)∧w'.ownsRow w.heap.size 3 1 vs (eT 1 ps).length (aV (eT 1 ps))∧vt.ownBlock≠some K∧vs.ownBlock≠some K)
theorem jM {w w1:World}{t:Int}{vi vo:Value}{ps:List Int}{cs:Array Value}{e:Ending}{n:Nat}(ht:t≠1)(hcs:qj t vi vo 0 (hd (eT t ps)) (hd1 ps) undef undef=cs)(hn:n=w1.heap.size)(he:e=.returned (.iface (kP t) (.pointer (some ⟨n,0,none⟩))))(hb:Below w.heap.size w w1):Made w t vi vo ps e (w1.alloc (.cells cs (kS t))):=by
 subst hn hcs;exact ⟨w1.heap.size,undef,undef,he,heap_alloc_new _ _,hb.size,hb.alloc hb.size _,fun h=>absurd h ht⟩
theorem CW {w w1:World}{vi vo vt vs:Value}{ps:List Int}{e:Ending}{n:Nat}(hn:n=w1.heap.size)(he:e=.returned (.iface (kP 1) (.pointer (some ⟨n,0,none⟩))))(hb:Below w.heap.size w w1)
  (h1:w1.ownsRow w.heap.size 3 1 vt ps.length (aV ps)) (h2:w1.ownsRow w.heap.size 3 1 vs (eT 1 ps).length (aV (eT 1 ps))):Made w 1 vi vo ps e (w1.alloc (.cells #[vi,vo,.int .i64 0,vt,vs] 129)):=by
 subst hn;exact ⟨w1.heap.size,vt,vs,he,heap_alloc_new _ _,hb.size,hb.alloc hb.size _,fun _=>⟨h1.alloc _,h2.alloc _,fun e=>Nat.lt_irrefl _ (h1.lt _ e).2,fun e=>Nat.lt_irrefl _ (h2.lt _ e).2⟩⟩
theorem Zc (w:World)(vi vo v:Value)(ps:List Int):Calls Tryz.prog 52 #[.int .u8 2,.agg #[vi,vo,.int .i64 0],v] w (Made w 2 vi vo ps):=by
 go_enter Tryz.func52,Tryz.ntmps52
 go_wp2;go_ret
 exact jM (by decide) rfl (by simp) rfl ((Below.refl _ _).alloc (Nat.le_refl _) _)
theorem Zd (w:World)(vi vo v:Value)(ps:List Int):Calls Tryz.prog 52 #[.int .u8 3,.agg #[vi,vo,.int .i64 0],v] w (Made w 3 vi vo ps):=by
 go_enter Tryz.func52,Tryz.ntmps52
 go_wp2;go_ret
 exact jM (by decide) rfl (by simp) rfl ((Below.refl _ _).alloc (Nat.le_refl _) _)
theorem Ze (w:World)(vi vo v:Value)(ps:List Int):Calls Tryz.prog 52 #[.int .u8 4,.agg #[vi,vo,.int .i64 0],v] w (Made w 4 vi vo ps):=by
 go_enter Tryz.func52,Tryz.ntmps52
 go_wp2;go_ret
 exact jM (by decide) rfl (by simp) rfl ((Below.refl _ _).alloc (Nat.le_refl _) _)
theorem Zf (w:World)(vi vo v:Value)(ps:List Int):Calls Tryz.prog 52 #[.int .u8 5,.agg #[vi,vo,.int .i64 0],v] w (Made w 5 vi vo ps):=by
 go_enter Tryz.func52,Tryz.ntmps52
 go_wp2;go_ret
 exact jM (by decide) rfl (by simp) rfl ((Below.refl _ _).alloc (Nat.le_refl _) _)
theorem Zg (w:World)(vi vo v:Value)(ps:List Int):Calls Tryz.prog 52 #[.int .u8 6,.agg #[vi,vo,.int .i64 0],v] w (Made w 6 vi vo ps):=by
 go_enter Tryz.func52,Tryz.ntmps52
 go_wp2;go_ret
 exact jM (by decide) rfl (by simp) rfl ((Below.refl _ _).alloc (Nat.le_refl _) _)
theorem Zh (w:World)(vi vo v:Value)(ps:List Int):Calls Tryz.prog 52 #[.int .u8 7,.agg #[vi,vo,.int .i64 0],v] w (Made w 7 vi vo ps):=by
 go_enter Tryz.func52,Tryz.ntmps52
 go_wp2;go_ret
 exact jM (by decide) rfl (by simp) rfl ((Below.refl _ _).alloc (Nat.le_refl _) _)
theorem Zi (w:World)(vi vo v:Value)(ps:List Int):Calls Tryz.prog 52 #[.int .u8 8,.agg #[vi,vo,.int .i64 0],v] w (Made w 8 vi vo ps):=by
 go_enter Tryz.func52,Tryz.ntmps52
 go_wp2;go_ret
 exact jM (by decide) rfl (by simp) rfl ((Below.refl _ _).alloc (Nat.le_refl _) _)
theorem Zj (w:World)(vi vo v:Value)(ps:List Int):Calls Tryz.prog 52 #[.int .u8 9,.agg #[vi,vo,.int .i64 0],v] w (Made w 9 vi vo ps):=by
 go_enter Tryz.func52,Tryz.ntmps52
 go_wp2;go_ret
 exact jM (by decide) rfl (by simp) rfl ((Below.refl _ _).alloc (Nat.le_refl _) _)
theorem Vk (w:World)(vi vo v:Value)(ps:List Int):Calls Tryz.prog 52 #[.int .u8 11,.agg #[vi,vo,.int .i64 0],v] w (Made w 11 vi vo ps):=by
 go_enter Tryz.func52,Tryz.ntmps52
 go_wp2;go_ret
 exact jM (by decide) rfl (by simp) rfl ((Below.refl _ _).alloc (Nat.le_refl _) _)
theorem Vl {o:Col}{c:Nat}(w:World)(vi vo:Value)(ao:Option Addr)(cap:Nat)(x y:Int)(h:Ints w o c (.slice ao 2 cap) [x,y]):Calls Tryz.prog 52 #[.int .u8 10,.agg #[vi,vo,.int .i64 0],.slice ao 2 cap] w (Made w 10 vi vo [x,y]):=by
 obtain ⟨b,off,rfl,-,hcap,-,-,hc⟩:=h.at (by simp);have c0:=hc 0 (by simp);have c1:=hc 1 (by simp);simp at c0 c1;clear hc h;have a0:=ca (o:=.cells #[vi,vo,.int .i64 0] 112) c0;have a1:=ca (o:=.cells #[vi,vo,.int .i64 0] 112) c1;have hB:=heap_alloc_new w (.cells #[vi,vo,.int .i64 0] 112);have q0:=ah _ _ hB 0 vi rfl;have q1:=ah _ _ hB 1 vo rfl;have q2:=ah _ _ hB 2 (.int .i64 0) rfl
 go_enter Tryz.func52,Tryz.ntmps52
 go_wp2;refine ax (fun w'=>(w'.cell? ⟨w.heap.size,0,none⟩=some vi∧w'.cell? ⟨w.heap.size,1,none⟩=some vo∧w'.cell? ⟨w.heap.size,2,none⟩=some (.int .i64 0))∧w'.cell? ⟨b,off,none⟩=some (.int .i64 x)∧w'.cell? ⟨b,off+1,none⟩=some (.int .i64 y)) [0,1,2,3,4,5,6,7,8] [9,10,11] (by kernel_rfl) (by kernel_rfl) rfl (fun _ _ hx h=>⟨⟨hx.cell h.1.1,hx.cell h.1.2.1,hx.cell h.1.2.2⟩,hx.cell h.2.1,hx.cell h.2.2⟩) ⟨⟨q0,q1,q2⟩,a0,a1⟩ ?_;intro Q' hQ';simp only [pk];refine aA ?_;refine av ?_;go_wp2;go_ret
 exact jM (w1:=(w.alloc (.cells #[vi,vo,.int .i64 0] 112)).drew) (by decide) rfl (by simp) rfl (((Below.refl _ _).alloc (Nat.le_refl _) _).drew)
theorem Zk {o:Col}{c:Nat}(w:World)(vi vo:Value)(ao:Option Addr)(n cap:Nat)(l:List Int)(h:Ints w o c (.slice ao n cap) l)(hl:1≤l.length)(hl2:l.length≤16):Calls Tryz.prog 52 #[.int .u8 1,.agg #[vi,vo,.int .i64 0],.slice ao n cap] w (Made w 1 vi vo l):=by
 obtain rfl:=h.len;have HH:=Lib.hid h;obtain ⟨i0,hi,hz0,hz1,hz2⟩:=info_parts bJ;have hB:=heap_alloc_new w (.cells #[vi,vo,.int .i64 0] 112);have q0:=ah _ _ hB 0 vi rfl;have q1:=ah _ _ hB 1 vo rfl;have q2:=ah _ _ hB 2 (.int .i64 0) rfl;have XI:(1:Int)≤l.length:=by omega
 have adr:(l.length:Int)≤16:=by omega
 clear h
 go_enter Tryz.func52,Tryz.ntmps52
 go_wp2;have hb0:Below w.heap.size w (w.alloc (.cells #[vi,vo,.int .i64 0] 112)):=(Below.refl _ _).alloc (Nat.le_refl _) _;have hs0:(w.alloc (.cells #[vi,vo,.int .i64 0] 112)).heap.size=w.heap.size+1:=by simp
 have HH0:=Lib.hid (HH.out.has.below hb0);generalize w.alloc (.cells #[vi,vo,.int .i64 0] 112)=w0 at *;have hwrap:IntKind.i64.wrap ((l.length:Int) - 1)=(l.length:Int) - 1:=IntWalk.i64_in _ (by omega);refine eP (fun w'=>w'.cell? ⟨w.heap.size,0,none⟩=some vi∧w'.cell? ⟨w.heap.size,1,none⟩=some vo∧w'.cell? ⟨w.heap.size,2,none⟩=some (.int .i64 0)) [0,1,3,4,5] [2,6] 6 (by kernel_rfl) (by kernel_rfl) rfl ⟨q0,q1,q2⟩ ?_;intro Q' hQ';simp only [pk];refine aA ?_;refine av ?_;clear hwrap;have ads:Below w.heap.size w w0.drew:=hb0.drew;have HHd:Hid (Has w0.drew (.slice ao l.length cap) (aV l)):=Lib.hid (HH0.out.drewN 1);have hcast:((l.length - 1:Nat):Int)=(l.length:Int) - 1:=by omega
 refine iT (i:=2) (k:=6) (by kernel_rfl) ?_ ?_
 ·
  simp only [aX,List.flatMap_cons,List.flatMap_nil,List.drop_succ_cons,List.drop_zero,List.take_succ_cons,List.take_zero,List.append_nil]
  go_wp2_with fail
  refine (sG _ _ _ _ l HHd.out (by omega)).mono ?_;rintro e w1 ⟨g,cp,rfl,ho1,hb1⟩;have hb1:Below w0.heap.size w0 w1:=iY (n:=1) hb1;have ho1:w1.ownsRow w0.heap.size 3 1 (.slice (some ⟨g,0,none⟩) l.length cp) l.length (aV l):=ho1;go_wp2;refine ⟨fun _ hS=>⟨cell_later hb1 q0,cell_later hb1 q1,cell_later hb1 q2⟩,?_⟩;refine aG (i:=6) (by kernel_rfl) ?_;simp only [aX,List.flatMap_cons,List.flatMap_nil,List.drop_succ_cons,List.drop_zero,List.take_succ_cons,List.take_zero,List.append_nil];obtain ⟨w2,hr,hown,hg⟩:=run_make_full (P:=Tryz.prog) w1 w1.heap.size 42 3 i0 _ 1 Tryz.underlying42 hi hz0 hz1 .i64 .i64 (l.length - 1) (by rw [hz2];omega) (by unfold maxLen;omega) (Nat.le_refl _);rw [hcast] at hr;clear hcast;rw [lu] at hown;have hb2:Below w1.heap.size w1 w2:=((aI.refl (fun _=>False) w1).grown hg (fun k hk _=>by cases hk)).below (Nat.le_refl _) (fun _ _ h=>h);have s1:=hb1.size;have Au:Below w0.heap.size w0 w2:=hb1.trans (hb2.mono s1);go_wp2;refine ⟨fun _ hS=>⟨cell_later Au q0,cell_later Au q1,cell_later Au q2⟩,?_⟩;refine bg (ks:=[7,8,9,10]) (fun _ _ hx h=>⟨hx.cell h.1,hx.cell h.2.1,hx.cell h.2.2⟩) (by kernel_rfl) ?_;simp only [aX,List.flatMap_cons,List.flatMap_nil,List.drop_succ_cons,List.drop_zero,List.take_succ_cons,List.take_zero,List.cons_append,List.nil_append,List.append_nil];have hbw:Below w.heap.size w w2:=hb0.trans (Au.mono (by omega));have r1:=bG (fD ho1 (aI.of_below hb2 (fun _=>False)) (fun _ _ h=>h)) (base':=w.heap.size) (fun k hk=>by have:=(ho1.lt k hk).1;omega);have r2:=bG hown (base':=w.heap.size) (fun k hk=>by have:=(hown.lt k hk).1;omega);clear ho1 hown hg hb1 hb2 Au q0 q1 q2 hB hr;go_wp2;go_ret
  exact CW rfl rfl hbw r1 (by simpa [eT] using r2)
 ·
  simp only [aX,List.flatMap_cons,List.flatMap_nil,List.drop_succ_cons,List.drop_zero,List.take_succ_cons,List.take_zero,List.append_nil];obtain ⟨w1,hr,hown,hg⟩:=run_make_full (P:=Tryz.prog) w0.drew w0.heap.size 42 3 i0 _ 1 Tryz.underlying42 hi hz0 hz1 .i64 .i64 (l.length - 1) (by rw [hz2];omega) (by unfold maxLen;omega) (Nat.le_refl _);rw [hcast] at hr;clear hcast;rw [lu] at hown;have hb1:Below w0.heap.size w0 w1:=((aI.refl (fun _=>False) w0).drew.grown (b:=w0.drew) hg (fun k hk _=>by cases hk)).below (Nat.le_refl _) (fun _ _ h=>h);go_wp2;refine ⟨fun _ hS=>⟨cell_later hb1 q0,cell_later hb1 q1,cell_later hb1 q2⟩,?_⟩;refine aG (i:=2) (by kernel_rfl) ?_;simp only [aX,List.flatMap_cons,List.flatMap_nil,List.drop_succ_cons,List.drop_zero,List.take_succ_cons,List.take_zero,List.append_nil];clear hr
  go_wp2_with fail
  refine (sG _ _ _ _ l (HH0.out.below hb1) (by omega)).mono ?_;rintro e w2 ⟨g,cp,rfl,ho2,hb2⟩;have s1:=hb1.size;have Au:Below w0.heap.size w0 w2:=hb1.trans (hb2.mono s1);go_wp2;refine ⟨fun _ hS=>⟨cell_later Au q0,cell_later Au q1,cell_later Au q2⟩,?_⟩;refine bg (ks:=[7,8,9,10]) (fun _ _ hx h=>⟨hx.cell h.1,hx.cell h.2.1,hx.cell h.2.2⟩) (by kernel_rfl) ?_;simp only [aX,List.flatMap_cons,List.flatMap_nil,List.drop_succ_cons,List.drop_zero,List.take_succ_cons,List.take_zero,List.cons_append,List.nil_append,List.append_nil];have hbw:Below w.heap.size w w2:=hb0.trans (Au.mono (by omega));have r1:=bG ho2 (base':=w.heap.size) (fun k hk=>by have:=(ho2.lt k hk).1;omega);have r2:=bG (fD hown (aI.of_below hb2 (fun _=>False)) (fun _ _ h=>h)) (base':=w.heap.size) (fun k hk=>by have:=(hown.lt k hk).1;omega);clear ho2 hown hg hb1 hb2 Au q0 q1 q2 hB;go_wp2;go_ret
  exact CW rfl rfl hbw r1 (by rw [show w0.drew.heap.size=w.heap.size+1 from hs0] at r2;simpa [eT] using r2)
def kF (t:Int):Nat:=if t=1 then 131 else if t=2 then 138 else if t=3 then 139 else if t=4 then 140 else if t=5 then 141 else if t=6 then 142 else if t=7 then 144 else if t=8 then 147 else if t=9 then 148 else if t=10 then 149 else 150
theorem Jk {t:Int}(h:iI t)(K:Nat)(w:World):(method 314 (kP t) (.pointer (some ⟨K,0,none⟩)) "pianola/actors.count").run Tryz.prog w=.ok (127,.pointer (some ⟨K,0,none⟩)) w:=by
 rcases h with rfl | rfl | rfl | rfl | rfl | rfl | rfl | rfl | rfl | rfl | rfl <;> kernel_rfl
theorem Jl {t:Int}(h:iI t)(K:Nat)(w:World):(method 314 (kP t) (.pointer (some ⟨K,0,none⟩)) "pianola/actors.fired").run Tryz.prog w=.ok (128,.pointer (some ⟨K,0,none⟩)) w:=by
 rcases h with rfl | rfl | rfl | rfl | rfl | rfl | rfl | rfl | rfl | rfl | rfl <;> kernel_rfl
theorem Av {t:Int}(h:iI t)(K:Nat)(w:World):(method 314 (kP t) (.pointer (some ⟨K,0,none⟩)) "pianola/actors.rates").run Tryz.prog w=.ok (130,.pointer (some ⟨K,0,none⟩)) w:=by
 rcases h with rfl | rfl | rfl | rfl | rfl | rfl | rfl | rfl | rfl | rfl | rfl <;> kernel_rfl
theorem F9 {t:Int}(h:iI t)(K:Nat)(w:World):(method 314 (kP t) (.pointer (some ⟨K,0,none⟩)) "pianola/actors.reckon").run Tryz.prog w=.ok (kF t,.pointer (some ⟨K,0,none⟩)) w:=by
 rcases h with rfl | rfl | rfl | rfl | rfl | rfl | rfl | rfl | rfl | rfl | rfl <;> kernel_rfl
def wU (w:World)(K:Nat)(ks:TypeId)(cells:Array Value)(outs:List (List Int))(e:Ending)(w':World):Prop :=
 ∃ ov,e=.returned (.tuple #[ov,.bool true])∧aI (fun k=>k=K) w w'∧w'.heap[K]?=some (.cells cells ks (0,0))∧jw w' (canon w.heap.size K) 1 ov outs
def uw (w:World)(e:Ending)(w':World):Prop:=(∃ ov,e=.returned (.tuple #[ov,.bool false]))∧Below w.heap.size w w'
theorem oZ (w:World)(l:List Int)(hl:l.length≤1000000):(w.alloc (.cells (aV l).toArray 3)).ownsRow w.heap.size 3 1 (.slice (some ⟨w.heap.size,0,none⟩) l.length l.length) l.length (aV l) :=
 ⟨by simp,.inr ⟨w.heap.size,l.length,(aV l).toArray,rfl,Nat.le_refl _,heap_alloc_new w _,Nat.le_refl _,by unfold maxLen;omega,by simp,by simp [List.take_of_length_le]⟩⟩
theorem Ga {w w1:World}{K:Nat}{ks:TypeId}{cells:Array Value}{l:List Int}{e:Ending}(he:e=.returned (.tuple #[.slice (some ⟨w1.heap.size+1,0,none⟩) 1 1,.bool true]))(hl:l.length≤1000000)(hm:aI (fun k=>k=K) w w1)(hK:w1.heap[K]?=some (.cells cells ks (0,0)))(Um:K < w.heap.size) :
  wU w K ks cells [l] e ((w1.alloc (.cells (aV l).toArray 3)).alloc (.cells #[.slice (some ⟨w1.heap.size,0,none⟩) l.length l.length] 42)):=by
 have hs:=hm.size;have h1:=bG (oZ w1 l hl) (base':=w.heap.size) (fun k hk=>by have e:w1.heap.size=k:=Option.some.inj hk;omega);have h2:=vz (w1:=w1.alloc (.cells (aV l).toArray 3)) (N:=w.heap.size) (R:=K) h1 (by simp;omega) (fun e=>by have e:w1.heap.size=K:=Option.some.inj e;omega) (by simp;omega);simp only [World.size_alloc] at h2;exact ⟨_,he,(hm.alloc _).alloc _,aK (aK hK _) _,h2⟩
theorem qX {w w1:World}{K:Nat}{ks:TypeId}{cells:Array Value}{z z':Int}{n:Nat}{e:Ending}(he:e=.returned (.tuple #[.slice (some ⟨n+1,0,none⟩) 1 1,.bool true]))(hz:z'=z)(hn:n=w1.heap.size)(hm:aI (fun k=>k=K) w w1)(hK:w1.heap[K]?=some (.cells cells ks (0,0)))(Um:K < w.heap.size) :
  wU w K ks cells [[z]] e ((w1.alloc (.cells #[.int .i64 z'] 3)).alloc (.cells #[.slice (some ⟨n,0,none⟩) 1 1] 42)):=by
 subst hz hn;exact Ga (l:=[z']) he (by simp) hm hK Um
theorem wV {x y:Int}(hx:-9223372036854775808≤x∧x≤9223372036854775807)(h0:¬ y=0)(h1:¬ y = -1):wrap64 (x.tdiv y)=x.tdiv y:=by
 refine IntWalk.wrap64_in _ ?_
 by_cases h2:y=1
 ·
  subst h2;simpa using hx
 ·
  have h3:2≤y.natAbs:=by omega
  have h4:(x.tdiv y).natAbs=x.natAbs / y.natAbs:=Int.natAbs_tdiv x y;have h5:x.natAbs / y.natAbs≤x.natAbs / 2:=Nat.div_le_div_left h3 (by omega);omega
theorem Mf (w:World)(K:Nat)(bL:Value)(cells:Array Value)(l:List Int)(hp:0 < l.length)(hK:w.heap[K]?=some (.cells cells 134 (0,0)))(hins:LL w bL [l]) :
  Calls Tryz.prog 139 #[.pointer (some ⟨K,0,none⟩),bL] w (wU w K 134 cells [[l[0]?.getD 0]]):=by
 obtain ⟨Vm,Mg,rfl⟩:=hins.slice;obtain ⟨bi,oi,ie,hci,hrow⟩:=hins.at (by simp);subst ie;obtain ⟨a0,c0,hr0,hh0⟩:=hrow 0 (by simp);obtain ⟨b0,o0,e0,-,hc0,-,-,hcell⟩:=dn.at hh0 (by have:=hp;simp;omega);subst e0;have hx0:=hcell 0 (by have:=hp;simp;omega);rw [iy (by have:=hp;simp;omega)] at hx0;simp only [List.getElem?_cons_zero,Option.getD_some,Nat.add_zero,List.length_cons,List.length_nil,Nat.zero_add] at hr0 hx0 hc0 hci;clear hcell hrow hh0 hins;have hlp:(0:Int) < l.length:=by omega
 generalize l[0]?.getD 0=x at *
 go_enter Tryz.func139,Tryz.ntmps139
 go_wp2
 go_ret2
 exact Ga (l:=[x]) rfl (by simp) (aI.refl _ w) hK (block_lt hK)
theorem Mh (w:World)(K:Nat)(bL:Value)(cells:Array Value)(hK:w.heap[K]?=some (.cells cells 154 (0,0))) :
  Calls Tryz.prog 150 #[.pointer (some ⟨K,0,none⟩),bL] w (wU w K 154 cells []):=by
 go_enter Tryz.func150,Tryz.ntmps150
 go_wp2
 go_ret2
 exact ⟨_,rfl,aI.refl _ _,hK,jw.nil _ _ _⟩
theorem PZ (u:Nat)(x:Int)(hu:1≤u):(aV (List.replicate u 0)).set 0 (iv x)=aV (x :: List.replicate (u - 1) 0):=by
 obtain ⟨m,rfl⟩:∃ m,u=m+1:=⟨u - 1,by omega⟩
 rfl
theorem Vn (w:World)(K:Nat)(vi vo nv bL:Value)(x:Int)(u:Nat)(hu:1≤u)(hu2:u≤64)(hK:w.heap[K]?=some (.cells #[vi,vo,nv] 132 (0,0)))(Gb:Has w vo (aV [(u:Int)]))(hins:LL w bL [[x]]) :
  Calls Tryz.prog 138 #[.pointer (some ⟨K,0,none⟩),bL] w (wU w K 132 #[vi,vo,nv] [x :: List.replicate (u - 1) 0]):=by
 obtain ⟨Vm,Mg,rfl⟩:=hins.slice;obtain ⟨bi,oi,ie,hci,hrow⟩:=hins.at (by simp);subst ie;obtain ⟨a0,c0,hr0,hh0⟩:=hrow 0 (by simp);obtain ⟨b0,o0,e0,-,hc0,-,-,hcell⟩:=dn.at hh0 (by simp);subst e0;have hx0:=hcell 0 (by simp);simp at hr0 hx0 hc0 hci;clear hcell hrow hh0 hins;obtain ⟨oao,ocp,rfl⟩:=Gb.slice;obtain ⟨bo,oo,eo,-,hco,-,-,P6⟩:=dn.at Gb (by simp);subst eo;have hu0:=P6 0 (by simp);simp at hu0 hco;have hk1:=ah w K hK 1 _ rfl;obtain ⟨i0,hi,hz0,hz1,hz2⟩:=info_parts bJ;obtain ⟨w1,hr,hown,hg⟩:=run_make_full (P:=Tryz.prog) w w.heap.size 42 3 i0 _ 1 Tryz.underlying42 hi hz0 hz1 .i64 .i64 u (by rw [hz2];omega) (by unfold maxLen;omega) (Nat.le_refl _);have hb1:Below w.heap.size w w1:=((aI.refl (fun _=>False) w).grown hg (fun k hk _=>by cases hk)).below (Nat.le_refl _) (fun _ _ h=>h);rw [lu] at hown;have r1:=cell_later hb1 hr0;have x1:=cell_later hb1 hx0;have hK1:=aT hK (aI.of_below hb1 (fun _=>False)) (fun h=>h);obtain ⟨-,-,g',-,eg,hcg,hfg,-⟩:=bN hown (by simp;omega);cases eg
 have adt:=hcg 0 (iv 0) (by rw [aV,List.map_replicate,List.getElem?_replicate,if_pos (by omega)]);have adu:=hfg 0;obtain ⟨ho2,hg2⟩:=hown.stored 0 (iv x);rw [PZ u x hu] at ho2;have hm2:aI (fun k=>k=K) w (w1.setCell ⟨w.heap.size,0,none⟩ (iv x)):=((aI.of_below hb1 _).grown hg2 (fun k hk hlt=>by have e:w.heap.size=k:=Option.some.inj hk;omega));have Um:=block_lt hK;have hs1:=hb1.size;have hK2:(w1.setCell ⟨w.heap.size,0,none⟩ (iv x)).heap[K]?=_:=iB hK1 (by show K≠w.heap.size;omega) _;have hui:(1:Int)≤u:=by omega
 clear hcg hfg hown hg P6 Gb hg2 hb1
 go_enter Tryz.func138,Tryz.ntmps138
 go_wp2
 go_ret2
 have hl:(x :: List.replicate (u - 1) (0:Int)).length=u:=by simp;omega
 have h2:=vz (w1:=w1.setCell ⟨w.heap.size,0,none⟩ (iv x)) (N:=w.heap.size) (R:=K) (v:=.slice (some ⟨w.heap.size,0,none⟩) u u) (l:=x :: List.replicate (u - 1) 0) (by rw [hl];exact ho2) hm2.size (fun e=>by have e:w.heap.size=K:=Option.some.inj e;omega) (by have:=hm2.size;omega);exact ⟨.slice (some ⟨w1.heap.size,0,none⟩) 1 1,rfl,hm2.alloc _,aK hK2 _,by rw [dw] at h2;exact h2⟩
def jm (x y:Int):Option Int:=if y=0 then none else if y = -1 then (if Fits (0 - x) then some (0 - x) else none) else some (x.tdiv y)
theorem wW {w w1:World}{e:Ending}{ov:Value}(he:e=.returned (.tuple #[ov,.bool false]))(hb:Below w.heap.size w w1):uw w e w1:=⟨⟨ov,he⟩,hb⟩
theorem Mi (w:World)(K:Nat)(bL:Value)(cells:Array Value)(x y:Int)(hfx:Fits x)(PY:Fits y)(hK:w.heap[K]?=some (.cells cells 142 (0,0)))(hins:LL w bL [[x],[y]]) :
  Calls Tryz.prog 144 #[.pointer (some ⟨K,0,none⟩),bL] w fun e w'=>match jm x y with
   | some z=>wU w K 142 cells [[z]] e w'
   | none=>uw w e w':=by
 obtain ⟨Vm,Mg,rfl⟩:=hins.slice;obtain ⟨bi,oi,ie,hci,hrow⟩:=hins.at (by simp);subst ie;obtain ⟨a0,c0,hr0,hh0⟩:=hrow 0 (by simp);obtain ⟨b0,o0,e0,-,hc0,-,-,hcell⟩:=dn.at hh0 (by simp);subst e0;have hx0:=hcell 0 (by simp);obtain ⟨a1,c1,hr1,hh1⟩:=hrow 1 (by simp);obtain ⟨b1,o1,e1,-,hc1,-,-,hcell1⟩:=dn.at hh1 (by simp);subst e1;have hx1:=hcell1 0 (by simp);simp at hr0 hx0 hc0 hci hr1 hx1 hc1;clear hcell hrow hh0 hins hcell1 hh1;have HX:=Lib.hid hfx;have HY:=Lib.hid PY;have abX:(2:Int)≤Mg:=by omega
 by_cases h0:y=0
 ·
  subst h0;rw [show jm x 0=none from rfl];clear hfx PY
  go_enter Tryz.func144,Tryz.ntmps144
  go_wp2;go_quiet (fail);go_wp2
  go_ret2
  exact wW rfl (cO (Below.refl _ _))
 ·
  by_cases h1:y = -1
  ·
   subst h1
   by_cases hf:Fits (0 - x)
   ·
    rw [show jm x (-1)=some (0 - x) by unfold jm;rw [if_neg (by decide),if_pos rfl,if_pos hf]];have HF:=Lib.hid hf;clear hfx PY hf
    go_enter Tryz.func144,Tryz.ntmps144
    go_wp2;go_quiet (fail)
    go_wp2_with fail
    refine (Ve _ 0 x (by unfold Fits;omega) HX.out HF.out).mono ?_;rintro e w1 ⟨rfl,rfl⟩;go_wp2
    go_ret2
    exact qX rfl (by omega) rfl ((aI.refl _ w).drewN _) hK (block_lt hK)
   ·
    rw [show jm x (-1)=none by unfold jm;rw [if_neg (by decide),if_pos rfl,if_neg hf]];have HF:=Lib.hid hf;clear hfx PY hf
    go_enter Tryz.func144,Tryz.ntmps144
    go_wp2;go_quiet (fail)
    go_wp2_with fail
    refine (Y8 _ 0 x (by unfold Fits;omega) HX.out HF.out).mono ?_;rintro e w1 ⟨rfl,rfl⟩;go_wp2
    go_ret2
    exact wW rfl (((cO (Below.refl _ _)).alloc (Nat.le_refl _) _).alloc (by simp) _)
  ·
   rw [show jm x y=some (x.tdiv y) by unfold jm;rw [if_neg h0,if_neg h1]];have h0b:(y == 0)=false:=by simpa using h0
   have h1b:(y == -1)=false:=by simpa using h1
   unfold Fits at hfx PY
   go_enter Tryz.func144,Tryz.ntmps144
   go_wp2;go_quiet (fail);go_wp2
   go_ret2
   exact qX rfl (wV hfx h0 h1) rfl ((aI.refl _ w).drewN _) hK (block_lt hK)
theorem Aw {w w1:World}{K:Nat}{ks:TypeId}{cells:Array Value}(hm:aI (fun _=>False) w w1)(hK:w.heap[K]?=some (.cells cells ks (0,0)))(i:Nat)(u:Value) :
  aI (fun k=>k=K) w (w1.setCell ⟨K,i,none⟩ u)∧(w1.setCell ⟨K,i,none⟩ u).heap[K]?=some (.cells (cells.setIfInBounds i u) ks (0,0)) :=
 ⟨(hm.mono (G:=fun k=>k=K) (fun _ _ h=>h.elim)).setCell (F:=fun k=>k=K) (p:=⟨K,i,none⟩) (fun _=>rfl) u,block_setCell (aT hK hm (fun h=>h)) i u⟩
theorem Qa (w:World)(K:Nat)(vi vo nv bL:Value)(s x:Int)(hfs:Fits s)(hfx:Fits x)(hK:w.heap[K]?=some (.cells #[vi,vo,nv,.int .i64 s] 147 (0,0)))(hins:LL w bL [[x]]) :
  Calls Tryz.prog 147 #[.pointer (some ⟨K,0,none⟩),bL] w fun e w'=>if Fits (s+x) then wU w K 147 #[vi,vo,nv,.int .i64 (s+x)] [[s+x]] e w' else uw w e w':=by
 obtain ⟨Vm,Mg,rfl⟩:=hins.slice;obtain ⟨bi,oi,ie,hci,hrow⟩:=hins.at (by simp);subst ie;obtain ⟨a0,c0,hr0,hh0⟩:=hrow 0 (by simp);obtain ⟨b0,o0,e0,-,hc0,-,-,hcell⟩:=dn.at hh0 (by simp);subst e0;have hx0:=hcell 0 (by simp);simp at hr0 hx0 hc0 hci;clear hcell hrow hh0 hins;have HX:=Lib.hid hfx;have HS:=Lib.hid hfs;have k3:=ah w K hK 3 (.int .i64 s) rfl;have kf:=aj hK 3;clear hfx hfs
 by_cases hf:Fits (s+x)
 ·
  simp only [if_pos hf];have HF:=Lib.hid hf;clear hf
  go_enter Tryz.func147,Tryz.ntmps147
  go_wp2;go_quiet ((go_at_call 134;exact Calls.quiet_of_same ((zR _ s x HS.out HX.out HF.out).mono fun e w' ⟨h1,h2⟩=>⟨h1,h2.symm⟩)));go_wp2
  go_ret2
  obtain ⟨h1,h2⟩:=Aw (w1:=w.drewN nq) ((aI.refl _ w).drewN nq) hK 3 (.int .i64 (s+x));exact qX rfl rfl (by rw [dw];rfl) h1 h2 (block_lt hK)
 ·
  simp only [if_neg hf];have HF:=Lib.hid hf;clear hf
  go_enter Tryz.func147,Tryz.ntmps147
  go_wp2;go_quiet ((go_at_call 134;exact Calls.quiet_of_same ((En _ s x HS.out HX.out HF.out).mono fun e w' ⟨h1,h2⟩=>⟨h1,h2.symm⟩)));go_wp2
  go_ret2
  exact wW rfl (((cO (Below.refl _ _)).alloc (Nat.le_refl _) _).alloc (by simp) _)
theorem Mj (w:World)(K:Nat)(vi vo nv bL:Value)(s x:Int)(hfs:Fits s)(hfx:Fits x)(hK:w.heap[K]?=some (.cells #[vi,vo,nv,.int .i64 s,.int .i64 x] 152 (0,0))) :
  Calls Tryz.prog 149 #[.pointer (some ⟨K,0,none⟩),bL] w fun e w'=>if Fits (s+x) then wU w K 152 #[vi,vo,nv,.int .i64 (s+x),.int .i64 x] [[s]] e w' else uw w e w':=by
 have HX:=Lib.hid hfx;have HS:=Lib.hid hfs;have k3:=ah w K hK 3 (.int .i64 s) rfl;have k4:=ah w K hK 4 (.int .i64 x) rfl;have kf:=aj hK 3;clear hfx hfs
 by_cases hf:Fits (s+x)
 ·
  simp only [if_pos hf];have HF:=Lib.hid hf;clear hf
  go_enter Tryz.func149,Tryz.ntmps149
  go_wp2;go_quiet ((go_at_call 134;exact Calls.quiet_of_same ((zR _ s x HS.out HX.out HF.out).mono fun e w' ⟨h1,h2⟩=>⟨h1,h2.symm⟩)));go_wp2
  go_ret2
  obtain ⟨h1,h2⟩:=Aw (w1:=w.drewN nq) ((aI.refl _ w).drewN nq) hK 3 (.int .i64 (s+x));exact qX rfl rfl (by rw [dw];rfl) h1 h2 (block_lt hK)
 ·
  simp only [if_neg hf];have HF:=Lib.hid hf;clear hf
  go_enter Tryz.func149,Tryz.ntmps149
  go_wp2;go_quiet ((go_at_call 134;exact Calls.quiet_of_same ((En _ s x HS.out HX.out HF.out).mono fun e w' ⟨h1,h2⟩=>⟨h1,h2.symm⟩)));go_wp2
  go_ret2
  exact wW rfl (((cO (Below.refl _ _)).alloc (Nat.le_refl _) _).alloc (by simp) _)
theorem au (w:World)(x:Obj):Below w.heap.size w (w.alloc x):=(Below.refl _ _).alloc (Nat.le_refl _) _
theorem Kept.drewN {B:Nat}{o:Col}{w0 w:World}(h:Kept B o w0 w)(m:Nat):Kept B o w0 (w.drewN m):=h.turn (Turn.Ac o ⟨m,rfl⟩) (fun h=>h)
theorem dW {w w2:World}{N e sz:Nat}{tmp:Obj}{v:Value}{n:Nat}{xs:List Value}(hi:w.ownsRow N e sz v n xs)(hg:(w.alloc tmp).grownBy w2 v.ownBlock)(hb:N≤w.heap.size):Below N w w2 :=
 (((aI.refl (fun k=>v.ownBlock=some k) w).alloc tmp).grown hg (fun k hk _=>hk)).below hb fun k hk e=>by have:=(hi.lt k e).1;omega
theorem Has.drewN {w:World}{v:Value}{vs:List Value}(h:Has w v vs)(m:Nat):Has (w.drewN m) v vs:=dn.drewN h m
def og (v:Value)(w:World)(e:Ending)(w':World):Prop:=e=.returned v∧Below w.heap.size w w'
def vC (v:Value)(w:World)(e:Ending)(w':World):Prop:=e=.returned v∧w=w'
def vD (ins:List (List Int))(j:Nat):List Int:=ins.map fun l=>l[j]?.getD 0
def dz (ins:List (List Int))(m:Nat):List Int:=(List.range m).flatMap (vD ins)
theorem yC (ins:List (List Int))(m:Nat):dz ins (m+1)=dz ins m ++ vD ins m:=by simp [dz,List.range_succ]
theorem Gc (ins:List (List Int))(j i:Nat)(h:i < ins.length):vD (ins.take (i+1)) j=vD (ins.take i) j ++ [(ins[i]?.getD [])[j]?.getD 0]:=by
 rw [List.take_succ_eq_append_getElem h];unfold vD;rw [List.map_append]
 congr 1
 simp [h]
theorem uy (ins:List (List Int))(m:Nat):(dz ins m).length=m*ins.length:=by
 induction m with
 | zero=>simp [dz]
 | succ m ih=>rw [yC,List.length_append,ih];simp [vD,Nat.add_mul]
theorem Jm (w:World)(K:Nat)(vi vo nv bL:Value)(n m:Nat)(ins:List (List Int))(hn:n≤16)(hm:m≤64)(hn1:1≤n)(Qb:ins.length=n)(XJ:∀ l∈ins,l.length=m)(hK:w.heap[K]?=some (.cells #[vi,vo,nv] 136 (0,0)))
  (hvi:Has w vi (aV (List.replicate n (m:Int)))) (Gb:Has w vo (aV [(n:Int)*m])) (hins:LL w bL ins) :
  Calls Tryz.prog 140 #[.pointer (some ⟨K,0,none⟩),bL] w (wU w K 136 #[vi,vo,nv] [dz ins m]):=by
 obtain ⟨i0,hi,hz0,hz1,hz2⟩:=info_parts bJ;have hnm:n*m≤16*64:=Nat.mul_le_mul hn hm;obtain ⟨oao,ocp,rfl⟩:=Gb.slice;obtain ⟨bo,oo,eo,-,hco,-,-,P6⟩:=dn.at Gb (by simp);subst eo;have hu0:=P6 0 (by simp);obtain ⟨qao,qcp,rfl⟩:=hvi.slice;obtain ⟨bq,oq,eq,-,hcq,-,-,aaG⟩:=dn.at hvi (by simp;omega);subst eq;have hq0:=aaG 0 (by simp;omega);rw [iy (by simp;omega),List.getElem?_replicate,if_pos (by omega)] at hq0;simp at hu0 hco hq0 hcq;have hk0:=ah w K hK 0 _ rfl;have hk1:=ah w K hK 1 _ rfl;simp at hk0 hk1;have aaH:((n*m:Nat):Int)=(n:Int)*m:=by push_cast;rfl
 obtain ⟨w1,hr,hown,hg⟩:=run_make_own (P:=Tryz.prog) w w.heap.size 42 3 i0 _ 1 Tryz.underlying42 hi hz0 hz1 .i64 .i64 (n*m) (by rw [hz2];omega) (by unfold maxLen;omega) (Nat.le_refl _);rw [aaH] at hr;have hb1:Below w.heap.size w w1:=((aI.refl (fun _=>False) w).grown hg (fun k hk _=>by cases hk)).below (Nat.le_refl _) (fun _ _ h=>h);have hs1:=hb1.size;have q1:=cell_later hb1 hq0;have abY:=cell_later hb1 hk0;have HI:=Lib.hid hins;have HL:=Lib.hid Qb;have HM:=Lib.hid XJ;obtain ⟨Vm,Mg,rfl⟩:=hins.slice;have hni:(n:Int)≤16:=by omega
 have Qc:(m:Int)≤64:=by omega
 have abZ:(1:Int)≤n:=by omega
 have HK:=Lib.hid hK;have Um:=block_lt hK;rw [Qb];clear P6 aaG hvi Gb aaH hg hins Qb XJ hK
 go_enter Tryz.func140,Tryz.ntmps140
 go_wp2_with fail
 go_loopw [6,24] (fun v i wr=>∃ k:Nat,k≤m∧i=.int .i64 k∧wr.ownsRow w.heap.size 3 1 v (dz ins k).length (aV (dz ins k))∧Below w.heap.size w wr) (fun _ i _=>m - (intOf i).toNat)
 case atStart=>exact ⟨0,Nat.zero_le _,rfl,by simpa [dz] using hown,hb1⟩
 case round =>
  clear hown hb1 hs1 q1 abY hr;obtain ⟨k,hk,rfl,ho,hb⟩:=hrel
  by_cases hlt:k < m
  ·
   have dG:(k:Int) < m:=by omega
   go_wp2_with fail
   go_loopw [6,29] (fun v i wr=>∃ j:Nat,j≤n∧i=.int .i64 j∧wr.ownsRow w.heap.size 3 1 v (dz ins k ++ vD (ins.take j) k).length (aV (dz ins k ++ vD (ins.take j) k))∧Below w.heap.size w wr) (fun _ i _=>n - (intOf i).toNat)
   case atStart=>exact ⟨0,Nat.zero_le _,rfl,by simpa [vD] using ho,hb⟩
   case round =>
    clear ho hb;obtain ⟨j,hj,rfl,ho,hb⟩:=hrel;have hs:=hb.size
    by_cases hjn:j < n
    ·
     have Vo:(j:Int) < n:=by omega
     obtain ⟨bi,oi,ie,hci,hrow⟩:=HI.out.at (by have:=HL.out;omega);subst ie;obtain ⟨a0,c0,hr0,hh0⟩:=hrow j (by have:=HL.out;omega);have hlm:(ins[j]?.getD []).length=m:=by
      have hjl:j < ins.length:=by have:=HL.out;omega
      simp only [List.getElem?_eq_getElem hjl,Option.getD_some];exact HM.out _ (List.getElem_mem hjl)
     rw [hlm] at hr0 hh0;obtain ⟨b0,o0,e0,-,hc0,-,-,hcell⟩:=dn.at hh0 (by rw [aD,hlm];omega);subst e0;have hx0:=hcell k (by rw [aD,hlm];exact hlt);rw [iy (by rw [hlm];exact hlt)] at hx0;have hr1:=cell_later hb hr0;have hx1:=cell_later hb hx0;have hlen:(dz ins k ++ vD (ins.take j) k).length≤2000:=by
      rw [List.length_append,uy];have:=HL.out;have h1:k*ins.length≤64*16:=Nat.mul_le_mul (by omega) (by omega);simp [vD];omega
     have HS:=Lib.hid (Gc ins k j (by have:=HL.out;omega));generalize (ins[j]?.getD [])[k]?.getD 0=x at hx1 HS;obtain ⟨sv,cv,rfl⟩:=aB ho;have Zl:(n:Int)≤Mg:=by have:=HL.out;omega
     have adv:(m:Int)≤c0:=by omega
     clear hcell hrow hh0 hr0 hx0 hlm;generalize hacc:dz ins k ++ vD (ins.take j) k=acc at ho hlen;have HA:=Lib.hid hacc;have Hlen:=Lib.hid hlen;clear hacc hlen
     go_wp2_with (at_builtin;refine aM ?_)
     refine bR ?_;refine aR rfl _ _ 42 rfl w.heap.size 3 i0 _ 1 8 Tryz.underlying42 hi hz0 hz1 hz2 rfl (.slice sv acc.length cv) acc.length _ rfl (ho.alloc (.cells #[.int .i64 x] 3)) (some ⟨wr.heap.size,0,none⟩) 1 1 [.int .i64 x] rfl rfl (fun h=>by cases h) (bA wr [.int .i64 x] 3) (by simp [Value.oneCell']) (by have:=Hlen.out;unfold maxLen;omega) (aZ (by have:=Hlen.out;omega)) (gX hs _) ?_;intro v5 w5 k1 k20 _ _;have k2:(wr.alloc (.cells #[.int .i64 x] 3)).grownBy w5 (Value.slice sv acc.length cv).ownBlock:=k20;have hb5:=hb.trans (dW ho k2 hs);have k3:w5.ownsRow w.heap.size 3 1 v5 (dz ins k ++ vD (ins.take (j+1)) k).length (aV (dz ins k ++ vD (ins.take (j+1)) k)):=by
      rw [HS.out,← List.append_assoc,HA.out];simpa using k1
     clear k1 k20 k2 ho hb;go_wp2;go_roundw
     case rel=>exact ⟨j+1,by omega,by go_num,k3,hb5⟩
     case measure=>simp [intOf];omega
    ·
     obtain rfl:j=n:=by omega
     rw [List.take_of_length_le (by have:=HL.out;omega),← yC] at ho;go_wp2;go_roundw
     case rel=>exact ⟨k+1,by omega,by go_num,ho,hb⟩
     case measure=>simp [intOf];omega
  ·
   obtain rfl:k=m:=by omega
   obtain ⟨sv,cv,rfl⟩:=aB ho;go_wp2
   go_ret2
   have hs:=hb.size;have h2:=vz (R:=K) ho hs (fun e=>by have:=(ho.lt K e).1;omega) (by omega);exact ⟨_,rfl,(aI.of_below hb _).alloc _,aK (aT HK.out (aI.of_below hb (fun _=>False)) (fun h=>h)) _,h2⟩
def firsts (ins:List (List Int)):List Int:=ins.map fun l=>l[0]?.getD 0
theorem Gd (ins:List (List Int))(i:Nat)(h:i < ins.length):firsts (ins.take (i+1))=firsts (ins.take i) ++ [(ins[i]?.getD [])[0]?.getD 0]:=Gc ins 0 i h
def Vp (w:World)(K:Nat)(ks:TypeId)(r:Option (Array Value × List (List Int)))(e:Ending)(w':World):Prop :=
 match r with
 | some (cells,outs)=>wU w K ks cells outs e w'
 | none=>uw w e w'
theorem Qd (w:World)(K:Nat)(bL:Value)(cells:Array Value)(ins:List (List Int))(hn:ins.length≤1000)(hp:∀ l∈ins,0 < l.length)(hf:∀ x∈firsts ins,Fits x)(hK:w.heap[K]?=some (.cells cells 140 (0,0)))(hins:LL w bL ins) :
  Calls Tryz.prog 142 #[.pointer (some ⟨K,0,none⟩),bL] w (Vp w K 140 ((nT 0 (firsts ins)).map fun y=>(cells,[[y]]))):=by
 obtain ⟨i0,hi,hz0,hz1,hz2⟩:=info_parts bJ;have HI:=Lib.hid hins;have HP:=Lib.hid hp;have HF:=Lib.hid hf;have HN:=Lib.hid hn;have hni:(ins.length:Int)≤1000:=by omega
 obtain ⟨Vm,Mg,rfl⟩:=hins.slice;have HK:=Lib.hid hK;have Um:=block_lt hK;clear hins hp hf hn hK
 go_enter Tryz.func142,Tryz.ntmps142
 go_wp2_with fail
 go_loopw [6,13] (fun v i wr=>∃ j:Nat,j≤ins.length∧i=.int .i64 j∧wr.ownsRow w.heap.size 3 1 v (firsts (ins.take j)).length (aV (firsts (ins.take j)))∧Below w.heap.size w wr) (fun _ i _=>ins.length - (intOf i).toNat)
 case atStart=>exact ⟨0,Nat.zero_le _,rfl,by simpa [firsts] using World.ownsRow_nil w w.heap.size 3 1,Below.refl _ _⟩
 case round =>
  obtain ⟨j,hj,rfl,ho,hb⟩:=hrel;have hs:=hb.size;obtain ⟨sv,cv,rfl⟩:=aB ho
  by_cases hjn:j < ins.length
  ·
   have Vo:(j:Int) < ins.length:=by omega
   obtain ⟨bi,oi,ie,hci,hrow⟩:=HI.out.at (by omega);subst ie;obtain ⟨a0,c0,hr0,hh0⟩:=hrow j hjn;have hlm:0 < (ins[j]?.getD []).length:=by
    simp only [List.getElem?_eq_getElem hjn,Option.getD_some];exact HP.out _ (List.getElem_mem hjn)
   obtain ⟨b0,o0,e0,-,hc0,-,-,hcell⟩:=dn.at hh0 (by rw [aD];exact hlm);subst e0;have hx0:=hcell 0 (by rw [aD];exact hlm);rw [iy hlm,Nat.add_zero] at hx0;have hr1:=cell_later hb hr0;have hx1:=cell_later hb hx0;have HS:=Lib.hid (Gd ins j hjn);have hlen:(firsts (ins.take j)).length≤1000:=by simp [firsts];have:=HN.out;omega
   have ab0:(0:Int) < (ins[j]?.getD []).length:=by omega
   have Zl:(ins.length:Int)≤Mg:=by omega
   generalize (ins[j]?.getD [])[0]?.getD 0=x at hx1 HS;generalize (ins[j]?.getD []).length=lm at hr1 hlm ab0 hc0;generalize hacc:firsts (ins.take j)=acc at ho hlen;have HA:=Lib.hid hacc;have Hlen:=Lib.hid hlen;clear hcell hrow hh0 hr0 hx0 hacc hlen
   go_wp2_with (at_builtin;refine aM ?_)
   refine bR ?_;refine aR rfl _ _ 42 rfl w.heap.size 3 i0 _ 1 8 Tryz.underlying42 hi hz0 hz1 hz2 rfl (.slice sv acc.length cv) acc.length _ rfl (ho.alloc (.cells #[.int .i64 x] 3)) (some ⟨wr.heap.size,0,none⟩) 1 1 [.int .i64 x] rfl rfl (fun h=>by cases h) (bA wr [.int .i64 x] 3) (by simp [Value.oneCell']) (by have:=Hlen.out;unfold maxLen;omega) (aZ (by have:=Hlen.out;omega)) (gX hs _) ?_;intro v5 w5 k1 k20 _ _;have k2:(wr.alloc (.cells #[.int .i64 x] 3)).grownBy w5 (Value.slice sv acc.length cv).ownBlock:=k20;have hb5:=hb.trans (dW ho k2 hs);have k3:w5.ownsRow w.heap.size 3 1 v5 (firsts (ins.take (j+1))).length (aV (firsts (ins.take (j+1)))):=by
    rw [HS.out,HA.out];simpa using k1
   clear k1 k20 k2 ho hb;go_wp2;go_roundw
   case rel=>exact ⟨j+1,by omega,by go_num,k3,hb5⟩
   case measure=>simp [intOf];omega
  ·
   obtain rfl:j=ins.length:=by omega
   rw [List.take_length] at ho;have hkb:=aT HK.out (aI.of_below hb (fun _=>False)) (fun h=>h);have Hints:=(Own.made (fun _=>0) 0 ho).vals.has;have hfl:(firsts ins).length≤1000:=by simp [firsts];exact HN.out
   obtain ⟨R,hR⟩:∃ R,nT 0 (firsts ins)=R:=⟨_,rfl⟩
   go_wp2_with fail
   have Qe:=ho.1;refine (Vg (l:=firsts ins) _ _ _ _ (by simpa using Hints) (by omega) HF.out).mono ?_;rintro e w1 ⟨rfl,rfl⟩;rw [hR];unfold F8;have HR:=Lib.hid hR;clear hR Hints ho hfl Qe;cases R with
   | none =>
    go_wp2
    go_ret2
    rw [HR.out];exact wW rfl ((hb.alloc hs _).alloc (by simp;omega) _)
   | some y =>
    go_wp2
    go_ret2
    rw [HR.out];exact qX rfl rfl rfl (aI.of_below hb _) hkb Um
theorem wX (n:Nat):(madeCells (Value.cells (.slice none 0 0)) (n*1)).toList=List.replicate n (.slice none 0 0):=by
 rw [Nat.mul_one];simp [madeCells,Value.cells,Nat.mod_one,List.map_const']
theorem CX {w1:World}{N K g n:Nat}(hown:w1.ownsRow N 42 1 (.slice (some ⟨g,0,none⟩) n n) n (List.replicate n (.slice none 0 0)))(hK:K < N):jw w1 (canon N K) 1 (.slice (some ⟨g,0,none⟩) n n) (List.replicate n []):=by
 have hrow:∀ k,k < n→(List.replicate n (Value.slice none 0 0))[k]?.getD undef=.slice none 0 0:=fun k hk=>by rw [List.getElem?_replicate,if_pos hk];rfl
 refine ⟨List.replicate n (.slice none 0 0),by simp,⟨by rw [List.length_replicate];exact bG hown (fun _ _=>Nat.zero_le _),fun k hk=>?_⟩,fun k hk=>?_,fun i j B hij hj hB=>?_,fun i B hi hB=>?_⟩
 ·
  have:=(hown.lt k hk).1;exact oW this (by omega)
 ·
  rw [List.length_replicate] at hk;rw [hrow k hk,List.getElem?_replicate,if_pos hk];exact Own.nil _ _ _ _ _
 ·
  rw [List.length_replicate] at hj;rw [hrow i (by omega)] at hB;simp [Value.ownBlock] at hB
 ·
  rw [List.length_replicate] at hi;rw [hrow i hi] at hB;simp [Value.ownBlock] at hB
theorem Vq {α:Type}(n k:Nat)(x y:α)(h:k < n):(List.replicate k x ++ List.replicate (n - k) y).set k x=List.replicate (k+1) x ++ List.replicate (n - (k+1)) y:=by
 rw [List.set_append_right _ _ (by simp),List.replicate_succ',List.append_assoc]
 congr 1
 simp only [List.length_replicate,Nat.sub_self];obtain ⟨m,hm⟩:∃ m,n - k=m+1:=⟨n - k - 1,by omega⟩
 rw [hm,List.replicate_succ,show n - (k+1)=m by omega];rfl
theorem Mk (w:World)(K:Nat)(vi vo nv bL:Value)(x:Int)(n:Nat)(lo:List Int)(hlo:lo.length=n)(hn:n≤1000)(hK:w.heap[K]?=some (.cells #[vi,vo,nv] 149 (0,0)))(Gb:Has w vo (aV lo))(hins:LL w bL [[x]]) :
  Calls Tryz.prog 148 #[.pointer (some ⟨K,0,none⟩),bL] w (wU w K 149 #[vi,vo,nv] (List.replicate n [x])):=by
 obtain ⟨Vm,Mg,rfl⟩:=hins.slice;obtain ⟨bi,oi,ie,hci,hrow⟩:=hins.at (by simp);subst ie;obtain ⟨a0,c0,hr0,hh0⟩:=hrow 0 (by simp);obtain ⟨b0,o0,e0,-,hc0,-,-,hcell⟩:=dn.at hh0 (by simp);subst e0;have hx0:=hcell 0 (by simp);simp at hr0 hx0 hc0 hci;clear hcell hrow hh0 hins;obtain ⟨oao,ocp,rfl⟩:=Gb.slice;rw [aD,hlo] at hK Gb ⊢;clear Gb hlo;have hk1:=ah w K hK 1 _ rfl;simp at hk1;obtain ⟨i0,hi,hz0,hz1,hz2⟩:=info_parts je;obtain ⟨w1,hr,hown,hg⟩:=run_make_full (P:=Tryz.prog) w w.heap.size 63 42 i0 _ 1 Tryz.underlying63 hi hz0 hz1 .i64 .i64 n (by rw [hz2];omega) (by unfold maxLen;omega) (Nat.le_refl _);have hb1:Below w.heap.size w w1:=((aI.refl (fun _=>False) w).grown hg (fun k hk _=>by cases hk)).below (Nat.le_refl _) (fun _ _ h=>h);rw [wX] at hown;have hO:=CX (K:=K) hown (block_lt hK);have hs1:=hb1.size;have hni:(n:Int)≤1000:=by omega
 have HK:=Lib.hid hK;have Um:=block_lt hK;clear hown hg hK
 go_enter Tryz.func148,Tryz.ntmps148
 go_wp2_with fail
 clear hr
 go_loopw [17] (fun i wr=>∃ k:Nat,k≤n∧i=.int .i64 k∧jw wr (canon w.heap.size K) 1 (.slice (some ⟨w.heap.size,0,none⟩) n n) (List.replicate k [x] ++ List.replicate (n - k) [])∧Below w.heap.size w wr) (fun i _=>n - (intOf i).toNat)
 case atStart=>exact ⟨0,Nat.zero_le _,rfl,by simpa using hO,hb1⟩
 case round =>
  clear hO hb1 hs1;obtain ⟨k,hk,rfl,hO,hb⟩:=hrel
  by_cases hlt:k < n
  ·
   have dG:(k:Int) < n:=by omega
   obtain ⟨vs,h1,h2,h3,h4,h5⟩:=hO;have hvl:vs.length=n:=by rw [h1];simp;omega
   obtain ⟨-,-,g',-,eg,hcg,hfg,hgw⟩:=bN h2.1 (by omega);cases eg
   have ab1:=ca (o:=.cells #[.int .i64 x] 3) (hcg k vs[k] (by simp [hvl,hlt]));have adw:(wr.alloc (.cells #[.int .i64 x] 3)).frozen? ⟨w.heap.size,k,none⟩=false:=by
    have:=hfg k;rw [← World.frozen?_of_block (w:=wr) (w':=wr.alloc (.cells #[.int .i64 x] 3)) (a:=⟨w.heap.size,k,none⟩) (Below.heap_alloc wr _ _ hgw)] at this;exact this
   have hr1:=cell_later hb hr0;have hx1:=cell_later hb hx0;have hs:=hb.size;have hwn:wr.heap.size≠K:=by omega
   have hO2:=jw.set (v':=.slice (some ⟨wr.heap.size,0,none⟩) 1 1) (l':=[x]) (w1:=wr.alloc (.cells #[.int .i64 x] 3)) (F:=fun _=>False) (i:=k) h1 h2 h3 h4 (fun i B hi hB e=>h5 i B hi hB (by rw [e];rfl)) (by simp;omega) ((aI.refl _ wr).alloc _) (fun _ _ h=>h.elim)
    ⟨bG (oZ wr [x] (by simp)) (fun _ _=>Nat.zero_le _),fun j hj=>by obtain rfl:=Option.some.inj hj;exact oW hs hwn⟩ (.inr fun j hj=>by obtain rfl:=Option.some.inj hj;exact Nat.le_refl _)
   rw [Vq n k [x] [] hlt] at hO2;have hb2:Below w.heap.size w ((wr.alloc (.cells #[.int .i64 x] 3)).setCell ⟨w.heap.size,k,none⟩ (.slice (some ⟨wr.heap.size,0,none⟩) 1 1)):=(hb.alloc hs _).setCell (Nat.le_refl _) _;rw [World.setCell_alloc_past _ _ _ _ hgw] at hO2 hb2;generalize vs[k]=vk at ab1;clear h1 h2 h3 h4 h5 hcg hfg hb hvl;go_wp2;go_roundw
   case rel=>exact ⟨k+1,by omega,by go_num,hO2,hb2⟩
   case measure=>simp [intOf];omega
  ·
   obtain rfl:k=n:=by omega
   go_wp2
   go_ret2
   rw [Nat.sub_self,List.replicate_zero,List.append_nil] at hO;exact ⟨_,rfl,aI.of_below hb _,aT HK.out (aI.of_below hb (fun _=>False)) (fun h=>h),hO⟩
def iJ (n:Nat)(l:List Int)(k:Nat):List (List Int):=(List.range n).map fun i=>((List.range k).filter (fun q=>q % n == i)).map fun q=>l[q]?.getD 0
def fF (n m:Nat)(l:List Int):List (List Int):=(List.range n).map fun i=>(List.range m).map fun j=>l[j*n+i]?.getD 0
theorem sH (n k:Nat)(l:List Int):(iJ n l k).length=n:=by simp [iJ]
theorem Jo (n:Nat)(l:List Int):iJ n l 0=List.replicate n []:=by simp [iJ,List.map_const']
theorem CY (n k i:Nat)(l:List Int)(hi:i < n):(iJ n l k)[i]?.getD []=((List.range k).filter (fun q=>q % n == i)).map fun q=>l[q]?.getD 0:=by simp [iJ,hi]
theorem Ci (n k i:Nat)(l:List Int)(hi:i < n):((iJ n l k)[i]?.getD []).length≤k:=by
 rw [CY n k i l hi,List.length_map];have:=List.length_filter_le (fun q=>q % n == i) (List.range k)
 simpa using this
theorem Jp (n k:Nat)(l:List Int)(hn:0 < n):iJ n l (k+1)=(iJ n l k).set (k % n) ((iJ n l k)[k % n]?.getD [] ++ [l[k]?.getD 0]):=by
 have hkn:k % n < n:=Nat.mod_lt _ hn;refine List.ext_getElem (by simp [iJ]) fun i h1 h2=>?_
 have hi:i < n:=by simpa [iJ] using h1
 rw [List.getElem_set];have e1:(iJ n l (k+1))[i]=((List.range (k+1)).filter (fun q=>q % n == i)).map fun q=>l[q]?.getD 0:=by simp [iJ]
 rw [e1,List.range_succ,List.filter_append,List.map_append]
 split
 ·
  rename_i he
  subst he;rw [CY n k _ l hi];simp
 ·
  rename_i he
  have e2:(iJ n l k)[i]'(by simp [iJ,hi])=((List.range k).filter (fun q=>q % n == i)).map fun q=>l[q]?.getD 0:=by simp [iJ]
  rw [e2];simp [he]
theorem Jq (n m i:Nat)(hi:i < n):(List.range (n*m)).filter (fun q=>q % n == i)=(List.range m).map fun j=>j*n+i:=by
 induction m with
 | zero=>simp
 | succ m ih =>
  have e:(List.range n).filter (fun q=>(n*m+q) % n == i)=[i]:=by
   have h0:(List.range n).filter (fun q=>(n*m+q) % n == i)=(List.range n).filter (fun q=>q == i):=by
    refine List.filter_congr fun q hq=>?_
    have hq:=List.mem_range.1 hq;rw [Nat.mul_add_mod,Nat.mod_eq_of_lt hq]
   rw [h0];obtain ⟨r,rfl⟩:∃ r,n=i+(1+r):=⟨n - i - 1,by omega⟩
   rw [List.range_add,List.filter_append,List.filter_eq_nil_iff.2 (fun q hq=>by have:=List.mem_range.1 hq;simp;omega),List.range_add];simp only [List.map_append,List.filter_append,List.nil_append];have:(List.map (fun x=>i+x) (List.map (fun x=>1+x) (List.range r))).filter (fun q=>q == i)=[]:=List.filter_eq_nil_iff.2 fun q hq=>by
    simp at hq;obtain ⟨a,_,rfl⟩:=hq;simp
   rw [this];simp
  rw [Nat.mul_succ,List.range_add,List.filter_append,ih,List.filter_map,List.range_succ,List.map_append]
  congr 1
  show List.map _ ((List.range n).filter (fun q=>(n*m+q) % n == i))=_
  rw [e];simp [Nat.mul_comm]
theorem Ml (n m:Nat)(l:List Int):iJ n l (n*m)=fF n m l:=by
 unfold iJ fF;refine List.map_congr_left fun i hi=>?_
 rw [Jq n m i (List.mem_range.1 hi),List.map_map];rfl
theorem Qf (w:World)(K:Nat)(vi vo nv bL:Value)(n m:Nat)(l lo:List Int)(hlo:lo.length=n)(hn:1≤n)(hn2:n≤16)(hm:m≤64)(hl:l.length=n*m)(hK:w.heap[K]?=some (.cells #[vi,vo,nv] 138 (0,0)))(Gb:Has w vo (aV lo))(hins:LL w bL [l]) :
  Calls Tryz.prog 141 #[.pointer (some ⟨K,0,none⟩),bL] w (wU w K 138 #[vi,vo,nv] (fF n m l)):=by
 obtain ⟨j0,ji,Un,jz1,Uo⟩:=info_parts bJ;have hnm:n*m≤16*64:=Nat.mul_le_mul hn2 hm;obtain ⟨Vm,Mg,rfl⟩:=hins.slice;obtain ⟨bi,oi,ie,hci,hrow⟩:=hins.at (by simp);subst ie;obtain ⟨a0,c0,hr0,hh0⟩:=hrow 0 (by simp);simp at hr0 hci;simp only [List.getElem?_cons_zero,Option.getD_some] at hh0;have HH:=Lib.hid hh0;clear hrow hh0 hins;obtain ⟨oao,ocp,rfl⟩:=Gb.slice;rw [aD,hlo] at hK Gb ⊢;clear Gb hlo;have hk1:=ah w K hK 1 _ rfl;simp at hk1;obtain ⟨i0,hi,hz0,hz1,hz2⟩:=info_parts je;obtain ⟨w1,hr,hown,hg⟩:=run_make_full (P:=Tryz.prog) w w.heap.size 63 42 i0 _ 1 Tryz.underlying63 hi hz0 hz1 .i64 .i64 n (by rw [hz2];omega) (by unfold maxLen;omega) (Nat.le_refl _);have hb1:Below w.heap.size w w1:=((aI.refl (fun _=>False) w).grown hg (fun k hk _=>by cases hk)).below (Nat.le_refl _) (fun _ _ h=>h);rw [wX] at hown;have hO:=CX (K:=K) hown (block_lt hK);rw [← Jo n l] at hO;have hr1:=cell_later hb1 hr0;have hs1:=hb1.size;have hni:(n:Int)≤16:=by omega
 have abZ:(1:Int)≤n:=by omega
 have HK:=Lib.hid hK;have Um:=block_lt hK;have hlb:l.length≤1024:=by omega
 have adx:(l.length:Int)≤1024:=by omega
 have HL:=Lib.hid hl;clear hown hg hK hl
 go_enter Tryz.func141,Tryz.ntmps141
 go_wp2_with fail
 clear hr
 go_loopw [21] (fun i wr=>∃ k:Nat,k≤l.length∧i=.int .i64 k∧jw wr (canon w.heap.size K) 1 (.slice (some ⟨w.heap.size,0,none⟩) n n) (iJ n l k)∧Below w.heap.size w wr) (fun i _=>l.length - (intOf i).toNat)
 case atStart=>exact ⟨0,Nat.zero_le _,rfl,hO,hb1⟩
 case round =>
  clear hO hb1 hs1 hr1;obtain ⟨k,hk,rfl,hO,hb⟩:=hrel
  by_cases hlt:k < l.length
  ·
   have dG:(k:Int) < l.length:=by omega
   obtain ⟨b0,o0,e0,-,hc0,-,-,hcell⟩:=dn.at HH.out (by simp;omega);subst e0;have hx0:=hcell k (by simp;omega);rw [iy hlt] at hx0;have hx1:=cell_later hb hx0;have HS:=Lib.hid (Jp n k l (by omega));have hs:=hb.size;generalize l[k]?.getD 0=x at hx1 HS;obtain ⟨vs,h1,h2,h3,h4,h5⟩:=hO;have hvl:vs.length=n:=by rw [h1,sH]
   have hin:k % n < n:=Nat.mod_lt _ (by omega);obtain ⟨-,-,g',-,eg,hcg,hfg,hgw⟩:=bN h2.1 (by omega);cases eg
   have hck:=hcg (k % n) (vs[k % n]?.getD undef) (by simp [hvl,hin]);have Ep:=hfg (k % n);have XG:=h3 (k % n) (by rw [sH];exact hin);have hrl:=Ci n k (k % n) l hin;obtain ⟨sv,cv,ev⟩:=XG.slice;rw [ev] at hck;have hcI:(0:Int)≤(k:Int) % n:=by omega
   have ady:(k:Int) % n < n:=by omega
   have hmod:((k:Int) % n).toNat=k % n:=by omega
   go_wp2_with (at_builtin;refine aM ?_)
   refine bR ?_;rw [ev] at XG;have Hrl:=Lib.hid hrl;have g2f:∀ j,(Value.slice sv ((iJ n l k)[k % n]?.getD []).length cv).ownBlock=some j→j≠w.heap.size:=fun j hj e=>h5 (k % n) j (by rw [sH];exact hin) (by rw [ev];exact hj) (by rw [e];rfl)
   refine lT rfl _ _ 42 rfl 0 3 j0 _ 1 8 Tryz.underlying42 ji Un jz1 Uo rfl (.slice sv ((iJ n l k)[k % n]?.getD []).length cv) ((iJ n l k)[k % n]?.getD []).length _ rfl (XG.1.alloc (.cells #[.int .i64 x] 3)) (some ⟨wr.heap.size,0,none⟩) 1 1 [.int .i64 x] rfl rfl (fun h=>by cases h) (bA wr [.int .i64 x] 3) (by simp [Value.oneCell']) (by have:=Hrl.out;unfold maxLen;omega) (aZ (by have:=Hrl.out;omega)) (Nat.zero_le _) ?_;intro v' w2 g1 g20 _ g4;have g2:(wr.alloc (.cells #[.int .i64 x] 3)).grownBy w2 (Value.slice sv ((iJ n l k)[k % n]?.getD []).length cv).ownBlock:=g20;have hm2:aI (fun j=>(vs[k % n]?.getD undef).ownBlock=some j) wr w2:=((aI.refl _ wr).alloc _).grown g2 (fun j hj _=>by rw [ev];exact hj);have Zm:w2.heap[w.heap.size]?=wr.heap[w.heap.size]?:=hm2.block _ hgw (fun e=>by rw [ev] at e;exact g2f _ e rfl);have adz:=(World.cell?_of_block (w:=wr) (a:=⟨w.heap.size,k % n,none⟩) Zm).trans hck;have adA:=(World.frozen?_of_block (w:=wr) (a:=⟨w.heap.size,k % n,none⟩) Zm).trans Ep;have Er:∀ j,v'.ownBlock=some j→canon w.heap.size K j=1:=fun j hj=>by
    rcases g4 with g4 | ⟨g4,_⟩
    ·
     rw [g4] at hj;exact XG.2 j hj
    ·
     rw [g4] at hj;have hj:=Option.some.inj hj;have hj:wr.heap.size+1=j:=by simpa using hj
     exact oW (by omega) (by omega)
   have hO2:=jw.set (v':=v') (l':=(iJ n l k)[k % n]?.getD [] ++ [x]) (w1:=w2) (i:=k % n) h1 h2 h3 h4 (fun i B hi hB e=>h5 i B hi hB (by rw [e];rfl)) (by rw [sH];exact hin) hm2 (fun j _ f=>f)
    ⟨by simpa using g1,Er⟩ (by
     rcases g4 with g4 | ⟨g4,_⟩
     ·
      left;rw [g4,ev]
     ·
      right;intro j hj;rw [g4] at hj;have hj:=Option.some.inj hj;have hj:wr.heap.size+1=j:=(by simpa using hj);omega)
   rw [← HS.out] at hO2;have hb2:Below w.heap.size w (w2.setCell ⟨w.heap.size,k % n,none⟩ v'):=(hb.trans (hm2.below hs (fun j hj f=>by
    rw [ev] at f;have h0:=XG.2 j f;have:=(Ar h0).1;omega))).setCell (Nat.le_refl _) _
   obtain ⟨sv',cv',rfl⟩:=aB g1;have aaI:(k:Int) % n=((k % n:Nat):Int):=by omega
   generalize ((iJ n l k)[k % n]?.getD []).length=rl at *;clear h1 h2 h3 h4 h5 hcg hfg hb g1 g20 g2 g4 hm2 Zm hck Ep XG Er ev aaI hcell;go_wp2;go_roundw
   case rel=>exact ⟨k+1,by omega,by go_num,hO2,hb2⟩
   case measure=>simp [intOf];omega
  ·
   obtain rfl:k=l.length:=by omega
   go_wp2
   go_ret2
   rw [HL.out,Ml] at hO;exact ⟨_,rfl,aI.of_below hb _,aT HK.out (aI.of_below hb (fun _=>False)) (fun h=>h),hO⟩
def XK (w:World)(K:Nat)(vi vo nv vt:Value)(keep:List Int)(y:Int)(e:Ending)(w':World):Prop :=
 ∃ ov R cp,e=.returned (.tuple #[ov,.bool true])∧aI (fun k=>k=K) w w'∧w'.heap[K]?=some (.cells #[vi,vo,nv,vt,.slice (some ⟨R,0,none⟩) keep.length cp] 129 (0,0))∧Has w' (.slice (some ⟨R,0,none⟩) keep.length cp) (aV keep)∧w.heap.size≤R∧R < w'.heap.size∧jw w' (canon w.heap.size R) 1 ov [[y]]
def Qg (w:World)(K:Nat)(vi vo nv vt:Value)(keep:List Int)(r:Option Int)(e:Ending)(w':World):Prop :=
 match r with
 | some y=>XK w K vi vo nv vt keep y e w'
 | none=>uw w e w'
theorem dn.cut {w:World}{o:Col}{c:Nat}{ao:Option Addr}{n cap:Nat}{vs:List Value}(h:dn w o c (.slice ao n cap) vs)(k:Nat)(hk:k≤vs.length):dn w o c (.slice ao k cap) (vs.take k):=by
 have hl:(vs.take k).length=k:=by rw [List.length_take];omega
 by_cases hp:0 < k
 ·
  obtain ⟨b,off,rfl,hn,hc,hb,ho,hcl⟩:=h.at (by omega);refine .inr ⟨by omega,b,off,cap,by rw [hl],by omega,hb,ho,fun j hj=>?_⟩;rw [hl] at hj;rw [hcl j (by omega),List.getElem?_take,if_pos hj]
 ·
  obtain rfl:k=0:=by omega
  exact .inl ⟨by simp,ao,cap,rfl⟩
theorem Gf (w:World)(K:Nat)(vi vo nv vt vs bL:Value)(x:Int)(nU keep:List Int)(htk:nU.length=keep.length+1)(hn:nU.length≤16)(hfx:Fits x)(hft:∀ a∈nU,Fits a)(Ep:∀ a∈keep,Fits a)
  (hK:w.heap[K]?=some (.cells #[vi,vo,nv,vt,vs] 129 (0,0))) (hvt:Has w vt (aV nU)) (hvs:Has w vs (aV keep)) (hins:LL w bL [[x]]) :
  Calls Tryz.prog 131 #[.pointer (some ⟨K,0,none⟩),bL] w (Qg w K vi vo nv vt ((x :: keep).take keep.length) (mE 0 nU (x :: keep))):=by
 obtain ⟨i0,hi,hz0,hz1,hz2⟩:=info_parts bJ;obtain ⟨Vm,Mg,rfl⟩:=hins.slice;obtain ⟨bi,oi,ie,hci,hrow⟩:=hins.at (by simp);subst ie;obtain ⟨a0,c0,hr0,hh0⟩:=hrow 0 (by simp);obtain ⟨b0,o0,e0,-,hc0,-,-,hcell⟩:=dn.at hh0 (by simp);subst e0;have hx0:=hcell 0 (by simp);simp at hr0 hx0 hc0 hci;clear hcell hrow hh0 hins;obtain ⟨sao,scp,rfl⟩:=hvs.slice;obtain ⟨tao,tcp,rfl⟩:=hvt.slice;simp only [aD] at hvs hvt hK ⊢;have k3:=ah w K hK 3 (.slice tao nU.length tcp) rfl;have k4:=ah w K hK 4 (.slice sao keep.length scp) rfl;obtain ⟨XM,XO⟩:=hvs.news;have HT:=Lib.hid hvt;have wJ:=Lib.hid htk;have HN:=Lib.hid hn;have KT:=Lib.hid hfx;have HFT:=Lib.hid hft;have HFK:=Lib.hid Ep;have HK:=Lib.hid hK;have Um:=block_lt hK;have Zn:=Lib.hid XM;have Zo:=Lib.hid XO;have hkl:keep.length≤15:=by omega
 have ab2:(keep.length:Int)≤15:=by omega
 clear hvs hvt htk hn hfx hft Ep hK XM XO
 go_enter Tryz.func131,Tryz.ntmps131
 go_wp2_with fail
 refine ax (fun w'=>w'.cell? ⟨bi,oi,none⟩=some (.slice (some ⟨b0,o0,none⟩) 1 c0)∧w'.cell? ⟨b0,o0,none⟩=some (.int .i64 x)∧w'.cell? ⟨K,4,none⟩=some (.slice sao keep.length scp)) [0,1,2,3,4,6,7,8,9] [5,10,11] (by kernel_rfl) (by kernel_rfl) rfl (fun _ _ hx h=>⟨hx.cell h.1,hx.cell h.2.1,hx.cell h.2.2⟩) ⟨hr0,hx0,k4⟩ ?_;intro Q' hQ';simp only [pk];refine aA ?_;refine av ?_;refine wpList_plain rfl fun K hK=>?_
 go_simp
 refine hK _ _ ?_;clear hK K;have hown0:=bG (oZ w.drew [x] (by simp)) (base':=w.heap.size) (fun k hk=>by have e:w.heap.size=k:=Option.some.inj hk;omega);refine aR rfl _ _ 42 rfl w.heap.size 3 i0 _ 1 8 Tryz.underlying42 hi hz0 hz1 hz2 rfl (.slice (some ⟨w.heap.size,0,none⟩) 1 1) 1 _ rfl hown0 sao keep.length scp (aV keep) rfl (by simp) Zn.out (fun ad had j u hu=>ca (w:=w.drew) (Zo.out ad had j u hu)) (gT keep) (by unfold maxLen;omega) (aZ (by omega)) (by simp) ?_;intro v' w2 g1 g20 g3 _;have g2:(w.drew.alloc (.cells (aV [x]).toArray 3)).grownBy w2 (Value.slice (some ⟨w.heap.size,0,none⟩) 1 1).ownBlock:=g20;have hb2:Below w.heap.size w w2:=((((aI.refl (fun _=>False) w).drew).alloc (.cells (aV [x]).toArray 3)).grown g2 (fun k hk hlt=>by have e:w.heap.size=k:=Option.some.inj hk;omega)).below (Nat.le_refl _) (fun _ _ h=>h);have hne:v'≠.slice none 0 0:=fun e=>by have:=(g3.1 e).1;cases this
 have g1':w2.ownsRow w.heap.size 3 1 v' (x :: keep).length (aV (x :: keep)):=by
  rw [List.length_cons,Nat.add_comm keep.length 1];exact g1
 obtain ⟨R,cp,rfl⟩:∃ R cp,v'=.slice (some ⟨R,0,none⟩) (x :: keep).length cp:=by
  rcases g1'.2 with ⟨e,_⟩ | ⟨g,cp,cur,e,_⟩
  ·
   exact absurd e hne
  ·
   exact ⟨g,cp,e⟩
 obtain ⟨_,hcp,gR,hRn,eR,hcR,_,adB⟩:=bN g1' (by simp);cases eR
 have KV:=(Own.made (fun _=>0) 0 g1').vals.has;have k3b:=cell_later hb2 k3;have k4b:=cell_later hb2 k4;have HT2:=Lib.hid (HT.out.below hb2);have hK2:=aT HK.out (aI.of_below hb2 (fun _=>False)) (fun h=>h);have kf2:=aj hK2 4;have hs2:=hb2.size;simp only [List.length_cons] at hcp KV g1' ⊢;have Mq:(keep.length:Int)+1≤cp:=by omega
 clear g1 g20 g2 g3 hne hown0;obtain ⟨D,hD⟩:∃ D,mE 0 nU (x :: keep)=D:=⟨_,rfl⟩
 go_wp2_with fail
 have HD:=Lib.hid hD;clear hD;refine (Vj (xs:=nU) (ys:=x :: keep) _ _ _ _ _ _ _ HT2.out KV (by simpa using wJ.out) (by have:=HN.out;omega) HFT.out (fun a ha=>by rcases List.mem_cons.1 ha with rfl | ha;exact KT.out;exact HFK.out a ha)).mono ?_;rintro e w3 ⟨rfl,rfl⟩;rw [HD.out];unfold F8;have G1:=Lib.hid g1';have CR:=Lib.hid hcR;have I8:=Lib.hid KV;clear g1' hcR KV;cases D with
 | none =>
  go_wp2
  go_ret2
  rw [HD.out];exact wW rfl ((hb2.alloc hs2 _).alloc (by simp;omega) _)
 | some y =>
  go_wp2
  go_ret2
  obtain ⟨h1,h2⟩:=Aw (w1:=w2) (aI.of_below hb2 _) HK.out 4 (.slice (some ⟨R,0,none⟩) keep.length cp);have hsz:(w2.setCell ⟨K,4,none⟩ (.slice (some ⟨R,0,none⟩) keep.length cp)).heap.size=w2.heap.size:=dw _ _ _;have ho:=bG (oZ (w2.setCell ⟨K,4,none⟩ (.slice (some ⟨R,0,none⟩) keep.length cp)) [y] (by simp)) (base':=w.heap.size) (fun k hk=>by have e:=Option.some.inj hk;rw [hsz] at e;have e:w2.heap.size=k:=e;omega);have hO:=vz (w1:=(w2.setCell ⟨K,4,none⟩ (.slice (some ⟨R,0,none⟩) keep.length cp)).alloc (.cells (aV [y]).toArray 3)) (N:=w.heap.size) (R:=R) ho (by simp;omega) (fun e=>by have e:=Option.some.inj e;rw [hsz] at e;have e:w2.heap.size=R:=e;omega) (by simp;omega);have hm3:aI (fun k=>k=K) w2 (((w2.setCell ⟨K,4,none⟩ (.slice (some ⟨R,0,none⟩) keep.length cp)).alloc (.cells #[.int .i64 y] 3)).alloc (.cells #[.slice (some ⟨w2.heap.size,0,none⟩) 1 1] 42)):=(((aI.refl (fun k=>k=K) w2).setCell (p:=⟨K,4,none⟩) (fun _=>rfl) _).alloc _).alloc _;have T:Turn (ext (fun _=>0) w.heap.size 1) (ext (fun _=>0) w.heap.size 1) (fun c=>c=0) w2 _:=⟨hm3.mono (fun k _ e=>by rw [e,bX Um]),fun _ _=>rfl⟩;have XP:=(((Own.made (fun _=>0) 1 G1.out).vals.turn T (by decide)).cut keep.length (by simp)).has;rw [show (aV (x :: keep)).take keep.length=aV ((x :: keep).take keep.length) by rw [← List.map_take]] at XP;rw [HD.out];have hkt:((x :: keep).take keep.length).length=keep.length:=by rw [List.length_take,List.length_cons];omega
  simp only [World.size_alloc,hsz] at hO;refine ⟨_,R,cp,rfl,(h1.alloc _).alloc _,?_,?_,hRn,by simp;omega,hO⟩
  ·
   rw [hkt];exact aK (aK h2 _) _
  ·
   rw [hkt];exact XP
structure gY (w:World) (o:Col) (c d b:Nat) (t:Int) (ps keep:List Int) (n:Int) (K:Nat) (vi vo vt vs:Value):Prop where
 body:dY w o d b 114 #[.iface (kP t) (.pointer (some ⟨K,0,none⟩))]
 kind:dY w o c K (kS t) (qj t vi vo n (hd keep) (hd1 ps) vt vs)
 ins:Ints w o d vi (bT t ps)
 outs:Ints w o d vo (bP t ps)
 nU:t=1→Ints w o d vt ps∧Ints w o d vs keep∧ps.length=keep.length+1
 good:aF t ps
 Cj:∀ x∈ps,Fits x
 ql:∀ x∈keep,Fits x
 mH:t=8∨t=10→keep.length=1
 qY:t≠1→t≠8→t≠10→keep=[]
 Vr:Fits n
 ne:c≠d
theorem gY.turn {w w':World}{o o':Col}{C:Nat→Prop}{c d b:Nat}{t:Int}{ps keep:List Int}{n:Int}{K:Nat}{vi vo vt vs:Value}(h:gY w o c d b t ps keep n K vi vo vt vs)(T:Turn o o' C w w')(hc:¬ C c)(hd:¬ C d):gY w' o' c d b t ps keep n K vi vo vt vs :=
 ⟨h.body.turn T hd,h.kind.turn T hc,h.ins.turn T hd,h.outs.turn T hd,fun e=>⟨(h.nU e).1.turn T hd,(h.nU e).2.1.turn T hd,(h.nU e).2.2⟩,h.good,h.Cj,h.ql,h.mH,h.qY,h.Vr,h.ne⟩
theorem Mr (w:World)(K:Nat)(n:Int)(h:w.cell? ⟨K,2,none⟩=some (.int .i64 n)):Calls Tryz.prog 127 #[.pointer (some ⟨K,0,none⟩)] w fun e w'=>e=.returned (.int .i64 n)∧w=w':=by
 go_enter Tryz.func127,Tryz.ntmps127
 go_wp2;go_ret
 exact ⟨rfl,rfl⟩
theorem Ms (w:World)(b K:Nat)(t n:Int)(ht:iI t)(hb:w.cell? ⟨b,0,none⟩=some (.iface (kP t) (.pointer (some ⟨K,0,none⟩))))(h:w.cell? ⟨K,2,none⟩=some (.int .i64 n)):Calls Tryz.prog 62 #[.pointer (some ⟨b,0,none⟩)] w fun e w'=>e=.returned (.int .i64 n)∧w=w':=by
 have hm:=Jk ht K
 go_enter Tryz.func62,Tryz.ntmps62
 go_wp2_with fail
 refine (Mr _ K n (by assumption)).mono ?_;rintro _ _ ⟨rfl,rfl⟩;go_wp2;go_ret
 exact ⟨rfl,rfl⟩
def Qh (w:World)(is os:List Int)(e:Ending)(w':World):Prop :=
 ∃ g1 c1 g2 c2,e=.returned (.tuple #[.slice (some ⟨g1,0,none⟩) is.length c1,.slice (some ⟨g2,0,none⟩) os.length c2])∧w'.ownsRow w.heap.size 3 1 (.slice (some ⟨g1,0,none⟩) is.length c1) is.length (aV is)∧w'.ownsRow w.heap.size 3 1 (.slice (some ⟨g2,0,none⟩) os.length c2) os.length (aV os)∧g1≠g2∧Below w.heap.size w w'
theorem CZ (w:World)(K:Nat)(vi vo:Value)(is os:List Int)(h0:w.cell? ⟨K,0,none⟩=some vi)(h1:w.cell? ⟨K,1,none⟩=some vo)(hi:Has w vi (aV is))(ho:Has w vo (aV os))(hni:is.length≤1000000)(hno:os.length≤1000000):Calls Tryz.prog 130 #[.pointer (some ⟨K,0,none⟩)] w (Qh w is os):=by
 obtain ⟨ai,ci,rfl⟩:=hi.slice;obtain ⟨ao,co,rfl⟩:=ho.slice;simp only [aD] at hi ho h0 h1;have HI:=Lib.hid hi;have HO:=Lib.hid ho;clear hi ho
 go_enter Tryz.func130,Tryz.ntmps130
 go_wp2;refine eP (fun w'=>w'.cell? ⟨K,0,none⟩=some (.slice ai is.length ci)∧w'.cell? ⟨K,1,none⟩=some (.slice ao os.length co)) [0,1,2,3,5,6,7,8] [4] 4 (by kernel_rfl) (by kernel_rfl) rfl ⟨h0,h1⟩ ?_;intro Q' hQ';simp only [pk];refine aA ?_;refine av ?_;refine aG (i:=4) (by kernel_rfl) ?_;simp only [pk];have HI1:Hid (Has w.drew (.slice ai is.length ci) (aV is)):=Lib.hid (HI.out.drewN 1)
 go_wp2_with fail
 refine (sG _ _ _ _ is HI1.out (by omega)).mono ?_;rintro e w1 ⟨g1,c1,rfl,ho1,hb1⟩;have hb1:Below w.heap.size w w1:=iY (n:=1) hb1;have qJ:=Lib.hid ho1;have nQ:=Lib.hid (HO.out.below hb1);clear ho1;go_wp2;refine ⟨fun _ hS=>⟨cell_later hb1 h0,cell_later hb1 h1⟩,?_⟩;refine bg (ks:=[9,10,11]) (fun _ _ hx h=>⟨hx.cell h.1,hx.cell h.2⟩) (by kernel_rfl) ?_;simp only [pk]
 go_wp2_with fail
 refine (sG _ _ _ _ os nQ.out (by omega)).mono ?_;rintro e w2 ⟨g2,c2,rfl,ho2,hb2⟩;have Zp:=Lib.hid ho2;have HB2:=Lib.hid hb2;clear ho2 hb2;go_wp2
 go_ret2
 refine ⟨g1,c1,g2,c2,rfl,fD qJ.out (aI.of_below HB2.out (fun _=>False)) (fun _ _ h=>h),bG Zp.out (fun k hk=>?_),?_,hb1.trans (HB2.out.mono hb1.size)⟩
 ·
  have:=(Zp.out.lt k hk).1;have:=hb1.size;omega
 ·
  rintro rfl;have h1:=(qJ.out.lt g1 rfl).2;have h2:=(Zp.out.lt g1 rfl).1;omega
theorem Jr (w:World)(K:Nat)(n:Int)(h:w.cell? ⟨K,2,none⟩=some (.int .i64 n))(hf:w.frozen? ⟨K,2,none⟩=false)(hn:Fits (n+1)):Calls Tryz.prog 128 #[.pointer (some ⟨K,0,none⟩)] w fun e w'=>e=.returned (.tuple #[])∧w'=w.setCell ⟨K,2,none⟩ (.int .i64 (n+1)):=by
 have hw:IntKind.i64.wrap (n+1)=n+1:=IntWalk.i64_in _ hn
 go_enter Tryz.func128,Tryz.ntmps128
 go_wp2;go_end0
 exact ⟨rfl,rfl⟩
theorem gY.tag {w:World}{o:Col}{c d b:Nat}{t:Int}{ps keep:List Int}{n:Int}{K:Nat}{vi vo vt vs:Value}(h:gY w o c d b t ps keep n K vi vo vt vs):iI t:=lW h.good
theorem lC (t:Int)(vi vo:Value)(n x b:Int)(vt vs:Value)(ht:iI t):(qj t vi vo n x b vt vs)[0]?=some vi∧(qj t vi vo n x b vt vs)[1]?=some vo∧(qj t vi vo n x b vt vs)[2]?=some (.int .i64 n):=by
 rcases ht with rfl | rfl | rfl | rfl | rfl | rfl | rfl | rfl | rfl | rfl | rfl <;> exact ⟨rfl,rfl,rfl⟩
theorem Gg (t:Int)(vi vo:Value)(n m x b:Int)(vt vs:Value)(ht:iI t):(qj t vi vo n x b vt vs).setIfInBounds 2 (.int .i64 m)=qj t vi vo m x b vt vs:=by
 rcases ht with rfl | rfl | rfl | rfl | rfl | rfl | rfl | rfl | rfl | rfl | rfl <;> rfl
theorem sI {t:Int}{ps:List Int}(h:aF t ps):(bT t ps).length≤64∧(bP t ps).length≤64:=by
 unfold aF bD bS at h;unfold bT bP
 constructor <;> (repeat' split) <;> simp <;> omega
theorem Js {w:World}{o:Col}{c d b:Nat}{t:Int}{ps keep:List Int}{n:Int}{K:Nat}{vi vo vt vs:Value}(h:gY w o c d b t ps keep n K vi vo vt vs):Calls Tryz.prog 62 #[.pointer (some ⟨b,0,none⟩)] w fun e w'=>e=.returned (.int .i64 n)∧w=w' :=
 Ms w b K t n h.tag (h.body.cell 0 _ rfl) (h.kind.cell 2 _ (lC t vi vo n _ _ vt vs h.tag).2.2)
theorem Jt {w:World}{o:Col}{c d b:Nat}{t:Int}{ps keep:List Int}{n:Int}{K:Nat}{vi vo vt vs:Value}(h:gY w o c d b t ps keep n K vi vo vt vs):Calls Tryz.prog 18 #[.pointer (some ⟨b,0,none⟩)] w (Qh w (bT t ps) (bP t ps)):=by
 have hb:=h.body.cell 0 _ rfl;have h0:=h.kind.cell 0 _ (lC t vi vo n _ _ vt vs h.tag).1;have h1:=h.kind.cell 1 _ (lC t vi vo n _ _ vt vs h.tag).2.1;have hm:=Av h.tag K;have hl:=sI h.good;have HI:=Lib.hid h.ins.has;have HO:=Lib.hid h.outs.has;clear h
 go_enter Tryz.func18,Tryz.ntmps18
 go_wp2_with fail
 refine (CZ _ K _ _ _ _ h0 h1 HI.out HO.out (by omega) (by omega)).mono ?_;rintro e w1 ⟨g1,c1,g2,c2,rfl,r1,r2,r3,r4⟩;have R1:=Lib.hid r1;have R2:=Lib.hid r2;clear r1 r2 hm;go_wp2
 go_ret2
 exact ⟨g1,c1,g2,c2,rfl,R1.out,R2.out,r3,r4⟩
def Qi (w:World)(keep:List Int)(e:Ending)(w':World):Prop :=
 ∃ v,e=.returned v∧w'.ownsRow w.heap.size 3 1 v keep.length (aV keep)∧Below w.heap.size w w'
def fK (t:Int)(ps keep:List Int)(xss:List (List Int)):Option (List (List Int) × List Int) :=
 if t=1 then (mE 0 ps (hd (xss[0]?.getD []) :: keep)).map fun y=>([[y]],(hd (xss[0]?.getD []) :: keep).take keep.length)
 else if t=2 then some ([hd (xss[0]?.getD []) :: List.replicate ((hd ps).toNat - 1) 0],keep)
 else if t=3 then some ([[hd (xss[0]?.getD [])]],keep)
 else if t=4 then some ([dz xss (hd1 ps).toNat],keep)
 else if t=5 then some (fF (hd ps).toNat (hd1 ps).toNat (xss[0]?.getD []),keep)
 else if t=6 then (nT 0 (firsts xss)).map fun y=>([[y]],keep)
 else if t=7 then (jm (hd (xss[0]?.getD [])) (hd (xss[1]?.getD []))).map fun y=>([[y]],keep)
 else if t=8 then (if Fits (hd keep+hd (xss[0]?.getD [])) then some ([[hd keep+hd (xss[0]?.getD [])]],[hd keep+hd (xss[0]?.getD [])]) else none)
 else if t=9 then some (List.replicate (hd ps).toNat [hd (xss[0]?.getD [])],keep)
 else if t=10 then (if Fits (hd keep+hd1 ps) then some ([[hd keep]],[hd keep+hd1 ps]) else none)
 else some ([],keep)
def jo (w:World)(o:Col)(c d E b:Nat)(t:Int)(ps:List Int)(n:Int)(K:Nat)(vi vo vt:Value)(r:Option (List (List Int) × List Int))(e:Ending)(w':World):Prop :=
 match r with
 | some (outs,keep')=>∃ ov vs' o',e=.returned (.tuple #[ov,.bool true])∧Turn o o' (fun x=>x=c) w w'∧gY w' o' c d b t ps keep' n K vi vo vt vs'∧jw w' o' E ov outs
 | none=>uw w e w'
theorem eH {w:World}{o:Col}{c d E b:Nat}{t:Int}{ps keep keep':List Int}{n:Int}{K:Nat}{vi vo vt vs:Value}{outs:List (List Int)}{e:Ending}{w':World}(h:gY w o c d b t ps keep n K vi vo vt vs)(h1:t≠1)
  (hk1:t=8∨t=10→keep'.length=1) (hk2:t≠1→t≠8→t≠10→keep'=[]) (hkf:∀ x∈keep',Fits x)
  (hr:wU w K (kS t) (qj t vi vo n (hd keep') (hd1 ps) vt vs) outs e w'):jo w o c d E b t ps n K vi vo vt (some (outs,keep')) e w':=by
 obtain ⟨ov,he,hm,hK,hO⟩:=hr;have hKc:o K=c:=h.kind.2;have hKl:=h.kind.lt;have T:Turn o (ext o w.heap.size E) (fun x=>x=c) w w':=Turn.gN o E hm (fun k _ hk=>by rw [hk];exact hKc);have hd:¬ d=c:=fun e=>h.ne e.symm
 refine ⟨ov,vs,_,he,T,⟨h.body.turn T hd,⟨hK,by rw [bX hKl];exact hKc⟩,h.ins.turn T hd,h.outs.turn T hd,fun e=>absurd e h1,h.good,h.Cj,hkf,hk1,hk2,h.Vr,h.ne⟩,?_⟩;refine hO.dS fun k hk hc=>?_
 exact aW (Ar hc).1
theorem zx {w:World}{o:Col}{c d E b:Nat}{ps keep:List Int}{n:Int}{K:Nat}{vi vo vt vs:Value}{y x:Int}{e:Ending}{w':World}(h:gY w o c d b 1 ps keep n K vi vo vt vs)(hx:Fits x)
  (hr:XK w K vi vo (.int .i64 n) vt ((x :: keep).take keep.length) y e w'):jo w o c d E b 1 ps n K vi vo vt (some ([[y]],(x :: keep).take keep.length)) e w':=by
 obtain ⟨ov,R,cp,he,hm,hK,hS,hR1,hR2,hO⟩:=hr;have hKc:o K=c:=h.kind.2;have hKl:=h.kind.lt;have hd:¬ d=c:=fun e=>h.ne e.symm
 have T:Turn o (fun k=>if k < w.heap.size then o k else if k=R then d else E) (fun x=>x=c) w w':=⟨hm.mono (fun k _ hk=>by rw [hk];exact hKc),fun k hk=>by simp [hk]⟩;have hl:((x :: keep).take keep.length).length=keep.length:=by rw [List.length_take,List.length_cons];omega
 have XQ:=h.nU rfl;refine ⟨ov,_,_,he,T,⟨h.body.turn T hd,⟨hK,by simp [hKl,hKc]⟩,h.ins.turn T hd,h.outs.turn T hd,fun _=>⟨XQ.1.turn T hd,?_,by rw [hl];exact XQ.2.2⟩,h.good,h.Cj,fun z hz=>?_,fun hh=>by omega,fun hh=>absurd rfl hh,h.Vr,h.ne⟩,?_⟩
 ·
  rcases hS with hS | ⟨hp,b',off,cap,e,hle,hb,_,hcl⟩
  ·
   exact .inl hS
  ·
   refine .inr ⟨hp,b',off,cap,e,hle,hb,?_,hcl⟩;obtain ⟨rfl,_⟩:R=b'∧True:=by
    injection e with e1
    injection e1 with e1
    injection e1 with e1
    exact ⟨e1,trivial⟩
   simp [Nat.not_lt.2 hR1]
 ·
  rcases List.mem_cons.1 (List.mem_of_mem_take hz) with rfl | hz
  ·
   exact hx
  ·
   exact h.ql z hz
 ·
  refine hO.dS fun k hk hc=>?_
  have:=Ar hc;simp [Nat.not_lt.2 this.1,this.2]
theorem jS {xss:List (List Int)}{n:Int}(h:xss.map (fun l=>(l.length:Int))=[n]):∃ l,xss=[l]∧(l.length:Int)=n:=by
 match xss,h with
 | [l],h=>exact ⟨l,rfl,by simpa using h⟩
theorem one_num {l:List Int}(h:(l.length:Int)=1):l=[hd l]:=by
 match l,h with
 | [x],_=>rfl
theorem Gh {xss:List (List Int)}(h:xss.map (fun l=>(l.length:Int))=[1,1]):∃ x y,xss=[[x],[y]]:=by
 match xss with
 | []=>simp at h
 | [l]=>simp at h
 | [l,k] =>
  simp only [List.map_cons,List.map_nil,List.cons.injEq,and_true] at h;exact ⟨hd l,hd k,by rw [← one_num h.1,← one_num h.2]⟩
 | _ :: _ :: _ :: _=>simp at h
theorem Qj {w:World}{o:Col}{c d b:Nat}{t:Int}{ps keep:List Int}{n:Int}{K:Nat}{vi vo vt vs bL:Value}{xss:List (List Int)}(E:Nat)(h:gY w o c d b t ps keep n K vi vo vt vs)(hins:LL w bL xss)(hlen:xss.map (fun l=>(l.length:Int))=bT t ps)(hf:∀ l∈xss,∀ x∈l,Fits x) :
  Calls Tryz.prog (kF t) #[.pointer (some ⟨K,0,none⟩),bL] w (jo w o c d E b t ps n K vi vo vt (fK t ps keep xss)):=by
 have hg:=h.good;have hK:=h.kind.1
 rcases h.tag with rfl | rfl | rfl | rfl | rfl | rfl | rfl | rfl | rfl | rfl | rfl
 ·
  obtain ⟨l,rfl,hl⟩:=jS hlen;obtain ⟨x,rfl⟩:∃ x,l=[x]:=⟨_,one_num hl⟩
  have hx:Fits x:=hf [x] (by simp) x (by simp);obtain ⟨t1,t2,t3⟩:=h.nU rfl;have hg1:1≤ps.length∧ps.length≤16:=by unfold aF at hg;omega
  refine (Gf w K vi vo (.int .i64 n) vt vs bL x ps keep t3 hg1.2 hx h.Cj h.ql hK t1.has t2.has hins).mono fun e w' hr=>?_
  show jo w o c d E b 1 ps n K vi vo vt ((mE 0 ps (x :: keep)).map fun y=>([[y]],(x :: keep).take keep.length)) e w'
  cases hD:mE 0 ps (x :: keep) with
  | none=>rw [hD] at hr;exact hr
  | some y=>rw [hD] at hr;exact zx h hx hr
 ·
  have h1:bS ps 64:=by simpa [aF] using hg
  obtain ⟨l,rfl,hl⟩:=jS hlen;obtain ⟨x,rfl⟩:∃ x,l=[x]:=⟨_,one_num hl⟩
  obtain ⟨u,hu⟩:∃ u:Nat,hd ps=u:=⟨(hd ps).toNat,by have:=h1.2;omega⟩
  have hu2:=h1.2;rw [hu] at hu2;have ho:Has w vo (aV [(u:Int)]):=by have:=h.outs.has;rw [← hu];exact this
  refine (Vn w K vi vo (.int .i64 n) bL x u (by omega) (by omega) hK ho hins).mono fun e w' hr=>?_
  show jo w o c d E b 2 ps n K vi vo vt (some ([x :: List.replicate ((hd ps).toNat - 1) 0],keep)) e w'
  rw [hu,Int.toNat_natCast];exact eH h (by decide) h.mH h.qY h.ql hr
 ·
  have h1:bS ps 64:=by simpa [aF] using hg
  obtain ⟨l,rfl,hl⟩:=jS hlen;refine (Mf w K bL _ l (by have:=h1.2;omega) hK hins).mono fun e w' hr=>?_
  exact eH h (by decide) h.mH h.qY h.ql hr
 ·
  have h1:bD ps:=by simpa [aF] using hg
  obtain ⟨h2,h3,h4,h5⟩:=h1;obtain ⟨u,hu⟩:∃ u:Nat,hd ps=u:=⟨(hd ps).toNat,by omega⟩
  obtain ⟨m,hm⟩:∃ u:Nat,hd1 ps=u:=⟨(hd1 ps).toNat,by omega⟩
  have hi:Has w vi (aV (List.replicate u (m:Int))):=by have:=h.ins.has;simpa [bT,hu,hm] using this
  have ho:Has w vo (aV [(u:Int)*m]):=by have:=h.outs.has;simpa [bP,hu,hm] using this
  have hlen':xss.map (fun l=>(l.length:Int))=List.replicate u (m:Int):=by rw [hlen];simp [bT,hu,hm]
  have hxl:xss.length=u:=by have:=congrArg List.length hlen';simpa using this
  have hall:∀ l∈xss,l.length=m:=fun l hl=>by
   have:(l.length:Int)∈xss.map (fun l=>(l.length:Int)):=List.mem_map.2 ⟨l,hl,rfl⟩;rw [hlen'] at this;have:=(List.mem_replicate.1 this).2;omega
  refine (Jm w K vi vo (.int .i64 n) bL u m xss (by omega) (by omega) (by omega) hxl hall hK hi ho hins).mono fun e w' hr=>?_
  show jo w o c d E b 4 ps n K vi vo vt (some ([dz xss (hd1 ps).toNat],keep)) e w'
  rw [hm,Int.toNat_natCast];exact eH h (by decide) h.mH h.qY h.ql hr
 ·
  have h1:bD ps:=by simpa [aF] using hg
  obtain ⟨h2,h3,h4,h5⟩:=h1;obtain ⟨u,hu⟩:∃ u:Nat,hd ps=u:=⟨(hd ps).toNat,by omega⟩
  obtain ⟨m,hm⟩:∃ u:Nat,hd1 ps=u:=⟨(hd1 ps).toNat,by omega⟩
  obtain ⟨l,rfl,hl⟩:=jS hlen;have ho:Has w vo (aV (List.replicate u (m:Int))):=by have:=h.outs.has;simpa [bP,hu,hm] using this
  refine (Qf w K vi vo (.int .i64 n) bL u m l _ (by simp) (by omega) (by omega) (by omega) (by rw [hu,hm] at hl;exact_mod_cast hl) hK ho hins).mono fun e w' hr=>?_
  show jo w o c d E b 5 ps n K vi vo vt (some (fF (hd ps).toNat (hd1 ps).toNat l,keep)) e w'
  rw [hu,hm,Int.toNat_natCast,Int.toNat_natCast];exact eH h (by decide) h.mH h.qY h.ql hr
 ·
  have h1:bS ps 16:=by simpa [aF] using hg
  have hlen':xss.map (fun l=>(l.length:Int))=List.replicate (hd ps).toNat 1:=hlen;have hxl:xss.length=(hd ps).toNat:=by have:=congrArg List.length hlen';simpa using this
  have hall:∀ l∈xss,l.length=1:=fun l hl=>by
   have:(l.length:Int)∈xss.map (fun l=>(l.length:Int)):=List.mem_map.2 ⟨l,hl,rfl⟩;rw [hlen'] at this;have:=(List.mem_replicate.1 this).2;omega
  refine (Qd w K bL _ xss (by have:=h1.2;omega) (fun l hl=>by rw [hall l hl];omega) (fun x hx=>?_) hK hins).mono fun e w' hr=>?_
  ·
   obtain ⟨l,hl,rfl⟩:=List.mem_map.1 hx;have h0:=hall l hl;refine hf l hl _ ?_;rw [List.getElem?_eq_getElem (by omega),Option.getD_some];exact List.getElem_mem _
  show jo w o c d E b 6 ps n K vi vo vt ((nT 0 (firsts xss)).map fun y=>([[y]],keep)) e w'
  cases hS:nT 0 (firsts xss) with
  | none=>rw [hS] at hr;exact hr
  | some y=>rw [hS] at hr;exact eH h (by decide) h.mH h.qY h.ql hr
 ·
  obtain ⟨x,y,rfl⟩:=Gh hlen;refine (Mi w K bL _ x y (hf [x] (by simp) x (by simp)) (hf [y] (by simp) y (by simp)) hK hins).mono fun e w' hr=>?_
  show jo w o c d E b 7 ps n K vi vo vt ((jm x y).map fun z=>([[z]],keep)) e w'
  cases hS:jm x y with
  | none=>rw [hS] at hr;exact hr
  | some z=>rw [hS] at hr;exact eH h (by decide) h.mH h.qY h.ql hr
 ·
  obtain ⟨l,rfl,hl⟩:=jS hlen;obtain ⟨x,rfl⟩:∃ x,l=[x]:=⟨_,one_num hl⟩
  have hk:keep=[hd keep]:=one_num (by have:=h.mH (.inl rfl);omega);have Ep:Fits (hd keep):=h.ql _ (by rw [hk];exact List.mem_cons_self);refine (Qa w K vi vo (.int .i64 n) bL (hd keep) x Ep (hf [x] (by simp) x (by simp)) hK hins).mono fun e w' hr=>?_
  show jo w o c d E b 8 ps n K vi vo vt (if Fits (hd keep+x) then some ([[hd keep+x]],[hd keep+x]) else none) e w'
  by_cases hS:Fits (hd keep+x)
  ·
   rw [if_pos hS] at hr ⊢;exact eH h (by decide) (fun _=>rfl) (fun _ h8 _=>absurd rfl h8) (fun z hz=>by rw [List.mem_singleton.1 hz];exact hS) hr
  ·
   rw [if_neg hS] at hr ⊢;exact hr
 ·
  have h1:bS ps 16:=by simpa [aF] using hg
  obtain ⟨l,rfl,hl⟩:=jS hlen;obtain ⟨x,rfl⟩:∃ x,l=[x]:=⟨_,one_num hl⟩
  refine (Mk w K vi vo (.int .i64 n) bL x (hd ps).toNat _ (by simp [bP]) (by have:=h1.2;omega) hK h.outs.has hins).mono fun e w' hr=>?_
  exact eH h (by decide) h.mH h.qY h.ql hr
 ·
  have h2:ps.length=2:=by unfold aF at hg;omega
  have hfp:Fits (hd1 ps):=h.Cj _ (by unfold hd1;rw [List.getElem?_eq_getElem (by omega),Option.getD_some];exact List.getElem_mem _);have hk:keep=[hd keep]:=one_num (by have:=h.mH (.inr rfl);omega);have Ep:Fits (hd keep):=h.ql _ (by rw [hk];exact List.mem_cons_self);refine (Mj w K vi vo (.int .i64 n) bL (hd keep) (hd1 ps) Ep hfp hK).mono fun e w' hr=>?_
  show jo w o c d E b 10 ps n K vi vo vt (if Fits (hd keep+hd1 ps) then some ([[hd keep]],[hd keep+hd1 ps]) else none) e w'
  by_cases hS:Fits (hd keep+hd1 ps)
  ·
   rw [if_pos hS] at hr ⊢;exact eH h (by decide) (fun _=>rfl) (fun _ _ h8=>absurd rfl h8) (fun z hz=>by rw [List.mem_singleton.1 hz];exact hS) hr
  ·
   rw [if_neg hS] at hr ⊢;exact hr
 ·
  refine (Mh w K bL _ hK).mono fun e w' hr=>?_
  exact eH h (by decide) h.mH h.qY h.ql hr
def Qk (w:World)(o:Col)(c d E b:Nat)(t:Int)(ps:List Int)(n:Int)(K:Nat)(vi vo vt:Value)(fit:Bool)(r:Option (List (List Int) × List Int))(e:Ending)(w':World):Prop :=
 match fit,r with
 | false,_=>e=.returned (.tuple #[.slice none 0 0,.int .i64 1])∧Below w.heap.size w w'
 | true,none=>e=.returned (.tuple #[.slice none 0 0,.int .i64 70])∧Below w.heap.size w w'
 | true,some (outs,keep')=>∃ ov vs' o',e=.returned (.tuple #[ov,.int .i64 0])∧Turn o o' (fun x=>x=c) w w'∧gY w' o' c d b t ps keep' (n+1) K vi vo vt vs'∧jw w' o' E ov outs
theorem Mt {w w1 w2:World}{o o1 o':Col}{c d E b:Nat}{t:Int}{ps keep':List Int}{n:Int}{K:Nat}{vi vo vt vs' ov:Value}{outs:List (List Int)}{e:Ending}(hE:E≠c)(T1:Turn o o1 (fun x=>x=c) w w1)(T2:Turn o1 o' (fun x=>x=c) w1 w2)
  (hb:gY w2 o' c d b t ps keep' n K vi vo vt vs') (hO:jw w2 o' E ov outs) (hn:Fits (n+1)) (he:e=.returned (.tuple #[ov,.int .i64 0])):Qk w o c d E b t ps n K vi vo vt true (some (outs,keep')) e (w2.setCell ⟨K,2,none⟩ (.int .i64 (n+1))):=by
 obtain ⟨hk,T3⟩:=hb.kind.set 2 (.int .i64 (n+1));rw [Gg _ _ _ _ _ _ _ _ _ hb.tag] at hk;have hd:¬ d=c:=fun e=>hb.ne e.symm
 exact ⟨ov,vs',o',he,(T1.trans T2 (fun _ h=>h)).trans T3 (fun _ h=>h),⟨hb.body.turn T3 hd,hk,hb.ins.turn T3 hd,hb.outs.turn T3 hd,fun e=>⟨(hb.nU e).1.turn T3 hd,(hb.nU e).2.1.turn T3 hd,(hb.nU e).2.2⟩,hb.good,hb.Cj,hb.ql,hb.mH,hb.qY,hn,hb.ne⟩,hO.turn T3 hE⟩
theorem Ql {xss:List (List Int)}{R:List Int}{j:Nat}(hj:j < xss.length)(h:¬ ((xss[j]?.getD []).length:Int)=R[j]?.getD 0):decide (xss.map (fun l=>(l.length:Int))=R)=false:=by
 refine decide_eq_false fun e=>h ?_
 subst e;simp [hj]
theorem KW {xss:List (List Int)}{R:List Int}(hl:xss.length=R.length)(h:∀ j,j < xss.length→((xss[j]?.getD []).length:Int)=R[j]?.getD 0):xss.map (fun l=>(l.length:Int))=R:=by
 refine List.ext_getElem (by simpa using hl) fun j h1 h2=>?_
 have:=h j (by simpa using h1);simp only [List.length_map] at h1
 simpa [h1,h2] using this
theorem Gi {w:World}{o:Col}{c d b:Nat}{t:Int}{ps keep:List Int}{n:Int}{K:Nat}{vi vo vt vs bL:Value}{xss:List (List Int)}(E:Nat)(hE:E≠c)(h:gY w o c d b t ps keep n K vi vo vt vs)(hins:LL w bL xss)(hf:∀ l∈xss,∀ x∈l,Fits x)(hn1:Fits (n+1)) :
  Calls Tryz.prog 97 #[.pointer (some ⟨b,0,none⟩),bL] w (Qk w o c d E b t ps n K vi vo vt (decide (xss.map (fun l=>(l.length:Int))=bT t ps)) (fK t ps keep xss)):=by
 obtain ⟨Vm,Mg,rfl⟩:=hins.slice;have ht:=h.tag;have hb:w.cell? ⟨b,0,none⟩=some (.iface (kP t) (.pointer (some ⟨K,0,none⟩))):=h.body.cell 0 _ rfl;have h0:=h.kind.cell 0 _ (lC t vi vo n _ _ vt vs ht).1;have h1:=h.kind.cell 1 _ (lC t vi vo n _ _ vt vs ht).2.1;have hl:=sI h.good;have hm1:=Av ht K;have hm2:=F9 ht K;have hm3:=Jl ht K;have hcf:∀ (args:Array Value) (w:World),(callFunc (kF t) args).run Tryz.prog w=.ok (.enter (kF t) args) w:=fun args w=>by
  rcases ht with rfl | rfl | rfl | rfl | rfl | rfl | rfl | rfl | rfl | rfl | rfl <;> first | exact Tryz.call131 _ _ | exact Tryz.call138 _ _ | exact Tryz.call139 _ _ | exact Tryz.call140 _ _ | exact Tryz.call141 _ _ | exact Tryz.call142 _ _ | exact Tryz.call144 _ _ | exact Tryz.call147 _ _ | exact Tryz.call148 _ _ | exact Tryz.call149 _ _ | exact Tryz.call150 _ _
 have HH:=Lib.hid h;have HI:=Lib.hid hins;have HF:=Lib.hid hf;have HN:=Lib.hid hn1;have HT:=Lib.hid ht;clear h hins hf hn1 ht
 go_enter Tryz.func97,Tryz.ntmps97
 go_wp2_with fail
 refine (CZ _ K _ _ _ _ h0 h1 HH.out.ins.has HH.out.outs.has (by omega) (by omega)).mono ?_;rintro e w1 ⟨g1,c1,g2,c2,rfl,r1,-,-,hb1⟩;have R1:=Lib.hid (Own.made (fun _=>0) 0 r1).vals.has;have adC:=cell_later hb1 hb;clear r1 h0 h1 hm1;obtain ⟨R,hR⟩:∃ R,bT t ps=R:=⟨_,rfl⟩
 have hl1:R.length≤64:=by rw [← hR];exact hl.1
 rw [hR] at R1;have HR:=Lib.hid hR;clear hR hl
 by_cases hlen:xss.length=R.length
 ·
  have XR:(xss.length:Int)=(bT t ps).length:=by rw [HR.out];omega
  have adD:(xss.length:Int)≤64:=by omega
  have HL:=Lib.hid hlen;clear hlen
  go_wp2_with fail
  clear XR
  go_loopw [29] (fun i wr=>∃ j:Nat,j≤xss.length∧i=.int .i64 j∧wr=w1∧∀ k,k < j→((xss[k]?.getD []).length:Int)=R[k]?.getD 0) (fun i _=>xss.length - (intOf i).toNat)
  case atStart=>exact ⟨0,Nat.zero_le _,rfl,rfl,fun k hk=>by omega⟩
  case round =>
   obtain ⟨j,hj,rfl,hw,hall⟩:=hrel;subst hw;have Ju:=Lib.hid hall;clear hall
   by_cases hjn:j < xss.length
   ·
    have Vo:(j:Int) < xss.length:=by omega
    obtain ⟨bi,oi,ie,hci,hrow⟩:=HI.out.at (by omega);subst ie;obtain ⟨a0,c0,hr0,-⟩:=hrow j hjn;have hr1:=cell_later hb1 hr0;obtain ⟨gb,go,eg,-,hcR,-,-,hcell⟩:=dn.at R1.out (by rw [aD];have:=HL.out;omega);cases eg
    have hx:=hcell j (by rw [aD];have:=HL.out;omega);rw [iy (by have:=HL.out;omega)] at hx;rw [Nat.zero_add] at hx;have Zl:((bT t ps).length:Int)≤c1:=by rw [HR.out];omega
    have aaJ:(xss.length:Int)≤Mg:=by omega
    have hjR:(j:Int) < (bT t ps).length:=by rw [HR.out];have:=HL.out;omega
    have jL:=Lib.hid (fun h=>Ql (R:=R) hjn h);have HST:=Lib.hid (fun (h:((xss[j]?.getD []).length:Int)=R[j]?.getD 0) k (hk:k < j+1)=>(by
     by_cases hkj:k=j
     ·
      rw [hkj];exact h
     ·
      exact Ju.out k (by omega):((xss[k]?.getD []).length:Int)=R[k]?.getD 0))
    clear hrow hcell hr0;generalize (xss[j]?.getD []).length=lm at *;generalize R[j]?.getD 0=rm at *
    by_cases hq:(lm:Int)=rm
    ·
     have HQ:=Lib.hid (HST.out hq);clear HST;subst hq;go_wp2;go_roundw
     case rel=>exact ⟨j+1,by omega,by go_num,by first | rfl | trivial,HQ.out⟩
     case measure=>simp [intOf];omega
    ·
     go_wp2
     go_ret2
     rw [HR.out,jL.out hq];exact ⟨rfl,hb1⟩
   ·
    obtain rfl:j=xss.length:=by omega
    have HX:=Lib.hid (KW HL.out Ju.out);have HB:=Lib.hid (HH.out.turn (Turn.of_below o d hb1) (fun h=>h) (fun h=>h));have HI1:=Lib.hid (HI.out.below hb1);clear Ju;have hNN:¬ (xss.length:Int) < (bT t ps).length:=by rw [HR.out];have:=HL.out;omega
    go_wp2_with fail
    refine (Qj E HB.out HI1.out (by rw [HX.out,HR.out]) HF.out).mono ?_;intro e w2 hr
    rcases hp:fK t ps keep xss with _ | ⟨outs,keep'⟩
    ·
     rw [hp] at hr;have HP:=Lib.hid hp;obtain ⟨⟨ov,rfl⟩,hb2⟩:=hr;clear hp;go_wp2
     go_ret2
     rw [HR.out,HX.out,decide_eq_true rfl,HP.out];exact ⟨rfl,hb1.trans (hb2.mono hb1.size)⟩
    ·
     rw [hp] at hr;have HP:=Lib.hid hp;obtain ⟨ov,vs',o',rfl,T2,B2,O2⟩:=hr;have hb2:w2.cell? ⟨b,0,none⟩=some (.iface (kP t) (.pointer (some ⟨K,0,none⟩))):=B2.body.cell 0 _ rfl;have HB2:=Lib.hid B2;have nQ:=Lib.hid O2;have HT2:=Lib.hid T2;clear hp B2 O2 T2
     go_wp2_with fail
     refine (Jr _ K n (HB2.out.kind.cell 2 _ (lC t vi vo n _ _ vt vs' HT.out).2.2) (HB2.out.kind.frozen 2) HN.out).mono ?_;rintro e w3 ⟨rfl,rfl⟩;go_wp2
     go_ret2
     rw [HR.out,HX.out,decide_eq_true rfl,HP.out];exact Mt hE ((Turn.of_below o d hb1).mono (fun _ h=>h.elim)) HT2.out HB2.out nQ.out HN.out rfl
 ·
  have XR:¬ (xss.length:Int)=(bT t ps).length:=by rw [HR.out];omega
  go_wp2
  go_ret2
  rw [HR.out,show decide (xss.map (fun l=>(l.length:Int))=R)=false from decide_eq_false fun e=>hlen (by rw [← e];simp)];exact ⟨rfl,hb1⟩
theorem Qm {o:Col}{c:Nat}(w:World)(t:Int)(vi vo:Value)(ao:Option Addr)(n cap:Nat)(ps:List Int)(hg:aF t ps)(h:Ints w o c (.slice ao n cap) ps):Calls Tryz.prog 52 #[.int .u8 t,.agg #[vi,vo,.int .i64 0],.slice ao n cap] w (Made w t vi vo ps):=by
 rcases lW hg with rfl | rfl | rfl | rfl | rfl | rfl | rfl | rfl | rfl | rfl | rfl
 ·
  have h1:1≤ps.length∧ps.length≤16:=by simpa [aF] using hg
  exact Zk w vi vo ao n cap ps h h1.1 h1.2
 ·
  exact Zc w vi vo _ ps
 ·
  exact Zd w vi vo _ ps
 ·
  exact Ze w vi vo _ ps
 ·
  exact Zf w vi vo _ ps
 ·
  exact Zg w vi vo _ ps
 ·
  exact Zh w vi vo _ ps
 ·
  exact Zi w vi vo _ ps
 ·
  exact Zj w vi vo _ ps
 ·
  have h1:ps.length=2:=by simpa [aF] using hg
  obtain rfl:=h.len
  match ps,h1,h with
  | [x,y],_,h=>exact Vl w vi vo ao cap x y h
 ·
  exact Vk w vi vo _ ps
def aaK (w:World)(o:Col)(c d:Nat)(t:Int)(ps:List Int)(e:Ending)(w':World):Prop :=
 ∃ b K vi vo vt vs o',e=.returned (.tuple #[.pointer (some ⟨b,0,none⟩),.int .i64 0])∧Turn o o' (fun _=>False) w w'∧gY w' o' c d b t ps (eT t ps) 0 K vi vo vt vs
theorem yD {t:Int}{ps:List Int}(hg:aF t ps)(hf:∀ x∈ps,Fits x):(∀ x∈eT t ps,Fits x)∧(t=8∨t=10→(eT t ps).length=1)∧(t≠1→t≠8→t≠10→eT t ps=[])∧(t=1→ps.length=(eT t ps).length+1):=by
 have f0:Fits 0:=by unfold Fits;omega
 refine ⟨fun x hx=>?_,fun h=>?_,fun h1 h2 h3=>?_,fun h=>?_⟩
 ·
  unfold eT at hx
  split at hx
  ·
   rw [(List.mem_replicate.1 hx).2];exact f0
  split at hx
  ·
   rw [List.mem_singleton.1 hx];exact f0
  split at hx
  ·
   rename_i h10
   have h2:ps.length=2:=by subst h10;simpa [aF] using hg
   rw [List.mem_singleton.1 hx];exact hf _ (by unfold hd;rw [List.getElem?_eq_getElem (by omega),Option.getD_some];exact List.getElem_mem _)
  ·
   cases hx
 ·
  rcases h with rfl | rfl <;> rfl
 ·
  unfold eT;rw [if_neg h1,if_neg h2,if_neg h3]
 ·
  subst h;have h1:1≤ps.length∧ps.length≤16:=by simpa [aF] using hg
  simp [eT];omega
theorem Gj {w:World}{N:Nat}{o:Col}{d e:Nat}{v:Value}{l:List Int}(h:w.ownsRow N e 1 v l.length (aV l))(ho:∀ k,v.ownBlock=some k→o k=d):Ints w o d v l :=
 Own.vals (e:=e) (n:=l.length) ⟨bG h (fun _ _=>Nat.zero_le _),ho⟩
theorem Zq {o1:Col}{c1:Nat}{w:World}{t:Int}{ao:Option Addr}{n cap:Nat}{ps:List Int}(o:Col)(c d:Nat)(hcd:c≠d)(hg:aF t ps)(hf:∀ x∈ps,Fits x)(h:Ints w o1 c1 (.slice ao n cap) ps):Calls Tryz.prog 17 #[.int .u8 t,.slice ao n cap] w (aaK w o c d t ps):=by
 have hl:ps.length≤64:=by
  unfold aF bS bD at hg;omega
 have HH:=Lib.hid h;have HG:=Lib.hid hg;have HF:=Lib.hid hf;clear h hg hf
 go_enter Tryz.func17,Tryz.ntmps17
 go_wp2_with fail
 refine (XH w t ao n cap ps HG.out (by omega) HH.out).mono ?_;rintro e w1 ⟨vi,vo,rfl,r1,r2,hb1⟩;obtain ⟨ai,ci,rfl⟩:=aB r1;obtain ⟨a2,c2,rfl⟩:=aB r2;have R1:=Lib.hid r1;have R2:=Lib.hid r2;have H1:=Lib.hid (HH.out.has.below hb1);clear r1 r2
 go_wp2_with fail
 refine (Qm w1 t _ _ ao n cap ps HG.out H1.out).mono ?_;rintro e w2 ⟨K,vt,vs,rfl,hK,hKb,hb2,XT⟩;have HK:=Lib.hid hK;have HT:=Lib.hid XT;clear hK XT;go_wp2
 go_ret2
 have s1:=hb1.size;have s2:=hb2.size;have hKl:=block_lt HK.out;have hb:Below w.heap.size w (w2.alloc (.cells #[.iface (kP t) (.pointer (some ⟨K,0,none⟩))] 114)):=(hb1.trans (hb2.mono s1)).alloc (by omega) _;have M2:aI (fun _=>False) w1 w2:=aI.of_below hb2 _;have hlow:∀ v:Value,∀ l:List Int,w1.ownsRow w.heap.size 3 1 v l.length (aV l)→Ints (w2.alloc (.cells #[.iface (kP t) (.pointer (some ⟨K,0,none⟩))] 114)) (fun k=>if k < w.heap.size then o k else if k=K then c else d) d v l:=fun v l hv=>by
  refine Gj ((fD hv M2 (fun _ _ h=>h)).alloc _) fun k hk=>?_
  have:=hv.lt k hk;rw [if_neg (by omega),if_neg (by omega)]
 have hhigh:∀ v:Value,∀ l:List Int,w2.ownsRow w1.heap.size 3 1 v l.length (aV l)→v.ownBlock≠some K→Ints (w2.alloc (.cells #[.iface (kP t) (.pointer (some ⟨K,0,none⟩))] 114)) (fun k=>if k < w.heap.size then o k else if k=K then c else d) d v l:=fun v l hv hvK=>by
  refine Gj (hv.alloc _) fun k hk=>?_
  have:=hv.lt k hk;rw [if_neg (by omega),if_neg (fun e=>hvK (by rw [hk,e]))]
 have hk0:=yD HG.out HF.out;refine ⟨w2.heap.size,K,_,_,vt,vs,_,rfl,⟨aI.of_below hb _,fun k hk=>if_pos hk⟩,⟨⟨heap_alloc_new _ _,?_⟩,⟨aK HK.out _,?_⟩,hlow _ _ R1.out,hlow _ _ R2.out,fun e=>?_,HG.out,HF.out,hk0.1,hk0.2.1,hk0.2.2.1,by unfold Fits;omega,hcd⟩⟩
 ·
  simp only [];rw [if_neg (by omega),if_neg (by omega)]
 ·
  simp only [];rw [if_neg (by omega),if_pos trivial]
 ·
  obtain ⟨t1,t2,t3,t4⟩:=HT.out e;subst e;exact ⟨hhigh _ _ t1 t3,hhigh _ _ t2 t4,hk0.2.2.2 rfl⟩
def Quiet (v:Value)(w:World)(e:Ending)(w':World):Prop:=e=.returned v∧∃ m,w'=w.drewN m
theorem Vs {l l2:List Int}{k:Nat}(_hk:k < l.length)(_hk2:k < l2.length)(h:¬ l[k]?.getD 0=l2[k]?.getD 0):decide (l=l2)=false:=decide_eq_false fun e=>h (by rw [e])
theorem Qn {l l2:List Int}(hl:l.length=l2.length)(h:∀ k,k < l.length→l[k]?.getD 0=l2[k]?.getD 0):decide (l=l2)=true:=by
 refine decide_eq_true (List.ext_getElem hl fun k h1 h2=>?_);have:=h k h1
 simpa [h1,h2] using this
theorem Ck (w:World)(b off c b' off' c':Nat)(l l2:List Int)(hl2:l2.length=l.length)(hl:l.length≤4611686018427387904)(h1:∀ k,k < l.length→w.cell? ⟨b,off+k,none⟩=some (iv (l[k]?.getD 0)))(h2:∀ k,k < l.length→w.cell? ⟨b',off'+k,none⟩=some (iv (l2[k]?.getD 0))) :
  Calls Tryz.prog 27 #[.slice (some ⟨b,off,none⟩) l.length c,.slice (some ⟨b',off',none⟩) l.length c'] w (Quiet (.bool (decide (l=l2))) w):=by
 have H1:=Lib.hid h1;have H2:=Lib.hid h2;have HL:=Lib.hid hl2;clear h1 h2 hl2
 go_enter Tryz.func27,Tryz.ntmps27
 go_wp2
 go_loopw [5] (fun i wr=>∃ k:Nat,k≤l.length∧i=.int .i64 k∧(∀ j,j < k→l[j]?.getD 0=l2[j]?.getD 0)∧∃ m,wr=w.drewN m) (fun i _=>l.length - (intOf i).toNat)
 case atStart=>exact ⟨0,Nat.zero_le _,rfl,fun j hj=>by omega,0,rfl⟩
 case round =>
  obtain ⟨k,hk,rfl,hall,m,rfl⟩:=hrel;have HA:=Lib.hid hall;clear hall
  by_cases hlt:k < l.length
  ·
   have c1:=H1.out k hlt;have c2:=H2.out k hlt;have dG:(k:Int) < l.length:=by omega
   have jL:=Lib.hid (fun h=>Vs (l2:=l2) hlt (by have:=HL.out;omega) h);have HST:=Lib.hid (fun (h:l[k]?.getD 0=l2[k]?.getD 0) j (hj:j < k+1)=>(by
    by_cases hkj:j=k
    ·
     rw [hkj];exact h
    ·
     exact HA.out j (by omega):l[j]?.getD 0=l2[j]?.getD 0))
   generalize l[k]?.getD 0=x at *;generalize l2[k]?.getD 0=y at *
   by_cases hq:x=y
   ·
    have HQ:=Lib.hid (HST.out hq);clear HST;subst hq;go_wp2;go_quiet (fail);go_wp2;go_roundw
    case rel=>exact ⟨k+1,by omega,by go_num,HQ.out,_,rfl⟩
    case measure=>simp [intOf];omega
   ·
    go_wp2;go_quiet (fail);go_wp2;go_ret
    rw [jL.out hq];exact ⟨rfl,m+_,(World.drewN_drewN _ _ _)⟩
  ·
   obtain rfl:k=l.length:=by omega
   have HX:=Lib.hid (Qn HL.out.symm HA.out);go_wp2;go_ret
   rw [HX.out];exact ⟨rfl,_,rfl⟩
theorem Ay (w:World)(a a':Option Addr)(c c':Nat) :
  Calls Tryz.prog 27 #[.slice a 0 c,.slice a' 0 c'] w (Quiet (.bool true) w):=by
 go_enter Tryz.func27,Tryz.ntmps27
 go_wp2
 go_loopw [5] (fun i wr=>i=.int .i64 0∧wr=w) (fun _ _=>0)
 case atStart=>exact ⟨rfl,rfl⟩
 case round =>
  obtain ⟨rfl,rfl⟩:=hrel;go_wp2;go_ret
  exact ⟨rfl,0,rfl⟩
theorem Es (w:World)(a a':Option Addr)(n n' c c':Nat)(h:¬ n=n') :
  Calls Tryz.prog 27 #[.slice a n c,.slice a' n' c'] w (Quiet (.bool false) w):=by
 have hi:¬ (n:Int)=n':=by omega
 go_enter Tryz.func27,Tryz.ntmps27
 go_wp2;go_ret
 exact ⟨rfl,0,rfl⟩
theorem Et {o o2:Col}{c c2:Nat}{w:World}{v v':Value}{l l2:List Int}(h:Ints w o c v l)(h':Ints w o2 c2 v' l2)(hl:l.length≤4611686018427387904) :
  Calls Tryz.prog 27 #[v,v'] w (Quiet (.bool (decide (l=l2))) w):=by
 obtain ⟨a,cp,rfl⟩:=h.slice;obtain ⟨a',cp',rfl⟩:=h'.slice
 by_cases hq:l.length=l2.length
 ·
  by_cases hp:0 < l.length
  ·
   obtain ⟨b,off,rfl,-,-,-,-,h1⟩:=h.at hp;obtain ⟨b',off',rfl,-,-,-,-,h2⟩:=h'.at (by omega);rw [← hq];exact Ck w b off _ b' off' _ l l2 hq.symm hl h1 (fun k hk=>h2 k (by omega))
  ·
   obtain rfl:l=[]:=List.eq_nil_of_length_eq_zero (by omega);obtain rfl:l2=[]:=List.eq_nil_of_length_eq_zero (by simpa using hq.symm);exact Ay w _ _ _ _
 ·
  rw [show decide (l=l2)=false from decide_eq_false fun e=>hq (by rw [e])];exact Es w _ _ _ _ _ _ hq
theorem bY {o o2:Col}{c c2:Nat}{w:World}{v v':Value}{l:List Int}(h:Ints w o c v l)(h':Ints w o2 c2 v' l)(hl:l.length≤4611686018427387904) :
  Calls Tryz.prog 27 #[v,v'] w (Quiet (.bool true) w):=by
 have:=Et h h' hl
 rwa [decide_eq_true rfl] at this
theorem fw {B:Nat}{w w':World}(h:Below B w w')(n:Nat):Below B w (w'.drewN n):=⟨h.os,h.tape,h.output,h.size,h.block⟩
theorem sJ (w:World)(l:List Int)(e:TypeId)(n:Nat)(hn:n=w.heap.size)(hl:l.length≤1000000):Has (w.alloc (.cells (aV l).toArray e)) (.slice (some ⟨n,0,none⟩) l.length l.length) (aV l):=by
 subst hn
 by_cases hp:0 < l.length
 ·
  refine .inr ⟨by simpa using hp,w.heap.size,0,l.length,by simp,by simp,by simp,rfl,fun k hk=>?_⟩;rw [Nat.zero_add];have hk':k < l.length:=by simpa using hk
  exact ah _ _ (heap_alloc_new w _) k _ (by simp [aV,hk'])
 ·
  obtain rfl:l=[]:=List.eq_nil_of_length_eq_zero (by omega);exact .inl ⟨rfl,_,_,rfl⟩
theorem Gl {w:World}{o:Col}{c d b:Nat}{t:Int}{ps keep:List Int}{n:Int}{K:Nat}{vi vo vt vs bL:Value}{xss:List (List Int)}{r:Option (List (List Int) × List Int)}(E:Nat)(hE:E≠c)(h:gY w o c d b t ps keep n K vi vo vt vs)(hins:LL w bL xss)(hf:∀ l∈xss,∀ x∈l,Fits x)(hn1:Fits (n+1))
  (hfit:xss.map (fun l=>(l.length:Int))=bT t ps) (hr:fK t ps keep xss=r):Calls Tryz.prog 97 #[.pointer (some ⟨b,0,none⟩),bL] w (Qk w o c d E b t ps n K vi vo vt true r):=by
 have:=Gi E hE h hins hf hn1
 rwa [decide_eq_true hfit,hr] at this
theorem Qo {w:World}{o:Col}{c d b:Nat}{t:Int}{ps keep:List Int}{n:Int}{K:Nat}{vi vo vt vs bL:Value}{xss:List (List Int)}(h:gY w o c d b t ps keep n K vi vo vt vs)(hins:LL w bL xss)(hf:∀ l∈xss,∀ x∈l,Fits x)(hn1:Fits (n+1))
  (hfit:¬ xss.map (fun l=>(l.length:Int))=bT t ps):Calls Tryz.prog 97 #[.pointer (some ⟨b,0,none⟩),bL] w fun e w'=>e=.returned (.tuple #[.slice none 0 0,.int .i64 1])∧Below w.heap.size w w':=by
 have:=Gi (c+1) (by omega) h hins hf hn1
 rwa [decide_eq_false hfit] at this
def Act (w:World)(o:Col)(c d b:Nat)(t:Int)(ps keep:List Int)(n:Int):Prop:=∃ K vi vo vt vs,gY w o c d b t ps keep n K vi vo vt vs
theorem Act.turn {w w':World}{o o':Col}{C:Nat→Prop}{c d b:Nat}{t:Int}{ps keep:List Int}{n:Int}(h:Act w o c d b t ps keep n)(T:Turn o o' C w w')(hc:¬ C c)(hd:¬ C d):Act w' o' c d b t ps keep n:=by
 obtain ⟨K,vi,vo,vt,vs,h⟩:=h;exact ⟨K,vi,vo,vt,vs,h.turn T hc hd⟩
theorem Act.below {w w':World}{o:Col}{c d b:Nat}{t:Int}{ps keep:List Int}{n:Int}(h:Act w o c d b t ps keep n)(x:Nat)(hb:Below w.heap.size w w'):Act w' (ext o w.heap.size x) c d b t ps keep n:=h.turn (Turn.of_below o x hb) (fun h=>h) (fun h=>h)
theorem Act.drewN {w:World}{o:Col}{c d b:Nat}{t:Int}{ps keep:List Int}{n:Int}(h:Act w o c d b t ps keep n)(m:Nat):Act (w.drewN m) o c d b t ps keep n:=h.turn (Turn.Ac o ⟨m,rfl⟩) (fun h=>h) (fun h=>h)
def Zr (w:World)(o:Col)(c d:Nat)(t:Int)(ps:List Int)(e:Ending)(w':World):Prop :=
 ∃ b o',e=.returned (.tuple #[.pointer (some ⟨b,0,none⟩),.int .i64 0])∧Turn o o' (fun _=>False) w w'∧Act w' o' c d b t ps (eT t ps) 0
theorem Vt {o1:Col}{c1:Nat}{w:World}{t:Int}{ao:Option Addr}{n cap:Nat}{ps:List Int}(o:Col)(c d:Nat)(hcd:c≠d)(hg:aF t ps)(hf:∀ x∈ps,Fits x)(h:Ints w o1 c1 (.slice ao n cap) ps):Calls Tryz.prog 17 #[.int .u8 t,.slice ao n cap] w (Zr w o c d t ps):=by
 refine (Zq o c d hcd hg hf h).mono ?_;rintro e w' ⟨b,K,vi,vo,vt,vs,o',h1,h2,h3⟩;exact ⟨b,o',h1,h2,K,vi,vo,vt,vs,h3⟩
def Vu (w:World)(o:Col)(c d E b:Nat)(t:Int)(ps:List Int)(n:Int)(outs:List (List Int))(keep':List Int)(e:Ending)(w':World):Prop :=
 ∃ ov o',e=.returned (.tuple #[ov,.int .i64 0])∧Turn o o' (fun x=>x=c) w w'∧Act w' o' c d b t ps keep' (n+1)∧jw w' o' E ov outs
def Qp (x:Int)(w:World)(e:Ending)(w':World):Prop:=e=.returned (.tuple #[.slice none 0 0,.int .i64 x])∧Below w.heap.size w w'
theorem Qq {w:World}{o:Col}{c d b:Nat}{t:Int}{ps keep keep':List Int}{n:Int}{bL:Value}{xss outs:List (List Int)}(E:Nat)(hE:E≠c)(h:Act w o c d b t ps keep n)(hins:LL w bL xss)(hf:∀ l∈xss,∀ x∈l,Fits x)(hn1:Fits (n+1))
  (hfit:xss.map (fun l=>(l.length:Int))=bT t ps) (hr:fK t ps keep xss=some (outs,keep')):Calls Tryz.prog 97 #[.pointer (some ⟨b,0,none⟩),bL] w (Vu w o c d E b t ps n outs keep'):=by
 obtain ⟨K,vi,vo,vt,vs,h⟩:=h;refine (Gl E hE h hins hf hn1 hfit hr).mono ?_;rintro e w' ⟨ov,vs',o',h1,h2,h3,h4⟩;exact ⟨ov,o',h1,h2,⟨K,vi,vo,vt,vs',h3⟩,h4⟩
theorem Jv {w:World}{o:Col}{c d b:Nat}{t:Int}{ps keep:List Int}{n:Int}{bL:Value}{xss:List (List Int)}(h:Act w o c d b t ps keep n)(hins:LL w bL xss)(hf:∀ l∈xss,∀ x∈l,Fits x)(hn1:Fits (n+1))
  (hfit:xss.map (fun l=>(l.length:Int))=bT t ps) (hr:fK t ps keep xss=none):Calls Tryz.prog 97 #[.pointer (some ⟨b,0,none⟩),bL] w (Qp 70 w):=by
 obtain ⟨K,vi,vo,vt,vs,h⟩:=h;exact (Gl (c+1) (by omega) h hins hf hn1 hfit hr).mono fun e w' h=>h
theorem Qr {w:World}{o:Col}{c d b:Nat}{t:Int}{ps keep:List Int}{n:Int}{bL:Value}{xss:List (List Int)}(h:Act w o c d b t ps keep n)(hins:LL w bL xss)(hf:∀ l∈xss,∀ x∈l,Fits x)(hn1:Fits (n+1))
  (hfit:¬ xss.map (fun l=>(l.length:Int))=bT t ps):Calls Tryz.prog 97 #[.pointer (some ⟨b,0,none⟩),bL] w (Qp 1 w):=by
 obtain ⟨K,vi,vo,vt,vs,h⟩:=h;exact (Qo h hins hf hn1 hfit).mono fun e w' h=>h
theorem Mv {w:World}{o:Col}{c d b:Nat}{t:Int}{ps keep:List Int}{n:Int}(h:Act w o c d b t ps keep n):Calls Tryz.prog 62 #[.pointer (some ⟨b,0,none⟩)] w fun e w'=>e=.returned (.int .i64 n)∧w=w':=by
 obtain ⟨K,vi,vo,vt,vs,h⟩:=h;exact Js h
theorem C9 {w:World}{o:Col}{c d b:Nat}{t:Int}{ps keep:List Int}{n:Int}(h:Act w o c d b t ps keep n):Calls Tryz.prog 18 #[.pointer (some ⟨b,0,none⟩)] w (Qh w (bT t ps) (bP t ps)):=by
 obtain ⟨K,vi,vo,vt,vs,h⟩:=h;exact Jt h
end Go.Proofs.YtpdlngonocancaaGreat
namespace Go.Proofs.YtpdlngonocancaaGreat
theorem Gm (n m:Nat)(l:List Int):(fF n m l).length=n:=by simp [fF]
theorem Gn (n m:Nat)(l:List Int)(i:Nat)(hi:i < n):(fF n m l)[i]?.getD []=(List.range m).map fun j=>l[j*n+i]?.getD 0:=by simp [fF,hi]
theorem Eu (n m:Nat)(l:List Int)(i:Nat)(hi:i < n):((fF n m l)[i]?.getD []).length=m:=by rw [Gn n m l i hi];simp
theorem Mw (n m:Nat)(l:List Int):(fF n m l).map (fun r=>(r.length:Int))=List.replicate n (m:Int):=by
 refine List.ext_getElem (by simp [fF]) fun i h1 h2=>?_
 simp [fF]
open Go.RowKit
theorem Vv {t:Int}{ps:List Int}(h:aF t ps):∀ x∈bP t ps,x≤64:=by
 unfold aF bD bS at h;intro x hx;unfold bP at hx
 split at hx
 ·
  simp at hx;omega
 split at hx
 ·
  simp at hx;omega
 split at hx
 ·
  have:=(List.mem_replicate.1 hx).2;omega
 split at hx
 ·
  have:=(List.mem_replicate.1 hx).2;omega
 split at hx
 ·
  simp at hx
 ·
  simp at hx;omega
theorem wY {t:Int}{ps keep keep':List Int}{xss outs:List (List Int)}(hg:aF t ps)(hfit:xss.map (fun l=>(l.length:Int))=bT t ps)(hr:fK t ps keep xss=some (outs,keep')):outs.map (fun l=>(l.length:Int))=bP t ps:=by
 unfold aF at hg
 rcases hg with ⟨rfl,_⟩ | ⟨rfl,hg⟩ | ⟨rfl,hg⟩ | ⟨rfl,hg⟩ | ⟨rfl,hg⟩ | ⟨rfl,hg⟩ | ⟨rfl,_⟩ | ⟨rfl,_⟩ | ⟨rfl,hg⟩ | ⟨rfl,_⟩ | ⟨rfl,hg⟩
 ·
  simp only [fK,if_true,Option.map_eq_some_iff] at hr;obtain ⟨y,-,e⟩:=hr;cases e;simp [bP]
 ·
  obtain ⟨_,h1,h2⟩:=hg;simp [fK] at hr;obtain ⟨rfl,-⟩:=hr;simp [bP];omega
 ·
  simp [fK] at hr;obtain ⟨rfl,-⟩:=hr;simp [bP]
 ·
  obtain ⟨_,⟨h1,h2⟩,⟨h3,h4⟩,h5⟩:=hg;simp [fK] at hr;obtain ⟨rfl,-⟩:=hr;have hx:xss.length=(hd ps).toNat:=by have:=congrArg List.length hfit;simpa [bT] using this
  simp [bP,uy,hx];rw [Int.max_eq_left (by omega),Int.max_eq_left (by omega),Int.mul_comm]
 ·
  obtain ⟨_,⟨h1,h2⟩,⟨h3,h4⟩,h5⟩:=hg;simp [fK] at hr;obtain ⟨rfl,-⟩:=hr;rw [Mw];simp [bP];omega
 ·
  simp [fK] at hr;obtain ⟨y,-,rfl,-⟩:=hr;simp [bP]
 ·
  simp [fK] at hr;obtain ⟨y,-,rfl,-⟩:=hr;simp [bP]
 ·
  simp [fK] at hr;obtain ⟨-,rfl,-⟩:=hr;simp [bP]
 ·
  simp [fK] at hr;obtain ⟨rfl,-⟩:=hr;simp [bP]
 ·
  simp [fK] at hr;obtain ⟨-,rfl,-⟩:=hr;simp [bP]
 ·
  simp [fK] at hr;obtain ⟨rfl,-⟩:=hr;simp [bP]
theorem Qs {t:Int}{ps keep keep':List Int}{xss outs:List (List Int)}(hg:aF t ps)(hfit:xss.map (fun l=>(l.length:Int))=bT t ps)(hr:fK t ps keep xss=some (outs,keep'))(j:Nat):(outs[j]?.getD []).length≤64:=by
 by_cases h:j < outs.length
 ·
  have e:=wY hg hfit hr;have hm:((outs[j].length:Nat):Int)∈bP t ps:=by rw [← e];exact List.mem_map.2 ⟨outs[j],List.getElem_mem h,rfl⟩
  have:=Vv hg _ hm;simp [h];omega
 ·
  simp [show outs.length≤j by omega]
theorem Jw {t:Int}{ps keep keep':List Int}{xss outs:List (List Int)}(hg:aF t ps)(hfit:xss.map (fun l=>(l.length:Int))=bT t ps)(hr:fK t ps keep xss=some (outs,keep')):outs.length≤64:=by
 have e:=congrArg List.length (wY hg hfit hr);have:=(sI hg).2;simp at e;omega
structure Qt where
 name:ByteArray
 tag:Int
 params:List Int
structure XU where
 src:Int
 aaL:Int
 dst:Int
 aaM:Int
 start:List Int
structure Qu where
 name:ByteArray
 aaN:Int
 port:Int
structure Zt where
 name:ByteArray
 actors:List Qt
 edges:List XU
 ins:List Qu
 outs:List Qu
structure Vw where
 base:Int
 size:Int
structure adl where
 regions:List Vw
 total:Int
inductive Zu where
 | nil:Zu
 | cons (times node:Int) (body rest:Zu):Zu
section
variable {w w':World}
def kR {α:Type}(w:World)(sz:Nat)(R:World→α→List Value→Prop)(v:Value)(l:List α):Prop :=
 (l=[]∧∃ ao cap,v=.slice ao 0 cap) ∨
 (0 < l.length∧∃ b off cap,v=.slice (some ⟨b,off,none⟩) l.length cap∧l.length≤cap∧b < w.heap.size ∧
  ∀ k (hk:k < l.length),∃ cs,cs.length=sz∧R w l[k] cs∧∀ i,i < sz→w.cell? ⟨b,off+k*sz+i,none⟩=some (cs[i]?.getD undef))
def Jy {α:Type}(R:World→α→List Value→Prop):Prop:=∀ w w' a cs,Below w.heap.size w w'→R w a cs→R w' a cs
theorem kR.below {α:Type}{sz:Nat}{R:World→α→List Value→Prop}(hR:Jy R){v:Value}{l:List α}(h:kR w sz R v l)(hb:Below w.heap.size w w'):kR w' sz R v l:=by
 rcases h with h | ⟨hp,b,off,cap,e,hl,hlt,h⟩
 ·
  exact .inl h
 ·
  refine .inr ⟨hp,b,off,cap,e,hl,Nat.lt_of_lt_of_le hlt hb.size,fun k hk=>?_⟩;obtain ⟨cs,h1,h2,h3⟩:=h k hk;exact ⟨cs,h1,hR w w' _ _ hb h2,fun i hi=>(hb.cell hlt).trans (h3 i hi)⟩
theorem kR.slice {α:Type}{sz:Nat}{R:World→α→List Value→Prop}{v:Value}{l:List α}(h:kR w sz R v l):∃ ao cap,v=.slice ao l.length cap:=by
 rcases h with ⟨rfl,ao,cap,rfl⟩ | ⟨_,b,off,cap,rfl,_⟩
 ·
  exact ⟨_,_,rfl⟩
 ·
  exact ⟨_,_,rfl⟩
theorem kR.at {α:Type}{sz:Nat}{R:World→α→List Value→Prop}{ao:Option Addr}{n cap:Nat}{l:List α}(h:kR w sz R (.slice ao n cap) l)(hp:0 < l.length) :
  ∃ b off,ao=some ⟨b,off,none⟩∧l.length≤cap∧b < w.heap.size∧∀ k (hk:k < l.length),∃ cs,cs.length=sz∧R w l[k] cs∧∀ i,i < sz→w.cell? ⟨b,off+k*sz+i,none⟩=some (cs[i]?.getD undef):=by
 rcases h with ⟨rfl,_⟩ | ⟨_,b,off,cap',e,hl,hlt,h⟩
 ·
  simp at hp
 ·
  cases e
  exact ⟨b,off,rfl,hl,hlt,h⟩
def Zv (w:World)(a:Qt)(cs:List Value):Prop:=∃ x,cs=[.string a.name,.int .u8 a.tag,x]∧Has w x (aV a.params)
def aaO (w:World)(e:XU)(cs:List Value):Prop:=∃ x,cs=[.int .i64 e.src,.int .i64 e.aaL,.int .i64 e.dst,.int .i64 e.aaM,x]∧Has w x (aV e.start)
def XV (_:World)(p:Qu)(cs:List Value):Prop:=cs=[.string p.name,.int .i64 p.aaN,.int .i64 p.port]
structure aaP (w:World) (v:Value) (g:Zt):Prop where
 shape:∃ va ve vi vo,v=.agg #[.string g.name,va,ve,vi,vo]∧kR w 3 Zv va g.actors∧kR w 5 aaO ve g.edges∧kR w 3 XV vi g.ins∧kR w 3 XV vo g.outs
end
structure fG where
 kind:Int
 a:Int
 b:Int
def Qv (x:fG):List Value:=[.int .u8 x.kind,.int .i64 x.a,.int .i64 x.b]
def opsV (l:List fG):List Value:=l.flatMap Qv
theorem wZ (x:fG)(l:List fG):opsV (x :: l)=.int .u8 x.kind :: .int .i64 x.a :: .int .i64 x.b :: opsV l:=rfl
theorem ny:∀ l:List fG,(opsV l).length=l.length*3
 | []=>rfl
 | x :: l=>by rw [wZ];simp only [List.length_cons,ny l];omega
theorem qZ:∀ (l:List fG) (k:Nat) (h:k < l.length),(opsV l)[k*3]?=some (.int .u8 l[k].kind)∧(opsV l)[k*3+1]?=some (.int .i64 l[k].a)∧(opsV l)[k*3+2]?=some (.int .i64 l[k].b)
 | [],k,h=>by simp at h
 | x :: l,0,_=>⟨rfl,rfl,rfl⟩
 | x :: l,k+1,h=>by
  have ih:=qZ l k (by simpa using h);rw [wZ,show (k+1)*3=k*3+1+1+1 by omega];exact ⟨ih.1,ih.2.1,ih.2.2⟩
theorem vE:∀ (l:List fG),∀ u∈opsV l,u.oneCell'=true
 | [],u,h=>by simp [opsV] at h
 | x :: l,u,h=>by
  rw [wZ] at h;simp only [List.mem_cons] at h
  rcases h with rfl | rfl | rfl | h
  ·
   rfl
  ·
   rfl
  ·
   rfl
  ·
   exact vE l u h
def opZ:Value:=.agg #[.int .u8 0,.int .i64 0,.int .i64 0]
def eB (w:World)(v:Value)(l:List fG):Prop:=∃ ao cap,v=.slice ao l.length cap∧(ao=none→l.length=0)∧(l.length≤cap∧∀ ad,ao=some ad→ad.spot=none)∧∀ ad,ao=some ad→∀ j u,(opsV l)[j]?=some u→w.cell? (ad.add j)=some u
theorem eB.below {w w':World}{v:Value}{l:List fG}(h:eB w v l)(hb:Below w.heap.size w w'):eB w' v l:=by
 obtain ⟨ao,cap,h1,h2,h3,h4⟩:=h;refine ⟨ao,cap,h1,h2,h3,fun ad e j u hu=>?_⟩;have:=h4 ad e j u hu;exact (hb.cell (World.block_lt_of_cell? _ _ this)).trans this
theorem eB.at {w:World}{ao:Option Addr}{n cap:Nat}{l:List fG}(h:eB w (.slice ao n cap) l){k:Nat}(hk:k < l.length):n=l.length∧n≤cap∧∃ b off,ao=some ⟨b,off,none⟩∧∀ i (hi:i < l.length),w.cell? ⟨b,off+i*3,none⟩=some (.int .u8 l[i].kind)∧w.cell? ⟨b,off+i*3+1,none⟩=some (.int .i64 l[i].a)∧w.cell? ⟨b,off+i*3+2,none⟩=some (.int .i64 l[i].b):=by
 obtain ⟨KN,cap',e,h2,h3,h4⟩:=h;cases e
 refine ⟨rfl,h3.1,?_⟩;cases ao with
 | none=>have:=h2 rfl;omega
 | some ad =>
  obtain ⟨b,off,sp⟩:=ad;obtain rfl:sp=none:=h3.2 _ rfl;refine ⟨b,off,rfl,fun i hi=>?_⟩;obtain ⟨g1,g2,g3⟩:=qZ l i hi;have a1:=h4 _ rfl _ _ g1;have a2:=h4 _ rfl _ _ g2;have a3:=h4 _ rfl _ _ g3;rw [Addr.add_lit] at a1 a2 a3;rw [Nat.add_assoc,Nat.add_assoc];exact ⟨a1,a2,a3⟩
theorem eB.slice {w:World}{v:Value}{l:List fG}(h:eB w v l):∃ ao cap,v=.slice ao l.length cap:=by
 obtain ⟨ao,cap,e,_⟩:=h;exact ⟨ao,cap,e⟩
theorem Own.row {w:World}{o:Col}{c:Nat}{v:Value}{l:List fG}(h:Own w o c 58 3 v l.length (opsV l)):eB w v l:=by
 rcases h.1.2 with ⟨rfl,h0⟩ | ⟨G,cap,cur,rfl,_,_,hnc,_⟩
 ·
  refine ⟨none,0,by rw [h0],fun _=>h0,⟨by omega,fun ad e=>by cases e⟩,fun ad e=>by cases e⟩
 ·
  refine ⟨_,cap,rfl,(fun e=>by cases e),⟨hnc,fun ad e=>by cases e;rfl⟩,fun ad e j u hu=>?_⟩;obtain rfl:=Option.some.inj e;exact h.1.cells (g:=G) rfl j u hu
structure eu where
 tag:Int
 params:List Int
structure dN where
 base:Int
 size:Int
 start:List Int
structure ay where
 memory:Int
 counters:Int
 ins:Int
 outs:Int
 parts:List eu
 lines:List dN
 ops:List fG
theorem Mx (t:Int):zw t=60∨zw t=61:=by unfold zw;split <;> simp
structure aaQ where
 err:Int
 outs:List (List Int)
 keep:List Int
 n:Int
def jh (t:Int)(ps keep:List Int)(n:Int)(xss:List (List Int)):aaQ :=
 if xss.map (fun l=>(l.length:Int))=bT t ps then
  match fK t ps keep xss with
  | some (outs,keep')=>⟨0,outs,keep',n+1⟩
  | none=>⟨70,[],keep,n⟩
 else ⟨1,[],keep,n⟩
theorem Qw {w:World}{o:Col}{c d b:Nat}{t:Int}{ps keep:List Int}{n:Int}{bL:Value}{xss:List (List Int)}(E:Nat)(hE:E≠c)(h:Act w o c d b t ps keep n)(hins:LL w bL xss)(hf:∀ l∈xss,∀ x∈l,Fits x)(hn1:Fits (n+1)) :
  Calls Tryz.prog 97 #[.pointer (some ⟨b,0,none⟩),bL] w fun e w'=>∃ gv o',e=.returned (.tuple #[gv,.int .i64 (jh t ps keep n xss).err])∧Turn o o' (fun x=>x=c) w w'∧Act w' o' c d b t ps (jh t ps keep n xss).keep (jh t ps keep n xss).n∧jw w' o' E gv (jh t ps keep n xss).outs:=by
 unfold jh
 by_cases hfit:xss.map (fun l=>(l.length:Int))=bT t ps
 ·
  rw [if_pos hfit]
  rcases hr:fK t ps keep xss with _ | ⟨outs,keep'⟩
  ·
   refine (Jv h hins hf hn1 hfit hr).mono ?_;rintro e w' ⟨rfl,hb⟩;exact ⟨_,_,rfl,(Turn.of_below o E hb).mono (fun _ h=>h.elim),h.below E hb,jw.nil _ _ _⟩
  ·
   refine (Qq E hE h hins hf hn1 hfit hr).mono ?_;rintro e w' ⟨ov,o',rfl,h1,h2,h3⟩;exact ⟨ov,o',rfl,h1,h2,h3⟩
 ·
  rw [if_neg hfit];refine (Qr h hins hf hn1 hfit).mono ?_;rintro e w' ⟨rfl,hb⟩;exact ⟨_,_,rfl,(Turn.of_below o E hb).mono (fun _ h=>h.elim),h.below E hb,jw.nil _ _ _⟩
theorem Da {t:Int}{ps keep:List Int}{n:Int}{xss:List (List Int)}(hg:aF t ps):(jh t ps keep n xss).outs.length≤64∧∀ j:Nat,((jh t ps keep n xss).outs[j]?.getD []).length≤64:=by
 unfold jh
 by_cases hfit:xss.map (fun l=>(l.length:Int))=bT t ps
 ·
  rw [if_pos hfit]
  rcases hr:fK t ps keep xss with _ | ⟨outs,keep'⟩
  ·
   exact ⟨Nat.zero_le _,fun j=>by simp⟩
  ·
   exact ⟨Jw hg hfit hr,fun j=>Qs hg hfit hr j⟩
 ·
  rw [if_neg hfit];exact ⟨Nat.zero_le _,fun j=>by simp⟩
theorem Db:∀ (xs ys:List Int) (acc:Int) {y:Int},Fits acc→mE acc xs ys=some y→Fits y
 | [],_,acc,y,h,e=>by simp [mE] at e;rw [← e];exact h
 | _ :: _,[],acc,y,h,e=>by simp [mE] at e;rw [← e];exact h
 | x :: xs,z :: ys,acc,y,h,e=>by
  rw [mE] at e
  split at e
  ·
   rename_i h1
   exact Db xs ys _ h1.2 e
  ·
   cases e
theorem Dc:∀ (xs:List Int) (acc:Int) {y:Int},Fits acc→nT acc xs=some y→Fits y
 | [],acc,y,h,e=>by simp [nT] at e;rw [← e];exact h
 | x :: xs,acc,y,h,e=>by
  rw [nT] at e
  split at e
  ·
   rename_i h1
   exact Dc xs _ h1 e
  ·
   cases e
theorem Jz {a b y:Int}(ha:Fits a)(h:jm a b=some y):Fits y:=by
 unfold jm at h
 split at h
 ·
  cases h
 ·
  split at h
  ·
   split at h
   ·
    rename_i h1
    rw [← Option.some.inj h];exact h1
   ·
    cases h
  ·
   rename_i h0 h1
   rw [← Option.some.inj h];unfold Fits at ha ⊢
   by_cases hb:b=1
   ·
    rw [hb,Int.tdiv_one];exact ha
   ·
    have h2:2≤b.natAbs:=by omega
    have h3:(a.tdiv b).natAbs=a.natAbs / b.natAbs:=Int.natAbs_tdiv a b;have h4:a.natAbs / b.natAbs≤a.natAbs / 2:=Nat.div_le_div_left h2 (by omega);omega
theorem sK {l:List Int}(h:∀ x∈l,Fits x)(k:Nat):Fits (l[k]?.getD 0):=by
 by_cases hk:k < l.length
 ·
  rw [List.getElem?_eq_getElem hk];exact h _ (List.getElem_mem hk)
 ·
  rw [List.getElem?_eq_none (by omega)];unfold Fits;decide
theorem Gp {l:List (List Int)}(h:∀ r∈l,∀ x∈r,Fits x)(k:Nat):∀ x∈l[k]?.getD [],Fits x:=by
 by_cases hk:k < l.length
 ·
  rw [List.getElem?_eq_getElem hk];exact h _ (List.getElem_mem hk)
 ·
  rw [List.getElem?_eq_none (by omega)];intro x hx;cases hx
theorem MB {t:Int}{ps keep keep':List Int}{xss outs:List (List Int)}(_hp:∀ x∈ps,Fits x)(hk:∀ x∈keep,Fits x)(hx:∀ l∈xss,∀ x∈l,Fits x)(hr:fK t ps keep xss=some (outs,keep')):(∀ l∈outs,∀ x∈l,Fits x)∧∀ x∈keep',Fits x:=by
 have f0:Fits 0:=by unfold Fits;decide
 have hh:∀ k,Fits (hd (xss[k]?.getD [])):=fun k=>sK (Gp hx k) 0
 have one:∀ y,Fits y→∀ l∈[[y]],∀ x∈l,Fits x:=fun y hy l hl x hx=>by
  rw [List.mem_singleton.1 hl] at hx;rw [List.mem_singleton.1 hx];exact hy
 unfold fK at hr
 split at hr
 ·
  obtain ⟨y,hy,e⟩:=Option.map_eq_some_iff.1 hr;cases e
  refine ⟨one y (Db _ _ _ f0 hy),fun x hx=>?_⟩
  rcases List.mem_cons.1 (List.mem_of_mem_take hx) with rfl | hx
  ·
   exact hh 0
  ·
   exact hk x hx
 split at hr
 ·
  cases hr
  refine ⟨fun l hl x hx=>?_,hk⟩;rw [List.mem_singleton.1 hl] at hx
  rcases List.mem_cons.1 hx with rfl | hx
  ·
   exact hh 0
  ·
   rw [(List.mem_replicate.1 hx).2];exact f0
 split at hr
 ·
  cases hr
  exact ⟨one _ (hh 0),hk⟩
 split at hr
 ·
  cases hr
  refine ⟨fun l hl x hx'=>?_,hk⟩;rw [List.mem_singleton.1 hl] at hx';obtain ⟨j,_,hx'⟩:=List.mem_flatMap.1 hx';obtain ⟨r,hr,rfl⟩:=List.mem_map.1 hx';exact sK (hx r hr) j
 split at hr
 ·
  cases hr
  refine ⟨fun l hl x hx'=>?_,hk⟩;obtain ⟨i,_,rfl⟩:=List.mem_map.1 hl;obtain ⟨j,_,rfl⟩:=List.mem_map.1 hx';exact sK (Gp hx 0) _
 split at hr
 ·
  obtain ⟨y,hy,e⟩:=Option.map_eq_some_iff.1 hr;cases e
  exact ⟨one y (Dc _ _ f0 hy),hk⟩
 split at hr
 ·
  obtain ⟨y,hy,e⟩:=Option.map_eq_some_iff.1 hr;cases e
  exact ⟨one y (Jz (hh 0) hy),hk⟩
 split at hr
 ·
  split at hr
  ·
   rename_i h1
   cases hr
   refine ⟨one _ h1,fun x hx=>?_⟩;rw [List.mem_singleton.1 hx];exact h1
  ·
   cases hr
 split at hr
 ·
  cases hr
  refine ⟨fun l hl x hx'=>?_,hk⟩;rw [(List.mem_replicate.1 hl).2] at hx';rw [List.mem_singleton.1 hx'];exact hh 0
 split at hr
 ·
  split at hr
  ·
   rename_i h1
   cases hr
   refine ⟨one _ (sK hk 0),fun x hx=>?_⟩;rw [List.mem_singleton.1 hx];exact h1
  ·
   cases hr
 ·
  cases hr
  exact ⟨(fun l hl=>by cases hl),hk⟩
theorem KX (n:Nat)(x:Int):(List.replicate n x).sum=n*x:=by
 induction n with
 | zero=>simp
 | succ n ih=>rw [List.replicate_succ,List.sum_cons,ih,Int.natCast_succ,Int.add_mul];omega
theorem Qx {t:Int}{ps:List Int}(h:aF t ps):(bP t ps).sum≤64:=by
 unfold aF bD bS at h;unfold bP
 split
 ·
  simp;omega
 split
 ·
  simp;omega
 split
 ·
  rw [KX,show (((hd ps).toNat:Nat):Int)=hd ps by omega];omega
 split
 ·
  rw [KX];omega
 split
 ·
  simp
 ·
  simp
theorem jb:∀ l:List (List Int),((l.flatten.length:Nat):Int)=(l.map fun r=>(r.length:Int)).sum
 | []=>rfl
 | r :: l=>by
  have:=jb l;rw [List.flatten_cons,List.length_append,List.map_cons,List.sum_cons,← this];omega
theorem Ev {t:Int}{ps keep:List Int}{n:Int}{xss:List (List Int)}(hg:aF t ps)(hp:∀ x∈ps,Fits x)(hk:∀ x∈keep,Fits x)(hx:∀ l∈xss,∀ x∈l,Fits x) :
  (∀ l∈(jh t ps keep n xss).outs,∀ x∈l,Fits x)∧(jh t ps keep n xss).outs.flatten.length≤64∧(∀ x∈(jh t ps keep n xss).keep,Fits x)∧n≤(jh t ps keep n xss).n∧(jh t ps keep n xss).n≤n+1:=by
 unfold jh
 by_cases hfit:xss.map (fun l=>(l.length:Int))=bT t ps
 ·
  rw [if_pos hfit]
  rcases hr:fK t ps keep xss with _ | ⟨outs,keep'⟩
  ·
   exact ⟨fun l hl=>(by cases hl),Nat.zero_le _,hk,Int.le_refl _,by show n≤n+1;omega⟩
  ·
   have h1:=MB hp hk hx hr;have h2:=jb outs;have h3:=Qx hg;rw [wY hg hfit hr] at h2;exact ⟨h1.1,by show outs.flatten.length≤64;omega,h1.2,by show n≤n+1;omega,Int.le_refl _⟩
 ·
  rw [if_neg hfit];exact ⟨fun l hl=>(by cases hl),Nat.zero_le _,hk,Int.le_refl _,by show n≤n+1;omega⟩
theorem JA {t:Int}{ps:List Int}(hg:aF t ps)(hf:∀ x∈ps,Fits x):∀ x∈eT t ps,Fits x:=(yD hg hf).1
def Ew (w:World)(o:Col)(c d b:Nat)(p:eu)(k:List Int × Int):Prop:=Act w o c d b p.tag p.params k.1 k.2
theorem Ew.turn {w w':World}{o o':Col}{C:Nat→Prop}{c d b:Nat}{p:eu}{k:List Int × Int}(h:Ew w o c d b p k)(T:Turn o o' C w w')(hc:¬ C c)(hd:¬ C d):Ew w' o' c d b p k:=Act.turn h T hc hd
end Go.Proofs.YtpdlngonocancaaGreat
