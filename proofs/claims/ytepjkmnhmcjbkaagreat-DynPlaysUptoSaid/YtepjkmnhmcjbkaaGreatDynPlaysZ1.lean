import Derived.WalkKit
import Derived.WalkSpells
import Derived.WalkLawsBesides
import Derived.Lib.Hide
import Derived.OneCell
import Derived.OrdersHeld
import Derived.StillTail
import Derived.Deep.RegionHeld3
import Derived.Test.YtepjkmnhmcjbkaaGreatProg
import Derived.Deep.QuietTactic
import Derived.BigQuiet
import Derived.Deep.DeepMust
import Derived.Laws.OwnMore
set_option linter.unusedVariables false
set_option linter.unusedSimpArgs false
set_option maxRecDepth 100000
set_option maxHeartbeats 20000000
namespace Go.Proofs.YtepjkmnhmcjbkaaGreat
open Go.RowKit
structure aG (F:Nat->Prop) (w w':World):Prop where
 os:w'.os=w.os
 tape:w'.tape=w.tape
 output:w'.output=w.output
 size:w.heap.size<=w'.heap.size
 block:∀ k,k < w.heap.size->¬ F k->w'.heap[k]?=w.heap[k]?
theorem aG.refl (F:Nat->Prop)(w:World):aG F w w:=⟨rfl,rfl,rfl,Nat.le_refl _,fun _ _ _=>rfl⟩
theorem aG.trans {F G H:Nat->Prop}{a b c:World}(h:aG F a b)(k:aG G b c)(hF:∀ n,n < a.heap.size->F n->H n)(hG:∀ n,n < a.heap.size->G n->H n):aG H a c :=
 ⟨k.os.trans h.os,k.tape.trans h.tape,k.output.trans h.output,Nat.le_trans h.size k.size,
  fun n hn hH=>(k.block n (Nat.lt_of_lt_of_le hn h.size) (fun g=>hH (hG n hn g))).trans (h.block n hn (fun f=>hH (hF n hn f)))⟩
theorem aG.mono {F G:Nat->Prop}{a b:World}(h:aG F a b)(hF:∀ n,n < a.heap.size->F n->G n):aG G a b :=
 ⟨h.os,h.tape,h.output,h.size,fun n hn hg=>h.block n hn (fun f=>hg (hF n hn f))⟩
theorem aG.drew {F:Nat->Prop}{a b:World}(h:aG F a b):aG F a b.drew:=⟨h.os,h.tape,h.output,h.size,h.block⟩
theorem aG.drewN {F:Nat->Prop}{a b:World}(h:aG F a b)(n:Nat):aG F a (b.drewN n):=⟨h.os,h.tape,h.output,h.size,h.block⟩
theorem aG.alloc {F:Nat->Prop}{a b:World}(h:aG F a b)(o:Obj):aG F a (b.alloc o) :=
 ⟨h.os,h.tape,h.output,Nat.le_trans h.size (by simp),fun k hk hf=>(Below.heap_alloc b o k (Nat.lt_of_lt_of_le hk h.size)).trans (h.block k hk hf)⟩
theorem aG.setCell {F:Nat->Prop}{a b:World}(h:aG F a b){p:Addr}(hp:p.block < a.heap.size->F p.block)(u:Value):aG F a (b.setCell p u) :=
 ⟨h.os,h.tape,h.output,by simpa [World.setCell] using h.size,fun k hk hf=>(Below.heap_setCell b p u k (fun e=>hf (e ▸ hp (e ▸ hk)))).trans (h.block k hk hf)⟩
theorem aG.grown {F:Nat->Prop}{a b c:World}(h:aG F a b){row:Option Nat}(hg:b.grownBy c row)(hr:∀ k,row=some k->k < a.heap.size->F k):aG F a c :=
 ⟨hg.os.trans h.os,hg.tape.trans h.tape,hg.output.trans h.output,Nat.le_trans h.size hg.size,
  fun k hk hf=>(hg.block k (Nat.lt_of_lt_of_le hk h.size) (fun e=>hf (hr k e.symm hk))).trans (h.block k hk hf)⟩
theorem aG.below {F:Nat->Prop}{a b:World}(h:aG F a b){B:Nat}(hB:B<=a.heap.size)(hF:∀ k,k < B->¬ F k):Below B a b :=
 ⟨h.os,h.tape,h.output,h.size,fun k hk=>h.block k (Nat.lt_of_lt_of_le hk hB) (hF k hk)⟩
theorem aG.of_below {a b:World}(h:Below a.heap.size a b)(F:Nat->Prop):aG F a b:=⟨h.os,h.tape,h.output,h.size,fun k hk _=>h.block k hk⟩
theorem aG.of_grownBy {a b:World}{row:Option Nat}(h:a.grownBy b row):aG (fun k=>row=some k) a b :=
 ⟨h.os,h.tape,h.output,h.size,fun k hk hf=>h.block k hk (fun e=>hf e.symm)⟩
theorem aG.cell {F:Nat->Prop}{a b:World}(h:aG F a b){p:Addr}(hp:p.block < a.heap.size)(hf:¬ F p.block):b.cell? p=a.cell? p:=World.cell?_of_block (w:=a) (h.block p.block hp hf)
theorem eD {w w':World}{F:Nat->Prop}{base e size:Nat}{v:Value}{n:Nat}{xs:List Value}(h:w.ownsRow base e size v n xs)(hm:aG F w w')(hf:∀ k,v.ownBlock=some k->¬ F k):w'.ownsRow base e size v n xs:=by
 refine ⟨h.1,?_⟩
 rcases h.2 with hn | ⟨g,cap,cur,rfl,hb,hg,r⟩
 ·
  exact .inl hn
 ·
  exact .inr ⟨g,cap,cur,rfl,hb,by rw [hm.block g (Array.getElem?_eq_some_iff.1 hg).1 (hf g rfl)];exact hg,r⟩
theorem bI {w:World}{base base' e size:Nat}{v:Value}{n:Nat}{xs:List Value}(h:w.ownsRow base e size v n xs)(hb:∀ k,v.ownBlock=some k->base'<=k):w.ownsRow base' e size v n xs:=by
 refine ⟨h.1,?_⟩
 rcases h.2 with hn | ⟨g,cap,cur,rfl,_,hg,r⟩
 ·
  exact .inl hn
 ·
  exact .inr ⟨g,cap,cur,rfl,hb g rfl,hg,r⟩
theorem Iy {need old:Nat}(h:old < need):Builtin.nextslicecap need old<=need+need / 4+512:=by
 unfold Builtin.nextslicecap
 split
 ·
  omega
 ·
  split
  ·
   omega
  ·
   rw [growBy_four]
   repeat' split
   all_goals omega
theorem bA {need bytes:Nat}(hb:(need+need / 4+512)*bytes<=281474976710656):∀ old,old < need->Builtin.nextslicecap need old*bytes<=281474976710656 :=
 fun _ h=>Nat.le_trans (Nat.mul_le_mul_right _ (Iy h)) hb
theorem SX {P:Program}(w:World)(base:Nat)(t ty e:TypeId)(i:TypeInfo)(z:Value)(size bytes:Nat)(ht:P.underlying t=some (.slice e))(hi:P.info? e=some i)(hz:i.zero=some z)
  (hsize:i.size=size) (hby:i.bytes=bytes) (hzs:z.cells.size=size)
  (v:Value) (n:Nat) (xs:List Value) (hown:w.ownsRow base e size v n xs)
  (ao:Option Addr) (m c:Nat) (news:List Value) (hl:news.length=m*size) (hnone:ao=none->m=0) (hnews:∀ a,ao=some a->∀ j u,news[j]?=some u->w.cell? (a.add j)=some u) (h1:∀ u∈news,u.oneCell'=true)
  (h63:n+m<=maxLen) (hgrow:∀ old,old < n+m->Builtin.nextslicecap (n+m) old*bytes<=281474976710656) (hbase:base<=w.heap.size) :
  ∃ v' w',(Builtin.append_ #[t,t] ty #[v,.slice ao m c]).run P w=.ok v' w'/\w'.ownsRow base e size v' (n+m) (xs ++ news)/\w.grownBy w' v.ownBlock /\
   (v'=.slice none 0 0↔v=.slice none 0 0/\m=0)/\(v'.ownBlock=v.ownBlock\/v'.ownBlock=some w.heap.size):=by
 subst hsize;subst hby
 cases ao with
 | none =>
  obtain rfl:=hnone rfl;have hn:news=[]:=List.eq_nil_of_length_eq_zero (by simpa using hl);subst hn;refine ⟨v,w,?_,by simpa using hown,World.grownBy.refl _ _,by simp,.inl rfl⟩
  rcases hown.2 with ⟨rfl,rfl⟩ | ⟨g,cap,cur,rfl,_,_,hnc,_⟩
  ·
   simp [Builtin.append_,run_underlying ht,sizeOf,typeInfo,hi,Builtin.lenOf,Builtin.firstCells]
  ·
   simp [Builtin.append_,run_underlying ht,sizeOf,typeInfo,hi,Builtin.lenOf,Builtin.firstCells,hnc,storeCells]
 | some a =>
  have hnews:=hnews a rfl;have hsmall:n+m<=9223372036854775807:=by simp only [maxLen] at h63;omega
  have hlen:(xs ++ news).length=(n+m)*i.size:=by rw [List.length_append,hown.1,hl,Nat.add_mul]
  have grown:∀ (old:Nat),old < n+m->∀ (row:Option Nat),
    (w.drew.alloc (.cells (xs.toArray ++ news.toArray ++ Builtin.zeroCells z.cells (grownCap w (n+m) old e - (n+m))) e)).ownsRow base e i.size
     (.slice (some ⟨w.heap.size,0,none⟩) (n+m) (grownCap w (n+m) old e)) (n+m) (xs ++ news) /\
    w.grownBy (w.drew.alloc (.cells (xs.toArray ++ news.toArray ++ Builtin.zeroCells z.cells (grownCap w (n+m) old e - (n+m))) e)) row:=by
   intro old ho row;have hge:=grownCap_ge w (n+m) old e;have hcm:grownCap w (n+m) old e<=maxLen:=grownCap_le_maxLen w (n+m) old e h63;refine ⟨⟨hlen,.inr ⟨w.heap.size,_,_,rfl,hbase,heap_alloc_new w.drew _,hge,hcm,?_,?_⟩⟩,⟨rfl,rfl,rfl,by simp,fun k hk _=>Below.heap_alloc w.drew _ k (by simpa using hk)⟩⟩
   ·
    simp only [Array.size_append,List.size_toArray,size_zeroCells,hzs,hown.1,hl,<- Nat.add_mul]
    congr 1
    omega
   ·
    simp only [Array.toList_append,List.append_assoc];rw [<- List.append_assoc,<- hlen];exact List.take_left
  rcases hown.2 with ⟨rfl,rfl⟩ | ⟨g,cap,cur,rfl,hbg,hg,hnc,hcm,hcs,htake⟩
  ·
   have hx:xs=[]:=List.eq_nil_of_length_eq_zero (by simpa using hown.1);subst hx
   by_cases hm:m=0
   ·
    subst hm;have hn:news=[]:=List.eq_nil_of_length_eq_zero (by simpa using hl);subst hn;refine ⟨.slice none 0 0,w,?_,World.ownsRow_nil w base e i.size,World.grownBy.refl _ _,by simp,.inl rfl⟩;simp [Builtin.append_,run_underlying ht,sizeOf,typeInfo,hi,Builtin.lenOf,Builtin.firstCells,loadCells,loadCellsFrom]
   ·
    have hb0:=hgrow 0 (by omega);simp only [Nat.zero_add,nextslicecap_zero (need:=m) (by omega)] at hb0;have hr:=run_append_nil (P:=P) w t ty e i z ht hi hz a m c news hl hnews (by omega) (by omega) hb0;have hgr:=grown 0 (by omega) (Value.ownBlock (.slice none 0 0));simp only [Nat.zero_add,List.nil_append,Array.empty_append] at hgr ⊢;exact ⟨_,_,hr,hgr.1,hgr.2,by simp [hm],.inr rfl⟩
  ·
   by_cases hroom:n+m<=cap
   ·
    have hfit:n*i.size+news.length<=cur.size:=by rw [hl,hcs,<- Nat.add_mul];exact Nat.mul_le_mul_right _ hroom
    have hr:=run_append_room (P:=P) w t ty e i ht hi g n cap cur hg a m c news hl hnews h1 hroom hfit;refine ⟨_,_,hr,⟨hlen,.inr ⟨g,cap,_,rfl,hbg,setRow_heap w g cur _ e _ hg,hroom,hcm,?_,?_⟩⟩,⟨rfl,rfl,rfl,by simp,fun k _ hk=>setRow_other w g k _ (fun e=>hk (by simp [Value.ownBlock,e]))⟩,by simp,.inl rfl⟩
    ·
     simp only [List.size_toArray,List.length_append,List.length_take,List.length_drop,Array.length_toList];omega
    ·
     rw [htake,<- hlen];exact List.take_left
   ·
    have holds:∀ j u,xs[j]?=some u->w.cell? ((⟨g,0,none⟩:Addr).add j)=some u:=hown.cells (g:=g) rfl;have hr:=run_append_grow (P:=P) w t ty e i z ht hi hz ⟨g,0,none⟩ n cap xs hown.1 holds a m c news hl hnews (by omega) (by omega) (hgrow cap (by omega));have hgr:=grown cap (by omega) (Value.ownBlock (.slice (some ⟨g,0,none⟩) n cap));exact ⟨_,_,hr,hgr.1,hgr.2,by simp,.inr rfl⟩
theorem Xt {P:Program}{w:World}{o:Oper}{a:Act}{K:Act->World->Prop}{Q:Exit->Act->World->Prop}(s x:Operand)(t:TypeId)
  (ho:o.op=.call { callee:=.builtin .append,args:=#[s,x],argTypes:=#[t,t] })
  (base:Nat) (e:TypeId) (i:TypeInfo) (z:Value) (size bytes:Nat) (ht:P.underlying t=some (.slice e)) (hi:P.info? e=some i) (hz:i.zero=some z)
  (hsize:i.size=size) (hby:i.bytes=bytes) (hzs:z.cells.size=size)
  (v:Value) (n:Nat) (xs:List Value) (hs:a.eval s=v) (hown:w.ownsRow base e size v n xs)
  (ao:Option Addr) (m c:Nat) (news:List Value) (hx:a.eval x=.slice ao m c) (hl:news.length=m*size) (hnone:ao=none->m=0) (hnews:∀ ad,ao=some ad->∀ j u,news[j]?=some u->w.cell? (ad.add j)=some u) (h1:∀ u∈news,u.oneCell'=true)
  (h63:n+m<=maxLen) (hgrow:∀ old,old < n+m->Builtin.nextslicecap (n+m) old*bytes<=281474976710656) (hbase:base<=w.heap.size)
  (h:∀ v' w',w'.ownsRow base e size v' (n+m) (xs ++ news)->w.grownBy w' v.ownBlock->(v'=.slice none 0 0↔v=.slice none 0 0/\m=0)->(v'.ownBlock=v.ownBlock\/v'.ownBlock=some w.heap.size)->K (a.put o.dst v') w'):o.wp P a w K Q:=by
 obtain ⟨v',w',hr,h2,h3,h4,h5⟩:=SX (P:=P) w base t o.type e i z size bytes ht hi hz hsize hby hzs v n xs hown ao m c news hl hnone hnews h1 h63 hgrow hbase;unfold Oper.wp execOp;simp only [ho,resolve,invoke,builtin,Sem.run_bind,Sem.run_pure,Result.andThen_ok,List.map_toArray,List.map_cons,List.map_nil,hs,hx,hr];exact h v' w' h2 h3 h4 h5
theorem aS {P:Program}{w:World}{ops:Array Oper}{rest:List Oper}{o:Oper}{a:Act}{Q:Exit->Act->World->Prop}(hgd:o.guard=none)(s x:Operand)(t:TypeId)
  (ho:o.op=.call { callee:=.builtin .append,args:=#[s,x],argTypes:=#[t,t] })
  (base:Nat) (e:TypeId) (i:TypeInfo) (z:Value) (size bytes:Nat) (ht:P.underlying t=some (.slice e)) (hi:P.info? e=some i) (hz:i.zero=some z)
  (hsize:i.size=size) (hby:i.bytes=bytes) (hzs:z.cells.size=size)
  (v:Value) (n:Nat) (xs:List Value) (hs:a.eval s=v) (hown:w.ownsRow base e size v n xs)
  (ao:Option Addr) (m c:Nat) (news:List Value) (hx:a.eval x=.slice ao m c) (hl:news.length=m*size) (hnone:ao=none->m=0) (hnews:∀ ad,ao=some ad->∀ j u,news[j]?=some u->w.cell? (ad.add j)=some u) (h1:∀ u∈news,u.oneCell'=true)
  (h63:n+m<=maxLen) (hgrow:∀ old,old < n+m->Builtin.nextslicecap (n+m) old*bytes<=281474976710656) (hbase:base<=w.heap.size)
  (h:∀ v' w',w'.ownsRow base e size v' (n+m) (xs ++ news)->w.grownBy w' v.ownBlock->(v'=.slice none 0 0↔v=.slice none 0 0/\m=0)->(v'.ownBlock=v.ownBlock\/v'.ownBlock=some w.heap.size)->wpList P ops Q rest (a.put o.dst v') w'):wpList P ops Q (o :: rest) a w :=
 wpList_plain hgd fun _ hK=>Xt s x t ho base e i z size bytes ht hi hz hsize hby hzs v n xs hs hown ao m c news hx hl hnone hnews h1 h63 hgrow hbase fun v' w' h2 h3 h4 h5=>hK _ _ (h v' w' h2 h3 h4 h5)
theorem ca {w:World}{p:Addr}{v:Value}{o:Obj}(h:w.cell? p=some v):(w.alloc o).cell? p=some v :=
 (World.cell?_of_block (w:=w) (Below.heap_alloc w o p.block (World.block_lt_of_cell? w p h))).trans h
theorem bC (w:World)(l:List Value)(t:TypeId):∀ ad,some (⟨w.heap.size,0,none⟩:Addr)=some ad->∀ j u,l[j]?=some u->(w.alloc (.cells l.toArray t)).cell? (ad.add j)=some u:=by
 intro ad had j u hu;obtain rfl:=Option.some.inj had;have hadd:(⟨w.heap.size,0,none⟩:Addr).add j=⟨w.heap.size,j,none⟩:=by unfold Addr.add;split <;> simp_all
 rw [hadd,cell_of_row (w.alloc (.cells l.toArray t)) w.heap.size j l.toArray t (0,0) (heap_alloc_new w _)]
 simpa using hu
theorem gy {w:World}{B:Nat}(h:B<=w.heap.size)(o:Obj):B<=(w.alloc o).heap.size:=Nat.le_trans h (by simp)
theorem aA {w:World}{base e size:Nat}{v:Value}{n:Nat}{xs:List Value}(h:w.ownsRow base e size v n xs):∃ sa cap,v=.slice sa n cap:=by
 rcases h.2 with ⟨rfl,rfl⟩ | ⟨g,cap,cur,rfl,_⟩
 ·
  exact ⟨_,_,rfl⟩
 ·
  exact ⟨_,_,rfl⟩
theorem ownsRow_setCell_other {w:World}{base e size:Nat}{v:Value}{n:Nat}{xs:List Value}(h:w.ownsRow base e size v n xs){a:Addr}(ha:v.ownBlock≠some a.block)(u:Value):(w.setCell a u).ownsRow base e size v n xs:=by
 refine ⟨h.1,?_⟩
 rcases h.2 with hn | ⟨g,cap,cur,rfl,hb,hg,r⟩
 ·
  exact .inl hn
 ·
  exact .inr ⟨g,cap,cur,rfl,hb,by rw [Below.heap_setCell _ _ _ _ (fun e=>ha (by simp [Value.ownBlock,e]))];exact hg,r⟩
theorem block_setCell {w:World}{b:Nat}{cs:Array Value}{t:TypeId}{fr:Nat × Nat}(h:w.heap[b]?=some (.cells cs t fr))(i:Nat)(u:Value) :
  (w.setCell ⟨b,i,none⟩ u).heap[b]?=some (.cells (cs.setIfInBounds i u) t fr):=by
 simp [World.setCell,Array.getElem?_modify,h]
theorem aj {w:World}{b:Nat}{cs:Array Value}{t:TypeId}(h:w.heap[b]?=some (.cells cs t (0,0)))(i:Nat):w.frozen? ⟨b,i,none⟩=false:=by
 simp [World.frozen?,h]
theorem block_lt {w:World}{b:Nat}{o:Obj}(h:w.heap[b]?=some o):b < w.heap.size:=(Array.getElem?_eq_some_iff.1 h).1
theorem aI {w:World}{b:Nat}{x:Obj}(h:w.heap[b]?=some x)(o:Obj):(w.alloc o).heap[b]?=some x :=
 (Below.heap_alloc w o b (block_lt h)).trans h
theorem kJ {w w':World}{b:Nat}{x:Obj}{row:Option Nat}(h:w.heap[b]?=some x)(hg:w.grownBy w' row)(hne:row≠some b):w'.heap[b]?=some x :=
 (hg.block b (block_lt h) (fun e=>hne e.symm)).trans h
theorem aN {w w':World}{b:Nat}{x:Obj}{F:Nat->Prop}(h:w.heap[b]?=some x)(hm:aG F w w')(hne:¬ F b):w'.heap[b]?=some x :=
 (hm.block b (block_lt h) hne).trans h
theorem Iz {P:Program}{c:Code}{Q:Exit->Act->World->Prop}{a:Act}{w:World}(F:World->Prop)(hF:F w)(h:∀ w1,F w1->Code.wp P c Q a w1):Code.wp P c Q a w:=h w hF
theorem ah (w:World)(b:Nat){cs:Array Value}{t:TypeId}{fr:Nat × Nat}(h:w.heap[b]?=some (.cells cs t fr))(i:Nat)(v:Value)(hv:cs[i]?=some v):w.cell? ⟨b,i,none⟩=some v:=by
 rw [cell_of_row w b i cs t fr h,hv]
theorem bQ {w:World}{base e size:Nat}{sa:Option Addr}{len cap n:Nat}{xs:List Value}(h:w.ownsRow base e size (.slice sa len cap) n xs)(hn:0 < xs.length) :
  len=n/\n<=cap/\∃ g,base<=g/\sa=some ⟨g,0,none⟩/\(∀ j u,xs[j]?=some u->w.cell? ⟨g,j,none⟩=some u)/\(∀ j,w.frozen? ⟨g,j,none⟩=false)/\g < w.heap.size:=by
 rcases h.2 with ⟨h1,h2⟩ | ⟨g,cap',cur,hv,hb,hg,hnc,hm,hcs,ht⟩
 ·
  have:=h.1;subst h2;omega
 ·
  cases hv
  refine ⟨rfl,hnc,g,hb,rfl,fun j u hu=>?_,fun j=>aj hg j,block_lt hg⟩;have:=h.cells (g:=g) rfl j u hu
  rwa [show (⟨g,0,none⟩:Addr).add j=⟨g,j,none⟩ by unfold Addr.add;split <;> simp_all] at this
theorem gV {w:World}{b:Nat}{x:Obj}(h:w.heap[b]?=some x){a:Addr}(hne:b≠a.block)(u:Value):(w.setCell a u).heap[b]?=some x :=
 (Below.heap_setCell w a u b hne).trans h
theorem Fp {w:World}{g off:Nat}{xs news:List Value}(h:∀ j u,xs[j]?=some u->w.cell? ⟨g,j,none⟩=some u)(hn:news=xs.drop off) :
  ∀ ad,some (⟨g,off,none⟩:Addr)=some ad->∀ j u,news[j]?=some u->w.cell? (ad.add j)=some u:=by
 subst hn;intro ad had j u hu;obtain rfl:=Option.some.inj had;rw [Addr.add_lit];exact h _ _ (by rw [List.getElem?_drop] at hu;exact hu)
theorem jk (w:World)(a:Addr)(u:Value):(w.setCell a u).heap.size=w.heap.size:=by simp [World.setCell]
theorem zY {w w':World}{r:Option Nat}(h:w.drew.grownBy w' r):w.grownBy w' r:=⟨h.os,h.tape,h.output,h.size,h.block⟩
def Stop (p:Prop):Prop:=p
theorem aU {p:Prop}(h:Stop p):p:=h
theorem dR {p:Prop}(h:p):Stop p:=h
theorem cK {B:Nat}{a b:World}{n:Nat}(h:Below B a b):Below B a (b.drewN n):=⟨h.os,h.tape,h.output,h.size,h.block⟩
theorem j4 {B:Nat}{a b:World}{n:Nat}(h:Below B (a.drewN n) b):Below B a b:=⟨h.os,h.tape,h.output,h.size,h.block⟩
theorem SY {F:Nat->Prop}{a b:World}{n:Nat}(h:aG F a b):aG F a (b.drewN n):=⟨h.os,h.tape,h.output,h.size,h.block⟩
open Go.RowKit
theorem OG {P:Program}(w:World)(base:Nat)(t ty e:TypeId)(i:TypeInfo)(z:Value)(size bytes:Nat)(ht:P.underlying t=some (.slice e))(hi:P.info? e=some i)(hz:i.zero=some z)
  (hsize:i.size=size) (hby:i.bytes=bytes) (hzs:z.cells.size=size)
  (v:Value) (n:Nat) (xs:List Value) (hown:w.ownsRow base e size v n xs)
  (ao:Option Addr) (m c:Nat) (news:List Value) (hl:news.length=m*size) (hnone:ao=none->m=0) (hnews:∀ a,ao=some a->∀ j u,news[j]?=some u->w.cell? (a.add j)=some u) (h1:∀ u∈news,u.oneCell'=true)
  (h63:n+m<=maxLen) (hgrow:∀ old,old < n+m->Builtin.nextslicecap (n+m) old*bytes<=281474976710656) (hbase:base<=w.heap.size) :
  ∃ v' w',(Builtin.append_ #[t,t] ty #[v,.slice ao m c]).run P w=.ok v' w'/\w'.ownsRow base e size v' (n+m) (xs ++ news)/\w.grownBy w' v.ownBlock /\
   (v'=.slice none 0 0↔v=.slice none 0 0/\m=0)/\(v'.ownBlock=v.ownBlock\/v'.ownBlock=some w.heap.size/\w.grownBy w' none):=by
 subst hsize;subst hby
 cases ao with
 | none =>
  obtain rfl:=hnone rfl;have hn:news=[]:=List.eq_nil_of_length_eq_zero (by simpa using hl);subst hn;refine ⟨v,w,?_,by simpa using hown,World.grownBy.refl _ _,by simp,.inl rfl⟩
  rcases hown.2 with ⟨rfl,rfl⟩ | ⟨g,cap,cur,rfl,_,_,hnc,_⟩
  ·
   simp [Builtin.append_,run_underlying ht,sizeOf,typeInfo,hi,Builtin.lenOf,Builtin.firstCells]
  ·
   simp [Builtin.append_,run_underlying ht,sizeOf,typeInfo,hi,Builtin.lenOf,Builtin.firstCells,hnc,storeCells]
 | some a =>
  have hnews:=hnews a rfl;have hsmall:n+m<=9223372036854775807:=by simp only [maxLen] at h63;omega
  have hlen:(xs ++ news).length=(n+m)*i.size:=by rw [List.length_append,hown.1,hl,Nat.add_mul]
  have grown:∀ (old:Nat),old < n+m->∀ (row:Option Nat),
    (w.drew.alloc (.cells (xs.toArray ++ news.toArray ++ Builtin.zeroCells z.cells (grownCap w (n+m) old e - (n+m))) e)).ownsRow base e i.size
     (.slice (some ⟨w.heap.size,0,none⟩) (n+m) (grownCap w (n+m) old e)) (n+m) (xs ++ news) /\
    w.grownBy (w.drew.alloc (.cells (xs.toArray ++ news.toArray ++ Builtin.zeroCells z.cells (grownCap w (n+m) old e - (n+m))) e)) row:=by
   intro old ho row;have hge:=grownCap_ge w (n+m) old e;have hcm:grownCap w (n+m) old e<=maxLen:=grownCap_le_maxLen w (n+m) old e h63;refine ⟨⟨hlen,.inr ⟨w.heap.size,_,_,rfl,hbase,heap_alloc_new w.drew _,hge,hcm,?_,?_⟩⟩,⟨rfl,rfl,rfl,by simp,fun k hk _=>Below.heap_alloc w.drew _ k (by simpa using hk)⟩⟩
   ·
    simp only [Array.size_append,List.size_toArray,size_zeroCells,hzs,hown.1,hl,<- Nat.add_mul]
    congr 1
    omega
   ·
    simp only [Array.toList_append,List.append_assoc];rw [<- List.append_assoc,<- hlen];exact List.take_left
  rcases hown.2 with ⟨rfl,rfl⟩ | ⟨g,cap,cur,rfl,hbg,hg,hnc,hcm,hcs,htake⟩
  ·
   have hx:xs=[]:=List.eq_nil_of_length_eq_zero (by simpa using hown.1);subst hx
   by_cases hm:m=0
   ·
    subst hm;have hn:news=[]:=List.eq_nil_of_length_eq_zero (by simpa using hl);subst hn;refine ⟨.slice none 0 0,w,?_,World.ownsRow_nil w base e i.size,World.grownBy.refl _ _,by simp,.inl rfl⟩;simp [Builtin.append_,run_underlying ht,sizeOf,typeInfo,hi,Builtin.lenOf,Builtin.firstCells,loadCells,loadCellsFrom]
   ·
    have hb0:=hgrow 0 (by omega);simp only [Nat.zero_add,nextslicecap_zero (need:=m) (by omega)] at hb0;have hr:=run_append_nil (P:=P) w t ty e i z ht hi hz a m c news hl hnews (by omega) (by omega) hb0;have hgr:=grown 0 (by omega) (Value.ownBlock (.slice none 0 0));simp only [Nat.zero_add,List.nil_append,Array.empty_append] at hgr ⊢;have hgn:=grown 0 (by omega) none;simp only [Nat.zero_add,List.nil_append,Array.empty_append] at hgn;exact ⟨_,_,hr,hgr.1,hgr.2,by simp [hm],.inr ⟨rfl,hgn.2⟩⟩
  ·
   by_cases hroom:n+m<=cap
   ·
    have hfit:n*i.size+news.length<=cur.size:=by rw [hl,hcs,<- Nat.add_mul];exact Nat.mul_le_mul_right _ hroom
    have hr:=run_append_room (P:=P) w t ty e i ht hi g n cap cur hg a m c news hl hnews h1 hroom hfit;refine ⟨_,_,hr,⟨hlen,.inr ⟨g,cap,_,rfl,hbg,setRow_heap w g cur _ e _ hg,hroom,hcm,?_,?_⟩⟩,⟨rfl,rfl,rfl,by simp,fun k _ hk=>setRow_other w g k _ (fun e=>hk (by simp [Value.ownBlock,e]))⟩,by simp,.inl rfl⟩
    ·
     simp only [List.size_toArray,List.length_append,List.length_take,List.length_drop,Array.length_toList];omega
    ·
     rw [htake,<- hlen];exact List.take_left
   ·
    have holds:∀ j u,xs[j]?=some u->w.cell? ((⟨g,0,none⟩:Addr).add j)=some u:=hown.cells (g:=g) rfl;have hr:=run_append_grow (P:=P) w t ty e i z ht hi hz ⟨g,0,none⟩ n cap xs hown.1 holds a m c news hl hnews (by omega) (by omega) (hgrow cap (by omega));have hgr:=grown cap (by omega) (Value.ownBlock (.slice (some ⟨g,0,none⟩) n cap));exact ⟨_,_,hr,hgr.1,hgr.2,by simp,.inr ⟨rfl,(grown cap (by omega) none).2⟩⟩
theorem Tc {P:Program}{w:World}{o:Oper}{a:Act}{K:Act->World->Prop}{Q:Exit->Act->World->Prop}(s x:Operand)(t:TypeId)
  (ho:o.op=.call { callee:=.builtin .append,args:=#[s,x],argTypes:=#[t,t] })
  (base:Nat) (e:TypeId) (i:TypeInfo) (z:Value) (size bytes:Nat) (ht:P.underlying t=some (.slice e)) (hi:P.info? e=some i) (hz:i.zero=some z)
  (hsize:i.size=size) (hby:i.bytes=bytes) (hzs:z.cells.size=size)
  (v:Value) (n:Nat) (xs:List Value) (hs:a.eval s=v) (hown:w.ownsRow base e size v n xs)
  (ao:Option Addr) (m c:Nat) (news:List Value) (hx:a.eval x=.slice ao m c) (hl:news.length=m*size) (hnone:ao=none->m=0) (hnews:∀ ad,ao=some ad->∀ j u,news[j]?=some u->w.cell? (ad.add j)=some u) (h1:∀ u∈news,u.oneCell'=true)
  (h63:n+m<=maxLen) (hgrow:∀ old,old < n+m->Builtin.nextslicecap (n+m) old*bytes<=281474976710656) (hbase:base<=w.heap.size)
  (h:∀ v' w',w'.ownsRow base e size v' (n+m) (xs ++ news)->w.grownBy w' v.ownBlock->(v'=.slice none 0 0↔v=.slice none 0 0/\m=0)->(v'.ownBlock=v.ownBlock\/v'.ownBlock=some w.heap.size/\w.grownBy w' none)->K (a.put o.dst v') w'):o.wp P a w K Q:=by
 obtain ⟨v',w',hr,h2,h3,h4,h5⟩:=OG (P:=P) w base t o.type e i z size bytes ht hi hz hsize hby hzs v n xs hown ao m c news hl hnone hnews h1 h63 hgrow hbase;unfold Oper.wp execOp;simp only [ho,resolve,invoke,builtin,Sem.run_bind,Sem.run_pure,Result.andThen_ok,List.map_toArray,List.map_cons,List.map_nil,hs,hx,hr];exact h v' w' h2 h3 h4 h5
theorem yM {P:Program}{w:World}{ops:Array Oper}{rest:List Oper}{o:Oper}{a:Act}{Q:Exit->Act->World->Prop}(hgd:o.guard=none)(s x:Operand)(t:TypeId)
  (ho:o.op=.call { callee:=.builtin .append,args:=#[s,x],argTypes:=#[t,t] })
  (base:Nat) (e:TypeId) (i:TypeInfo) (z:Value) (size bytes:Nat) (ht:P.underlying t=some (.slice e)) (hi:P.info? e=some i) (hz:i.zero=some z)
  (hsize:i.size=size) (hby:i.bytes=bytes) (hzs:z.cells.size=size)
  (v:Value) (n:Nat) (xs:List Value) (hs:a.eval s=v) (hown:w.ownsRow base e size v n xs)
  (ao:Option Addr) (m c:Nat) (news:List Value) (hx:a.eval x=.slice ao m c) (hl:news.length=m*size) (hnone:ao=none->m=0) (hnews:∀ ad,ao=some ad->∀ j u,news[j]?=some u->w.cell? (ad.add j)=some u) (h1:∀ u∈news,u.oneCell'=true)
  (h63:n+m<=maxLen) (hgrow:∀ old,old < n+m->Builtin.nextslicecap (n+m) old*bytes<=281474976710656) (hbase:base<=w.heap.size)
  (h:∀ v' w',w'.ownsRow base e size v' (n+m) (xs ++ news)->w.grownBy w' v.ownBlock->(v'=.slice none 0 0↔v=.slice none 0 0/\m=0)->(v'.ownBlock=v.ownBlock\/v'.ownBlock=some w.heap.size/\w.grownBy w' none)->wpList P ops Q rest (a.put o.dst v') w'):wpList P ops Q (o :: rest) a w :=
 wpList_plain hgd fun _ hK=>Tc s x t ho base e i z size bytes ht hi hz hsize hby hzs v n xs hs hown ao m c news hx hl hnone hnews h1 h63 hgrow hbase fun v' w' h2 h3 h4 h5=>hK _ _ (h v' w' h2 h3 h4 h5)
abbrev Col:=Nat->Nat
def ext (o:Col)(n c:Nat):Col:=fun k=>if k < n then o k else c
theorem dm {o:Col}{n c k:Nat}(h:k < n):ext o n c k=o k:=by simp [ext,h]
theorem dI {o:Col}{n c k:Nat}(h:n<=k):ext o n c k=c:=by simp [ext,Nat.not_lt.2 h]
structure Turn (o o':Col) (C:Nat->Prop) (w w':World):Prop where
 mods:aG (fun k=>C (o k)) w w'
 same:∀ k,k < w.heap.size->o' k=o k
section
variable {o o' o1 o2:Col} {C D:Nat->Prop} {w w' w1 w2:World} {c d:Nat}
theorem Turn.size (h:Turn o o' C w w'):w.heap.size<=w'.heap.size:=h.mods.size
theorem Turn.refl (o:Col)(C:Nat->Prop)(w:World):Turn o o C w w:=⟨aG.refl _ _,fun _ _=>rfl⟩
theorem Turn.trans (h:Turn o o1 C w w1)(k:Turn o1 o2 D w1 w2)(hD:∀ c,D c->C c):Turn o o2 C w w2 :=
 ⟨h.mods.trans k.mods (fun _ _ h=>h) (fun n hn f=>by rw [<- h.same n hn];exact hD _ f),fun n hn=>(k.same n (Nat.lt_of_lt_of_le hn h.size)).trans (h.same n hn)⟩
theorem Turn.mono (h:Turn o o' C w w')(hD:∀ c,C c->D c):Turn o o' D w w':=⟨h.mods.mono fun _ _ f=>hD _ f,h.same⟩
theorem Turn.drewN (h:Turn o o' C w w')(n:Nat):Turn o o' C w (w'.drewN n):=⟨h.mods.drewN n,h.same⟩
theorem Turn.drew (h:Turn o o' C w w'):Turn o o' C w w'.drew:=⟨h.mods.drew,h.same⟩
theorem Turn.of_below (o:Col)(c:Nat)(h:Below w.heap.size w w'):Turn o (ext o w.heap.size c) (fun _=>False) w w':=⟨aG.of_below h _,fun _ hk=>dm hk⟩
theorem Turn.jE (o:Col)(h:∃ m,w'=w.drewN m):Turn o o (fun _=>False) w w':=by obtain ⟨m,rfl⟩:=h;exact (Turn.refl _ _ _).drewN m
theorem Turn.kT {F:Nat->Prop}(o:Col)(c:Nat)(h:aG F w w')(hF:∀ k,k < w.heap.size->F k->C (o k)):Turn o (ext o w.heap.size c) C w w':=⟨h.mono hF,fun _ hk=>dm hk⟩
theorem Turn.below (h:Turn o o' C w w'){B:Nat}(hB:B<=w.heap.size)(hC:∀ k,k < B->¬ C (o k)):Below B w w':=h.mods.below hB hC
theorem Turn.block (h:Turn o o' C w w'){b:Nat}{x:Obj}(hb:w.heap[b]?=some x)(hc:¬ C (o b)):w'.heap[b]?=some x/\o' b=o b:=⟨aN hb h.mods hc,h.same b (block_lt hb)⟩
theorem Turn.cell (h:Turn o o' C w w'){p:Addr}{v:Value}(hp:w.cell? p=some v)(hc:¬ C (o p.block)):w'.cell? p=some v:=(h.mods.cell (World.block_lt_of_cell? _ _ hp) hc).trans hp
def dZ (w:World)(o:Col)(c b:Nat)(t:TypeId)(cs:Array Value):Prop:=w.heap[b]?=some (.cells cs t (0,0))/\o b=c
theorem dZ.lt {b:Nat}{t:TypeId}{cs:Array Value}(h:dZ w o c b t cs):b < w.heap.size:=block_lt h.1
theorem dZ.turn {b:Nat}{t:TypeId}{cs:Array Value}(h:dZ w o c b t cs)(T:Turn o o' C w w')(hc:¬ C c):dZ w' o' c b t cs:=by
 obtain ⟨h1,h2⟩:=T.block h.1 (by rw [h.2];exact hc);exact ⟨h1,h2.trans h.2⟩
theorem dZ.cell {b:Nat}{t:TypeId}{cs:Array Value}(h:dZ w o c b t cs)(i:Nat)(v:Value)(hv:cs[i]?=some v):w.cell? ⟨b,i,none⟩=some v:=ah w b h.1 i v hv
theorem dZ.frozen {b:Nat}{t:TypeId}{cs:Array Value}(h:dZ w o c b t cs)(i:Nat):w.frozen? ⟨b,i,none⟩=false:=aj h.1 i
theorem dZ.drewN {b:Nat}{t:TypeId}{cs:Array Value}(h:dZ w o c b t cs)(m:Nat):dZ (w.drewN m) o c b t cs:=h
theorem dZ.set {b:Nat}{t:TypeId}{cs:Array Value}(h:dZ w o c b t cs)(i:Nat)(u:Value):dZ (w.setCell ⟨b,i,none⟩ u) o c b t (cs.setIfInBounds i u)/\Turn o o (fun x=>x=c) w (w.setCell ⟨b,i,none⟩ u) :=
 ⟨⟨block_setCell h.1 i u,h.2⟩,⟨(aG.refl (fun k=>o k=c) w).setCell (p:=⟨b,i,none⟩) (fun _=>h.2) u,fun _ _=>rfl⟩⟩
theorem dZ.dO {b:Nat}{t:TypeId}{cs:Array Value}(h:dZ w o c b t cs){o':Col}{c':Nat}(ho:o' b=c'):dZ w o' c' b t cs:=⟨h.1,ho⟩
def cu (w:World)(o:Col)(c:Nat)(v:Value)(vs:List Value):Prop :=
 (vs=[]/\∃ ao cap,v=.slice ao 0 cap)\/(0 < vs.length/\∃ b off cap,v=.slice (some ⟨b,off,none⟩) vs.length cap/\vs.length<=cap/\b < w.heap.size/\o b=c/\∀ k,k < vs.length->w.cell? ⟨b,off+k,none⟩=some (vs[k]?.getD undef))
theorem cu.turn {v:Value}{vs:List Value}(h:cu w o c v vs)(T:Turn o o' C w w')(hc:¬ C c):cu w' o' c v vs:=by
 rcases h with h | ⟨hp,b,off,cap,rfl,hl,hb,ho,hcl⟩
 ·
  exact .inl h
 ·
  exact .inr ⟨hp,b,off,cap,rfl,hl,Nat.lt_of_lt_of_le hb T.size,(T.same b hb).trans ho,fun k hk=>T.cell (hcl k hk) (by show ¬ C (o b);rw [ho];exact hc)⟩
theorem cu.drewN {v:Value}{vs:List Value}(h:cu w o c v vs)(m:Nat):cu (w.drewN m) o c v vs:=h.turn ((Turn.refl o (fun _=>False) w).drewN m) (fun h=>h)
theorem cu.slice {v:Value}{vs:List Value}(h:cu w o c v vs):∃ ao cap,v=.slice ao vs.length cap:=by
 rcases h with ⟨rfl,ao,cap,rfl⟩ | ⟨_,b,off,cap,rfl,_⟩
 ·
  exact ⟨_,_,rfl⟩
 ·
  exact ⟨_,_,rfl⟩
theorem cu.at {ao:Option Addr}{n cap:Nat}{vs:List Value}(h:cu w o c (.slice ao n cap) vs)(hp:0 < vs.length):∃ b off,ao=some ⟨b,off,none⟩/\n=vs.length/\n<=cap/\b < w.heap.size/\o b=c/\∀ k,k < vs.length->w.cell? ⟨b,off+k,none⟩=some (vs[k]?.getD undef):=by
 rcases h with ⟨rfl,_⟩ | ⟨_,b,off,cap',hv,hl,hb,ho,hcl⟩
 ·
  simp at hp
 ·
  cases hv
  exact ⟨b,off,rfl,rfl,hl,hb,ho,hcl⟩
theorem cu.len {ao:Option Addr}{n cap:Nat}{vs:List Value}(h:cu w o c (.slice ao n cap) vs):n=vs.length:=by
 obtain ⟨ao',cap',e⟩:=h.slice;cases e;rfl
theorem cu.nil (w:World)(o:Col)(c:Nat)(ao:Option Addr)(cap:Nat):cu w o c (.slice ao 0 cap) []:=.inl ⟨rfl,ao,cap,rfl⟩
theorem cu.news {ao:Option Addr}{n cap:Nat}{vs:List Value}(h:cu w o c (.slice ao n cap) vs):(ao=none->n=0)/\∀ ad,ao=some ad->∀ j u,vs[j]?=some u->w.cell? (ad.add j)=some u:=by
 rcases h with ⟨rfl,ao',cap',e⟩ | ⟨hp,b,off,cap',e,hl,hb,ho,hcl⟩
 ·
  cases e
  exact ⟨fun _=>rfl,fun _ _ j u hu=>by simp at hu⟩
 ·
  cases e
  refine ⟨(fun h=>by cases h),fun ad had j u hu=>?_⟩;obtain rfl:=Option.some.inj had;rw [Addr.add_lit];have hj:=(List.getElem?_eq_some_iff.1 hu).1;rw [hcl j hj,hu];rfl
theorem lU {ao:Option Addr}{vs:List Value}{cap:Nat}(hcap:vs.length<=cap)(hn:ao=none->vs.length=0)(hsp:∀ a,ao=some a->a.spot=none)(h:∀ ad,ao=some ad->∀ j u,vs[j]?=some u->w.cell? (ad.add j)=some u)
  (ho:∀ a,ao=some a->a.block < w.heap.size->o a.block=c):cu w o c (.slice ao vs.length cap) vs:=by
 by_cases hp:0 < vs.length
 ·
  cases ao with
  | none=>have:=hn rfl;omega
  | some a =>
   obtain ⟨b,off,spot⟩:=a;obtain rfl:spot=none:=hsp _ rfl;have hcl:∀ k,k < vs.length->w.cell? ⟨b,off+k,none⟩=some (vs[k]?.getD undef):=fun k hk=>by
    have:=h ⟨b,off,none⟩ rfl k vs[k] (by simp [hk]);rw [Addr.add_lit] at this
    simpa [hk] using this
   have hb:=World.block_lt_of_cell? _ _ (hcl 0 hp);exact .inr ⟨hp,b,off,cap,rfl,hcap,hb,ho ⟨b,off,none⟩ rfl hb,hcl⟩
 ·
  obtain rfl:vs=[]:=List.eq_nil_of_length_eq_zero (by omega);exact .inl ⟨rfl,ao,cap,rfl⟩
abbrev iv (n:Int):Value:=.int .i64 n
abbrev bB (l:List Int):List Value:=l.map (Value.int .i64)
abbrev Ints (w:World) (o:Col) (c:Nat) (v:Value) (l:List Int):Prop:=cu w o c v (bB l)
theorem iC {l:List Int}{k:Nat}(h:k < l.length):(bB l)[k]?.getD undef=iv (l[k]?.getD 0):=by simp [bB,h]
theorem aX (l:List Int):(bB l).length=l.length:=by simp
theorem Ints.at {ao:Option Addr}{n cap:Nat}{l:List Int}(h:Ints w o c (.slice ao n cap) l)(hp:0 < l.length):∃ b off,ao=some ⟨b,off,none⟩/\n=l.length/\n<=cap/\b < w.heap.size/\o b=c/\∀ k,k < l.length->w.cell? ⟨b,off+k,none⟩=some (iv (l[k]?.getD 0)):=by
 obtain ⟨b,off,h1,h2,h3,h4,h5,h6⟩:=cu.at h (by simpa using hp);exact ⟨b,off,h1,by simpa using h2,h3,h4,h5,fun k hk=>by rw [h6 k (by simpa using hk),iC hk]⟩
theorem Ints.len {ao:Option Addr}{n cap:Nat}{l:List Int}(h:Ints w o c (.slice ao n cap) l):n=l.length:=by simpa using cu.len h
theorem Ints.slice {v:Value}{l:List Int}(h:Ints w o c v l):∃ ao cap,v=.slice ao l.length cap:=by simpa using cu.slice h
def Own (w:World)(o:Col)(c:Nat)(e size:Nat)(v:Value)(n:Nat)(xs:List Value):Prop:=w.ownsRow 0 e size v n xs/\∀ k,v.ownBlock=some k->o k=c
theorem Own.turn {e size n:Nat}{v:Value}{xs:List Value}(h:Own w o c e size v n xs)(T:Turn o o' C w w')(hc:¬ C c):Own w' o' c e size v n xs :=
 ⟨eD h.1 T.mods (fun k hk f=>hc (by rw [<- h.2 k hk];exact f)),fun k hk=>(T.same k (h.1.lt k hk).2).trans (h.2 k hk)⟩
theorem Own.dO {e size n:Nat}{v:Value}{xs:List Value}(h:Own w o c e size v n xs){o':Col}{c':Nat}(ho:∀ k,v.ownBlock=some k->o' k=c'):Own w o' c' e size v n xs:=⟨h.1,ho⟩
theorem Own.drewN {e size n:Nat}{v:Value}{xs:List Value}(h:Own w o c e size v n xs)(m:Nat):Own (w.drewN m) o c e size v n xs:=h
theorem Own.made {e size n:Nat}{v:Value}{xs:List Value}(o:Col)(c:Nat){N:Nat}(h:w'.ownsRow N e size v n xs):Own w' (ext o N c) c e size v n xs :=
 ⟨bI h (fun _ _=>Nat.zero_le _),fun k hk=>dI (h.lt k hk).1⟩
theorem Own.vals {e n:Nat}{v:Value}{vs:List Value}(h:Own w o c e 1 v n vs):cu w o c v vs:=by
 have hl:=h.1.1
 rcases h.1.2 with ⟨rfl,h0⟩ | ⟨g,cap,cur,rfl,_,hg,hnc,_,hcs,ht⟩
 ·
  subst h0;obtain rfl:vs=[]:=List.eq_nil_of_length_eq_zero (by simpa using hl);exact .inl ⟨rfl,none,0,rfl⟩
 ·
  obtain rfl:vs.length=n:=by simpa using hl
  refine lU hnc (fun h=>by cases h) (fun a ha=>by cases ha;rfl) (fun ad had j u hu=>?_) (fun a ha _=>by cases ha;exact h.2 g rfl);obtain rfl:=Option.some.inj had;exact h.1.cells (g:=g) rfl j u hu
theorem Own.len {e n:Nat}{v:Value}{vs:List Value}(h:Own w o c e 1 v n vs):vs.length=n:=by simpa using h.1.1
theorem Own.nil (w:World)(o:Col)(c e size:Nat):Own w o c e size (.slice none 0 0) 0 []:=⟨World.ownsRow_nil _ _ _ _,fun k hk=>by simp [Value.ownBlock] at hk⟩
theorem Own.slice {e size n:Nat}{v:Value}{xs:List Value}(h:Own w o c e size v n xs):∃ ao cap,v=.slice ao n cap:=aA h.1
end
structure Kept (B:Nat) (o:Col) (w0 w:World):Prop where
 below:Below B w0 w
 old:∀ k,k < B->o k=0
 size:B<=w.heap.size
theorem Kept.start (w:World):Kept w.heap.size (fun _=>0) w w:=⟨Below.refl _ _,fun _ _=>rfl,Nat.le_refl _⟩
theorem Kept.turn {B:Nat}{o o':Col}{C:Nat->Prop}{w0 w w':World}(h:Kept B o w0 w)(T:Turn o o' C w w')(hC:¬ C 0):Kept B o' w0 w' :=
 ⟨h.below.trans (T.below h.size (fun k hk f=>hC (by rw [h.old k hk] at f;exact f))),fun k hk=>(T.same k (Nat.lt_of_lt_of_le hk h.size)).trans (h.old k hk),Nat.le_trans h.size T.size⟩
end Go.Proofs.YtepjkmnhmcjbkaaGreat
namespace Go.Proofs.YtepjkmnhmcjbkaaGreat
open Go
def Ext (w w':World):Prop:=w.heap.size<=w'.heap.size/\∀ k,k < w.heap.size->w'.heap[k]?=w.heap[k]?
theorem Ext.refl (w:World):Ext w w:=⟨Nat.le_refl _,fun _ _=>rfl⟩
theorem Ext.trans {a b c:World}(h:Ext a b)(k:Ext b c):Ext a c :=
 ⟨Nat.le_trans h.1 k.1,fun n hn=>(k.2 n (Nat.lt_of_lt_of_le hn h.1)).trans (h.2 n hn)⟩
theorem Ext.cell {w w':World}(h:Ext w w'){p:Addr}{v:Value}(hc:w.cell? p=some v):w'.cell? p=some v :=
 (World.cell?_of_block (w:=w) (h.2 p.block (World.block_lt_of_cell? w p hc))).trans hc
def grows {α:Type}:Sem α->Prop
 | .pure _=>True
 | .load _ _ k=>∀ v,grows (k v)
 | .store ..=>False
 | .new _ k=>∀ r,grows (k r)
 | .shape _ k=>∀ x,grows (k x)
 | .freeze ..=>False
 | .frozen _ k=>∀ b,grows (k b)
 | .getObj _ k=>∀ o,grows (k o)
 | .setObj ..=>False
 | .choose _ k=>∀ n,grows (k n)
 | .sys ..=>False
 | .program k=>∀ p,grows (k p)
 | .mark _ k=>grows k
 | .halt _=>True
theorem OH (w:World)(o:Obj):Ext w { w with heap:=w.heap.push o } :=
 ⟨by simp,fun k hk=>by show (w.heap.push o)[k]?=_;rw [Array.getElem?_push,if_neg (by omega)]⟩
theorem LY {α:Type}{P:Program}:∀ (s:Sem α) (w w':World) (v:α),grows s->s.run P w=.ok v w'->Ext w w':=by
 intro s
 induction s with
 | pure a=>intro w w' v _ h;simp only [Sem.run,Result.ok.injEq] at h;rw [<- h.2];exact Ext.refl _
 | load m a k ih =>
  intro w w' v hg h;simp only [Sem.run] at h
  split at h
  ·
   exact ih _ w w' v (hg _) h
  ·
   split at h
   ·
    exact ih _ w w' v (hg _) h
   ·
    cases h
 | store m a v k ih=>intro w w' v hg;exact hg.elim
 | new o k ih=>intro w w' v hg h;simp only [Sem.run] at h;exact (OH w o).trans (ih _ _ w' v (hg _) h)
 | shape r k ih=>intro w w' v hg h;simp only [Sem.run] at h;exact ih _ w w' v (hg _) h
 | freeze a n k ih=>intro w w' v hg;exact hg.elim
 | frozen a k ih=>intro w w' v hg h;simp only [Sem.run] at h;exact ih _ w w' v (hg _) h
 | getObj r k ih =>
  intro w w' v hg h;simp only [Sem.run] at h
  split at h
  ·
   cases h
  ·
   exact ih _ w w' v (hg _) h
  ·
   cases h
 | setObj r o k ih=>intro w w' v hg;exact hg.elim
 | choose q k ih =>
  intro w w' v hg h;simp only [Sem.run] at h
  split at h
  ·
   exact ih _ w w' v (hg _) h
  ·
   exact ih _ { w with drawn:=w.drawn+1 } w' v (hg _) h
 | sys c k ih=>intro w w' v hg;exact hg.elim
 | program k ih=>intro w w' v hg h;simp only [Sem.run] at h;exact ih _ w w' v (hg _) h
 | mark m k ih=>intro w w' v hg h;simp only [Sem.run] at h;exact ih w w' v hg h
 | halt x=>intro w w' v _ h;cases h
theorem dB {α β:Type}(s:Sem α)(f:α->Sem β)(hs:grows s)(hf:∀ a,grows (f a)):grows (s >>= f):=by
 show grows (s.bind f)
 induction s with
 | pure a=>exact hf a
 | load m a k ih=>exact fun v=>ih v (hs v)
 | store m a v k ih=>exact hs.elim
 | new o k ih=>exact fun v=>ih v (hs v)
 | shape r k ih=>exact fun v=>ih v (hs v)
 | freeze a n k ih=>exact hs.elim
 | frozen a k ih=>exact fun v=>ih v (hs v)
 | getObj r k ih=>exact fun v=>ih v (hs v)
 | setObj r o k ih=>exact hs.elim
 | choose q k ih=>exact fun v=>ih v (hs v)
 | sys c k ih=>exact hs.elim
 | program k ih=>exact fun v=>ih v (hs v)
 | mark m k ih=>exact ih hs
 | halt x=>exact trivial
theorem fV {α:Type}(a:α):grows (pure a:Sem α):=trivial
theorem oM {α:Type}(s:String):grows (stuck s:Sem α):=trivial
theorem kU {α:Type}(s:Unsupported):grows (unsupported s:Sem α):=trivial
theorem uO:grows Go.program:=fun _=>trivial
theorem DJ (o:Obj):grows (newObj o):=fun _=>trivial
theorem rZ (t:TypeId):grows (typeInfo t):=by
 unfold typeInfo;refine dB _ _ uO fun p=>?_
 split
 ·
  exact fV _
 ·
  exact oM _
theorem xB (t:TypeId):grows (underlying t):=by
 unfold underlying;refine dB _ _ uO fun p=>?_
 split
 ·
  exact fV _
 ·
  exact oM _
theorem mG (t:TypeId):grows (zeroValue t):=by
 unfold zeroValue;refine dB _ _ (rZ t) fun p=>?_
 split
 ·
  exact fV _
 ·
  exact kU _
theorem DK (t:TypeId):grows (sizeOf t):=by
 unfold sizeOf;exact dB _ _ (rZ t) fun p=>fV _
theorem vX (e:TypeId)(cs:Array Value):grows (newRow e cs):=by
 unfold newRow;exact dB _ _ (DJ _) fun p=>fV _
theorem vY (e:TypeId)(v:Value):grows (newVar e v):=vX _ _
theorem Fq (e:TypeId):grows (Instr.alloc e true (.tuple #[])):=by
 unfold Instr.alloc;refine dB _ _ (mG e) fun z=>?_;exact dB _ _ (vY _ _) fun _=>fV _
theorem LZ (e:TypeId)(v:Value):grows (Instr.box e v):=by
 unfold Instr.box;exact dB _ _ (vY _ _) fun _=>fV _
theorem xC (t:TypeId)(n:Nat)(ps:Array (Nat × Value)):grows (Instr.buildSlice t n ps):=by
 unfold Instr.buildSlice;refine dB _ _ (xB t) fun d=>?_
 split
 ·
  rename_i elem
  refine dB _ _ (DK _) fun s=>?_;have rest:∀ z:Array Value,grows (match Instr.fill (fun i=>some (i*s,s)) ((Array.range (n*s)).map (z[· % z.size]!)) ps.toList with
    | some cells=>(do pure (Value.slice (some (<- newRow elem cells)) n n):Sem Value)
    | _=>stuck "buildSlice: a part of the wrong size"):=by
   intro z
   split
   ·
    exact dB _ _ (vX _ _) fun _=>fV _
   ·
    exact oM _
  dsimp only
  split <;> split <;> first
   | exact dB _ _ (kU _) fun _=>dB _ _ (fV _) rest
   | exact dB _ _ (fV _) rest
   | exact dB _ _ (kU _) fun _=>dB _ _ (mG _) fun _=>dB _ _ (fV _) rest
   | exact dB _ _ (mG _) fun _=>dB _ _ (fV _) rest
 ·
  exact oM _
def zZ (o:Oper):Bool:=match o.op with | .alloc _ | .box _ _ | .buildSlice _ _ _=>true | _=>false
theorem L6 {P:Program}{o:Oper}{ρ:Operand->Value}{w w':World}{n:Next}(h:zZ o=true)(hr:(execOp ρ o).run P w=.ok n w'):(∃ v,n=.value v)/\Ext w w':=by
 have key:∀ s:Sem Value,grows s->(Sem.bind s (fun v=>Sem.pure (Next.value v))).run P w=.ok n w'->(∃ v,n=.value v)/\Ext w w':=by
  intro s hs h;have hg:grows (Sem.bind s (fun v=>Sem.pure (Next.value v))):=dB s _ hs fun v=>fV _;refine ⟨?_,LY _ _ _ _ hg h⟩;clear hr hg
  induction s generalizing w with
  | pure a=>simp only [Sem.bind,Sem.run,Result.ok.injEq] at h;exact ⟨a,h.1.symm⟩
  | load m a k ih =>
   simp only [Sem.bind,Sem.run] at h
   split at h
   ·
    exact ih _ (hs _) h
   ·
    split at h
    ·
     exact ih _ (hs _) h
    ·
     cases h
  | store m a v k ih=>exact hs.elim
  | new o k ih=>simp only [Sem.bind,Sem.run] at h;exact ih _ (hs _) h
  | shape r k ih=>simp only [Sem.bind,Sem.run] at h;exact ih _ (hs _) h
  | freeze a n k ih=>exact hs.elim
  | frozen a k ih=>simp only [Sem.bind,Sem.run] at h;exact ih _ (hs _) h
  | getObj r k ih =>
   simp only [Sem.bind,Sem.run] at h
   split at h
   ·
    cases h
   ·
    exact ih _ (hs _) h
   ·
    cases h
  | setObj r o k ih=>exact hs.elim
  | choose q k ih =>
   simp only [Sem.bind,Sem.run] at h
   split at h
   ·
    exact ih _ (hs _) h
   ·
    exact ih _ (hs _) h
  | sys c k ih=>exact hs.elim
  | program k ih=>simp only [Sem.bind,Sem.run] at h;exact ih _ (hs _) h
  | mark m k ih=>simp only [Sem.bind,Sem.run] at h;exact ih hs h
  | halt x=>cases h
 unfold zZ at h
 split at h
 ·
  rename_i e he
  refine key (Instr.alloc e true (.tuple #[])) (Fq e) ?_;simp only [execOp,he] at hr;exact hr
 ·
  rename_i e x he
  refine key (Instr.box e (ρ x)) (LZ e _) ?_;simp only [execOp,he] at hr;exact hr
 ·
  rename_i t n' ps he
  refine key (Instr.buildSlice t n' (ps.map fun (i,x)=>(i,ρ x))) (xC _ _ _) ?_;simp only [execOp,he] at hr;exact hr
 ·
  cases h
section
variable {P:Program} {ops:Array Oper} {md:Region.Mode} {S:World->Prop} {Q:Exit->Act->World->Prop}
def eZ (P:Program)(md:Region.Mode)(ops:Array Oper)(Q:Exit->Act->World->Prop)(S:World->Prop)(B:Nat->Bool):Nat->Array Bool->Act->World->Prop
 | 0,listed,a,w=>Region.ready md ops listed=[]/\Q .normal a w
 | fuel+1,listed,a,w =>
  (Region.ready md ops listed=[]->Q .normal a w) /\
  ∀ i∈Region.ready md ops listed,wpOp P ops Q i (fun a' w'=>(B i=true->S w->S w')/\eZ P md ops Q S B fuel (listed.setIfInBounds i true) a' w') a w
theorem kG {B:Nat->Bool}:∀ (fuel:Nat) (listed:Array Bool) (a:Act) (w:World),eZ P md ops Q S B fuel listed a w->wpAny P md ops Q fuel listed a w
 | 0,_,_,_,h=>h
 | fuel+1,_,_,_,h=>⟨h.1,fun i hi=>wpOp_mono (fun a' w' h'=>kG fuel _ a' w' h'.2) (h.2 i hi)⟩
def gH (md:Region.Mode)(ops:Array Oper)(listed:Array Bool):Prop :=
 ∀ j oj,ops[j]?=some oj->listed.getD j false=true->∀ e∈oj.after,Region.binds md e=true->listed.getD e.on false=true
theorem fK {listed:Array Bool}{i:Nat}(hc:gH md ops listed)(hi:i∈Region.ready md ops listed):gH md ops (listed.setIfInBounds i true):=by
 obtain ⟨_,oi,hoi,hall⟩:=mem_ready.1 hi;intro j oj hj hl e he hb
 by_cases hij:i=j
 ·
  subst hij;have:oj=oi:=Option.some.inj (hj.symm.trans hoi);subst this;exact getD_set_true (hall e he hb)
 ·
  rw [getD_set_ne false hij] at hl;exact getD_set_true (hc j oj hj hl e he hb)
def gN (md:Region.Mode)(ops:Array Oper):Nat->Nat->Nat->Bool
 | 0,j,i=>Region.waitsFor md ops j i
 | f+1,j,i=>Region.waitsFor md ops j i || (List.range ops.size).any fun k=>Region.waitsFor md ops j k && gN md ops f k i
theorem IA {listed:Array Bool}(hc:gH md ops listed):∀ (f j i:Nat),gN md ops f j i=true ->
  (∀ oj,ops[j]?=some oj->∀ e∈oj.after,Region.binds md e=true->listed.getD e.on false=true)->listed.getD i false=true:=by
 have base:∀ j i,Region.waitsFor md ops j i=true->(∀ oj,ops[j]?=some oj->∀ e∈oj.after,Region.binds md e=true->listed.getD e.on false=true)->listed.getD i false=true:=by
  intro j i h hd;obtain ⟨oj,hoj,e,he,hb,hon⟩:=Region.waitsFor_spec h;have:=hd oj hoj e he hb
  rwa [hon] at this
 intro f
 induction f with
 | zero=>exact base
 | succ f ih =>
  intro j i h hd;simp only [gN,Bool.or_eq_true,List.any_eq_true,Bool.and_eq_true] at h
  rcases h with h | ⟨k,_,h1,h2⟩
  ·
   exact base j i h hd
  ·
   have hk:=base j k h1 hd;exact ih k i h2 fun ok hok e he hb=>hc k ok hok hk e he hb
theorem mV {listed:Array Bool}(hc:gH md ops listed){f j i:Nat}(hb:gN md ops f j i=true)(hj:j∈Region.ready md ops listed):listed.getD i false=true:=by
 obtain ⟨_,oj,hoj,hall⟩:=mem_ready.1 hj;refine IA hc f j i hb fun oj' abn e he hbd=>?_;have:oj'=oj:=Option.some.inj (abn.symm.trans hoj);subst this;exact hall e he hbd
theorem qH {B:Nat->Bool}{S':World->Prop}{i:Nat}{oi:Oper}{v:Value}(hi:ops[i]?=some oi)(hsel:∀ (j:Nat)(o:Oper) cs b,ops[j]?=some o->o.op≠.select cs b)
  (hQ:∀ c a w,Q (.panic c) (a.put oi.dst v) w->Q (.panic c) a w)
  (hk:∀ (j:Nat) (listed:Array Bool) (w w':World),gH md ops listed->j∈Region.ready md ops listed->listed.getD i false=false->(B j=true->S w->S w')->S' w->S' w')
  (hSS:∀ w,S' w->(B i=true->S w->S w)) :
  ∀ (fuel:Nat) (listed:Array Bool) (a:Act) (w:World),gH md ops listed ->
   (∀ j oj,ops[j]?=some oj->j≠i->listed.getD j true=false->(∀ e∈oj.after,Region.binds md e=true->e.on≠i)->oi.apart ops oj=true) ->
   i∈Region.ready md ops listed->YieldsIf P ops S' oi v a->S' w ->
   eZ P md ops Q S B fuel (listed.setIfInBounds i true) (a.put oi.dst v) w->eZ P md ops Q S B (fuel+1) listed a w:=by
 intro fuel
 induction fuel with
 | zero =>
  intro listed a w _ _ hr hy hS H;refine ⟨fun h=>(by rw [h] at hr;cases hr),fun j hj=>?_⟩
  by_cases hji:j=i
  ·
   subst hji;exact hy.wpOp hi hS ⟨hSS w hS,H⟩
  ·
   have:=ready_mono hj hji;rw [H.1] at this;cases this
 | succ fuel ih =>
  intro listed a w hcl hfree hr hy hS H;refine ⟨fun h=>(by rw [h] at hr;cases hr),fun j hj=>?_⟩
  by_cases hji:j=i
  ·
   subst hji;exact hy.wpOp hi hS ⟨hSS w hS,H⟩
  ·
   have h1:=H.2 j (ready_mono hj hji);obtain ⟨hjun,oj,hoj,hall⟩:=mem_ready.1 hj;have zF:=getD_both (mem_ready.1 hr).1;have hnot:∀ e∈oj.after,Region.binds md e=true->e.on≠i:=fun e he hb heq=>by
    have h1:=hall e he hb;rw [heq,zF] at h1;cases h1
   have h2:=wpOp_putIf hoj (hfree j oj hoj hji hjun hnot) (fun cs b=>hsel i oi cs b hi) (fun cs b=>hsel j oj cs b hoj) hQ hy h1;have hfree':∀ k ok,ops[k]?=some ok->k≠i->(listed.setIfInBounds j true).getD k true=false ->
     (∀ e∈ok.after,Region.binds md e=true->e.on≠i)->oi.apart ops ok=true:=fun k ok hk hki hun hno=>by
    refine hfree k ok hk hki ?_ hno
    by_cases hjk:j=k
    ·
     subst hjk;exact hjun
    ·
     rw [getD_set_ne true hjk] at hun;exact hun
   refine wpOp_mono (fun a' w' h3=>⟨h3.2.1,ih (listed.setIfInBounds j true) a' w' (fK hcl hj) hfree' (ready_mono hr (Ne.symm hji)) h3.1 (hk j listed w w' hcl hj zF h3.2.1 hS) ?_⟩) h2;rw [Array.setIfInBounds_comm _ _ hji];exact h3.2.2
def BJ (md:Region.Mode)(ops:Array Oper):List Nat->Array Bool->Bool
 | [],listed=>(Region.ready md ops listed).isEmpty
 | k :: r,listed=>decide (Region.ready md ops listed=[k]) && BJ md ops r (listed.setIfInBounds k true)
theorem uU {k:Nat}{o:Oper}{K:Act->World->Prop}{a:Act}{w:World}(ho:ops[k]?=some o)(hm:zZ o=true)(h:wpOp P ops Q k K a w) :
  wpOp P ops Q k (fun a' w'=>Ext w w'/\K a' w') a w:=by
 unfold wpOp at *;simp only [ho] at *
 split
 ·
  rename_i hw
  simp only [hw,if_true] at h;refine h.imp ?_ id;intro h;unfold Oper.wp at *;cases hr:(execOp a.eval o).run P w with
  | ok n w' =>
   rw [hr] at h;obtain ⟨⟨v,rfl⟩,he⟩:=L6 hm hr;simp only [Oper.upon] at h ⊢;exact ⟨he,h⟩
  | halt x w' =>
   rw [hr] at h;cases x <;> simp only [Oper.upon] at h ⊢ <;> exact h
 ·
  rename_i hw
  simp only [hw] at h;exact ⟨Ext.refl _,h⟩
def jd (ops:Array Oper)(k:Nat):Bool:=match ops[k]? with | some o=>zZ o | none=>false
theorem pz {B:Nat->Bool}(Ca:∀ w w',Ext w w'->S w->S w'):∀ (ks:List Nat) (l:List Oper) (listed:Array Bool) (a:Act) (w:World),l.map some=ks.map (fun k=>ops[k]?) ->
  (∀ k∈ks,B k=true->jd ops k=true)->BJ md ops ks listed=true->wpList P ops Q l a w->eZ P md ops Q S B ks.length listed a w
 | [],l,_,_,_,hl,_,hB,h=>by
  have:l=[]:=by simpa using hl
  subst this;exact ⟨by simpa [BJ] using hB,h⟩
 | k :: ks,[],_,_,_,hl,_,_,_=>by simp at hl
 | k :: ks,o :: l,listed,a,w,hl,hmk,hB,h=>by
  simp only [List.map_cons,List.cons.injEq] at hl;have h0:ops[k]?=some o:=hl.1.symm;simp only [BJ,Bool.and_eq_true,decide_eq_true_eq] at hB;refine ⟨fun h1=>(by rw [hB.1] at h1;cases h1),fun i hi=>?_⟩;rw [hB.1] at hi;have hik:i=k:=by simpa using hi
  subst hik;have hw:wpOp P ops Q i (wpList P ops Q l) a w:=by unfold wpOp;simp only [h0];exact h
  by_cases hb:B i=true
  ·
   have OJ:=hmk i (by simp) hb;unfold jd at OJ;rw [h0] at OJ;exact wpOp_mono (fun a' w' h'=>⟨fun _ hS=>Ca _ _ h'.1 hS,pz Ca ks l _ a' w' hl.2 (fun k hk=>hmk k (by simp [hk])) hB.2 h'.2⟩) (uU h0 OJ hw)
  ·
   exact wpOp_mono (fun a' w' h'=>⟨fun hbb=>absurd hbb hb,pz Ca ks l _ a' w' hl.2 (fun k hk=>hmk k (by simp [hk])) hB.2 h'⟩) hw
def DL (o:Oper):Bool:=match o.op with
 | .move _ | .assign _ | .pick _ _ _ | .nilCheck _ | .fieldAddr _ _ _ | .extract _ _ | .binOp _ _ _ _ _ | .unOp _ _ _ | .indexAddr _ _ _ | .build _ _ | .slice _ _ _ _ _ | .convert _ _ _=>true
 | _=>false
def dX (P:Program)(ops:Array Oper)(S:World->Prop)(Q:Act->Prop):List Oper->Act->Prop
 | [],a=>Q a
 | o :: rest,a=>∃ v,YieldsIf P ops (fun w=>DL o=true\/S w) o v a/\dX P ops S Q rest (a.put o.dst v)
theorem ax {Q:Act->Prop}{a:Act}(h:Q a):dX P ops S Q [] a:=h
theorem Fu {Q:Act->Prop}{a:Act}{o:Oper}{rest:List Oper}(v:Value)(h:Region.wanted o (yielded ops a.tmps)=true)(hv:∀ w,(execOp a.eval o).run P w=.ok (.value v) w)
 (hk:dX P ops S Q rest (a.put o.dst v)):dX P ops S Q (o :: rest) a:=⟨v,.inl ⟨h,fun w _=>hv w⟩,hk⟩
theorem DN {Q:Act->Prop}{a:Act}{o:Oper}{rest:List Oper}(v:Value)(h:Region.wanted o (yielded ops a.tmps)=true)(hb:DL o=false)(hv:∀ w,S w->(execOp a.eval o).run P w=.ok (.value v) w)
 (hk:dX P ops S Q rest (a.put o.dst v)):dX P ops S Q (o :: rest) a:=⟨v,.inl ⟨h,fun w hw=>hw.elim (fun h=>by rw [hb] at h;cases h) (hv w)⟩,hk⟩
theorem DR {Q:Act->Prop}{a:Act}{o:Oper}{rest:List Oper}(h:Region.wanted o (yielded ops a.tmps)=false)
 (hk:dX P ops S Q rest (a.put o.dst undef)):dX P ops S Q (o :: rest) a:=⟨undef,.inr ⟨h,rfl⟩,hk⟩
def nH (ops:Array Oper)(i:Nat):Bool:=match ops[i]? with | some o=>DL o | none=>false
def nJ (md:Region.Mode)(ops:Array Oper)(tail:List Nat):List Nat->Array Bool->Bool
 | [],listed=>BJ md ops tail listed
 | i :: r,listed=>(Region.ready md ops listed).contains i && Region.free md ops listed i && nJ md ops tail r (listed.setIfInBounds i true)
def Wo (md:Region.Mode)(ops:Array Oper)(reads tail:List Nat):Bool :=
 Region.noSelect ops && (reads.all fun i=>nH ops i || (List.range ops.size).all fun j=>jd ops j || reads.contains j || gN md ops ops.size j i) &&
 (tail.all fun k=>!reads.contains k) && nJ md ops tail reads (Array.replicate ops.size false)
def aQ (ops:Array Oper)(ks:List Nat):List Oper:=ks.flatMap fun k=>(ops.toList.drop k).take 1
theorem pk:(∀ (ops:Array Oper) (ks:List Nat),aQ ops ks=ks.flatMap fun k=>(ops.toList.drop k).take 1)/\(∀ (f:Nat->List Oper) (a:Nat) (l:List Nat),(a :: l).flatMap f=f a ++ l.flatMap f)/\(∀ f:Nat->List Oper,([]:List Nat).flatMap f=[])/\(∀ (a:Oper) (l:List Oper) (n:Nat),(a :: l).drop (n+1)=l.drop n)/\(∀ l:List Oper,l.drop 0=l)/\(∀ (a:Oper) (l:List Oper) (n:Nat),(a :: l).take (n+1)=a :: l.take n)/\(∀ l:List Oper,l.take 0=[])/\(∀ (a:Oper) (l m:List Oper),(a :: l) ++ m=a :: (l ++ m))/\(∀ l:List Oper,[] ++ l=l)/\(∀ l:List Oper,l ++ []=l) :=
 ⟨fun _ _=>rfl,fun _ _ _=>List.flatMap_cons,fun _=>rfl,fun _ _ _=>rfl,fun _=>rfl,fun _ _ _=>rfl,fun _=>rfl,fun _ _ _=>rfl,fun _=>rfl,fun _=>List.append_nil _⟩
theorem pt:(∀ (a:Act) (d:Tmp) (v:Value),a.put (some d) v={ a with tmps:=a.tmps.setIfInBounds d v })/\(∀ (a:Act) (v:Value),a.put none v=a)/\(∀ (l:List Value) (i:Nat) (x:Value),l.toArray.setIfInBounds i x=(l.set i x).toArray)/\(∀ (a b:Value) (l:List Value),(a :: l).set 0 b=b :: l)/\(∀ (a b:Value) (l:List Value) (n:Nat),(a :: l).set (n+1) b=a :: l.set n b) :=
 ⟨fun _ _ _=>rfl,fun _ _=>rfl,fun _ _ _=>List.setIfInBounds_toArray ..,fun _ _ _=>rfl,fun _ _ _ _=>rfl⟩
theorem je {k:Nat}{o:Oper}(h:ops[k]?=some o)(r:List Nat):aQ ops (k :: r)=o :: aQ ops r:=by
 have hk:k < ops.toList.length:=by
  have:=(Array.getElem?_eq_some_iff.1 h).1
  simpa using this
 have ho:ops.toList[k]?=some o:=by simpa using h
 have:(ops.toList.drop k).take 1=[o]:=by
  rw [List.drop_eq_getElem_cons hk];simp only [List.take_succ_cons,List.take_zero]
  congr 1
  exact Option.some.inj ((List.getElem?_eq_getElem hk).symm.trans ho)
 simp only [aQ,List.flatMap_cons,this,List.cons_append,List.nil_append]
theorem OL {ks:List Nat}(h:∀ k∈ks,k < ops.size):(aQ ops ks).map some=ks.map fun k=>ops[k]?:=by
 induction ks with
 | nil=>rfl
 | cons k r ih =>
  have hk:=h k (by simp);rw [je (Array.getElem?_eq_getElem hk),List.map_cons,List.map_cons,Array.getElem?_eq_getElem hk,ih fun x hx=>h x (by simp [hx])]
theorem eF {i:Nat}{listed:Array Bool}(h:i∈Region.ready md ops listed):i < ops.size:=by
 obtain ⟨_,o,ho,_⟩:=mem_ready.1 h;exact (Array.getElem?_eq_some_iff.1 ho).1
theorem KH:∀ (ks:List Nat) (listed:Array Bool),BJ md ops ks listed=true->∀ k∈ks,k < ops.size
 | [],_,_,k,hk=>by cases hk
 | x :: r,listed,h,k,hk=>by
  simp only [BJ,Bool.and_eq_true,decide_eq_true_eq] at h
  rcases List.mem_cons.1 hk with rfl | hk
  ·
   exact eF (md:=md) (listed:=listed) (by rw [h.1];simp)
  ·
   exact KH r _ h.2 k hk
theorem Aa {reads tail:List Nat}(hsel:Region.noSelect ops=true)(hQ:∀ c a a' w,Q (.panic c) a w->Q (.panic c) a' w)
  (hbe:∀ i∈reads,nH ops i=false->∀ j,j < ops.size->jd ops j=true\/reads.contains j=true\/gN md ops ops.size j i=true) (hd:∀ k∈tail,reads.contains k=false) (Ca:∀ w w',Ext w w'->S w->S w') :
  ∀ (r:List Nat) (listed:Array Bool) (a:Act) (w:World),(∀ i∈r,i∈reads)->gH md ops listed->nJ md ops tail r listed=true->S w ->
   dX P ops S (fun a'=>wpList P ops Q (aQ ops tail) a' w) (aQ ops r) a ->
   eZ P md ops Q S (fun j=>jd ops j || reads.contains j) (r.length+tail.length) listed a w
 | [],listed,a,w,_,_,hB,_,h=>by
  rw [show ([]:List Nat).length+tail.length=tail.length by simp];refine pz Ca tail _ listed a w (OL (KH tail listed hB)) (fun k hk hb=>?_) hB h;have hb':(jd ops k || reads.contains k)=true:=hb;rw [hd k hk,Bool.or_false] at hb';exact hb'
 | i :: r,listed,a,w,hr,hcl,hB,hS,h=>by
  simp only [nJ,Bool.and_eq_true] at hB;obtain ⟨⟨qI,hfree⟩,hB'⟩:=hB;have l6:i∈Region.ready md ops listed:=by simpa using qI
  have hlt:=eF l6;have hi:ops[i]?=some ops[i]:=Array.getElem?_eq_getElem hlt;have hp:aQ ops (i :: r)=ops[i] :: aQ ops r:=je hi r;rw [hp] at h;obtain ⟨v,hy,hK⟩:=h;rw [show (i :: r).length+tail.length=(r.length+tail.length)+1 by simp;omega];refine qH (S':=fun w=>DL ops[i]=true\/S w) hi (Region.noSelect_spec hsel) (fun c a w h=>hQ c _ _ w h) (fun j listed w w' hc hj zF hb hS=>?_) (fun w _ _ h=>h) _ listed a w hcl (Region.free_spec hi hfree) l6 hy (.inr hS) ?_
  ·
   rcases hS with hS | hS
   ·
    exact .inl hS
   ·
    cases hany:DL ops[i] with
    | true=>exact .inl rfl
    | false =>
     right
     rcases hbe i (hr i (by simp)) (by unfold nH;rw [hi];exact hany) j (eF hj) with h1 | h1 | h1
     ·
      exact hb (by simp [h1]) hS
     ·
      exact hb (by rw [h1];simp) hS
     ·
      have:=mV hc h1 hj;rw [zF] at this;cases this
  ·
   exact Aa hsel hQ hbe hd Ca r _ _ w (fun x hx=>hr x (by simp [hx])) (fK hcl l6) hB' hS hK
theorem aM {id:Nat}{l:List Oper}{Q:Exit->Act->World->Prop}{a:Act}{w:World}(S:World->Prop)(reads tail:List Nat)(hm:P.follows .mixedOrders=true)
  (hB:Wo .any l.toArray reads tail=true) (hlen:reads.length+tail.length=l.length) (Ca:∀ w w',Ext w w'->S w->S w') (hS:S w.drew)
  (h:∀ Q':Exit->Act->World->Prop,(∀ a w,Q .normal a w->Q' .normal a w)->dX P l.toArray S (fun a'=>wpList P l.toArray Q' (aQ l.toArray tail) a' w.drew) (aQ l.toArray reads) a):(Code.region id l.toArray true).wp P Q a w:=by
 refine wp_region_noPanic ?_;refine wp_region_any hm ?_;simp only [Wo,Bool.and_eq_true,List.all_eq_true,List.mem_range,Bool.or_eq_true,Bool.not_eq_true'] at hB;obtain ⟨⟨⟨hsel,hbe⟩,hd⟩,hl⟩:=hB;refine kG (S:=S) (B:=fun j=>jd l.toArray j || reads.contains j) _ _ _ _ ?_;have key:=Aa (P:=P) (md:=.any) (Q:=NoPanic Q) (S:=S) (reads:=reads) (tail:=tail) hsel (fun c a a' w h=>h) (fun i hi hany j hj=>by
  rcases hbe i hi with h0 | h0
  ·
   rw [hany] at h0;cases h0
  rcases h0 j hj with (h1 | h1) | h1
  ·
   exact .inl h1
  ·
   exact .inr (.inl h1)
  ·
   exact .inr (.inr h1)) hd Ca reads (Array.replicate l.toArray.size false) a { w with drawn:=w.drawn+1 } (fun _ h=>h)
  (fun j oj _ hl=>by rw [getD_replicate_false] at hl;cases hl) hl hS (h (NoPanic Q) (fun _ _ h=>NoPanic.normal h))
 rw [hlen] at key
 simpa using key
end
section
variable {P:Program} {md:Region.Mode} {ops:Array Oper} {Q:Exit->Act->World->Prop} {S:World->Prop}
def uV (P:Program)(ops:Array Oper)(Q:Exit->Act->World->Prop)(S:World->Prop)(M:List Nat):List Nat->Act->World->Prop
 | [],a,w=>Q .normal a w
 | k :: r,a,w=>wpOp P ops Q k (fun a' w'=>(M.contains k=true->S w')/\uV P ops Q S M r a' w') a w
theorem Ab {k:Nat}(h:jd ops k=true):∃ o,ops[k]?=some o/\zZ o=true:=by
 unfold jd at h;cases ho:ops[k]? with
 | none=>rw [ho] at h;cases h
 | some o=>rw [ho] at h;exact ⟨o,rfl,h⟩
theorem kV {B:Nat->Bool}{M:List Nat}(Ca:∀ w w',Ext w w'->S w->S w'):∀ (ks:List Nat) (listed:Array Bool) (a:Act) (w:World),
  (∀ k∈ks,B k=true->jd ops k=true\/M.contains k=true)->BJ md ops ks listed=true->uV P ops Q S M ks a w->eZ P md ops Q S B ks.length listed a w
 | [],_,_,_,_,hB,h=>⟨by simpa [BJ] using hB,h⟩
 | k :: ks,listed,a,w,hmk,hB,h=>by
  simp only [BJ,Bool.and_eq_true,decide_eq_true_eq] at hB;refine ⟨fun h1=>(by rw [hB.1] at h1;cases h1),fun i hi=>?_⟩;rw [hB.1] at hi;have hik:i=k:=by simpa using hi
  subst hik;have hw:wpOp P ops Q i (fun a' w'=>(M.contains i=true->S w')/\uV P ops Q S M ks a' w') a w:=h
  by_cases hb:B i=true
  ·
   rcases hmk i (by simp) hb with hm | hm
   ·
    obtain ⟨o,ho,hmo⟩:=Ab hm;exact wpOp_mono (fun a' w' h'=>⟨fun _ hS=>Ca _ _ h'.1 hS,kV Ca ks _ a' w' (fun k hk=>hmk k (by simp [hk])) hB.2 h'.2.2⟩) (uU ho hmo hw)
   ·
    exact wpOp_mono (fun a' w' h'=>⟨fun _ _=>h'.1 hm,kV Ca ks _ a' w' (fun k hk=>hmk k (by simp [hk])) hB.2 h'.2⟩) hw
  ·
   exact wpOp_mono (fun a' w' h'=>⟨fun hbb=>absurd hbb hb,kV Ca ks _ a' w' (fun k hk=>hmk k (by simp [hk])) hB.2 h'.2⟩) hw
def OM (md:Region.Mode)(ops:Array Oper)(reads tail M:List Nat):Bool :=
 Region.noSelect ops && (reads.all fun i=>nH ops i || (List.range ops.size).all fun j=>jd ops j || reads.contains j || M.contains j || gN md ops ops.size j i) &&
 (tail.all fun k=>!reads.contains k) && nJ md ops tail reads (Array.replicate ops.size false)
theorem yN {reads tail M:List Nat}(hsel:Region.noSelect ops=true)(hQ:∀ c a a' w,Q (.panic c) a w->Q (.panic c) a' w)
  (hbe:∀ i∈reads,nH ops i=false->∀ j,j < ops.size->jd ops j=true\/reads.contains j=true\/M.contains j=true\/gN md ops ops.size j i=true) (hd:∀ k∈tail,reads.contains k=false) (Ca:∀ w w',Ext w w'->S w->S w') :
  ∀ (r:List Nat) (listed:Array Bool) (a:Act) (w:World),(∀ i∈r,i∈reads)->gH md ops listed->nJ md ops tail r listed=true->S w ->
   dX P ops S (fun a'=>uV P ops Q S M tail a' w) (aQ ops r) a ->
   eZ P md ops Q S (fun j=>jd ops j || reads.contains j || M.contains j) (r.length+tail.length) listed a w
 | [],listed,a,w,_,_,hB,_,h=>by
  rw [show ([]:List Nat).length+tail.length=tail.length by simp];refine kV Ca tail listed a w (fun k hk hb=>?_) hB h;have hb':(jd ops k || reads.contains k || M.contains k)=true:=hb;rw [hd k hk,Bool.or_false,Bool.or_eq_true] at hb';exact hb'
 | i :: r,listed,a,w,hr,hcl,hB,hS,h=>by
  simp only [nJ,Bool.and_eq_true] at hB;obtain ⟨⟨qI,hfree⟩,hB'⟩:=hB;have l6:i∈Region.ready md ops listed:=by simpa using qI
  have hlt:=eF l6;have hi:ops[i]?=some ops[i]:=Array.getElem?_eq_getElem hlt;have hp:aQ ops (i :: r)=ops[i] :: aQ ops r:=je hi r;rw [hp] at h;obtain ⟨v,hy,hK⟩:=h;rw [show (i :: r).length+tail.length=(r.length+tail.length)+1 by simp;omega];refine qH (S':=fun w=>DL ops[i]=true\/S w) hi (Region.noSelect_spec hsel) (fun c a w h=>hQ c _ _ w h) (fun j listed w w' hc hj zF hb hS=>?_) (fun w _ _ h=>h) _ listed a w hcl (Region.free_spec hi hfree) l6 hy (.inr hS) ?_
  ·
   rcases hS with hS | hS
   ·
    exact .inl hS
   ·
    cases hany:DL ops[i] with
    | true=>exact .inl rfl
    | false =>
     right
     rcases hbe i (hr i (by simp)) (by unfold nH;rw [hi];exact hany) j (eF hj) with h1 | h1 | h1 | h1
     ·
      exact hb (by simp [h1]) hS
     ·
      exact hb (by rw [h1];simp) hS
     ·
      exact hb (by rw [h1];simp) hS
     ·
      have:=mV hc h1 hj;rw [zF] at this;cases this
  ·
   exact yN hsel hQ hbe hd Ca r _ _ w (fun x hx=>hr x (by simp [hx])) (fK hcl l6) hB' hS hK
def r9 (K:Act->World->Prop):Exit->Act->World->Prop
 | .normal,a,w=>K a w
 | _,_,_=>False
theorem yO {K0 K K':Act->World->Prop}(hK:∀ a w,K a w->K' a w){i:Nat}{a:Act}{w:World}(h:wpOp P ops (r9 K0) i K a w):wpOp P ops Q i K' a w:=by
 unfold wpOp at *;cases ho:ops[i]? with
 | none=>simp only [ho] at h ⊢;exact hK _ _ h
 | some o =>
  simp only [ho] at h ⊢
  split
  ·
   rename_i hw
   simp only [hw,if_true] at h;have h1:=h.resolve_right (fun h=>by obtain ⟨_,_,h⟩:=h.2;exact h)
   left
   unfold Oper.wp at *;generalize (execOp a.eval o).run P w=r at h1;cases r with
   | ok x w' =>
    cases x <;> simp only [Oper.upon] at h1 ⊢
    case value=>exact hK _ _ h1
    case skip=>exact hK _ _ h1
    case defer=>exact hK _ _ h1
    case enter f args =>
     refine h1.mono fun e w'' he=>?_;cases e with
     | returned v=>exact hK _ _ he
     | panicked c=>exact he.elim
     | outgrown=>obtain ⟨_,_,h⟩:=he;exact h.elim
    case row=>exact h1.mono fun v w'' he=>hK _ _ he
   | halt x w'=>cases x <;> simp only [Oper.upon] at h1 ⊢ <;> exact h1.elim
  ·
   rename_i hw
   simp only [hw] at h;exact hK _ _ h
theorem sj {M ks:List Nat}(hM:∀ k∈ks,M.contains k=false):∀ (ks':List Nat),(∀ k∈ks',k∈ks)->(∀ k∈ks',k < ops.size)->∀ (a:Act) (w:World),wpList P ops Q (aQ ops ks') a w->uV P ops Q S M ks' a w
 | [],_,_,_,_,h=>h
 | k :: r,hs,hl,a,w,h=>by
  have hk:k < ops.size:=hl k (by simp);have hi:ops[k]?=some ops[k]:=Array.getElem?_eq_getElem hk;rw [je hi r] at h;have hw:wpOp P ops Q k (wpList P ops Q (aQ ops r)) a w:=by unfold wpOp;simp only [hi];exact h
  exact wpOp_mono (fun a' w' h'=>⟨fun hm=>(by rw [hM k (hs k (by simp))] at hm;cases hm),sj hM r (fun x hx=>hs x (by simp [hx])) (fun x hx=>hl x (by simp [hx])) a' w' h'⟩) hw
theorem vZ {k:Nat}{DT:List Nat}(hk2:DT.contains k=false)(hl2:∀ x∈DT,x < ops.size):∀ (KI:List Nat),(∀ x∈KI ++ [k],x < ops.size)->KI.contains k=false->∀ (a:Act) (w:World),
  wpList P ops (r9 fun a w=>S w/\wpList P ops Q (aQ ops DT) a w) (aQ ops (KI ++ [k])) a w->uV P ops Q S [k] (KI ++ k :: DT) a w
 | [],hl,_,a,w,h=>by
  have hk:k < ops.size:=hl k (by simp);have hi:ops[k]?=some ops[k]:=Array.getElem?_eq_getElem hk;simp only [List.nil_append] at h ⊢;rw [je hi []] at h;have hw:wpOp P ops (r9 fun a w=>S w/\wpList P ops Q (aQ ops DT) a w) k (wpList P ops (r9 fun a w=>S w/\wpList P ops Q (aQ ops DT) a w) (aQ ops [])) a w:=by unfold wpOp;simp only [hi];exact h
  exact yO (fun a' w' h'=>⟨fun _=>h'.1,sj (ks:=DT) (fun x hx=>by simp only [List.contains_eq_mem,decide_eq_false_iff_not] at hk2 ⊢;simp;rintro rfl;exact hk2 hx) DT (fun _ h=>h) hl2 a' w' h'.2⟩) hw
 | x :: r,hl,hc,a,w,h=>by
  have hx:x < ops.size:=hl x (by simp);have hi:ops[x]?=some ops[x]:=Array.getElem?_eq_getElem hx;simp only [List.cons_append] at h ⊢;rw [je hi (r ++ [k])] at h;have hw:wpOp P ops (r9 fun a w=>S w/\wpList P ops Q (aQ ops DT) a w) x (wpList P ops (r9 fun a w=>S w/\wpList P ops Q (aQ ops DT) a w) (aQ ops (r ++ [k]))) a w:=by unfold wpOp;simp only [hi];exact h
  have hne:x≠k:=fun e=>by subst e;simp at hc
  exact yO (fun a' w' h'=>⟨fun hm=>(by simp at hm;exact absurd hm hne),vZ hk2 hl2 r (fun y hy=>hl y (by simp at hy ⊢;exact .inr hy)) (by simp at hc ⊢;exact hc.2) a' w' h'⟩) hw
def KJ (ops:Array Oper)(l:List Nat):Bool:=l.all fun k=>decide (k < ops.size)
theorem Ac {l:List Nat}(h:KJ ops l=true):∀ k∈l,k < ops.size:=fun k hk=>by
 unfold KJ at h;exact of_decide_eq_true (List.all_eq_true.1 h k hk)
theorem jF {id:Nat}{l:List Oper}{a:Act}{w:World}(S:World->Prop)(reads KI:List Nat)(k:Nat)(DT:List Nat)(hm:P.follows .mixedOrders=true)
  (hB:OM .any l.toArray reads (KI ++ k :: DT) [k]=true) (hlt:(KJ l.toArray (KI ++ [k]) && KJ l.toArray DT && !KI.contains k && !DT.contains k)=true) (hlen:reads.length+(KI ++ k :: DT).length=l.length) (Ca:∀ w w',Ext w w'->S w->S w') (hS:S w.drew)
  (h:∀ Q':Exit->Act->World->Prop,(∀ a w,Q .normal a w->Q' .normal a w)->dX P l.toArray S (fun a'=>wpList P l.toArray (r9 fun a w=>S w/\wpList P l.toArray Q' (aQ l.toArray DT) a w) (aQ l.toArray (KI ++ [k])) a' w.drew) (aQ l.toArray reads) a):(Code.region id l.toArray true).wp P Q a w:=by
 refine wp_region_noPanic ?_;refine wp_region_any hm ?_;simp only [OM,Bool.and_eq_true,List.all_eq_true,List.mem_range,Bool.or_eq_true,Bool.not_eq_true'] at hB;obtain ⟨⟨⟨hsel,hbe⟩,hd⟩,hl⟩:=hB;simp only [Bool.and_eq_true,Bool.not_eq_true'] at hlt;obtain ⟨⟨⟨hl1,hl2⟩,hc1⟩,hc2⟩:=hlt;refine kG (S:=S) (B:=fun j=>jd l.toArray j || reads.contains j || [k].contains j) _ _ _ _ ?_;have hr:∀ (rs:List Oper) (a:Act),dX P l.toArray S (fun a'=>wpList P l.toArray (r9 fun a w=>S w/\wpList P l.toArray (NoPanic Q) (aQ l.toArray DT) a w) (aQ l.toArray (KI ++ [k])) a' w.drew) rs a ->
   dX P l.toArray S (fun a'=>uV P l.toArray (NoPanic Q) S [k] (KI ++ k :: DT) a' w.drew) rs a:=by
  intro rs
  induction rs with
  | nil=>exact fun a h=>vZ hc2 (Ac hl2) KI (Ac hl1) hc1 a _ h
  | cons o r ih=>exact fun a ⟨v,hy,h⟩=>⟨v,hy,ih _ h⟩
 have key:=yN (P:=P) (md:=.any) (Q:=NoPanic Q) (S:=S) (reads:=reads) (tail:=KI ++ k :: DT) (M:=[k]) hsel (fun c a a' w h=>h) (fun i hi hany j hj=>by
  rcases hbe i hi with h0 | h0
  ·
   rw [hany] at h0;cases h0
  rcases h0 j hj with ((h1 | h1) | h1) | h1
  ·
   exact .inl h1
  ·
   exact .inr (.inl h1)
  ·
   exact .inr (.inr (.inl h1))
  ·
   exact .inr (.inr (.inr h1))) hd Ca reads (Array.replicate l.toArray.size false) a { w with drawn:=w.drawn+1 } (fun _ h=>h)
  (fun j oj _ hl=>by rw [getD_replicate_false] at hl;cases hl) hl hS (hr _ _ (h (NoPanic Q) (fun _ _ h=>NoPanic.normal h)))
 rw [hlen] at key
 simpa using key
end
section
variable {P:Program} {md:Region.Mode} {ops:Array Oper} {S:World->Prop}
def kW (P:Program)(ops:Array Oper)(S:World->Prop)(o:Oper)(v:Value)(a:Act):Prop :=
 (Region.wanted o (yielded ops a.tmps)=true/\∀ w,S w->(execOp a.eval o).run P w=.ok (.value v) w \/
  ∃ f args,(execOp a.eval o).run P w=.ok (.enter f args) w/\Calls P f args w (fun e w''=>e=.returned v/\S w'')) \/
 (Region.wanted o (yielded ops a.tmps)=false/\v=undef)
def nK (P:Program)(ops:Array Oper)(S:World->Prop)(i:Nat)(K:Act->Prop)(a:Act):Prop :=
 match ops[i]? with
 | none=>K a
 | some o=>∃ v,kW P ops S o v a/\K (a.put o.dst v)
theorem Fv {i:Nat}{a:Act}{K K':Act->Prop}(h:∀ a,K a->K' a)(hh:nK P ops S i K a):nK P ops S i K' a:=by
 unfold nK at *
 split
 ·
  rename_i ho;simp only [ho] at hh;exact h _ hh
 ·
  rename_i o ho
  simp only [ho] at hh;obtain ⟨v,hy,hk⟩:=hh;exact ⟨v,hy,h _ hk⟩
theorem Ad {i:Nat}{a:Act}{w:World}{K:Act->Prop}{K':Act->World->Prop}{Q':Exit->Act->World->Prop}(h:∀ a w',S w'->K a->K' a w')(hS:S w)(hh:nK P ops S i K a):wpOp P ops Q' i K' a w:=by
 unfold nK at hh;unfold wpOp
 split
 ·
  rename_i ho;simp only [ho] at hh;exact h _ _ hS hh
 ·
  rename_i o ho
  simp only [ho] at hh;obtain ⟨v,hy,hk⟩:=hh
  rcases hy with ⟨hw,hv⟩ | ⟨hw,rfl⟩
  ·
   simp only [hw,if_true]
   left
   unfold Oper.wp
   rcases hv w hS with hr | ⟨f,args,hr,hc⟩
   ·
    rw [hr];exact h _ _ hS hk
   ·
    rw [hr];exact hc.mono fun e w'' ⟨he,hs⟩=>by subst he;exact h _ _ hs hk
  ·
   simp only [hw,Bool.false_eq_true,if_false];exact h _ _ hS hk
theorem kW.of_same {o:Oper}{v:Value}{a a':Act}(hy:kW P ops S o v a)(he:execOp a'.eval o=execOp a.eval o)
  (hw:Region.wanted o (yielded ops a'.tmps)=Region.wanted o (yielded ops a.tmps)):kW P ops S o v a':=by
 unfold kW at *;rw [he,hw];exact hy
theorem IB {j:Nat}{oi oj:Oper}{v:Value}(hj:ops[j]?=some oj)(hap:oi.apart ops oj=true)
  (hsi:∀ cs b,oi.op≠.select cs b) (hsj:∀ cs b,oj.op≠.select cs b) {K:Act->Prop} {a:Act}
  (hy:kW P ops S oi v a) (h:nK P ops S j K (a.put oi.dst v)) :
  nK P ops S j (fun a'=>kW P ops S oi v a'/\K (a'.put oi.dst v)) a:=by
 obtain ⟨h1,h2,h3⟩:=Oper.apart_spec hap;unfold nK at *;simp only [hj] at *;obtain ⟨u,hyj,hk⟩:=h;refine ⟨u,hyj.of_same (execOp_put oj hsj a oi.dst v h1).symm (wanted_put oj a oi.dst v h1).symm,hy.of_same (execOp_put oi hsi a oj.dst u h3) (wanted_put oi a oj.dst u h3),?_⟩;rw [<- Act.put_comm a v u h2];exact hk
def Ae (P:Program)(md:Region.Mode)(ops:Array Oper)(S:World->Prop)(L:Array Bool->Act->Prop):Nat->Array Bool->Act->Prop
 | 0,listed,a=>L listed a
 | f+1,listed,a=>Region.ready md ops listed≠[]/\∀ i∈Region.ready md ops listed,nK P ops S i (Ae P md ops S L f (listed.setIfInBounds i true)) a
theorem Af {g:Nat}{L:Array Bool->Act->Prop}{Q':Exit->Act->World->Prop}(hL:∀ listed a w,S w->L listed a->wpAny P md ops Q' g listed a w) :
  ∀ (f:Nat) (listed:Array Bool) (a:Act) (w:World),S w->Ae P md ops S L f listed a->wpAny P md ops Q' (f+g) listed a w
 | 0,listed,a,w,hS,h=>by rw [Nat.zero_add];exact hL _ _ _ hS h
 | f+1,listed,a,w,hS,h=>by
  rw [show f+1+g=(f+g)+1 by omega];exact ⟨fun h0=>absurd h0 h.1,fun i hi=>Ad (fun a' w' hs h'=>Af hL f _ a' w' hs h') hS (h.2 i hi)⟩
theorem kW.soft {i:Nat}{o:Oper}{v:Value}{a:Act}(hi:ops[i]?=some o)(hy:kW P ops S o v a){K:Act->Prop}(h:K (a.put o.dst v)):nK P ops S i K a:=by
 unfold nK;simp only [hi];exact ⟨v,hy,h⟩
theorem DU {i:Nat}{oi:Oper}{v:Value}{L:Array Bool->Act->Prop}{head:List Nat}{base:Array Bool}(hi:ops[i]?=some oi)(hsel:∀ (j:Nat)(o:Oper) cs b,ops[j]?=some o->o.op≠.select cs b)
  (hbe:∀ j,j < ops.size->base.getD j false=true\/head.contains j=true\/gN md ops ops.size j i=true)
  (hdone:∀ listed a,L listed a->∀ j∈Region.ready md ops listed,head.contains j=false) :
  ∀ (f:Nat) (listed:Array Bool) (a:Act),gH md ops listed->(∀ j,base.getD j false=true->listed.getD j false=true) ->
   (∀ j oj,ops[j]?=some oj->j≠i->listed.getD j true=false->(∀ e∈oj.after,Region.binds md e=true->e.on≠i)->oi.apart ops oj=true) ->
   i∈Region.ready md ops listed->kW P ops S oi v a ->
   Ae P md ops S L f (listed.setIfInBounds i true) (a.put oi.dst v)->Ae P md ops S L (f+1) listed a:=by
 intro f
 induction f with
 | zero =>
  intro listed a hcl hmo _ hr hy H;have zF:=getD_both (mem_ready.1 hr).1;refine ⟨fun h=>(by rw [h] at hr;cases hr),fun j hj=>?_⟩
  by_cases hji:j=i
  ·
   subst hji;exact hy.soft hi H
  ·
   have h1:=hdone _ _ H j (ready_mono hj hji)
   rcases hbe j (eF hj) with h2 | h2 | h2
   ·
    have:=getD_both (mem_ready.1 hj).1;rw [hmo j h2] at this;cases this
   ·
    rw [h1] at h2;cases h2
   ·
    have:=mV hcl h2 hj;rw [zF] at this;cases this
 | succ f ih =>
  intro listed a hcl hmo hfree hr hy H;have zF:=getD_both (mem_ready.1 hr).1;refine ⟨fun h=>(by rw [h] at hr;cases hr),fun j hj=>?_⟩
  by_cases hji:j=i
  ·
   subst hji;exact hy.soft hi H
  ·
   have h1:=H.2 j (ready_mono hj hji);obtain ⟨hjun,oj,hoj,hall⟩:=mem_ready.1 hj;have hnot:∀ e∈oj.after,Region.binds md e=true->e.on≠i:=fun e he hb heq=>by
    have h1:=hall e he hb;rw [heq,zF] at h1;cases h1
   have h2:=IB hoj (hfree j oj hoj hji hjun hnot) (fun cs b=>hsel i oi cs b hi) (fun cs b=>hsel j oj cs b hoj) hy h1;have hfree':∀ k ok,ops[k]?=some ok->k≠i->(listed.setIfInBounds j true).getD k true=false ->
     (∀ e∈ok.after,Region.binds md e=true->e.on≠i)->oi.apart ops ok=true:=fun k ok hk hki hun hno=>by
    refine hfree k ok hk hki ?_ hno
    by_cases hjk:j=k
    ·
     subst hjk;exact hjun
    ·
     rw [getD_set_ne true hjk] at hun;exact hun
   refine Fv (fun a' h3=>ih (listed.setIfInBounds j true) a' (fK hcl hj) (fun k hk=>getD_set_true (hmo k hk)) hfree' (ready_mono hr (Ne.symm hji)) h3.1 ?_) h2;rw [Array.setIfInBounds_comm _ _ hji];exact h3.2
def nL (P:Program)(ops:Array Oper)(S:World->Prop)(Q:Act->Prop):List Oper->Act->Prop
 | [],a=>Q a
 | o :: rest,a=>∃ v,kW P ops S o v a/\nL P ops S Q rest (a.put o.dst v)
theorem iI {Q:Act->Prop}{a:Act}(h:Q a):nL P ops S Q [] a:=h
theorem Ag {Q:Act->Prop}{a:Act}{o:Oper}{rest:List Oper}(v:Value)(h:Region.wanted o (yielded ops a.tmps)=true)(hv:∀ w,S w->(execOp a.eval o).run P w=.ok (.value v) w)
 (hk:nL P ops S Q rest (a.put o.dst v)):nL P ops S Q (o :: rest) a:=⟨v,.inl ⟨h,fun w hw=>.inl (hv w hw)⟩,hk⟩
theorem gT {Q:Act->Prop}{a:Act}{o:Oper}{rest:List Oper}(v:Value)(f:FuncId)(args:Array Value)(h:Region.wanted o (yielded ops a.tmps)=true)(hv:∀ w,(execOp a.eval o).run P w=.ok (.enter f args) w)
 (hc:∀ w,S w->Calls P f args w (fun e w''=>e=.returned v/\S w''))
 (hk:nL P ops S Q rest (a.put o.dst v)):nL P ops S Q (o :: rest) a:=⟨v,.inl ⟨h,fun w hw=>.inr ⟨f,args,hv w,hc w hw⟩⟩,hk⟩
theorem yP {Q:Act->Prop}{a:Act}{o:Oper}{rest:List Oper}(h:Region.wanted o (yielded ops a.tmps)=false)
 (hk:nL P ops S Q rest (a.put o.dst undef)):nL P ops S Q (o :: rest) a:=⟨undef,.inr ⟨h,rfl⟩,hk⟩
def Cb (md:Region.Mode)(ops:Array Oper)(listed:Array Bool)(h:List Nat):Bool :=
 h.all fun i=>(List.range ops.size).all fun j=>listed.getD j false || h.contains j || gN md ops ops.size j i
def fJ (md:Region.Mode)(ops:Array Oper)(k:Array Bool->Bool):List Nat->Array Bool->Bool
 | [],listed=>k listed
 | i :: r,listed=>(Region.ready md ops listed).contains i && Region.free md ops listed i && fJ md ops k r (listed.setIfInBounds i true)
def kK (md:Region.Mode)(ops:Array Oper)(k:Array Bool->Bool):List Nat->Array Bool->Bool
 | [],listed=>k listed
 | t :: r,listed=>decide (Region.ready md ops listed=[t]) && kK md ops k r (listed.setIfInBounds t true)
def xD (md:Region.Mode)(ops:Array Oper):List (List Nat × List Nat)->Array Bool->Bool
 | [],listed=>(Region.ready md ops listed).isEmpty
 | (h,t) :: r,listed=>Cb md ops listed h && fJ md ops (fun l'=>((Region.ready md ops l').all fun j=>!h.contains j) && kK md ops (xD md ops r) t l') h listed
def zN:List (List Nat × List Nat)->Nat
 | []=>0
 | (h,t) :: r=>h.length+(t.length+zN r)
def mW (Q:Exit->Act->World->Prop)(K:Act->World->Prop):Exit->Act->World->Prop
 | .normal,a,w=>K a w
 | e,a,w=>Q e a w
def DV (P:Program)(ops:Array Oper)(Q:Exit->Act->World->Prop):List (List Nat × List Nat)->Act->World->Prop
 | [],a,w=>Q .normal a w
 | (h,t) :: r,a,w=>∃ S:World->Prop,S w/\nL P ops S (fun a'=>∀ w',S w'->wpList P ops (mW Q (DV P ops Q r)) (aQ ops t) a' w') (aQ ops h) a
theorem xE {Q:Exit->Act->World->Prop}{K0 K K':Act->World->Prop}(hK:∀ a w,K a w->K' a w){i:Nat}{a:Act}{w:World}(h:wpOp P ops (mW Q K0) i K a w):wpOp P ops Q i K' a w:=by
 have hL:LetsOut (mW Q K0)->LetsOut Q:=fun ⟨a,w,h⟩=>⟨a,w,h⟩;unfold wpOp at *;cases ho:ops[i]? with
 | none=>simp only [ho] at h ⊢;exact hK _ _ h
 | some o =>
  simp only [ho] at h ⊢
  split
  ·
   rename_i hw
   simp only [hw,if_true] at h;refine h.imp (fun h1=>?_) (fun h1=>⟨h1.1,hL h1.2⟩);unfold Oper.wp at *;generalize (execOp a.eval o).run P w=r at h1;cases r with
   | ok x w' =>
    cases x <;> simp only [Oper.upon] at h1 ⊢
    case value=>exact hK _ _ h1
    case skip=>exact hK _ _ h1
    case defer=>exact hK _ _ h1
    case enter f args =>
     refine h1.mono fun e w'' he=>?_;cases e with
     | returned v=>exact hK _ _ he
     | panicked c=>exact he
     | outgrown=>exact hL he
    case row=>exact h1.mono fun v w'' he=>hK _ _ he
   | halt x w'=>cases x <;> simp only [Oper.upon] at h1 ⊢ <;> exact h1
  ·
   rename_i hw
   simp only [hw] at h;exact hK _ _ h
theorem rH {Q:Exit->Act->World->Prop}{K:Act->World->Prop}{k:Array Bool->Bool}{n:Nat}(hk:∀ listed a w,gH md ops listed->k listed=true->K a w->wpAny P md ops Q n listed a w):∀ (t:List Nat) (listed:Array Bool) (a:Act) (w:World),gH md ops listed ->
  kK md ops k t listed=true->wpList P ops (mW Q K) (aQ ops t) a w->wpAny P md ops Q (t.length+n) listed a w
 | [],listed,a,w,hcl,hB,h=>by rw [show ([]:List Nat).length+n=n by simp];exact hk listed a w hcl hB h
 | i :: r,listed,a,w,hcl,hB,h=>by
  simp only [kK,Bool.and_eq_true,decide_eq_true_eq] at hB;have qI:i∈Region.ready md ops listed:=by rw [hB.1];simp
  have hlt:=eF qI;have hi:ops[i]?=some ops[i]:=Array.getElem?_eq_getElem hlt;rw [je hi r] at h;rw [show (i :: r).length+n=(r.length+n)+1 by simp;omega];refine ⟨fun h1=>(by rw [hB.1] at h1;cases h1),fun j hj=>?_⟩;rw [hB.1] at hj;have hij:j=i:=by simpa using hj
  subst hij;have hw:wpOp P ops (mW Q K) j (wpList P ops (mW Q K) (aQ ops r)) a w:=by unfold wpOp;simp only [hi];exact h
  exact xE (fun a' w' h'=>rH hk r _ a' w' (fK hcl qI) hB.2 h') hw
theorem wm {head:List Nat}{base:Array Bool}{G:Act->Prop}{k:Array Bool->Bool}(hsel:Region.noSelect ops=true)(hk:∀ l',k l'=true->∀ j∈Region.ready md ops l',head.contains j=false)
  (hbe:∀ i∈head,∀ j,j < ops.size->base.getD j false=true\/head.contains j=true\/gN md ops ops.size j i=true) :
  ∀ (r:List Nat) (listed:Array Bool) (a:Act),(∀ i∈r,i∈head)->gH md ops listed->(∀ j,base.getD j false=true->listed.getD j false=true)->fJ md ops k r listed=true ->
   nL P ops S G (aQ ops r) a->Ae P md ops S (fun l' a'=>gH md ops l'/\k l'=true/\G a') r.length listed a
 | [],listed,a,_,hcl,_,hB,h=>⟨hcl,hB,h⟩
 | i :: r,listed,a,hr,hcl,hmo,hB,h=>by
  simp only [fJ,Bool.and_eq_true] at hB;obtain ⟨⟨qI,hfree⟩,hB'⟩:=hB;have l6:i∈Region.ready md ops listed:=by simpa using qI
  have hlt:=eF l6;have hi:ops[i]?=some ops[i]:=Array.getElem?_eq_getElem hlt;rw [je hi r] at h;obtain ⟨v,hy,hK⟩:=h;refine DU (head:=head) (base:=base) hi (Region.noSelect_spec hsel) (hbe i (hr i (by simp))) (fun l' a' hL j hj=>hk l' hL.2.1 j hj) _ listed a hcl hmo (Region.free_spec hi hfree) l6 hy ?_;exact wm hsel hk hbe r _ _ (fun x hx=>hr x (by simp [hx])) (fK hcl l6) (fun j hj=>getD_set_true (hmo j hj)) hB' hK
theorem Ah {Q:Exit->Act->World->Prop}(hsel:Region.noSelect ops=true):∀ (p:List (List Nat × List Nat)) (listed:Array Bool) (a:Act) (w:World),gH md ops listed->xD md ops p listed=true->DV P ops Q p a w->wpAny P md ops Q (zN p) listed a w
 | [],listed,a,w,_,hB,h=>⟨by simpa [xD] using hB,h⟩
 | (hd,t) :: r,listed,a,w,hcl,hB,h=>by
  simp only [xD,Cb,Bool.and_eq_true,List.all_eq_true,List.mem_range,Bool.or_eq_true] at hB;obtain ⟨hbe,hst⟩:=hB;obtain ⟨S,hS,hh⟩:=h;have key:=wm (P:=P) (S:=S) (base:=listed) hsel (fun l' hl j hj=>by
   simp only [Bool.and_eq_true,List.all_eq_true,Bool.not_eq_true'] at hl;exact hl.1 j hj) (fun i hi j hj=>by
    rcases hbe i hi j hj with (h1 | h1) | h1
    ·
     exact .inl h1
    ·
     exact .inr (.inl h1)
    ·
     exact .inr (.inr h1)) hd listed a (fun _ h=>h) hcl (fun _ h=>h) hst hh
  refine Af (fun l' a' w' hS' hL=>?_) _ _ _ _ hS key;obtain ⟨hcl',hk',hG⟩:=hL;simp only [Bool.and_eq_true] at hk';exact rH (fun l2 a2 w2 DW hk2 hK2=>Ah hsel r l2 a2 w2 DW hk2 hK2) t l' a' w' hcl' hk'.2 (hG w' hS')
theorem Ai {id:Nat}{l:List Oper}{Q:Exit->Act->World->Prop}{a:Act}{w:World}(p:List (List Nat × List Nat))(hm:P.follows .mixedOrders=true)
  (hB:(Region.noSelect l.toArray && xD .any l.toArray p (Array.replicate l.toArray.size false))=true) (hlen:zN p=l.length)
  (h:DV P l.toArray Q p a w.drew):(Code.region id l.toArray true).wp P Q a w:=by
 refine wp_region_any hm ?_;simp only [Bool.and_eq_true] at hB;have key:=Ah (P:=P) (md:=.any) (ops:=l.toArray) (Q:=Q) hB.1 p _ a { w with drawn:=w.drawn+1 } (fun j oj _ hl=>by rw [getD_replicate_false] at hl;cases hl) hB.2 h;rw [hlen] at key
 simpa using key
theorem L8 (Q:Exit->Act->World->Prop):mW Q (fun a w=>Q .normal a w)=Q:=by
 funext e a w
 cases e <;> rfl
theorem fC {id:Nat}{l:List Oper}{Q:Exit->Act->World->Prop}{a:Act}{w:World}(S:World->Prop)(head tail:List Nat)(hm:P.follows .mixedOrders=true)
  (hB:(Region.noSelect l.toArray && xD .any l.toArray [(head,tail)] (Array.replicate l.toArray.size false))=true) (hlen:zN [(head,tail)]=l.length) (hS:S w.drew)
  (h:nL P l.toArray S (fun a'=>∀ w',S w'->wpList P l.toArray Q (aQ l.toArray tail) a' w') (aQ l.toArray head) a):(Code.region id l.toArray true).wp P Q a w:=by
 refine Ai [(head,tail)] hm hB hlen ⟨S,hS,?_⟩;have e:mW Q (DV P l.toArray Q [])=Q:=L8 Q;rw [e];exact h
end
section
variable {P:Program} {md:Region.Mode} {ops:Array Oper} {Q:Exit->Act->World->Prop} {S:World->Prop}
end
structure abo (Q:Prop):Prop where
 out:Q
theorem aD {P Q:Prop}(k:Q)(h:abo Q->P:=by
 intro kk
 repeat (first
  | (refine DR (by rfl) ?_;(try simp only [pt]))
  | (refine DN ?_ (by rfl) (by rfl) ?_ ?_;rotate_left;(intro wz hz;(try dsimp only at hz);go_simp;try with_reducible rfl);(try simp only [pt]))
  | (refine Fu ?_ (by rfl) ?_ ?_;rotate_left;(intro wz;go_simp;try with_reducible rfl);(try simp only [pt])))
 exact kk.out):P:=h ⟨k⟩
structure ZI (Q:Prop):Prop where
 out:Q
theorem fD {P Q:Prop}(k:Q)(h:ZI Q->P:=by
 intro kk
 repeat (first
  | (refine yP (by rfl) ?_;(try simp only [pt]))
  | (refine Ag ?_ (by rfl) ?_ ?_;rotate_left;(intro wz hz;(try dsimp only at hz);(first | (go_simp;done) | (go_simp;with_reducible rfl)));(try simp only [pt])))
 exact kk.out):P:=h ⟨k⟩
end Go.Proofs.YtepjkmnhmcjbkaaGreat
namespace Go.Proofs.YtepjkmnhmcjbkaaGreat
open Go.RowKit
theorem af {p:Prop}(h:p):Go.RowKit.Hid p:=h
theorem bU:(Tryz.prog.info? 3).map (fun i=>(i.zero,i.size,i.bytes))=some (some (.int .i64 0),1,8):=by kernel_rfl
theorem lK:(Tryz.prog.info? 27).map (fun i=>(i.zero,i.size,i.bytes))=some (some (.slice none 0 0),1,24):=by kernel_rfl
theorem wo {k:IntKind}{a b:Int}(h:a=b):Ending.returned (.int k a)=.returned (.int k b):=by rw [h]
theorem mX (zs:List Int):∀ u∈zs.map (Value.int .i64),u.oneCell'=true:=ints_oneCell .i64 zs
theorem IC {w w':World}(h:aG (fun _=>False) w w'):Below w.heap.size w w':=h.below (Nat.le_refl _) (fun _ _ h=>h)
def xG (w:World)(l:List Int)(e:Ending)(w':World):Prop :=
 ∃ g cap,e=.returned (.slice (some ⟨g,0,none⟩) l.length cap)/\w'.ownsRow w.heap.size 3 1 (.slice (some ⟨g,0,none⟩) l.length cap) l.length (bB l)/\Below w.heap.size w w'
theorem tO {o:Col}{c:Nat}(w:World)(ao:Option Addr)(n cap:Nat)(l:List Int)(h:Ints w o c (.slice ao n cap) l)(hn:l.length<=17600000000000):Calls Tryz.prog 63 #[.slice ao n cap] w (xG w l):=by
 obtain ⟨i0,hi,hz0,hz1,hz2⟩:=info_parts bU;obtain ⟨hnone,hnews⟩:=h.news;obtain rfl:=h.len;have HN:=af hn;have su:=af hnone;have wu:=af hnews;clear hn hnone hnews h;go_enter Tryz.func63,Tryz.ntmps63;go_wp2_with (at_builtin;refine aU ?_);refine dR ?_;have hown0:=World.ownsRow_made (e:=3) (size:=1) (base:=w.heap.size) w #[] 0 (Nat.le_refl _) (Nat.zero_le _) rfl;refine aS rfl _ _ 27 rfl w.heap.size 3 i0 _ 1 8 Tryz.underlying27 hi hz0 hz1 hz2 rfl (.slice (some ⟨w.heap.size,0,none⟩) 0 0) 0 [] rfl hown0 ao l.length cap (bB l) rfl (by simp) su.out (fun ad had j u hu=>ca (wu.out ad had j u hu)) (mX l) (by have:=HN.out;unfold maxLen;omega) (bA (by have:=HN.out;omega)) (by simp) ?_;intro v' w2 g1 g20 g3 g4;have g2:(w.alloc (.cells #[] 3)).grownBy w2 (Value.slice (some ⟨w.heap.size,0,none⟩) 0 0).ownBlock:=g20;have hb:Below w.heap.size w w2:=(((aG.refl (fun _=>False) w).alloc (.cells #[] 3)).grown g2 (fun k hk hlt=>by have:=Option.some.inj hk;simp at this;omega)).below (Nat.le_refl _) (fun _ _ h=>h);simp only [Nat.zero_add,List.nil_append] at g1;have hne:v'≠.slice none 0 0:=fun e=>by have:=(g3.1 e).1;cases this
 obtain ⟨g,cp,rfl⟩:∃ g cp,v'=.slice (some ⟨g,0,none⟩) l.length cp:=by
  rcases g1.2 with ⟨e,_⟩ | ⟨g,cp,cur,e,_⟩
  ·
   exact absurd e hne
  ·
   exact ⟨g,cp,e⟩
 clear g20 g2 g3 g4 hown0 hne;go_wp2;go_ret;exact ⟨g,cp,rfl,g1,hb⟩
theorem dS {o:Col}{c:Nat}(w:World)(ao:Option Addr)(n cap:Nat)(l:List Int)(h:Ints w o c (.slice ao n cap) l)(hn:l.length<=17600000000000):Calls Tryz.prog 61 #[.slice ao n cap] w (xG w l):=by
 obtain ⟨i0,hi,hz0,hz1,hz2⟩:=info_parts bU;obtain ⟨hnone,hnews⟩:=h.news;obtain rfl:=h.len;have HN:=af hn;have su:=af hnone;have wu:=af hnews;clear hn hnone hnews h;go_enter Tryz.func61,Tryz.ntmps61;go_wp2_with (at_builtin;refine aU ?_);refine dR ?_;have hown0:=World.ownsRow_made (e:=3) (size:=1) (base:=w.heap.size) w #[] 0 (Nat.le_refl _) (Nat.zero_le _) rfl;refine aS rfl _ _ 27 rfl w.heap.size 3 i0 _ 1 8 Tryz.underlying27 hi hz0 hz1 hz2 rfl (.slice (some ⟨w.heap.size,0,none⟩) 0 0) 0 [] rfl hown0 ao l.length cap (bB l) rfl (by simp) su.out (fun ad had j u hu=>ca (wu.out ad had j u hu)) (mX l) (by have:=HN.out;unfold maxLen;omega) (bA (by have:=HN.out;omega)) (by simp) ?_;intro v' w2 g1 g20 g3 g4;have g2:(w.alloc (.cells #[] 3)).grownBy w2 (Value.slice (some ⟨w.heap.size,0,none⟩) 0 0).ownBlock:=g20;have hb:Below w.heap.size w w2:=(((aG.refl (fun _=>False) w).alloc (.cells #[] 3)).grown g2 (fun k hk hlt=>by have:=Option.some.inj hk;simp at this;omega)).below (Nat.le_refl _) (fun _ _ h=>h);simp only [Nat.zero_add,List.nil_append] at g1;have hne:v'≠.slice none 0 0:=fun e=>by have:=(g3.1 e).1;cases this
 obtain ⟨g,cp,rfl⟩:∃ g cp,v'=.slice (some ⟨g,0,none⟩) l.length cp:=by
  rcases g1.2 with ⟨e,_⟩ | ⟨g,cp,cur,e,_⟩
  ·
   exact absurd e hne
  ·
   exact ⟨g,cp,e⟩
 clear g20 g2 g3 g4 hown0 hne;go_wp2;go_ret;exact ⟨g,cp,rfl,g1,hb⟩
theorem Aj (w:World)(n m:Int):Calls Tryz.prog 60 #[.int .i64 n,.int .i64 m] w fun e w'=>e=.returned (.bool (decide (1<=n/\n<=m)))/\w=w':=by
 by_cases h1:1<=n
 ·
  by_cases h2:n<=m
  ·
   have hd:decide (1<=n/\n<=m)=true:=by simp [h1,h2]
   rw [hd];clear hd;go_enter Tryz.func60,Tryz.ntmps60;go_wp2;go_ret;exact ⟨rfl,rfl⟩
  ·
   have hd:decide (1<=n/\n<=m)=false:=by simp [h2]
   rw [hd];clear hd;go_enter Tryz.func60,Tryz.ntmps60;go_wp2;go_ret;exact ⟨rfl,rfl⟩
 ·
  have hd:decide (1<=n/\n<=m)=false:=by simp [h1]
  rw [hd];clear hd;go_enter Tryz.func60,Tryz.ntmps60;go_wp2;go_ret;exact ⟨rfl,rfl⟩
theorem Fw (n k:Nat)(r:Int)(h:k < n):(bB (List.replicate k r ++ List.replicate (n - k) 0)).set k (iv r)=bB (List.replicate (k+1) r ++ List.replicate (n - (k+1)) 0):=by
 rw [<- List.map_set,List.set_append_right _ _ (by simp),List.replicate_succ',List.append_assoc]
 congr 1
 simp only [List.length_replicate,Nat.sub_self];obtain ⟨m,hm⟩:∃ m,n - k=m+1:=⟨n - k - 1,by omega⟩;rw [hm,List.replicate_succ,show n - (k+1)=m by omega];rfl
theorem lM (n:Nat):(madeCells (Value.cells (.int .i64 0)) (n*1)).toList=bB (List.replicate n 0):=by
 rw [Nat.mul_one];simp [madeCells,Value.cells,bB,Nat.mod_one,List.map_const']
theorem wB (w:World)(n:Nat)(r:Int)(hn:n<=1000000):Calls Tryz.prog 62 #[.int .i64 n,.int .i64 r] w (xG w (List.replicate n r)):=by
 obtain ⟨i0,hi,hz0,hz1,hz2⟩:=info_parts bU;obtain ⟨w1,hr,hown,hg⟩:=run_make_full (P:=Tryz.prog) w w.heap.size 27 3 i0 _ 1 Tryz.underlying27 hi hz0 hz1 .i64 .i64 n (by rw [hz2];omega) (by unfold maxLen;omega) (Nat.le_refl _);have hb1:Below w.heap.size w w1:=((aG.refl (fun _=>False) w).grown hg (fun k hk _=>by cases hk)).below (Nat.le_refl _) (fun _ _ h=>h);rw [lM] at hown;have hnn:(n:Int)<=1000000:=by omega
 go_enter Tryz.func62,Tryz.ntmps62;go_wp2_with fail;clear hr hg
 go_loopw [11] (fun i wr=>∃ k:Nat,k<=n/\i=.int .i64 k/\wr.ownsRow w.heap.size 3 1 (.slice (some ⟨w.heap.size,0,none⟩) n n) n (bB (List.replicate k r ++ List.replicate (n - k) 0))/\Below w.heap.size w wr) (fun i _=>n - (intOf i).toNat)
 case atStart=>exact ⟨0,Nat.zero_le _,rfl,by simpa using hown,hb1⟩
 case round =>
  clear hown hb1;obtain ⟨k,hk,rfl,ho,hb⟩:=hrel
  by_cases hlt:k < n
  ·
   obtain ⟨_,_,g',_,e,hc,hf,_⟩:=bQ ho (by simp;omega);cases e
   have hc':=hc k _ (by rw [List.getElem?_eq_getElem (by simp;omega)]);have hf':=hf k;have bX:(k:Int) < n:=by omega
   obtain ⟨ho2,hg2⟩:=ho.stored k (iv r);rw [Fw n k r hlt] at ho2;have hb2:=hb.trans (((aG.refl (fun j=>j=w.heap.size) wr).grown hg2 (fun j hj _=>(Option.some.inj hj).symm)).below (B:=w.heap.size) (by have:=hb.size;omega) (fun j hj e=>by omega));clear ho hb hg2 hc hf;go_wp2;go_roundw
   case rel=>exact ⟨k+1,by omega,by go_num,ho2,hb2⟩
   case measure=>simp [intOf];omega
  ·
   obtain rfl:k=n:=by omega
   go_wp2;go_ret;refine ⟨w.heap.size,k,?_,?_,hb⟩
   ·
    rw [List.length_replicate];rfl
   ·
    rw [List.length_replicate];simpa using ho
abbrev Has (w:World) (v:Value) (vs:List Value):Prop:=cu w (fun _=>0) 0 v vs
section
variable {o o' o1 o2:Col} {C D:Nat->Prop} {w w' w1 w2:World} {c d:Nat}
theorem cu.has {v:Value}{vs:List Value}(h:cu w o c v vs):Has w v vs:=by
 rcases h with h | ⟨hp,b,off,cap,rfl,hl,hb,_,hcl⟩
 ·
  exact .inl h
 ·
  exact .inr ⟨hp,b,off,cap,rfl,hl,hb,rfl,hcl⟩
theorem cu.below {v:Value}{vs:List Value}(h:Has w v vs)(hb:Below w.heap.size w w'):Has w' v vs:=h.turn (o':=fun _=>0) (C:=fun _=>False) ⟨aG.of_below hb _,fun _ _=>rfl⟩ (fun h=>h)
def LL (w:World)(v:Value)(xss:List (List Int)):Prop :=
 ∃ vs,vs.length=xss.length/\Has w v vs/\∀ k,k < xss.length->Has w (vs[k]?.getD undef) (bB (xss[k]?.getD []))
theorem LL.below {v:Value}{xss:List (List Int)}(h:LL w v xss)(hb:Below w.heap.size w w'):LL w' v xss:=by
 obtain ⟨vs,h1,h2,h3⟩:=h;exact ⟨vs,h1,h2.below hb,fun k hk=>(h3 k hk).below hb⟩
theorem LL.slice {v:Value}{xss:List (List Int)}(h:LL w v xss):∃ ao cap,v=.slice ao xss.length cap:=by
 obtain ⟨vs,h1,h2,_⟩:=h;rw [<- h1];exact h2.slice
theorem LL.at {ao:Option Addr}{n cap:Nat}{xss:List (List Int)}(h:LL w (.slice ao n cap) xss)(hp:0 < xss.length):∃ b off,ao=some ⟨b,off,none⟩/\n<=cap /\
  ∀ k,k < xss.length->∃ a0 c0,w.cell? ⟨b,off+k,none⟩=some (.slice a0 (xss[k]?.getD []).length c0)/\Has w (.slice a0 (xss[k]?.getD []).length c0) (bB (xss[k]?.getD [])):=by
 obtain ⟨vs,h1,h2,h3⟩:=h;obtain ⟨b,off,e,_,hc,_,_,hcl⟩:=h2.at (by omega);refine ⟨b,off,e,hc,fun k hk=>?_⟩;have hr:=h3 k hk;have hk':=hcl k (by omega);obtain ⟨a0,c0,e0⟩:=hr.slice;rw [aX] at e0;rw [e0] at hr hk';exact ⟨a0,c0,hk',hr⟩
def canon (N R:Nat):Col:=fun k=>if k=R then 2 else if k < N then 0 else 1
theorem pR {N R k:Nat}(h:N<=k)(hR:k≠R):canon N R k=1:=by simp [canon,hR,Nat.not_lt.2 h]
theorem Ak {N R k:Nat}(h:canon N R k=1):N<=k/\k≠R:=by
 unfold canon at h
 split at h
 ·
  cases h
 ·
  split at h
  ·
   cases h
  ·
   exact ⟨by omega,by assumption⟩
def kX (w:World)(o:Col)(c:Nat)(ov:Value)(xss:List (List Int)):Prop :=
 ∃ vs,vs.length=xss.length/\Own w o c 27 1 ov vs.length vs/\(∀ k,k < xss.length->Own w o c 3 1 (vs[k]?.getD undef) (xss[k]?.getD []).length (bB (xss[k]?.getD []))) /\
  (∀ i j B,i < j->j < xss.length->(vs[i]?.getD undef).ownBlock=some B->(vs[j]?.getD undef).ownBlock≠some B)/\∀ i B,i < xss.length->(vs[i]?.getD undef).ownBlock=some B->ov.ownBlock≠some B
theorem kX.turn {ov:Value}{xss:List (List Int)}(h:kX w o c ov xss)(T:Turn o o' C w w')(hc:¬ C c):kX w' o' c ov xss:=by
 obtain ⟨vs,h1,h2,h3,h4,h5⟩:=h;exact ⟨vs,h1,h2.turn T hc,fun k hk=>(h3 k hk).turn T hc,h4,h5⟩
theorem kX.dO {ov:Value}{xss:List (List Int)}(h:kX w o c ov xss)(ho:∀ k,k < w.heap.size->o k=c->o' k=d):kX w o' d ov xss:=by
 obtain ⟨vs,h1,h2,h3,h4,h5⟩:=h;exact ⟨vs,h1,⟨h2.1,fun k hk=>ho k (h2.1.lt k hk).2 (h2.2 k hk)⟩,fun k hk=>⟨(h3 k hk).1,fun j hj=>ho j ((h3 k hk).1.lt j hj).2 ((h3 k hk).2 j hj)⟩,h4,h5⟩
theorem kX.nil (w:World)(o:Col)(c:Nat):kX w o c (.slice none 0 0) []:=⟨[],rfl,Own.nil _ _ _ _ _,fun k hk=>by simp at hk,fun i j B _ hj=>by simp at hj,fun i B hi=>by simp at hi⟩
theorem wC {N R:Nat}{v:Value}{l:List Int}(hv:w1.ownsRow N 3 1 v l.length (bB l))(hs:N<=w1.heap.size)(hR:v.ownBlock≠some R)(Fx:w1.heap.size≠R) :
  kX (w1.alloc (.cells #[v] 27)) (canon N R) 1 (.slice (some ⟨w1.heap.size,0,none⟩) 1 1) [l]:=by
 have hb:=heap_alloc_new w1 (.cells #[v] 27);have hv':=hv.alloc (.cells #[v] 27);refine ⟨[v],rfl,⟨⟨rfl,.inr ⟨w1.heap.size,1,#[v],rfl,Nat.zero_le _,hb,Nat.le_refl _,by unfold maxLen;omega,rfl,rfl⟩⟩,fun k hk=>?_⟩,fun k hk=>?_,fun i j B hij hj=>by simp at hj;omega,fun i B hi hB=>?_⟩
 ·
  obtain rfl:=Option.some.inj hk;exact pR hs Fx
 ·
  obtain rfl:k=0:=by simpa using hk
  exact ⟨bI hv' (fun _ _=>Nat.zero_le _),fun j hj=>pR (hv.lt j hj).1 (fun e=>hR (by rw [<- e];exact hj))⟩
 ·
  obtain rfl:i=0:=by simpa using hi
  intro e;obtain rfl:=Option.some.inj e;exact absurd (hv.lt _ hB).2 (Nat.lt_irrefl _)
theorem kX.set {g n cap i:Nat}{xss:List (List Int)}{v':Value}{l':List Int}{F:Nat->Prop}{vs:List Value}(h1:vs.length=xss.length)(h2:Own w o c 27 1 (.slice (some ⟨g,0,none⟩) n cap) vs.length vs)
  (h3:∀ k,k < xss.length->Own w o c 3 1 (vs[k]?.getD undef) (xss[k]?.getD []).length (bB (xss[k]?.getD []))) (h4:∀ i j B,i < j->j < xss.length->(vs[i]?.getD undef).ownBlock=some B->(vs[j]?.getD undef).ownBlock≠some B)
  (h5:∀ i B,i < xss.length->(vs[i]?.getD undef).ownBlock=some B->g≠B) (hi:i < xss.length) (hm:aG F w w1) (hF:∀ k,k < w.heap.size->F k->(vs[i]?.getD undef).ownBlock=some k)
  (hv:Own w1 o c 3 1 v' l'.length (bB l')) (hb:v'.ownBlock=(vs[i]?.getD undef).ownBlock\/∀ k,v'.ownBlock=some k->w.heap.size<=k) :
  kX (w1.setCell ⟨g,i,none⟩ v') o c (.slice (some ⟨g,0,none⟩) n cap) (xss.set i l'):=by
 have hgw:g < w.heap.size:=(h2.1.lt g rfl).2;have hg1:g < w1.heap.size:=Nat.lt_of_lt_of_le hgw hm.size;have new:∀ k,k < w.heap.size->(vs[i]?.getD undef).ownBlock≠some k->v'.ownBlock≠some k:=fun k hk hn e=>by
  rcases hb with hb | hb
  ·
   exact hn (hb ▸ e)
  ·
   have:=hb k e;omega
 have hgn:v'.ownBlock≠some g:=new g hgw (fun e=>h5 i g hi e rfl);have hown1:w1.ownsRow 0 27 1 (.slice (some ⟨g,0,none⟩) n cap) vs.length vs:=eD h2.1 hm (fun k hk f=>h5 i k hi (hF k (by have e:g=k:=Option.some.inj hk;omega) f) (Option.some.inj hk));have hn:n=vs.length:=by
  rcases h2.1.2 with ⟨e,_⟩ | ⟨_,_,_,e,_⟩
  ·
   cases e
  ·
   cases e;rfl
 subst hn;have hst:=(hown1.stored i v').1;refine ⟨vs.set i v',by simp [h1],⟨by rw [List.length_set];exact hst,h2.2⟩,fun k hk=>?_,fun a b B hab hb' hB=>?_,fun a B ha hB=>?_⟩
 ·
  rw [List.length_set] at hk
  by_cases hki:k=i
  ·
   subst hki;have e1:(vs.set k v')[k]?.getD undef=v':=by simp [show k < vs.length by omega]
   have e2:(xss.set k l')[k]?.getD []=l':=by simp [hk]
   rw [e1,e2];exact ⟨ownsRow_setCell_other hv.1 hgn v',hv.2⟩
  ·
   have e1:(vs.set i v')[k]?.getD undef=vs[k]?.getD undef:=by rw [List.getElem?_set_ne (Ne.symm hki)]
   have e2:(xss.set i l')[k]?.getD []=xss[k]?.getD []:=by rw [List.getElem?_set_ne (Ne.symm hki)]
   rw [e1,e2];have hk3:=h3 k hk;refine ⟨ownsRow_setCell_other (eD hk3.1 hm fun B hB f=>?_) (fun e=>h5 k g hk e rfl) v',hk3.2⟩;have:=hF B (hk3.1.lt B hB).2 f
   rcases Nat.lt_or_gt_of_ne hki with hlt | hlt
   ·
    exact h4 k i B hlt hi hB this
   ·
    exact h4 i k B hlt hk this hB
 ·
  rw [List.length_set] at hb';have olt:∀ k B,k < xss.length->(vs[k]?.getD undef).ownBlock=some B->B < w.heap.size:=fun k B hk hB=>((h3 k hk).1.lt B hB).2
  by_cases hai:a=i
  ·
   subst hai;rw [show (vs.set a v')[a]?.getD undef=v' by simp [show a < vs.length by omega]] at hB;rw [List.getElem?_set_ne (by omega)];intro e;have hBl:=olt b B hb' e;exact new B hBl (fun e'=>h4 a b B hab hb' e' e) hB
  ·
   rw [List.getElem?_set_ne (Ne.symm hai)] at hB
   by_cases hbi:b=i
   ·
    subst hbi;rw [show (vs.set b v')[b]?.getD undef=v' by simp [show b < vs.length by omega]];exact new B (olt a B (by omega) hB) (h4 a b B hab hb' hB)
   ·
    rw [List.getElem?_set_ne (Ne.symm hbi)];exact h4 a b B hab hb' hB
 ·
  rw [List.length_set] at ha
  by_cases hai:a=i
  ·
   subst hai;rw [show (vs.set a v')[a]?.getD undef=v' by simp [show a < vs.length by omega]] at hB;intro e;exact hgn (by rw [hB];exact e.symm)
  ·
   rw [List.getElem?_set_ne (Ne.symm hai)] at hB;intro e;exact h5 a B ha hB (Option.some.inj e)
end
structure fE where
 name:ByteArray
 tag:Int
 params:List Int
structure jw where
 src:Int
 dw:Int
 dst:Int
 dx:Int
 start:List Int
structure fF where
 name:ByteArray
 aW:Int
 port:Int
structure av where
 name:ByteArray
 actors:List fE
 edges:List jw
 ins:List fF
 outs:List fF
structure Te where
 base:Int
 size:Int
structure abX where
 regions:List Te
 total:Int
inductive Xu where
 | nil:Xu
 | cons (times node:Int) (body rest:Xu):Xu
section
variable {w w':World}
def pU {α:Type}(w:World)(sz:Nat)(R:World->α->List Value->Prop)(v:Value)(l:List α):Prop :=
 (l=[]/\∃ ao cap,v=.slice ao 0 cap) \/
 (0 < l.length/\∃ b off cap,v=.slice (some ⟨b,off,none⟩) l.length cap/\l.length<=cap/\b < w.heap.size /\
  ∀ k (hk:k < l.length),∃ cs,cs.length=sz/\R w l[k] cs/\∀ i,i < sz->w.cell? ⟨b,off+k*sz+i,none⟩=some (cs[i]?.getD undef))
def DX {α:Type}(R:World->α->List Value->Prop):Prop:=∀ w w' a cs,Below w.heap.size w w'->R w a cs->R w' a cs
theorem pU.below {α:Type}{sz:Nat}{R:World->α->List Value->Prop}(hR:DX R){v:Value}{l:List α}(h:pU w sz R v l)(hb:Below w.heap.size w w'):pU w' sz R v l:=by
 rcases h with h | ⟨hp,b,off,cap,e,hl,hlt,h⟩
 ·
  exact .inl h
 ·
  refine .inr ⟨hp,b,off,cap,e,hl,Nat.lt_of_lt_of_le hlt hb.size,fun k hk=>?_⟩;obtain ⟨cs,h1,h2,h3⟩:=h k hk;exact ⟨cs,h1,hR w w' _ _ hb h2,fun i hi=>(hb.cell hlt).trans (h3 i hi)⟩
theorem pU.slice {α:Type}{sz:Nat}{R:World->α->List Value->Prop}{v:Value}{l:List α}(h:pU w sz R v l):∃ ao cap,v=.slice ao l.length cap:=by
 rcases h with ⟨rfl,ao,cap,rfl⟩ | ⟨_,b,off,cap,rfl,_⟩
 ·
  exact ⟨_,_,rfl⟩
 ·
  exact ⟨_,_,rfl⟩
theorem pU.at {α:Type}{sz:Nat}{R:World->α->List Value->Prop}{ao:Option Addr}{n cap:Nat}{l:List α}(h:pU w sz R (.slice ao n cap) l)(hp:0 < l.length) :
  ∃ b off,ao=some ⟨b,off,none⟩/\l.length<=cap/\b < w.heap.size/\∀ k (hk:k < l.length),∃ cs,cs.length=sz/\R w l[k] cs/\∀ i,i < sz->w.cell? ⟨b,off+k*sz+i,none⟩=some (cs[i]?.getD undef):=by
 rcases h with ⟨rfl,_⟩ | ⟨_,b,off,cap',e,hl,hlt,h⟩
 ·
  simp at hp
 ·
  cases e
  exact ⟨b,off,rfl,hl,hlt,h⟩
def DY (w:World)(a:fE)(cs:List Value):Prop:=∃ x,cs=[.string a.name,.int .u8 a.tag,x]/\Has w x (bB a.params)
def KL (w:World)(e:jw)(cs:List Value):Prop:=∃ x,cs=[.int .i64 e.src,.int .i64 e.dw,.int .i64 e.dst,.int .i64 e.dx,x]/\Has w x (bB e.start)
def Cc (_:World)(p:fF)(cs:List Value):Prop:=cs=[.string p.name,.int .i64 p.aW,.int .i64 p.port]
theorem DZ:DX DY:=fun _ _ _ _ hb ⟨x,h1,h2⟩=>⟨x,h1,h2.below hb⟩
theorem yQ:DX KL:=fun _ _ _ _ hb ⟨x,h1,h2⟩=>⟨x,h1,h2.below hb⟩
theorem oN:DX Cc:=fun _ _ _ _ _ h=>h
structure dK (w:World) (v:Value) (g:av):Prop where
 shape:∃ va ve vi vo,v=.agg #[.string g.name,va,ve,vi,vo]/\pU w 3 DY va g.actors/\pU w 5 KL ve g.edges/\pU w 3 Cc vi g.ins/\pU w 3 Cc vo g.outs
theorem dK.below {v:Value}{g:av}(h:dK w v g)(hb:Below w.heap.size w w'):dK w' v g:=by
 obtain ⟨va,ve,vi,vo,h0,h1,h2,h3,h4⟩:=h.shape;exact ⟨va,ve,vi,vo,h0,h1.below DZ hb,h2.below yQ hb,h3.below oN hb,h4.below oN hb⟩
end
end Go.Proofs.YtepjkmnhmcjbkaaGreat
namespace Go.Proofs.YtepjkmnhmcjbkaaGreat
def hd (ps:List Int):Int:=ps[0]?.getD 0
def hd1 (ps:List Int):Int:=ps[1]?.getD 0
def aZ (ps:List Int):Prop:=ps.length=2/\(1<=hd ps/\hd ps<=16)/\(1<=hd1 ps/\hd1 ps<=64)/\hd ps*hd1 ps<=64
def bP (ps:List Int)(m:Int):Prop:=ps.length=1/\1<=hd ps/\hd ps<=m
def aC (t:Int)(ps:List Int):Prop :=
 (t=1/\1<=ps.length/\ps.length<=16)\/(t=2/\bP ps 64)\/(t=3/\bP ps 64)\/(t=4/\aZ ps)\/(t=5/\aZ ps)\/(t=6/\bP ps 16)\/(t=7/\ps.length=0)\/(t=8/\ps.length=0)\/(t=9/\bP ps 16)\/(t=10/\ps.length=2)\/(t=11/\bP ps 64)
def bJ (t:Int)(ps:List Int):List Int :=
 if t=3\/t=11 then [hd ps] else if t=4 then List.replicate (hd ps).toNat (hd1 ps) else if t=5 then [hd ps*hd1 ps] else if t=6 then List.replicate (hd ps).toNat 1 else if t=7 then [1,1] else if t=10 then [] else [1]
def aV (t:Int)(ps:List Int):List Int :=
 if t=2 then [hd ps] else if t=4 then [hd ps*hd1 ps] else if t=5 then List.replicate (hd ps).toNat (hd1 ps) else if t=9 then List.replicate (hd ps).toNat 1 else if t=11 then [] else [1]
instance (ps:List Int):Decidable (aZ ps):=by unfold aZ;infer_instance
instance (ps:List Int) (m:Int):Decidable (bP ps m):=by unfold bP;infer_instance
instance (t:Int) (ps:List Int):Decidable (aC t ps):=by unfold aC;infer_instance
theorem l7 {t:Int}{ps:List Int}(h:aC t ps):t=1\/t=2\/t=3\/t=4\/t=5\/t=6\/t=7\/t=8\/t=9\/t=10\/t=11:=by
 rcases h with h | h | h | h | h | h | h | h | h | h | h <;> omega
def uG (t:Int):Int:=if 1<=t/\t<=11 then 61 else 60
def jy (t:Int):Prop:=t=1\/t=2\/t=3\/t=4\/t=5\/t=6\/t=7\/t=8\/t=9\/t=10\/t=11
open Go.RowKit
instance:DecidableEq ByteArray:=fun a b=>decidable_of_iff (a.data=b.data) (ByteArray.ext_iff).symm
def j5 (s:ByteArray)(i:Nat):Int:=if h:i < s.size then ((s[i]'h).toNat:Int) else 0
def lV (b:Int):Bool:=decide (97<=b) && decide (b<=122)
def uW (b:Int):Bool:=decide (48<=b) && decide (b<=57)
def ig (b:Int):Bool:=lV b || uW b || decide (b=95)
def nameP (s:ByteArray):Bool:=lV (j5 s 0) && (List.range s.size).all (fun i=>ig (j5 s i)) && decide (s.size<=16)
def lg (seen:List ByteArray)(s:ByteArray):Int:=if nameP s then (if seen.any (fun x=>decide (x=s)) then 83 else 0) else 82
def wD (side:List (List Bool))(a:Int):List Bool:=side[a.toNat]?.getD []
def gD (side:List (List Bool))(a p:Int):Int :=
 if a < 0\/(side.length:Int)<=a then 84
 else if p < 0\/((wD side a).length:Int)<=p then 85
 else if (wD side a)[p.toNat]?.getD false then 86 else 0
def lI (side:List (List Bool))(a p:Int):List (List Bool):=side.set a.toNat ((wD side a).set p.toNat true)
structure kL where
 seen:List ByteArray
 ins:List (List Bool)
 outs:List (List Bool)
def nM (seen:List ByteArray)(a:fE):Int:=if lg seen a.name≠0 then lg seen a.name else if aC a.tag a.params then 0 else uG a.tag
def mH (c:kL)(a:fE):kL:=⟨c.seen ++ [a.name],c.ins ++ [List.replicate (bJ a.tag a.params).length false],c.outs ++ [List.replicate (aV a.tag a.params).length false]⟩
def iq:kL->List fE->Int
 | _,[]=>0
 | c,a :: r=>if nM c.seen a≠0 then nM c.seen a else iq (mH c a) r
def cO (c:kL)(l:List fE):kL:=l.foldl mH c
def rJ (c:kL)(e:jw):Int:=if gD c.outs e.src e.dw≠0 then gD c.outs e.src e.dw else if gD c.ins e.dst e.dx≠0 then gD c.ins e.dst e.dx else if 256 < e.start.length then 88 else 0
def yR (c:kL)(e:jw):kL:=⟨c.seen,lI c.ins e.dst e.dx,lI c.outs e.src e.dw⟩
def jG:kL->List jw->Int
 | _,[]=>0
 | c,e :: r=>if rJ c e≠0 then rJ c e else jG (yR c e) r
def iy (c:kL)(l:List jw):kL:=l.foldl yR c
def nN (seen:List ByteArray)(side:List (List Bool))(p:fF):Int:=if lg seen p.name≠0 then lg seen p.name else gD side p.aW p.port
def dJ:List ByteArray->List (List Bool)->List fF->Int
 | _,_,[]=>0
 | seen,side,p :: r=>if nN seen side p≠0 then nN seen side p else dJ (seen ++ [p.name]) (lI side p.aW p.port) r
def aY (side:List (List Bool))(l:List fF):List (List Bool):=l.foldl (fun s p=>lI s p.aW p.port) side
def bK (seen:List ByteArray)(l:List fF):List ByteArray:=seen ++ l.map fF.name
def lq (g:av):Int :=
 if !nameP g.name then 82 else if g.actors.length=0 then 80 else if 32 < g.actors.length then 81 else if 96 < g.edges.length then 81 else if 16 < g.ins.length then 81 else if 16 < g.outs.length then 81 else 0
def mQ (ins outs:List (List Bool)):Int:=if (ins.all fun s=>s.all id) && (outs.all fun s=>s.all id) then 0 else 87
def j3:kL:=⟨[],[],[]⟩
def nP (g:av):kL:=cO j3 g.actors
def bE (g:av):kL:=iy (nP g) g.edges
def jH (g:av):Int :=
 if lq g≠0 then lq g
 else if iq j3 g.actors≠0 then iq j3 g.actors
 else if jG (nP g) g.edges≠0 then jG (nP g) g.edges
 else if dJ (bE g).seen (bE g).ins g.ins≠0 then dJ (bE g).seen (bE g).ins g.ins
 else if dJ (bK (bE g).seen g.ins) (bE g).outs g.outs≠0 then dJ (bK (bE g).seen g.ins) (bE g).outs g.outs
 else mQ (aY (bE g).ins g.ins) (aY (bE g).outs g.outs)
end Go.Proofs.YtepjkmnhmcjbkaaGreat
namespace Go.Proofs.YtepjkmnhmcjbkaaGreat
inductive Stp (S:Type) where
 | waits
 | fails
 | goes (s:S)
structure abp (S:Type) where
 step:S->Nat->Stp S
 swap:∀ {s s1 s2:S} {a b:Nat},a≠b->step s a=.goes s1->step s b=.goes s2->∃ s3,step s1 b=.goes s3/\step s2 a=.goes s3
 falls:∀ {s s2:S} {a b:Nat},a≠b->step s a=.fails->step s b=.goes s2->step s2 a=.fails
section
variable {S:Type} (K:abp S)
inductive OQ:S->List Nat->S->Prop where
 | nil (s:S):OQ s [] s
 | cons {s s1 s2:S} {a:Nat} {l:List Nat} (h:K.step s a=.goes s1) (r:OQ s1 l s2):OQ s (a :: l) s2
variable {K}
end
end Go.Proofs.YtepjkmnhmcjbkaaGreat
namespace Go.Proofs.YtepjkmnhmcjbkaaGreat
open Go.RowKit
theorem IE (w:World)(n m:Int)(h1:1<=n)(h2:n<=m):Calls Tryz.prog 60 #[.int .i64 n,.int .i64 m] w fun e w'=>e=.returned (.bool true)/\w=w':=by
 have:=Aj w n m
 rwa [decide_eq_true (And.intro h1 h2)] at this
theorem L9 (w:World)(n m:Int)(h:n < 1\/m < n):Calls Tryz.prog 60 #[.int .i64 n,.int .i64 m] w fun e w'=>e=.returned (.bool false)/\w=w':=by
 have:=Aj w n m
 rwa [decide_eq_false (by omega)] at this
theorem eU (w:World)(vs:List Int)(hp:0 < vs.length):Ints (w.alloc (.cells (bB vs).toArray 3)) (fun _=>0) 0 (.slice (some ⟨w.heap.size,0,none⟩) vs.length vs.length) vs:=by
 have h:=heap_alloc_new w (.cells (bB vs).toArray 3);refine .inr ⟨by simpa using hp,w.heap.size,0,vs.length,by simp,by simp,by simp,rfl,fun k hk=>?_⟩;rw [Nat.zero_add];refine ah _ _ h k _ ?_;rw [List.getElem?_toArray];simp at hk;simp [hk]
def jm (w:World)(t:Int)(ps:List Int)(e:Ending)(w':World):Prop :=
 ∃ vi vo,e=.returned (.tuple #[vi,vo,.int .i64 0])/\w'.ownsRow w.heap.size 3 1 vi (bJ t ps).length (bB (bJ t ps))/\w'.ownsRow w.heap.size 3 1 vo (aV t ps).length (bB (aV t ps))/\Below w.heap.size w w'
def fP (w:World)(x:Int)(e:Ending)(w':World):Prop:=e=.returned (.tuple #[.slice none 0 0,.slice none 0 0,.int .i64 x])/\Below w.heap.size w w'
theorem iP {w W0 w1 W1 w2:World}{v1 v2:Value}{n1 n2:Nat}{l1 l2:List Value}(h0:Below w.heap.size w W0)(ho1:w1.ownsRow W0.heap.size 3 1 v1 n1 l1)(hb1:Below W0.heap.size W0 w1)(h1:Below w1.heap.size w1 W1)(ho2:w2.ownsRow W1.heap.size 3 1 v2 n2 l2)(hb2:Below W1.heap.size W1 w2) :
  w2.ownsRow w.heap.size 3 1 v1 n1 l1/\w2.ownsRow w.heap.size 3 1 v2 n2 l2/\Below w.heap.size w w2:=by
 have s0:=h0.size;have s1:=hb1.size;have s2:=h1.size;have b2:Below w1.heap.size w1 w2:=h1.trans (hb2.mono s2);exact ⟨bI (eD ho1 (aG.of_below b2 (fun _=>False)) (fun _ _ h=>h)) (fun k hk=>by have:=(ho1.lt k hk).1;omega),bI ho2 (fun k hk=>by have:=(ho2.lt k hk).1;omega),h0.trans ((hb1.mono s0).trans (b2.mono (by omega)))⟩
theorem zO {w W0 w1:World}{v1:Value}{n1:Nat}{l1:List Value}(h0:Below w.heap.size w W0)(ho1:w1.ownsRow W0.heap.size 3 1 v1 n1 l1)(hb1:Below W0.heap.size W0 w1) :
  w1.ownsRow w.heap.size 3 1 v1 n1 l1/\Below w.heap.size w w1:=by
 have s0:=h0.size;exact ⟨bI ho1 (fun k hk=>by have:=(ho1.lt k hk).1;omega),h0.trans (hb1.mono s0)⟩
theorem Xv (w:World)(t:Int)(v:Value)(h:t < 1\/11 < t):Calls Tryz.prog 42 #[.int .u8 t,v] w (fP w 60):=by
 by_cases h1:t < 1
 ·
  go_enter Tryz.func42,Tryz.ntmps42;go_wp2;go_ret3;exact ⟨rfl,Below.refl _ _⟩
 ·
  have h2:11 < t:=by omega
  go_enter Tryz.func42,Tryz.ntmps42;go_wp2;go_ret3;exact ⟨rfl,Below.refl _ _⟩
structure ZJ (Q:Prop):Prop where
 out:Q
theorem bL {P Q:Prop}(k:Q)(h:ZJ Q->P:=by
 intro kk
 (first | ((with_reducible refine (IE _ _ _ ?_ ?_).mono ?_);(focus omega);(focus omega)) | ((with_reducible refine (L9 _ _ _ ?_).mono ?_);(focus omega)));rintro e w' ⟨rfl,rfl⟩
 exact kk.out):P:=h ⟨k⟩
theorem gK (x y:Int):(x < 1\/16 < x)\/((1<=x/\x<=16)/\(y < 1\/64 < y))\/((1<=x/\x<=16)/\(1<=y/\y<=64)/\0<=x*y/\x*y<=64)\/((1<=x/\x<=16)/\(1<=y/\y<=64)/\64 < x*y/\x*y<=1024):=by
 by_cases h1:x < 1\/16 < x
 ·
  exact .inl h1
 ·
  by_cases h2:y < 1\/64 < y
  ·
   exact .inr (.inl ⟨by omega,h2⟩)
  ·
   have h3:0<=x*y:=Int.mul_nonneg (by omega) (by omega);have h4:x*y<=16*64:=Int.mul_le_mul (by omega) (by omega) (by omega) (by omega)
   by_cases h5:x*y<=64
   ·
    exact .inr (.inr (.inl ⟨by omega,by omega,h3,h5⟩))
   ·
    exact .inr (.inr (.inr ⟨by omega,by omega,by omega,by omega⟩))
theorem Tf (w:World)(ao:Option Addr)(cap:Nat):Calls Tryz.prog 42 #[.int .u8 1,.slice ao 0 cap] w (fP w 61):=by
 go_enter Tryz.func42,Tryz.ntmps42;go_wp2_with (go_at_call 60;refine bL ?_);go_ret3;exact ⟨rfl,Below.refl _ _⟩
theorem Tg (w:World){o:Col}{c:Nat}(ao:Option Addr)(cap:Nat)(x:Int)(h:Ints w o c (.slice ao 1 cap) [x]):Calls Tryz.prog 42 #[.int .u8 1,.slice ao 1 cap] w (jm w 1 [x]):=by
 obtain ⟨b,off,rfl,-,hcap,-,-,hc⟩:=h.at (by simp);have c0:=hc 0 (by simp);simp at c0;clear hc h;go_enter Tryz.func42,Tryz.ntmps42;go_wp2_with (go_at_call 60;refine bL ?_);refine (dS _ _ _ _ [1] (eU _ [1] (by simp))  (by simp)).mono ?_;rintro e w1 ⟨g1,c1,rfl,ho1,hb1⟩;go_wp2_with fail;refine (dS _ _ _ _ [1] (eU _ [1] (by simp))  (by simp)).mono ?_;rintro e w2 ⟨g2,c2,rfl,ho2,hb2⟩;go_wp2;go_ret3;exact ⟨_,_,rfl,by simpa [bJ,aV,hd,hd1] using iP (by first | exact Below.refl _ _ | exact (Below.refl _ _).alloc (Nat.le_refl _) _) ho1 hb1 (by first | exact Below.refl _ _ | exact (Below.refl _ _).alloc (Nat.le_refl _) _) ho2 hb2⟩
theorem Ti (w:World){o:Col}{c:Nat}(ao:Option Addr)(cap:Nat)(x y:Int)(h:Ints w o c (.slice ao 2 cap) [x,y]):Calls Tryz.prog 42 #[.int .u8 1,.slice ao 2 cap] w (jm w 1 [x,y]):=by
 obtain ⟨b,off,rfl,-,hcap,-,-,hc⟩:=h.at (by simp);have c0:=hc 0 (by simp);have c1:=hc 1 (by simp);simp at c0 c1;clear hc h;have hcase:(x < 1\/16 < x)\/((1<=x/\x<=16)/\(y < 1\/64 < y))\/((1<=x/\x<=16)/\(1<=y/\y<=64)/\0<=x*y/\x*y<=64)\/((1<=x/\x<=16)/\(1<=y/\y<=64)/\64 < x*y/\x*y<=1024):=gK x y
 rcases hcase with hx | ⟨hx,hy⟩ | ⟨hx,hy,hz,hz2⟩ | ⟨hx,hy,hz,hz2⟩
 all_goals
  go_enter Tryz.func42,Tryz.ntmps42;go_wp2_with (go_at_call 60;refine bL ?_);refine (dS _ _ _ _ [1] (eU _ [1] (by simp))  (by simp)).mono ?_;rintro e w1 ⟨g1,c1,rfl,ho1,hb1⟩;go_wp2_with fail;refine (dS _ _ _ _ [1] (eU _ [1] (by simp))  (by simp)).mono ?_;rintro e w2 ⟨g2,c2,rfl,ho2,hb2⟩;go_wp2;go_ret3;exact ⟨_,_,rfl,by simpa [bJ,aV,hd,hd1] using iP (by first | exact Below.refl _ _ | exact (Below.refl _ _).alloc (Nat.le_refl _) _) ho1 hb1 (by first | exact Below.refl _ _ | exact (Below.refl _ _).alloc (Nat.le_refl _) _) ho2 hb2⟩
theorem OT (w:World){o:Col}{c:Nat}(ao:Option Addr)(cap:Nat)(l:List Int)(k:Nat)(hk:l.length=k+3)(hm:k<=13)(h:Ints w o c (.slice ao (k+3) cap) l):Calls Tryz.prog 42 #[.int .u8 1,.slice ao (k+3) cap] w (jm w 1 l):=by
 obtain ⟨b,off,rfl,-,hcap,-,-,hc⟩:=h.at (by omega);have c0:=hc 0 (by omega);have c1:=hc 1 (by omega);generalize l[0]?.getD 0=x at c0;generalize l[1]?.getD 0=y at c1;have hkk:(k:Int)<=17600000000000:=by omega
 rw [Nat.add_zero] at c0;clear hc h hk;go_enter Tryz.func42,Tryz.ntmps42;go_wp2_with (go_at_call 60;refine bL ?_);refine (dS _ _ _ _ [1] (eU _ [1] (by simp))  (by simp)).mono ?_;rintro e w1 ⟨g1,c1,rfl,ho1,hb1⟩;go_wp2_with fail;refine (dS _ _ _ _ [1] (eU _ [1] (by simp))  (by simp)).mono ?_;rintro e w2 ⟨g2,c2,rfl,ho2,hb2⟩;go_wp2;go_ret3;exact ⟨_,_,rfl,by simpa [bJ,aV,hd,hd1] using iP (by first | exact Below.refl _ _ | exact (Below.refl _ _).alloc (Nat.le_refl _) _) ho1 hb1 (by first | exact Below.refl _ _ | exact (Below.refl _ _).alloc (Nat.le_refl _) _) ho2 hb2⟩
theorem OU (w:World){o:Col}{c:Nat}(ao:Option Addr)(cap:Nat)(l:List Int)(k:Nat)(hk:l.length=k+3)(hm1:13 < k)(hm:k<=17600000000000)(h:Ints w o c (.slice ao (k+3) cap) l):Calls Tryz.prog 42 #[.int .u8 1,.slice ao (k+3) cap] w (fP w 61):=by
 obtain ⟨b,off,rfl,-,hcap,-,-,hc⟩:=h.at (by omega);have c0:=hc 0 (by omega);have c1:=hc 1 (by omega);generalize l[0]?.getD 0=x at c0;generalize l[1]?.getD 0=y at c1;have hkk:(k:Int)<=17600000000000:=by omega
 rw [Nat.add_zero] at c0;clear hc h hk;have hk1:(13:Int) < k:=by omega
 go_enter Tryz.func42,Tryz.ntmps42;go_wp2_with (go_at_call 60;refine bL ?_);go_ret3;exact ⟨rfl,Below.refl _ _⟩
theorem Tj (w:World)(ao:Option Addr)(cap:Nat):Calls Tryz.prog 42 #[.int .u8 2,.slice ao 0 cap] w (fP w 61):=by
 go_enter Tryz.func42,Tryz.ntmps42;go_wp2_with (go_at_call 60;refine bL ?_);go_ret3;exact ⟨rfl,Below.refl _ _⟩
theorem OW (w:World){o:Col}{c:Nat}(ao:Option Addr)(cap:Nat)(x:Int)(h1:1<=x)(h2:x<=64)(h:Ints w o c (.slice ao 1 cap) [x]):Calls Tryz.prog 42 #[.int .u8 2,.slice ao 1 cap] w (jm w 2 [x]):=by
 obtain ⟨b,off,rfl,-,hcap,-,-,hc⟩:=h.at (by simp);have c0:=hc 0 (by simp);simp at c0;clear hc h;go_enter Tryz.func42,Tryz.ntmps42;go_wp2_with (go_at_call 60;refine bL ?_);refine (dS _ _ _ _ [1] (eU _ [1] (by simp))  (by simp)).mono ?_;rintro e w1 ⟨g1,c1,rfl,ho1,hb1⟩;go_wp2_with fail;refine (dS _ _ _ _ [x] (eU _ [x] (by simp))  (by simp)).mono ?_;rintro e w2 ⟨g2,c2,rfl,ho2,hb2⟩;go_wp2;go_ret3;exact ⟨_,_,rfl,by simpa [bJ,aV,hd,hd1] using iP (by first | exact Below.refl _ _ | exact (Below.refl _ _).alloc (Nat.le_refl _) _) ho1 hb1 (by first | exact Below.refl _ _ | exact (Below.refl _ _).alloc (Nat.le_refl _) _) ho2 hb2⟩
theorem OX (w:World){o:Col}{c:Nat}(ao:Option Addr)(cap:Nat)(x:Int)(h1:x < 1\/64 < x)(h:Ints w o c (.slice ao 1 cap) [x]):Calls Tryz.prog 42 #[.int .u8 2,.slice ao 1 cap] w (fP w 61):=by
 obtain ⟨b,off,rfl,-,hcap,-,-,hc⟩:=h.at (by simp);have c0:=hc 0 (by simp);simp at c0;clear hc h;go_enter Tryz.func42,Tryz.ntmps42;go_wp2_with (go_at_call 60;refine bL ?_);go_ret3;exact ⟨rfl,Below.refl _ _⟩
theorem Tk (w:World){o:Col}{c:Nat}(ao:Option Addr)(cap:Nat)(x y:Int)(h:Ints w o c (.slice ao 2 cap) [x,y]):Calls Tryz.prog 42 #[.int .u8 2,.slice ao 2 cap] w (fP w 61):=by
 obtain ⟨b,off,rfl,-,hcap,-,-,hc⟩:=h.at (by simp);have c0:=hc 0 (by simp);have c1:=hc 1 (by simp);simp at c0 c1;clear hc h;have hcase:(x < 1\/16 < x)\/((1<=x/\x<=16)/\(y < 1\/64 < y))\/((1<=x/\x<=16)/\(1<=y/\y<=64)/\0<=x*y/\x*y<=64)\/((1<=x/\x<=16)/\(1<=y/\y<=64)/\64 < x*y/\x*y<=1024):=gK x y
 rcases hcase with hx | ⟨hx,hy⟩ | ⟨hx,hy,hz,hz2⟩ | ⟨hx,hy,hz,hz2⟩
 all_goals
  go_enter Tryz.func42,Tryz.ntmps42;go_wp2_with (go_at_call 60;refine bL ?_);go_ret3;exact ⟨rfl,Below.refl _ _⟩
theorem Tm (w:World){o:Col}{c:Nat}(ao:Option Addr)(cap:Nat)(l:List Int)(k:Nat)(hk:l.length=k+3)(hm:k<=17600000000000)(h:Ints w o c (.slice ao (k+3) cap) l):Calls Tryz.prog 42 #[.int .u8 2,.slice ao (k+3) cap] w (fP w 61):=by
 obtain ⟨b,off,rfl,-,hcap,-,-,hc⟩:=h.at (by omega);have c0:=hc 0 (by omega);have c1:=hc 1 (by omega);generalize l[0]?.getD 0=x at c0;generalize l[1]?.getD 0=y at c1;have hkk:(k:Int)<=17600000000000:=by omega
 rw [Nat.add_zero] at c0;clear hc h hk;go_enter Tryz.func42,Tryz.ntmps42;go_wp2_with (go_at_call 60;refine bL ?_);go_ret3;exact ⟨rfl,Below.refl _ _⟩
theorem Tp (w:World)(ao:Option Addr)(cap:Nat):Calls Tryz.prog 42 #[.int .u8 3,.slice ao 0 cap] w (fP w 61):=by
 go_enter Tryz.func42,Tryz.ntmps42;go_wp2_with (go_at_call 60;refine bL ?_);go_ret3;exact ⟨rfl,Below.refl _ _⟩
theorem OY (w:World){o:Col}{c:Nat}(ao:Option Addr)(cap:Nat)(x:Int)(h1:1<=x)(h2:x<=64)(h:Ints w o c (.slice ao 1 cap) [x]):Calls Tryz.prog 42 #[.int .u8 3,.slice ao 1 cap] w (jm w 3 [x]):=by
 obtain ⟨b,off,rfl,-,hcap,-,-,hc⟩:=h.at (by simp);have c0:=hc 0 (by simp);simp at c0;clear hc h;go_enter Tryz.func42,Tryz.ntmps42;go_wp2_with (go_at_call 60;refine bL ?_);refine (dS _ _ _ _ [x] (eU _ [x] (by simp))  (by simp)).mono ?_;rintro e w1 ⟨g1,c1,rfl,ho1,hb1⟩;go_wp2_with fail;refine (dS _ _ _ _ [1] (eU _ [1] (by simp))  (by simp)).mono ?_;rintro e w2 ⟨g2,c2,rfl,ho2,hb2⟩;go_wp2;go_ret3;exact ⟨_,_,rfl,by simpa [bJ,aV,hd,hd1] using iP (by first | exact Below.refl _ _ | exact (Below.refl _ _).alloc (Nat.le_refl _) _) ho1 hb1 (by first | exact Below.refl _ _ | exact (Below.refl _ _).alloc (Nat.le_refl _) _) ho2 hb2⟩
theorem OZ (w:World){o:Col}{c:Nat}(ao:Option Addr)(cap:Nat)(x:Int)(h1:x < 1\/64 < x)(h:Ints w o c (.slice ao 1 cap) [x]):Calls Tryz.prog 42 #[.int .u8 3,.slice ao 1 cap] w (fP w 61):=by
 obtain ⟨b,off,rfl,-,hcap,-,-,hc⟩:=h.at (by simp);have c0:=hc 0 (by simp);simp at c0;clear hc h;go_enter Tryz.func42,Tryz.ntmps42;go_wp2_with (go_at_call 60;refine bL ?_);go_ret3;exact ⟨rfl,Below.refl _ _⟩
theorem Tv (w:World){o:Col}{c:Nat}(ao:Option Addr)(cap:Nat)(x y:Int)(h:Ints w o c (.slice ao 2 cap) [x,y]):Calls Tryz.prog 42 #[.int .u8 3,.slice ao 2 cap] w (fP w 61):=by
 obtain ⟨b,off,rfl,-,hcap,-,-,hc⟩:=h.at (by simp);have c0:=hc 0 (by simp);have c1:=hc 1 (by simp);simp at c0 c1;clear hc h;have hcase:(x < 1\/16 < x)\/((1<=x/\x<=16)/\(y < 1\/64 < y))\/((1<=x/\x<=16)/\(1<=y/\y<=64)/\0<=x*y/\x*y<=64)\/((1<=x/\x<=16)/\(1<=y/\y<=64)/\64 < x*y/\x*y<=1024):=gK x y
 rcases hcase with hx | ⟨hx,hy⟩ | ⟨hx,hy,hz,hz2⟩ | ⟨hx,hy,hz,hz2⟩
 all_goals
  go_enter Tryz.func42,Tryz.ntmps42;go_wp2_with (go_at_call 60;refine bL ?_);go_ret3;exact ⟨rfl,Below.refl _ _⟩
theorem Tw (w:World){o:Col}{c:Nat}(ao:Option Addr)(cap:Nat)(l:List Int)(k:Nat)(hk:l.length=k+3)(hm:k<=17600000000000)(h:Ints w o c (.slice ao (k+3) cap) l):Calls Tryz.prog 42 #[.int .u8 3,.slice ao (k+3) cap] w (fP w 61):=by
 obtain ⟨b,off,rfl,-,hcap,-,-,hc⟩:=h.at (by omega);have c0:=hc 0 (by omega);have c1:=hc 1 (by omega);generalize l[0]?.getD 0=x at c0;generalize l[1]?.getD 0=y at c1;have hkk:(k:Int)<=17600000000000:=by omega
 rw [Nat.add_zero] at c0;clear hc h hk;go_enter Tryz.func42,Tryz.ntmps42;go_wp2_with (go_at_call 60;refine bL ?_);go_ret3;exact ⟨rfl,Below.refl _ _⟩
theorem Tx (w:World)(ao:Option Addr)(cap:Nat):Calls Tryz.prog 42 #[.int .u8 4,.slice ao 0 cap] w (fP w 61):=by
 go_enter Tryz.func42,Tryz.ntmps42;go_wp2_with (go_at_call 60;refine bL ?_);go_ret3;exact ⟨rfl,Below.refl _ _⟩
theorem TB (w:World){o:Col}{c:Nat}(ao:Option Addr)(cap:Nat)(x:Int)(h:Ints w o c (.slice ao 1 cap) [x]):Calls Tryz.prog 42 #[.int .u8 4,.slice ao 1 cap] w (fP w 61):=by
 obtain ⟨b,off,rfl,-,hcap,-,-,hc⟩:=h.at (by simp);have c0:=hc 0 (by simp);simp at c0;clear hc h;go_enter Tryz.func42,Tryz.ntmps42;go_wp2_with (go_at_call 60;refine bL ?_);go_ret3;exact ⟨rfl,Below.refl _ _⟩
theorem O0 (w:World){o:Col}{c:Nat}(ao:Option Addr)(cap:Nat)(n k:Nat)(h1:1<=n)(h2:n<=16)(h3:1<=k)(h4:k<=64)(h5:n*k<=64)(h:Ints w o c (.slice ao 2 cap) [(n:Int),(k:Int)]):Calls Tryz.prog 42 #[.int .u8 4,.slice ao 2 cap] w (jm w 4 [(n:Int),(k:Int)]):=by
 obtain ⟨b,off,rfl,-,hcap,-,-,hc⟩:=h.at (by simp);have c0:=hc 0 (by simp);have c1:=hc 1 (by simp);simp at c0 c1;clear hc h;have ZK:(1:Int)<=n:=by omega
 have TH:(n:Int)<=16:=by omega
 have Wp:(1:Int)<=k:=by omega
 have h4i:(k:Int)<=64:=by omega
 have h5i:(n:Int)*k<=64:=by exact_mod_cast h5
 have h6i:(0:Int)<=(n:Int)*k:=by exact_mod_cast Nat.zero_le _
 go_enter Tryz.func42,Tryz.ntmps42;go_wp2_with (go_at_call 60;refine bL ?_);refine (wB _ n k (by omega)).mono ?_;rintro e w1 ⟨g1,c1,rfl,ho1,hb1⟩;go_wp2_with fail;refine (dS _ _ _ _ [(n:Int)*k] (eU _ [(n:Int)*k] (by simp))  (by simp)).mono ?_;rintro e w2 ⟨g2,c2,rfl,ho2,hb2⟩;go_wp2;go_ret3;exact ⟨_,_,rfl,by simpa [bJ,aV,hd,hd1] using iP (by first | exact Below.refl _ _ | exact (Below.refl _ _).alloc (Nat.le_refl _) _) ho1 hb1 (by first | exact Below.refl _ _ | exact (Below.refl _ _).alloc (Nat.le_refl _) _) ho2 hb2⟩
theorem Al (w:World){o:Col}{c:Nat}(ao:Option Addr)(cap:Nat)(x y:Int)(hcase:(x < 1\/16 < x)\/((1<=x/\x<=16)/\(y < 1\/64 < y))\/((1<=x/\x<=16)/\(1<=y/\y<=64)/\64 < x*y/\x*y<=1024))(h:Ints w o c (.slice ao 2 cap) [x,y]):Calls Tryz.prog 42 #[.int .u8 4,.slice ao 2 cap] w (fP w 61):=by
 obtain ⟨b,off,rfl,-,hcap,-,-,hc⟩:=h.at (by simp);have c0:=hc 0 (by simp);have c1:=hc 1 (by simp);simp at c0 c1;clear hc h
 rcases hcase with hx | ⟨hx,hy⟩ | ⟨hx,hy,hz,hz2⟩
 all_goals
  go_enter Tryz.func42,Tryz.ntmps42;go_wp2_with (go_at_call 60;refine bL ?_);go_ret3;exact ⟨rfl,Below.refl _ _⟩
theorem TI (w:World){o:Col}{c:Nat}(ao:Option Addr)(cap:Nat)(l:List Int)(k:Nat)(hk:l.length=k+3)(hm:k<=17600000000000)(h:Ints w o c (.slice ao (k+3) cap) l):Calls Tryz.prog 42 #[.int .u8 4,.slice ao (k+3) cap] w (fP w 61):=by
 obtain ⟨b,off,rfl,-,hcap,-,-,hc⟩:=h.at (by omega);have c0:=hc 0 (by omega);have c1:=hc 1 (by omega);generalize l[0]?.getD 0=x at c0;generalize l[1]?.getD 0=y at c1;have hkk:(k:Int)<=17600000000000:=by omega
 rw [Nat.add_zero] at c0;clear hc h hk;go_enter Tryz.func42,Tryz.ntmps42;go_wp2_with (go_at_call 60;refine bL ?_);go_ret3;exact ⟨rfl,Below.refl _ _⟩
theorem TJ (w:World)(ao:Option Addr)(cap:Nat):Calls Tryz.prog 42 #[.int .u8 5,.slice ao 0 cap] w (fP w 61):=by
 go_enter Tryz.func42,Tryz.ntmps42;go_wp2_with (go_at_call 60;refine bL ?_);go_ret3;exact ⟨rfl,Below.refl _ _⟩
theorem TL (w:World){o:Col}{c:Nat}(ao:Option Addr)(cap:Nat)(x:Int)(h:Ints w o c (.slice ao 1 cap) [x]):Calls Tryz.prog 42 #[.int .u8 5,.slice ao 1 cap] w (fP w 61):=by
 obtain ⟨b,off,rfl,-,hcap,-,-,hc⟩:=h.at (by simp);have c0:=hc 0 (by simp);simp at c0;clear hc h;go_enter Tryz.func42,Tryz.ntmps42;go_wp2_with (go_at_call 60;refine bL ?_);go_ret3;exact ⟨rfl,Below.refl _ _⟩
theorem O4 (w:World){o:Col}{c:Nat}(ao:Option Addr)(cap:Nat)(n k:Nat)(h1:1<=n)(h2:n<=16)(h3:1<=k)(h4:k<=64)(h5:n*k<=64)(h:Ints w o c (.slice ao 2 cap) [(n:Int),(k:Int)]):Calls Tryz.prog 42 #[.int .u8 5,.slice ao 2 cap] w (jm w 5 [(n:Int),(k:Int)]):=by
 obtain ⟨b,off,rfl,-,hcap,-,-,hc⟩:=h.at (by simp);have c0:=hc 0 (by simp);have c1:=hc 1 (by simp);simp at c0 c1;clear hc h;have ZK:(1:Int)<=n:=by omega
 have TH:(n:Int)<=16:=by omega
 have Wp:(1:Int)<=k:=by omega
 have h4i:(k:Int)<=64:=by omega
 have h5i:(n:Int)*k<=64:=by exact_mod_cast h5
 have h6i:(0:Int)<=(n:Int)*k:=by exact_mod_cast Nat.zero_le _
 go_enter Tryz.func42,Tryz.ntmps42;go_wp2_with (go_at_call 60;refine bL ?_);refine (dS _ _ _ _ [(n:Int)*k] (eU _ [(n:Int)*k] (by simp))  (by simp)).mono ?_;rintro e w1 ⟨g1,c1,rfl,ho1,hb1⟩;go_wp2_with fail;refine (wB _ n k (by omega)).mono ?_;rintro e w2 ⟨g2,c2,rfl,ho2,hb2⟩;go_wp2;go_ret3;exact ⟨_,_,rfl,by simpa [bJ,aV,hd,hd1] using iP (by first | exact Below.refl _ _ | exact (Below.refl _ _).alloc (Nat.le_refl _) _) ho1 hb1 (by first | exact Below.refl _ _ | exact (Below.refl _ _).alloc (Nat.le_refl _) _) ho2 hb2⟩
theorem Am (w:World){o:Col}{c:Nat}(ao:Option Addr)(cap:Nat)(x y:Int)(hcase:(x < 1\/16 < x)\/((1<=x/\x<=16)/\(y < 1\/64 < y))\/((1<=x/\x<=16)/\(1<=y/\y<=64)/\64 < x*y/\x*y<=1024))(h:Ints w o c (.slice ao 2 cap) [x,y]):Calls Tryz.prog 42 #[.int .u8 5,.slice ao 2 cap] w (fP w 61):=by
 obtain ⟨b,off,rfl,-,hcap,-,-,hc⟩:=h.at (by simp);have c0:=hc 0 (by simp);have c1:=hc 1 (by simp);simp at c0 c1;clear hc h
 rcases hcase with hx | ⟨hx,hy⟩ | ⟨hx,hy,hz,hz2⟩
 all_goals
  go_enter Tryz.func42,Tryz.ntmps42;go_wp2_with (go_at_call 60;refine bL ?_);go_ret3;exact ⟨rfl,Below.refl _ _⟩
theorem TR (w:World){o:Col}{c:Nat}(ao:Option Addr)(cap:Nat)(l:List Int)(k:Nat)(hk:l.length=k+3)(hm:k<=17600000000000)(h:Ints w o c (.slice ao (k+3) cap) l):Calls Tryz.prog 42 #[.int .u8 5,.slice ao (k+3) cap] w (fP w 61):=by
 obtain ⟨b,off,rfl,-,hcap,-,-,hc⟩:=h.at (by omega);have c0:=hc 0 (by omega);have c1:=hc 1 (by omega);generalize l[0]?.getD 0=x at c0;generalize l[1]?.getD 0=y at c1;have hkk:(k:Int)<=17600000000000:=by omega
 rw [Nat.add_zero] at c0;clear hc h hk;go_enter Tryz.func42,Tryz.ntmps42;go_wp2_with (go_at_call 60;refine bL ?_);go_ret3;exact ⟨rfl,Below.refl _ _⟩
theorem TU (w:World)(ao:Option Addr)(cap:Nat):Calls Tryz.prog 42 #[.int .u8 6,.slice ao 0 cap] w (fP w 61):=by
 go_enter Tryz.func42,Tryz.ntmps42;go_wp2_with (go_at_call 60;refine bL ?_);go_ret3;exact ⟨rfl,Below.refl _ _⟩
theorem O5 (w:World){o:Col}{c:Nat}(ao:Option Addr)(cap:Nat)(n:Nat)(h1:1<=n)(h2:n<=16)(h:Ints w o c (.slice ao 1 cap) [(n:Int)]):Calls Tryz.prog 42 #[.int .u8 6,.slice ao 1 cap] w (jm w 6 [(n:Int)]):=by
 obtain ⟨b,off,rfl,-,hcap,-,-,hc⟩:=h.at (by simp);have c0:=hc 0 (by simp);simp at c0;clear hc h;have ZK:(1:Int)<=n:=by omega
 have TH:(n:Int)<=16:=by omega
 go_enter Tryz.func42,Tryz.ntmps42;go_wp2_with (go_at_call 60;refine bL ?_);refine (wB _ n 1 (by omega)).mono ?_;rintro e w1 ⟨g1,c1,rfl,ho1,hb1⟩;go_wp2_with fail;refine (dS _ _ _ _ [1] (eU _ [1] (by simp))  (by simp)).mono ?_;rintro e w2 ⟨g2,c2,rfl,ho2,hb2⟩;go_wp2;go_ret3;exact ⟨_,_,rfl,by simpa [bJ,aV,hd,hd1] using iP (by first | exact Below.refl _ _ | exact (Below.refl _ _).alloc (Nat.le_refl _) _) ho1 hb1 (by first | exact Below.refl _ _ | exact (Below.refl _ _).alloc (Nat.le_refl _) _) ho2 hb2⟩
theorem O6 (w:World){o:Col}{c:Nat}(ao:Option Addr)(cap:Nat)(x:Int)(h1:x < 1\/16 < x)(h:Ints w o c (.slice ao 1 cap) [x]):Calls Tryz.prog 42 #[.int .u8 6,.slice ao 1 cap] w (fP w 61):=by
 obtain ⟨b,off,rfl,-,hcap,-,-,hc⟩:=h.at (by simp);have c0:=hc 0 (by simp);simp at c0;clear hc h;go_enter Tryz.func42,Tryz.ntmps42;go_wp2_with (go_at_call 60;refine bL ?_);go_ret3;exact ⟨rfl,Below.refl _ _⟩
theorem TV (w:World){o:Col}{c:Nat}(ao:Option Addr)(cap:Nat)(x y:Int)(h:Ints w o c (.slice ao 2 cap) [x,y]):Calls Tryz.prog 42 #[.int .u8 6,.slice ao 2 cap] w (fP w 61):=by
 obtain ⟨b,off,rfl,-,hcap,-,-,hc⟩:=h.at (by simp);have c0:=hc 0 (by simp);have c1:=hc 1 (by simp);simp at c0 c1;clear hc h;have hcase:(x < 1\/16 < x)\/((1<=x/\x<=16)/\(y < 1\/64 < y))\/((1<=x/\x<=16)/\(1<=y/\y<=64)/\0<=x*y/\x*y<=64)\/((1<=x/\x<=16)/\(1<=y/\y<=64)/\64 < x*y/\x*y<=1024):=gK x y
 rcases hcase with hx | ⟨hx,hy⟩ | ⟨hx,hy,hz,hz2⟩ | ⟨hx,hy,hz,hz2⟩
 all_goals
  go_enter Tryz.func42,Tryz.ntmps42;go_wp2_with (go_at_call 60;refine bL ?_);go_ret3;exact ⟨rfl,Below.refl _ _⟩
theorem TW (w:World){o:Col}{c:Nat}(ao:Option Addr)(cap:Nat)(l:List Int)(k:Nat)(hk:l.length=k+3)(hm:k<=17600000000000)(h:Ints w o c (.slice ao (k+3) cap) l):Calls Tryz.prog 42 #[.int .u8 6,.slice ao (k+3) cap] w (fP w 61):=by
 obtain ⟨b,off,rfl,-,hcap,-,-,hc⟩:=h.at (by omega);have c0:=hc 0 (by omega);have c1:=hc 1 (by omega);generalize l[0]?.getD 0=x at c0;generalize l[1]?.getD 0=y at c1;have hkk:(k:Int)<=17600000000000:=by omega
 rw [Nat.add_zero] at c0;clear hc h hk;go_enter Tryz.func42,Tryz.ntmps42;go_wp2_with (go_at_call 60;refine bL ?_);go_ret3;exact ⟨rfl,Below.refl _ _⟩
theorem Ua (w:World)(ao:Option Addr)(cap:Nat):Calls Tryz.prog 42 #[.int .u8 7,.slice ao 0 cap] w (jm w 7 []):=by
 go_enter Tryz.func42,Tryz.ntmps42;go_wp2_with (go_at_call 60;refine bL ?_);refine (dS _ _ _ _ [1,1] (eU _ [1,1] (by simp))  (by simp)).mono ?_;rintro e w1 ⟨g1,c1,rfl,ho1,hb1⟩;go_wp2_with fail;refine (dS _ _ _ _ [1] (eU _ [1] (by simp))  (by simp)).mono ?_;rintro e w2 ⟨g2,c2,rfl,ho2,hb2⟩;go_wp2;go_ret3;exact ⟨_,_,rfl,by simpa [bJ,aV,hd,hd1] using iP (by first | exact Below.refl _ _ | exact (Below.refl _ _).alloc (Nat.le_refl _) _) ho1 hb1 (by first | exact Below.refl _ _ | exact (Below.refl _ _).alloc (Nat.le_refl _) _) ho2 hb2⟩
theorem Ub (w:World){o:Col}{c:Nat}(ao:Option Addr)(cap:Nat)(x:Int)(h:Ints w o c (.slice ao 1 cap) [x]):Calls Tryz.prog 42 #[.int .u8 7,.slice ao 1 cap] w (fP w 61):=by
 obtain ⟨b,off,rfl,-,hcap,-,-,hc⟩:=h.at (by simp);have c0:=hc 0 (by simp);simp at c0;clear hc h;go_enter Tryz.func42,Tryz.ntmps42;go_wp2_with (go_at_call 60;refine bL ?_);go_ret3;exact ⟨rfl,Below.refl _ _⟩
theorem Uc (w:World){o:Col}{c:Nat}(ao:Option Addr)(cap:Nat)(x y:Int)(h:Ints w o c (.slice ao 2 cap) [x,y]):Calls Tryz.prog 42 #[.int .u8 7,.slice ao 2 cap] w (fP w 61):=by
 obtain ⟨b,off,rfl,-,hcap,-,-,hc⟩:=h.at (by simp);have c0:=hc 0 (by simp);have c1:=hc 1 (by simp);simp at c0 c1;clear hc h;have hcase:(x < 1\/16 < x)\/((1<=x/\x<=16)/\(y < 1\/64 < y))\/((1<=x/\x<=16)/\(1<=y/\y<=64)/\0<=x*y/\x*y<=64)\/((1<=x/\x<=16)/\(1<=y/\y<=64)/\64 < x*y/\x*y<=1024):=gK x y
 rcases hcase with hx | ⟨hx,hy⟩ | ⟨hx,hy,hz,hz2⟩ | ⟨hx,hy,hz,hz2⟩
 all_goals
  go_enter Tryz.func42,Tryz.ntmps42;go_wp2_with (go_at_call 60;refine bL ?_);go_ret3;exact ⟨rfl,Below.refl _ _⟩
theorem Ud (w:World){o:Col}{c:Nat}(ao:Option Addr)(cap:Nat)(l:List Int)(k:Nat)(hk:l.length=k+3)(hm:k<=17600000000000)(h:Ints w o c (.slice ao (k+3) cap) l):Calls Tryz.prog 42 #[.int .u8 7,.slice ao (k+3) cap] w (fP w 61):=by
 obtain ⟨b,off,rfl,-,hcap,-,-,hc⟩:=h.at (by omega);have c0:=hc 0 (by omega);have c1:=hc 1 (by omega);generalize l[0]?.getD 0=x at c0;generalize l[1]?.getD 0=y at c1;have hkk:(k:Int)<=17600000000000:=by omega
 rw [Nat.add_zero] at c0;clear hc h hk;go_enter Tryz.func42,Tryz.ntmps42;go_wp2_with (go_at_call 60;refine bL ?_);go_ret3;exact ⟨rfl,Below.refl _ _⟩
theorem Ue (w:World)(ao:Option Addr)(cap:Nat):Calls Tryz.prog 42 #[.int .u8 8,.slice ao 0 cap] w (jm w 8 []):=by
 go_enter Tryz.func42,Tryz.ntmps42;go_wp2_with (go_at_call 60;refine bL ?_);refine (dS _ _ _ _ [1] (eU _ [1] (by simp))  (by simp)).mono ?_;rintro e w1 ⟨g1,c1,rfl,ho1,hb1⟩;go_wp2_with fail;refine (dS _ _ _ _ [1] (eU _ [1] (by simp))  (by simp)).mono ?_;rintro e w2 ⟨g2,c2,rfl,ho2,hb2⟩;go_wp2;go_ret3;exact ⟨_,_,rfl,by simpa [bJ,aV,hd,hd1] using iP (by first | exact Below.refl _ _ | exact (Below.refl _ _).alloc (Nat.le_refl _) _) ho1 hb1 (by first | exact Below.refl _ _ | exact (Below.refl _ _).alloc (Nat.le_refl _) _) ho2 hb2⟩
theorem Uf (w:World){o:Col}{c:Nat}(ao:Option Addr)(cap:Nat)(x:Int)(h:Ints w o c (.slice ao 1 cap) [x]):Calls Tryz.prog 42 #[.int .u8 8,.slice ao 1 cap] w (fP w 61):=by
 obtain ⟨b,off,rfl,-,hcap,-,-,hc⟩:=h.at (by simp);have c0:=hc 0 (by simp);simp at c0;clear hc h;go_enter Tryz.func42,Tryz.ntmps42;go_wp2_with (go_at_call 60;refine bL ?_);go_ret3;exact ⟨rfl,Below.refl _ _⟩
theorem Ug (w:World){o:Col}{c:Nat}(ao:Option Addr)(cap:Nat)(x y:Int)(h:Ints w o c (.slice ao 2 cap) [x,y]):Calls Tryz.prog 42 #[.int .u8 8,.slice ao 2 cap] w (fP w 61):=by
 obtain ⟨b,off,rfl,-,hcap,-,-,hc⟩:=h.at (by simp);have c0:=hc 0 (by simp);have c1:=hc 1 (by simp);simp at c0 c1;clear hc h;have hcase:(x < 1\/16 < x)\/((1<=x/\x<=16)/\(y < 1\/64 < y))\/((1<=x/\x<=16)/\(1<=y/\y<=64)/\0<=x*y/\x*y<=64)\/((1<=x/\x<=16)/\(1<=y/\y<=64)/\64 < x*y/\x*y<=1024):=gK x y
 rcases hcase with hx | ⟨hx,hy⟩ | ⟨hx,hy,hz,hz2⟩ | ⟨hx,hy,hz,hz2⟩
 all_goals
  go_enter Tryz.func42,Tryz.ntmps42;go_wp2_with (go_at_call 60;refine bL ?_);go_ret3;exact ⟨rfl,Below.refl _ _⟩
theorem Uh (w:World){o:Col}{c:Nat}(ao:Option Addr)(cap:Nat)(l:List Int)(k:Nat)(hk:l.length=k+3)(hm:k<=17600000000000)(h:Ints w o c (.slice ao (k+3) cap) l):Calls Tryz.prog 42 #[.int .u8 8,.slice ao (k+3) cap] w (fP w 61):=by
 obtain ⟨b,off,rfl,-,hcap,-,-,hc⟩:=h.at (by omega);have c0:=hc 0 (by omega);have c1:=hc 1 (by omega);generalize l[0]?.getD 0=x at c0;generalize l[1]?.getD 0=y at c1;have hkk:(k:Int)<=17600000000000:=by omega
 rw [Nat.add_zero] at c0;clear hc h hk;go_enter Tryz.func42,Tryz.ntmps42;go_wp2_with (go_at_call 60;refine bL ?_);go_ret3;exact ⟨rfl,Below.refl _ _⟩
theorem Ui (w:World)(ao:Option Addr)(cap:Nat):Calls Tryz.prog 42 #[.int .u8 9,.slice ao 0 cap] w (fP w 61):=by
 go_enter Tryz.func42,Tryz.ntmps42;go_wp2_with (go_at_call 60;refine bL ?_);go_ret3;exact ⟨rfl,Below.refl _ _⟩
theorem O8 (w:World){o:Col}{c:Nat}(ao:Option Addr)(cap:Nat)(n:Nat)(h1:1<=n)(h2:n<=16)(h:Ints w o c (.slice ao 1 cap) [(n:Int)]):Calls Tryz.prog 42 #[.int .u8 9,.slice ao 1 cap] w (jm w 9 [(n:Int)]):=by
 obtain ⟨b,off,rfl,-,hcap,-,-,hc⟩:=h.at (by simp);have c0:=hc 0 (by simp);simp at c0;clear hc h;have ZK:(1:Int)<=n:=by omega
 have TH:(n:Int)<=16:=by omega
 go_enter Tryz.func42,Tryz.ntmps42;go_wp2_with (go_at_call 60;refine bL ?_);refine (dS _ _ _ _ [1] (eU _ [1] (by simp))  (by simp)).mono ?_;rintro e w1 ⟨g1,c1,rfl,ho1,hb1⟩;go_wp2_with fail;refine (wB _ n 1 (by omega)).mono ?_;rintro e w2 ⟨g2,c2,rfl,ho2,hb2⟩;go_wp2;go_ret3;exact ⟨_,_,rfl,by simpa [bJ,aV,hd,hd1] using iP (by first | exact Below.refl _ _ | exact (Below.refl _ _).alloc (Nat.le_refl _) _) ho1 hb1 (by first | exact Below.refl _ _ | exact (Below.refl _ _).alloc (Nat.le_refl _) _) ho2 hb2⟩
theorem O9 (w:World){o:Col}{c:Nat}(ao:Option Addr)(cap:Nat)(x:Int)(h1:x < 1\/16 < x)(h:Ints w o c (.slice ao 1 cap) [x]):Calls Tryz.prog 42 #[.int .u8 9,.slice ao 1 cap] w (fP w 61):=by
 obtain ⟨b,off,rfl,-,hcap,-,-,hc⟩:=h.at (by simp);have c0:=hc 0 (by simp);simp at c0;clear hc h;go_enter Tryz.func42,Tryz.ntmps42;go_wp2_with (go_at_call 60;refine bL ?_);go_ret3;exact ⟨rfl,Below.refl _ _⟩
theorem Uj (w:World){o:Col}{c:Nat}(ao:Option Addr)(cap:Nat)(x y:Int)(h:Ints w o c (.slice ao 2 cap) [x,y]):Calls Tryz.prog 42 #[.int .u8 9,.slice ao 2 cap] w (fP w 61):=by
 obtain ⟨b,off,rfl,-,hcap,-,-,hc⟩:=h.at (by simp);have c0:=hc 0 (by simp);have c1:=hc 1 (by simp);simp at c0 c1;clear hc h;have hcase:(x < 1\/16 < x)\/((1<=x/\x<=16)/\(y < 1\/64 < y))\/((1<=x/\x<=16)/\(1<=y/\y<=64)/\0<=x*y/\x*y<=64)\/((1<=x/\x<=16)/\(1<=y/\y<=64)/\64 < x*y/\x*y<=1024):=gK x y
 rcases hcase with hx | ⟨hx,hy⟩ | ⟨hx,hy,hz,hz2⟩ | ⟨hx,hy,hz,hz2⟩
 all_goals
  go_enter Tryz.func42,Tryz.ntmps42;go_wp2_with (go_at_call 60;refine bL ?_);go_ret3;exact ⟨rfl,Below.refl _ _⟩
theorem Uk (w:World){o:Col}{c:Nat}(ao:Option Addr)(cap:Nat)(l:List Int)(k:Nat)(hk:l.length=k+3)(hm:k<=17600000000000)(h:Ints w o c (.slice ao (k+3) cap) l):Calls Tryz.prog 42 #[.int .u8 9,.slice ao (k+3) cap] w (fP w 61):=by
 obtain ⟨b,off,rfl,-,hcap,-,-,hc⟩:=h.at (by omega);have c0:=hc 0 (by omega);have c1:=hc 1 (by omega);generalize l[0]?.getD 0=x at c0;generalize l[1]?.getD 0=y at c1;have hkk:(k:Int)<=17600000000000:=by omega
 rw [Nat.add_zero] at c0;clear hc h hk;go_enter Tryz.func42,Tryz.ntmps42;go_wp2_with (go_at_call 60;refine bL ?_);go_ret3;exact ⟨rfl,Below.refl _ _⟩
theorem Pb (w:World)(ao:Option Addr)(cap:Nat):Calls Tryz.prog 42 #[.int .u8 10,.slice ao 0 cap] w (fP w 61):=by
 go_enter Tryz.func42,Tryz.ntmps42;go_wp2_with (go_at_call 60;refine bL ?_);go_ret3;exact ⟨rfl,Below.refl _ _⟩
theorem Pd (w:World){o:Col}{c:Nat}(ao:Option Addr)(cap:Nat)(x:Int)(h:Ints w o c (.slice ao 1 cap) [x]):Calls Tryz.prog 42 #[.int .u8 10,.slice ao 1 cap] w (fP w 61):=by
 obtain ⟨b,off,rfl,-,hcap,-,-,hc⟩:=h.at (by simp);have c0:=hc 0 (by simp);simp at c0;clear hc h;go_enter Tryz.func42,Tryz.ntmps42;go_wp2_with (go_at_call 60;refine bL ?_);go_ret3;exact ⟨rfl,Below.refl _ _⟩
theorem Pe (w:World){o:Col}{c:Nat}(ao:Option Addr)(cap:Nat)(x y:Int)(h:Ints w o c (.slice ao 2 cap) [x,y]):Calls Tryz.prog 42 #[.int .u8 10,.slice ao 2 cap] w (jm w 10 [x,y]):=by
 obtain ⟨b,off,rfl,-,hcap,-,-,hc⟩:=h.at (by simp);have c0:=hc 0 (by simp);have c1:=hc 1 (by simp);simp at c0 c1;clear hc h;have hcase:(x < 1\/16 < x)\/((1<=x/\x<=16)/\(y < 1\/64 < y))\/((1<=x/\x<=16)/\(1<=y/\y<=64)/\0<=x*y/\x*y<=64)\/((1<=x/\x<=16)/\(1<=y/\y<=64)/\64 < x*y/\x*y<=1024):=gK x y
 rcases hcase with hx | ⟨hx,hy⟩ | ⟨hx,hy,hz,hz2⟩ | ⟨hx,hy,hz,hz2⟩
 all_goals
  go_enter Tryz.func42,Tryz.ntmps42;go_wp2_with (go_at_call 60;refine bL ?_);refine (dS _ _ _ _ [1] (eU _ [1] (by simp))  (by simp)).mono ?_;rintro e w1 ⟨g1,c1,rfl,ho1,hb1⟩;go_wp2;go_ret3;exact ⟨_,_,rfl,World.ownsRow_nil _ _ _ _,by simpa [bJ,aV,hd,hd1] using zO (by first | exact Below.refl _ _ | exact (Below.refl _ _).alloc (Nat.le_refl _) _) ho1 hb1⟩
theorem Pf (w:World){o:Col}{c:Nat}(ao:Option Addr)(cap:Nat)(l:List Int)(k:Nat)(hk:l.length=k+3)(hm:k<=17600000000000)(h:Ints w o c (.slice ao (k+3) cap) l):Calls Tryz.prog 42 #[.int .u8 10,.slice ao (k+3) cap] w (fP w 61):=by
 obtain ⟨b,off,rfl,-,hcap,-,-,hc⟩:=h.at (by omega);have c0:=hc 0 (by omega);have c1:=hc 1 (by omega);generalize l[0]?.getD 0=x at c0;generalize l[1]?.getD 0=y at c1;have hkk:(k:Int)<=17600000000000:=by omega
 rw [Nat.add_zero] at c0;clear hc h hk;go_enter Tryz.func42,Tryz.ntmps42;go_wp2_with (go_at_call 60;refine bL ?_);go_ret3;exact ⟨rfl,Below.refl _ _⟩
theorem Pg (w:World)(ao:Option Addr)(cap:Nat):Calls Tryz.prog 42 #[.int .u8 11,.slice ao 0 cap] w (fP w 61):=by
 go_enter Tryz.func42,Tryz.ntmps42;go_wp2_with (go_at_call 60;refine bL ?_);go_ret3;exact ⟨rfl,Below.refl _ _⟩
theorem Ma (w:World){o:Col}{c:Nat}(ao:Option Addr)(cap:Nat)(x:Int)(h1:1<=x)(h2:x<=64)(h:Ints w o c (.slice ao 1 cap) [x]):Calls Tryz.prog 42 #[.int .u8 11,.slice ao 1 cap] w (jm w 11 [x]):=by
 obtain ⟨b,off,rfl,-,hcap,-,-,hc⟩:=h.at (by simp);have c0:=hc 0 (by simp);simp at c0;clear hc h;go_enter Tryz.func42,Tryz.ntmps42;go_wp2_with (go_at_call 60;refine bL ?_);refine (dS _ _ _ _ [x] (eU _ [x] (by simp))  (by simp)).mono ?_;rintro e w1 ⟨g1,c1,rfl,ho1,hb1⟩;go_wp2;go_ret3;have hf:=zO (w:=w) (by first | exact Below.refl _ _ | exact (Below.refl _ _).alloc (Nat.le_refl _) _) ho1 hb1;exact ⟨_,_,rfl,by simpa [bJ,aV,hd,hd1] using hf.1,World.ownsRow_nil _ _ _ _,hf.2⟩
theorem Mc (w:World){o:Col}{c:Nat}(ao:Option Addr)(cap:Nat)(x:Int)(h1:x < 1\/64 < x)(h:Ints w o c (.slice ao 1 cap) [x]):Calls Tryz.prog 42 #[.int .u8 11,.slice ao 1 cap] w (fP w 61):=by
 obtain ⟨b,off,rfl,-,hcap,-,-,hc⟩:=h.at (by simp);have c0:=hc 0 (by simp);simp at c0;clear hc h;go_enter Tryz.func42,Tryz.ntmps42;go_wp2_with (go_at_call 60;refine bL ?_);go_ret3;exact ⟨rfl,Below.refl _ _⟩
theorem Ph (w:World){o:Col}{c:Nat}(ao:Option Addr)(cap:Nat)(x y:Int)(h:Ints w o c (.slice ao 2 cap) [x,y]):Calls Tryz.prog 42 #[.int .u8 11,.slice ao 2 cap] w (fP w 61):=by
 obtain ⟨b,off,rfl,-,hcap,-,-,hc⟩:=h.at (by simp);have c0:=hc 0 (by simp);have c1:=hc 1 (by simp);simp at c0 c1;clear hc h;have hcase:(x < 1\/16 < x)\/((1<=x/\x<=16)/\(y < 1\/64 < y))\/((1<=x/\x<=16)/\(1<=y/\y<=64)/\0<=x*y/\x*y<=64)\/((1<=x/\x<=16)/\(1<=y/\y<=64)/\64 < x*y/\x*y<=1024):=gK x y
 rcases hcase with hx | ⟨hx,hy⟩ | ⟨hx,hy,hz,hz2⟩ | ⟨hx,hy,hz,hz2⟩
 all_goals
  go_enter Tryz.func42,Tryz.ntmps42;go_wp2_with (go_at_call 60;refine bL ?_);go_ret3;exact ⟨rfl,Below.refl _ _⟩
theorem Pj (w:World){o:Col}{c:Nat}(ao:Option Addr)(cap:Nat)(l:List Int)(k:Nat)(hk:l.length=k+3)(hm:k<=17600000000000)(h:Ints w o c (.slice ao (k+3) cap) l):Calls Tryz.prog 42 #[.int .u8 11,.slice ao (k+3) cap] w (fP w 61):=by
 obtain ⟨b,off,rfl,-,hcap,-,-,hc⟩:=h.at (by omega);have c0:=hc 0 (by omega);have c1:=hc 1 (by omega);generalize l[0]?.getD 0=x at c0;generalize l[1]?.getD 0=y at c1;have hkk:(k:Int)<=17600000000000:=by omega
 rw [Nat.add_zero] at c0;clear hc h hk;go_enter Tryz.func42,Tryz.ntmps42;go_wp2_with (go_at_call 60;refine bL ?_);go_ret3;exact ⟨rfl,Below.refl _ _⟩
end Go.Proofs.YtepjkmnhmcjbkaaGreat
