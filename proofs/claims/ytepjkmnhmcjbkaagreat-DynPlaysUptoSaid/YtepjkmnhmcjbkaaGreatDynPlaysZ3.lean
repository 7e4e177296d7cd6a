import Derived.Test.YtepjkmnhmcjbkaaGreatDynPlaysZ1
import Derived.Test.YtepjkmnhmcjbkaaGreatDynPlaysZ2
import Derived.Test.YtepjkmnhmcjbkaaGreatProg
import Derived.Deep.QuietTactic
import Derived.BigQuiet
import Derived.Deep.DeepMust
import Derived.Maps.Own
import Derived.Laws.ResultCell
import Derived.Laws.Rows
import Derived.Maps.OwnOps
import Derived.Maps.Views
import Derived.Maps.OwnSet
set_option linter.unusedVariables false
set_option linter.unusedSimpArgs false
set_option maxRecDepth 100000
set_option maxHeartbeats 20000000
namespace Go.Proofs.YtepjkmnhmcjbkaaGreat
def upd {α:Type}(f:Nat->α)(i:Nat)(v:α):Nat->α:=fun j=>if j=i then v else f j
theorem upd_same {α:Type}(f:Nat->α)(i:Nat)(v:α):upd f i v i=v:=by simp [upd]
theorem aO {α:Type}{f:Nat->α}{i j:Nat}{v:α}(h:j≠i):upd f i v j=f j:=by simp [upd,h]
theorem Cu {α:Type}(f:Nat->α)(i:Nat)(v w:α):upd (upd f i v) i w=upd f i w:=by
 funext k
 unfold upd
 split <;> rfl
structure bW where
 keep:List Int
 n:Int
 hand:List (List Int)
 bg:List (List Int)
 port:Nat
 gives:Bool
 whole:Nat
structure pX where
 tasks:Nat->bW
 strs:Nat->List Int
def bY (g:av)(t p:Nat):Nat :=
 match g.edges.findIdx? (fun e=>decide (e.dst=(t:Int)) && decide (e.dx=(p:Int))) with
 | some i=>i
 | none=>match g.ins.findIdx? (fun e=>decide (e.aW=(t:Int)) && decide (e.port=(p:Int))) with
  | some i=>g.edges.length+i
  | none=>g.edges.length+g.ins.length+g.outs.length+t
def toP (g:av)(t p:Nat):Nat :=
 match g.edges.findIdx? (fun e=>decide (e.src=(t:Int)) && decide (e.dw=(p:Int))) with
 | some i=>i
 | none=>match g.outs.findIdx? (fun e=>decide (e.aW=(t:Int)) && decide (e.port=(p:Int))) with
  | some i=>g.edges.length+g.ins.length+i
  | none=>g.edges.length+g.ins.length+g.outs.length+t
theorem Cv {g:av}{t u p q:Nat}(h:bY g t p=bY g u q):t=u:=by
 have key:∀ (t p:Nat),(∃ i e,bY g t p=i/\i < g.edges.length/\g.edges[i]?=some e/\e.dst=(t:Int))\/(∃ i e,bY g t p=g.edges.length+i/\i < g.ins.length/\g.ins[i]?=some e/\e.aW=(t:Int))\/bY g t p=g.edges.length+g.ins.length+g.outs.length+t:=by
  intro t p;unfold bY;cases h1:g.edges.findIdx? (fun e=>decide (e.dst=(t:Int)) && decide (e.dx=(p:Int))) with
  | some i =>
   obtain ⟨hi,hp,_⟩:=List.findIdx?_eq_some_iff_getElem.1 h1;simp at hp;exact .inl ⟨i,g.edges[i],rfl,hi,List.getElem?_eq_getElem hi,hp.1⟩
  | none =>
   cases h2:g.ins.findIdx? (fun e=>decide (e.aW=(t:Int)) && decide (e.port=(p:Int))) with
   | some i =>
    obtain ⟨hi,hp,_⟩:=List.findIdx?_eq_some_iff_getElem.1 h2;simp at hp;exact .inr (.inl ⟨i,g.ins[i],rfl,hi,List.getElem?_eq_getElem hi,hp.1⟩)
   | none=>exact .inr (.inr rfl)
 rcases key t p with ⟨i,e,h1,h2,h3,h4⟩ | ⟨i,e,h1,h2,h3,h4⟩ | h1 <;> rcases key u q with ⟨j,f,k1,k2,k3,k4⟩ | ⟨j,f,k1,k2,k3,k4⟩ | k1
 ·
  obtain rfl:i=j:=by omega
  rw [h3] at k3;cases k3
  omega
 ·
  omega
 ·
  omega
 ·
  omega
 ·
  obtain rfl:i=j:=by omega
  rw [h3] at k3;cases k3
  omega
 ·
  omega
 ·
  omega
 ·
  omega
 ·
  omega
theorem KS {g:av}{t u p q:Nat}(h:toP g t p=toP g u q):t=u:=by
 have key:∀ (t p:Nat),(∃ i e,toP g t p=i/\i < g.edges.length/\g.edges[i]?=some e/\e.src=(t:Int))\/(∃ i e,toP g t p=g.edges.length+g.ins.length+i/\i < g.outs.length/\g.outs[i]?=some e/\e.aW=(t:Int))\/toP g t p=g.edges.length+g.ins.length+g.outs.length+t:=by
  intro t p;unfold toP;cases h1:g.edges.findIdx? (fun e=>decide (e.src=(t:Int)) && decide (e.dw=(p:Int))) with
  | some i =>
   obtain ⟨hi,hp,_⟩:=List.findIdx?_eq_some_iff_getElem.1 h1;simp at hp;exact .inl ⟨i,g.edges[i],rfl,hi,List.getElem?_eq_getElem hi,hp.1⟩
  | none =>
   cases h2:g.outs.findIdx? (fun e=>decide (e.aW=(t:Int)) && decide (e.port=(p:Int))) with
   | some i =>
    obtain ⟨hi,hp,_⟩:=List.findIdx?_eq_some_iff_getElem.1 h2;simp at hp;exact .inr (.inl ⟨i,g.outs[i],rfl,hi,List.getElem?_eq_getElem hi,hp.1⟩)
   | none=>exact .inr (.inr rfl)
 rcases key t p with ⟨i,e,h1,h2,h3,h4⟩ | ⟨i,e,h1,h2,h3,h4⟩ | h1 <;> rcases key u q with ⟨j,f,k1,k2,k3,k4⟩ | ⟨j,f,k1,k2,k3,k4⟩ | k1
 ·
  obtain rfl:i=j:=by omega
  rw [h3] at k3;cases k3
  omega
 ·
  omega
 ·
  omega
 ·
  omega
 ·
  obtain rfl:i=j:=by omega
  rw [h3] at k3;cases k3
  omega
 ·
  omega
 ·
  omega
 ·
  omega
 ·
  omega
def ay (g:av)(t:Nat):List Int:=match g.actors[t]? with | some a=>bJ a.tag a.params | none=>[]
def aF (g:av)(t:Nat):List Int:=match g.actors[t]? with | some a=>aV a.tag a.params | none=>[]
def dV (g:av)(t:Nat)(x:bW):Mr:=match g.actors[t]? with | some a=>iD a.tag a.params x.keep x.n x.hand | none=>iD 0 [] [] 0 []
def kH (k:Nat)(x:bW):bW:={ x with hand:=List.replicate k [],bg:=[],port:=0,gives:=false }
def jR (k o:Nat)(x:bW):bW:=if x.port=o then kH k { x with whole:=x.whole+1 } else x
def l8 (r:Int)(x:bW)(v:Int):bW:={ x with hand:=x.hand.set x.port ((x.hand[x.port]?.getD []) ++ [v]),port:=if (((x.hand[x.port]?.getD []).length:Int)+1=r) then x.port+1 else x.port }
def lu (x:bW):Int:=(x.bg[x.port]?.getD []).headD 0
def sG (k o:Nat)(x:bW):bW:=jR k o { x with bg:=x.bg.set x.port (x.bg[x.port]?.getD []).tail,port:=if (x.bg[x.port]?.getD []).tail=[] then x.port+1 else x.port }
def uZ (k o:Nat)(x:bW)(r:Mr):bW:=jR k o { x with keep:=r.keep,n:=r.n,bg:=r.outs,gives:=true,port:=0 }
def rM (caps:List Int)(s:pX)(d:Nat):Bool:=match caps[d]? with | some c=>decide (c<=(s.strs d).length) | none=>false
def iJ (g:av)(caps:List Int)(s:pX)(t:Nat):Stp pX :=
 if g.actors.length<=t then .waits
 else if (s.tasks t).gives then
  (if rM caps s (toP g t (s.tasks t).port) then .waits
  else .goes ⟨upd s.tasks t (sG (ay g t).length (aF g t).length (s.tasks t)),upd s.strs (toP g t (s.tasks t).port) (s.strs (toP g t (s.tasks t).port) ++ [lu (s.tasks t)])⟩)
 else if (s.tasks t).port < (ay g t).length then
  (match s.strs (bY g t (s.tasks t).port) with
  | []=>.waits
  | v :: r=>.goes ⟨upd s.tasks t (l8 ((ay g t)[(s.tasks t).port]?.getD 0) (s.tasks t) v),upd s.strs (bY g t (s.tasks t).port) r⟩)
 else if (dV g t (s.tasks t)).err≠0 then .fails
 else .goes ⟨upd s.tasks t (uZ (ay g t).length (aF g t).length (s.tasks t) (dV g t (s.tasks t))),s.strs⟩
inductive Kind (g:av) (caps:List Int) (s:pX) (t:Nat):pX->Prop where
 | give (x:bW) (h:(s.tasks t).gives=true) (hf:rM caps s (toP g t (s.tasks t).port)=false) (hx:x=sG (ay g t).length (aF g t).length (s.tasks t)) :
  Kind g caps s t ⟨upd s.tasks t x,upd s.strs (toP g t (s.tasks t).port) (s.strs (toP g t (s.tasks t).port) ++ [lu (s.tasks t)])⟩
 | take (x:bW) (v:Int) (r:List Int) (h:(s.tasks t).gives=false) (hp:(s.tasks t).port < (ay g t).length) (hv:s.strs (bY g t (s.tasks t).port)=v :: r) (hx:x=l8 ((ay g t)[(s.tasks t).port]?.getD 0) (s.tasks t) v) :
  Kind g caps s t ⟨upd s.tasks t x,upd s.strs (bY g t (s.tasks t).port) r⟩
 | fire (x:bW) (h:(s.tasks t).gives=false) (hp:¬ (s.tasks t).port < (ay g t).length) (he:(dV g t (s.tasks t)).err=0) (hx:x=uZ (ay g t).length (aF g t).length (s.tasks t) (dV g t (s.tasks t))) :
  Kind g caps s t ⟨upd s.tasks t x,s.strs⟩
theorem pY {g:av}{caps:List Int}{s s1:pX}{t:Nat}:iJ g caps s t=.goes s1↔t < g.actors.length/\Kind g caps s t s1:=by
 constructor
 ·
  intro h;unfold iJ at h
  split at h
  ·
   cases h
  ·
   rename_i ht
   refine ⟨by omega,?_⟩
   split at h
   ·
    rename_i hg
    split at h
    ·
     cases h
    ·
     rename_i hf
     cases h
     exact .give _ hg (by simpa using hf) rfl
   ·
    rename_i hg
    have hg:(s.tasks t).gives=false:=by simpa using hg
    split at h
    ·
     rename_i hp
     split at h
     ·
      cases h
     ·
      rename_i v r hv
      cases h
      exact .take _ v r hg hp hv rfl
    ·
     rename_i hp
     split at h
     ·
      cases h
     ·
      rename_i he
      cases h
      exact .fire _ hg hp (by simpa using he) rfl
 ·
  rintro ⟨ht,hk⟩;unfold iJ;rw [if_neg (by omega)];cases hk with
  | give x h hf hx=>rw [if_pos h,if_neg (by simp [hf]),hx]
  | take x v r h hp hv hx=>rw [if_neg (by simp [h]),if_pos hp,hv,hx]
  | fire x h hp he hx=>rw [if_neg (by simp [h]),if_neg hp,if_neg (by simp [he]),hx]
theorem Av {g:av}{caps:List Int}{s:pX}{t:Nat}:iJ g caps s t=.fails↔t < g.actors.length/\(s.tasks t).gives=false/\¬ (s.tasks t).port < (ay g t).length/\(dV g t (s.tasks t)).err≠0:=by
 unfold iJ
 split
 ·
  rename_i h
  exact ⟨fun h=>(by cases h),fun k=>by omega⟩
 ·
  rename_i h
  split
  ·
   rename_i hg
   refine ⟨fun h=>?_,fun k=>by rw [hg] at k;exact absurd k.2.1 (by simp)⟩
   split at h <;> cases h
  ·
   rename_i hg
   split
   ·
    rename_i hp
    refine ⟨fun h=>?_,fun k=>absurd hp k.2.2.1⟩
    split at h <;> cases h
   ·
    rename_i hp
    split
    ·
     rename_i he
     exact ⟨fun _=>⟨by omega,by simpa using hg,hp,he⟩,fun _=>rfl⟩
    ·
     rename_i he
     exact ⟨fun h=>(by cases h),fun k=>absurd k.2.2.2 he⟩
def outT (g:av)(e o:Nat)(a p:Int):Bool:=(g.edges.take e).any (fun x=>decide (x.src=a) && decide (x.dw=p)) || (g.outs.take o).any (fun x=>decide (x.aW=a) && decide (x.port=p))
def inT (g:av)(e o:Nat)(a p:Int):Bool:=(g.edges.take e).any (fun x=>decide (x.dst=a) && decide (x.dx=p)) || (g.ins.take o).any (fun x=>decide (x.aW=a) && decide (x.port=p))
def p8 (g:av)(L:Nat->List Int)(a p:Int)(taken:Bool):Int :=
 if a < 0\/(g.actors.length:Int)<=a then 84 else if p < 0\/((L a.toNat).length:Int)<=p then 85 else if taken then 86 else 0
def jq (g:av)(n i o:Nat)(s:ByteArray):Bool:=(g.actors.take n).any (fun x=>decide (x.name=s)) || (g.ins.take i).any (fun x=>decide (x.name=s)) || (g.outs.take o).any (fun x=>decide (x.name=s))
def uP (s:ByteArray)(b:Bool):Int:=if nameP s then (if b then 83 else 0) else 82
def nR (g:av)(i:Nat)(a:fE):Int:=if uP a.name (jq g i 0 0 a.name)≠0 then uP a.name (jq g i 0 0 a.name) else if aC a.tag a.params then 0 else uG a.tag
def iY (g:av):Nat->List fE->Int
 | _,[]=>0
 | i,a :: r=>if nR g i a≠0 then nR g i a else iY g (i+1) r
def p9 (g:av)(i:Nat)(x:jw):Int :=
 if p8 g (aF g) x.src x.dw (outT g i 0 x.src x.dw)≠0 then p8 g (aF g) x.src x.dw (outT g i 0 x.src x.dw)
 else if p8 g (ay g) x.dst x.dx (inT g i 0 x.dst x.dx)≠0 then p8 g (ay g) x.dst x.dx (inT g i 0 x.dst x.dx) else if 256 < x.start.length then 88 else 0
def kI (g:av):Nat->List jw->Int
 | _,[]=>0
 | i,x :: r=>if p9 g i x≠0 then p9 g i x else kI g (i+1) r
def Mt (g:av)(i:Nat)(x:fF):Int:=if uP x.name (jq g g.actors.length i 0 x.name)≠0 then uP x.name (jq g g.actors.length i 0 x.name) else p8 g (ay g) x.aW x.port (inT g g.edges.length i x.aW x.port)
def u6 (g:av):Nat->List fF->Int
 | _,[]=>0
 | i,x :: r=>if Mt g i x≠0 then Mt g i x else u6 g (i+1) r
def xL (g:av)(i:Nat)(x:fF):Int:=if uP x.name (jq g g.actors.length g.ins.length i x.name)≠0 then uP x.name (jq g g.actors.length g.ins.length i x.name) else p8 g (aF g) x.aW x.port (outT g g.edges.length i x.aW x.port)
def nU (g:av):Nat->List fF->Int
 | _,[]=>0
 | i,x :: r=>if xL g i x≠0 then xL g i x else nU g (i+1) r
def mJ (g:av)(i:Nat):Bool:=(List.range (ay g i).length).any (fun k=>!inT g g.edges.length g.ins.length i k) || (List.range (aF g i).length).any (fun k=>!outT g g.edges.length g.outs.length i k)
def yU (g:av):Int:=if (List.range g.actors.length).any (mJ g) then 87 else 0
def I5 (g:av):Int :=
 if lq g≠0 then lq g
 else if iY g 0 g.actors≠0 then iY g 0 g.actors
 else if kI g 0 g.edges≠0 then kI g 0 g.edges
 else if u6 g 0 g.ins≠0 then u6 g 0 g.ins
 else if nU g 0 g.outs≠0 then nU g 0 g.outs
 else yU g
structure jK (side:List (List Bool)) (g:av) (L:Nat->List Int) (f:Int->Int->Bool):Prop where
 len:side.length=g.actors.length
 row:∀ a,a < g.actors.length->(side[a]?.getD []).length=(L a).length
 mark:∀ a p,a < g.actors.length->p < (L a).length->(side[a]?.getD [])[p]?.getD false=f a p
theorem jK.take {side:List (List Bool)}{g:av}{L:Nat->List Int}{f:Int->Int->Bool}(h:jK side g L f)(a p:Int):gD side a p=p8 g L a p (f a p):=by
 unfold gD p8;rw [h.len]
 by_cases h1:a < 0\/(g.actors.length:Int)<=a
 ·
  rw [if_pos h1,if_pos h1]
 rw [if_neg h1,if_neg h1];have ha:a.toNat < g.actors.length:=by omega
 unfold wD;rw [h.row _ ha]
 by_cases h2:p < 0\/((L a.toNat).length:Int)<=p
 ·
  rw [if_pos h2,if_pos h2]
 rw [if_neg h2,if_neg h2];have hp:p.toNat < (L a.toNat).length:=by omega
 rw [h.mark _ _ ha hp,Int.toNat_of_nonneg (by omega),Int.toNat_of_nonneg (by omega)]
theorem jK.set {side:List (List Bool)}{g:av}{L:Nat->List Int}{f:Int->Int->Bool}(h:jK side g L f){a p:Int}(he:gD side a p=0):jK (lI side a p) g L (fun x y=>f x y || (decide (a=x) && decide (p=y))):=by
 unfold gD at he
 split at he
 ·
  cases he
 rename_i h1
 split at he
 ·
  cases he
 rename_i h2
 rw [h.len] at h1;have ha:a.toNat < side.length:=by rw [h.len];omega
 unfold lI;refine ⟨by rw [List.length_set,h.len],fun x hx=>?_,fun x y hx hy=>?_⟩
 ·
  by_cases e:a.toNat=x
  ·
   subst e;rw [List.getElem?_set_self ha];simp only [Option.getD_some,List.length_set];exact h.row _ hx
  ·
   rw [List.getElem?_set_ne e];exact h.row _ hx
 ·
  by_cases e:a.toNat=x
  ·
   subst e;rw [List.getElem?_set_self ha];simp only [Option.getD_some];have hm:=h.mark _ _ hx hy;have hyl:y < (wD side a).length:=by unfold wD;rw [h.row _ hx];exact hy
   by_cases e2:p.toNat=y
   ·
    subst e2;rw [List.getElem?_set_self hyl];have:decide (a=((a.toNat:Nat):Int))=true/\decide (p=((p.toNat:Nat):Int))=true:=by simp;omega
    rw [this.1,this.2];simp
   ·
    rw [List.getElem?_set_ne e2];have:decide (p=(y:Int))=false:=by simp;omega
    rw [this];simp only [Bool.and_false,Bool.or_false];exact hm
  ·
   rw [List.getElem?_set_ne e];have:decide (a=(x:Int))=false:=by simp;omega
   rw [this];simp only [Bool.false_and,Bool.or_false];exact h.mark _ _ hx hy
theorem jK.congr {side:List (List Bool)}{g:av}{L:Nat->List Int}{f f':Int->Int->Bool}(h:jK side g L f)(e:∀ x y,f x y=f' x y):jK side g L f':=⟨h.len,h.row,fun a p ha hp=>by rw [<- e];exact h.mark a p ha hp⟩
theorem sH {α:Type}(l:List α)(f:α->Bool){i:Nat}(h:i < l.length):(l.take (i+1)).any f=((l.take i).any f || f l[i]):=by
 rw [List.take_succ_eq_append_getElem h,List.any_append];simp
theorem Aw (seen:List ByteArray)(s:ByteArray):lg seen s=uP s (seen.any fun x=>decide (x=s)):=rfl
theorem yV (g:av):∀ (l:List fE) (i:Nat) (c:kL),g.actors.drop i=l->c.seen=(g.actors.take i).map fE.name->iq c l=iY g i l
 | [],_,_,_,_=>rfl
 | a :: r,i,c,hd,hs=>by
  have hi:i < g.actors.length:=by
   rcases Nat.lt_or_ge i g.actors.length with h | h
   ·
    exact h
   ·
    rw [List.drop_eq_nil_of_le h] at hd;cases hd
  rw [List.drop_eq_getElem_cons hi] at hd
  injection hd with h1 h2
  have e:nM c.seen a=nR g i a:=by
   unfold nM nR;rw [Aw,hs,List.any_map];unfold jq;simp only [List.take_zero,List.any_nil,Bool.or_false];rfl
  rw [iq,iY,e]
  split
  ·
   rfl
  ·
   refine yV g r (i+1) (mH c a) h2 ?_;show c.seen ++ [a.name]=_
   rw [hs,List.take_succ_eq_append_getElem hi,List.map_append,<- h1];rfl
structure Known (g:av) (c:kL) (i o e:Nat):Prop where
 seen:c.seen=g.actors.map fE.name
 ins:jK c.ins g (ay g) (inT g e 0)
 outs:jK c.outs g (aF g) (outT g e 0)
theorem KT (g:av):∀ (l:List fE) (i:Nat) (c:kL),g.actors.drop i=l->i<=g.actors.length ->
  c.seen=(g.actors.take i).map fE.name/\c.ins=(g.actors.take i).map (fun a=>List.replicate (bJ a.tag a.params).length false)/\c.outs=(g.actors.take i).map (fun a=>List.replicate (aV a.tag a.params).length false) ->
  (cO c l).seen=g.actors.map fE.name/\(cO c l).ins=g.actors.map (fun a=>List.replicate (bJ a.tag a.params).length false)/\(cO c l).outs=g.actors.map (fun a=>List.replicate (aV a.tag a.params).length false)
 | [],i,c,hd,hi,h=>by
  have:g.actors.length<=i:=by
   rcases Nat.lt_or_ge i g.actors.length with h | h
   ·
    rw [List.drop_eq_getElem_cons h] at hd;cases hd
   ·
    exact h
  rw [List.take_of_length_le this] at h;exact h
 | a :: r,i,c,hd,hi0,h=>by
  have hi:i < g.actors.length:=by
   rcases Nat.lt_or_ge i g.actors.length with h | h
   ·
    exact h
   ·
    rw [List.drop_eq_nil_of_le h] at hd;cases hd
  rw [List.drop_eq_getElem_cons hi] at hd
  injection hd with h1 h2
  refine KT g r (i+1) (mH c a) h2 hi ?_;rw [List.take_succ_eq_append_getElem hi,List.map_append,List.map_append,List.map_append,<- h.1,<- h.2.1,<- h.2.2,h1];exact ⟨rfl,rfl,rfl⟩
theorem wF {g:av}{a:Nat}(h:a < g.actors.length):ay g a=bJ g.actors[a].tag g.actors[a].params/\aF g a=aV g.actors[a].tag g.actors[a].params:=by
 unfold ay aF;rw [List.getElem?_eq_getElem h];exact ⟨rfl,rfl⟩
theorem F6 (g:av):Known g (nP g) 0 0 0:=by
 obtain ⟨h1,h2,h3⟩:=KT g g.actors 0 j3 rfl (Nat.zero_le _) ⟨rfl,rfl,rfl⟩;refine ⟨h1,⟨by show (cO j3 g.actors).ins.length=_;rw [h2,List.length_map],fun a ha=>?_,fun a p ha hp=>?_⟩,⟨by show (cO j3 g.actors).outs.length=_;rw [h3,List.length_map],fun a ha=>?_,fun a p ha hp=>?_⟩⟩
 ·
  show ((cO j3 g.actors).ins[a]?.getD []).length=_
  rw [h2,List.getElem?_map,List.getElem?_eq_getElem ha,(wF ha).1];simp
 ·
  show ((cO j3 g.actors).ins[a]?.getD [])[p]?.getD false=_
  rw [(wF ha).1] at hp;rw [h2,List.getElem?_map,List.getElem?_eq_getElem ha];simp [inT,hp]
 ·
  show ((cO j3 g.actors).outs[a]?.getD []).length=_
  rw [h3,List.getElem?_map,List.getElem?_eq_getElem ha,(wF ha).2];simp
 ·
  show ((cO j3 g.actors).outs[a]?.getD [])[p]?.getD false=_
  rw [(wF ha).2] at hp;rw [h3,List.getElem?_map,List.getElem?_eq_getElem ha];simp [outT,hp]
theorem Ay (g:av):∀ (l:List jw) (i:Nat) (c:kL),g.edges.drop i=l->i<=g.edges.length->Known g c 0 0 i->jG c l=kI g i l/\(jG c l=0->Known g (iy c l) 0 0 g.edges.length)
 | [],i,c,hd,hi,h=>by
  have:g.edges.length<=i:=by
   rcases Nat.lt_or_ge i g.edges.length with h | h
   ·
    rw [List.drop_eq_getElem_cons h] at hd;cases hd
   ·
    exact h
  obtain rfl:i=g.edges.length:=by omega
  exact ⟨rfl,fun _=>h⟩
 | x :: r,i,c,hd,hi0,h=>by
  have hi:i < g.edges.length:=by
   rcases Nat.lt_or_ge i g.edges.length with h | h
   ·
    exact h
   ·
    rw [List.drop_eq_nil_of_le h] at hd;cases hd
  rw [List.drop_eq_getElem_cons hi] at hd
  injection hd with h1 h2
  have e:rJ c x=p9 g i x:=by
   unfold rJ p9;rw [h.outs.take,h.ins.take]
  rw [jG,kI,e]
  split
  ·
   rename_i hne
   exact ⟨rfl,fun h0=>absurd h0 hne⟩
  ·
   rename_i hne
   have h0:rJ c x=0:=by rw [e];omega
   have t1:gD c.outs x.src x.dw=0:=by
    unfold rJ at h0
    split at h0
    ·
     rename_i h3;exact absurd h0 h3
    ·
     rename_i h3;omega
   have t2:gD c.ins x.dst x.dx=0:=by
    unfold rJ at h0;rw [if_neg (by omega)] at h0
    split at h0
    ·
     rename_i h3;exact absurd h0 h3
    ·
     rename_i h3;omega
   exact Ay g r (i+1) (yR c x) h2 hi ⟨h.seen,(h.ins.set t2).congr (fun a p=>by unfold inT;rw [sH _ _ hi,h1];simp),(h.outs.set t1).congr (fun a p=>by unfold outT;rw [sH _ _ hi,h1];simp)⟩
theorem F7 (g:av):∀ (l:List fF) (i:Nat) (seen:List ByteArray) (side:List (List Bool)),g.ins.drop i=l->i<=g.ins.length->seen=g.actors.map fE.name ++ (g.ins.take i).map fF.name->jK side g (ay g) (inT g g.edges.length i) ->
  dJ seen side l=u6 g i l/\(dJ seen side l=0->jK (aY side l) g (ay g) (inT g g.edges.length g.ins.length))
 | [],i,seen,side,hd,hi,hs,h=>by
  have:g.ins.length<=i:=by
   rcases Nat.lt_or_ge i g.ins.length with h | h
   ·
    rw [List.drop_eq_getElem_cons h] at hd;cases hd
   ·
    exact h
  obtain rfl:i=g.ins.length:=by omega
  exact ⟨rfl,fun _=>h⟩
 | x :: r,i,seen,side,hd,hi0,hs,h=>by
  have hi:i < g.ins.length:=by
   rcases Nat.lt_or_ge i g.ins.length with h | h
   ·
    exact h
   ·
    rw [List.drop_eq_nil_of_le h] at hd;cases hd
  rw [List.drop_eq_getElem_cons hi] at hd
  injection hd with h1 h2
  have e:nN seen side x=Mt g i x:=by
   unfold nN Mt;rw [h.take,Aw,hs,List.any_append,List.any_map,List.any_map];unfold jq;simp only [List.take_zero,List.any_nil,Bool.or_false,List.take_length];rfl
  rw [dJ,u6,e]
  split
  ·
   rename_i hne
   exact ⟨rfl,fun h0=>absurd h0 hne⟩
  ·
   rename_i hne
   have h0:nN seen side x=0:=by rw [e];omega
   have t1:gD side x.aW x.port=0:=by
    unfold nN at h0
    split at h0
    ·
     rename_i h3;exact absurd h0 h3
    ·
     exact h0
   exact F7 g r (i+1) (seen ++ [x.name]) (lI side x.aW x.port) h2 hi (by rw [hs,List.take_succ_eq_append_getElem hi,List.map_append,<- List.append_assoc,h1];rfl) ((h.set t1).congr (fun a p=>by unfold inT;rw [sH _ _ hi,h1];simp [Bool.or_assoc]))
theorem Cw (g:av):∀ (l:List fF) (i:Nat) (seen:List ByteArray) (side:List (List Bool)),g.outs.drop i=l->i<=g.outs.length->seen=g.actors.map fE.name ++ g.ins.map fF.name ++ (g.outs.take i).map fF.name->jK side g (aF g) (outT g g.edges.length i) ->
  dJ seen side l=nU g i l/\(dJ seen side l=0->jK (aY side l) g (aF g) (outT g g.edges.length g.outs.length))
 | [],i,seen,side,hd,hi,hs,h=>by
  have:g.outs.length<=i:=by
   rcases Nat.lt_or_ge i g.outs.length with h | h
   ·
    rw [List.drop_eq_getElem_cons h] at hd;cases hd
   ·
    exact h
  obtain rfl:i=g.outs.length:=by omega
  exact ⟨rfl,fun _=>h⟩
 | x :: r,i,seen,side,hd,hi0,hs,h=>by
  have hi:i < g.outs.length:=by
   rcases Nat.lt_or_ge i g.outs.length with h | h
   ·
    exact h
   ·
    rw [List.drop_eq_nil_of_le h] at hd;cases hd
  rw [List.drop_eq_getElem_cons hi] at hd
  injection hd with h1 h2
  have e:nN seen side x=xL g i x:=by
   unfold nN xL;rw [h.take,Aw,hs,List.any_append,List.any_append,List.any_map,List.any_map,List.any_map];unfold jq;simp only [List.take_length];rfl
  rw [dJ,nU,e]
  split
  ·
   rename_i hne
   exact ⟨rfl,fun h0=>absurd h0 hne⟩
  ·
   rename_i hne
   have h0:nN seen side x=0:=by rw [e];omega
   have t1:gD side x.aW x.port=0:=by
    unfold nN at h0
    split at h0
    ·
     rename_i h3;exact absurd h0 h3
    ·
     exact h0
   exact Cw g r (i+1) (seen ++ [x.name]) (lI side x.aW x.port) h2 hi (by rw [hs,List.take_succ_eq_append_getElem hi,List.map_append,<- List.append_assoc,h1];rfl) ((h.set t1).congr (fun a p=>by unfold outT;rw [sH _ _ hi,h1];simp [Bool.or_assoc]))
theorem F8 {side:List (List Bool)}{g:av}{L:Nat->List Int}{f:Int->Int->Bool}(h:jK side g L f):(side.all fun s=>s.all id)=(List.range g.actors.length).all fun i=>(List.range (L i).length).all fun k=>f i k:=by
 rw [Bool.eq_iff_iff,List.all_eq_true,List.all_eq_true]
 constructor
 ·
  intro hs i hi;have hi:=List.mem_range.1 hi;rw [List.all_eq_true];intro k hk;have hk:=List.mem_range.1 hk;have hm:=h.mark i k hi hk;have hil:i < side.length:=by rw [h.len];exact hi
  have hrow:=h.row i hi;rw [List.getElem?_eq_getElem hil] at hm hrow;simp only [Option.getD_some] at hm hrow;have hk2:k < side[i].length:=by rw [hrow];exact hk
  rw [List.getElem?_eq_getElem hk2] at hm;have h1:=hs _ (List.getElem_mem hil);rw [List.all_eq_true] at h1;have h2:=h1 _ (List.getElem_mem hk2);rw [<- hm];exact h2
 ·
  intro hs s hsm;obtain ⟨i,hi,rfl⟩:=List.mem_iff_getElem.1 hsm;have hi2:i < g.actors.length:=by rw [<- h.len];exact hi
  rw [List.all_eq_true];intro b hb;obtain ⟨k,hk,rfl⟩:=List.mem_iff_getElem.1 hb;have hrow:=h.row i hi2;rw [List.getElem?_eq_getElem hi] at hrow;simp only [Option.getD_some] at hrow;have hm:=h.mark i k hi2 (by rw [<- hrow];exact hk);rw [List.getElem?_eq_getElem hi] at hm;simp only [Option.getD_some] at hm;rw [List.getElem?_eq_getElem hk] at hm;have h1:=hs i (List.mem_range.2 hi2);rw [List.all_eq_true] at h1;have h2:=h1 k (List.mem_range.2 (by rw [<- hrow];exact hk));show side[i][k]=true
  rw [<- h2,<- hm];rfl
theorem Mv {g:av}{a b:List (List Bool)}(h:jK a g (ay g) (inT g g.edges.length g.ins.length))(k:jK b g (aF g) (outT g g.edges.length g.outs.length)):mQ a b=yU g:=by
 unfold mQ yU;rw [F8 h,F8 k];have e:((List.range g.actors.length).all (fun i=>(List.range (ay g i).length).all fun k=>inT g g.edges.length g.ins.length i k) && (List.range g.actors.length).all fun i=>(List.range (aF g i).length).all fun k=>outT g g.edges.length g.outs.length i k)=!(List.range g.actors.length).any (mJ g):=by
  rw [Bool.eq_iff_iff];simp only [Bool.and_eq_true,List.all_eq_true,Bool.not_eq_true',List.any_eq_false,mJ,Bool.or_eq_true,List.any_eq_true,Bool.not_eq_true',not_or,not_exists,not_and,Bool.not_eq_false]
  constructor
  ·
   rintro ⟨h1,h2⟩ i hi;exact ⟨h1 i hi,h2 i hi⟩
  ·
   intro h;exact ⟨fun i hi=>(h i hi).1,fun i hi=>(h i hi).2⟩
 rw [e];cases (List.range g.actors.length).any (mJ g) <;> rfl
theorem Cx (g:av):I5 g=jH g:=by
 unfold I5 jH
 by_cases h0:lq g≠0
 ·
  rw [if_pos h0,if_pos h0]
 rw [if_neg h0,if_neg h0];rw [<- yV g g.actors 0 j3 rfl rfl]
 by_cases h1:iq j3 g.actors≠0
 ·
  rw [if_pos h1,if_pos h1]
 rw [if_neg h1,if_neg h1];obtain ⟨e1,e2⟩:=Ay g g.edges 0 (nP g) rfl (Nat.zero_le _) (F6 g);rw [<- e1]
 by_cases h2:jG (nP g) g.edges≠0
 ·
  rw [if_pos h2,if_pos h2]
 rw [if_neg h2,if_neg h2];have K:Known g (bE g) 0 0 g.edges.length:=e2 (by omega);obtain ⟨i1,i2⟩:=F7 g g.ins 0 (bE g).seen (bE g).ins rfl (Nat.zero_le _) (by rw [K.seen];simp) K.ins;rw [<- i1]
 by_cases h3:dJ (bE g).seen (bE g).ins g.ins≠0
 ·
  rw [if_pos h3,if_pos h3]
 rw [if_neg h3,if_neg h3];obtain ⟨o1,o2⟩:=Cw g g.outs 0 (bK (bE g).seen g.ins) (bE g).outs rfl (Nat.zero_le _) (by unfold bK;rw [K.seen];simp) K.outs;rw [<- o1]
 by_cases h4:dJ (bK (bE g).seen g.ins) (bE g).outs g.outs≠0
 ·
  rw [if_pos h4,if_pos h4]
 rw [if_neg h4,if_neg h4];exact (Mv (i2 (by omega)) (o2 (by omega))).symm
open Go.RowKit
theorem qL (w:World)(b:Int):Calls Tryz.prog 93 #[.int .u8 b] w (pW (.bool (lV b)) w):=by
 unfold lV
 by_cases h1:97<=b
 ·
  rw [decide_eq_true h1,Bool.true_and];go_enter Tryz.func93,Tryz.ntmps93;go_wp2;go_ret;exact ⟨rfl,rfl⟩
 ·
  rw [decide_eq_false h1,Bool.false_and];go_enter Tryz.func93,Tryz.ntmps93;go_wp2;go_ret;exact ⟨rfl,rfl⟩
theorem Cy (w:World)(b:Int):Calls Tryz.prog 103 #[.int .u8 b] w (pW (.bool (uW b)) w):=by
 unfold uW
 by_cases h1:48<=b
 ·
  rw [decide_eq_true h1,Bool.true_and];go_enter Tryz.func103,Tryz.ntmps103;go_wp2;go_ret;exact ⟨rfl,rfl⟩
 ·
  rw [decide_eq_false h1,Bool.false_and];go_enter Tryz.func103,Tryz.ntmps103;go_wp2;go_ret;exact ⟨rfl,rfl⟩
theorem I6 (w:World)(b:Int):Calls Tryz.prog 96 #[.int .u8 b] w (pW (.bool (ig b)) w):=by
 unfold ig;obtain ⟨x,hx⟩:∃ x,lV b=x:=⟨_,rfl⟩;obtain ⟨y,hy⟩:∃ x,uW b=x:=⟨_,rfl⟩;rw [hx,hy];have HX:=af hx;have HY:=af hy;clear hx hy;cases x
 ·
  cases y
  ·
   go_enter Tryz.func96,Tryz.ntmps96;go_wp2_with fail;refine (qL w b).mono ?_;rintro e _ ⟨rfl,rfl⟩;rw [HX.out];go_wp2_with fail;refine (Cy w b).mono ?_;rintro e _ ⟨rfl,rfl⟩;rw [HY.out];go_wp2;go_ret;exact ⟨by simp;rfl,rfl⟩
  ·
   go_enter Tryz.func96,Tryz.ntmps96;go_wp2_with fail;refine (qL w b).mono ?_;rintro e _ ⟨rfl,rfl⟩;rw [HX.out];go_wp2_with fail;refine (Cy w b).mono ?_;rintro e _ ⟨rfl,rfl⟩;rw [HY.out];go_wp2;go_ret;exact ⟨rfl,rfl⟩
 ·
  go_enter Tryz.func96,Tryz.ntmps96;go_wp2_with fail;refine (qL w b).mono ?_;rintro e _ ⟨rfl,rfl⟩;rw [HX.out];go_wp2;go_ret;exact ⟨by simp,rfl⟩
def PZ (w:World)(c:Nat)(s:ByteArray)(k:Nat):Prop:=w.heap[c]?=some (.cells #[.string s,.int .i64 k] 197 (0,0))
theorem F9 (w:World)(c:Nat)(s:ByteArray)(k:Nat)(h:PZ w c s k):Calls Tryz.prog 102 #[.pointer (some ⟨c,0,none⟩)] w fun e w'=>e=.returned (.bool (decide (k < s.size)))/\∃ m,w'=w.drewN m:=by
 have q0:=ah w _ h 0 _ rfl;have q1:=ah w _ h 1 _ rfl
 by_cases hk:k < s.size
 ·
  have hki:(k:Int) < s.size:=by omega
  rw [decide_eq_true hk];go_enter Tryz.func102,Tryz.ntmps102;go_wp2;go_quiet (fail);go_wp2;go_ret;exact ⟨rfl,_,rfl⟩
 ·
  have hki:¬ (k:Int) < s.size:=by omega
  rw [decide_eq_false hk];go_enter Tryz.func102,Tryz.ntmps102;go_wp2;go_quiet (fail);go_wp2;go_ret;exact ⟨rfl,_,rfl⟩
theorem P6 (w:World)(c:Nat)(s:ByteArray)(h:PZ w c s 0):Calls Tryz.prog 94 #[.pointer (some ⟨c,0,none⟩),.int .i64 0] w fun e w'=>e=.returned (.int .u8 (j5 s 0))/\∃ m,w'=w.drewN m:=by
 have q0:=ah w _ h 0 _ rfl;have q1:=ah w _ h 1 _ rfl;unfold j5
 by_cases hk:0 < s.size
 ·
  have hki:(0:Int) < s.size:=by omega
  have hse:¬ s=ByteArray.empty:=fun e=>by rw [e] at hk;exact absurd hk (by decide)
  rw [dif_pos hk];go_enter Tryz.func94,Tryz.ntmps94;go_wp2;go_quiet (fail);go_wp2;go_quiet (fail);go_wp2;go_ret;exact ⟨rfl,_,World.drewN_drewN _ _ _⟩
 ·
  obtain rfl:s=ByteArray.empty:=ByteArray.ext (Array.eq_empty_of_size_eq_zero (by have:s.data.size=s.size:=rfl;omega));rw [dif_neg hk];clear hk;go_enter Tryz.func94,Tryz.ntmps94;go_wp2;go_quiet (fail);go_wp2;go_ret;exact ⟨rfl,_,rfl⟩
theorem PZ.drewN {w:World}{c:Nat}{s:ByteArray}{k:Nat}(h:PZ w c s k)(m:Nat):PZ (w.drewN m) c s k:=h
def Stand (w wr:World)(c:Nat)(s:ByteArray)(k:Nat):Prop:=PZ wr c s k/\k<=s.size/\(∀ i,i < k->ig (j5 s i)=true)/\aG (fun b=>b=c) w wr
theorem I7 {s:ByteArray}{k:Nat}(h:∀ i,i < k->ig (j5 s i)=true)(hx:ig (j5 s k)=true):∀ i,i < k+1->ig (j5 s i)=true:=fun i hi=>by
 by_cases e:i=k
 ·
  rw [e];exact hx
 ·
  exact h i (by omega)
theorem Mw {n k:Nat}(h:k < n):n - (((k+1:Nat):Int)).toNat < n - ((k:Int)).toNat:=by omega
theorem Mx (w:World)(c:Nat)(s:ByteArray)(hs:s.size<=4611686018427387904)(h:PZ w c s 0):Calls Tryz.prog 95 #[.pointer (some ⟨c,0,none⟩),.func (.func 96) #[] #[]] w fun e w' =>
  ∃ m,e=.returned (.string (s.extract 0 m))/\m<=s.size/\(∀ i,i < m->ig (j5 s i)=true)/\(m < s.size->ig (j5 s m)=false)/\aG (fun b=>b=c) w w':=by
 have q0:=ah w _ h 0 _ rfl;have q1:=ah w _ h 1 _ rfl;have HC:=af h;have HS:=af hs;clear h hs;go_enter Tryz.func95,Tryz.ntmps95;go_wp2_with fail;clear q0 q1
 go_loopw [24] (fun _ wr=>∃ k,Stand w wr c s k) (fun _ wr=>s.size - (match wr.cell? ⟨c,1,none⟩ with | some (.int _ k)=>k.toNat | _=>0))
 case atStart=>exact ⟨0,HC.out,Nat.zero_le _,fun i hi=>absurd hi (by omega),aG.refl _ _⟩
 case round =>
  obtain ⟨k,hcur,hk,hin,hmod⟩:=hrel;have HCu:=af hcur;have HIN:=af hin;have HM:=af hmod;have q0:=ah wr _ hcur 0 _ rfl;have q1:=ah wr _ hcur 1 _ rfl;have f1:=aj hcur 1;clear hcur hin hmod
  by_cases hlt:k < s.size
  ·
   have bX:(k:Int) < s.size:=by omega
   have hbt:j5 s k=((s[k]'hlt).toNat:Int):=dif_pos hlt;obtain ⟨x,hx⟩:∃ x,ig (j5 s k)=x:=⟨_,rfl⟩;have HX:=af hx;have UF:=af hbt;have hsz:=HS.out;clear hx hbt;go_wp2_with fail;refine fC (fun w'=>PZ w' c s k/\∃ m,w'=wr.drewN m) [0,1,2,3,4,5,6,7,8,9,10,11,12,13,14] [] (by kernel_rfl) (by kernel_rfl) rfl ⟨HCu.out,1,rfl⟩ ?_;simp only [pk];refine fD ?_;refine gT (.bool true) 102 #[.pointer (some ⟨c,0,none⟩)] (by rfl) (fun wz=>by go_simp) (fun wz hz=>?_) ?_
   ·
    obtain ⟨hc,m0,rfl⟩:=hz;refine (F9 _ c s k hc).mono ?_;rintro e wy ⟨rfl,m,rfl⟩;exact ⟨by rw [decide_eq_true hlt],hc,m0+m,World.drewN_drewN _ _ _⟩
   simp only [pt]
   repeat (first
    | (refine yP (by rfl) ?_;(try simp only [Act.put,List.setIfInBounds_toArray,List.set_cons_zero,List.set_cons_succ]))
    | (refine Ag ?_ (by rfl) ?_ ?_;rotate_left;(intro wz hz;have q0:=ah wz _ hz.1 0 _ rfl;have q1:=ah wz _ hz.1 1 _ rfl;(first | (go_simp;done) | (go_simp;with_reducible rfl)));(try simp only [Act.put,List.setIfInBounds_toArray,List.set_cons_zero,List.set_cons_succ])))
   refine gT (.bool x) 96 #[.int .u8 ((s[k]'hlt).toNat:Int)] (by rfl) (fun wz=>by go_simp) (fun wz hz=>?_) ?_
   ·
    refine (I6 _ _).mono ?_;rintro e wy ⟨rfl,rfl⟩;exact ⟨by rw [<- UF.out,HX.out],hz⟩
   simp only [pt];cases x with
   | true =>
    refine fD ?_;refine iI ?_;intro w' hS;obtain ⟨hc2,m0,rfl⟩:=hS;have BB:=af hc2;have q0:=ah _ _ hc2 0 _ rfl;have q1:=ah _ _ hc2 1 _ rfl;have f1:=aj hc2 1;clear hc2;go_wp2;have hc3:PZ ((wr.drewN m0).setCell ⟨c,1,none⟩ (.int .i64 ((k:Int)+1))) c s (k+1):=block_setCell BB.out 1 (.int .i64 ((k:Int)+1));have q1':=ah _ _ hc3 1 _ rfl;have ZX:=af hc3;clear hc3;go_roundw
    case rel=>exact ⟨k+1,ZX.out,hlt,I7 HIN.out HX.out,(HM.out.drewN m0).setCell (p:=⟨c,1,none⟩) (fun _=>rfl) _⟩
    case measure =>
     have e1:=ah _ _ HCu.out 1 _ rfl;rw [q1',e1];exact Mw hlt
   | false =>
    refine fD ?_;refine iI ?_;intro w' hS;obtain ⟨hc2,m0,rfl⟩:=hS;have q0:=ah _ _ hc2 0 _ rfl;have q1:=ah _ _ hc2 1 _ rfl;go_wp2;go_quiet (fail);go_wp2;go_ret;exact ⟨k,by first | rfl | simp,hk,HIN.out,fun _=>HX.out,((HM.out.drewN m0).drewN _)⟩
  ·
   obtain rfl:k=s.size:=by omega
   go_wp2_with fail;refine fC (fun w'=>PZ w' c s s.size/\∃ m,w'=wr.drewN m) [0,1,2,3,4,5,6,7,8,9,10,11,12,13,14] [] (by kernel_rfl) (by kernel_rfl) rfl ⟨HCu.out,1,rfl⟩ ?_;simp only [pk];refine fD ?_;refine gT (.bool false) 102 #[.pointer (some ⟨c,0,none⟩)] (by rfl) (fun wz=>by go_simp) (fun wz hz=>?_) ?_
   ·
    obtain ⟨hc,m0,rfl⟩:=hz;refine (F9 _ c s s.size hc).mono ?_;rintro e wy ⟨rfl,m,rfl⟩;exact ⟨by rw [decide_eq_false (Nat.lt_irrefl _)],hc,m0+m,World.drewN_drewN _ _ _⟩
   simp only [pt];refine fD ?_;refine iI ?_;intro w' hS;obtain ⟨hc2,m0,rfl⟩:=hS;have q0:=ah _ _ hc2 0 _ rfl;have q1:=ah _ _ hc2 1 _ rfl;go_wp2;go_quiet (fail);go_wp2;go_ret;exact ⟨s.size,by first | rfl | simp,Nat.le_refl _,HIN.out,fun h=>absurd h (Nat.lt_irrefl _),((HM.out.drewN m0).drewN _)⟩
theorem Az {s:ByteArray}(h:∀ i,i < s.size->ig (j5 s i)=true):(List.range s.size).all (fun i=>ig (j5 s i))=true:=by
 rw [List.all_eq_true];exact fun i hi=>h i (List.mem_range.1 hi)
theorem AA {s:ByteArray}{m:Nat}(hm:m < s.size)(h:ig (j5 s m)=false):(List.range s.size).all (fun i=>ig (j5 s i))=false:=by
 rw [List.all_eq_false];exact ⟨m,List.mem_range.2 hm,by rw [h];simp⟩
theorem UG (w:World)(s:ByteArray):PZ (w.alloc (.cells #[.string s,.int .i64 0] 197)) w.heap.size s 0:=heap_alloc_new w _
theorem MB {w w1 w2:World}(h:w.heap.size < w1.heap.size)(hb:Below w.heap.size w w1)(hm:aG (fun b=>b=w.heap.size) w1 w2):Below w.heap.size w w2:=hb.trans (hm.below (by omega) (fun k hk e=>by omega))
theorem Ga (w:World)(s:ByteArray)(hs:s.size<=4611686018427387904):Calls Tryz.prog 78 #[.string s] w fun e w'=>e=.returned (.bool (nameP s))/\Below w.heap.size w w':=by
 obtain ⟨N,hN⟩:∃ N,nameP s=N:=⟨_,rfl⟩;rw [hN];have HN:=af hN;have HS:=af hs;clear hN hs;go_enter Tryz.func78,Tryz.ntmps78;go_wp2_with fail;have hC:=UG w s;have hb1:=(au w (.cells #[.string s,.int .i64 0] 197));refine (P6 _ _ s hC).mono ?_;rintro e w1 ⟨rfl,m1,rfl⟩;go_wp2_with fail;refine (qL _ _).mono ?_;rintro e _ ⟨rfl,rfl⟩;obtain ⟨x,hx⟩:∃ x,lV (j5 s 0)=x:=⟨_,rfl⟩;rw [hx];have HX:=af hx;clear hx;cases x with
 | false =>
  have e:N=false:=by rw [<- HN.out,nameP,HX.out];rfl
  subst e;go_wp2;go_ret;exact ⟨rfl,cK hb1⟩
 | true =>
  go_wp2_with fail;refine (Mx _ _ s HS.out (hC.drewN _)).mono ?_;rintro e w2 ⟨m,rfl,hm,hin,hout,hmod⟩;have hb2:Below w.heap.size w w2:=MB (by simp) (cK (n:=m1) hb1) hmod;have HB2:=af hb2;have hlen:(s.extract 0 m).size=m:=by rw [ByteArray.size_extract];omega
  clear hb2 hmod hb1 hC
  by_cases hms:m < s.size
  ·
   have e:N=false:=by rw [<- HN.out,nameP,AA hms (hout hms)];simp
   subst e;have Pv:¬ (m:Int)=s.size:=by omega
   clear hin hout;go_wp2;go_ret;exact ⟨by simp,HB2.out⟩
  ·
   obtain rfl:m=s.size:=by omega
   have hall:=Az hin;have hself:s.extract 0 s.size=s:=by simp
   rw [hself];clear hin hout hself hlen
   by_cases h16:s.size<=16
   ·
    have e:N=true:=by rw [<- HN.out,nameP,HX.out,hall,decide_eq_true h16];rfl
    subst e;have UH:(s.size:Int)<=16:=by omega
    clear hall;go_wp2;go_ret;exact ⟨by simp,HB2.out⟩
   ·
    have e:N=false:=by rw [<- HN.out,nameP,HX.out,hall,decide_eq_false h16];rfl
    subst e;have UH:¬ (s.size:Int)<=16:=by omega
    clear hall;go_wp2;go_ret;exact ⟨by simp;exact UH,HB2.out⟩
theorem jL {α:Type}{l:List α}{f:α->Bool}{j n:Nat}(hj:j < l.length)(hn:j < n)(hf:f l[j]=true):(l.take n).any f=true:=by
 rw [List.any_eq_true];exact ⟨l[j],List.mem_take_iff_getElem.2 ⟨j,by omega,rfl⟩,hf⟩
theorem eG {α:Type}{l:List α}{f:α->Bool}{j:Nat}(hj:j < l.length)(h:(l.take j).any f=false)(hf:f l[j]=false):(l.take (j+1)).any f=false:=by
 rw [sH l f hj,h,hf];rfl
theorem qM (w:World)(v:Value)(g:av)(e o:Nat)(a p:Int)(h:dK w v g)(he:e<=g.edges.length)(ho:o<=(g.outs).length)(he2:e<=1000000)(ho2:o<=1000000):Calls Tryz.prog 85 #[v,.int .i64 (e:Int),.int .i64 (o:Int),.int .i64 a,.int .i64 p] w (fq (.bool (outT g e o a p)) w):=by
 obtain ⟨va,ve,vi,vo,rfl,ra,re,ri,ro⟩:=h.shape;obtain ⟨aa,ac,rfl⟩:=ra.slice;obtain ⟨ae,ec,rfl⟩:=re.slice;obtain ⟨ai,ic,rfl⟩:=ri.slice;obtain ⟨ao,oc,rfl⟩:=ro.slice;have rV:=af ra;have nV:=af re;have qE:=af ri;have sI:=af ro;have hb:=au w (.cells #[.string g.name,.slice aa g.actors.length ac,.slice ae g.edges.length ec,.slice ai g.ins.length ic,.slice ao g.outs.length oc] 26);have HB:=af hb;have hX:=heap_alloc_new w (.cells #[.string g.name,.slice aa g.actors.length ac,.slice ae g.edges.length ec,.slice ai g.ins.length ic,.slice ao g.outs.length oc] 26);have x1:=ah _ _ hX 1 _ rfl;have x2:=ah _ _ hX 2 _ rfl;have x3:=ah _ _ hX 3 _ rfl;have x4:=ah _ _ hX 4 _ rfl;clear h ra re ri ro hb hX;unfold outT;go_enter Tryz.func85,Tryz.ntmps85;go_wp2_with fail;obtain ⟨wb,hwb⟩:∃ x,w.alloc (.cells #[.string g.name,.slice aa g.actors.length ac,.slice ae g.edges.length ec,.slice ai g.ins.length ic,.slice ao g.outs.length oc] 26)=x:=⟨_,rfl⟩;rw [hwb] at HB x1 x2 x3 x4 ⊢;clear hwb
 go_loopw [11] (fun i wl=>∃ j:Nat,j<=e/\i=.int .i64 j/\wl=wb/\((g.edges).take j).any (fun x=>decide (x.src=a) && decide (x.dw=p))=false) (fun i _=>e - (intOf i).toNat)
 case atStart=>exact ⟨0,Nat.zero_le _,rfl,rfl,by simp⟩
 case round =>
  obtain ⟨j,hj,rfl,rfl,hno⟩:=hrel;have oO:=af hno;clear hno
  by_cases hlt:j < e
  ·
   have bX:(j:Int) < e:=by omega
   have hjl:j < g.edges.length:=by omega
   obtain ⟨b0,off,rfl,hcap,hb0,hrec⟩:=nV.out.at (by omega);obtain ⟨cs,hcs,mY,hcl⟩:=hrec j hjl;obtain ⟨xs,rfl,-⟩:=mY;have c0:=cell_later HB.out (hcl 0 (by omega));have c1:=cell_later HB.out (hcl 1 (by omega));have c2:=cell_later HB.out (hcl 2 (by omega));have c3:=cell_later HB.out (hcl 3 (by omega));simp at c0 c1 c2 c3;have fu:(g.edges.length:Int)<=ec:=by omega
   clear hrec hcl hcs hb0 hcap;have UI:(j:Int) < g.edges.length:=by omega
   by_cases h1:g.edges[j].src=a
   ·
    have h1b:(g.edges[j].src == a)=true:=by rw [beq_iff_eq];exact h1
    by_cases h2:g.edges[j].dw=p
    ·
     have XU:(g.edges[j].dw == p)=true:=by rw [beq_iff_eq];exact h2
     have qf:=jL (f:=fun x:jw=>decide (x.src=a) && decide (x.dw=p)) hjl hlt (by simp [h1,h2]);have HY:=af qf;clear qf h1 h2;go_wp2;go_ret;exact ⟨by rw [HY.out];rfl,HB.out⟩
    ·
     have XU:(g.edges[j].dw == p)=false:=by rw [beq_eq_false_iff_ne];exact h2
     have hnx:=eG (f:=fun x:jw=>decide (x.src=a) && decide (x.dw=p)) hjl oO.out (by simp [h2]);have HX:=af hnx;clear hnx h1 h2;go_wp2;go_roundw
     case rel=>exact ⟨j+1,hlt,by go_num,by first | rfl | trivial,HX.out⟩
     case measure=>simp [intOf];omega
   ·
    have h1b:(g.edges[j].src == a)=false:=by rw [beq_eq_false_iff_ne];exact h1
    have hnx:=eG (f:=fun x:jw=>decide (x.src=a) && decide (x.dw=p)) hjl oO.out (by simp [h1]);have HX:=af hnx;clear hnx h1;go_wp2;go_roundw
    case rel=>exact ⟨j+1,hlt,by go_num,by first | rfl | trivial,HX.out⟩
    case measure=>simp [intOf];omega
  ·
   obtain rfl:j=e:=by omega
   have bX:¬ ((j:Int) < j):=by omega
   have u7:=af oO.out;clear oO hj hlt;go_wp2_with fail
   go_loopw [12] (fun i wl=>∃ k:Nat,k<=o/\i=.int .i64 k/\wl=wr/\((g.outs).take k).any (fun x=>decide (x.aW=a) && decide (x.port=p))=false) (fun i _=>o - (intOf i).toNat)
   case atStart=>exact ⟨0,Nat.zero_le _,rfl,rfl,by simp⟩
   case round =>
    obtain ⟨k,hk,rfl,rfl,hno⟩:=hrel;have oO:=af hno;clear hno
    by_cases hlt:k < o
    ·
     have bX:(k:Int) < o:=by omega
     have hjl:k < (g.outs).length:=by omega
     obtain ⟨b0,off,rfl,hcap,hb0,hrec⟩:=sI.out.at (by omega);obtain ⟨cs,hcs,mY,hcl⟩:=hrec k hjl;obtain rfl:=mY;have c1:=cell_later HB.out (hcl 1 (by omega));have c2:=cell_later HB.out (hcl 2 (by omega));simp at c1 c2;have fu:((g.outs).length:Int)<=oc:=by omega
     have ZU:(k:Int) < (g.outs).length:=by omega
     clear hrec hcl hcs hb0 hcap
     by_cases h1:(g.outs)[k].aW=a
     ·
      have h1b:((g.outs)[k].aW == a)=true:=by rw [beq_iff_eq];exact h1
      by_cases h2:(g.outs)[k].port=p
      ·
       have XU:((g.outs)[k].port == p)=true:=by rw [beq_iff_eq];exact h2
       have qf:=jL (f:=fun x:fF=>decide (x.aW=a) && decide (x.port=p)) hjl hlt (by simp [h1,h2]);have HY:=af qf;clear qf h1 h2;go_wp2;go_ret;exact ⟨by rw [HY.out,Bool.or_true];rfl,HB.out⟩
      ·
       have XU:((g.outs)[k].port == p)=false:=by rw [beq_eq_false_iff_ne];exact h2
       have hnx:=eG (f:=fun x:fF=>decide (x.aW=a) && decide (x.port=p)) hjl oO.out (by simp [h2]);have HX:=af hnx;clear hnx h1 h2;go_wp2;go_roundw
       case rel=>exact ⟨k+1,hlt,by go_num,by first | rfl | trivial,HX.out⟩
       case measure=>simp [intOf];omega
     ·
      have h1b:((g.outs)[k].aW == a)=false:=by rw [beq_eq_false_iff_ne];exact h1
      have hnx:=eG (f:=fun x:fF=>decide (x.aW=a) && decide (x.port=p)) hjl oO.out (by simp [h1]);have HX:=af hnx;clear hnx h1;go_wp2;go_roundw
      case rel=>exact ⟨k+1,hlt,by go_num,by first | rfl | trivial,HX.out⟩
      case measure=>simp [intOf];omega
    ·
     obtain rfl:k=o:=by omega
     have bX:¬ ((k:Int) < k):=by omega
     go_wp2;go_ret;exact ⟨by rw [u7.out,oO.out];rfl,HB.out⟩
theorem sJ (w:World)(v:Value)(g:av)(e o:Nat)(a p:Int)(h:dK w v g)(he:e<=g.edges.length)(ho:o<=(g.ins).length)(he2:e<=1000000)(ho2:o<=1000000):Calls Tryz.prog 86 #[v,.int .i64 (e:Int),.int .i64 (o:Int),.int .i64 a,.int .i64 p] w (fq (.bool (inT g e o a p)) w):=by
 obtain ⟨va,ve,vi,vo,rfl,ra,re,ri,ro⟩:=h.shape;obtain ⟨aa,ac,rfl⟩:=ra.slice;obtain ⟨ae,ec,rfl⟩:=re.slice;obtain ⟨ai,ic,rfl⟩:=ri.slice;obtain ⟨ao,oc,rfl⟩:=ro.slice;have rV:=af ra;have nV:=af re;have qE:=af ri;have sI:=af ro;have hb:=au w (.cells #[.string g.name,.slice aa g.actors.length ac,.slice ae g.edges.length ec,.slice ai g.ins.length ic,.slice ao g.outs.length oc] 26);have HB:=af hb;have hX:=heap_alloc_new w (.cells #[.string g.name,.slice aa g.actors.length ac,.slice ae g.edges.length ec,.slice ai g.ins.length ic,.slice ao g.outs.length oc] 26);have x1:=ah _ _ hX 1 _ rfl;have x2:=ah _ _ hX 2 _ rfl;have x3:=ah _ _ hX 3 _ rfl;have x4:=ah _ _ hX 4 _ rfl;clear h ra re ri ro hb hX;unfold inT;go_enter Tryz.func86,Tryz.ntmps86;go_wp2_with fail;obtain ⟨wb,hwb⟩:∃ x,w.alloc (.cells #[.string g.name,.slice aa g.actors.length ac,.slice ae g.edges.length ec,.slice ai g.ins.length ic,.slice ao g.outs.length oc] 26)=x:=⟨_,rfl⟩;rw [hwb] at HB x1 x2 x3 x4 ⊢;clear hwb
 go_loopw [11] (fun i wl=>∃ j:Nat,j<=e/\i=.int .i64 j/\wl=wb/\((g.edges).take j).any (fun x=>decide (x.dst=a) && decide (x.dx=p))=false) (fun i _=>e - (intOf i).toNat)
 case atStart=>exact ⟨0,Nat.zero_le _,rfl,rfl,by simp⟩
 case round =>
  obtain ⟨j,hj,rfl,rfl,hno⟩:=hrel;have oO:=af hno;clear hno
  by_cases hlt:j < e
  ·
   have bX:(j:Int) < e:=by omega
   have hjl:j < g.edges.length:=by omega
   obtain ⟨b0,off,rfl,hcap,hb0,hrec⟩:=nV.out.at (by omega);obtain ⟨cs,hcs,mY,hcl⟩:=hrec j hjl;obtain ⟨xs,rfl,-⟩:=mY;have c0:=cell_later HB.out (hcl 0 (by omega));have c1:=cell_later HB.out (hcl 1 (by omega));have c2:=cell_later HB.out (hcl 2 (by omega));have c3:=cell_later HB.out (hcl 3 (by omega));simp at c0 c1 c2 c3;have fu:(g.edges.length:Int)<=ec:=by omega
   clear hrec hcl hcs hb0 hcap;have UI:(j:Int) < g.edges.length:=by omega
   by_cases h1:g.edges[j].dst=a
   ·
    have h1b:(g.edges[j].dst == a)=true:=by rw [beq_iff_eq];exact h1
    by_cases h2:g.edges[j].dx=p
    ·
     have XU:(g.edges[j].dx == p)=true:=by rw [beq_iff_eq];exact h2
     have qf:=jL (f:=fun x:jw=>decide (x.dst=a) && decide (x.dx=p)) hjl hlt (by simp [h1,h2]);have HY:=af qf;clear qf h1 h2;go_wp2;go_ret;exact ⟨by rw [HY.out];rfl,HB.out⟩
    ·
     have XU:(g.edges[j].dx == p)=false:=by rw [beq_eq_false_iff_ne];exact h2
     have hnx:=eG (f:=fun x:jw=>decide (x.dst=a) && decide (x.dx=p)) hjl oO.out (by simp [h2]);have HX:=af hnx;clear hnx h1 h2;go_wp2;go_roundw
     case rel=>exact ⟨j+1,hlt,by go_num,by first | rfl | trivial,HX.out⟩
     case measure=>simp [intOf];omega
   ·
    have h1b:(g.edges[j].dst == a)=false:=by rw [beq_eq_false_iff_ne];exact h1
    have hnx:=eG (f:=fun x:jw=>decide (x.dst=a) && decide (x.dx=p)) hjl oO.out (by simp [h1]);have HX:=af hnx;clear hnx h1;go_wp2;go_roundw
    case rel=>exact ⟨j+1,hlt,by go_num,by first | rfl | trivial,HX.out⟩
    case measure=>simp [intOf];omega
  ·
   obtain rfl:j=e:=by omega
   have bX:¬ ((j:Int) < j):=by omega
   have u7:=af oO.out;clear oO hj hlt;go_wp2_with fail
   go_loopw [12] (fun i wl=>∃ k:Nat,k<=o/\i=.int .i64 k/\wl=wr/\((g.ins).take k).any (fun x=>decide (x.aW=a) && decide (x.port=p))=false) (fun i _=>o - (intOf i).toNat)
   case atStart=>exact ⟨0,Nat.zero_le _,rfl,rfl,by simp⟩
   case round =>
    obtain ⟨k,hk,rfl,rfl,hno⟩:=hrel;have oO:=af hno;clear hno
    by_cases hlt:k < o
    ·
     have bX:(k:Int) < o:=by omega
     have hjl:k < (g.ins).length:=by omega
     obtain ⟨b0,off,rfl,hcap,hb0,hrec⟩:=qE.out.at (by omega);obtain ⟨cs,hcs,mY,hcl⟩:=hrec k hjl;obtain rfl:=mY;have c1:=cell_later HB.out (hcl 1 (by omega));have c2:=cell_later HB.out (hcl 2 (by omega));simp at c1 c2;have fu:((g.ins).length:Int)<=ic:=by omega
     have ZU:(k:Int) < (g.ins).length:=by omega
     clear hrec hcl hcs hb0 hcap
     by_cases h1:(g.ins)[k].aW=a
     ·
      have h1b:((g.ins)[k].aW == a)=true:=by rw [beq_iff_eq];exact h1
      by_cases h2:(g.ins)[k].port=p
      ·
       have XU:((g.ins)[k].port == p)=true:=by rw [beq_iff_eq];exact h2
       have qf:=jL (f:=fun x:fF=>decide (x.aW=a) && decide (x.port=p)) hjl hlt (by simp [h1,h2]);have HY:=af qf;clear qf h1 h2;go_wp2;go_ret;exact ⟨by rw [HY.out,Bool.or_true];rfl,HB.out⟩
      ·
       have XU:((g.ins)[k].port == p)=false:=by rw [beq_eq_false_iff_ne];exact h2
       have hnx:=eG (f:=fun x:fF=>decide (x.aW=a) && decide (x.port=p)) hjl oO.out (by simp [h2]);have HX:=af hnx;clear hnx h1 h2;go_wp2;go_roundw
       case rel=>exact ⟨k+1,hlt,by go_num,by first | rfl | trivial,HX.out⟩
       case measure=>simp [intOf];omega
     ·
      have h1b:((g.ins)[k].aW == a)=false:=by rw [beq_eq_false_iff_ne];exact h1
      have hnx:=eG (f:=fun x:fF=>decide (x.aW=a) && decide (x.port=p)) hjl oO.out (by simp [h1]);have HX:=af hnx;clear hnx h1;go_wp2;go_roundw
      case rel=>exact ⟨k+1,hlt,by go_num,by first | rfl | trivial,HX.out⟩
      case measure=>simp [intOf];omega
    ·
     obtain rfl:k=o:=by omega
     have bX:¬ ((k:Int) < k):=by omega
     go_wp2;go_ret;exact ⟨by rw [u7.out,oO.out];rfl,HB.out⟩
theorem l9 (w:World)(b:Int):Calls Tryz.prog 81 #[.int .u8 b] w (pW (.bool (lV b)) w):=by
 unfold lV
 by_cases h1:97<=b
 ·
  rw [decide_eq_true h1,Bool.true_and];go_enter Tryz.func81,Tryz.ntmps81;go_wp2;go_ret;exact ⟨rfl,rfl⟩
 ·
  rw [decide_eq_false h1,Bool.false_and];go_enter Tryz.func81,Tryz.ntmps81;go_wp2;go_ret;exact ⟨rfl,rfl⟩
theorem AB (w:World)(b:Int):Calls Tryz.prog 97 #[.int .u8 b] w (pW (.bool (uW b)) w):=by
 unfold uW
 by_cases h1:48<=b
 ·
  rw [decide_eq_true h1,Bool.true_and];go_enter Tryz.func97,Tryz.ntmps97;go_wp2;go_ret;exact ⟨rfl,rfl⟩
 ·
  rw [decide_eq_false h1,Bool.false_and];go_enter Tryz.func97,Tryz.ntmps97;go_wp2;go_ret;exact ⟨rfl,rfl⟩
theorem Gb (w:World)(b:Int):Calls Tryz.prog 82 #[.int .u8 b] w (pW (.bool (ig b)) w):=by
 unfold ig;obtain ⟨x,hx⟩:∃ x,lV b=x:=⟨_,rfl⟩;obtain ⟨y,hy⟩:∃ x,uW b=x:=⟨_,rfl⟩;rw [hx,hy];have HX:=af hx;have HY:=af hy;clear hx hy;cases x
 ·
  cases y
  ·
   go_enter Tryz.func82,Tryz.ntmps82;go_wp2_with fail;refine (l9 w b).mono ?_;rintro e _ ⟨rfl,rfl⟩;rw [HX.out];go_wp2_with fail;refine (AB w b).mono ?_;rintro e _ ⟨rfl,rfl⟩;rw [HY.out];go_wp2;go_ret;exact ⟨by simp;rfl,rfl⟩
  ·
   go_enter Tryz.func82,Tryz.ntmps82;go_wp2_with fail;refine (l9 w b).mono ?_;rintro e _ ⟨rfl,rfl⟩;rw [HX.out];go_wp2_with fail;refine (AB w b).mono ?_;rintro e _ ⟨rfl,rfl⟩;rw [HY.out];go_wp2;go_ret;exact ⟨rfl,rfl⟩
 ·
  go_enter Tryz.func82,Tryz.ntmps82;go_wp2_with fail;refine (l9 w b).mono ?_;rintro e _ ⟨rfl,rfl⟩;rw [HX.out];go_wp2;go_ret;exact ⟨by simp,rfl⟩
theorem tX (w:World)(s:ByteArray)(hs:s.size<=4611686018427387904):Calls Tryz.prog 64 #[.string s] w (pW (.bool (nameP s)) w):=by
 obtain ⟨N,hN⟩:∃ N,nameP s=N:=⟨_,rfl⟩;rw [hN];have HN:=af hN;clear hN
 by_cases h0:s.size < 1
 ·
  have e:N=false:=by
   rw [<- HN.out,nameP];have:j5 s 0=0:=dif_neg (by omega);rw [this];rfl
  subst e;have h0i:(s.size:Int) < 1:=by omega
  clear h0;go_enter Tryz.func64,Tryz.ntmps64;go_wp2;go_ret;exact ⟨rfl,rfl⟩
 have hk:0 < s.size:=by omega
 have h0i:¬ (s.size:Int) < 1:=by omega
 by_cases h16:16 < s.size
 ·
  have e:N=false:=by
   rw [<- HN.out,nameP,decide_eq_false (by omega:¬ s.size<=16)];simp
  subst e;have UH:(16:Int) < s.size:=by omega
  clear h0 h16 hk;go_enter Tryz.func64,Tryz.ntmps64;go_wp2;go_ret;exact ⟨rfl,rfl⟩
 have UH:¬ (16:Int) < s.size:=by omega
 have hki:(0:Int) < s.size:=by omega
 have hb0:j5 s 0=((s[0]'hk).toNat:Int):=dif_pos hk;obtain ⟨x,hx⟩:∃ x,lV ((s[0]'hk).toNat:Int)=x:=⟨_,rfl⟩;have HX:=af hx;have HB0:=af hb0;have H16:=af h16;have hse:¬ s=ByteArray.empty:=fun e=>by rw [e] at hk;exact absurd hk (by decide)
 clear hx hb0 h0 h16;cases x with
 | false =>
  have e:N=false:=by rw [<- HN.out,nameP,HB0.out,HX.out];rfl
  subst e;go_enter Tryz.func64,Tryz.ntmps64;go_wp2_with fail;refine (l9 _ _).mono ?_;rintro e _ ⟨rfl,rfl⟩;rw [HX.out];go_wp2;go_ret;exact ⟨rfl,rfl⟩
 | true =>
  go_enter Tryz.func64,Tryz.ntmps64;go_wp2_with fail;refine (l9 _ _).mono ?_;rintro e _ ⟨rfl,rfl⟩;rw [HX.out];go_wp2_with fail
  go_loopw [3] (fun i wl=>∃ j:Nat,j<=s.size/\i=.int .i64 j/\wl=w/\∀ k,k < j->ig (j5 s k)=true) (fun i _=>s.size - (intOf i).toNat)
  case atStart=>exact ⟨0,Nat.zero_le _,rfl,rfl,fun k hk=>by omega⟩
  case round =>
   obtain ⟨j,hj,rfl,rfl,hall⟩:=hrel;have HA:=af hall;clear hall
   by_cases hlt:j < s.size
   ·
    have bX:(j:Int) < s.size:=by omega
    have hbj:j5 s j=((s[j]'hlt).toNat:Int):=dif_pos hlt;obtain ⟨y,hy⟩:∃ y,ig ((s[j]'hlt).toNat:Int)=y:=⟨_,rfl⟩;have HY:=af hy;have HBJ:=af hbj;clear hbj hy;go_wp2_with fail;refine (Gb _ _).mono ?_;rintro e _ ⟨rfl,rfl⟩;rw [HY.out];cases y with
    | false =>
     have e:N=false:=by rw [<- HN.out,nameP,AA hlt (by rw [HBJ.out];exact HY.out)];simp
     subst e;go_wp2;go_ret;exact ⟨rfl,rfl⟩
    | true =>
     go_wp2;go_roundw
     case rel=>exact ⟨j+1,hlt,by go_num,by first | rfl | trivial,fun k hk=>by
      by_cases e:k=j
      ·
       subst e;rw [HBJ.out];exact HY.out
      ·
       exact HA.out k (by omega)⟩
     case measure=>simp [intOf];omega
   ·
    obtain rfl:j=s.size:=by omega
    have bX:¬ ((s.size:Int) < s.size):=by omega
    have e:N=true:=by
     rw [<- HN.out,nameP,Az HA.out,HB0.out,HX.out,decide_eq_true (by have:=H16.out;omega:s.size<=16)];rfl
    subst e;go_wp2;go_ret;exact ⟨rfl,rfl⟩
theorem MC {w w':World}{B:Nat}{ao:Option Addr}{vs:List Value}(hb:Below B w w')(h:∀ ad,ao=some ad->∀ j u,vs[j]?=some u->w.cell? (ad.add j)=some u)(hB:∀ k,k < w.heap.size->k < B:=by intro k hk;exact hk):∀ ad,ao=some ad->∀ j u,vs[j]?=some u->w'.cell? (ad.add j)=some u:=fun ad had j u hu =>
 (hb.cell (hB _ (World.block_lt_of_cell? _ _ (h ad had j u hu)))).trans (h ad had j u hu)
theorem P7 (w:World)(zs:List Int)(ao:Option Addr)(zc:Nat)(hz:zs.length<=17600000000000)(hnone:ao=none->zs.length=0)(hcz:∀ ad,ao=some ad->∀ j u,(zs.map (Value.int .i64))[j]?=some u->w.cell? (ad.add j)=some u) :
  Calls Tryz.prog 4 #[.slice ao zs.length zc] w fun e w'=>∃ g cap,e=.returned (.slice (some ⟨g,0,none⟩) zs.length cap) /\
   w'.ownsRow w.heap.size 3 1 (.slice (some ⟨g,0,none⟩) (zs.length+4) cap) (zs.length+4) ((zs ++ List.replicate 4 (-7770777)).map (Value.int .i64))/\Below w.heap.size w w':=by
 obtain ⟨i0,hi,hz0,hz1,hz2⟩:=info_parts bU;have HZ:=af hz;have su:=af hnone;have Hcz:=af hcz;have hzi:(zs.length:Int)+4<=4611686018427387904:=by omega
 clear hz hnone hcz;go_enter Tryz.func4,Tryz.ntmps4;obtain ⟨w1,hr,hown,hg⟩:=run_make_own (P:=Tryz.prog) w w.heap.size 27 3 i0 _ 1 Tryz.underlying27 hi hz0 hz1 .i64 .i64 (zs.length+4) (by rw [hz2];have:=HZ.out;omega) (by have:=HZ.out;unfold maxLen;omega) (Nat.le_refl _);have hcast:((zs.length+4:Nat):Int)=(zs.length:Int)+4:=by omega
 rw [hcast] at hr;go_wp2_with (at_builtin;refine aU ?_);refine dR ?_;have hm1:aG (fun _=>False) w w1:=(aG.refl (fun _=>False) w).grown hg (fun k hk _=>by simp at hk);have hsz1:=hm1.size;have ZY:∀ ad,ao=some ad->∀ j u,(zs.map (Value.int .i64))[j]?=some u->w1.cell? (ad.add j)=some u:=MC (IC hm1) Hcz.out;refine aS rfl _ _ 27 rfl w.heap.size 3 i0 _ 1 8 Tryz.underlying27 hi hz0 hz1 hz2 rfl (.slice (some ⟨w.heap.size,0,none⟩) 0 (zs.length+4)) 0 [] rfl hown ao zs.length zc (zs.map (Value.int .i64)) rfl (by simp) su.out ZY (mX zs) (by have:=HZ.out;unfold maxLen;omega) (bA (by have:=HZ.out;omega)) hsz1 ?_;intro v2 w2 g1 g20 _ g4;have g2:w1.grownBy w2 (Value.slice (some ⟨w.heap.size,0,none⟩) 0 (zs.length+4)).ownBlock:=⟨g20.os,g20.tape,g20.output,g20.size,g20.block⟩;have hb2:Below w.heap.size w w2:=(hm1.below (Nat.le_refl _) (fun _ _ h=>h)).trans (((aG.refl (fun k=>k=w.heap.size) w1).grown g2 (fun k hk _=>(Option.some.inj hk).symm)).below hsz1 (fun k hk e=>by omega));simp only [Nat.zero_add,List.nil_append] at g1;have hT:∃ v n,v2=v/\n=zs.length/\w2.ownsRow w.heap.size 3 1 v n ((zs ++ List.replicate 0 (-7770777)).map (Value.int .i64)):=⟨_,_,rfl,rfl,by simpa using g1⟩;clear g20 g2 g4 hown hg hr hcast ZY;go_wp2_with fail
 go_loopw [3,4] (fun v i wr=>∃ k:Nat,k<=4/\i=.int .i64 k/\wr.ownsRow w.heap.size 3 1 v (zs.length+k) ((zs ++ List.replicate k (-7770777)).map (Value.int .i64))/\Below w.heap.size w wr) (fun _ i _=>4 - (intOf i).toNat)
 case atStart=>exact ⟨0,by omega,rfl,by simpa using g1,hb2⟩
 case round =>
  clear hT g1 hb2;obtain ⟨k,hk,rfl,hrow,hbw⟩:=hrel;have hsz:=hbw.size;obtain ⟨sv,cv,rfl⟩:=aA hrow
  by_cases hlt:k < 4
  ·
   have hki:(k:Int) < 4:=by omega
   go_wp2_with (at_builtin;refine aU ?_);refine dR ?_;refine aS rfl _ _ 27 rfl w.heap.size 3 i0 _ 1 8 Tryz.underlying27 hi hz0 hz1 hz2 rfl (.slice sv (zs.length+k) cv) (zs.length+k) _ rfl (hrow.alloc (.cells #[.int .i64 (-7770777)] 3)) (some ⟨wr.heap.size,0,none⟩) 1 1 [.int .i64 (-7770777)] rfl rfl (fun h=>by cases h) (bC wr [.int .i64 (-7770777)] 3) (by simp [Value.oneCell']) (by have:=HZ.out;unfold maxLen;omega) (bA (by have:=HZ.out;omega)) (gy hsz _) ?_;intro v5 w5 k1 k20 _ _;have k2:(wr.alloc (.cells #[.int .i64 (-7770777)] 3)).grownBy w5 (Value.slice sv (zs.length+k) cv).ownBlock:=⟨k20.os,k20.tape,k20.output,k20.size,k20.block⟩;have hb5:=hbw.trans (gJ hrow k2 hsz);have k3:w5.ownsRow w.heap.size 3 1 v5 (zs.length+(k+1)) ((zs ++ List.replicate (k+1) (-7770777)).map (Value.int .i64)):=by
    rw [List.replicate_succ',<- List.append_assoc,List.map_append];exact k1
   clear k1 k20 k2 hrow;go_wp2;go_roundw
   case rel=>exact ⟨k+1,by omega,by go_num,k3,hb5⟩
   case measure=>simp [intOf];omega
  ·
   obtain rfl:k=4:=by omega
   obtain ⟨_,hcap,g,hg,rfl,_⟩:=bQ hrow (by simp);have fu:(zs.length:Int)<=cv:=by omega
   go_wp2;go_ret;exact ⟨g,cv,rfl,by simpa using hrow,hbw⟩
def KU (w:World)(g n cap:Nat)(zs:List Int):Prop :=
 n=zs.length/\n+4<=cap/\g < w.heap.size/\(∀ k,k < n->w.cell? ⟨g,k,none⟩=some (.int .i64 (zs[k]?.getD 0)))/\∀ k,n<=k->k < n+4->w.cell? ⟨g,k,none⟩=some (.int .i64 (-7770777))
theorem lW {w:World}{base g cap:Nat}{zs:List Int}(h:w.ownsRow base 3 1 (.slice (some ⟨g,0,none⟩) (zs.length+4) cap) (zs.length+4) ((zs ++ List.replicate 4 (-7770777)).map (Value.int .i64))):KU w g zs.length cap zs:=by
 obtain ⟨_,hcap,g',_,e,hc,_,hg⟩:=bQ h (by simp);cases e
 refine ⟨rfl,hcap,hg,fun k hk=>hc k _ ?_,fun k h1 h2=>hc k _ ?_⟩
 ·
  simp [List.getElem?_append_left,hk]
 ·
  rw [List.getElem?_map,List.getElem?_append_right h1,List.getElem?_replicate,if_pos (by omega)];rfl
theorem KU.has {w:World}{g n cap c:Nat}{zs:List Int}(h:KU w g n cap zs)(hc:n<=c):Has w (.slice (some ⟨g,0,none⟩) n c) (bB zs):=by
 obtain ⟨rfl,_,hg,hcl,_⟩:=h
 by_cases hp:0 < zs.length
 ·
  exact .inr ⟨by simpa using hp,g,0,c,by simp,by simpa using hc,hg,rfl,fun k hk=>by
   have hk':k < zs.length:=by simpa using hk
   rw [iC hk',Nat.zero_add];exact hcl k hk'⟩
 ·
  obtain rfl:zs=[]:=List.eq_nil_of_length_eq_zero (by omega);exact .inl ⟨rfl,_,c,rfl⟩
def UJ (w:World)(l:List Int)(e:Ending)(w':World):Prop:=∃ v,e=.returned v/\w'.ownsRow w.heap.size 3 1 v l.length (bB l)/\Below w.heap.size w w'
theorem gW {o:Col}{c:Nat}(w:World)(ao:Option Addr)(n cap:Nat)(l:List Int)(h:Ints w o c (.slice ao n cap) l)(hn:l.length<=17600000000000):Calls Tryz.prog 18 #[.slice ao n cap] w (UJ w l):=by
 obtain ⟨i0,hi,hz0,hz1,hz2⟩:=info_parts bU;obtain ⟨hnone,hnews⟩:=h.news;obtain rfl:=h.len;have HN:=af hn;have su:=af hnone;have wu:=af hnews;clear hn hnone hnews h;go_enter Tryz.func18,Tryz.ntmps18;go_wp2_with (at_builtin;refine aU ?_);refine dR ?_;refine aS rfl _ _ 27 rfl w.heap.size 3 i0 _ 1 8 Tryz.underlying27 hi hz0 hz1 hz2 rfl (.slice none 0 0) 0 [] rfl (World.ownsRow_nil w w.heap.size 3 1) ao l.length cap (bB l) rfl (by simp) su.out (fun ad had j u hu=>wu.out ad had j u hu) (mX l) (by have:=HN.out;unfold maxLen;omega) (bA (by have:=HN.out;omega)) (Nat.le_refl _) ?_;intro v' w2 g1 g20 g3 g4;have g2:w.grownBy w2 (Value.slice none 0 0).ownBlock:=g20;have hb:Below w.heap.size w w2:=((aG.refl (fun _=>False) w).grown g2 (fun k hk hlt=>by cases hk)).below (Nat.le_refl _) (fun _ _ h=>h);simp only [Nat.zero_add,List.nil_append] at g1;have G1:=af g1;clear g1 g20 g2 g3 g4;obtain ⟨sv,cv,rfl⟩:=aA G1.out;go_wp2;go_ret;exact ⟨_,rfl,by simpa using G1.out,hb⟩
theorem P8 (k:Nat)(r:Int):List.replicate (k+1) r=List.replicate k r ++ [r]:=by rw [List.replicate_succ',]
theorem dD (w:World)(n:Nat)(r:Int)(hn:n<=1000):Calls Tryz.prog 72 #[.int .i64 n,.int .i64 r] w (PE w (List.replicate n r)):=by
 obtain ⟨i0,hi,hz0,hz1,hz2⟩:=info_parts bU;have hni:(n:Int)<=1000:=by omega
 go_enter Tryz.func72,Tryz.ntmps72;go_wp2_with fail
 go_loopw [5,6] (fun v i wr=>∃ j:Nat,j<=n/\i=.int .i64 j/\wr.ownsRow w.heap.size 3 1 v j (bB (List.replicate j r))/\Below w.heap.size w wr) (fun _ i _=>n - (intOf i).toNat)
 case atStart=>exact ⟨0,Nat.zero_le _,rfl,by simpa using World.ownsRow_nil w w.heap.size 3 1,Below.refl _ _⟩
 case round =>
  obtain ⟨j,hj,rfl,ho,hb⟩:=hrel;have hs:=hb.size;obtain ⟨sv,cv,rfl⟩:=aA ho
  by_cases hjn:j < n
  ·
   have Uw:(j:Int) < n:=by omega
   go_wp2_with (at_builtin;refine aU ?_);refine dR ?_;refine aS rfl _ _ 27 rfl w.heap.size 3 i0 _ 1 8 Tryz.underlying27 hi hz0 hz1 hz2 rfl (.slice sv j cv) j _ rfl (ho.alloc (.cells #[.int .i64 r] 3)) (some ⟨wr.heap.size,0,none⟩) 1 1 [.int .i64 r] rfl rfl (fun h=>by cases h) (bC wr [.int .i64 r] 3) (by simp [Value.oneCell']) (by unfold maxLen;omega) (bA (by omega)) (gy hs _) ?_;intro v5 w5 k1 k20 _ _;have k2:(wr.alloc (.cells #[.int .i64 r] 3)).grownBy w5 (Value.slice sv j cv).ownBlock:=k20;have hb5:=hb.trans (gJ ho k2 hs);have k3:w5.ownsRow w.heap.size 3 1 v5 (j+1) (bB (List.replicate (j+1) r)):=by
    rw [P8];simpa using k1
   clear k1 k20 k2 ho hb;go_wp2;go_roundw
   case rel=>exact ⟨j+1,by omega,by go_num,k3,hb5⟩
   case measure=>simp [intOf];omega
  ·
   obtain rfl:j=n:=by omega
   have HO:=af ho;clear ho;go_wp2;go_ret;exact ⟨_,rfl,by rw [List.length_replicate];exact HO.out,hb⟩
theorem sK {o:Col}{c:Nat}(w:World)(ao:Option Addr)(n cap:Nat)(l:List Int)(m:Int)(h:Ints w o c (.slice ao n cap) l):Calls Tryz.prog 88 #[.slice ao n cap,.int .i64 m] w fun e w'=>e=.returned (.bool (decide (bP l m)))/\w=w':=by
 obtain rfl:=h.len
 by_cases hl:l.length=1
 ·
  obtain ⟨x,rfl⟩:∃ x,l=[x]:=by
   match l,hl with
   | [x],_=>exact ⟨x,rfl⟩
  obtain ⟨b,off,rfl,-,hcap,-,-,hc⟩:=h.at (by simp);have c0:=hc 0 (by simp);simp at c0;have hc1:(1:Int)<=cap:=by simp at hcap;omega
  clear hc h
  by_cases h1:1<=x
  ·
   by_cases h2:x<=m
   ·
    have e:decide (bP [x] m)=true:=decide_eq_true (by simp [bP,hd];omega);rw [e];clear e;go_enter Tryz.func88,Tryz.ntmps88;go_wp2;go_ret;exact ⟨rfl,rfl⟩
   ·
    have e:decide (bP [x] m)=false:=decide_eq_false (by simp [bP,hd];omega);rw [e];clear e;go_enter Tryz.func88,Tryz.ntmps88;go_wp2;go_ret;exact ⟨rfl,rfl⟩
  ·
   have e:decide (bP [x] m)=false:=decide_eq_false (by simp [bP,hd];omega);rw [e];clear e;go_enter Tryz.func88,Tryz.ntmps88;go_wp2;go_ret;exact ⟨rfl,rfl⟩
 ·
  have e:decide (bP l m)=false:=decide_eq_false (fun h=>hl h.1);have E9:¬ (l.length:Int)=1:=by omega
  rw [e];clear e h;go_enter Tryz.func88,Tryz.ntmps88;go_wp2;go_ret;exact ⟨rfl,rfl⟩
theorem Gc {o:Col}{c:Nat}(w:World)(ao:Option Addr)(n cap:Nat)(l:List Int)(h:Ints w o c (.slice ao n cap) l):Calls Tryz.prog 89 #[.slice ao n cap] w (Quiet (.bool (decide (aZ l))) w):=by
 obtain rfl:=h.len
 by_cases hl:l.length=2
 ·
  obtain ⟨x,y,rfl⟩:∃ x y,l=[x,y]:=by
   match l,hl with
   | [x,y],_=>exact ⟨x,y,rfl⟩
  obtain ⟨b,off,rfl,-,hcap,-,-,hc⟩:=h.at (by simp);have c0:=hc 0 (by simp);have c1:=hc 1 (by simp);simp at c0 c1;have hc1:(2:Int)<=cap:=by simp at hcap;omega
  clear hc h
  rcases gK x y with hh | ⟨⟨g1,g2⟩,hh⟩ | ⟨⟨g1,g2⟩,⟨g3,g4⟩,g5,g6⟩ | ⟨⟨g1,g2⟩,⟨g3,g4⟩,g5,g6⟩
  ·
   have e:decide (aZ [x,y])=false:=decide_eq_false (by simp [aZ,hd,hd1];omega);rw [e];clear e
   by_cases h1:x < 1
   ·
    go_enter Tryz.func89,Tryz.ntmps89;go_wp2;go_ret;exact ⟨rfl,0,rfl⟩
   ·
    have h2:16 < x:=by omega
    go_enter Tryz.func89,Tryz.ntmps89;go_wp2;go_ret;exact ⟨rfl,0,rfl⟩
  ·
   have e:decide (aZ [x,y])=false:=decide_eq_false (by simp [aZ,hd,hd1];omega);rw [e];clear e
   by_cases h1:y < 1
   ·
    go_enter Tryz.func89,Tryz.ntmps89;go_wp2;go_ret;exact ⟨rfl,0,rfl⟩
   ·
    have h2:64 < y:=by omega
    go_enter Tryz.func89,Tryz.ntmps89;go_wp2;go_ret;exact ⟨rfl,0,rfl⟩
  ·
   have e:decide (aZ [x,y])=true:=decide_eq_true (by simp [aZ,hd,hd1];omega);rw [e];clear e;have hw:wrap64 (x*y)=x*y:=IntWalk.wrap64_in _ (by omega);go_enter Tryz.func89,Tryz.ntmps89;go_wp2;go_quiet (fail);go_wp2;go_ret;exact ⟨rfl,_,rfl⟩
  ·
   have e:decide (aZ [x,y])=false:=decide_eq_false (by simp [aZ,hd,hd1];omega);rw [e];clear e;have g7:¬ x*y<=64:=by omega
   have hw:wrap64 (x*y)=x*y:=IntWalk.wrap64_in _ (by omega);go_enter Tryz.func89,Tryz.ntmps89;go_wp2;go_quiet (fail);go_wp2;go_ret;refine ⟨?_,_,rfl⟩;show Ending.returned (.bool (decide (x*y<=64)))=_
   rw [decide_eq_false (show ¬ x*y<=64 by omega)]
 ·
  have e:decide (aZ l)=false:=decide_eq_false (fun h=>hl h.1);have E9:¬ (l.length:Int)=2:=by omega
  rw [e];clear e h;go_enter Tryz.func89,Tryz.ntmps89;go_wp2;go_ret;exact ⟨rfl,0,rfl⟩
theorem UK {o:Col}{c:Nat}(w:World)(ao:Option Addr)(n cap:Nat)(l:List Int)(h:Ints w o c (.slice ao n cap) l):Calls Tryz.prog 71 #[.int .u8 2,.slice ao n cap] w (Quiet (.bool (decide (aC 2 l))) w):=by
 have e:aC 2 l↔bP l 64:=by simp [aC]
 rw [show decide (aC 2 l)=decide (bP l 64) from decide_eq_decide.2 e];have H:=af h;clear h e;go_enter Tryz.func71,Tryz.ntmps71;go_wp2_with fail;refine (sK _ _ _ _ l 64 H.out).mono ?_;rintro e w' ⟨rfl,rfl⟩;go_wp2;go_ret;exact ⟨rfl,0,rfl⟩
theorem UL {o:Col}{c:Nat}(w:World)(ao:Option Addr)(n cap:Nat)(l:List Int)(h:Ints w o c (.slice ao n cap) l):Calls Tryz.prog 71 #[.int .u8 3,.slice ao n cap] w (Quiet (.bool (decide (aC 3 l))) w):=by
 have e:aC 3 l↔bP l 64:=by simp [aC]
 rw [show decide (aC 3 l)=decide (bP l 64) from decide_eq_decide.2 e];have H:=af h;clear h e;go_enter Tryz.func71,Tryz.ntmps71;go_wp2_with fail;refine (sK _ _ _ _ l 64 H.out).mono ?_;rintro e w' ⟨rfl,rfl⟩;go_wp2;go_ret;exact ⟨rfl,0,rfl⟩
theorem P9 {o:Col}{c:Nat}(w:World)(ao:Option Addr)(n cap:Nat)(l:List Int)(h:Ints w o c (.slice ao n cap) l):Calls Tryz.prog 71 #[.int .u8 11,.slice ao n cap] w (Quiet (.bool (decide (aC 11 l))) w):=by
 have e:aC 11 l↔bP l 64:=by simp [aC]
 rw [show decide (aC 11 l)=decide (bP l 64) from decide_eq_decide.2 e];have H:=af h;clear h e;go_enter Tryz.func71,Tryz.ntmps71;go_wp2_with fail;refine (sK _ _ _ _ l 64 H.out).mono ?_;rintro e w' ⟨rfl,rfl⟩;go_wp2;go_ret;exact ⟨rfl,0,rfl⟩
theorem UM {o:Col}{c:Nat}(w:World)(ao:Option Addr)(n cap:Nat)(l:List Int)(h:Ints w o c (.slice ao n cap) l):Calls Tryz.prog 71 #[.int .u8 6,.slice ao n cap] w (Quiet (.bool (decide (aC 6 l))) w):=by
 have e:aC 6 l↔bP l 16:=by simp [aC]
 rw [show decide (aC 6 l)=decide (bP l 16) from decide_eq_decide.2 e];have H:=af h;clear h e;go_enter Tryz.func71,Tryz.ntmps71;go_wp2_with fail;refine (sK _ _ _ _ l 16 H.out).mono ?_;rintro e w' ⟨rfl,rfl⟩;go_wp2;go_ret;exact ⟨rfl,0,rfl⟩
theorem UN {o:Col}{c:Nat}(w:World)(ao:Option Addr)(n cap:Nat)(l:List Int)(h:Ints w o c (.slice ao n cap) l):Calls Tryz.prog 71 #[.int .u8 9,.slice ao n cap] w (Quiet (.bool (decide (aC 9 l))) w):=by
 have e:aC 9 l↔bP l 16:=by simp [aC]
 rw [show decide (aC 9 l)=decide (bP l 16) from decide_eq_decide.2 e];have H:=af h;clear h e;go_enter Tryz.func71,Tryz.ntmps71;go_wp2_with fail;refine (sK _ _ _ _ l 16 H.out).mono ?_;rintro e w' ⟨rfl,rfl⟩;go_wp2;go_ret;exact ⟨rfl,0,rfl⟩
theorem UO {o:Col}{c:Nat}(w:World)(ao:Option Addr)(n cap:Nat)(l:List Int)(h:Ints w o c (.slice ao n cap) l):Calls Tryz.prog 71 #[.int .u8 4,.slice ao n cap] w (Quiet (.bool (decide (aC 4 l))) w):=by
 have e:aC 4 l↔aZ l:=by simp [aC]
 rw [show decide (aC 4 l)=decide (aZ l) from decide_eq_decide.2 e];have H:=af h;clear h e;go_enter Tryz.func71,Tryz.ntmps71;go_wp2_with fail;refine (Gc _ _ _ _ l H.out).mono ?_;rintro e w' ⟨rfl,m,rfl⟩;go_wp2;go_ret;exact ⟨rfl,m,rfl⟩
theorem UQ {o:Col}{c:Nat}(w:World)(ao:Option Addr)(n cap:Nat)(l:List Int)(h:Ints w o c (.slice ao n cap) l):Calls Tryz.prog 71 #[.int .u8 5,.slice ao n cap] w (Quiet (.bool (decide (aC 5 l))) w):=by
 have e:aC 5 l↔aZ l:=by simp [aC]
 rw [show decide (aC 5 l)=decide (aZ l) from decide_eq_decide.2 e];have H:=af h;clear h e;go_enter Tryz.func71,Tryz.ntmps71;go_wp2_with fail;refine (Gc _ _ _ _ l H.out).mono ?_;rintro e w' ⟨rfl,m,rfl⟩;go_wp2;go_ret;exact ⟨rfl,m,rfl⟩
theorem UR {o:Col}{c:Nat}(w:World)(ao:Option Addr)(n cap:Nat)(l:List Int)(h:Ints w o c (.slice ao n cap) l):Calls Tryz.prog 71 #[.int .u8 7,.slice ao n cap] w (Quiet (.bool (decide (aC 7 l))) w):=by
 have e:aC 7 l↔l.length=0:=by simp [aC]
 rw [show decide (aC 7 l)=decide (l.length=0) from decide_eq_decide.2 e];obtain rfl:=h.len;clear h e;generalize l.length=L at *
 by_cases hl:L=0
 ·
  subst hl;rw [decide_eq_true rfl];go_enter Tryz.func71,Tryz.ntmps71;go_wp2;go_ret;exact ⟨rfl,0,rfl⟩
 ·
  have hb:decide (L=0)=false:=decide_eq_false hl;have hb1:((L:Int) == 0)=false:=by simp;omega
  rw [hb];go_enter Tryz.func71,Tryz.ntmps71;go_wp2;go_ret;refine ⟨?_,0,rfl⟩
  first
   | rfl
   | (show Ending.returned (.bool (decide (L=0)))=_;rw [hb])
   | (show Ending.returned (.bool (L == 0))=_;simp [hl])
   | (show Ending.returned (.bool ((L:Int) == 0))=_;rw [hb1])
   | (show Ending.returned (.bool (decide ((L:Int)=0)))=_;rw [decide_eq_false (by omega)])
theorem UU {o:Col}{c:Nat}(w:World)(ao:Option Addr)(n cap:Nat)(l:List Int)(h:Ints w o c (.slice ao n cap) l):Calls Tryz.prog 71 #[.int .u8 8,.slice ao n cap] w (Quiet (.bool (decide (aC 8 l))) w):=by
 have e:aC 8 l↔l.length=0:=by simp [aC]
 rw [show decide (aC 8 l)=decide (l.length=0) from decide_eq_decide.2 e];obtain rfl:=h.len;clear h e;generalize l.length=L at *
 by_cases hl:L=0
 ·
  subst hl;rw [decide_eq_true rfl];go_enter Tryz.func71,Tryz.ntmps71;go_wp2;go_ret;exact ⟨rfl,0,rfl⟩
 ·
  have hb:decide (L=0)=false:=decide_eq_false hl;have hb1:((L:Int) == 0)=false:=by simp;omega
  rw [hb];go_enter Tryz.func71,Tryz.ntmps71;go_wp2;go_ret;refine ⟨?_,0,rfl⟩
  first
   | rfl
   | (show Ending.returned (.bool (decide (L=0)))=_;rw [hb])
   | (show Ending.returned (.bool (L == 0))=_;simp [hl])
   | (show Ending.returned (.bool ((L:Int) == 0))=_;rw [hb1])
   | (show Ending.returned (.bool (decide ((L:Int)=0)))=_;rw [decide_eq_false (by omega)])
theorem Qa {o:Col}{c:Nat}(w:World)(ao:Option Addr)(n cap:Nat)(l:List Int)(h:Ints w o c (.slice ao n cap) l):Calls Tryz.prog 71 #[.int .u8 10,.slice ao n cap] w (Quiet (.bool (decide (aC 10 l))) w):=by
 have e:aC 10 l↔l.length=2:=by simp [aC]
 rw [show decide (aC 10 l)=decide (l.length=2) from decide_eq_decide.2 e];obtain rfl:=h.len;clear h e;generalize l.length=L at *
 by_cases hl:L=2
 ·
  subst hl;rw [decide_eq_true rfl];go_enter Tryz.func71,Tryz.ntmps71;go_wp2;go_ret;exact ⟨rfl,0,rfl⟩
 ·
  have hb:decide (L=2)=false:=decide_eq_false hl;have hb1:((L:Int) == 2)=false:=by simp;omega
  rw [hb];go_enter Tryz.func71,Tryz.ntmps71;go_wp2;go_ret;refine ⟨?_,0,rfl⟩
  first
   | rfl
   | (show Ending.returned (.bool (decide (L=2)))=_;rw [hb])
   | (show Ending.returned (.bool (L == 2))=_;simp [hl])
   | (show Ending.returned (.bool ((L:Int) == 2))=_;rw [hb1])
   | (show Ending.returned (.bool (decide ((L:Int)=2)))=_;rw [decide_eq_false (by omega)])
theorem UW {o:Col}{c:Nat}(w:World)(ao:Option Addr)(n cap:Nat)(l:List Int)(h:Ints w o c (.slice ao n cap) l):Calls Tryz.prog 71 #[.int .u8 1,.slice ao n cap] w (Quiet (.bool (decide (aC 1 l))) w):=by
 have e:aC 1 l↔1<=l.length/\l.length<=16:=by simp [aC]
 rw [show decide (aC 1 l)=decide (1<=l.length/\l.length<=16) from decide_eq_decide.2 e];obtain rfl:=h.len;clear h e
 by_cases h1:1<=l.length
 ·
  have ZK:(1:Int)<=l.length:=by omega
  by_cases h2:l.length<=16
  ·
   have TH:(l.length:Int)<=16:=by omega
   rw [decide_eq_true ⟨h1,h2⟩];go_enter Tryz.func71,Tryz.ntmps71;go_wp2;go_ret;exact ⟨rfl,0,rfl⟩
  ·
   have TH:¬ (l.length:Int)<=16:=by omega
   rw [decide_eq_false (fun h=>h2 h.2)];go_enter Tryz.func71,Tryz.ntmps71;go_wp2;go_ret;exact ⟨rfl,0,rfl⟩
 ·
  have ZK:¬ (1:Int)<=l.length:=by omega
  rw [decide_eq_false (fun h=>h1 h.1)];go_enter Tryz.func71,Tryz.ntmps71;go_wp2;go_ret;exact ⟨rfl,0,rfl⟩
theorem iB {o:Col}{c:Nat}(w:World)(t:Int)(ht:jy t)(ao:Option Addr)(n cap:Nat)(l:List Int)(h:Ints w o c (.slice ao n cap) l):Calls Tryz.prog 71 #[.int .u8 t,.slice ao n cap] w (Quiet (.bool (decide (aC t l))) w):=by
 rcases ht with rfl | rfl | rfl | rfl | rfl | rfl | rfl | rfl | rfl | rfl | rfl
 ·
  exact UW w ao n cap l h
 ·
  exact UK w ao n cap l h
 ·
  exact UL w ao n cap l h
 ·
  exact UO w ao n cap l h
 ·
  exact UQ w ao n cap l h
 ·
  exact UM w ao n cap l h
 ·
  exact UR w ao n cap l h
 ·
  exact UU w ao n cap l h
 ·
  exact UN w ao n cap l h
 ·
  exact Qa w ao n cap l h
 ·
  exact P9 w ao n cap l h
theorem UX (w:World)(t:Int)(v:Value)(h:t < 1\/11 < t):Calls Tryz.prog 45 #[.int .u8 t,v] w (fP w 60):=by
 by_cases h1:t < 1
 ·
  go_enter Tryz.func45,Tryz.ntmps45;go_wp2;go_ret3;exact ⟨rfl,Below.refl _ _⟩
 ·
  have h2:11 < t:=by omega
  go_enter Tryz.func45,Tryz.ntmps45;go_wp2;go_ret3;exact ⟨rfl,Below.refl _ _⟩
theorem UY {o:Col}{c:Nat}(w:World)(t:Int)(ht:jy t)(ao:Option Addr)(n cap:Nat)(l:List Int)(hg:¬ aC t l)(h:Ints w o c (.slice ao n cap) l):Calls Tryz.prog 45 #[.int .u8 t,.slice ao n cap] w (fP w 61):=by
 have h1:1<=t:=by unfold jy at ht;omega
 have h2:t<=11:=by unfold jy at ht;omega
 have hgd:=iB w t ht ao n cap l h;rw [decide_eq_false hg] at hgd;clear ht hg h;go_enter Tryz.func45,Tryz.ntmps45;go_wp2_with fail;refine hgd.mono ?_;rintro e w' ⟨rfl,m,rfl⟩;clear hgd;go_wp2;go_ret3;exact ⟨rfl,dL (Below.refl _ _) m⟩
theorem Z0 {o:Col}{c:Nat}(w:World)(ao:Option Addr)(n cap:Nat)(l:List Int)(hg:aC 1 l)(h:Ints w o c (.slice ao n cap) l):Calls Tryz.prog 45 #[.int .u8 1,.slice ao n cap] w (jm w 1 l):=by
 have hgd:=iB w 1 (by simp [jy]) _ _ _ _ h;rw [decide_eq_true hg] at hgd;clear hg h;go_enter Tryz.func45,Tryz.ntmps45;go_wp2_with fail;refine hgd.mono ?_;rintro e w0 ⟨rfl,m,rfl⟩;clear hgd;go_wp2_with fail;refine (dD _ 1 1 (by omega)).mono ?_;rintro e w1 ⟨v1,rfl,ho1,hb1⟩;have zQ:=af ho1;clear ho1;go_wp2_with fail;refine (dD _ 1 1 (by omega)).mono ?_;rintro e w2 ⟨v2,rfl,ho2,hb2⟩;have BM:=af ho2;clear ho2;go_wp2;go_ret3;obtain ⟨q1,q2,q3⟩:=iP (dL (Below.refl _ w) m) zQ.out hb1 (Below.refl _ _) BM.out hb2;exact ⟨v1,v2,rfl,q1,q2,q3⟩
theorem Z4 {o:Col}{c:Nat}(w:World)(ao:Option Addr)(n cap:Nat)(l:List Int)(hg:aC 8 l)(h:Ints w o c (.slice ao n cap) l):Calls Tryz.prog 45 #[.int .u8 8,.slice ao n cap] w (jm w 8 l):=by
 have hgd:=iB w 8 (by simp [jy]) _ _ _ _ h;rw [decide_eq_true hg] at hgd;clear hg h;go_enter Tryz.func45,Tryz.ntmps45;go_wp2_with fail;refine hgd.mono ?_;rintro e w0 ⟨rfl,m,rfl⟩;clear hgd;go_wp2_with fail;refine (dD _ 1 1 (by omega)).mono ?_;rintro e w1 ⟨v1,rfl,ho1,hb1⟩;have zQ:=af ho1;clear ho1;go_wp2_with fail;refine (dD _ 1 1 (by omega)).mono ?_;rintro e w2 ⟨v2,rfl,ho2,hb2⟩;have BM:=af ho2;clear ho2;go_wp2;go_ret3;obtain ⟨q1,q2,q3⟩:=iP (dL (Below.refl _ w) m) zQ.out hb1 (Below.refl _ _) BM.out hb2;exact ⟨v1,v2,rfl,q1,q2,q3⟩
theorem Z5 {o:Col}{c:Nat}(w:World)(ao:Option Addr)(n cap:Nat)(l:List Int)(hg:aC 7 l)(h:Ints w o c (.slice ao n cap) l):Calls Tryz.prog 45 #[.int .u8 7,.slice ao n cap] w (jm w 7 l):=by
 have hgd:=iB w 7 (by simp [jy]) _ _ _ _ h;rw [decide_eq_true hg] at hgd;clear hg h;go_enter Tryz.func45,Tryz.ntmps45;go_wp2_with fail;refine hgd.mono ?_;rintro e w0 ⟨rfl,m,rfl⟩;clear hgd;go_wp2_with fail;refine (dD _ 2 1 (by omega)).mono ?_;rintro e w1 ⟨v1,rfl,ho1,hb1⟩;have zQ:=af ho1;clear ho1;go_wp2_with fail;refine (dD _ 1 1 (by omega)).mono ?_;rintro e w2 ⟨v2,rfl,ho2,hb2⟩;have BM:=af ho2;clear ho2;go_wp2;go_ret3;obtain ⟨q1,q2,q3⟩:=iP (dL (Below.refl _ w) m) zQ.out hb1 (Below.refl _ _) BM.out hb2;exact ⟨v1,v2,rfl,q1,q2,q3⟩
theorem Z6 {o:Col}{c:Nat}(w:World)(ao:Option Addr)(n cap:Nat)(l:List Int)(hg:aC 3 l)(h:Ints w o c (.slice ao n cap) l):Calls Tryz.prog 45 #[.int .u8 3,.slice ao n cap] w (jm w 3 l):=by
 have hp:bP l 64:=by simpa [aC] using hg
 obtain ⟨hl,hx1,hx2⟩:=hp;obtain ⟨x,rfl⟩:∃ x,l=[x]:=by
  match l,hl with
  | [x],_=>exact ⟨x,rfl⟩
 simp only [hd,List.getElem?_cons_zero,Option.getD_some] at hx1 hx2;obtain rfl:=h.len;obtain ⟨b,off,rfl,-,hcap,-,-,hc⟩:=h.at (by simp);have c0:=hc 0 (by simp);simp at c0;have fu:(1:Int)<=cap:=by simp at hcap;omega
 clear hc;have hgd:=iB w 3 (by simp [jy]) _ _ _ _ h;rw [decide_eq_true hg] at hgd;clear hg h;go_enter Tryz.func45,Tryz.ntmps45;go_wp2_with fail;refine hgd.mono ?_;rintro e w0 ⟨rfl,m,rfl⟩;clear hgd;go_wp2_with fail;refine (dD _ 1 x (by omega)).mono ?_;rintro e w1 ⟨v1,rfl,ho1,hb1⟩;have zQ:=af ho1;clear ho1;go_wp2_with fail;refine (dD _ 1 1 (by omega)).mono ?_;rintro e w2 ⟨v2,rfl,ho2,hb2⟩;have BM:=af ho2;clear ho2;go_wp2;go_ret3;obtain ⟨q1,q2,q3⟩:=iP (dL (Below.refl _ w) m) zQ.out hb1 (Below.refl _ _) BM.out hb2;exact ⟨v1,v2,rfl,q1,q2,q3⟩
theorem XV {o:Col}{c:Nat}(w:World)(ao:Option Addr)(n cap:Nat)(l:List Int)(hg:aC 11 l)(h:Ints w o c (.slice ao n cap) l):Calls Tryz.prog 45 #[.int .u8 11,.slice ao n cap] w (jm w 11 l):=by
 have hp:bP l 64:=by simpa [aC] using hg
 obtain ⟨hl,hx1,hx2⟩:=hp;obtain ⟨x,rfl⟩:∃ x,l=[x]:=by
  match l,hl with
  | [x],_=>exact ⟨x,rfl⟩
 simp only [hd,List.getElem?_cons_zero,Option.getD_some] at hx1 hx2;obtain rfl:=h.len;obtain ⟨b,off,rfl,-,hcap,-,-,hc⟩:=h.at (by simp);have c0:=hc 0 (by simp);simp at c0;have fu:(1:Int)<=cap:=by simp at hcap;omega
 clear hc;have hgd:=iB w 11 (by simp [jy]) _ _ _ _ h;rw [decide_eq_true hg] at hgd;clear hg h;go_enter Tryz.func45,Tryz.ntmps45;go_wp2_with fail;refine hgd.mono ?_;rintro e w0 ⟨rfl,m,rfl⟩;clear hgd;go_wp2_with fail;refine (dD _ 1 x (by omega)).mono ?_;rintro e w1 ⟨v1,rfl,ho1,hb1⟩;have zQ:=af ho1;clear ho1;go_wp2;go_ret3;obtain ⟨q1,q3⟩:=zO (dL (Below.refl _ w) m) zQ.out hb1;exact ⟨v1,.slice none 0 0,rfl,q1,World.ownsRow_nil _ _ _ _,q3⟩
theorem XW {o:Col}{c:Nat}(w:World)(ao:Option Addr)(n cap:Nat)(l:List Int)(hg:aC 10 l)(h:Ints w o c (.slice ao n cap) l):Calls Tryz.prog 45 #[.int .u8 10,.slice ao n cap] w (jm w 10 l):=by
 have hgd:=iB w 10 (by simp [jy]) _ _ _ _ h;rw [decide_eq_true hg] at hgd;clear hg h;go_enter Tryz.func45,Tryz.ntmps45;go_wp2_with fail;refine hgd.mono ?_;rintro e w0 ⟨rfl,m,rfl⟩;clear hgd;go_wp2_with fail;refine (dD _ 1 1 (by omega)).mono ?_;rintro e w1 ⟨v1,rfl,ho1,hb1⟩;have zQ:=af ho1;clear ho1;go_wp2;go_ret3;obtain ⟨q1,q3⟩:=zO (dL (Below.refl _ w) m) zQ.out hb1;exact ⟨.slice none 0 0,v1,rfl,World.ownsRow_nil _ _ _ _,q1,q3⟩
theorem Z7 {o:Col}{c:Nat}(w:World)(ao:Option Addr)(n cap:Nat)(l:List Int)(hg:aC 6 l)(h:Ints w o c (.slice ao n cap) l):Calls Tryz.prog 45 #[.int .u8 6,.slice ao n cap] w (jm w 6 l):=by
 have hp:bP l 16:=by simpa [aC] using hg
 obtain ⟨hl,hx1,hx2⟩:=hp;obtain ⟨x,rfl⟩:∃ x,l=[x]:=by
  match l,hl with
  | [x],_=>exact ⟨x,rfl⟩
 simp only [hd,List.getElem?_cons_zero,Option.getD_some] at hx1 hx2;obtain rfl:=h.len;obtain ⟨b,off,rfl,-,hcap,-,-,hc⟩:=h.at (by simp);have c0:=hc 0 (by simp);simp at c0;have fu:(1:Int)<=cap:=by simp at hcap;omega
 clear hc;have hgd:=iB w 6 (by simp [jy]) _ _ _ _ h;rw [decide_eq_true hg] at hgd;clear hg h;go_enter Tryz.func45,Tryz.ntmps45;go_wp2_with fail;refine hgd.mono ?_;rintro e w0 ⟨rfl,m,rfl⟩;clear hgd;obtain ⟨u,rfl⟩:∃ u:Nat,x=u:=⟨x.toNat,by omega⟩;go_wp2_with fail;refine (dD _ u 1 (by omega)).mono ?_;rintro e w1 ⟨v1,rfl,ho1,hb1⟩;have zQ:=af ho1;clear ho1;go_wp2_with fail;refine (dD _ 1 1 (by omega)).mono ?_;rintro e w2 ⟨v2,rfl,ho2,hb2⟩;have BM:=af ho2;clear ho2;go_wp2;go_ret3;obtain ⟨q1,q2,q3⟩:=iP (dL (Below.refl _ w) m) zQ.out hb1 (Below.refl _ _) BM.out hb2;exact ⟨v1,v2,rfl,q1,q2,q3⟩
theorem Z8 {o:Col}{c:Nat}(w:World)(ao:Option Addr)(n cap:Nat)(l:List Int)(hg:aC 2 l)(h:Ints w o c (.slice ao n cap) l):Calls Tryz.prog 45 #[.int .u8 2,.slice ao n cap] w (jm w 2 l):=by
 have hp:bP l 64:=by simpa [aC] using hg
 obtain ⟨hl,hx1,hx2⟩:=hp;obtain ⟨x,rfl⟩:∃ x,l=[x]:=by
  match l,hl with
  | [x],_=>exact ⟨x,rfl⟩
 simp only [hd,List.getElem?_cons_zero,Option.getD_some] at hx1 hx2;obtain rfl:=h.len;obtain ⟨b,off,rfl,-,hcap,-,-,hc⟩:=h.at (by simp);have c0:=hc 0 (by simp);simp at c0;have fu:(1:Int)<=cap:=by simp at hcap;omega
 clear hc;have hgd:=iB w 2 (by simp [jy]) _ _ _ _ h;rw [decide_eq_true hg] at hgd;clear hg h;go_enter Tryz.func45,Tryz.ntmps45;go_wp2_with fail;refine hgd.mono ?_;rintro e w0 ⟨rfl,m,rfl⟩;clear hgd;go_wp2_with fail;refine cZ (fun w'=>w'.cell? ⟨b,off,none⟩=some (.int .i64 x)) [1,2,3] [0] 5 (by kernel_rfl) (by kernel_rfl) rfl c0 ?_;intro Q' hQ';simp only [pk];refine aD ?_;refine ax ?_;refine aB (i:=0) (by kernel_rfl) ?_;simp only [pk];go_wp2_with fail;refine (dD _ 1 1 (by omega)).mono ?_;rintro e w1 ⟨v1,rfl,ho1,hb1⟩;have zQ:=af ho1;clear ho1;have hb1:Below w.heap.size w w1:=j4 (n:=m+1) hb1;go_wp2;refine ⟨fun _ hS=>cell_later hb1 c0,?_⟩;refine aJ (ks:=[4,5,6,7]) (fun _ _ hx h=>hx.cell h) (by kernel_rfl) ?_;simp only [pk];go_wp2_with fail;refine (dD _ 1 x (by omega)).mono ?_;rintro e w2 ⟨v2,rfl,ho2,hb2⟩;have BM:=af ho2;clear ho2;go_wp2;go_ret3;obtain ⟨q1,q2,q3⟩:=iP (Below.refl _ w) zQ.out hb1 (Below.refl _ _) BM.out hb2;exact ⟨v1,v2,rfl,q1,q2,q3⟩
theorem Z9 {o:Col}{c:Nat}(w:World)(ao:Option Addr)(n cap:Nat)(l:List Int)(hg:aC 9 l)(h:Ints w o c (.slice ao n cap) l):Calls Tryz.prog 45 #[.int .u8 9,.slice ao n cap] w (jm w 9 l):=by
 have hp:bP l 16:=by simpa [aC] using hg
 obtain ⟨hl,hx1,hx2⟩:=hp;obtain ⟨x,rfl⟩:∃ x,l=[x]:=by
  match l,hl with
  | [x],_=>exact ⟨x,rfl⟩
 simp only [hd,List.getElem?_cons_zero,Option.getD_some] at hx1 hx2;obtain rfl:=h.len;obtain ⟨b,off,rfl,-,hcap,-,-,hc⟩:=h.at (by simp);have c0:=hc 0 (by simp);simp at c0;have fu:(1:Int)<=cap:=by simp at hcap;omega
 clear hc;have hgd:=iB w 9 (by simp [jy]) _ _ _ _ h;rw [decide_eq_true hg] at hgd;clear hg h;go_enter Tryz.func45,Tryz.ntmps45;go_wp2_with fail;refine hgd.mono ?_;rintro e w0 ⟨rfl,m,rfl⟩;clear hgd;obtain ⟨u,hu⟩:∃ u:Nat,x=u:=⟨x.toNat,by omega⟩;subst hu;go_wp2_with fail;refine cZ (fun w'=>w'.cell? ⟨b,off,none⟩=some (.int .i64 u)) [1,2,3] [0] 5 (by kernel_rfl) (by kernel_rfl) rfl c0 ?_;intro Q' hQ';simp only [pk];refine aD ?_;refine ax ?_;refine aB (i:=0) (by kernel_rfl) ?_;simp only [pk];go_wp2_with fail;refine (dD _ 1 1 (by omega)).mono ?_;rintro e w1 ⟨v1,rfl,ho1,hb1⟩;have zQ:=af ho1;clear ho1;have hb1:Below w.heap.size w w1:=j4 (n:=m+1) hb1;go_wp2;refine ⟨fun _ hS=>cell_later hb1 c0,?_⟩;refine aJ (ks:=[4,5,6,7]) (fun _ _ hx h=>hx.cell h) (by kernel_rfl) ?_;simp only [pk];go_wp2_with fail;refine (dD _ u 1 (by omega)).mono ?_;rintro e w2 ⟨v2,rfl,ho2,hb2⟩;have BM:=af ho2;clear ho2;go_wp2;go_ret3;obtain ⟨q1,q2,q3⟩:=iP (Below.refl _ w) zQ.out hb1 (Below.refl _ _) BM.out hb2;exact ⟨v1,v2,rfl,q1,q2,q3⟩
theorem aac {o:Col}{c:Nat}(w:World)(ao:Option Addr)(n cap:Nat)(l:List Int)(hg:aC 4 l)(h:Ints w o c (.slice ao n cap) l):Calls Tryz.prog 45 #[.int .u8 4,.slice ao n cap] w (jm w 4 l):=by
 have hp:aZ l:=by simpa [aC] using hg
 obtain ⟨hl,hx,hy,hxy⟩:=hp;obtain ⟨x,y,rfl⟩:∃ x y,l=[x,y]:=by
  match l,hl with
  | [x,y],_=>exact ⟨x,y,rfl⟩
 simp only [hd,hd1,List.getElem?_cons_zero,List.getElem?_cons_succ,Option.getD_some] at hx hy hxy;obtain rfl:=h.len;obtain ⟨b,off,rfl,-,hcap,-,-,hc⟩:=h.at (by simp);have c0:=hc 0 (by simp);have c1:=hc 1 (by simp);simp at c0 c1;have fu:(2:Int)<=cap:=by simp at hcap;omega
 clear hc;have hgd:=iB w 4 (by simp [jy]) _ _ _ _ h;rw [decide_eq_true hg] at hgd;clear hg h;go_enter Tryz.func45,Tryz.ntmps45;go_wp2_with fail;refine hgd.mono ?_;rintro e w0 ⟨rfl,m,rfl⟩;clear hgd;obtain ⟨u,hu⟩:∃ u:Nat,x=u:=⟨x.toNat,by omega⟩;obtain ⟨k,hk⟩:∃ k:Nat,y=k:=⟨y.toNat,by omega⟩;subst hu hk;have hn0:(0:Int)<=(u:Int)*k:=Int.mul_nonneg (by omega) (by omega);have hw:wrap64 ((u:Int)*k)=(u:Int)*k:=IntWalk.wrap64_in _ (by omega);have hw2:IntKind.i64.wrap ((u:Int)*k)=(u:Int)*k:=IntWalk.i64_in _ (by omega);go_wp2_with fail;refine cZ (fun w'=>w'.cell? ⟨b,off,none⟩=some (.int .i64 u)/\w'.cell? ⟨b,off+1,none⟩=some (.int .i64 k)) [0,1,2,3,4,5,7,8,9,10,11,12,13] [6] 5 (by kernel_rfl) (by kernel_rfl) rfl ⟨c0,c1⟩ ?_;intro Q' hQ';simp only [pk];refine aD ?_;refine ax ?_;refine aB (i:=6) (by kernel_rfl) ?_;simp only [pk];go_wp2_with fail;refine (dD _ u k (by omega)).mono ?_;rintro e w1 ⟨v1,rfl,ho1,hb1⟩;have zQ:=af ho1;clear ho1;have hb1:Below w.heap.size w w1:=j4 (n:=m+1) hb1;go_wp2;refine ⟨fun _ hS=>⟨cell_later hb1 c0,cell_later hb1 c1⟩,?_⟩;refine aJ (ks:=[14,15,16,17]) (fun _ _ hx h=>⟨hx.cell h.1,hx.cell h.2⟩) (by kernel_rfl) ?_;simp only [pk];go_wp2_with fail;refine (dD _ 1 ((u:Int)*k) (by omega)).mono ?_;rintro e w2 ⟨v2,rfl,ho2,hb2⟩;have BM:=af ho2;clear ho2;go_wp2;go_ret3;obtain ⟨q1,q2,q3⟩:=iP (Below.refl _ w) zQ.out hb1 (Below.refl _ _) BM.out hb2;exact ⟨v1,v2,rfl,q1,q2,q3⟩
theorem aad {o:Col}{c:Nat}(w:World)(ao:Option Addr)(n cap:Nat)(l:List Int)(hg:aC 5 l)(h:Ints w o c (.slice ao n cap) l):Calls Tryz.prog 45 #[.int .u8 5,.slice ao n cap] w (jm w 5 l):=by
 have hp:aZ l:=by simpa [aC] using hg
 obtain ⟨hl,hx,hy,hxy⟩:=hp;obtain ⟨x,y,rfl⟩:∃ x y,l=[x,y]:=by
  match l,hl with
  | [x,y],_=>exact ⟨x,y,rfl⟩
 simp only [hd,hd1,List.getElem?_cons_zero,List.getElem?_cons_succ,Option.getD_some] at hx hy hxy;obtain rfl:=h.len;obtain ⟨b,off,rfl,-,hcap,-,-,hc⟩:=h.at (by simp);have c0:=hc 0 (by simp);have c1:=hc 1 (by simp);simp at c0 c1;have fu:(2:Int)<=cap:=by simp at hcap;omega
 clear hc;have hgd:=iB w 5 (by simp [jy]) _ _ _ _ h;rw [decide_eq_true hg] at hgd;clear hg h;go_enter Tryz.func45,Tryz.ntmps45;go_wp2_with fail;refine hgd.mono ?_;rintro e w0 ⟨rfl,m,rfl⟩;clear hgd;obtain ⟨u,hu⟩:∃ u:Nat,x=u:=⟨x.toNat,by omega⟩;obtain ⟨k,hk⟩:∃ k:Nat,y=k:=⟨y.toNat,by omega⟩;subst hu hk;have hn0:(0:Int)<=(u:Int)*k:=Int.mul_nonneg (by omega) (by omega);have hw:wrap64 ((u:Int)*k)=(u:Int)*k:=IntWalk.wrap64_in _ (by omega);have hw2:IntKind.i64.wrap ((u:Int)*k)=(u:Int)*k:=IntWalk.i64_in _ (by omega);go_wp2_with fail;refine cZ (fun w'=>w'.cell? ⟨b,off,none⟩=some (.int .i64 u)/\w'.cell? ⟨b,off+1,none⟩=some (.int .i64 k)) [0,1,2,3,4,5,6,8,9,10,11,12,13] [7] 5 (by kernel_rfl) (by kernel_rfl) rfl ⟨c0,c1⟩ ?_;intro Q' hQ';simp only [pk];refine aD ?_;refine ax ?_;refine aB (i:=7) (by kernel_rfl) ?_;simp only [pk];go_wp2_with fail;refine (dD _ 1 ((u:Int)*k) (by omega)).mono ?_;rintro e w1 ⟨v1,rfl,ho1,hb1⟩;have zQ:=af ho1;clear ho1;have hb1:Below w.heap.size w w1:=j4 (n:=m+1) hb1;go_wp2;refine ⟨fun _ hS=>⟨cell_later hb1 c0,cell_later hb1 c1⟩,?_⟩;refine aJ (ks:=[14,15,16,17]) (fun _ _ hx h=>⟨hx.cell h.1,hx.cell h.2⟩) (by kernel_rfl) ?_;simp only [pk];go_wp2_with fail;refine (dD _ u k (by omega)).mono ?_;rintro e w2 ⟨v2,rfl,ho2,hb2⟩;have BM:=af ho2;clear ho2;go_wp2;go_ret3;obtain ⟨q1,q2,q3⟩:=iP (Below.refl _ w) zQ.out hb1 (Below.refl _ _) BM.out hb2;exact ⟨v1,v2,rfl,q1,q2,q3⟩
theorem xM {o:Col}{c:Nat}(w:World)(t:Int)(ao:Option Addr)(n cap:Nat)(ps:List Int)(hg:aC t ps)(h:Ints w o c (.slice ao n cap) ps):Calls Tryz.prog 45 #[.int .u8 t,.slice ao n cap] w (jm w t ps):=by
 rcases l7 hg with rfl | rfl | rfl | rfl | rfl | rfl | rfl | rfl | rfl | rfl | rfl
 ·
  exact Z0 w ao n cap ps hg h
 ·
  exact Z8 w ao n cap ps hg h
 ·
  exact Z6 w ao n cap ps hg h
 ·
  exact aac w ao n cap ps hg h
 ·
  exact aad w ao n cap ps hg h
 ·
  exact Z7 w ao n cap ps hg h
 ·
  exact Z5 w ao n cap ps hg h
 ·
  exact Z4 w ao n cap ps hg h
 ·
  exact Z9 w ao n cap ps hg h
 ·
  exact XW w ao n cap ps hg h
 ·
  exact XV w ao n cap ps hg h
theorem XY {o:Col}{c:Nat}(w:World)(t:Int)(ao:Option Addr)(n cap:Nat)(ps:List Int)(hg:¬ aC t ps)(h:Ints w o c (.slice ao n cap) ps):Calls Tryz.prog 45 #[.int .u8 t,.slice ao n cap] w (fP w (uG t)):=by
 unfold uG
 by_cases ht:1<=t/\t<=11
 ·
  rw [if_pos ht];exact UY w t (by unfold jy;omega) ao n cap ps hg h
 ·
  rw [if_neg ht];exact UX w t _ (by omega)
end Go.Proofs.YtepjkmnhmcjbkaaGreat
namespace Go.Proofs.YtepjkmnhmcjbkaaGreat
section
variable {P:Program} {md:Region.Mode} {ops:Array Oper} {Q:Exit->Go.Act->World->Prop} {S:World->Prop}
theorem nW:∀ (r:List Nat) (listed:Array Bool),gH md ops listed->fJ md ops (fun _=>true) r listed=true->gH md ops (gF listed r)
 | [],_,h,_=>h
 | i :: r,listed,h,hB=>by
  simp only [fJ,Bool.and_eq_true] at hB;obtain ⟨⟨qI,_⟩,hB'⟩:=hB;have l6:i∈Region.ready md ops listed:=by simpa using qI
  exact nW r _ (fK h l6) hB'
theorem qN {Q':Go.Act->Prop}{Q:Go.Act->Prop}(hq:∀ a,Q a->Q' a):∀ (l:List Oper) (a:Go.Act),dX P ops S Q l a->dX P ops S Q' l a
 | [],a,h=>hq a h
 | _ :: r,_,⟨v,hy,hk⟩=>⟨v,hy,qN hq r _ hk⟩
theorem lX {i:Nat}{K K0:Go.Act->World->Prop}{a:Go.Act}{w:World}(hi:i < ops.size)(hK:∀ a w,K0 a w->K a w)(h:wpList P ops (mW Q K0) (aQ ops [i]) a w):wpOp P ops Q i K a w:=by
 have ho:ops[i]?=some ops[i]:=Array.getElem?_eq_getElem hi;rw [je ho []] at h;have hw:wpOp P ops (mW Q K0) i (wpList P ops (mW Q K0) (aQ ops [])) a w:=by unfold wpOp;simp only [ho];exact h
 exact xE (fun a' w' h'=>hK a' w' h') hw
def WA (md:Region.Mode)(ops:Array Oper)(r1:List Nat)(k:Nat)(r2 M:List Nat):Bool :=
 Region.noSelect ops && ((r1 ++ r2).all fun i=>nH ops i || (List.range ops.size).all fun j=>jd ops j || (r1 ++ r2).contains j || M.contains j || gN md ops ops.size j i) &&
 fJ md ops (fun _=>true) r1 (Array.replicate ops.size false) && decide (Region.ready md ops (gF (Array.replicate ops.size false) r1)=[k]) &&
 fJ md ops (fun _=>true) r2 ((gF (Array.replicate ops.size false) r1).setIfInBounds k true)
theorem ko {id:Nat}{l:List Oper}{a:Go.Act}{w:World}(S:World->Prop)(r1:List Nat)(k:Nat)(r2 M:List Nat)(n:Nat)(hm:P.follows .mixedOrders=true)
  (hB:WA .any l.toArray r1 k r2 M=true) (hlen:r1.length+((r2.length+n)+1)=l.length) (hS:S w.drew)
  (h:∀ Q':Exit->Go.Act->World->Prop,(∀ a w,Q .normal a w->Q' .normal a w)->dX P l.toArray S (fun a'=>wpList P l.toArray (mW Q' fun a1 w1=>S w1/\dX P l.toArray S (fun a2=>eZ P .any l.toArray Q' S (oG l.toArray (r1 ++ r2) M) n (gF ((gF (Array.replicate l.length false) r1).setIfInBounds k true) r2) a2 w1) (aQ l.toArray r2) a1) (aQ l.toArray [k]) a' w.drew) (aQ l.toArray r1) a) :
  (Code.region id l.toArray true).wp P Q a w:=by
 refine wp_region_noPanic ?_;refine wp_region_any hm ?_;simp only [WA,Bool.and_eq_true,List.all_eq_true,List.mem_range,Bool.or_eq_true,decide_eq_true_eq] at hB;obtain ⟨⟨⟨⟨hsel,hbe⟩,h1⟩,hk⟩,h2⟩:=hB;refine kG (S:=S) (B:=oG l.toArray (r1 ++ r2) M) _ _ _ _ ?_;have ME:∀ i∈(r1 ++ r2),nH l.toArray i=false->∀ j,j < l.toArray.size->jd l.toArray j=true\/(r1 ++ r2).contains j=true\/M.contains j=true\/gN .any l.toArray l.toArray.size j i=true:=fun i hi hany j hj=>by
  rcases hbe i hi with h0 | h0
  ·
   rw [hany] at h0;cases h0
  rcases h0 j hj with ((h1 | h1) | h1) | h1
  ·
   exact .inl h1
  ·
   exact .inr (.inl h1)
  ·
   exact .inr (.inr (.inl h1))
  ·
   exact .inr (.inr (.inr h1))
 have hcl0:gH .any l.toArray (Array.replicate l.toArray.size false):=fun j oj _ hl=>by rw [getD_replicate_false] at hl;cases hl
 have UZ:=nW r1 _ hcl0 h1;have hkr:k∈Region.ready .any l.toArray (gF (Array.replicate l.toArray.size false) r1):=by rw [hk];simp
 have DW:=fK UZ hkr;have hh:=h (NoPanic Q) (fun _ _ h=>NoPanic.normal h);have key:=gP (P:=P) (md:=.any) (Q:=NoPanic Q) (S:=S) (reads:=r1 ++ r2) (M:=M) (n:=(r2.length+n)+1) hsel (fun c a a' w h=>h) ME r1 (Array.replicate l.toArray.size false) a { w with drawn:=w.drawn+1 } (fun i hi=>by simp [hi]) hcl0 h1 hS;rw [hlen] at key;have hk':Region.ready .any l.toArray (gF (Array.replicate l.toArray.size false) r1)=[k]:=hk;have go:dX P l.toArray S (fun a'=>eZ P .any l.toArray (NoPanic Q) S (oG l.toArray (r1 ++ r2) M) (r2.length+n+1) (gF (Array.replicate l.toArray.size false) r1) a' { w with drawn:=w.drawn+1 }) (aQ l.toArray r1) a:=by
  refine qN (fun a' ha'=>?_) _ _ hh;refine ⟨fun h0=>(by rw [h0] at hk';cases hk'),fun j hj=>?_⟩;rw [hk'] at hj;obtain rfl:j=k:=by simpa using hj
  refine lX (eF hkr) (fun a1 w1 h1'=>?_) ha';obtain ⟨hS1,hr2⟩:=h1';refine ⟨fun _ _=>hS1,?_⟩;exact gP (P:=P) (md:=.any) (Q:=NoPanic Q) (S:=S) (reads:=r1 ++ r2) (M:=M) (n:=n) hsel (fun c a a' w h=>h) ME r2 _ a1 w1 (fun i hi=>by simp [hi]) DW h2 hS1 (by simpa using hr2)
 have:=key go
 simpa using this
end
open Go.RowKit
theorem vv (w:World)(v:Value)(g:av)(t:Nat)(h:dK w v g)(ht:t < g.actors.length)(hg:aC g.actors[t].tag g.actors[t].params):Calls Tryz.prog 87 #[v,.int .i64 (t:Int)] w (fq (.tuple #[.int .i64 (ay g t).length,.int .i64 (aF g t).length]) w):=by
 obtain ⟨va,ve,vi,vo,rfl,ra,re,ri,ro⟩:=h.shape;obtain ⟨aa,ac,rfl⟩:=ra.slice;obtain ⟨ae,ec,rfl⟩:=re.slice;obtain ⟨ai,ic,rfl⟩:=ri.slice;obtain ⟨ao,oc,rfl⟩:=ro.slice;have HG:=af h;have rV:=af ra;have nV:=af re;have qE:=af ri;have sI:=af ro;have hb:=au w (.cells #[.string g.name,.slice aa g.actors.length ac,.slice ae g.edges.length ec,.slice ai g.ins.length ic,.slice ao g.outs.length oc] 26);have HB:=af hb;have hX:=heap_alloc_new w (.cells #[.string g.name,.slice aa g.actors.length ac,.slice ae g.edges.length ec,.slice ai g.ins.length ic,.slice ao g.outs.length oc] 26);have HXB:=af hX;have x0:=ah _ _ hX 0 _ rfl;have x1:=ah _ _ hX 1 _ rfl;have x2:=ah _ _ hX 2 _ rfl;have x3:=ah _ _ hX 3 _ rfl;have x4:=ah _ _ hX 4 _ rfl;clear h ra re ri ro hb hX;have hI:ay g t=bJ g.actors[t].tag g.actors[t].params:=by unfold ay;rw [List.getElem?_eq_getElem ht]
 have hO:aF g t=aV g.actors[t].tag g.actors[t].params:=by unfold aF;rw [List.getElem?_eq_getElem ht]
 rw [hI,hO];obtain ⟨b0,off,rfl,hcap,hb0,hrec⟩:=rV.out.at (by omega);obtain ⟨cs,hcs,mY,hcl⟩:=hrec t ht;obtain ⟨xs,rfl,hst⟩:=mY;have c1:=cell_later HB.out (hcl 1 (by omega));have c2:=cell_later HB.out (hcl 2 (by omega));simp at c1 c2;obtain ⟨sa,sc,hxs⟩:=Ints.slice hst;subst hxs;have zH:=hst.below HB.out;have HST:=af zH;have vw:=af hg;obtain ⟨ct,hct⟩:∃ x,g.actors[t].tag=x:=⟨_,rfl⟩;obtain ⟨ps,hps⟩:∃ x,g.actors[t].params=x:=⟨_,rfl⟩;rw [hct,hps] at vw ⊢;rw [hps] at HST c2;rw [hct] at c1;have fu:(g.actors.length:Int)<=ac:=by omega
 have hti:(t:Int) < g.actors.length:=by omega
 clear hst zH hrec hcs hcl hb0 hcap hg hI hO hct hps;go_enter Tryz.func87,Tryz.ntmps87;go_wp2_with fail;obtain ⟨wb,hwb⟩:∃ x,w.alloc (.cells #[.string g.name,.slice (some ⟨b0,off,none⟩) g.actors.length ac,.slice ae g.edges.length ec,.slice ai g.ins.length ic,.slice ao g.outs.length oc] 26)=x:=⟨_,rfl⟩;rw [hwb] at HB HXB x0 x1 x2 x3 x4 ⊢;rw [hwb] at HST c1 c2;clear hwb;refine ko (fun w'=>w'.cell? ⟨w.heap.size,1,none⟩=some (.slice (some ⟨b0,off,none⟩) g.actors.length ac)/\w'.cell? ⟨b0,off+t*3+1,none⟩=some (.int .u8 ct)/\w'.cell? ⟨b0,off+t*3+2,none⟩=some (.slice sa ps.length sc)) [0,1,2,3,4,5,6,7,8,9,10,11] 12 [13,14,15,16] [12,17,18] 3 (by kernel_rfl) (by kernel_rfl) rfl ⟨x1,c1,c2⟩ ?_;intro Q' hQ';simp only [pk];refine aD ?_;refine ax ?_;go_wp2_with fail;refine (xM _ ct sa ps.length sc ps vw.out (HST.out.drewN 1)).mono ?_;rintro e w1 ⟨v1,v2,rfl,o1,o2,hb1⟩;obtain ⟨s1,k1,rfl⟩:=aA o1;obtain ⟨s2,k2,rfl⟩:=aA o2;have hs:=And.intro (cell_later hb1 x1) (And.intro (cell_later hb1 c1) (cell_later hb1 c2));have HS:=af hs;have HB1:=af ((cK (n:=1) HB.out).trans (hb1.mono HB.out.size));clear o1 o2 hb1 hs x0 x1 x2 x3 x4 c1 c2;go_wp2;refine ⟨HS.out,?_⟩;refine aD ?_;refine ax ?_;refine aB (i:=17) (by kernel_rfl) ?_;simp only [pk];go_wp2;refine ⟨by intros;exact HS.out,?_⟩;refine aB (i:=18) (by kernel_rfl) ?_;simp only [pk];go_wp2;refine ⟨by intros;exact HS.out,?_⟩;refine aJ (ks:=[19]) (fun _ _ hx h=>⟨hx.cell h.1,hx.cell h.2.1,hx.cell h.2.2⟩) (by kernel_rfl) ?_;simp only [pk];go_wp2;go_ret2;exact ⟨rfl,HB1.out⟩
theorem Gd (w:World)(v:Value)(g:av)(a p:Int)(tk:Bool)(h:dK w v g)(hg:∀ x∈g.actors,aC x.tag x.params):Calls Tryz.prog 84 #[v,.int .i64 a,.int .i64 p,.bool true,.bool tk] w (fq (.int .i64 (p8 g (aF g) a p tk)) w):=by
 obtain ⟨va,ve,vi,vo,rfl,ra,re,ri,ro⟩:=h.shape;obtain ⟨aa,ac,rfl⟩:=ra.slice;obtain ⟨ae,ec,rfl⟩:=re.slice;obtain ⟨ai,ic,rfl⟩:=ri.slice;obtain ⟨ao,oc,rfl⟩:=ro.slice;have HG:=af h;have rV:=af ra;have nV:=af re;have qE:=af ri;have sI:=af ro;have hb:=au w (.cells #[.string g.name,.slice aa g.actors.length ac,.slice ae g.edges.length ec,.slice ai g.ins.length ic,.slice ao g.outs.length oc] 26);have HB:=af hb;have hX:=heap_alloc_new w (.cells #[.string g.name,.slice aa g.actors.length ac,.slice ae g.edges.length ec,.slice ai g.ins.length ic,.slice ao g.outs.length oc] 26);have HXB:=af hX;have x0:=ah _ _ hX 0 _ rfl;have x1:=ah _ _ hX 1 _ rfl;have x2:=ah _ _ hX 2 _ rfl;have x3:=ah _ _ hX 3 _ rfl;have x4:=ah _ _ hX 4 _ rfl;clear h ra re ri ro hb hX;unfold p8
 by_cases h0:a < 0
 ·
  rw [if_pos (.inl h0)];go_enter Tryz.func84,Tryz.ntmps84;go_wp2;go_ret;exact ⟨rfl,HB.out⟩
 by_cases h1:(g.actors.length:Int)<=a
 ·
  rw [if_pos (.inr h1)];go_enter Tryz.func84,Tryz.ntmps84;go_wp2;go_ret;exact ⟨rfl,HB.out⟩
 rw [if_neg (by omega)];obtain ⟨t,rfl⟩:∃ t:Nat,a=t:=⟨a.toNat,by omega⟩;have ht:t < g.actors.length:=by omega
 rw [Int.toNat_natCast];have hR:=vv _ _ g t (HG.out.below HB.out) ht (hg _ (List.getElem_mem ht));have HR:=af hR;obtain ⟨n,hn⟩:∃ n,(aF g t).length=n:=⟨_,rfl⟩;rw [hn];have HN:=af hn;clear hR hn hg ht
 by_cases h2:p < 0
 ·
  rw [if_pos (.inl h2)];go_enter Tryz.func84,Tryz.ntmps84;go_wp2_with fail;refine HR.out.mono ?_;rintro e w1 ⟨rfl,hb1⟩;rw [HN.out];have HB1:=af (HB.out.trans (hb1.mono HB.out.size));clear hb1;go_wp2;go_ret;exact ⟨rfl,HB1.out⟩
 by_cases h3:(n:Int)<=p
 ·
  rw [if_pos (.inr h3)];go_enter Tryz.func84,Tryz.ntmps84;go_wp2_with fail;refine HR.out.mono ?_;rintro e w1 ⟨rfl,hb1⟩;rw [HN.out];have HB1:=af (HB.out.trans (hb1.mono HB.out.size));clear hb1;go_wp2;go_ret;exact ⟨rfl,HB1.out⟩
 rw [if_neg (by omega)];cases tk with
 | true =>
  go_enter Tryz.func84,Tryz.ntmps84;go_wp2_with fail;refine HR.out.mono ?_;rintro e w1 ⟨rfl,hb1⟩;rw [HN.out];have HB1:=af (HB.out.trans (hb1.mono HB.out.size));clear hb1;go_wp2;go_ret;exact ⟨rfl,HB1.out⟩
 | false =>
  go_enter Tryz.func84,Tryz.ntmps84;go_wp2_with fail;refine HR.out.mono ?_;rintro e w1 ⟨rfl,hb1⟩;rw [HN.out];have HB1:=af (HB.out.trans (hb1.mono HB.out.size));clear hb1;go_wp2;go_ret;exact ⟨by simp,HB1.out⟩
theorem Cz (w:World)(v:Value)(g:av)(a p:Int)(tk:Bool)(h:dK w v g)(hg:∀ x∈g.actors,aC x.tag x.params):Calls Tryz.prog 84 #[v,.int .i64 a,.int .i64 p,.bool false,.bool tk] w (fq (.int .i64 (p8 g (ay g) a p tk)) w):=by
 obtain ⟨va,ve,vi,vo,rfl,ra,re,ri,ro⟩:=h.shape;obtain ⟨aa,ac,rfl⟩:=ra.slice;obtain ⟨ae,ec,rfl⟩:=re.slice;obtain ⟨ai,ic,rfl⟩:=ri.slice;obtain ⟨ao,oc,rfl⟩:=ro.slice;have HG:=af h;have rV:=af ra;have nV:=af re;have qE:=af ri;have sI:=af ro;have hb:=au w (.cells #[.string g.name,.slice aa g.actors.length ac,.slice ae g.edges.length ec,.slice ai g.ins.length ic,.slice ao g.outs.length oc] 26);have HB:=af hb;have hX:=heap_alloc_new w (.cells #[.string g.name,.slice aa g.actors.length ac,.slice ae g.edges.length ec,.slice ai g.ins.length ic,.slice ao g.outs.length oc] 26);have HXB:=af hX;have x0:=ah _ _ hX 0 _ rfl;have x1:=ah _ _ hX 1 _ rfl;have x2:=ah _ _ hX 2 _ rfl;have x3:=ah _ _ hX 3 _ rfl;have x4:=ah _ _ hX 4 _ rfl;clear h ra re ri ro hb hX;unfold p8
 by_cases h0:a < 0
 ·
  rw [if_pos (.inl h0)];go_enter Tryz.func84,Tryz.ntmps84;go_wp2;go_ret;exact ⟨rfl,HB.out⟩
 by_cases h1:(g.actors.length:Int)<=a
 ·
  rw [if_pos (.inr h1)];go_enter Tryz.func84,Tryz.ntmps84;go_wp2;go_ret;exact ⟨rfl,HB.out⟩
 rw [if_neg (by omega)];obtain ⟨t,rfl⟩:∃ t:Nat,a=t:=⟨a.toNat,by omega⟩;have ht:t < g.actors.length:=by omega
 rw [Int.toNat_natCast];have hR:=vv _ _ g t (HG.out.below HB.out) ht (hg _ (List.getElem_mem ht));have HR:=af hR;obtain ⟨n,hn⟩:∃ n,(ay g t).length=n:=⟨_,rfl⟩;rw [hn];have HN:=af hn;clear hR hn hg ht
 by_cases h2:p < 0
 ·
  rw [if_pos (.inl h2)];go_enter Tryz.func84,Tryz.ntmps84;go_wp2_with fail;refine HR.out.mono ?_;rintro e w1 ⟨rfl,hb1⟩;rw [HN.out];have HB1:=af (HB.out.trans (hb1.mono HB.out.size));clear hb1;go_wp2;go_ret;exact ⟨rfl,HB1.out⟩
 by_cases h3:(n:Int)<=p
 ·
  rw [if_pos (.inr h3)];go_enter Tryz.func84,Tryz.ntmps84;go_wp2_with fail;refine HR.out.mono ?_;rintro e w1 ⟨rfl,hb1⟩;rw [HN.out];have HB1:=af (HB.out.trans (hb1.mono HB.out.size));clear hb1;go_wp2;go_ret;exact ⟨rfl,HB1.out⟩
 rw [if_neg (by omega)];cases tk with
 | true =>
  go_enter Tryz.func84,Tryz.ntmps84;go_wp2_with fail;refine HR.out.mono ?_;rintro e w1 ⟨rfl,hb1⟩;rw [HN.out];have HB1:=af (HB.out.trans (hb1.mono HB.out.size));clear hb1;go_wp2;go_ret;exact ⟨rfl,HB1.out⟩
 | false =>
  go_enter Tryz.func84,Tryz.ntmps84;go_wp2_with fail;refine HR.out.mono ?_;rintro e w1 ⟨rfl,hb1⟩;rw [HN.out];have HB1:=af (HB.out.trans (hb1.mono HB.out.size));clear hb1;go_wp2;go_ret;exact ⟨by simp,HB1.out⟩
theorem AJ {a b:ByteArray}(h:a=b):(a.toList == b.toList)=true:=by
 subst h;simp
theorem Eb {a b:ByteArray}(h:¬ a=b):(a.toList == b.toList)=false:=by
 rw [beq_eq_false_iff_ne];intro e;rw [ByteArray.toList_eq,ByteArray.toList_eq] at e;exact h (ByteArray.ext (Array.toList_inj.1 e))
theorem xO (w:World)(v:Value)(g:av)(na ni no:Nat)(s:ByteArray)(h:dK w v g)(h1:na<=g.actors.length/\na<=1000000)(h2:ni<=g.ins.length/\ni<=1000000)(h3:no<=g.outs.length/\no<=1000000):Calls Tryz.prog 83 #[v,.int .i64 (na:Int),.int .i64 (ni:Int),.int .i64 (no:Int),.string s] w (fq (.bool (jq g na ni no s)) w):=by
 obtain ⟨va,ve,vi,vo,rfl,ra,re,ri,ro⟩:=h.shape;obtain ⟨aa,ac,rfl⟩:=ra.slice;obtain ⟨ae,ec,rfl⟩:=re.slice;obtain ⟨ai,ic,rfl⟩:=ri.slice;obtain ⟨ao,oc,rfl⟩:=ro.slice;have HG:=af h;have rV:=af ra;have nV:=af re;have qE:=af ri;have sI:=af ro;have hb:=au w (.cells #[.string g.name,.slice aa g.actors.length ac,.slice ae g.edges.length ec,.slice ai g.ins.length ic,.slice ao g.outs.length oc] 26);have HB:=af hb;have hX:=heap_alloc_new w (.cells #[.string g.name,.slice aa g.actors.length ac,.slice ae g.edges.length ec,.slice ai g.ins.length ic,.slice ao g.outs.length oc] 26);have HXB:=af hX;have x0:=ah _ _ hX 0 _ rfl;have x1:=ah _ _ hX 1 _ rfl;have x2:=ah _ _ hX 2 _ rfl;have x3:=ah _ _ hX 3 _ rfl;have x4:=ah _ _ hX 4 _ rfl;clear h ra re ri ro hb hX;obtain ⟨h1,k1⟩:=h1;obtain ⟨h2,k2⟩:=h2;obtain ⟨h3,k3⟩:=h3;obtain ⟨N,hN⟩:∃ N,jq g na ni no s=N:=⟨_,rfl⟩;rw [hN];have HN:=af hN;clear hN;go_enter Tryz.func83,Tryz.ntmps83;go_wp2_with fail;obtain ⟨wb,hwb⟩:∃ x,w.alloc (.cells #[.string g.name,.slice aa g.actors.length ac,.slice ae g.edges.length ec,.slice ai g.ins.length ic,.slice ao g.outs.length oc] 26)=x:=⟨_,rfl⟩;rw [hwb] at HB HXB x0 x1 x2 x3 x4 ⊢;clear hwb
 go_loopw [11] (fun i wl=>∃ j:Nat,j<=na/\i=.int .i64 j/\wl=wb/\((g.actors).take j).any (fun x=>decide (x.name=s))=false) (fun i _=>na - (intOf i).toNat)
 case atStart=>exact ⟨0,Nat.zero_le _,rfl,rfl,by simp⟩
 case round =>
  obtain ⟨j,hj,rfl,rfl,hno⟩:=hrel;have oO:=af hno;clear hno
  by_cases hlt:j < na
  ·
   have bX:(j:Int) < na:=by omega
   have hjl:j < (g.actors).length:=by omega
   obtain ⟨b0,off,rfl,hcap,hb0,hrec⟩:=rV.out.at (by omega);obtain ⟨cs,hcs,mY,hcl⟩:=hrec j hjl;obtain ⟨xs,rfl,-⟩:=mY;have c0:=cell_later HB.out (hcl 0 (by omega));simp at c0;have fu:((g.actors).length:Int)<=ac:=by omega
   have UI:(j:Int) < (g.actors).length:=by omega
   clear hrec hcl hcs hb0 hcap
   by_cases e1:(g.actors)[j].name=s
   ·
    have e1b:=AJ e1;have qf:=jL (f:=fun x:fE=>decide (x.name=s)) hjl hlt (by simp [e1]);have HY:=af qf;clear qf e1;go_wp2;go_ret;exact ⟨by rw [<- HN.out,jq,HY.out];simp,HB.out⟩
   ·
    have e1b:=Eb e1;have hnx:=eG (f:=fun x:fE=>decide (x.name=s)) hjl oO.out (by simp [e1]);have HX:=af hnx;clear hnx e1;go_wp2;go_roundw
    case rel=>exact ⟨j+1,hlt,by go_num,by first | rfl | trivial,HX.out⟩
    case measure=>simp [intOf];omega
  ·
   obtain rfl:j=na:=by omega
   have bX:¬ ((j:Int) < j):=by omega
   have Iu:=af oO.out;clear oO hj hlt;go_wp2_with fail
   go_loopw [12] (fun i wl=>∃ j:Nat,j<=ni/\i=.int .i64 j/\wl=wr/\((g.ins).take j).any (fun x=>decide (x.name=s))=false) (fun i _=>ni - (intOf i).toNat)
   case atStart=>exact ⟨0,Nat.zero_le _,rfl,rfl,by simp⟩
   case round =>
    obtain ⟨j,hj,rfl,rfl,hno⟩:=hrel;have oO:=af hno;clear hno
    by_cases hlt:j < ni
    ·
     have bX:(j:Int) < ni:=by omega
     have hjl:j < (g.ins).length:=by omega
     obtain ⟨b0,off,rfl,hcap,hb0,hrec⟩:=qE.out.at (by omega);obtain ⟨cs,hcs,mY,hcl⟩:=hrec j hjl;obtain rfl:=mY;have c0:=cell_later HB.out (hcl 0 (by omega));simp at c0;have fu:((g.ins).length:Int)<=ic:=by omega
     have UI:(j:Int) < (g.ins).length:=by omega
     clear hrec hcl hcs hb0 hcap
     by_cases e1:(g.ins)[j].name=s
     ·
      have e1b:=AJ e1;have qf:=jL (f:=fun x:fF=>decide (x.name=s)) hjl hlt (by simp [e1]);have HY:=af qf;clear qf e1;go_wp2;go_ret;exact ⟨by rw [<- HN.out,jq,HY.out];simp,HB.out⟩
     ·
      have e1b:=Eb e1;have hnx:=eG (f:=fun x:fF=>decide (x.name=s)) hjl oO.out (by simp [e1]);have HX:=af hnx;clear hnx e1;go_wp2;go_roundw
      case rel=>exact ⟨j+1,hlt,by go_num,by first | rfl | trivial,HX.out⟩
      case measure=>simp [intOf];omega
    ·
     obtain rfl:j=ni:=by omega
     have bX:¬ ((j:Int) < j):=by omega
     have pJ:=af oO.out;clear oO hj hlt;go_wp2_with fail
     go_loopw [13] (fun i wl=>∃ j:Nat,j<=no/\i=.int .i64 j/\wl=wr/\((g.outs).take j).any (fun x=>decide (x.name=s))=false) (fun i _=>no - (intOf i).toNat)
     case atStart=>exact ⟨0,Nat.zero_le _,rfl,rfl,by simp⟩
     case round =>
      obtain ⟨j,hj,rfl,rfl,hno⟩:=hrel;have oO:=af hno;clear hno
      by_cases hlt:j < no
      ·
       have bX:(j:Int) < no:=by omega
       have hjl:j < (g.outs).length:=by omega
       obtain ⟨b0,off,rfl,hcap,hb0,hrec⟩:=sI.out.at (by omega);obtain ⟨cs,hcs,mY,hcl⟩:=hrec j hjl;obtain rfl:=mY;have c0:=cell_later HB.out (hcl 0 (by omega));simp at c0;have fu:((g.outs).length:Int)<=oc:=by omega
       have UI:(j:Int) < (g.outs).length:=by omega
       clear hrec hcl hcs hb0 hcap
       by_cases e1:(g.outs)[j].name=s
       ·
        have e1b:=AJ e1;have qf:=jL (f:=fun x:fF=>decide (x.name=s)) hjl hlt (by simp [e1]);have HY:=af qf;clear qf e1;go_wp2;go_ret;exact ⟨by rw [<- HN.out,jq,HY.out];simp,HB.out⟩
       ·
        have e1b:=Eb e1;have hnx:=eG (f:=fun x:fF=>decide (x.name=s)) hjl oO.out (by simp [e1]);have HX:=af hnx;clear hnx e1;go_wp2;go_roundw
        case rel=>exact ⟨j+1,hlt,by go_num,by first | rfl | trivial,HX.out⟩
        case measure=>simp [intOf];omega
      ·
       obtain rfl:j=no:=by omega
       have bX:¬ ((j:Int) < j):=by omega
       have Ec:=af oO.out;go_wp2;go_ret;exact ⟨by rw [<- HN.out,jq,Iu.out,pJ.out,Ec.out];rfl,HB.out⟩
open Go.Maps (Keyed IsMap Tidy)
def Ed (D:DataW Unit)(seen:List ByteArray):Prop:=IsMap D/\∀ s:ByteArray,D.atKey (.string s.data.toList) (.lit (.int .i64 0))=.lit (.int .i64 (if seen.any (fun x=>decide (x=s)) then 1 else 0))
theorem Gf:Keyed Tryz.prog 9:=Maps.string_keyed Tryz.underlying9
theorem Qb (w:World):(zeroValue 3).run Tryz.prog w=.ok (.int .i64 0) w:=by kernel_rfl
theorem I8:Ed (.map []) []:=⟨Maps.isMap_empty,fun _=>rfl⟩
theorem MF {D:DataW Unit}{seen:List ByteArray}(h:Ed D seen)(s:ByteArray):Ed (D.put (.string s.data.toList) (.lit (.int .i64 1))) (seen ++ [s]):=by
 refine ⟨h.1.put _ _,fun t=>?_⟩
 by_cases e:s=t
 ·
  subst e;rw [Maps.atKey_put_same h.1 (by trivial)];simp
 ·
  rw [Maps.atKey_put_other (fun e'=>e (ByteArray.ext (Array.toList_inj.1 (by injection e' with e';exact e'.symm)))),h.2 t];have:decide (s=t)=false:=decide_eq_false e;rw [List.any_append,List.any_cons,List.any_nil,this,Bool.or_false,Bool.or_false]
theorem nX {w w':World}{o o':Col}{C:Nat->Prop}{B n:Nat}{D:DataW Unit}(h:w.ownsMap Tryz.prog 9 (plainElem Tryz.prog 3) B n D)(T:Turn o o' C w w')(hc:¬ C (o B)):w'.ownsMap Tryz.prog 9 (plainElem Tryz.prog 3) B n D/\o' B=o B:=by
 obtain ⟨es,clock,hb,r⟩:=h;obtain ⟨h1,h2⟩:=T.block hb hc;exact ⟨⟨es,clock,h1,r⟩,h2⟩
def rR (l:List Bool):List Value:=l.map Value.bool
structure Side (w:World) (o:Col) (c d:Nat) (v:Value) (side:List (List Bool)) (gs:List Nat):Prop where
 len:gs.length=side.length
 own:Own w o c 183 1 v side.length ((List.range side.length).map fun k=>.slice (some ⟨gs[k]?.getD 0,0,none⟩) (side[k]?.getD []).length (side[k]?.getD []).length)
 rows:∀ k,k < side.length->dZ w o d (gs[k]?.getD 0) 4 (rR (side[k]?.getD [])).toArray
 apart:∀ i j,i < j->j < side.length->gs[i]?.getD 0≠gs[j]?.getD 0
theorem Side.nil (w:World)(o:Col)(c d:Nat):Side w o c d (.slice none 0 0) [] [] :=
 ⟨rfl,Own.nil _ _ _ _ _,fun k hk=>by simp at hk,fun i j h hj=>by simp at hj⟩
theorem Side.turn {w w':World}{o o':Col}{C:Nat->Prop}{c d:Nat}{v:Value}{side:List (List Bool)}{gs:List Nat}(h:Side w o c d v side gs)(T:Turn o o' C w w')(hc:¬ C c)(hd:¬ C d):Side w' o' c d v side gs :=
 ⟨h.len,h.own.turn T hc,fun k hk=>(h.rows k hk).turn T hd,h.apart⟩
def gm (x:Nat):Prop:=1<=x/\x<=6
structure mK where
 name:ByteArray
 va:Value
 ve:Value
 vi:Value
 vo:Value
 vI:Value
 vO:Value
structure bZ (w:World) (o:Col) (C B:Nat) (X:mK) (k:kL):Prop where
 st:∃ D n gI gO,dZ w o 1 C 137 #[.string X.name,X.va,X.ve,X.vi,X.vo,.map (some B),X.vI,X.vO]/\w.ownsMap Tryz.prog 9 (plainElem Tryz.prog 3) B n D/\o B=2/\Ed D k.seen/\n<=k.seen.length/\Side w o 3 4 X.vI k.ins gI/\Side w o 5 6 X.vO k.outs gO
theorem bZ.turn {w w':World}{o o':Col}{Cs:Nat->Prop}{C B:Nat}{X:mK}{k:kL}(h:bZ w o C B X k)(T:Turn o o' Cs w w')(hc:∀ x,gm x->¬ Cs x):bZ w' o' C B X k:=by
 obtain ⟨D,n,gI,gO,h1,h2,h3,h4,h5,h6,h7⟩:=h.st;obtain ⟨m1,m2⟩:=nX h2 T (by rw [h3];exact hc 2 (by unfold gm;omega));exact ⟨D,n,gI,gO,h1.turn T (hc 1 (by unfold gm;omega)),m1,m2.trans h3,h4,h5,h6.turn T (hc 3 (by unfold gm;omega)) (hc 4 (by unfold gm;omega)),h7.turn T (hc 5 (by unfold gm;omega)) (hc 6 (by unfold gm;omega))⟩
theorem bZ.cells {w:World}{o:Col}{C B:Nat}{X:mK}{k:kL}(h:bZ w o C B X k) :
  w.cell? ⟨C,0,none⟩=some (.string X.name)/\w.cell? ⟨C,1,none⟩=some X.va/\w.cell? ⟨C,2,none⟩=some X.ve/\w.cell? ⟨C,3,none⟩=some X.vi/\w.cell? ⟨C,4,none⟩=some X.vo/\w.cell? ⟨C,5,none⟩=some (.map (some B))/\w.cell? ⟨C,6,none⟩=some X.vI/\w.cell? ⟨C,7,none⟩=some X.vO:=by
 obtain ⟨D,n,gI,gO,h1,_⟩:=h.st;exact ⟨h1.cell 0 _ rfl,h1.cell 1 _ rfl,h1.cell 2 _ rfl,h1.cell 3 _ rfl,h1.cell 4 _ rfl,h1.cell 5 _ rfl,h1.cell 6 _ rfl,h1.cell 7 _ rfl⟩
theorem bZ.U0 {w:World}{o:Col}{C B:Nat}{X:mK}{k:kL}(h:bZ w o C B X k)(i:Nat):w.frozen? ⟨C,i,none⟩=false:=by
 obtain ⟨D,n,gI,gO,h1,_⟩:=h.st;exact h1.frozen i
theorem bZ.drewN {w:World}{o:Col}{C B:Nat}{X:mK}{k:kL}(h:bZ w o C B X k)(m:Nat):bZ (w.drewN m) o C B X k:=h.turn (Turn.jE o ⟨m,rfl⟩) (fun _ _ h=>h)
theorem bZ.below {w w':World}{o:Col}{C B:Nat}{X:mK}{k:kL}(h:bZ w o C B X k)(c:Nat)(hb:Below w.heap.size w w'):bZ w' (ext o w.heap.size c) C B X k:=h.turn (Turn.of_below o c hb) (fun _ _ h=>h)
theorem bZ.ins {w:World}{o:Col}{C B:Nat}{X:mK}{k:kL}(h:bZ w o C B X k):∃ gI,Side w o 3 4 X.vI k.ins gI:=by
 obtain ⟨D,n,gI,gO,h1,h2,h3,h4,h5,h6,h7⟩:=h.st;exact ⟨gI,h6⟩
theorem bZ.outs {w:World}{o:Col}{C B:Nat}{X:mK}{k:kL}(h:bZ w o C B X k):∃ gO,Side w o 5 6 X.vO k.outs gO:=by
 obtain ⟨D,n,gI,gO,h1,h2,h3,h4,h5,h6,h7⟩:=h.st;exact ⟨gO,h7⟩
theorem bZ.WB {w w':World}{o:Col}{C B:Nat}{X:mK}{k:kL}{ins:List (List Bool)}(h:bZ w o C B X k)(T:Turn o o (fun x=>x=4) w w'){gI:List Nat}(hs:Side w' o 3 4 X.vI ins gI):bZ w' o C B X ⟨k.seen,ins,k.outs⟩:=by
 obtain ⟨D,n,gI',gO,h1,h2,h3,h4,h5,h6,h7⟩:=h.st;obtain ⟨m1,m2⟩:=nX h2 T (by rw [h3];decide);exact ⟨D,n,gI,gO,h1.turn T (by decide),m1,m2.trans h3,h4,h5,hs,h7.turn T (by decide) (by decide)⟩
theorem bZ.WC {w w':World}{o:Col}{C B:Nat}{X:mK}{k:kL}{outs:List (List Bool)}(h:bZ w o C B X k)(T:Turn o o (fun x=>x=6) w w'){gO:List Nat}(hs:Side w' o 5 6 X.vO outs gO):bZ w' o C B X ⟨k.seen,k.ins,outs⟩:=by
 obtain ⟨D,n,gI,gO',h1,h2,h3,h4,h5,h6,h7⟩:=h.st;obtain ⟨m1,m2⟩:=nX h2 T (by rw [h3];decide);exact ⟨D,n,gI,gO,h1.turn T (by decide),m1,m2.trans h3,h4,h5,h6.turn T (by decide) (by decide),hs⟩
theorem aK {P:Program}{fn:Func}{p u:Tmp}{ty:TypeId}(h:fn.results=#[.tmp u,.cell p ty])(tmps:Array Value)(w:World)(g:Nat)(t:TypeId)(cs:Array Value)(fr:Nat × Nat)(d:TypeDesc)
  (hp:tmps.getD p undef=.pointer (some ⟨g,0,none⟩)) (hg:w.heap[g]?=some (.cells cs t fr))
  (hu:P.underlying ty=some d) (hd:(match d with | .struct _ | .array _ _=>true | _=>false)=true) (hi:(P.info? ty).map (·.size)=some cs.size) :
  (results fn tmps).run P w=.ok (.tuple #[tmps.getD u undef,.agg cs]) w:=by
 have hp':tmps[p]?.getD undef=.pointer (some ⟨g,0,none⟩):=by simpa using hp
 simp [results,h,hp',asAddr,Result.andThen,run_loadVar_row w g t ty cs fr d hg hu hd hi]
theorem XZ {n m:Nat}(h:n<=m)(hm:m<=1000000):n < maxLen:=by unfold maxLen;omega
theorem Qc {n:Nat}(h:n<=4611686018427387904):n<=maxLen:=by unfold maxLen;omega
theorem xP (w:World)(o:Col)(C B:Nat)(X:mK)(k:kL)(s:ByteArray)(hs:s.size<=4611686018427387904)(hk:k.seen.length<=1000000)(h:bZ w o C B X k) :
  Calls Tryz.prog 79 #[.pointer (some ⟨C,0,none⟩),.string s] w fun e w'=>e=.returned (.int .i64 (lg k.seen s))/\∃ o',Turn o o' (fun x=>x=2) w w'/\(lg k.seen s=0->bZ w' o' C B X ⟨k.seen ++ [s],k.ins,k.outs⟩):=by
 obtain ⟨N,hN⟩:∃ N,lg k.seen s=N:=⟨_,rfl⟩;rw [hN];have HN:=af hN;have HS:=af hs;have HK:=af hk;have HC:=af h;clear hN hs hk h;go_enter Tryz.func79,Tryz.ntmps79;go_wp2_with fail;refine (Ga _ s HS.out).mono ?_;rintro e w1 ⟨rfl,hb1⟩;have HB1:=af hb1;have KV:=af (HC.out.turn (Turn.of_below o 0 hb1) (fun _ _ h=>h));obtain ⟨x,hx⟩:∃ x,nameP s=x:=⟨_,rfl⟩;rw [hx];have HX:=af hx;clear hx hb1 HC;cases x with
 | false =>
  have e:N=82:=by rw [<- HN.out,lg,HX.out];rfl
  subst e;go_wp2;go_ret;exact ⟨rfl,_,(Turn.of_below o 0 HB1.out).mono (fun _ h=>h.elim),fun h=>by cases h⟩
 | true =>
  obtain ⟨D,n,gI,gO,h1,h2,h3,h4,h5,h6,h7⟩:=KV.out.st;have q5:=h1.cell 5 (.map (some B)) rfl;have H1:=af h1;have H2:=af h2;have H4:=af h4;have H5:=af h5;have H6:=af h6;have H7:=af h7;have H3:=af h3;clear h1 h2 h3 h4 h5 h6 h7;have hml:s.size<=maxLen:=Qc HS.out;go_wp2_with (at_lookup;refine aU ?_);refine dR ?_;refine wpList_lookup_own_int _ rfl _ _ 134 rfl 9 3 .i64 Gf Tryz.underlying134 Tryz.underlying3 (Qb _) B n D rfl H2.out _ _ rfl (WideMaps.keyOf_string_mk Tryz.underlying9 hml) ?_;intro c hat hwc;have hc:=H4.out.2 s;rw [hat] at hc;obtain ⟨y,hy⟩:∃ y,k.seen.any (fun x=>decide (x=s))=y:=⟨_,rfl⟩;rw [hy] at hc;have HY:=af hy;clear hat hwc hy;cases y with
  | true =>
   obtain rfl:c=1:=by injection hc with h;injection h with _ h
   have e:N=83:=by rw [<- HN.out,lg,HX.out,HY.out];rfl
   subst e;clear hc;go_wp2;go_ret;exact ⟨rfl,_,(Turn.of_below o 0 HB1.out).mono (fun _ h=>h.elim),fun h=>by cases h⟩
  | false =>
   obtain rfl:c=0:=by injection hc with h;injection h with _ h
   have e:N=0:=by rw [<- HN.out,lg,HX.out,HY.out];rfl
   subst e;clear hc;go_wp2_with (at_mapUpdate;refine aU ?_);refine dR ?_;refine wpList_mapUpdate_own _ rfl _ _ _ 134 rfl 9 3 Gf Tryz.underlying134 _ B n D rfl H2.out (XZ H5.out HK.out) _ _ _ rfl rfl (WideMaps.keyOf_string_mk Tryz.underlying9 hml) _ [] (plainElem_int Tryz.underlying3 (by decide)) ?_;intro w2 hown2 hg2;have T2:Turn (ext o w.heap.size 0) (ext (ext o w.heap.size 0) w1.heap.size 0) (fun x=>x=2) w1 w2:=Turn.kT _ 0 ((aG.refl (fun b=>b=B) w1).grown hg2 (fun b hb _=>(Option.some.inj hb).symm)) (fun b _ e=>by rw [e];exact H3.out);have HT:=af (((Turn.of_below o 0 HB1.out).mono (D:=fun x=>x=2) (fun _ h=>h.elim)).trans T2 (fun x e=>e));have hB2:ext (ext o w.heap.size 0) w1.heap.size 0 B=2:=(dm H2.out.lt).trans H3.out;have pJ:Hid (bZ w2 (ext (ext o w.heap.size 0) w1.heap.size 0) C B X ⟨k.seen ++ [s],k.ins,k.outs⟩):=af ⟨_,_,gI,gO,H1.out.turn T2 (by decide),hown2,hB2,MF H4.out s,by have:=H5.out;simp;omega,H6.out.turn T2 (by decide) (by decide),H7.out.turn T2 (by decide) (by decide)⟩;clear hown2 hg2 T2 hB2;go_wp2;go_ret;exact ⟨rfl,_,HT.out,pJ.out⟩
end Go.Proofs.YtepjkmnhmcjbkaaGreat
namespace Go.Proofs.YtepjkmnhmcjbkaaGreat
open Go.RowKit
theorem U1 {l:List Bool}{k:Nat}(h:k < l.length):(rR l)[k]?=some (.bool (l[k]?.getD false)):=by simp [rR,h]
theorem U2 (l:List Bool)(k:Nat)(b:Bool):(rR l).toArray.setIfInBounds k (.bool b)=(rR (l.set k b)).toArray:=by simp [rR,List.map_set]
theorem Side.row {w:World}{o:Col}{c d:Nat}{ao:Option Addr}{n cap:Nat}{side:List (List Bool)}{gs:List Nat}(h:Side w o c d (.slice ao n cap) side gs){a:Nat}(ha:a < side.length) :
  n=side.length/\n<=cap/\∃ g,ao=some ⟨g,0,none⟩/\w.cell? ⟨g,a,none⟩=some (.slice (some ⟨gs[a]?.getD 0,0,none⟩) (side[a]?.getD []).length (side[a]?.getD []).length):=by
 obtain ⟨h1,h2,g,_,h4,h5,_,_⟩:=bQ h.own.1 (by simp;omega);exact ⟨h1,by omega,g,h4,h5 a _ (by simp [ha])⟩
theorem Side.take {w:World}{o:Col}{c d:Nat}{v:Value}{side:List (List Bool)}{gs:List Nat}(h:Side w o c d v side gs)(hcd:c≠d){a p:Nat}(ha:a < side.length) :
  Turn o o (fun x=>x=d) w (w.setCell ⟨gs[a]?.getD 0,p,none⟩ (.bool true))/\Side (w.setCell ⟨gs[a]?.getD 0,p,none⟩ (.bool true)) o c d v (side.set a ((side[a]?.getD []).set p true)) gs:=by
 have hb:=h.rows a ha;obtain ⟨s1,T⟩:=hb.set p (.bool true);rw [U2] at s1;refine ⟨T,⟨by rw [List.length_set];exact h.len,?_,fun k hk=>?_,fun i j hij hj=>h.apart i j hij (by simpa using hj)⟩⟩
 ·
  have h1:=h.own.turn T (fun e=>hcd e);rw [List.length_set];have e:((List.range side.length).map fun k=>Value.slice (some ⟨gs[k]?.getD 0,0,none⟩) ((side.set a ((side[a]?.getD []).set p true))[k]?.getD []).length ((side.set a ((side[a]?.getD []).set p true))[k]?.getD []).length)=(List.range side.length).map fun k=>.slice (some ⟨gs[k]?.getD 0,0,none⟩) (side[k]?.getD []).length (side[k]?.getD []).length:=by
   refine List.map_congr_left fun k _=>?_;have e2:((side.set a ((side[a]?.getD []).set p true))[k]?.getD []).length=(side[k]?.getD []).length:=by
    by_cases e:a=k
    ·
     subst e;simp [ha]
    ·
     rw [List.getElem?_set_ne e]
   rw [e2]
  rw [e];exact h1
 ·
  rw [List.length_set] at hk
  by_cases e:a=k
  ·
   subst e;rw [List.getElem?_set_self ha];exact s1
  ·
   rw [List.getElem?_set_ne e];have hr:=h.rows k hk;have hne:gs[k]?.getD 0≠gs[a]?.getD 0:=by
    rcases Nat.lt_or_gt_of_ne e with h1 | h1
    ·
     exact (h.apart a k h1 hk).symm
    ·
     exact h.apart k a h1 ha
   exact ⟨gV hr.1 hne _,hr.2⟩
theorem CB (side:List (List Bool))(a:Nat):wD side (a:Int)=side[a]?.getD []:=by simp [wD]
theorem tY (w:World)(o:Col)(c d:Nat)(v:Value)(side:List (List Bool))(gs:List Nat)(a p:Int)(hcd:c≠d)(h:Side w o c d v side gs) :
  Calls Tryz.prog 80 #[v,.int .i64 a,.int .i64 p] w fun e w'=>e=.returned (.int .i64 (gD side a p))/\Turn o o (fun x=>x=d) w w'/\(gD side a p=0->Side w' o c d v (lI side a p) gs):=by
 obtain ⟨ao,cap,rfl⟩:=h.own.slice;obtain ⟨N,hN⟩:∃ N,gD side a p=N:=⟨_,rfl⟩;rw [hN];have HN:=af hN;have HS:=af h;clear hN h;have hT0:=af (Turn.refl o (fun x=>x=d) w)
 by_cases h1:a < 0
 ·
  have e:N=84:=by rw [<- HN.out,gD,if_pos (.inl h1)]
  subst e;go_enter Tryz.func80,Tryz.ntmps80;go_wp2;go_ret;exact ⟨rfl,by first | exact ⟨hT0.out,fun h=>by cases h⟩ | exact hT0.out⟩
 obtain ⟨n,rfl⟩:∃ n:Nat,a=n:=⟨a.toNat,by omega⟩
 by_cases h2:side.length<=n
 ·
  have TH:(side.length:Int)<=n:=by omega
  have e:N=84:=by rw [<- HN.out,gD,if_pos (.inr TH)]
  subst e;go_enter Tryz.func80,Tryz.ntmps80;go_wp2;go_ret;exact ⟨rfl,by first | exact ⟨hT0.out,fun h=>by cases h⟩ | exact hT0.out⟩
 have hlt:n < side.length:=by omega
 have bX:(n:Int) < side.length:=by omega
 obtain ⟨_,hcap,g,rfl,hc⟩:=HS.out.row hlt;have fu:(side.length:Int)<=cap:=by omega
 have hE:N=if p < 0\/((side[n]?.getD []).length:Int)<=p then 85 else if (side[n]?.getD [])[p.toNat]?.getD false then 86 else 0:=by
  rw [<- HN.out,gD,if_neg (by omega),CB]
 have HE:=af hE;obtain ⟨row,hrow⟩:∃ row,side[n]?.getD []=row:=⟨_,rfl⟩;rw [hrow] at HE hc;have hblk:=HS.out.rows n hlt;rw [hrow] at hblk;have HR:=af hrow;clear hE hrow
 by_cases h3:p < 0
 ·
  have e:N=85:=by rw [HE.out,if_pos (.inl h3)]
  subst e;go_enter Tryz.func80,Tryz.ntmps80;go_wp2;go_ret;exact ⟨rfl,by first | exact ⟨hT0.out,fun h=>by cases h⟩ | exact hT0.out⟩
 obtain ⟨q,rfl⟩:∃ q:Nat,p=q:=⟨p.toNat,by omega⟩
 by_cases h4:row.length<=q
 ·
  have h4i:(row.length:Int)<=q:=by omega
  have e:N=85:=by rw [HE.out,if_pos (.inr h4i)]
  subst e;go_enter Tryz.func80,Tryz.ntmps80;go_wp2;go_ret;exact ⟨rfl,by first | exact ⟨hT0.out,fun h=>by cases h⟩ | exact hT0.out⟩
 have h4i:(q:Int) < row.length:=by omega
 have hq:=hblk.cell q (.bool (row[q]?.getD false)) (by rw [List.getElem?_toArray];exact U1 (by omega));have hfz:=hblk.frozen q;have hE2:N=if row[q]?.getD false then 86 else 0:=by rw [HE.out,if_neg (by omega)];rfl
 have HE2:=af hE2;clear hE2 hblk HE;obtain ⟨b,hb⟩:∃ b,row[q]?.getD false=b:=⟨_,rfl⟩;rw [hb] at hq HE2;clear hb;cases b with
 | true =>
  have e:N=86:=HE2.out;subst e;go_enter Tryz.func80,Tryz.ntmps80;go_wp2;go_ret;exact ⟨rfl,by first | exact ⟨hT0.out,fun h=>by cases h⟩ | exact hT0.out⟩
 | false =>
  have e:N=0:=HE2.out;subst e;obtain ⟨t1,t2⟩:=HS.out.take hcd (a:=n) (p:=q) hlt;have T1:=af t1;have T2:Hid (Side (w.setCell ⟨gs[n]?.getD 0,q,none⟩ (.bool true)) o c d (.slice (some ⟨g,0,none⟩) side.length cap) (lI side (n:Int) (q:Int)) gs):=af (by simpa [lI,CB] using t2);clear t1 t2;go_enter Tryz.func80,Tryz.ntmps80;go_wp2;go_ret;exact ⟨rfl,T1.out,by first | exact T2.out | exact fun _=>T2.out⟩
def zR (E:Int)(e:Ending):Prop:=∃ a b c:Int,e=.returned (.tuple #[.int .i64 E,.agg #[.int .u8 a,.int .i64 b,.int .i64 c]])
def I9 (w:World)(o:Col)(C B:Nat)(X:mK)(E:Int)(k:kL)(e:Ending)(w':World):Prop:=zR E e/\∃ o',Turn o o' gm w w'/\(E=0->bZ w' o' C B X k)
def jS (x:Nat):Prop:=x=2\/x=4\/x=6
def KW (w:World)(o:Col)(C B:Nat)(X:mK)(E:Int)(k:kL)(e:Ending)(w':World):Prop:=zR E e/\∃ o',Turn o o' jS w w'/\(E=0->bZ w' o' C B X k)
theorem Turn.late {o o1:Col}{C:Nat->Prop}{w w1 w2:World}(h:Turn o o1 C w w1)(c:Nat)(m:aG (fun k=>w.heap.size<=k) w1 w2):Turn o (ext o1 w1.heap.size c) C w w2:=by
 refine ⟨h.mods.trans m (fun _ _ h=>h) (fun n hn f=>by omega),fun k hk=>?_⟩;rw [dm (Nat.lt_of_lt_of_le hk h.size)];exact h.same k hk
theorem dn {w:World}{o:Col}{R:Nat}{a b c:Int}(h:dZ w o 7 R 110 #[.int .u8 0,.int .i64 0,.int .i64 0]) :
  (((w.setCell ⟨R,0,none⟩ (.int .u8 a)).setCell ⟨R,1,none⟩ (.int .i64 b)).setCell ⟨R,2,none⟩ (.int .i64 c)).heap[R]?=some (.cells #[.int .u8 a,.int .i64 b,.int .i64 c] 110 (0,0)) :=
 block_setCell (block_setCell (block_setCell h.1 0 (.int .u8 a)) 1 (.int .i64 b)) 2 (.int .i64 c)
theorem dF {w:World}{N R:Nat}(h:N<=R)(a b c:Value):aG (fun k=>N<=k) w (((w.setCell ⟨R,0,none⟩ a).setCell ⟨R,1,none⟩ b).setCell ⟨R,2,none⟩ c) :=
 (((aG.refl _ w).setCell (p:=⟨R,0,none⟩) (fun _=>h) a).setCell (p:=⟨R,1,none⟩) (fun _=>h) b).setCell (p:=⟨R,2,none⟩) (fun _=>h) c
theorem CF (w:World)(R:Nat)(a b c:Value):aG (fun k=>k=R) w (((w.setCell ⟨R,0,none⟩ a).setCell ⟨R,1,none⟩ b).setCell ⟨R,2,none⟩ c) :=
 (((aG.refl (fun k=>k=R) w).setCell (p:=⟨R,0,none⟩) (fun _=>rfl) a).setCell (p:=⟨R,1,none⟩) (fun _=>rfl) b).setCell (p:=⟨R,2,none⟩) (fun _=>rfl) c
theorem bZ.spot {w:World}{q:Col}{C B R:Nat}{X:mK}{k:kL}{t:TypeId}{cs:Array Value}(h:bZ w q C B X k)(hR:dZ w q 7 R t cs)(a b c:Value):bZ (((w.setCell ⟨R,0,none⟩ a).setCell ⟨R,1,none⟩ b).setCell ⟨R,2,none⟩ c) (ext q w.heap.size 7) C B X k :=
 h.turn (Turn.kT (C:=fun x=>x=7) q 7 (CF w R a b c) (fun b _ e=>by subst e;exact hR.2)) (fun x hx e=>by subst e;exact absurd hx (by unfold gm;omega))
theorem yX {seen:List ByteArray}{side:List (List Bool)}{l:List fF}{j:Nat}(h:j < l.length):dJ seen side (l.drop j)=if nN seen side l[j]≠0 then nN seen side l[j] else dJ (seen ++ [l[j].name]) (lI side l[j].aW l[j].port) (l.drop (j+1)):=by
 rw [List.drop_eq_getElem_cons h,dJ]
theorem yY {side:List (List Bool)}{l:List fF}{j:Nat}(h:j < l.length):aY side (l.take (j+1))=lI (aY side (l.take j)) l[j].aW l[j].port:=by
 rw [List.take_succ_eq_append_getElem h,aY,List.foldl_append];rfl
theorem yZ {seen:List ByteArray}{l:List fF}{j:Nat}(h:j < l.length):bK seen (l.take (j+1))=bK seen (l.take j) ++ [l[j].name]:=by
 rw [List.take_succ_eq_append_getElem h,bK,bK,List.map_append,List.append_assoc];rfl
theorem qg (w:World)(o:Col)(c:Nat):dZ (w.alloc (.cells #[.int .u8 0,.int .i64 0,.int .i64 0] 110)) (ext o w.heap.size c) c w.heap.size 110 #[.int .u8 0,.int .i64 0,.int .i64 0]:=⟨heap_alloc_new w _,dI (Nat.le_refl _)⟩
theorem AL {seen:List ByteArray}{side:List (List Bool)}{p:fF}{r:Int}:(if nN seen side p≠0 then nN seen side p else r)=if lg seen p.name≠0 then lg seen p.name else if gD side p.aW p.port≠0 then gD side p.aW p.port else r:=by
 unfold nN
 by_cases h:lg seen p.name=0
 ·
  simp [h]
 ·
  simp [h]
theorem AO {seen:List ByteArray}{l:List fF}{j:Nat}(hj:j<=l.length)(h:seen.length+l.length<=1000000):(bK seen (l.take j)).length<=1000000:=by
 simp [bK];omega
theorem CG (w0 w:World)(o:Col)(C B:Nat)(X:mK)(k:kL)(v:Value)(l:List fF)(kd en:Int)(hv:pU w0 3 Cc v l)(K:Kept w0.heap.size o w0 w)(hn:k.seen.length+l.length<=1000000)(hs:∀ p∈l,p.name.size<=4611686018427387904)(h:bZ w o C B X k) :
  Calls Tryz.prog 58 #[.pointer (some ⟨C,0,none⟩),v,X.vI,.int .u8 kd,.int .i64 en] w (KW w o C B X (dJ k.seen k.ins l) ⟨bK k.seen l,aY k.ins l,k.outs⟩):=by
 obtain ⟨ao,cap,rfl⟩:=hv.slice;obtain ⟨E,hE⟩:∃ E,dJ k.seen k.ins l=E:=⟨_,rfl⟩;rw [hE];have HE:=af (show dJ (bK k.seen (l.take 0)) (aY k.ins (l.take 0)) (l.drop 0)=E by simpa [bK,aY] using hE);have HV:=af hv;have HN:=af hn;have Fa:=af hs;have hbR:=au w (.cells #[.int .u8 0,.int .i64 0,.int .i64 0] 110);have HT0:=af ((Turn.of_below o 7 hbR).mono (D:=jS) (fun _ h=>h.elim));have BD:=af (K.of_below 7 hbR);have mD:Hid (bZ _ _ C B X ⟨bK k.seen (l.take 0),aY k.ins (l.take 0),k.outs⟩):=af (by simpa [bK,aY] using h.below 7 hbR);have vR:=af (qg w o 7);clear hE hv hn hs K h hbR;go_enter Tryz.func58,Tryz.ntmps58;go_wp2_with fail;obtain ⟨R,hR⟩:∃ R,w.heap.size=R:=⟨_,rfl⟩;have nV:=af hR;rw [hR] at vR HT0 BD mD ⊢;clear hR
 go_loopw [18] (fun i wr=>∃ (j:Nat) (q:Col),j<=l.length/\i=.int .i64 j/\Kept w0.heap.size q w0 wr/\Turn o q jS w wr/\dZ wr q 7 R 110 #[.int .u8 0,.int .i64 0,.int .i64 0]/\bZ wr q C B X ⟨bK k.seen (l.take j),aY k.ins (l.take j),k.outs⟩/\dJ (bK k.seen (l.take j)) (aY k.ins (l.take j)) (l.drop j)=E) (fun i _=>l.length - (intOf i).toNat)
 case atStart=>exact ⟨0,_,Nat.zero_le _,rfl,BD.out,HT0.out,vR.out,mD.out,HE.out⟩
 case round =>
  clear BD HT0 vR mD HE;obtain ⟨j,q,hj,rfl,hK,hT,hR,hC,hE⟩:=hrel;have HK:=af hK;have HT:=af hT;have HR:=af hR;have HC:=af hC;have HE:=af hE;clear hK hT hR hC hE
  by_cases hlt:j < l.length
  ·
   have bX:(j:Int) < l.length:=by omega
   obtain ⟨b0,off,rfl,hcap,hb0,hrec⟩:=(HV.out.below oN HK.out.below).at (by omega);obtain ⟨cs,hcs,mY,hcl⟩:=hrec j hlt;obtain rfl:=mY;have c0:=hcl 0 (by omega);have c1:=hcl 1 (by omega);have c2:=hcl 2 (by omega);simp at c0 c1 c2;have fu:(l.length:Int)<=cap:=by omega
   clear hcl hcs hrec;have Ja:=HE.out;rw [yX hlt] at Ja;have qO:=af Ja;have X0:=af (yY (side:=k.ins) hlt);have rW:=af (yZ (seen:=k.seen) hlt);have hpz:=Fa.out l[j] (List.getElem_mem hlt);generalize l[j]=p at *;clear Ja;rw [AL] at qO;have hsl:=AO hj HN.out;obtain ⟨sn,hsn⟩:∃ x,bK k.seen (l.take j)=x:=⟨_,rfl⟩;obtain ⟨sd,hsd⟩:∃ x,aY k.ins (l.take j)=x:=⟨_,rfl⟩;rw [hsn,hsd] at qO HC;rw [hsn] at rW hsl;rw [hsd] at X0;clear hsn hsd HE;have hbX:=au wr (.cells #[.string p.name,.int .i64 p.aW,.int .i64 p.port] 79);have hX:dZ (wr.alloc (.cells #[.string p.name,.int .i64 p.aW,.int .i64 p.port] 79)) (ext q wr.heap.size 8) 8 wr.heap.size 79 #[.string p.name,.int .i64 p.aW,.int .i64 p.port]:=⟨heap_alloc_new wr _,dI (Nat.le_refl _)⟩;have Qd:=(Turn.of_below q 8 hbX).mono (D:=jS) (fun _ h=>h.elim);have zb:=af (HK.out.of_below 8 hbX);have HT2:=af (HT.out.trans Qd (fun _ h=>h));have HR2:=af (HR.out.turn (Turn.of_below q 8 hbX) (fun h=>h));have BB:=af (HC.out.below 8 hbX);have HX:=af hX;clear hbX hX Qd HK HT HR HC;go_wp2_with fail;refine (xP _ (ext q wr.heap.size 8) C B X ⟨sn,sd,k.outs⟩ p.name hpz hsl BB.out).mono ?_;rintro e w4 ⟨rfl,o4,WE,WG⟩;have T4:=WE.mono (D:=jS) (fun x e=>.inl e);have KX:=af (zb.out.turn T4 (by unfold jS;omega));have MG:=af (HT2.out.trans T4 (fun _ h=>h));have HR4:=af (HR2.out.turn T4 (by unfold jS;omega));have Ot:=af (HX.out.turn T4 (by unfold jS;omega));have KY:=af WG;clear WE T4 WG zb HT2 HR2 BB HX;obtain ⟨ne,hne⟩:∃ x,lg sn p.name=x:=⟨_,rfl⟩;rw [show lg (kL.seen ⟨sn,sd,k.outs⟩) p.name=ne from hne] at KY ⊢;rw [hne] at qO;clear hne
   by_cases h0:ne=0
   ·
    subst h0;have Sy:=KY.out rfl;obtain ⟨gI,tZ⟩:=Sy.ins;have Fb:=af Sy;have AP:=af tZ;have x1:=Ot.out.cell 1 _ rfl;have x2:=Ot.out.cell 2 _ rfl;rw [if_neg (by simp)] at qO;clear Sy tZ KY;go_wp2_with fail;refine (tY _ o4 3 4 X.vI sd gI p.aW p.port (by decide) AP.out).mono ?_;rintro e w5 ⟨rfl,T5,hS5⟩;have jc:=af (KX.out.turn T5 (by decide));have zI:=af (MG.out.trans T5 (fun x e=>by subst e;unfold jS;omega));have qP:=af (HR4.out.turn T5 (by decide));have wG:=af (fun (e:gD sd p.aW p.port=0)=>Fb.out.WB T5 (hS5 e));clear T5 hS5 KX MG HR4 Ot Fb AP x1 x2;obtain ⟨te,hte⟩:∃ x,gD sd p.aW p.port=x:=⟨_,rfl⟩;rw [hte] at qO wG ⊢;clear hte
    by_cases h0:te=0
    ·
     subst h0;have oJ:=af (wG.out rfl);rw [if_neg (by simp)] at qO;have HE2:Hid (dJ (bK k.seen (l.take (j+1))) (aY k.ins (l.take (j+1))) (l.drop (j+1))=E):=af (by rw [rW.out,X0.out];exact qO.out);have xq:Hid (bZ w5 o4 C B X ⟨bK k.seen (l.take (j+1)),aY k.ins (l.take (j+1)),k.outs⟩):=af (by rw [rW.out,X0.out];exact oJ.out);have hnn:=HN.out;clear wG oJ qO;go_wp2;go_roundw
     case rel=>exact ⟨j+1,o4,hlt,by go_num,jc.out,zI.out,qP.out,xq.out,HE2.out⟩
     case measure=>simp [intOf];omega
    ·
     have e:E=te:=by rw [<- qO.out,if_pos h0]
     subst e;have z0:=qP.out.cell 0 _ rfl;have z1:=qP.out.cell 1 _ rfl;have z2:=qP.out.cell 2 _ rfl;have f0:=qP.out.frozen 0;have f1:=qP.out.frozen 1;have f2:=qP.out.frozen 2;go_wp2;refine bodyPost_ret_by (aK rfl _ _ _ _ _ _ _ rfl (dn qP.out) Tryz.underlying110 rfl (by kernel_rfl)) rfl ?_;exact ⟨⟨_,_,_,rfl⟩,_,zI.out.late 7 (dF (by have:=nV.out;omega) _ _ _),fun h=>absurd h h0⟩
   ·
    have e:E=ne:=by rw [<- qO.out,if_pos h0]
    subst e;have z0:=HR4.out.cell 0 _ rfl;have z1:=HR4.out.cell 1 _ rfl;have z2:=HR4.out.cell 2 _ rfl;have f0:=HR4.out.frozen 0;have f1:=HR4.out.frozen 1;have f2:=HR4.out.frozen 2;go_wp2;refine bodyPost_ret_by (aK rfl _ _ _ _ _ _ _ rfl (dn HR4.out) Tryz.underlying110 rfl (by kernel_rfl)) rfl ?_;exact ⟨⟨_,_,_,rfl⟩,_,MG.out.late 7 (dF (by have:=nV.out;omega) _ _ _),fun h=>absurd h h0⟩
  ·
   obtain rfl:j=l.length:=by omega
   have hfin:=HE.out;rw [List.drop_length,List.take_length] at hfin;obtain rfl:E=0:=hfin.symm;have Jb:=HC.out;rw [List.take_length,] at Jb;have KZ:=af Jb;clear hfin Jb;have z0:=HR.out.cell 0 _ rfl;have z1:=HR.out.cell 1 _ rfl;have z2:=HR.out.cell 2 _ rfl;have f0:=HR.out.frozen 0;have f1:=HR.out.frozen 1;have f2:=HR.out.frozen 2;go_wp2;refine bodyPost_ret_by (aK rfl _ _ _ _ _ _ _ rfl (dn HR.out) Tryz.underlying110 rfl (by kernel_rfl)) rfl ?_;exact ⟨⟨_,_,_,rfl⟩,_,HT.out.late 7 (dF (by have:=nV.out;omega) _ _ _),fun _=>KZ.out.spot HR.out _ _ _⟩
def uQ (s:ByteArray)(n1 n2 n3 n4:Nat):Int:=if !nameP s then 82 else if n1=0 then 80 else if 32 < n1 then 81 else if 96 < n2 then 81 else if 16 < n3 then 81 else if 16 < n4 then 81 else 0
theorem MH (w:World)(o:Col)(C B:Nat)(X:mK)(k:kL)(a1 a2 a3 a4:Option Addr)(n1 n2 n3 n4 c1 c2 c3 c4:Nat)(h1:X.va=.slice a1 n1 c1)(h2:X.ve=.slice a2 n2 c2)(h3:X.vi=.slice a3 n3 c3)(h4:X.vo=.slice a4 n4 c4)(hs:X.name.size<=4611686018427387904)(h:bZ w o C B X k) :
  Calls Tryz.prog 55 #[.pointer (some ⟨C,0,none⟩)] w (I9 w o C B X (uQ X.name n1 n2 n3 n4) k):=by
 obtain ⟨E,hE⟩:∃ E,uQ X.name n1 n2 n3 n4=E:=⟨_,rfl⟩;rw [hE];have HE:=af hE;have HS:=af hs;have hbR:=au w (.cells #[.int .u8 0,.int .i64 0,.int .i64 0] 110);have hC0:=h.below 7 hbR;obtain ⟨q0,q1,q2,q3,q4,_⟩:=hC0.cells;rw [h1] at q1;rw [h2] at q2;rw [h3] at q3;rw [h4] at q4;have HT0:=af ((Turn.of_below o 7 hbR).mono (D:=gm) (fun _ h=>h.elim));have mD:=af hC0;have vR:=af (qg w o 7);clear hE hs h hbR hC0 h1 h2 h3 h4;go_enter Tryz.func55,Tryz.ntmps55;go_wp2_with fail;obtain ⟨R,hR⟩:∃ R,w.heap.size=R:=⟨_,rfl⟩;have nV:=af hR;have WH:=au (w.alloc (.cells #[.int .u8 0,.int .i64 0,.int .i64 0] 110)) (.cells #[.string X.name,.slice a1 n1 c1,.slice a2 n2 c2,.slice a3 n3 c3,.slice a4 n4 c4] 26);have hG:=heap_alloc_new (w.alloc (.cells #[.int .u8 0,.int .i64 0,.int .i64 0] 110)) (.cells #[.string X.name,.slice a1 n1 c1,.slice a2 n2 c2,.slice a3 n3 c3,.slice a4 n4 c4] 26);rw [World.size_alloc] at hG;have HT1:=af (HT0.out.trans ((Turn.of_below _ 8 WH).mono (D:=gm) (fun _ h=>h.elim)) (fun _ h=>h));have HR1:=af (vR.out.turn (Turn.of_below _ 8 WH) (fun h=>h));have KV:=af (mD.out.below 8 WH);have HG:=af hG;rw [hR] at HR1 HT1 KV HG;clear WH hG q0 q1 q2 q3 q4 HT0 mD vR;refine (Ga _ X.name HS.out).mono ?_;rintro e w2 ⟨rfl,hb2⟩;have HT2:=af (HT1.out.trans ((Turn.of_below _ 9 hb2).mono (D:=gm) (fun _ h=>h.elim)) (fun _ h=>h));have HR2:=af (HR1.out.turn (Turn.of_below _ 9 hb2) (fun h=>h));have BB:=af (KV.out.below 9 hb2);have hG2:=aN HG.out (aG.of_below hb2 (fun _=>False)) (fun h=>h);have q1:=ah w2 _ hG2 1 _ rfl;have q2:=ah w2 _ hG2 2 _ rfl;have q3:=ah w2 _ hG2 3 _ rfl;have q4:=ah w2 _ hG2 4 _ rfl;clear hb2 hG2 HT1 HR1 KV HG;obtain ⟨np,hnp⟩:∃ x,nameP X.name=x:=⟨_,rfl⟩;rw [hnp,hR];have X3:=af hnp;clear hnp hR;cases np with
 | false =>
  have e:E=82:=by rw [<- HE.out,uQ,X3.out];simp []
  subst e;have z0:=HR2.out.cell 0 _ rfl;have z1:=HR2.out.cell 1 _ rfl;have z2:=HR2.out.cell 2 _ rfl;have f0:=HR2.out.frozen 0;have f1:=HR2.out.frozen 1;have f2:=HR2.out.frozen 2;go_wp2;refine bodyPost_ret_by (aK rfl _ _ _ _ _ _ _ rfl (dn HR2.out) Tryz.underlying110 rfl (by kernel_rfl)) rfl ?_;exact ⟨⟨_,_,_,rfl⟩,_,HT2.out.late 7 (dF (by have:=nV.out;omega) _ _ _),fun h=>by cases h⟩
 | true =>
  by_cases d1:n1=0
  ·
   have d1i:((n1:Int) == 0)=true:=by rw [beq_iff_eq];omega
   have e:E=80:=by rw [<- HE.out,uQ,X3.out];simp [d1]
   subst e;have z0:=HR2.out.cell 0 _ rfl;have z1:=HR2.out.cell 1 _ rfl;have z2:=HR2.out.cell 2 _ rfl;have f0:=HR2.out.frozen 0;have f1:=HR2.out.frozen 1;have f2:=HR2.out.frozen 2;go_wp2;refine bodyPost_ret_by (aK rfl _ _ _ _ _ _ _ rfl (dn HR2.out) Tryz.underlying110 rfl (by kernel_rfl)) rfl ?_;exact ⟨⟨_,_,_,rfl⟩,_,HT2.out.late 7 (dF (by have:=nV.out;omega) _ _ _),fun h=>by cases h⟩
  have d1i:((n1:Int) == 0)=false:=by rw [beq_eq_false_iff_ne];omega
  by_cases d2:32 < n1
  ·
   have d2i:(32:Int) < n1:=by omega
   have e:E=81:=by rw [<- HE.out,uQ,X3.out];simp [d1,d2]
   subst e;have z0:=HR2.out.cell 0 _ rfl;have z1:=HR2.out.cell 1 _ rfl;have z2:=HR2.out.cell 2 _ rfl;have f0:=HR2.out.frozen 0;have f1:=HR2.out.frozen 1;have f2:=HR2.out.frozen 2;go_wp2;refine bodyPost_ret_by (aK rfl _ _ _ _ _ _ _ rfl (dn HR2.out) Tryz.underlying110 rfl (by kernel_rfl)) rfl ?_;exact ⟨⟨_,_,_,rfl⟩,_,HT2.out.late 7 (dF (by have:=nV.out;omega) _ _ _),fun h=>by cases h⟩
  have d2i:¬ (32:Int) < n1:=by omega
  by_cases d3:96 < n2
  ·
   have d3i:(96:Int) < n2:=by omega
   have e:E=81:=by rw [<- HE.out,uQ,X3.out];simp [d1,d2,d3]
   subst e;have z0:=HR2.out.cell 0 _ rfl;have z1:=HR2.out.cell 1 _ rfl;have z2:=HR2.out.cell 2 _ rfl;have f0:=HR2.out.frozen 0;have f1:=HR2.out.frozen 1;have f2:=HR2.out.frozen 2;go_wp2;refine bodyPost_ret_by (aK rfl _ _ _ _ _ _ _ rfl (dn HR2.out) Tryz.underlying110 rfl (by kernel_rfl)) rfl ?_;exact ⟨⟨_,_,_,rfl⟩,_,HT2.out.late 7 (dF (by have:=nV.out;omega) _ _ _),fun h=>by cases h⟩
  have d3i:¬ (96:Int) < n2:=by omega
  by_cases d4:16 < n3
  ·
   have d4i:(16:Int) < n3:=by omega
   have e:E=81:=by rw [<- HE.out,uQ,X3.out];simp [d1,d2,d3,d4]
   subst e;have z0:=HR2.out.cell 0 _ rfl;have z1:=HR2.out.cell 1 _ rfl;have z2:=HR2.out.cell 2 _ rfl;have f0:=HR2.out.frozen 0;have f1:=HR2.out.frozen 1;have f2:=HR2.out.frozen 2;go_wp2;refine bodyPost_ret_by (aK rfl _ _ _ _ _ _ _ rfl (dn HR2.out) Tryz.underlying110 rfl (by kernel_rfl)) rfl ?_;exact ⟨⟨_,_,_,rfl⟩,_,HT2.out.late 7 (dF (by have:=nV.out;omega) _ _ _),fun h=>by cases h⟩
  have d4i:¬ (16:Int) < n3:=by omega
  by_cases d5:16 < n4
  ·
   have d5i:(16:Int) < n4:=by omega
   have e:E=81:=by rw [<- HE.out,uQ,X3.out];simp [d1,d2,d3,d4,d5]
   subst e;have z0:=HR2.out.cell 0 _ rfl;have z1:=HR2.out.cell 1 _ rfl;have z2:=HR2.out.cell 2 _ rfl;have f0:=HR2.out.frozen 0;have f1:=HR2.out.frozen 1;have f2:=HR2.out.frozen 2;go_wp2;refine bodyPost_ret_by (aK rfl _ _ _ _ _ _ _ rfl (dn HR2.out) Tryz.underlying110 rfl (by kernel_rfl)) rfl ?_;exact ⟨⟨_,_,_,rfl⟩,_,HT2.out.late 7 (dF (by have:=nV.out;omega) _ _ _),fun h=>by cases h⟩
  have d5i:¬ (16:Int) < n4:=by omega
  have e:E=0:=by rw [<- HE.out,uQ,X3.out];simp [d1,d2,d3,d4,d5]
  subst e;have z0:=HR2.out.cell 0 _ rfl;have z1:=HR2.out.cell 1 _ rfl;have z2:=HR2.out.cell 2 _ rfl;have f0:=HR2.out.frozen 0;have f1:=HR2.out.frozen 1;have f2:=HR2.out.frozen 2;go_wp2;refine bodyPost_ret_by (aK rfl _ _ _ _ _ _ _ rfl (dn HR2.out) Tryz.underlying110 rfl (by kernel_rfl)) rfl ?_;exact ⟨⟨_,_,_,rfl⟩,_,HT2.out.late 7 (dF (by have:=nV.out;omega) _ _ _),fun _=>BB.out.spot HR2.out _ _ _⟩
theorem Gg {c:kL}{l:List jw}{j:Nat}(h:j < l.length):jG c (l.drop j)=if rJ c l[j]≠0 then rJ c l[j] else jG (yR c l[j]) (l.drop (j+1)):=by
 rw [List.drop_eq_getElem_cons h,jG]
theorem Gh {c:kL}{l:List jw}{j:Nat}(h:j < l.length):iy c (l.take (j+1))=yR (iy c (l.take j)) l[j]:=by
 rw [List.take_succ_eq_append_getElem h,iy,List.foldl_append];rfl
theorem Jc {c:kL}{e:jw}{r:Int}:(if rJ c e≠0 then rJ c e else r)=if gD c.outs e.src e.dw≠0 then gD c.outs e.src e.dw else if gD c.ins e.dst e.dx≠0 then gD c.ins e.dst e.dx else if 256 < e.start.length then 88 else r:=by
 unfold rJ
 by_cases h:gD c.outs e.src e.dw=0
 ·
  by_cases h2:gD c.ins e.dst e.dx=0
  ·
   by_cases h3:256 < e.start.length
   ·
    simp [h,h2,h3]
   ·
    simp [h,h2,h3]
  ·
   simp [h,h2]
 ·
  simp [h]
theorem Jd (w0 w:World)(o:Col)(C B:Nat)(X:mK)(k:kL)(l:List jw)(hv:pU w0 5 KL X.ve l)(K:Kept w0.heap.size o w0 w)(hn:l.length<=1000000)(h:bZ w o C B X k) :
  Calls Tryz.prog 57 #[.pointer (some ⟨C,0,none⟩)] w (I9 w o C B X (jG k l) (iy k l)):=by
 obtain ⟨ao,cap,uH⟩:=hv.slice;rw [uH] at hv;obtain ⟨E,hE⟩:∃ E,jG k l=E:=⟨_,rfl⟩;rw [hE];have HE:=af (show jG (iy k (l.take 0)) (l.drop 0)=E by simpa [iy] using hE);have HV:=af hv;have HVE:=af uH;have HN:=af hn;have hbR:=au w (.cells #[.int .u8 0,.int .i64 0,.int .i64 0] 110);have HT0:=af ((Turn.of_below o 7 hbR).mono (D:=gm) (fun _ h=>h.elim));have BD:=af (K.of_below 7 hbR);have hC0:=h.below 7 hbR;have q2:=hC0.cells.2.2.1;rw [uH] at q2;have mD:Hid (bZ _ _ C B X (iy k (l.take 0))):=af (by simpa [iy] using hC0);have vR:=af (qg w o 7);clear hE hv uH hn K h hbR hC0;go_enter Tryz.func57,Tryz.ntmps57;go_wp2_with fail;clear q2;obtain ⟨R,hR⟩:∃ R,w.heap.size=R:=⟨_,rfl⟩;have nV:=af hR;rw [hR] at vR HT0 BD mD ⊢;clear hR
 go_loopw [14] (fun i wr=>∃ (j:Nat) (q:Col),j<=l.length/\i=.int .i64 j/\Kept w0.heap.size q w0 wr/\Turn o q gm w wr/\dZ wr q 7 R 110 #[.int .u8 0,.int .i64 0,.int .i64 0]/\bZ wr q C B X (iy k (l.take j))/\jG (iy k (l.take j)) (l.drop j)=E) (fun i _=>l.length - (intOf i).toNat)
 case atStart=>exact ⟨0,_,Nat.zero_le _,rfl,BD.out,HT0.out,vR.out,mD.out,HE.out⟩
 case round =>
  clear BD HT0 vR mD HE;obtain ⟨j,q,hj,rfl,hK,hT,hR,hC,hE⟩:=hrel;have HK:=af hK;have HT:=af hT;have HR:=af hR;have HC:=af hC;have HE:=af hE;clear hK hT hR hC hE
  by_cases hlt:j < l.length
  ·
   have bX:(j:Int) < l.length:=by omega
   obtain ⟨b0,off,rfl,hcap,hb0,hrec⟩:=(HV.out.below yQ HK.out.below).at (by omega);obtain ⟨cs,hcs,mY,hcl⟩:=hrec j hlt;obtain ⟨xs,rfl,hst⟩:=mY;have c0:=hcl 0 (by omega);have c1:=hcl 1 (by omega);have c2:=hcl 2 (by omega);have c3:=hcl 3 (by omega);have c4:=hcl 4 (by omega);simp at c0 c1 c2 c3 c4;have fu:(l.length:Int)<=cap:=by omega
   have Ja:=HE.out;rw [Gg hlt] at Ja;have qO:=af Ja;have X4:=af (Gh (c:=k) hlt);have zH:Has wr xs (bB l[j].start):=hst;obtain ⟨sa,sc,hxs⟩:=Ints.slice zH;subst hxs;clear hcl hcs hrec hst zH Ja HE;generalize l[j]=p at *;rw [Jc] at qO;obtain ⟨kk,hkk⟩:∃ x,iy k (l.take j)=x:=⟨_,rfl⟩;rw [hkk] at qO HC X4;clear hkk;have hbX:=au wr (.cells #[.int .i64 p.src,.int .i64 p.dw,.int .i64 p.dst,.int .i64 p.dx,.slice sa p.start.length sc] 68);have hX:dZ (wr.alloc (.cells #[.int .i64 p.src,.int .i64 p.dw,.int .i64 p.dst,.int .i64 p.dx,.slice sa p.start.length sc] 68)) (ext q wr.heap.size 8) 8 wr.heap.size 68 #[.int .i64 p.src,.int .i64 p.dw,.int .i64 p.dst,.int .i64 p.dx,.slice sa p.start.length sc]:=⟨heap_alloc_new wr _,dI (Nat.le_refl _)⟩;have Qd:=(Turn.of_below q 8 hbX).mono (D:=gm) (fun _ h=>h.elim);have zb:=af (HK.out.of_below 8 hbX);have HT2:=af (HT.out.trans Qd (fun _ h=>h));have HR2:=af (HR.out.turn (Turn.of_below q 8 hbX) (fun h=>h));have BB:=af (HC.out.below 8 hbX);have HX:=af hX;have y0:=hX.cell 0 _ rfl;have y1:=hX.cell 1 _ rfl;have y7:=BB.out.cells.2.2.2.2.2.2.2;obtain ⟨gO,WI⟩:=BB.out.outs;have U3:=af WI;clear hbX hX Qd HK HT HR HC WI;go_wp2_with fail;refine aM (fun w'=>w'.cell? ⟨C,7,none⟩=some X.vO/\w'.cell? ⟨wr.heap.size,0,none⟩=some (.int .i64 p.src)/\w'.cell? ⟨wr.heap.size,1,none⟩=some (.int .i64 p.dw)) [0,1,2,3,4,5,6,7] [8,9] (by kernel_rfl) (by kernel_rfl) rfl (fun _ _ hx h=>⟨hx.cell h.1,hx.cell h.2.1,hx.cell h.2.2⟩) ⟨y7,y0,y1⟩ ?_;intro Q' hQ';simp only [pk];refine aD ?_;refine ax ?_;go_wp2_with fail;refine (tY _ (ext q wr.heap.size 8) 5 6 X.vO kk.outs gO p.src p.dw (by decide) (U3.out.turn (Turn.jE _ ⟨1,rfl⟩) (fun h=>h) (fun h=>h))).mono ?_;rintro e w5 ⟨rfl,T5,hS5⟩;have T6:=((Turn.jE (ext q wr.heap.size 8) ⟨1,rfl⟩).mono (D:=fun x=>x=6) (fun _ h=>h.elim)).trans T5 (fun _ h=>h);have jc:=af (zb.out.turn T6 (by decide));have zI:=af (HT2.out.trans T6 (fun x e=>by subst e;unfold gm;omega));have qP:=af (HR2.out.turn T6 (by decide));have X5:=af (HX.out.turn T6 (by decide));have Fb:=af (fun (e:gD kk.outs p.src p.dw=0)=>BB.out.WC T6 (hS5 e));clear T5 T6 hS5 zb HT2 HR2 HX BB U3 y0 y1 y7;generalize ext q wr.heap.size 8=q5 at *;obtain ⟨te,hte⟩:∃ x,gD kk.outs p.src p.dw=x:=⟨_,rfl⟩;rw [hte] at qO Fb ⊢;clear hte
   by_cases h0:te=0
   ·
    subst h0;have hC6:=Fb.out rfl;have wG:=af hC6;obtain ⟨gI,tZ⟩:=hC6.ins;have AP:=af tZ;have y2:=X5.out.cell 2 _ rfl;have y3:=X5.out.cell 3 _ rfl;have y6:=hC6.cells.2.2.2.2.2.2.1;rw [if_neg (by simp)] at qO;clear hC6 tZ Fb;go_wp2_with fail;refine aM (fun w'=>w'.cell? ⟨C,6,none⟩=some X.vI/\w'.cell? ⟨wr.heap.size,2,none⟩=some (.int .i64 p.dst)/\w'.cell? ⟨wr.heap.size,3,none⟩=some (.int .i64 p.dx)) [0,1,2,3,4,5,6,7] [8,9] (by kernel_rfl) (by kernel_rfl) rfl (fun _ _ hx h=>⟨hx.cell h.1,hx.cell h.2.1,hx.cell h.2.2⟩) ⟨y6,y2,y3⟩ ?_;intro Q' hQ';simp only [pk];refine aD ?_;refine ax ?_;go_wp2_with fail;refine (tY _ q5 3 4 X.vI kk.ins gI p.dst p.dx (by decide) (AP.out.turn (Turn.jE _ ⟨1,rfl⟩) (fun h=>h) (fun h=>h))).mono ?_;rintro e w7 ⟨rfl,T7,hS7⟩;have T8:=((Turn.jE q5 ⟨1,rfl⟩).mono (D:=fun x=>x=4) (fun _ h=>h.elim)).trans T7 (fun _ h=>h);have X6:=af (jc.out.turn T8 (by decide));have K5:=af (zI.out.trans T8 (fun x e=>by subst e;unfold gm;omega));have BO:=af (qP.out.turn T8 (by decide));have K6:=af (X5.out.turn T8 (by decide));have oJ:=af (fun (e:gD kk.ins p.dst p.dx=0)=>wG.out.WB T8 (hS7 e));clear T7 T8 hS7 jc zI qP X5 wG AP y2 y3 y6;obtain ⟨te,hte⟩:∃ x,gD kk.ins p.dst p.dx=x:=⟨_,rfl⟩;rw [hte] at qO oJ ⊢;clear hte
    by_cases h0:te=0
    ·
     subst h0;have xq:Hid (bZ w7 q5 C B X (yR kk p)):=af (oJ.out rfl);rw [if_neg (by simp)] at qO;have y4:=K6.out.cell 4 _ rfl
     by_cases aae:256 < p.start.length
     ·
      have TH:(256:Int) < p.start.length:=by omega
      have e:E=88:=by rw [<- qO.out,if_pos aae]
      subst e;have z0:=BO.out.cell 0 _ rfl;have z1:=BO.out.cell 1 _ rfl;have z2:=BO.out.cell 2 _ rfl;have f0:=BO.out.frozen 0;have f1:=BO.out.frozen 1;have f2:=BO.out.frozen 2;go_wp2;refine bodyPost_ret_by (aK rfl _ _ _ _ _ _ _ rfl (dn BO.out) Tryz.underlying110 rfl (by kernel_rfl)) rfl ?_;exact ⟨⟨_,_,_,rfl⟩,_,K5.out.late 7 (dF (by have:=nV.out;omega) _ _ _),fun h=>by cases h⟩
     ·
      have TH:¬ (256:Int) < p.start.length:=by omega
      rw [if_neg aae] at qO;have HE2:Hid (jG (iy k (l.take (j+1))) (l.drop (j+1))=E):=af (by rw [X4.out];exact qO.out);have KZ:Hid (bZ w7 q5 C B X (iy k (l.take (j+1)))):=af (by rw [X4.out];exact xq.out);have hnn:=HN.out;clear oJ xq qO;go_wp2;go_roundw
      case rel=>exact ⟨j+1,q5,hlt,by go_num,X6.out,K5.out,BO.out,KZ.out,HE2.out⟩
      case measure=>simp [intOf];omega
    ·
     have e:E=te:=by rw [<- qO.out,if_pos h0]
     subst e;have z0:=BO.out.cell 0 _ rfl;have z1:=BO.out.cell 1 _ rfl;have z2:=BO.out.cell 2 _ rfl;have f0:=BO.out.frozen 0;have f1:=BO.out.frozen 1;have f2:=BO.out.frozen 2;go_wp2;refine bodyPost_ret_by (aK rfl _ _ _ _ _ _ _ rfl (dn BO.out) Tryz.underlying110 rfl (by kernel_rfl)) rfl ?_;exact ⟨⟨_,_,_,rfl⟩,_,K5.out.late 7 (dF (by have:=nV.out;omega) _ _ _),fun h=>absurd h h0⟩
   ·
    have e:E=te:=by rw [<- qO.out,if_pos h0]
    subst e;have z0:=qP.out.cell 0 _ rfl;have z1:=qP.out.cell 1 _ rfl;have z2:=qP.out.cell 2 _ rfl;have f0:=qP.out.frozen 0;have f1:=qP.out.frozen 1;have f2:=qP.out.frozen 2;go_wp2;refine bodyPost_ret_by (aK rfl _ _ _ _ _ _ _ rfl (dn qP.out) Tryz.underlying110 rfl (by kernel_rfl)) rfl ?_;exact ⟨⟨_,_,_,rfl⟩,_,zI.out.late 7 (dF (by have:=nV.out;omega) _ _ _),fun h=>absurd h h0⟩
  ·
   obtain rfl:j=l.length:=by omega
   have hfin:=HE.out;rw [List.drop_length,List.take_length] at hfin;obtain rfl:E=0:=hfin.symm;have Jb:=HC.out;rw [List.take_length] at Jb;have KZ:=af Jb;clear hfin Jb;have z0:=HR.out.cell 0 _ rfl;have z1:=HR.out.cell 1 _ rfl;have z2:=HR.out.cell 2 _ rfl;have f0:=HR.out.frozen 0;have f1:=HR.out.frozen 1;have f2:=HR.out.frozen 2;go_wp2;refine bodyPost_ret_by (aK rfl _ _ _ _ _ _ _ rfl (dn HR.out) Tryz.underlying110 rfl (by kernel_rfl)) rfl ?_;exact ⟨⟨_,_,_,rfl⟩,_,HT.out.late 7 (dF (by have:=nV.out;omega) _ _ _),fun _=>KZ.out.spot HR.out _ _ _⟩
end Go.Proofs.YtepjkmnhmcjbkaaGreat
