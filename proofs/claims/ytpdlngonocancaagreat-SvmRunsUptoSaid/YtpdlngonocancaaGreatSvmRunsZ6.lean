import Derived.Test.YtpdlngonocancaaGreatSvmRunsZ3
import Derived.Test.YtpdlngonocancaaGreatSvmRunsZ5
import Derived.Deep.LoopGhost
import Derived.Test.YtpdlngonocancaaGreatSvmRunsZ2
set_option linter.unusedVariables false
set_option linter.unusedSimpArgs false
set_option maxRecDepth 100000
set_option maxHeartbeats 20000000
namespace Go.Proofs.YtpdlngonocancaaGreat
open Go.RowKit
def Bo (P:ay)(m:aH):Prop:=∀ k,k < P.parts.length→((partAt P k).tag=1→(partAt P k).params.length=(bB m k).1.length+1)∧((partAt P k).tag=8∨(partAt P k).tag=10→(bB m k).1.length=1)
theorem Lg {m:aH}{k:Nat}(h:k < m.bH.length):bB m k∈m.bH:=by
 unfold bB;rw [List.getElem?_eq_getElem h];exact List.getElem_mem h
theorem Bo.kp {P:ay}{m:aH}{F s:Nat}(h:Bo P m)(hP:tX P)(hf:iM P)(hm:lH P F s m){k:Nat}(hk:k < P.parts.length):Kp (partAt P k).tag (partAt P k).params (bB m k).1 :=
 ⟨jC hP.parts hk,jC hf hk,(hm.Cn _ (Lg (by rw [hm.bH];exact hk))).2.2,(h k hk).1,(h k hk).2⟩
theorem Nn {t:Int}{ps keep keep':List Int}{xss outs:List (List Int)}(hk:t=8∨t=10→keep.length=1)(hr:fK t ps keep xss=some (outs,keep')):keep'.length=keep.length:=by
 unfold fK at hr
 split at hr
 ·
  obtain ⟨y,hy,e⟩:=Option.map_eq_some_iff.1 hr;cases e
  rw [List.length_take,List.length_cons];omega
 repeat' split at hr
 all_goals first
  | (cases hr;rfl)
  | (obtain ⟨y,hy,e⟩:=Option.map_eq_some_iff.1 hr;cases e;rfl)
  | (cases hr;rw [hk (by omega)];rfl)
  | (cases hr)
theorem Np {t:Int}{ps keep:List Int}{n:Int}{xss:List (List Int)}(hk:t=8∨t=10→keep.length=1):(jh t ps keep n xss).keep.length=keep.length:=by
 unfold jh
 split
 ·
  split
  ·
   rename_i e
   exact Nn hk e
  ·
   rfl
 ·
  rfl
theorem Bo.bH {P:ay}{m m':aH}(h:Bo P m)(e:m'.bH=m.bH):Bo P m':=fun k hk=>by
 have:bB m' k=bB m k:=by unfold bB;rw [e]
 rw [this];exact h k hk
theorem Bo.does {P:ay}{m:aH}(h:Bo P m)(x:fG):Bo P (bK P x m).2.2:=by
 unfold bK zF rE pu rF mF
 repeat' split
 all_goals try exact h.bH rfl
 unfold pE
 repeat' split
 ·
  exact h
 ·
  exact h
 ·
  intro k hk
  by_cases e:k=x.a.toNat
  ·
   subst e;have hb:bB { m with hand:=(gI P x m).outs.flatten,bH:=m.bH.set x.a.toNat ((gI P x m).keep,(gI P x m).n) } x.a.toNat=((gI P x m).keep,(gI P x m).n)∨bB { m with hand:=(gI P x m).outs.flatten,bH:=m.bH.set x.a.toNat ((gI P x m).keep,(gI P x m).n) } x.a.toNat=bB m x.a.toNat:=by
    unfold bB;dsimp only
    by_cases hl:x.a.toNat < m.bH.length
    ·
     left;rw [List.getElem?_set_self hl];rfl
    ·
     right;rw [List.getElem?_eq_none (by rw [List.length_set];omega),List.getElem?_eq_none (by omega)]
   rcases hb with hb | hb
   ·
    rw [hb];have:=h x.a.toNat hk;have e2:(gI P x m).keep.length=(bB m x.a.toNat).1.length:=Np this.2;dsimp only;rw [e2];exact this
   ·
    rw [hb];exact h _ hk
  ·
   have hb:bB { m with hand:=(gI P x m).outs.flatten,bH:=m.bH.set x.a.toNat ((gI P x m).keep,(gI P x m).n) } k=bB m k:=by
    unfold bB;dsimp only;rw [List.getElem?_set_ne (Ne.symm e)]
   rw [hb];exact h k hk
theorem Bo.step {P:ay}{m:aH}(h:Bo P m):Bo P (aY P m).2:=by
 unfold aY
 split
 ·
  exact h
 ·
  split
  ·
   exact (h.does _).bH rfl
  ·
   split
   ·
    exact h
   ·
    exact h.bH rfl
theorem Bo.new {P:ay}(hP:tX P):Bo P (newP P):=fun k hk=>by
 have hb:bB (newP P) k=(eT (partAt P k).tag (partAt P k).params,0):=by
  unfold bB newP partAt;dsimp only;rw [List.getElem?_map,List.getElem?_eq_getElem hk];rfl
 have hg:=jC hP.parts hk;rw [hb];refine ⟨fun e=>?_,fun e=>?_⟩
 ·
  rw [e] at hg ⊢;have:1≤(partAt P k).params.length:=by unfold aF at hg;omega
  show _=(List.replicate ((partAt P k).params.length - 1) (0:Int)).length+1
  rw [List.length_replicate];omega
 ·
  rcases e with e | e <;> rw [e] <;> rfl
def qQ (l:List Int):Nat:=(l.map Int.toNat).sum
theorem Nq {l:List Int}{i:Nat}(h:i < l.length):qQ (l.take (i+1))=qQ (l.take i)+l[i].toNat:=by
 unfold qQ;rw [List.take_succ_eq_append_getElem h,List.map_append,List.sum_append];simp
theorem Wp {l:List Int}(i:Nat):qQ (l.take i)≤qQ l:=by
 have:l=l.take i ++ l.drop i:=(List.take_append_drop i l).symm;have e:=congrArg qQ this;unfold qQ at e ⊢;rw [List.map_append,List.sum_append] at e;omega
theorem Lh:∀ {l:List Int},(∀ r∈l,1≤r∧r≤64)→((qQ l:Nat):Int)=l.sum
 | [],_=>rfl
 | r :: l,h=>by
  have h1:=h r List.mem_cons_self;have h2:=Lh (l:=l) (fun x hx=>h x (List.mem_cons_of_mem _ hx));unfold qQ at h2 ⊢;rw [List.map_cons,List.sum_cons,List.sum_cons,← h2];omega
theorem yQ:∀ (is hand:List Int) (i:Nat) (h:i < is.length),dX (is.take (i+1)) hand=dX (is.take i) hand ++ [(hand.drop (qQ (is.take i))).take is[i].toNat]
 | [],_,_,h=>by simp at h
 | r :: rs,hand,0,_=>by simp [dX,qQ]
 | r :: rs,hand,i+1,h=>by
  have ih:=yQ rs (hand.drop r.toNat) i (by simpa using h);rw [List.take_succ_cons,dX,ih,List.take_succ_cons,dX];rw [List.drop_drop];simp [qQ]
structure eG where
 vp:Value
 vl:Value
 vo:Value
 mem:Value
 pos:Value
 has:Value
 hand:Value
 cs:Value
 ins:Nat
 outs:Nat
 acts:Value
 uH:List Value
 G8:List Value
 xK:List (List Value)
 op:Int
 kd:Int
 ln:Int
 lc:Value
 lh:Int
def zV (P:ay)(m:aH)(v:eG):List Value :=
 [.int .i64 P.memory,.int .i64 P.counters,.int .i64 P.ins,.int .i64 P.outs,v.vp,v.vl,v.vo,v.mem,v.pos,v.has,v.hand,v.cs,.slice (some ⟨v.ins,0,none⟩) m.fed.length m.fed.length,.slice (some ⟨v.outs,0,none⟩) m.out.length m.out.length,v.acts,.int .i64 m.next,.int .i64 m.periods,.int .i64 v.op,.int .u8 v.kd,.int .i64 v.ln,v.lc,.int .u8 v.lh]
def xM (m:aH):List Int:=m.lines.map fun l=>(l.pos:Int)
def uK (m:aH):List Int:=m.lines.map fun l=>(l.cnt:Int)
structure gF (w0 w:World) (o:Col) (M b:Nat) (P:ay) (m:aH) (v:eG):Prop where
 kept:Kept w0.heap.size o w0 w
 prog:bO w0 (.agg #[.int .i64 P.memory,.int .i64 P.counters,.int .i64 P.ins,.int .i64 P.outs,v.vp,v.vl,v.vo]) P
 blk:dY w o M b 81 (zV P m v).toArray
 mem:Own w o (M+1) 3 1 v.mem m.mem.length (aV m.mem)
 pos:Own w o (M+2) 3 1 v.pos m.lines.length (aV (xM m))
 has:Own w o (M+3) 3 1 v.has m.lines.length (aV (uK m))
 hand:bF w o (M+4) 3 v.hand (aV m.hand)
 cs:Own w o (M+5) 3 1 v.cs m.cs.length (aV m.cs)
 ins:kD w o (M+6) (M+16) v.ins m.fed v.uH
 outs:kD w o (M+7) (M+32) v.outs m.out v.G8
 acts:Own w o (M+8) 83 6 v.acts P.parts.length v.xK.flatten
 wO:v.xK.length=P.parts.length
 act:∀ k (h:k < P.parts.length),(v.xK[k]'(by rw [wO];exact h)).length=6∧uG w o (M+9) (.agg (v.xK[k]'(by rw [wO];exact h)).toArray) (partAt P k).tag (partAt P k).params (bB m k).1 (bB m k).2
 Nr:∀ k (h:k < P.lines.length),((aC m k).base:Int)=P.lines[k].base∧((aC m k).size:Int)=P.lines[k].size
 small:m.fed.length≤16∧m.out.length≤16∧P.parts.length≤32
 last:(m.last=none∧v.lh≠3∧v.lh≠4)∨∃ e,m.last=some e∧(e.halt=3∨e.halt=4)∧v.op=e.op∧v.kd=e.kind∧v.ln=e.line∧(∃ a c,v.lc=.slice a 0 c)∧v.lh=e.halt
def bM (M x:Nat):Prop:=M≤x∧x < M+64
def dI (M x:Nat):Prop:=M≤x∧x < M+70
theorem bM.c {M:Nat}(x:Nat)(h:bM M x):dI M x:=⟨h.1,by have:=h.2;omega⟩
theorem dI.one {M k:Nat}(h:k < 70)(x:Nat)(e:x=M+k):dI M x:=⟨by omega,by omega⟩
theorem kI {M k:Nat}(h:64≤k)(x:Nat)(e:x=M+k):¬ bM M x:=fun hx=>by have:=hx.2;omega
theorem Yk (M:Nat){k:Nat}(h:k < 64):bM M (M+k):=⟨by omega,by omega⟩
section
variable {w0 w w1:World} {o o1:Col} {C:Nat→Prop} {M b:Nat} {P:ay} {m:aH} {v:eG}
theorem gF.turn (h:gF w0 w o M b P m v)(T:Turn o o1 C w w1)(h0:¬ C 0)(hC:∀ k,C k→¬ bM M k):gF w0 w1 o1 M b P m v:=by
 have hn:∀ k,k < 64→¬ C (M+k):=fun k hk hc=>hC _ hc (Yk M hk)
 have hs:=h.small;exact ⟨h.kept.turn T h0,h.prog,h.blk.turn T (hn 0 (by omega)),h.mem.turn T (hn _ (by omega)),h.pos.turn T (hn _ (by omega)),h.has.turn T (hn _ (by omega)),h.hand.turn T (hn _ (by omega)),h.cs.turn T (hn _ (by omega)),h.ins.turn T (hn _ (by omega)) (fun k hk=>by rw [Nat.add_assoc];exact hn _ (by omega)),h.outs.turn T (hn _ (by omega)) (fun k hk=>by rw [Nat.add_assoc];exact hn _ (by omega)),h.acts.turn T (hn _ (by omega)),h.wO,fun k hk=>⟨(h.act k hk).1,(h.act k hk).2.turn T (hn _ (by omega))⟩,h.Nr,hs,h.last⟩
theorem gF.quiet (h:gF w0 w o M b P m v)(T:Turn o o1 (fun _=>False) w w1):gF w0 w1 o1 M b P m v:=h.turn T (fun h=>h) (fun _ h=>h.elim)
theorem gF.cell (h:gF w0 w o M b P m v)(i:Nat){u:Value}(hu:(zV P m v)[i]?=some u):w.cell? ⟨b,i,none⟩=some u:=h.blk.cell i u (by simpa using hu)
theorem gF.frozen (h:gF w0 w o M b P m v)(i:Nat):w.frozen? ⟨b,i,none⟩=false:=h.blk.frozen i
theorem gF.line (h:gF w0 w o M b P m v){k:Nat}(hk:k < P.lines.length):∃ g off cap x,v.vl=.slice (some ⟨g,off,none⟩) P.lines.length cap∧P.lines.length≤cap∧w.cell? ⟨g,off+k*3,none⟩=some (.int .i64 ((aC m k).base:Int))∧w.cell? ⟨g,off+k*3+1,none⟩=some (.int .i64 ((aC m k).size:Int))∧w.cell? ⟨g,off+k*3+2,none⟩=some x:=by
 obtain ⟨vp,vl,vo,e,-,hl,-⟩:=h.prog;have e1:vl=v.vl:=by
  injection e with e
  injection e with e
  simp only [List.cons.injEq,and_true] at e;exact e.2.2.2.2.2.1.symm
 subst e1;obtain ⟨ao,cap,e2⟩:=hl.slice;rw [e2] at hl;obtain ⟨g,off,rfl,hc,-,hrec⟩:=hl.at (by omega);obtain ⟨cs,-,⟨y,rfl,-⟩,hcl⟩:=hrec k hk;obtain ⟨g1,g2⟩:=h.Nr k hk;have c0:=cell_later h.kept.below (hcl 0 (by omega));have c1:=cell_later h.kept.below (hcl 1 (by omega));have c2:=cell_later h.kept.below (hcl 2 (by omega));simp [iV] at c0 c1 c2;exact ⟨g,off,cap,y,e2,hc,by rw [g1];exact c0,by rw [g2];exact c1,c2⟩
theorem jT {c n:Nat}{u:Value}{l:List Int}(h:Own w o c 3 1 u n (aV l)){k:Nat}(hk:k < l.length):∃ g cap,u=.slice (some ⟨g,0,none⟩) n cap∧n=l.length∧n≤cap∧w.cell? ⟨g,k,none⟩=some (.int .i64 (l[k]?.getD 0))∧w.frozen? ⟨g,k,none⟩=false:=by
 obtain ⟨s,cap,rfl⟩:=h.slice;have hn:=h.len;rw [aD] at hn;obtain ⟨_,hc,g,_,rfl,hcl,hf,_⟩:=bN h.1 (by simp;omega);refine ⟨g,cap,rfl,hn.symm,hc,?_,hf k⟩;exact hcl k _ (by simp [aV,hk])
theorem G9 (m:aH):(xM m).length=m.lines.length:=by simp [xM]
theorem Bp (m:aH):(uK m).length=m.lines.length:=by simp [uK]
theorem Li {k:Nat}(hk:k < m.lines.length):(xM m)[k]?.getD 0=((aC m k).pos:Int):=by simp [xM,aC,hk]
theorem Lj {k:Nat}(hk:k < m.lines.length):(uK m)[k]?.getD 0=((aC m k).cnt:Int):=by simp [uK,aC,hk]
theorem gF.aa5 (h:gF w0 w o M b P m v){k:Nat}(hk:k < m.lines.length):∃ g cap,v.pos=.slice (some ⟨g,0,none⟩) m.lines.length cap∧m.lines.length≤cap∧w.cell? ⟨g,k,none⟩=some (.int .i64 ((aC m k).pos:Int))∧w.frozen? ⟨g,k,none⟩=false:=by
 obtain ⟨g,cap,e,-,hc,p,f⟩:=jT h.pos (k:=k) (by rw [G9];exact hk);exact ⟨g,cap,e,hc,by rw [Li hk] at p;exact p,f⟩
theorem gF.jq (h:gF w0 w o M b P m v){k:Nat}(hk:k < m.lines.length):∃ g cap,v.has=.slice (some ⟨g,0,none⟩) m.lines.length cap∧m.lines.length≤cap∧w.cell? ⟨g,k,none⟩=some (.int .i64 ((aC m k).cnt:Int))∧w.frozen? ⟨g,k,none⟩=false:=by
 obtain ⟨g,cap,e,-,hc,p,f⟩:=jT h.has (k:=k) (by rw [Bp];exact hk);exact ⟨g,cap,e,hc,by rw [Lj hk] at p;exact p,f⟩
theorem qx {c n:Nat}{g cap:Nat}{l:List Int}(h:Own w o c 3 1 (.slice (some ⟨g,0,none⟩) n cap) n (aV l))(k:Nat)(x:Int):Own (w.setCell ⟨g,k,none⟩ (.int .i64 x)) o c 3 1 (.slice (some ⟨g,0,none⟩) n cap) n (aV (l.set k x))∧Turn o o (fun y=>y=c) w (w.setCell ⟨g,k,none⟩ (.int .i64 x)):=by
 have h1:=(h.1.stored k (.int .i64 x)).1;rw [show (aV l).set k (.int .i64 x)=aV (l.set k x) by simp [aV,List.map_set]] at h1;exact ⟨⟨h1,h.2⟩,⟨(aI.refl (fun k=>o k=c) w).setCell (p:=⟨g,k,none⟩) (fun _=>h.2 g rfl) _,fun _ _=>rfl⟩⟩
theorem He {l:List Int}{k:Nat}{a:Int}(h:l[k]?=some a):l.set k a=l:=by
 apply List.ext_getElem?
 intro i;rw [List.getElem?_set]
 split
 ·
  rename_i e
  subst e
  split
  ·
   exact h.symm
  ·
   rename_i h2
   rw [List.getElem?_eq_none (by omega)] at h;cases h
 ·
  rfl
theorem Bq {k j:Nat}{y:kT}(hk:k < m.lines.length):aC { m with lines:=m.lines.set k y } j=if j=k then y else aC m j:=by
 unfold aC
 by_cases e:j=k
 ·
  subst e;rw [if_pos rfl,List.getElem?_set_self hk];rfl
 ·
  rw [if_neg e,List.getElem?_set_ne (Ne.symm e)]
theorem gF.zX (h:gF w0 w o M b P m v)(h0:1≤M)(n:Nat):gF w0 (w.setCell ⟨b,15,none⟩ (.int .i64 (n:Int))) o M b P { m with next:=n } v∧Turn o o (bM M) w (w.setCell ⟨b,15,none⟩ (.int .i64 (n:Int))):=by
 obtain ⟨hb,T⟩:=h.blk.set 15 (.int .i64 (n:Int));rw [List.setIfInBounds_toArray] at hb;exact ⟨⟨h.kept.turn T (by have:=h0;omega),h.prog,hb,h.mem.turn T (by omega),h.pos.turn T (by omega),h.has.turn T (by omega),h.hand.turn T (by omega),h.cs.turn T (by omega),h.ins.turn T (by omega) (fun k _=>by have:=h.small;omega),h.outs.turn T (by omega) (fun k _=>by have:=h.small;omega),h.acts.turn T (by omega),h.wO,fun k hk=>⟨(h.act k hk).1,(h.act k hk).2.turn T (by omega)⟩,h.Nr,h.small,h.last⟩,T.mono (fun x hx=>by unfold bM;omega)⟩
theorem gF.JY (h:gF w0 w o M b P m v)(h0:1≤M)(n:Nat):gF w0 (w.setCell ⟨b,16,none⟩ (.int .i64 (n:Int))) o M b P { m with periods:=n } v∧Turn o o (bM M) w (w.setCell ⟨b,16,none⟩ (.int .i64 (n:Int))):=by
 obtain ⟨hb,T⟩:=h.blk.set 16 (.int .i64 (n:Int));rw [List.setIfInBounds_toArray] at hb;exact ⟨⟨h.kept.turn T (by have:=h0;omega),h.prog,hb,h.mem.turn T (by omega),h.pos.turn T (by omega),h.has.turn T (by omega),h.hand.turn T (by omega),h.cs.turn T (by omega),h.ins.turn T (by omega) (fun k _=>by have:=h.small;omega),h.outs.turn T (by omega) (fun k _=>by have:=h.small;omega),h.acts.turn T (by omega),h.wO,fun k hk=>⟨(h.act k hk).1,(h.act k hk).2.turn T (by omega)⟩,h.Nr,h.small,h.last⟩,T.mono (fun x hx=>by unfold bM;omega)⟩
theorem gF.iW {hv:Value}{l:List Int}(h:gF w0 w o M b P m v)(h0:1≤M)(T:Turn o o1 (fun x=>x=M+4) w w1)(hh:bF w1 o1 (M+4) 3 hv (aV l)):gF w0 (w1.setCell ⟨b,10,none⟩ hv) o1 M b P { m with hand:=l } { v with hand:=hv }∧Turn o o1 (bM M) w (w1.setCell ⟨b,10,none⟩ hv):=by
 obtain ⟨hb,T1⟩:=(h.blk.turn T (by omega)).set 10 hv;rw [List.setIfInBounds_toArray] at hb;have T2:Turn o o1 (fun x=>x=M+4∨x=M) w (w1.setCell ⟨b,10,none⟩ hv):=(T.mono (fun x hx=>Or.inl hx)).trans T1 (fun x hx=>Or.inr hx);exact ⟨⟨h.kept.turn T2 (by have:=h0;omega),h.prog,hb,h.mem.turn T2 (by omega),h.pos.turn T2 (by omega),h.has.turn T2 (by omega),hh.turn T1 (by omega),h.cs.turn T2 (by omega),h.ins.turn T2 (by omega) (fun k _=>by have:=h.small;omega),h.outs.turn T2 (by omega) (fun k _=>by have:=h.small;omega),h.acts.turn T2 (by omega),h.wO,fun k hk=>⟨(h.act k hk).1,(h.act k hk).2.turn T2 (by omega)⟩,h.Nr,h.small,h.last⟩,T2.mono (fun x hx=>by unfold bM;omega)⟩
theorem gF.Bd {g cap:Nat}(h:gF w0 w o M b P m v)(h0:1≤M)(hg:v.mem=.slice (some ⟨g,0,none⟩) m.mem.length cap)(k:Nat)(x:Int):gF w0 (w.setCell ⟨g,k,none⟩ (.int .i64 x)) o M b P { m with mem:=m.mem.set k x } v∧Turn o o (bM M) w (w.setCell ⟨g,k,none⟩ (.int .i64 x)):=by
 have hr:=h.mem;rw [hg] at hr;obtain ⟨hr,T⟩:=qx hr k x;exact ⟨⟨h.kept.turn T (by have:=h0;omega),h.prog,h.blk.turn T (by omega),by rw [hg];simpa using hr,h.pos.turn T (by omega),h.has.turn T (by omega),h.hand.turn T (by omega),h.cs.turn T (by omega),h.ins.turn T (by omega) (fun k _=>by have:=h.small;omega),h.outs.turn T (by omega) (fun k _=>by have:=h.small;omega),h.acts.turn T (by omega),h.wO,fun k hk=>⟨(h.act k hk).1,(h.act k hk).2.turn T (by omega)⟩,h.Nr,h.small,h.last⟩,T.mono (fun x hx=>by unfold bM;omega)⟩
theorem gF.GX {g cap:Nat}(h:gF w0 w o M b P m v)(h0:1≤M)(hg:v.cs=.slice (some ⟨g,0,none⟩) m.cs.length cap)(k:Nat)(x:Int):gF w0 (w.setCell ⟨g,k,none⟩ (.int .i64 x)) o M b P { m with cs:=m.cs.set k x } v∧Turn o o (bM M) w (w.setCell ⟨g,k,none⟩ (.int .i64 x)):=by
 have hr:=h.cs;rw [hg] at hr;obtain ⟨hr,T⟩:=qx hr k x;exact ⟨⟨h.kept.turn T (by have:=h0;omega),h.prog,h.blk.turn T (by omega),h.mem.turn T (by omega),h.pos.turn T (by omega),h.has.turn T (by omega),h.hand.turn T (by omega),by rw [hg];simpa using hr,h.ins.turn T (by omega) (fun k _=>by have:=h.small;omega),h.outs.turn T (by omega) (fun k _=>by have:=h.small;omega),h.acts.turn T (by omega),h.wO,fun k hk=>⟨(h.act k hk).1,(h.act k hk).2.turn T (by omega)⟩,h.Nr,h.small,h.last⟩,T.mono (fun x hx=>by unfold bM;omega)⟩
theorem gF.setPos {g cap k:Nat}(h:gF w0 w o M b P m v)(h0:1≤M)(hg:v.pos=.slice (some ⟨g,0,none⟩) m.lines.length cap)(hk:k < m.lines.length)(x:Nat):gF w0 (w.setCell ⟨g,k,none⟩ (.int .i64 (x:Int))) o M b P { m with lines:=m.lines.set k { aC m k with pos:=x } } v∧Turn o o (bM M) w (w.setCell ⟨g,k,none⟩ (.int .i64 (x:Int))):=by
 have hr:=h.pos;rw [hg] at hr;obtain ⟨hr,T⟩:=qx hr k (x:Int);have e1:xM { m with lines:=m.lines.set k { aC m k with pos:=x } }=(xM m).set k (x:Int):=by simp [xM,List.map_set]
 have e2:uK { m with lines:=m.lines.set k { aC m k with pos:=x } }=uK m:=by
  unfold uK;simp only [List.map_set];rw [He (by simp [aC,hk])]
 have e3:∀ j,(aC { m with lines:=m.lines.set k { aC m k with pos:=x } } j).base=(aC m j).base∧(aC { m with lines:=m.lines.set k { aC m k with pos:=x } } j).size=(aC m j).size:=fun j=>by
  rw [Bq hk]
  split
  ·
   rename_i e;subst e;exact ⟨rfl,rfl⟩
  ·
   exact ⟨rfl,rfl⟩
 exact ⟨⟨h.kept.turn T (by have:=h0;omega),h.prog,h.blk.turn T (by omega),h.mem.turn T (by omega),by rw [e1,hg];simpa using hr,by rw [e2];simpa using h.has.turn T (by omega),h.hand.turn T (by omega),h.cs.turn T (by omega),h.ins.turn T (by omega) (fun k _=>by have:=h.small;omega),h.outs.turn T (by omega) (fun k _=>by have:=h.small;omega),h.acts.turn T (by omega),h.wO,fun k hk=>⟨(h.act k hk).1,(h.act k hk).2.turn T (by omega)⟩,fun j hj=>by rw [(e3 j).1,(e3 j).2];exact h.Nr j hj,h.small,h.last⟩,T.mono (fun x hx=>by unfold bM;omega)⟩
theorem gF.ES {g cap k:Nat}(h:gF w0 w o M b P m v)(h0:1≤M)(hg:v.has=.slice (some ⟨g,0,none⟩) m.lines.length cap)(hk:k < m.lines.length)(x:Nat):gF w0 (w.setCell ⟨g,k,none⟩ (.int .i64 (x:Int))) o M b P { m with lines:=m.lines.set k { aC m k with cnt:=x } } v∧Turn o o (bM M) w (w.setCell ⟨g,k,none⟩ (.int .i64 (x:Int))):=by
 have hr:=h.has;rw [hg] at hr;obtain ⟨hr,T⟩:=qx hr k (x:Int);have e1:uK { m with lines:=m.lines.set k { aC m k with cnt:=x } }=(uK m).set k (x:Int):=by simp [uK,List.map_set]
 have e2:xM { m with lines:=m.lines.set k { aC m k with cnt:=x } }=xM m:=by
  unfold xM;simp only [List.map_set];rw [He (by simp [aC,hk])]
 have e3:∀ j,(aC { m with lines:=m.lines.set k { aC m k with cnt:=x } } j).base=(aC m j).base∧(aC { m with lines:=m.lines.set k { aC m k with cnt:=x } } j).size=(aC m j).size:=fun j=>by
  rw [Bq hk]
  split
  ·
   rename_i e;subst e;exact ⟨rfl,rfl⟩
  ·
   exact ⟨rfl,rfl⟩
 exact ⟨⟨h.kept.turn T (by have:=h0;omega),h.prog,h.blk.turn T (by omega),h.mem.turn T (by omega),by rw [e2];simpa using h.pos.turn T (by omega),by rw [e1,hg];simpa using hr,h.hand.turn T (by omega),h.cs.turn T (by omega),h.ins.turn T (by omega) (fun k _=>by have:=h.small;omega),h.outs.turn T (by omega) (fun k _=>by have:=h.small;omega),h.acts.turn T (by omega),h.wO,fun k hk=>⟨(h.act k hk).1,(h.act k hk).2.turn T (by omega)⟩,fun j hj=>by rw [(e3 j).1,(e3 j).2];exact h.Nr j hj,h.small,h.last⟩,T.mono (fun x hx=>by unfold bM;omega)⟩
theorem gF.Rv {k:Nat}{r:Value}{l:List Int}(h:gF w0 w o M b P m v)(h0:1≤M)(hk:k < m.fed.length)(T:Turn o o1 (fun x=>x=M+16+k) w w1)(hr:bF w1 o1 (M+16+k) 3 r (aV l)):gF w0 (w1.setCell ⟨v.ins,k,none⟩ r) o1 M b P { m with fed:=m.fed.set k l } { v with uH:=v.uH.set k r }∧Turn o o1 (bM M) w (w1.setCell ⟨v.ins,k,none⟩ r):=by
 have h16:=h.small;obtain ⟨h1,T2⟩:=h.ins.put hk T (by omega) hr;have hb:zV P { m with fed:=m.fed.set k l } { v with uH:=v.uH.set k r }=zV P m v:=by
  unfold zV;simp only [List.length_set]
 exact ⟨⟨h.kept.turn T2 (by have:=h0;omega),h.prog,by rw [hb];exact h.blk.turn T2 (by omega),h.mem.turn T2 (by omega),h.pos.turn T2 (by omega),h.has.turn T2 (by omega),h.hand.turn T2 (by omega),h.cs.turn T2 (by omega),h1,h.outs.turn T2 (by omega) (fun k _=>by have:=h.small;omega),h.acts.turn T2 (by omega),h.wO,fun k hk=>⟨(h.act k hk).1,(h.act k hk).2.turn T2 (by omega)⟩,h.Nr,by simp only [List.length_set];exact h.small,h.last⟩,T2.mono (fun x hx=>by unfold bM;omega)⟩
theorem gF.Wq {k:Nat}{r:Value}{l:List Int}(h:gF w0 w o M b P m v)(h0:1≤M)(hk:k < m.out.length)(T:Turn o o1 (fun x=>x=M+32+k) w w1)(hr:bF w1 o1 (M+32+k) 3 r (aV l)):gF w0 (w1.setCell ⟨v.outs,k,none⟩ r) o1 M b P { m with out:=m.out.set k l } { v with G8:=v.G8.set k r }∧Turn o o1 (bM M) w (w1.setCell ⟨v.outs,k,none⟩ r):=by
 have h16:=h.small;obtain ⟨h1,T2⟩:=h.outs.put hk T (by omega) hr;have hb:zV P { m with out:=m.out.set k l } { v with G8:=v.G8.set k r }=zV P m v:=by
  unfold zV;simp only [List.length_set]
 exact ⟨⟨h.kept.turn T2 (by have:=h0;omega),h.prog,by rw [hb];exact h.blk.turn T2 (by omega),h.mem.turn T2 (by omega),h.pos.turn T2 (by omega),h.has.turn T2 (by omega),h.hand.turn T2 (by omega),h.cs.turn T2 (by omega),h.ins.turn T2 (by omega) (fun k _=>by have:=h.small;omega),h1,h.acts.turn T2 (by omega),h.wO,fun k hk=>⟨(h.act k hk).1,(h.act k hk).2.turn T2 (by omega)⟩,h.Nr,by simp only [List.length_set];exact h.small,h.last⟩,T2.mono (fun x hx=>by unfold bM;omega)⟩
end
def Rw (k:Nat):Value:=.func (.func k) #[] #[]
def ET:List Value:=[Rw 76,Rw 77,Rw 78,Rw 79,Rw 80,Rw 81,Rw 82,Rw 83]
def zY (w:World)(o:Col)(M tb:Nat):Prop:=dY w o (M+209) tb 156 ET.toArray
def Ws (e:OZ)(cv:Value):Value:=.agg #[.int .i64 e.op,.int .u8 e.kind,.int .i64 e.line,cv,.int .u8 e.halt]
def dm (M x:Nat):Prop:=M≤x∧x < M+208
theorem gu.s {M:Nat}(x:Nat)(h:gu M x):dm M x:=by unfold gu at h;unfold dm;omega
theorem Mine.s {M:Nat}(x:Nat)(h:Mine M x):dm M x:=by unfold Mine at h;unfold dm;omega
theorem Hf {M k:Nat}(h:208≤k):¬ dm M (M+k):=by unfold dm;omega
def EU (w:World)(o:Col)(M b:Nat)(P:ay)(r:OZ × aH)(e:Ending)(w':World):Prop :=
 ∃ o' v' cv,e=.returned (Ws r.1 cv)∧Turn o o' (dm M) w w'∧aN w' o' M b P r.2 v'∧Own w' o' (M+210) 3 1 cv r.1.cells.length (aV r.1.cells)
theorem dF {w:World}{o:Col}{c R:Nat}{z0 z1 z2 z3 z4:Value}(h:dY w o c R 69 #[z0,z1,z2,z3,z4])(a0 a1 a2 a3 a4:Value) :
  dY (((((w.setCell ⟨R,0,none⟩ a0).setCell ⟨R,1,none⟩ a1).setCell ⟨R,2,none⟩ a2).setCell ⟨R,3,none⟩ a3).setCell ⟨R,4,none⟩ a4) o c R 69 #[a0,a1,a2,a3,a4] ∧
  Turn o o (fun x=>x=c) w (((((w.setCell ⟨R,0,none⟩ a0).setCell ⟨R,1,none⟩ a1).setCell ⟨R,2,none⟩ a2).setCell ⟨R,3,none⟩ a3).setCell ⟨R,4,none⟩ a4):=by
 obtain ⟨b0,T0⟩:=h.set 0 a0;obtain ⟨b1,T1⟩:=b0.set 1 a1;obtain ⟨b2,T2⟩:=b1.set 2 a2;obtain ⟨b3,T3⟩:=b2.set 3 a3;obtain ⟨b4,T4⟩:=b3.set 4 a4;exact ⟨b4,(((T0.trans T1 (fun _ h=>h)).trans T2 (fun _ h=>h)).trans T3 (fun _ h=>h)).trans T4 (fun _ h=>h)⟩
theorem Rx (w:World)(R:Nat)(a0 a1 a2 a3 a4:Value):aI (fun k=>k=R) w (((((w.setCell ⟨R,0,none⟩ a0).setCell ⟨R,1,none⟩ a1).setCell ⟨R,2,none⟩ a2).setCell ⟨R,3,none⟩ a3).setCell ⟨R,4,none⟩ a4) :=
 (((((aI.refl (fun k=>k=R) w).setCell (p:=⟨R,0,none⟩) (fun _=>rfl) a0).setCell (p:=⟨R,1,none⟩) (fun _=>rfl) a1).setCell (p:=⟨R,2,none⟩) (fun _=>rfl) a2).setCell (p:=⟨R,3,none⟩) (fun _=>rfl) a3).setCell (p:=⟨R,4,none⟩) (fun _=>rfl) a4
theorem Turn.fresh {o o':Col}{C:Nat→Prop}{w w1 w2:World}{R:Nat}(T:Turn o o' C w w1)(m:aI (fun k=>k=R) w1 w2)(hR:w.heap.size≤R):Turn o o' C w w2 :=
 ⟨T.mods.trans m (fun _ _ h=>h) (fun n hn e=>by omega),T.same⟩
theorem aN.setLast {w:World}{o:Col}{M b:Nat}{P:ay}{m:aH}{v:bV}(h:aN w o M b P m v)(hl:m.last=none)(e:OZ)(_he:e.cells=[]) :
  aN ((((((w.setCell ⟨b,11,none⟩ (.bool true)).setCell ⟨b,12,none⟩ (.int .i64 e.op)).setCell ⟨b,13,none⟩ (.int .u8 e.kind)).setCell ⟨b,14,none⟩ (.int .i64 e.line)).setCell ⟨b,15,none⟩ (.slice none 0 0)).setCell ⟨b,16,none⟩ (.int .u8 e.halt)) o M b P { m with last:=some e } v ∧
  Turn o o (Mine M) w ((((((w.setCell ⟨b,11,none⟩ (.bool true)).setCell ⟨b,12,none⟩ (.int .i64 e.op)).setCell ⟨b,13,none⟩ (.int .u8 e.kind)).setCell ⟨b,14,none⟩ (.int .i64 e.line)).setCell ⟨b,15,none⟩ (.slice none 0 0)).setCell ⟨b,16,none⟩ (.int .u8 e.halt)):=by
 obtain ⟨b0,T0⟩:=h.blk.set 11 (.bool true);obtain ⟨b1,T1⟩:=b0.set 12 (.int .i64 e.op);obtain ⟨b2,T2⟩:=b1.set 13 (.int .u8 e.kind);obtain ⟨b3,T3⟩:=b2.set 14 (.int .i64 e.line);obtain ⟨b4,T4⟩:=b3.set 15 (.slice none 0 0);obtain ⟨b5,T5⟩:=b4.set 16 (.int .u8 e.halt);have T:=((((T0.trans T1 (fun _ h=>h)).trans T2 (fun _ h=>h)).trans T3 (fun _ h=>h)).trans T4 (fun _ h=>h)).trans T5 (fun _ h=>h);refine ⟨h.EL T ?_ rfl rfl rfl rfl rfl rfl rfl,T.mono (fun c hc=>by unfold Mine;omega)⟩;have e1:bC m v=[.slice (some ⟨v.mem,0,none⟩) m.mem.length m.mem.length,v.lines,.slice (some ⟨v.fed,0,none⟩) m.fed.length m.fed.length,.slice (some ⟨v.out,0,none⟩) m.out.length m.out.length,v.ops,v.takes,v.bH,.slice (some ⟨v.cs,0,none⟩) m.cs.length m.cs.length,v.hand,.int .i64 m.next,.int .i64 m.periods] ++ tY none:=by unfold bC;rw [hl]
 simp only [e1,List.setIfInBounds_toArray] at b5;exact b5
theorem Hg {w:World}{o:Col}{M b tb:Nat}{P:ay}{m:aH}{v:bV}(h:aN w o M b P m v){e:OZ}(he:m.last=some e) :
  Calls Tryz.prog 58 #[.pointer (some ⟨b,0,none⟩),.slice (some ⟨tb,0,none⟩) 8 8] w (EU w o M b P (aY P m)):=by
 have hst:aY P m=({ e with cells:=[] },m):=by unfold aY;rw [he]
 rw [hst];have hbx:=au w (.cells #[.int .i64 0,.int .u8 0,.int .i64 0,.slice none 0 0,.int .u8 0] 69);have Tx:=Turn.of_below o (M+207) hbx;have h1:=h.turn Tx (fun _ h=>h.elim);have hm:bC m v=[.slice (some ⟨v.mem,0,none⟩) m.mem.length m.mem.length,v.lines,.slice (some ⟨v.fed,0,none⟩) m.fed.length m.fed.length,.slice (some ⟨v.out,0,none⟩) m.out.length m.out.length,v.ops,v.takes,v.bH,.slice (some ⟨v.cs,0,none⟩) m.cs.length m.cs.length,v.hand,.int .i64 m.next,.int .i64 m.periods] ++ tY (some e):=by unfold bC;rw [he]
 have c11:=h1.cell 11 (u:=.bool true) (by rw [hm];rfl);have c12:=h1.cell 12 (u:=.int .i64 e.op) (by rw [hm];rfl);have c13:=h1.cell 13 (u:=.int .u8 e.kind) (by rw [hm];rfl);have c14:=h1.cell 14 (u:=.int .i64 e.line) (by rw [hm];rfl);have c15:=h1.cell 15 (u:=.slice none 0 0) (by rw [hm];rfl);have c16:=h1.cell 16 (u:=.int .u8 e.halt) (by rw [hm];rfl);have H1:=Lib.hid h1;have HT:=Lib.hid Tx;have HH:=Lib.hid h;clear h h1 Tx hbx hm he hst
 go_enter Tryz.func58,Tryz.ntmps58
 go_wp2;refine bodyPost_ret_by (results_cell_row rfl _ _ _ _ _ _ _ rfl ((Below.heap_alloc (w.alloc (.cells #[.int .i64 e.op,.int .u8 e.kind,.int .i64 e.line,.slice none 0 0,.int .u8 e.halt] 69)) _ w.heap.size (by simp)).trans (heap_alloc_new w _)) Tryz.underlying69 rfl (by kernel_rfl)) rfl ?_;have hb2:Below w.heap.size w ((w.alloc (.cells #[.int .i64 e.op,.int .u8 e.kind,.int .i64 e.line,.slice none 0 0,.int .u8 e.halt] 69)).alloc (.cells #[.int .i64 e.op,.int .u8 e.kind,.int .i64 e.line,.slice none 0 0,.int .u8 e.halt] 69)):=((Below.refl _ _).alloc (Nat.le_refl _) _).alloc (by simp) _;have T2:=Turn.of_below o (M+207) hb2;exact ⟨_,v,.slice none 0 0,rfl,T2.mono (fun _ h=>h.elim),HH.out.turn T2 (fun _ h=>h.elim),Own.nil _ _ _ _ _⟩
def Ct (k:Int):Nat:=if k=0 then 76 else if k=1 then 77 else if k=2 then 78 else if k=3 then 79 else if k=4 then 80 else if k=5 then 81 else if k=6 then 82 else 83
def mR (w:World)(o:Col)(M b:Nat)(P:ay)(m:aH)(eb:Nat)(op kd ln:Int):Ending→World→Prop :=
 if (bK P (bI P.ops m.next) m).1=0∨(bK P (bI P.ops m.next) m).1=1 then
  mP w o M b P eb op kd ln (bK P (bI P.ops m.next) m).1 (bK P (bI P.ops m.next) m).2.1 { (bK P (bI P.ops m.next) m).2.2 with next:=(jB P m).1,cs:=(jB P m).2 }
 else kX w o M b P m eb op kd ln (bK P (bI P.ops m.next) m).1
theorem oF {w:World}{o:Col}{M b:Nat}{P:ay}{m m2:aH}{eb:Nat}{op kd ln h:Int}{c:List Nat}{e:Ending}{w':World}(hx:bK P (bI P.ops m.next) m=(h,c,m2))(hh:h=0∨h=1){m':aH}(hm:{ m2 with next:=(jB P m).1,cs:=(jB P m).2 }=m')(H:mP w o M b P eb op kd ln h c m' e w'):mR w o M b P m eb op kd ln e w':=by
 unfold mR;rw [hx,if_pos hh,hm];exact H
theorem kE {w:World}{o:Col}{M b:Nat}{P:ay}{m:aH}{eb:Nat}{op kd ln h:Int}{e:Ending}{w':World}(hx:bK P (bI P.ops m.next) m=(h,[],m))(hh:h≠0∧h≠1)(H:kX w o M b P m eb op kd ln h e w'):mR w o M b P m eb op kd ln e w':=by
 unfold mR;rw [hx,if_neg (fun h=>h.elim hh.1 hh.2)];exact H
theorem DF {P:ay}{m:aH}(h0:(bI P.ops m.next).kind≠0)(h1:(bI P.ops m.next).kind≠1)(h2:(bI P.ops m.next).kind≠2):jB P m=(m.next+1,m.cs):=by
 unfold jB rC;rw [if_neg h0,if_neg h1,if_neg h2]
theorem Ry {w:World}{o:Col}{M b eb:Nat}{P:ay}{m:aH}{v:bV}{F s:Nat}{op kd ln:Int}(h:aN w o M b P m v)(hE:gU w o M eb op kd ln 0 [])(hP:tX P)(hf:iM P)(hm:lH P F s m)(hs:s≤1000000000) :
  Calls Tryz.prog (Ct (bI P.ops m.next).kind) #[.pointer (some ⟨b,0,none⟩),FE (bI P.ops m.next),.pointer (some ⟨eb,0,none⟩)] w (mR w o M b P m eb op kd ln):=by
 obtain ⟨d,hd,hr⟩:=hm.ctl;obtain ⟨r1,-,hx⟩:=sS hP hr;dsimp only at r1 hx;have hcs:=zU hr;have hops:=hP.QH;obtain ⟨x,hxe⟩:∃ x,bI P.ops m.next=x:=⟨_,rfl⟩
 rw [hxe] at hx ⊢
 by_cases h0:x.kind=0
 ·
  rw [show Ct x.kind=76 by unfold Ct;rw [if_pos h0]];have Rz:=hm.per;have Bh:=hm.hand.1;refine (Wn x h hE Bh (by omega)).mono fun e w' H=>?_
  have hd:bK P x m=zF m:=by unfold bK;rw [if_pos h0]
  by_cases hc:0 < m.hand.length
  ·
   rw [if_pos hc] at H;exact kE (by rw [hxe,hd,zF,if_pos hc]) (by decide) H
  ·
   rw [if_neg hc] at H;refine oF (by rw [hxe,hd,zF,if_neg hc]) (by decide) ?_ H;unfold jB;rw [hxe,if_pos h0]
 by_cases h1:x.kind=1
 ·
  rw [show Ct x.kind=77 by unfold Ct;rw [if_neg h0,if_pos h1]];have ha:=hx.cnt (.inl h1);have hl:=hcs.1;have hcl:m.cs.length=P.counters.toNat:=hcs.1;refine (Rn x h hE (a:=x.a.toNat) (by omega) (by omega)).mono fun e w' H=>?_
  have hd:bK P x m=(0,[],m):=by unfold bK;rw [if_neg h0,if_neg (by omega),if_neg (by omega),if_neg (by omega),if_neg (by omega),if_neg (by omega)]
  refine oF (by rw [hxe,hd]) (.inl rfl) ?_ H;unfold jB rC;simp only [hxe];rw [if_neg h0,if_pos h1]
 by_cases h2:x.kind=2
 ·
  rw [show Ct x.kind=78 by unfold Ct;rw [if_neg h0,if_neg h1,if_pos h2]];have ha:=hx.cnt (.inr h2);have hb:=hx.to h2;have hcl:m.cs.length=P.counters.toNat:=hcs.1;have hk:x.a.toNat < m.cs.length:=by omega
  have hcf:-100000≤m.cs[x.a.toNat]?.getD 0∧m.cs[x.a.toNat]?.getD 0≤100000:=by
   rw [List.getElem?_eq_getElem hk];have:=hcs.2 _ (List.getElem_mem hk);simp only [Option.getD_some];omega
  refine (Ro x h hE (a:=x.a.toNat) (t:=x.b.toNat) (by omega) (by omega) (by omega) hk rfl hcf).mono fun e w' H=>?_
  have hd:bK P x m=(0,[],m):=by unfold bK;rw [if_neg h0,if_neg (by omega),if_neg (by omega),if_neg (by omega),if_neg (by omega),if_neg (by omega)]
  refine oF (by rw [hxe,hd]) (.inl rfl) ?_ H;unfold jB rC;simp only [hxe];rw [if_neg h0,if_neg h1,if_pos h2]
 have zH:=DF (P:=P) (m:=m) (by rw [hxe];exact h0) (by rw [hxe];exact h1) (by rw [hxe];exact h2)
 by_cases h3:x.kind=3
 ·
  rw [show Ct x.kind=79 by unfold Ct;rw [if_neg h0,if_neg h1,if_neg h2,if_pos h3]];have ha:=hx.line (.inl h3);have hb:=hx.rate (.inl h3);have hl:=hm.lines;refine (Rp x h hE hP hm (k:=x.a.toNat) (n:=x.b.toNat) (by omega) (by omega) (by omega) (by omega)).mono fun e w' H=>?_
  have hd:bK P x m=rE x m:=by unfold bK;rw [if_neg h0,if_pos h3]
  by_cases hc:(aC m x.a.toNat).cnt < x.b.toNat∨64 < m.hand.length+x.b.toNat
  ·
   rw [if_pos hc] at H;exact kE (by rw [hxe,hd,rE,if_pos hc]) (by decide) H
  ·
   rw [if_neg hc] at H;refine oF (by rw [hxe,hd,rE,if_neg hc]) (.inl rfl) ?_ H;rw [zH]
 by_cases h4:x.kind=4
 ·
  rw [show Ct x.kind=80 by unfold Ct;rw [if_neg h0,if_neg h1,if_neg h2,if_neg h3,if_pos h4]];have ha:=hx.ins h4;have hb:=hx.rate (.inr (.inl h4));have hl:=hm.fed;refine (JZ x h hE hm (k:=x.a.toNat) (n:=x.b.toNat) (by omega) (by omega) (by omega) (by omega)).mono fun e w' H=>?_
  have hd:bK P x m=pu x m:=by unfold bK;rw [if_neg h0,if_neg h3,if_pos h4]
  by_cases hc:64 < m.hand.length+x.b.toNat
  ·
   rw [if_pos hc] at H;exact kE (by rw [hxe,hd,pu,if_pos hc]) (by decide) H
  ·
   rw [if_neg hc] at H
   by_cases hc2:(rowAt m.fed x.a.toNat).length < x.b.toNat
   ·
    rw [if_pos hc2] at H;exact kE (by rw [hxe,hd,pu,if_neg hc,if_pos hc2]) (by decide) H
   ·
    rw [if_neg hc2] at H;refine oF (by rw [hxe,hd,pu,if_neg hc,if_neg hc2]) (.inl rfl) ?_ H;rw [zH]
 by_cases h5:x.kind=5
 ·
  rw [show Ct x.kind=81 by unfold Ct;rw [if_neg h0,if_neg h1,if_neg h2,if_neg h3,if_neg h4,if_pos h5]];have ha:=hx.part h5;refine (Rt x h hE hP hf hm hs (k:=x.a.toNat) (by omega) (by omega)).mono fun e w' H=>?_
  have hd:bK P x m=pE P x m:=by unfold bK;rw [if_neg h0,if_neg h3,if_neg h4,if_pos h5]
  by_cases hc:m.hand.length≠kU (partAt P x.a.toNat)
  ·
   rw [if_pos hc] at H;exact kE (by rw [hxe,hd,pE,if_pos hc]) (by decide) H
  ·
   rw [if_neg hc] at H
   by_cases hc2:(gI P x m).err≠0
   ·
    rw [if_pos hc2] at H;exact kE (by rw [hxe,hd,pE,if_neg hc,if_pos hc2]) (by decide) H
   ·
    rw [if_neg hc2] at H;refine oF (by rw [hxe,hd,pE,if_neg hc,if_neg hc2]) (.inl rfl) ?_ H;rw [zH]
 by_cases h6:x.kind=6
 ·
  rw [show Ct x.kind=82 by unfold Ct;rw [if_neg h0,if_neg h1,if_neg h2,if_neg h3,if_neg h4,if_neg h5,if_pos h6]];have ha:=hx.line (.inr h6);have hb:=hx.rate (.inr (.inr (.inl h6)));have hl:=hm.lines;refine (Rq x h hE hP hm (k:=x.a.toNat) (n:=x.b.toNat) (by omega) (by omega) (by omega) (by omega)).mono fun e w' H=>?_
  have hd:bK P x m=rF x m:=by unfold bK;rw [if_neg h0,if_neg h3,if_neg h4,if_neg h5,if_pos h6]
  by_cases hc:m.hand.length < x.b.toNat∨(aC m x.a.toNat).size < (aC m x.a.toNat).cnt+x.b.toNat
  ·
   rw [if_pos hc] at H;exact kE (by rw [hxe,hd,rF,if_pos hc]) (by decide) H
  ·
   rw [if_neg hc] at H;refine oF (by rw [hxe,hd,rF,if_neg hc]) (.inl rfl) ?_ H;rw [zH]
 ·
  have h7:x.kind=7:=by have:=hx.kind;omega
  rw [show Ct x.kind=83 by unfold Ct;rw [if_neg h0,if_neg h1,if_neg h2,if_neg h3,if_neg h4,if_neg h5,if_neg h6]];have ha:=hx.outs h7;have hb:=hx.rate (.inr (.inr (.inr h7)));have hl:=hm.out;refine (Nk x h hE hm hs (k:=x.a.toNat) (n:=x.b.toNat) (by omega) (by omega) (by omega) (by omega)).mono fun e w' H=>?_
  have hd:bK P x m=mF x m:=by unfold bK;rw [if_neg h0,if_neg h3,if_neg h4,if_neg h5,if_neg h6,if_pos h7]
  by_cases hc:m.hand.length < x.b.toNat
  ·
   rw [if_pos hc] at H;exact kE (by rw [hxe,hd,mF,if_pos hc]) (by decide) H
  ·
   rw [if_neg hc] at H;refine oF (by rw [hxe,hd,mF,if_neg hc]) (.inl rfl) ?_ H;rw [zH]
theorem Hl {k:Int}(h:k=0∨k=1∨k=2∨k=3∨k=4∨k=5∨k=6∨k=7):ET[k.toNat]?=some (Rw (Ct k)):=by
 rcases h with rfl | rfl | rfl | rfl | rfl | rfl | rfl | rfl <;> rfl
theorem Z4 {P:ay}{m:aH}(hn:m.next < P.ops.length)(hb:(bI P.ops m.next).kind=2→(bI P.ops m.next).b < P.ops.length):(jB P m).1≤P.ops.length:=by
 unfold jB rC
 split
 ·
  exact Nat.zero_le _
 ·
  split
  ·
   exact hn
  ·
   split
   ·
    rename_i h
    have:=hb h;simp only
    split <;> omega
   ·
    exact hn
theorem Ns {w:World}{o:Col}{M b tb:Nat}{P:ay}{m:aH}{v:bV}{F s:Nat}(h:aN w o M b P m v)(hT:zY w o M tb)(hP:tX P)(hf:iM P)(hm:lH P F s m)(hs:s≤1000000000)(hlast:m.last=none) :
  Calls Tryz.prog 58 #[.pointer (some ⟨b,0,none⟩),.slice (some ⟨tb,0,none⟩) 8 8] w (EU w o M b P (aY P m)):=by
 obtain ⟨d,hd,hr⟩:=hm.ctl;obtain ⟨r1,r2,hx⟩:=sS hP hr;dsimp only at r1 r2 hx;have hops:=hP.QH;have hmv:bC m v=[.slice (some ⟨v.mem,0,none⟩) m.mem.length m.mem.length,v.lines,.slice (some ⟨v.fed,0,none⟩) m.fed.length m.fed.length,.slice (some ⟨v.out,0,none⟩) m.out.length m.out.length,v.ops,v.takes,v.bH,.slice (some ⟨v.cs,0,none⟩) m.cs.length m.cs.length,v.hand,.int .i64 m.next,.int .i64 m.periods] ++ tY none:=by unfold bC;rw [hlast]
 have hb0:=au w (.cells #[.int .i64 0,.int .u8 0,.int .i64 0,.slice none 0 0,.int .u8 0] 69);have T0:=Turn.of_below o (M+207) hb0;have R0:dY (w.alloc (.cells #[.int .i64 0,.int .u8 0,.int .i64 0,.slice none 0 0,.int .u8 0] 69)) (ext o w.heap.size (M+207)) (M+207) w.heap.size 69 #[.int .i64 0,.int .u8 0,.int .i64 0,.slice none 0 0,.int .u8 0]:=⟨heap_alloc_new w _,aW (Nat.le_refl _)⟩;have h0:=h.turn T0 (fun _ h=>h.elim);have t0:=hT.turn T0 (fun h=>h);have c11:=h0.cell 11 (u:=.bool false) (by rw [hmv];rfl);have c4:=h0.cell 4 (u:=v.ops) (by rw [hmv];rfl);have c9:=h0.cell 9 (u:=.int .i64 m.next) (by rw [hmv];rfl);obtain ⟨go,co,e4,hco,_⟩:=h0.ops.addr (by omega);have hop:=h0.ops;rw [e4] at c4 hop;obtain ⟨g1,g2,g3⟩:=qZ P.ops m.next r1
 have o1:=hop.cellAt g1;have o2:=hop.cellAt g2;have o3:=hop.cellAt g3;have hxe:P.ops[m.next]=bI P.ops m.next:=by rw [List.getElem?_eq_getElem r1] at r2;exact Option.some.inj r2
 rw [hxe] at o1 o2 o3;obtain ⟨x,Z8⟩:∃ x,bI P.ops m.next=x:=⟨_,rfl⟩
 rw [Z8] at o1 o2 o3 hx;have zZ:=Lib.hid Z8;obtain ⟨kd,xa,xb⟩:=x;dsimp only at o1 o2 o3;have hkd:=hx.kind;dsimp only at hkd;obtain ⟨kn,rfl⟩:∃ kn:Nat,kd=kn:=⟨kd.toNat,by omega⟩
 have hkn:(kn:Int) < 8:=by omega
 have zH:=Z4 (P:=P) (m:=m) r1 (fun h=>by rw [zZ.out] at h ⊢;exact (hx.to h).2);have tk:=t0.cell kn (Rw (Ct kn)) (by have:=Hl hkd;rw [Int.toNat_natCast] at this;simpa using this);have hri:(m.next:Int) < P.ops.length:=by omega
 have H0:=Lib.hid h0;have HT0:=Lib.hid t0;have I8:=Lib.hid R0;have Le:=Lib.hid T0;have rz:=Lib.hid hm;have HMV:=Lib.hid hmv;have J5:=Lib.hid hx;clear h hT hd hr r2 hb0 T0 R0 h0 t0 hop g1 g2 g3 hxe Z8 e4 hmv hm;generalize ext o w.heap.size (M+207)=q at *;obtain ⟨w0,hw0⟩:∃ x,w.alloc (.cells #[.int .i64 0,.int .u8 0,.int .i64 0,.slice none 0 0,.int .u8 0] 69)=x:=⟨_,rfl⟩
 rw [hw0] at H0 HT0 I8 Le c11 c4 c9 o1 o2 o3 tk;have hs0:w0.heap.size=w.heap.size+1:=by rw [← hw0];simp
 have hb1:=au w0 (.cells #[.int .u8 kn,.int .i64 xa,.int .i64 xb] 58);obtain ⟨w1,hw1⟩:∃ x,w0.alloc (.cells #[.int .u8 kn,.int .i64 xa,.int .i64 xb] 58)=x:=⟨_,rfl⟩
 rw [hw1] at hb1;have T1:=Turn.of_below q (M+206) hb1;have X1:dY w1 (ext q w0.heap.size (M+206)) (M+206) (w.heap.size+1) 58 #[.int .u8 kn,.int .i64 xa,.int .i64 xb]:=⟨by rw [← hw1,← hs0];exact heap_alloc_new w0 _,aW (by omega)⟩;have c9':=cell_later hb1 c9;have x10:=X1.cell 0 _ rfl;have hs1:w1.heap.size=w.heap.size+1+1:=by rw [← hw1];simp;omega
 obtain ⟨ln,hln,acn⟩:∃ ln:Int,ln=(if (kn:Int)=3∨(kn:Int)=6 then xa else -1)∧(((kn:Int) == 3)=true∧ln=xa∨((kn:Int) == 3)=false∧((kn:Int) == 6)=true∧ln=xa∨((kn:Int) == 3)=false∧((kn:Int) == 6)=false∧ln = -1):=by
  refine ⟨_,rfl,?_⟩
  by_cases k3:(kn:Int)=3
  ·
   exact .inl ⟨by rw [beq_iff_eq];exact k3,by rw [if_pos (Or.inl k3)]⟩
  ·
   by_cases k6:(kn:Int)=6
   ·
    exact .inr (.inl ⟨by rw [beq_eq_false_iff_ne];exact k3,by rw [beq_iff_eq];exact k6,by rw [if_pos (Or.inr k6)]⟩)
   ·
    exact .inr (.inr ⟨by rw [beq_eq_false_iff_ne];exact k3,by rw [beq_eq_false_iff_ne];exact k6,by rw [if_neg (fun h=>h.elim k3 k6)]⟩)
 have hb2:=au w1 (.cells #[.int .i64 m.next,.int .u8 kn,.int .i64 ln,.slice none 0 0,.int .u8 0] 69);obtain ⟨w2,hw2⟩:∃ x,w1.alloc (.cells #[.int .i64 m.next,.int .u8 kn,.int .i64 ln,.slice none 0 0,.int .u8 0] 69)=x:=⟨_,rfl⟩
 rw [hw2] at hb2;have T2:=Turn.of_below (ext q w0.heap.size (M+206)) (M+205) hb2;have E2:gU w2 (ext (ext q w0.heap.size (M+206)) w1.heap.size (M+205)) M (w.heap.size+1+1) m.next kn ln 0 []:=⟨.slice none 0 0,⟨by rw [← hw2,← hs1];exact heap_alloc_new w1 _,aW (by omega)⟩,Own.nil _ _ _ _ _,fun _=>rfl⟩
 have Nh:=T1.trans T2 (fun _ h=>h);have H2:=H0.out.turn Nh (fun _ h=>h.elim);have TB2:=HT0.out.turn Nh (fun h=>h);have R2:=I8.out.turn Nh (fun h=>h);have X2:=X1.turn T2 (fun h=>h);have TT2:=Le.out.trans Nh (fun _ h=>h);generalize ext (ext q w0.heap.size (M+206)) w1.heap.size (M+205)=q2 at *;have x20:=X2.cell 0 _ rfl;have x21:=X2.cell 1 _ rfl;have Ut:=X2.cell 2 _ rfl;have tk2:=TB2.cell kn (.func (.func (Ct kn)) #[] #[]) (by have:=Hl hkd;rw [Int.toNat_natCast] at this;simpa [Rw] using this);have HE2:=Lib.hid E2;have J4:=Lib.hid H2;have adO:=Lib.hid TB2;have HR2:=Lib.hid R2;have yO:=Lib.hid X2;have Z9:=Lib.hid TT2;obtain ⟨f,hfe⟩:∃ x,Ct (kn:Int)=x:=⟨_,rfl⟩
 have hcf:∀ (args:Array Value) (w:World),(callFunc f args).run Tryz.prog w=.ok (.enter f args) w:=by
  intro args w;rw [← hfe]
  rcases hkd with h | h | h | h | h | h | h | h <;> rw [h] <;> first | exact Tryz.call76 _ _ | exact Tryz.call77 _ _ | exact Tryz.call78 _ _ | exact Tryz.call79 _ _ | exact Tryz.call80 _ _ | exact Tryz.call81 _ _ | exact Tryz.call82 _ _ | exact Tryz.call83 _ _
 rw [hfe] at tk2;have HD:Hid (∀ {w:World} {o:Col} {v:bV} {eb:Nat} {op kd ln:Int},aN w o M b P m v→gU w o M eb op kd ln 0 []→Calls Tryz.prog f #[.pointer (some ⟨b,0,none⟩),.agg #[.int .u8 kn,.int .i64 xa,.int .i64 xb],.pointer (some ⟨eb,0,none⟩)] w (mR w o M b P m eb op kd ln)):=Lib.hid fun h hE=>by
  have:=Ry h hE hP hf rz.out hs;rw [zZ.out] at this;unfold FE at this;dsimp only at this;rw [hfe] at this;exact this
 have Nt:=Lib.hid hln;clear hb1 T1 X1 hb2 T2 E2 Nh H2 TB2 R2 X2 TT2 H0 HT0 I8 Le hs0 hs1 tk hP hf hkd hx hln hfe;subst hw0;subst hw1;subst hw2;obtain ⟨⟨hh,c,m2⟩,EW⟩:∃ x,bK P (bI P.ops m.next) m=x:=⟨_,rfl⟩
 have hev:∀ h c,Jc P m h c=⟨m.next,kn,ln,bU c,h⟩:=fun h c=>by unfold Jc;rw [zZ.out,Nt.out]
 have uW:Hid (hh=0∨hh=1→aY P m=(⟨m.next,kn,ln,bU c,hh⟩,{ m2 with next:=(jB P m).1,cs:=(jB P m).2 })):=Lib.hid fun h=>by
  unfold aY;rw [hlast,EW];simp only;rw [if_pos h,hev]
 have HST:Hid (hh=2→aY P m=(⟨m.next,kn,ln,[],2⟩,m)):=Lib.hid fun h=>by
  unfold aY;rw [hlast,EW];simp only;rw [if_neg (by omega),if_pos h,hev];rfl
 have xO:Hid (hh=3∨hh=4→aY P m=(⟨m.next,kn,ln,[],hh⟩,{ m with last:=some ⟨m.next,kn,ln,[],hh⟩ })):=Lib.hid fun h=>by
  unfold aY;rw [hlast,EW];simp only;rw [if_neg (by omega),if_neg (by omega),hev];rfl
 have hcases:hh=0∨hh=1∨hh=2∨hh=3∨hh=4:=by
  have:=ow P (bI P.ops m.next) m;rw [EW] at this;simp only [Prod.mk.injEq] at this;omega
 have Jd:=Lib.hid hlast;have Nu:=Lib.hid EW;have aac:=Lib.hid zH;clear EW hev hlast zH
 rcases acn with ⟨hb3,rfl⟩ | ⟨hb3,hb6,rfl⟩ | ⟨hb3,hb6,rfl⟩
 ·
  go_enter Tryz.func58,Tryz.ntmps58
  go_wp2_with fail
  refine ax (fun w'=>w'.cell? ⟨b,4,none⟩=some (.slice (some ⟨go,0,none⟩) P.ops.length co)∧w'.cell? ⟨b,9,none⟩=some (.int .i64 m.next)∧w'.cell? ⟨go,m.next*3,none⟩=some (.int .u8 kn)∧w'.cell? ⟨go,m.next*3+1,none⟩=some (.int .i64 ln)∧w'.cell? ⟨go,m.next*3+2,none⟩=some (.int .i64 xb)) [0,1,2,3,4,5,6,7,8,9] [10,11] (by kernel_rfl) (by kernel_rfl) rfl (fun _ _ hx h=>⟨hx.cell h.1,hx.cell h.2.1,hx.cell h.2.2.1,hx.cell h.2.2.2.1,hx.cell h.2.2.2.2⟩) ⟨c4,c9,o1,o2,o3⟩ ?_;intro Q' hQ';simp only [pk];refine aA ?_;refine av ?_
  go_wp2_with fail
  refine ax (fun w'=>w'.cell? ⟨b,9,none⟩=some (.int .i64 m.next)∧w'.cell? ⟨w.heap.size+1,0,none⟩=some (.int .u8 kn)) [0,1,2,3,4,5,6] [7,8] (by kernel_rfl) (by kernel_rfl) rfl (fun _ _ hx h=>⟨hx.cell h.1,hx.cell h.2⟩) ⟨c9',x10⟩ ?_;intro Q' hQ';simp only [pk];refine aA ?_;refine av ?_
  go_wp2_with fail
  refine ax (fun w'=>w'.cell? ⟨w.heap.size+1,0,none⟩=some (.int .u8 kn)∧w'.cell? ⟨w.heap.size+1,1,none⟩=some (.int .i64 ln)∧w'.cell? ⟨w.heap.size+1,2,none⟩=some (.int .i64 xb)∧w'.cell? ⟨tb,kn,none⟩=some (.func (.func f) #[] #[])) [0,1,2,3,4,5,6] [7] (by kernel_rfl) (by kernel_rfl) rfl (fun _ _ hx h=>⟨hx.cell h.1,hx.cell h.2.1,hx.cell h.2.2.1,hx.cell h.2.2.2⟩) ⟨x20,x21,Ut,tk2⟩ ?_;intro Q' hQ';simp only [pk];refine aA ?_;refine av ?_
  go_wp2_with fail
  refine (HD.out (J4.out.drewN 3) (HE2.out.drewN 3)).mono ?_;rintro e w5 ru;unfold mR at ru;rw [Nu.out] at ru;have Ll:=(Z9.out.mono (D:=dm M) (fun _ h=>h.elim)).drewN 3;clear x10 c9' x20 x21 Ut tk2 c4 c9 c11 o1 o2 o3
  by_cases hgo:hh=0∨hh=1
  ·
   rw [if_pos hgo] at ru;obtain ⟨o5,v5,rfl,T5,d9,f9,M5,E5⟩:=ru;dsimp only at d9 M5 E5;have R5:=(HR2.out.turn ((Turn.refl q2 (fun _=>False) _).drewN 3) (fun h=>h)).turn T5 (pO (by omega));have TT:=Ll.trans T5 gu.s;have hwl:=aac.out;obtain ⟨z,hz⟩:∃ x:Int,((jB P m).1:Int)=x:=⟨_,rfl⟩
   rw [hz] at d9 M5;have e9:IntKind.i64.wrap (z - 1+1)=z:=by rw [IntWalk.i64_in _ (by omega)];omega
   obtain ⟨zz,hzz⟩:∃ x:Int,z - 1=x:=⟨_,rfl⟩
   rw [hzz] at d9 e9;have T9:Turn o5 o5 (fun x=>x=M) w5 (w5.setCell ⟨b,9,none⟩ (.int .i64 z)):=⟨(aI.refl (fun k=>o5 k=M) w5).setCell (p:=⟨b,9,none⟩) (fun _=>M5.blk.2) _,fun _ _=>rfl⟩;clear hz hzz T5 Ll hwl
   rcases hgo with rfl | rfl
   ·
    have E6:=E5.turn T9 (by omega) (by omega);have R6:=R5.turn T9 (by omega);obtain ⟨a0,c0,y3,y4,y0,y1,y2,I6⟩:=E6.reads;have g0:=R6.frozen 0;have g1:=R6.frozen 1;have g2:=R6.frozen 2;have g3:=R6.frozen 3;have g4:=R6.frozen 4;have k0:=R6.cell 0 _ rfl;have k1:=R6.cell 1 _ rfl;have k2:=R6.cell 2 _ rfl;have k3:=R6.cell 3 _ rfl;have k4:=R6.cell 4 _ rfl;have S7:=dF R6 (.int .i64 m.next) (.int .u8 kn) (.int .i64 ln) (.slice a0 (bU c).length c0) (.int .u8 0);have M7:=M5.turn S7.2 (fun c hc=>by rw [hc];exact aO (by omega));have I7:=I6.turn S7.2 (by omega);have T7:=(TT.trans T9 (fun c hc=>by rw [hc];unfold dm;omega)).trans S7.2 (fun c hc=>by rw [hc];unfold dm;omega);have z4:=E5.reads;obtain ⟨_,_,-,z4,-⟩:=z4;have uL:=Lib.hid S7.1;have pR:=Lib.hid M7;have Nv:=Lib.hid I7;have mW:=Lib.hid T7;have Br:=Lib.hid (uW.out (by decide));clear E6 R6 S7 M7 I7 T7 I6 M5 E5 T9 R5 TT uW HST xO;go_wp2;refine bodyPost_ret_by (results_cell_row rfl _ _ _ _ _ _ _ rfl uL.out.1 Tryz.underlying69 rfl (by kernel_rfl)) rfl ?_;rw [Br.out];exact ⟨_,_,_,rfl,mW.out,pR.out,Nv.out⟩
   ·
    have E6:=E5.turn T9 (by omega) (by omega);have R6:=R5.turn T9 (by omega);obtain ⟨a0,c0,y3,y4,y0,y1,y2,I6⟩:=E6.reads;have g0:=R6.frozen 0;have g1:=R6.frozen 1;have g2:=R6.frozen 2;have g3:=R6.frozen 3;have g4:=R6.frozen 4;have k0:=R6.cell 0 _ rfl;have k1:=R6.cell 1 _ rfl;have k2:=R6.cell 2 _ rfl;have k3:=R6.cell 3 _ rfl;have k4:=R6.cell 4 _ rfl;have S7:=dF R6 (.int .i64 m.next) (.int .u8 kn) (.int .i64 ln) (.slice a0 (bU c).length c0) (.int .u8 1);have M7:=M5.turn S7.2 (fun c hc=>by rw [hc];exact aO (by omega));have I7:=I6.turn S7.2 (by omega);have T7:=(TT.trans T9 (fun c hc=>by rw [hc];unfold dm;omega)).trans S7.2 (fun c hc=>by rw [hc];unfold dm;omega);have z4:=E5.reads;obtain ⟨_,_,-,z4,-⟩:=z4;have uL:=Lib.hid S7.1;have pR:=Lib.hid M7;have Nv:=Lib.hid I7;have mW:=Lib.hid T7;have Br:=Lib.hid (uW.out (by decide));clear E6 R6 S7 M7 I7 T7 I6 M5 E5 T9 R5 TT uW HST xO;go_wp2;refine bodyPost_ret_by (results_cell_row rfl _ _ _ _ _ _ _ rfl uL.out.1 Tryz.underlying69 rfl (by kernel_rfl)) rfl ?_;rw [Br.out];exact ⟨_,_,_,rfl,mW.out,pR.out,Nv.out⟩
  ·
   rw [if_neg hgo] at ru;obtain ⟨o5,v5,rfl,T5,M5,E5⟩:=ru;dsimp only at E5;have R5:=(HR2.out.turn ((Turn.refl q2 (fun _=>False) _).drewN 3) (fun h=>h)).turn T5 (pO (by omega));have TT:=Ll.trans T5 gu.s;have hc2:hh=2∨hh=3∨hh=4:=by omega
   clear T5 Ll hcases
   rcases hc2 with rfl | rfl | rfl
   ·
    have l5:=Lib.hid (HST.out rfl);obtain ⟨_,_,-,z4,-⟩:=E5.reads;have M6:=M5;have E6:=E5;have R6:=R5;have oH:=TT;obtain ⟨_,_,-,y4,y0,y1,y2,I6⟩:=E6.reads;have y3:=E6.jZ;have g0:=R6.frozen 0;have g1:=R6.frozen 1;have g2:=R6.frozen 2;have g3:=R6.frozen 3;have g4:=R6.frozen 4;have k0:=R6.cell 0 _ rfl;have k1:=R6.cell 1 _ rfl;have k2:=R6.cell 2 _ rfl;have k3:=R6.cell 3 _ rfl;have k4:=R6.cell 4 _ rfl;have S7:=dF R6 (.int .i64 m.next) (.int .u8 kn) (.int .i64 ln) (.slice none 0 0) (.int .u8 2);have M7:=M6.turn S7.2 (fun c hc=>by rw [hc];exact aO (by omega));have T7:=oH.trans S7.2 (fun c hc=>by rw [hc];unfold dm;omega);have uL:=Lib.hid S7.1;have pR:=Lib.hid M7;have mW:=Lib.hid T7;clear E6 R6 S7 M7 T7 M6 I6 oH M5 E5 R5 TT uW HST xO;go_wp2;refine bodyPost_ret_by (results_cell_row rfl _ _ _ _ _ _ _ rfl uL.out.1 Tryz.underlying69 rfl (by kernel_rfl)) rfl ?_;rw [l5.out];exact ⟨_,_,.slice none 0 0,rfl,mW.out,pR.out,Own.nil _ _ _ _ _⟩
   ·
    have l5:=Lib.hid (xO.out (.inl rfl));obtain ⟨_,_,-,z4,-⟩:=E5.reads;obtain ⟨_,_,-,-,z0,z1,z2,-⟩:=E5.reads;have z3:=E5.jZ;have nE:bC m v5=[.slice (some ⟨v5.mem,0,none⟩) m.mem.length m.mem.length,v5.lines,.slice (some ⟨v5.fed,0,none⟩) m.fed.length m.fed.length,.slice (some ⟨v5.out,0,none⟩) m.out.length m.out.length,v5.ops,v5.takes,v5.bH,.slice (some ⟨v5.cs,0,none⟩) m.cs.length m.cs.length,v5.hand,.int .i64 m.next,.int .i64 m.periods] ++ tY none:=by unfold bC;rw [Jd.out]
    have j11:=M5.cell 11 (u:=.bool false) (by rw [nE];rfl);have j12:=M5.cell 12 (u:=.int .i64 0) (by rw [nE];rfl);have j13:=M5.cell 13 (u:=.int .u8 0) (by rw [nE];rfl);have j14:=M5.cell 14 (u:=.int .i64 0) (by rw [nE];rfl);have j15:=M5.cell 15 (u:=.slice none 0 0) (by rw [nE];rfl);have j16:=M5.cell 16 (u:=.int .u8 0) (by rw [nE];rfl);have Uu:=M5.frozen 11;have p12:=M5.frozen 12;have p13:=M5.frozen 13;have RB:=M5.frozen 14;have p15:=M5.frozen 15;have p16:=M5.frozen 16;have S6:=M5.setLast Jd.out ⟨m.next,kn,ln,[],3⟩ rfl;dsimp only at S6;have M6:=S6.1;have E6:=E5.turn S6.2 (aO (by omega)) (aO (by omega));have R6:=R5.turn S6.2 (aO (by omega));have oH:=TT.trans S6.2 Mine.s;clear S6 nE;obtain ⟨_,_,-,y4,y0,y1,y2,I6⟩:=E6.reads;have y3:=E6.jZ;have g0:=R6.frozen 0;have g1:=R6.frozen 1;have g2:=R6.frozen 2;have g3:=R6.frozen 3;have g4:=R6.frozen 4;have k0:=R6.cell 0 _ rfl;have k1:=R6.cell 1 _ rfl;have k2:=R6.cell 2 _ rfl;have k3:=R6.cell 3 _ rfl;have k4:=R6.cell 4 _ rfl;have S7:=dF R6 (.int .i64 m.next) (.int .u8 kn) (.int .i64 ln) (.slice none 0 0) (.int .u8 3);have M7:=M6.turn S7.2 (fun c hc=>by rw [hc];exact aO (by omega));have T7:=oH.trans S7.2 (fun c hc=>by rw [hc];unfold dm;omega);have uL:=Lib.hid S7.1;have pR:=Lib.hid M7;have mW:=Lib.hid T7;clear E6 R6 S7 M7 T7 M6 I6 oH M5 E5 R5 TT uW HST xO;go_wp2;refine bodyPost_ret_by (results_cell_row rfl _ _ _ _ _ _ _ rfl uL.out.1 Tryz.underlying69 rfl (by kernel_rfl)) rfl ?_;rw [l5.out];exact ⟨_,_,.slice none 0 0,rfl,mW.out,pR.out,Own.nil _ _ _ _ _⟩
   ·
    have l5:=Lib.hid (xO.out (.inr rfl));obtain ⟨_,_,-,z4,-⟩:=E5.reads;obtain ⟨_,_,-,-,z0,z1,z2,-⟩:=E5.reads;have z3:=E5.jZ;have nE:bC m v5=[.slice (some ⟨v5.mem,0,none⟩) m.mem.length m.mem.length,v5.lines,.slice (some ⟨v5.fed,0,none⟩) m.fed.length m.fed.length,.slice (some ⟨v5.out,0,none⟩) m.out.length m.out.length,v5.ops,v5.takes,v5.bH,.slice (some ⟨v5.cs,0,none⟩) m.cs.length m.cs.length,v5.hand,.int .i64 m.next,.int .i64 m.periods] ++ tY none:=by unfold bC;rw [Jd.out]
    have j11:=M5.cell 11 (u:=.bool false) (by rw [nE];rfl);have j12:=M5.cell 12 (u:=.int .i64 0) (by rw [nE];rfl);have j13:=M5.cell 13 (u:=.int .u8 0) (by rw [nE];rfl);have j14:=M5.cell 14 (u:=.int .i64 0) (by rw [nE];rfl);have j15:=M5.cell 15 (u:=.slice none 0 0) (by rw [nE];rfl);have j16:=M5.cell 16 (u:=.int .u8 0) (by rw [nE];rfl);have Uu:=M5.frozen 11;have p12:=M5.frozen 12;have p13:=M5.frozen 13;have RB:=M5.frozen 14;have p15:=M5.frozen 15;have p16:=M5.frozen 16;have S6:=M5.setLast Jd.out ⟨m.next,kn,ln,[],4⟩ rfl;dsimp only at S6;have M6:=S6.1;have E6:=E5.turn S6.2 (aO (by omega)) (aO (by omega));have R6:=R5.turn S6.2 (aO (by omega));have oH:=TT.trans S6.2 Mine.s;clear S6 nE;obtain ⟨_,_,-,y4,y0,y1,y2,I6⟩:=E6.reads;have y3:=E6.jZ;have g0:=R6.frozen 0;have g1:=R6.frozen 1;have g2:=R6.frozen 2;have g3:=R6.frozen 3;have g4:=R6.frozen 4;have k0:=R6.cell 0 _ rfl;have k1:=R6.cell 1 _ rfl;have k2:=R6.cell 2 _ rfl;have k3:=R6.cell 3 _ rfl;have k4:=R6.cell 4 _ rfl;have S7:=dF R6 (.int .i64 m.next) (.int .u8 kn) (.int .i64 ln) (.slice none 0 0) (.int .u8 4);have M7:=M6.turn S7.2 (fun c hc=>by rw [hc];exact aO (by omega));have T7:=oH.trans S7.2 (fun c hc=>by rw [hc];unfold dm;omega);have uL:=Lib.hid S7.1;have pR:=Lib.hid M7;have mW:=Lib.hid T7;clear E6 R6 S7 M7 T7 M6 I6 oH M5 E5 R5 TT uW HST xO;go_wp2;refine bodyPost_ret_by (results_cell_row rfl _ _ _ _ _ _ _ rfl uL.out.1 Tryz.underlying69 rfl (by kernel_rfl)) rfl ?_;rw [l5.out];exact ⟨_,_,.slice none 0 0,rfl,mW.out,pR.out,Own.nil _ _ _ _ _⟩
 ·
  go_enter Tryz.func58,Tryz.ntmps58
  go_wp2_with fail
  refine ax (fun w'=>w'.cell? ⟨b,4,none⟩=some (.slice (some ⟨go,0,none⟩) P.ops.length co)∧w'.cell? ⟨b,9,none⟩=some (.int .i64 m.next)∧w'.cell? ⟨go,m.next*3,none⟩=some (.int .u8 kn)∧w'.cell? ⟨go,m.next*3+1,none⟩=some (.int .i64 ln)∧w'.cell? ⟨go,m.next*3+2,none⟩=some (.int .i64 xb)) [0,1,2,3,4,5,6,7,8,9] [10,11] (by kernel_rfl) (by kernel_rfl) rfl (fun _ _ hx h=>⟨hx.cell h.1,hx.cell h.2.1,hx.cell h.2.2.1,hx.cell h.2.2.2.1,hx.cell h.2.2.2.2⟩) ⟨c4,c9,o1,o2,o3⟩ ?_;intro Q' hQ';simp only [pk];refine aA ?_;refine av ?_
  go_wp2_with fail
  refine ax (fun w'=>w'.cell? ⟨b,9,none⟩=some (.int .i64 m.next)∧w'.cell? ⟨w.heap.size+1,0,none⟩=some (.int .u8 kn)) [0,1,2,3,4,5,6] [7,8] (by kernel_rfl) (by kernel_rfl) rfl (fun _ _ hx h=>⟨hx.cell h.1,hx.cell h.2⟩) ⟨c9',x10⟩ ?_;intro Q' hQ';simp only [pk];refine aA ?_;refine av ?_
  go_wp2_with fail
  refine ax (fun w'=>w'.cell? ⟨w.heap.size+1,0,none⟩=some (.int .u8 kn)∧w'.cell? ⟨w.heap.size+1,1,none⟩=some (.int .i64 ln)∧w'.cell? ⟨w.heap.size+1,2,none⟩=some (.int .i64 xb)∧w'.cell? ⟨tb,kn,none⟩=some (.func (.func f) #[] #[])) [0,1,2,3,4,5,6] [7] (by kernel_rfl) (by kernel_rfl) rfl (fun _ _ hx h=>⟨hx.cell h.1,hx.cell h.2.1,hx.cell h.2.2.1,hx.cell h.2.2.2⟩) ⟨x20,x21,Ut,tk2⟩ ?_;intro Q' hQ';simp only [pk];refine aA ?_;refine av ?_
  go_wp2_with fail
  refine (HD.out (J4.out.drewN 3) (HE2.out.drewN 3)).mono ?_;rintro e w5 ru;unfold mR at ru;rw [Nu.out] at ru;have Ll:=(Z9.out.mono (D:=dm M) (fun _ h=>h.elim)).drewN 3;clear x10 c9' x20 x21 Ut tk2 c4 c9 c11 o1 o2 o3
  by_cases hgo:hh=0∨hh=1
  ·
   rw [if_pos hgo] at ru;obtain ⟨o5,v5,rfl,T5,d9,f9,M5,E5⟩:=ru;dsimp only at d9 M5 E5;have R5:=(HR2.out.turn ((Turn.refl q2 (fun _=>False) _).drewN 3) (fun h=>h)).turn T5 (pO (by omega));have TT:=Ll.trans T5 gu.s;have hwl:=aac.out;obtain ⟨z,hz⟩:∃ x:Int,((jB P m).1:Int)=x:=⟨_,rfl⟩
   rw [hz] at d9 M5;have e9:IntKind.i64.wrap (z - 1+1)=z:=by rw [IntWalk.i64_in _ (by omega)];omega
   obtain ⟨zz,hzz⟩:∃ x:Int,z - 1=x:=⟨_,rfl⟩
   rw [hzz] at d9 e9;have T9:Turn o5 o5 (fun x=>x=M) w5 (w5.setCell ⟨b,9,none⟩ (.int .i64 z)):=⟨(aI.refl (fun k=>o5 k=M) w5).setCell (p:=⟨b,9,none⟩) (fun _=>M5.blk.2) _,fun _ _=>rfl⟩;clear hz hzz T5 Ll hwl
   rcases hgo with rfl | rfl
   ·
    have E6:=E5.turn T9 (by omega) (by omega);have R6:=R5.turn T9 (by omega);obtain ⟨a0,c0,y3,y4,y0,y1,y2,I6⟩:=E6.reads;have g0:=R6.frozen 0;have g1:=R6.frozen 1;have g2:=R6.frozen 2;have g3:=R6.frozen 3;have g4:=R6.frozen 4;have k0:=R6.cell 0 _ rfl;have k1:=R6.cell 1 _ rfl;have k2:=R6.cell 2 _ rfl;have k3:=R6.cell 3 _ rfl;have k4:=R6.cell 4 _ rfl;have S7:=dF R6 (.int .i64 m.next) (.int .u8 kn) (.int .i64 ln) (.slice a0 (bU c).length c0) (.int .u8 0);have M7:=M5.turn S7.2 (fun c hc=>by rw [hc];exact aO (by omega));have I7:=I6.turn S7.2 (by omega);have T7:=(TT.trans T9 (fun c hc=>by rw [hc];unfold dm;omega)).trans S7.2 (fun c hc=>by rw [hc];unfold dm;omega);have z4:=E5.reads;obtain ⟨_,_,-,z4,-⟩:=z4;have uL:=Lib.hid S7.1;have pR:=Lib.hid M7;have Nv:=Lib.hid I7;have mW:=Lib.hid T7;have Br:=Lib.hid (uW.out (by decide));clear E6 R6 S7 M7 I7 T7 I6 M5 E5 T9 R5 TT uW HST xO;go_wp2;refine bodyPost_ret_by (results_cell_row rfl _ _ _ _ _ _ _ rfl uL.out.1 Tryz.underlying69 rfl (by kernel_rfl)) rfl ?_;rw [Br.out];exact ⟨_,_,_,rfl,mW.out,pR.out,Nv.out⟩
   ·
    have E6:=E5.turn T9 (by omega) (by omega);have R6:=R5.turn T9 (by omega);obtain ⟨a0,c0,y3,y4,y0,y1,y2,I6⟩:=E6.reads;have g0:=R6.frozen 0;have g1:=R6.frozen 1;have g2:=R6.frozen 2;have g3:=R6.frozen 3;have g4:=R6.frozen 4;have k0:=R6.cell 0 _ rfl;have k1:=R6.cell 1 _ rfl;have k2:=R6.cell 2 _ rfl;have k3:=R6.cell 3 _ rfl;have k4:=R6.cell 4 _ rfl;have S7:=dF R6 (.int .i64 m.next) (.int .u8 kn) (.int .i64 ln) (.slice a0 (bU c).length c0) (.int .u8 1);have M7:=M5.turn S7.2 (fun c hc=>by rw [hc];exact aO (by omega));have I7:=I6.turn S7.2 (by omega);have T7:=(TT.trans T9 (fun c hc=>by rw [hc];unfold dm;omega)).trans S7.2 (fun c hc=>by rw [hc];unfold dm;omega);have z4:=E5.reads;obtain ⟨_,_,-,z4,-⟩:=z4;have uL:=Lib.hid S7.1;have pR:=Lib.hid M7;have Nv:=Lib.hid I7;have mW:=Lib.hid T7;have Br:=Lib.hid (uW.out (by decide));clear E6 R6 S7 M7 I7 T7 I6 M5 E5 T9 R5 TT uW HST xO;go_wp2;refine bodyPost_ret_by (results_cell_row rfl _ _ _ _ _ _ _ rfl uL.out.1 Tryz.underlying69 rfl (by kernel_rfl)) rfl ?_;rw [Br.out];exact ⟨_,_,_,rfl,mW.out,pR.out,Nv.out⟩
  ·
   rw [if_neg hgo] at ru;obtain ⟨o5,v5,rfl,T5,M5,E5⟩:=ru;dsimp only at E5;have R5:=(HR2.out.turn ((Turn.refl q2 (fun _=>False) _).drewN 3) (fun h=>h)).turn T5 (pO (by omega));have TT:=Ll.trans T5 gu.s;have hc2:hh=2∨hh=3∨hh=4:=by omega
   clear T5 Ll hcases
   rcases hc2 with rfl | rfl | rfl
   ·
    have l5:=Lib.hid (HST.out rfl);obtain ⟨_,_,-,z4,-⟩:=E5.reads;have M6:=M5;have E6:=E5;have R6:=R5;have oH:=TT;obtain ⟨_,_,-,y4,y0,y1,y2,I6⟩:=E6.reads;have y3:=E6.jZ;have g0:=R6.frozen 0;have g1:=R6.frozen 1;have g2:=R6.frozen 2;have g3:=R6.frozen 3;have g4:=R6.frozen 4;have k0:=R6.cell 0 _ rfl;have k1:=R6.cell 1 _ rfl;have k2:=R6.cell 2 _ rfl;have k3:=R6.cell 3 _ rfl;have k4:=R6.cell 4 _ rfl;have S7:=dF R6 (.int .i64 m.next) (.int .u8 kn) (.int .i64 ln) (.slice none 0 0) (.int .u8 2);have M7:=M6.turn S7.2 (fun c hc=>by rw [hc];exact aO (by omega));have T7:=oH.trans S7.2 (fun c hc=>by rw [hc];unfold dm;omega);have uL:=Lib.hid S7.1;have pR:=Lib.hid M7;have mW:=Lib.hid T7;clear E6 R6 S7 M7 T7 M6 I6 oH M5 E5 R5 TT uW HST xO;go_wp2;refine bodyPost_ret_by (results_cell_row rfl _ _ _ _ _ _ _ rfl uL.out.1 Tryz.underlying69 rfl (by kernel_rfl)) rfl ?_;rw [l5.out];exact ⟨_,_,.slice none 0 0,rfl,mW.out,pR.out,Own.nil _ _ _ _ _⟩
   ·
    have l5:=Lib.hid (xO.out (.inl rfl));obtain ⟨_,_,-,z4,-⟩:=E5.reads;obtain ⟨_,_,-,-,z0,z1,z2,-⟩:=E5.reads;have z3:=E5.jZ;have nE:bC m v5=[.slice (some ⟨v5.mem,0,none⟩) m.mem.length m.mem.length,v5.lines,.slice (some ⟨v5.fed,0,none⟩) m.fed.length m.fed.length,.slice (some ⟨v5.out,0,none⟩) m.out.length m.out.length,v5.ops,v5.takes,v5.bH,.slice (some ⟨v5.cs,0,none⟩) m.cs.length m.cs.length,v5.hand,.int .i64 m.next,.int .i64 m.periods] ++ tY none:=by unfold bC;rw [Jd.out]
    have j11:=M5.cell 11 (u:=.bool false) (by rw [nE];rfl);have j12:=M5.cell 12 (u:=.int .i64 0) (by rw [nE];rfl);have j13:=M5.cell 13 (u:=.int .u8 0) (by rw [nE];rfl);have j14:=M5.cell 14 (u:=.int .i64 0) (by rw [nE];rfl);have j15:=M5.cell 15 (u:=.slice none 0 0) (by rw [nE];rfl);have j16:=M5.cell 16 (u:=.int .u8 0) (by rw [nE];rfl);have Uu:=M5.frozen 11;have p12:=M5.frozen 12;have p13:=M5.frozen 13;have RB:=M5.frozen 14;have p15:=M5.frozen 15;have p16:=M5.frozen 16;have S6:=M5.setLast Jd.out ⟨m.next,kn,ln,[],3⟩ rfl;dsimp only at S6;have M6:=S6.1;have E6:=E5.turn S6.2 (aO (by omega)) (aO (by omega));have R6:=R5.turn S6.2 (aO (by omega));have oH:=TT.trans S6.2 Mine.s;clear S6 nE;obtain ⟨_,_,-,y4,y0,y1,y2,I6⟩:=E6.reads;have y3:=E6.jZ;have g0:=R6.frozen 0;have g1:=R6.frozen 1;have g2:=R6.frozen 2;have g3:=R6.frozen 3;have g4:=R6.frozen 4;have k0:=R6.cell 0 _ rfl;have k1:=R6.cell 1 _ rfl;have k2:=R6.cell 2 _ rfl;have k3:=R6.cell 3 _ rfl;have k4:=R6.cell 4 _ rfl;have S7:=dF R6 (.int .i64 m.next) (.int .u8 kn) (.int .i64 ln) (.slice none 0 0) (.int .u8 3);have M7:=M6.turn S7.2 (fun c hc=>by rw [hc];exact aO (by omega));have T7:=oH.trans S7.2 (fun c hc=>by rw [hc];unfold dm;omega);have uL:=Lib.hid S7.1;have pR:=Lib.hid M7;have mW:=Lib.hid T7;clear E6 R6 S7 M7 T7 M6 I6 oH M5 E5 R5 TT uW HST xO;go_wp2;refine bodyPost_ret_by (results_cell_row rfl _ _ _ _ _ _ _ rfl uL.out.1 Tryz.underlying69 rfl (by kernel_rfl)) rfl ?_;rw [l5.out];exact ⟨_,_,.slice none 0 0,rfl,mW.out,pR.out,Own.nil _ _ _ _ _⟩
   ·
    have l5:=Lib.hid (xO.out (.inr rfl));obtain ⟨_,_,-,z4,-⟩:=E5.reads;obtain ⟨_,_,-,-,z0,z1,z2,-⟩:=E5.reads;have z3:=E5.jZ;have nE:bC m v5=[.slice (some ⟨v5.mem,0,none⟩) m.mem.length m.mem.length,v5.lines,.slice (some ⟨v5.fed,0,none⟩) m.fed.length m.fed.length,.slice (some ⟨v5.out,0,none⟩) m.out.length m.out.length,v5.ops,v5.takes,v5.bH,.slice (some ⟨v5.cs,0,none⟩) m.cs.length m.cs.length,v5.hand,.int .i64 m.next,.int .i64 m.periods] ++ tY none:=by unfold bC;rw [Jd.out]
    have j11:=M5.cell 11 (u:=.bool false) (by rw [nE];rfl);have j12:=M5.cell 12 (u:=.int .i64 0) (by rw [nE];rfl);have j13:=M5.cell 13 (u:=.int .u8 0) (by rw [nE];rfl);have j14:=M5.cell 14 (u:=.int .i64 0) (by rw [nE];rfl);have j15:=M5.cell 15 (u:=.slice none 0 0) (by rw [nE];rfl);have j16:=M5.cell 16 (u:=.int .u8 0) (by rw [nE];rfl);have Uu:=M5.frozen 11;have p12:=M5.frozen 12;have p13:=M5.frozen 13;have RB:=M5.frozen 14;have p15:=M5.frozen 15;have p16:=M5.frozen 16;have S6:=M5.setLast Jd.out ⟨m.next,kn,ln,[],4⟩ rfl;dsimp only at S6;have M6:=S6.1;have E6:=E5.turn S6.2 (aO (by omega)) (aO (by omega));have R6:=R5.turn S6.2 (aO (by omega));have oH:=TT.trans S6.2 Mine.s;clear S6 nE;obtain ⟨_,_,-,y4,y0,y1,y2,I6⟩:=E6.reads;have y3:=E6.jZ;have g0:=R6.frozen 0;have g1:=R6.frozen 1;have g2:=R6.frozen 2;have g3:=R6.frozen 3;have g4:=R6.frozen 4;have k0:=R6.cell 0 _ rfl;have k1:=R6.cell 1 _ rfl;have k2:=R6.cell 2 _ rfl;have k3:=R6.cell 3 _ rfl;have k4:=R6.cell 4 _ rfl;have S7:=dF R6 (.int .i64 m.next) (.int .u8 kn) (.int .i64 ln) (.slice none 0 0) (.int .u8 4);have M7:=M6.turn S7.2 (fun c hc=>by rw [hc];exact aO (by omega));have T7:=oH.trans S7.2 (fun c hc=>by rw [hc];unfold dm;omega);have uL:=Lib.hid S7.1;have pR:=Lib.hid M7;have mW:=Lib.hid T7;clear E6 R6 S7 M7 T7 M6 I6 oH M5 E5 R5 TT uW HST xO;go_wp2;refine bodyPost_ret_by (results_cell_row rfl _ _ _ _ _ _ _ rfl uL.out.1 Tryz.underlying69 rfl (by kernel_rfl)) rfl ?_;rw [l5.out];exact ⟨_,_,.slice none 0 0,rfl,mW.out,pR.out,Own.nil _ _ _ _ _⟩
 ·
  go_enter Tryz.func58,Tryz.ntmps58
  go_wp2_with fail
  refine ax (fun w'=>w'.cell? ⟨b,4,none⟩=some (.slice (some ⟨go,0,none⟩) P.ops.length co)∧w'.cell? ⟨b,9,none⟩=some (.int .i64 m.next)∧w'.cell? ⟨go,m.next*3,none⟩=some (.int .u8 kn)∧w'.cell? ⟨go,m.next*3+1,none⟩=some (.int .i64 xa)∧w'.cell? ⟨go,m.next*3+2,none⟩=some (.int .i64 xb)) [0,1,2,3,4,5,6,7,8,9] [10,11] (by kernel_rfl) (by kernel_rfl) rfl (fun _ _ hx h=>⟨hx.cell h.1,hx.cell h.2.1,hx.cell h.2.2.1,hx.cell h.2.2.2.1,hx.cell h.2.2.2.2⟩) ⟨c4,c9,o1,o2,o3⟩ ?_;intro Q' hQ';simp only [pk];refine aA ?_;refine av ?_
  go_wp2_with fail
  refine ax (fun w'=>w'.cell? ⟨b,9,none⟩=some (.int .i64 m.next)∧w'.cell? ⟨w.heap.size+1,0,none⟩=some (.int .u8 kn)) [0,1,2,3,4,5,6] [7,8] (by kernel_rfl) (by kernel_rfl) rfl (fun _ _ hx h=>⟨hx.cell h.1,hx.cell h.2⟩) ⟨c9',x10⟩ ?_;intro Q' hQ';simp only [pk];refine aA ?_;refine av ?_
  go_wp2_with fail
  refine ax (fun w'=>w'.cell? ⟨w.heap.size+1,0,none⟩=some (.int .u8 kn)∧w'.cell? ⟨w.heap.size+1,1,none⟩=some (.int .i64 xa)∧w'.cell? ⟨w.heap.size+1,2,none⟩=some (.int .i64 xb)∧w'.cell? ⟨tb,kn,none⟩=some (.func (.func f) #[] #[])) [0,1,2,3,4,5,6] [7] (by kernel_rfl) (by kernel_rfl) rfl (fun _ _ hx h=>⟨hx.cell h.1,hx.cell h.2.1,hx.cell h.2.2.1,hx.cell h.2.2.2⟩) ⟨x20,x21,Ut,tk2⟩ ?_;intro Q' hQ';simp only [pk];refine aA ?_;refine av ?_
  go_wp2_with fail
  refine (HD.out (J4.out.drewN 3) (HE2.out.drewN 3)).mono ?_;rintro e w5 ru;unfold mR at ru;rw [Nu.out] at ru;have Ll:=(Z9.out.mono (D:=dm M) (fun _ h=>h.elim)).drewN 3;clear x10 c9' x20 x21 Ut tk2 c4 c9 c11 o1 o2 o3
  by_cases hgo:hh=0∨hh=1
  ·
   rw [if_pos hgo] at ru;obtain ⟨o5,v5,rfl,T5,d9,f9,M5,E5⟩:=ru;dsimp only at d9 M5 E5;have R5:=(HR2.out.turn ((Turn.refl q2 (fun _=>False) _).drewN 3) (fun h=>h)).turn T5 (pO (by omega));have TT:=Ll.trans T5 gu.s;have hwl:=aac.out;obtain ⟨z,hz⟩:∃ x:Int,((jB P m).1:Int)=x:=⟨_,rfl⟩
   rw [hz] at d9 M5;have e9:IntKind.i64.wrap (z - 1+1)=z:=by rw [IntWalk.i64_in _ (by omega)];omega
   obtain ⟨zz,hzz⟩:∃ x:Int,z - 1=x:=⟨_,rfl⟩
   rw [hzz] at d9 e9;have T9:Turn o5 o5 (fun x=>x=M) w5 (w5.setCell ⟨b,9,none⟩ (.int .i64 z)):=⟨(aI.refl (fun k=>o5 k=M) w5).setCell (p:=⟨b,9,none⟩) (fun _=>M5.blk.2) _,fun _ _=>rfl⟩;clear hz hzz T5 Ll hwl
   rcases hgo with rfl | rfl
   ·
    have E6:=E5.turn T9 (by omega) (by omega);have R6:=R5.turn T9 (by omega);obtain ⟨a0,c0,y3,y4,y0,y1,y2,I6⟩:=E6.reads;have g0:=R6.frozen 0;have g1:=R6.frozen 1;have g2:=R6.frozen 2;have g3:=R6.frozen 3;have g4:=R6.frozen 4;have k0:=R6.cell 0 _ rfl;have k1:=R6.cell 1 _ rfl;have k2:=R6.cell 2 _ rfl;have k3:=R6.cell 3 _ rfl;have k4:=R6.cell 4 _ rfl;have S7:=dF R6 (.int .i64 m.next) (.int .u8 kn) (.int .i64 (-1)) (.slice a0 (bU c).length c0) (.int .u8 0);have M7:=M5.turn S7.2 (fun c hc=>by rw [hc];exact aO (by omega));have I7:=I6.turn S7.2 (by omega);have T7:=(TT.trans T9 (fun c hc=>by rw [hc];unfold dm;omega)).trans S7.2 (fun c hc=>by rw [hc];unfold dm;omega);have z4:=E5.reads;obtain ⟨_,_,-,z4,-⟩:=z4;have uL:=Lib.hid S7.1;have pR:=Lib.hid M7;have Nv:=Lib.hid I7;have mW:=Lib.hid T7;have Br:=Lib.hid (uW.out (by decide));clear E6 R6 S7 M7 I7 T7 I6 M5 E5 T9 R5 TT uW HST xO;go_wp2;refine bodyPost_ret_by (results_cell_row rfl _ _ _ _ _ _ _ rfl uL.out.1 Tryz.underlying69 rfl (by kernel_rfl)) rfl ?_;rw [Br.out];exact ⟨_,_,_,rfl,mW.out,pR.out,Nv.out⟩
   ·
    have E6:=E5.turn T9 (by omega) (by omega);have R6:=R5.turn T9 (by omega);obtain ⟨a0,c0,y3,y4,y0,y1,y2,I6⟩:=E6.reads;have g0:=R6.frozen 0;have g1:=R6.frozen 1;have g2:=R6.frozen 2;have g3:=R6.frozen 3;have g4:=R6.frozen 4;have k0:=R6.cell 0 _ rfl;have k1:=R6.cell 1 _ rfl;have k2:=R6.cell 2 _ rfl;have k3:=R6.cell 3 _ rfl;have k4:=R6.cell 4 _ rfl;have S7:=dF R6 (.int .i64 m.next) (.int .u8 kn) (.int .i64 (-1)) (.slice a0 (bU c).length c0) (.int .u8 1);have M7:=M5.turn S7.2 (fun c hc=>by rw [hc];exact aO (by omega));have I7:=I6.turn S7.2 (by omega);have T7:=(TT.trans T9 (fun c hc=>by rw [hc];unfold dm;omega)).trans S7.2 (fun c hc=>by rw [hc];unfold dm;omega);have z4:=E5.reads;obtain ⟨_,_,-,z4,-⟩:=z4;have uL:=Lib.hid S7.1;have pR:=Lib.hid M7;have Nv:=Lib.hid I7;have mW:=Lib.hid T7;have Br:=Lib.hid (uW.out (by decide));clear E6 R6 S7 M7 I7 T7 I6 M5 E5 T9 R5 TT uW HST xO;go_wp2;refine bodyPost_ret_by (results_cell_row rfl _ _ _ _ _ _ _ rfl uL.out.1 Tryz.underlying69 rfl (by kernel_rfl)) rfl ?_;rw [Br.out];exact ⟨_,_,_,rfl,mW.out,pR.out,Nv.out⟩
  ·
   rw [if_neg hgo] at ru;obtain ⟨o5,v5,rfl,T5,M5,E5⟩:=ru;dsimp only at E5;have R5:=(HR2.out.turn ((Turn.refl q2 (fun _=>False) _).drewN 3) (fun h=>h)).turn T5 (pO (by omega));have TT:=Ll.trans T5 gu.s;have hc2:hh=2∨hh=3∨hh=4:=by omega
   clear T5 Ll hcases
   rcases hc2 with rfl | rfl | rfl
   ·
    have l5:=Lib.hid (HST.out rfl);obtain ⟨_,_,-,z4,-⟩:=E5.reads;have M6:=M5;have E6:=E5;have R6:=R5;have oH:=TT;obtain ⟨_,_,-,y4,y0,y1,y2,I6⟩:=E6.reads;have y3:=E6.jZ;have g0:=R6.frozen 0;have g1:=R6.frozen 1;have g2:=R6.frozen 2;have g3:=R6.frozen 3;have g4:=R6.frozen 4;have k0:=R6.cell 0 _ rfl;have k1:=R6.cell 1 _ rfl;have k2:=R6.cell 2 _ rfl;have k3:=R6.cell 3 _ rfl;have k4:=R6.cell 4 _ rfl;have S7:=dF R6 (.int .i64 m.next) (.int .u8 kn) (.int .i64 (-1)) (.slice none 0 0) (.int .u8 2);have M7:=M6.turn S7.2 (fun c hc=>by rw [hc];exact aO (by omega));have T7:=oH.trans S7.2 (fun c hc=>by rw [hc];unfold dm;omega);have uL:=Lib.hid S7.1;have pR:=Lib.hid M7;have mW:=Lib.hid T7;clear E6 R6 S7 M7 T7 M6 I6 oH M5 E5 R5 TT uW HST xO;go_wp2;refine bodyPost_ret_by (results_cell_row rfl _ _ _ _ _ _ _ rfl uL.out.1 Tryz.underlying69 rfl (by kernel_rfl)) rfl ?_;rw [l5.out];exact ⟨_,_,.slice none 0 0,rfl,mW.out,pR.out,Own.nil _ _ _ _ _⟩
   ·
    have l5:=Lib.hid (xO.out (.inl rfl));obtain ⟨_,_,-,z4,-⟩:=E5.reads;obtain ⟨_,_,-,-,z0,z1,z2,-⟩:=E5.reads;have z3:=E5.jZ;have nE:bC m v5=[.slice (some ⟨v5.mem,0,none⟩) m.mem.length m.mem.length,v5.lines,.slice (some ⟨v5.fed,0,none⟩) m.fed.length m.fed.length,.slice (some ⟨v5.out,0,none⟩) m.out.length m.out.length,v5.ops,v5.takes,v5.bH,.slice (some ⟨v5.cs,0,none⟩) m.cs.length m.cs.length,v5.hand,.int .i64 m.next,.int .i64 m.periods] ++ tY none:=by unfold bC;rw [Jd.out]
    have j11:=M5.cell 11 (u:=.bool false) (by rw [nE];rfl);have j12:=M5.cell 12 (u:=.int .i64 0) (by rw [nE];rfl);have j13:=M5.cell 13 (u:=.int .u8 0) (by rw [nE];rfl);have j14:=M5.cell 14 (u:=.int .i64 0) (by rw [nE];rfl);have j15:=M5.cell 15 (u:=.slice none 0 0) (by rw [nE];rfl);have j16:=M5.cell 16 (u:=.int .u8 0) (by rw [nE];rfl);have Uu:=M5.frozen 11;have p12:=M5.frozen 12;have p13:=M5.frozen 13;have RB:=M5.frozen 14;have p15:=M5.frozen 15;have p16:=M5.frozen 16;have S6:=M5.setLast Jd.out ⟨m.next,kn,(-1),[],3⟩ rfl;dsimp only at S6;have M6:=S6.1;have E6:=E5.turn S6.2 (aO (by omega)) (aO (by omega));have R6:=R5.turn S6.2 (aO (by omega));have oH:=TT.trans S6.2 Mine.s;clear S6 nE;obtain ⟨_,_,-,y4,y0,y1,y2,I6⟩:=E6.reads;have y3:=E6.jZ;have g0:=R6.frozen 0;have g1:=R6.frozen 1;have g2:=R6.frozen 2;have g3:=R6.frozen 3;have g4:=R6.frozen 4;have k0:=R6.cell 0 _ rfl;have k1:=R6.cell 1 _ rfl;have k2:=R6.cell 2 _ rfl;have k3:=R6.cell 3 _ rfl;have k4:=R6.cell 4 _ rfl;have S7:=dF R6 (.int .i64 m.next) (.int .u8 kn) (.int .i64 (-1)) (.slice none 0 0) (.int .u8 3);have M7:=M6.turn S7.2 (fun c hc=>by rw [hc];exact aO (by omega));have T7:=oH.trans S7.2 (fun c hc=>by rw [hc];unfold dm;omega);have uL:=Lib.hid S7.1;have pR:=Lib.hid M7;have mW:=Lib.hid T7;clear E6 R6 S7 M7 T7 M6 I6 oH M5 E5 R5 TT uW HST xO;go_wp2;refine bodyPost_ret_by (results_cell_row rfl _ _ _ _ _ _ _ rfl uL.out.1 Tryz.underlying69 rfl (by kernel_rfl)) rfl ?_;rw [l5.out];exact ⟨_,_,.slice none 0 0,rfl,mW.out,pR.out,Own.nil _ _ _ _ _⟩
   ·
    have l5:=Lib.hid (xO.out (.inr rfl));obtain ⟨_,_,-,z4,-⟩:=E5.reads;obtain ⟨_,_,-,-,z0,z1,z2,-⟩:=E5.reads;have z3:=E5.jZ;have nE:bC m v5=[.slice (some ⟨v5.mem,0,none⟩) m.mem.length m.mem.length,v5.lines,.slice (some ⟨v5.fed,0,none⟩) m.fed.length m.fed.length,.slice (some ⟨v5.out,0,none⟩) m.out.length m.out.length,v5.ops,v5.takes,v5.bH,.slice (some ⟨v5.cs,0,none⟩) m.cs.length m.cs.length,v5.hand,.int .i64 m.next,.int .i64 m.periods] ++ tY none:=by unfold bC;rw [Jd.out]
    have j11:=M5.cell 11 (u:=.bool false) (by rw [nE];rfl);have j12:=M5.cell 12 (u:=.int .i64 0) (by rw [nE];rfl);have j13:=M5.cell 13 (u:=.int .u8 0) (by rw [nE];rfl);have j14:=M5.cell 14 (u:=.int .i64 0) (by rw [nE];rfl);have j15:=M5.cell 15 (u:=.slice none 0 0) (by rw [nE];rfl);have j16:=M5.cell 16 (u:=.int .u8 0) (by rw [nE];rfl);have Uu:=M5.frozen 11;have p12:=M5.frozen 12;have p13:=M5.frozen 13;have RB:=M5.frozen 14;have p15:=M5.frozen 15;have p16:=M5.frozen 16;have S6:=M5.setLast Jd.out ⟨m.next,kn,(-1),[],4⟩ rfl;dsimp only at S6;have M6:=S6.1;have E6:=E5.turn S6.2 (aO (by omega)) (aO (by omega));have R6:=R5.turn S6.2 (aO (by omega));have oH:=TT.trans S6.2 Mine.s;clear S6 nE;obtain ⟨_,_,-,y4,y0,y1,y2,I6⟩:=E6.reads;have y3:=E6.jZ;have g0:=R6.frozen 0;have g1:=R6.frozen 1;have g2:=R6.frozen 2;have g3:=R6.frozen 3;have g4:=R6.frozen 4;have k0:=R6.cell 0 _ rfl;have k1:=R6.cell 1 _ rfl;have k2:=R6.cell 2 _ rfl;have k3:=R6.cell 3 _ rfl;have k4:=R6.cell 4 _ rfl;have S7:=dF R6 (.int .i64 m.next) (.int .u8 kn) (.int .i64 (-1)) (.slice none 0 0) (.int .u8 4);have M7:=M6.turn S7.2 (fun c hc=>by rw [hc];exact aO (by omega));have T7:=oH.trans S7.2 (fun c hc=>by rw [hc];unfold dm;omega);have uL:=Lib.hid S7.1;have pR:=Lib.hid M7;have mW:=Lib.hid T7;clear E6 R6 S7 M7 T7 M6 I6 oH M5 E5 R5 TT uW HST xO;go_wp2;refine bodyPost_ret_by (results_cell_row rfl _ _ _ _ _ _ _ rfl uL.out.1 Tryz.underlying69 rfl (by kernel_rfl)) rfl ?_;rw [l5.out];exact ⟨_,_,.slice none 0 0,rfl,mW.out,pR.out,Own.nil _ _ _ _ _⟩
theorem Bt {P:ay}{S:Int}(hS:bW P=(S,0)){to:Int}{m:aH}{d:Nat}{R:Int × aH}(h:Ready P m d)(hd:d < S.toNat)(hp:(m.periods:Int) < to)(hR:eU P S to m=R) :
  ((aY P m).1.halt=0∧∃ d',d=d'+1∧Ready P (aY P m).2 d'∧(aY P m).2.periods=m.periods∧eU P S to (aY P m).2=R) ∨
  ((aY P m).1.halt=1∧d=0∧∃ d',d'+1=S.toNat∧Ready P (aY P m).2 d'∧(aY P m).2.periods=m.periods+1∧(aY P m).2.cs=List.replicate P.counters.toNat 0∧eU P S to (aY P m).2=R) ∨
  ((aY P m).1.halt≠0∧(aY P m).1.halt≠1∧R=((aY P m).1.halt,(aY P m).2)):=by
 rw [yK hS h hd hp] at hR
 by_cases hgo:(aY P m).1.halt≠0∧(aY P m).1.halt≠1
 ·
  rw [if_pos hgo] at hR;exact .inr (.inr ⟨hgo.1,hgo.2,hR.symm⟩)
 ·
  rw [if_neg hgo] at hR;obtain ⟨d',h1,h2,h3,h4,h5⟩:=jX hS h to hp hd (by omega)
  by_cases h0:(aY P m).1.halt=0
  ·
   obtain ⟨e1,e2⟩:=h4 h0;exact .inl ⟨h0,d',e1,h2,e2,hR⟩
  ·
   have h1':(aY P m).1.halt=1:=by omega
   obtain ⟨e1,e2,e3,e4⟩:=h5 h1';exact .inr (.inl ⟨h1',e1,d',e3,h2,e2,e4,hR⟩)
def oU (m:aH)(i:Nat)(ts:List Int):aH:={ m with fed:=m.fed.set i (rowAt m.fed i ++ ts) }
theorem J8 {P:ay}{m:aH}(h0:(aY P m).1.halt≠0)(h1:(aY P m).1.halt≠1):(aY P (aY P m).2).1.halt=(aY P m).1.halt∧aY P (aY P m).2=((aY P (aY P m).2).1,(aY P m).2)∧((aY P m).1.halt≠2→∃ e,(aY P m).2.last=some e)∧((aY P m).1.halt=2→m.last=none→(aY P m).2=m):=by
 revert h0 h1
 unfold aY
 rcases hl:m.last with _ | e
 ·
  simp only
  by_cases hgo:(bK P (bI P.ops m.next) m).1=0∨(bK P (bI P.ops m.next) m).1=1
  ·
   rw [if_pos hgo];intro h0 h1;exact absurd hgo (by rintro (h | h) <;> first | exact h0 h | exact h1 h)
  ·
   rw [if_neg hgo]
   by_cases h2:(bK P (bI P.ops m.next) m).1=2
   ·
    rw [if_pos h2];intro _ _;simp only [hl];rw [if_neg hgo,if_pos h2];exact ⟨by trivial,by trivial,fun h=>absurd (by trivial) h,fun _ _=>by trivial⟩
   ·
    rw [if_neg h2];intro _ _;exact ⟨by trivial,by trivial,fun _=>⟨_,rfl⟩,fun h=>absurd h h2⟩
 ·
  intro _ _;simp only [hl];exact ⟨by trivial,by trivial,fun _=>⟨_,rfl⟩,fun _ h=>by cases h⟩
theorem Ready.feed {P:ay}{m:aH}{d:Nat}(h:Ready P m d)(i:Nat)(ts:List Int):Ready P (oU m i ts) d:=⟨h.rest,h.last⟩
theorem DI {P:ay}{S:Int}(hS:bW P=(S,0))(to:Int):∀ (k:Nat) {m:aH} {d:Nat} {R:Int × aH},meas S.toNat to m d=k→Ready P m d→d < S.toNat→eU P S to m=R →
  (R.1=1∧¬ (R.2.periods:Int) < to∧((m.periods:Int)≤to→(R.2.periods:Int)=to)∧∃ d',d' < S.toNat∧Ready P R.2 d') ∨
  (R.1≠0∧R.1≠1∧(R.2.periods:Int) < to∧(aY P R.2).1.halt=R.1∧aY P R.2=((aY P R.2).1,R.2)∧(R.1≠2→∃ e,R.2.last=some e)∧∃ d',d' < S.toNat∧Ready P R.2 d')
 | k,m,d,R,hk,h,hd,hR=>by
  by_cases hp:(m.periods:Int) < to
  ·
   have hs:=yK hS h hd hp;rw [hR] at hs
   by_cases hgo:(aY P m).1.halt≠0∧(aY P m).1.halt≠1
   ·
    rw [if_pos hgo] at hs;obtain ⟨a1,a2,a3,_⟩:=J8 hgo.1 hgo.2;have w:=(AV hS h.halt h.rest).stops hgo.1 hgo.2;refine .inr ?_;rw [hs];refine ⟨hgo.1,hgo.2,by show ((aY P m).2.periods:Int) < to;rw [w.1];exact hp,a1,a2,a3,d,hd,?_,uF h⟩;show Rest P ((aY P m).2.next,(aY P m).2.cs) d
    rw [w.2.1,w.2.2];exact h.rest
   ·
    rw [if_neg hgo] at hs;obtain ⟨d',h3,h4,h5,h6,h7⟩:=jX hS h to hp hd (by omega);have hlt:meas S.toNat to (aY P m).2 d' < k:=by omega
    rcases DI hS to _ (d:=d') rfl h4 h3 hs.symm with ⟨b1,b2,b3,b4⟩ | b
    ·
     refine .inl ⟨b1,b2,fun _=>b3 ?_,b4⟩
     by_cases h0:(aY P m).1.halt=0
     ·
      have:=(h6 h0).2;omega
     ·
      have:=(h7 (by omega)).2.1;omega
    ·
     exact .inr b
  ·
   have h1:=rO (P:=P) (S:=S) hp;rw [hR] at h1;rw [h1];exact .inl ⟨rfl,hp,fun h=>by show (m.periods:Int)=to;omega,d,hd,h⟩
 termination_by k=>k
theorem lH.more {P:ay}{F G s s':Nat}{m:aH}(h:lH P F s m)(hs:s≤s')(hF:F≤G):lH P G s' m :=
 { h with AU:=fun r hr=>⟨by have:=(h.AU r hr).1;omega,(h.AU r hr).2⟩,uE:=fun r hr=>⟨by have:=(h.uE r hr).1;omega,(h.uE r hr).2⟩,Cn:=fun b hb=>by have:=h.Cn b hb;exact ⟨this.1,by omega,this.2.2⟩,per:=by have:=h.per;omega }
theorem lH.feed {P:ay}{F s G:Nat}{m:aH}(h:lH P F s m)(i:Nat){ts:List Int}(hl:ts.length≤G)(hf:∀ x∈ts,Fits x):lH P (F+G) s (oU m i ts):=by
 have H:=h.more (Nat.le_refl s) (Nat.le_add_right F G);have hr:=pI (Q:=fun r:List Int=>r.length≤F∧∀ x∈r,Fits x) h.AU ⟨Nat.zero_le _,fun _ h=>by cases h⟩ i;refine { H with fed:=by rw [← h.fed];exact List.length_set,AU:=sQ (Q:=fun r:List Int=>r.length≤F+G∧∀ x∈r,Fits x) H.AU ⟨by rw [List.length_append];have:=hr.1;omega,fun x hx=>?_⟩ }
 rcases List.mem_append.1 hx with hx | hx
 ·
  exact hr.2 x hx
 ·
  exact hf x hx
theorem Lm {P:ay}{S:Int}{F:Nat}(hS:bW P=(S,0))(hf:iM P)(to:Int):∀ (f s:Nat) (m:aH),lH P F s m→lH P F (s+f) (uD P to f m).2
 | 0,s,m,h=>h
 | f+1,s,m,h=>by
  rw [uD]
  split
  ·
   split
   ·
    exact (pJ hS hf h).more (by omega) (Nat.le_refl _)
   ·
    have:=Lm hS hf to f (s+1) _ (pJ hS hf h);exact this.more (by omega) (Nat.le_refl _)
  ·
   exact h.more (by omega) (Nat.le_refl _)
theorem DJ {P:ay}{S:Int}{F s:Nat}{to:Int}{m:aH}(hS:bW P=(S,0))(hf:iM P)(h:lH P F s m)(ht:to≤m.periods+8):lH P F (s+1048576) (eU P S to m).2:=by
 have hb:=rest_start hS;have h1:=Lm hS hf to ((to - m.periods).toNat*S.toNat) s m h;refine h1.more ?_ (Nat.le_refl _);have h2:(to - (m.periods:Int)).toNat*S.toNat≤8*131072:=Nat.mul_le_mul (by omega) (by omega);omega
theorem Ho {w:World}{o:Col}{M b tb:Nat}{P:ay}{m:aH}{v:bV}{F s:Nat}(h:aN w o M b P m v)(hT:zY w o M tb)(hP:tX P)(hf:iM P)(hm:lH P F s m)(hs:s≤1000000000) :
  Calls Tryz.prog 58 #[.pointer (some ⟨b,0,none⟩),.slice (some ⟨tb,0,none⟩) 8 8] w (EU w o M b P (aY P m)):=by
 rcases hl:m.last with _ | e
 ·
  exact Ns h hT hP hf hm hs hl
 ·
  exact Hg h hl
def vR (w:World)(e:Ending)(w':World):Prop:=∃ tb,e=.returned (.slice (some ⟨tb,0,none⟩) 8 8)∧w'.heap[tb]?=some (.cells ET.toArray 156 (0,0))∧w.heap.size≤tb∧Below w.heap.size w w'
theorem DK (w:World):Calls Tryz.prog 59 #[] w (vR w):=by
 go_enter Tryz.func59,Tryz.ntmps59
 go_wp2;go_ret
 exact ⟨w.heap.size,rfl,heap_alloc_new w _,Nat.le_refl _,au w _⟩
theorem vR.at {w w':World}{tb:Nat}(o:Col)(M:Nat)(h1:w'.heap[tb]?=some (.cells ET.toArray 156 (0,0)))(h2:w.heap.size≤tb):zY w' (ext o w.heap.size (M+209)) M tb:=⟨h1,aW h2⟩
def RD (w:World)(o:Col)(M b:Nat)(P:ay)(r:OZ × aH)(e:Ending)(w':World):Prop :=
 ∃ o' v' cv,e=.returned (.tuple #[Ws r.1 cv,.int .i64 0])∧Turn o o' (dm M) w w'∧aN w' o' M b P r.2 v'∧Own w' o' (M+210) 3 1 cv r.1.cells.length (aV r.1.cells)
theorem Ht {w:World}{o:Col}{M b:Nat}{P:ay}{m:aH}{v:bV}{F s:Nat}(h:aN w o M b P m v)(hP:tX P)(hf:iM P)(hm:lH P F s m)(hs:s≤1000000000) :
  Calls Tryz.prog 24 #[.pointer (some ⟨b,0,none⟩)] w (RD w o M b P (aY P m)):=by
 have hb0:=au w (.cells #[.int .i64 0,.int .u8 0,.int .i64 0,.slice none 0 0,.int .u8 0] 69);have T0:=Turn.of_below o (M+211) hb0;have R0:dY (w.alloc (.cells #[.int .i64 0,.int .u8 0,.int .i64 0,.slice none 0 0,.int .u8 0] 69)) (ext o w.heap.size (M+211)) (M+211) w.heap.size 69 #[.int .i64 0,.int .u8 0,.int .i64 0,.slice none 0 0,.int .u8 0]:=⟨heap_alloc_new w _,aW (Nat.le_refl _)⟩;have h0:=h.turn T0 (fun _ h=>h.elim);have HM:=Lib.hid h0;have HR:=Lib.hid R0;have HT:=Lib.hid T0;clear h hb0 T0 R0 h0;generalize ext o w.heap.size (M+211)=q at *
 go_enter Tryz.func24,Tryz.ntmps24
 go_wp2_with fail
 refine (DK _).mono ?_;rintro e w1 ⟨tb,rfl,k1,k2,hb1⟩;have T1:=Turn.of_below q (M+209) hb1;have Hu:=Lib.hid (vR.at q M k1 k2);have EP:=Lib.hid (HM.out.turn T1 (fun _ h=>h.elim));have HR1:=Lib.hid (HR.out.turn T1 (fun h=>h));have HT1:=Lib.hid (HT.out.trans T1 (fun _ h=>h));generalize ext q _ (M+209)=q1 at *;clear k1 k2 hb1 T1 HM HR HT
 go_wp2_with fail
 refine (Ho EP.out Hu.out hP hf hm hs).mono ?_;rintro e w2 ⟨o2,v2,cv,rfl,T2,M2,I2⟩;have R2:=HR1.out.turn T2 (Hf (by omega));obtain ⟨ca,cc,rfl⟩:=I2.slice;obtain ⟨⟨⟨FH,FI,FJ,EX,FK⟩,m2⟩,hr⟩:∃ x,aY P m=x:=⟨_,rfl⟩
 rw [hr] at M2 I2 ⊢;have HRR:=Lib.hid hr;unfold Ws;dsimp only at M2 I2 ⊢;have g0:=R2.frozen 0;have g1:=R2.frozen 1;have g2:=R2.frozen 2;have g3:=R2.frozen 3;have g4:=R2.frozen 4;have k0:=R2.cell 0 _ rfl;have k1:=R2.cell 1 _ rfl;have k2:=R2.cell 2 _ rfl;have k3:=R2.cell 3 _ rfl;have k4:=R2.cell 4 _ rfl;have S7:=dF R2 (.int .i64 FH) (.int .u8 FI) (.int .i64 FJ) (.slice ca EX.length cc) (.int .u8 FK);have M7:=M2.turn S7.2 (fun c hc=>by rw [hc];exact aO (by omega));have I7:=I2.turn S7.2 (by omega);have T7:=((HT1.out.mono (D:=dm M) (fun _ h=>h.elim)).trans T2 (fun _ h=>h)).fresh (Rx w2 w.heap.size (.int .i64 FH) (.int .u8 FI) (.int .i64 FJ) (.slice ca EX.length cc) (.int .u8 FK)) (Nat.le_refl _);have uL:=Lib.hid S7.1;have pR:=Lib.hid M7;have Nv:=Lib.hid I7;have mW:=Lib.hid T7;clear R2 S7 M7 I7 T7 M2 I2 T2 EP HT1 HR1 Hu hr hm;go_wp2;refine bodyPost_ret_by (zy rfl _ _ _ _ _ _ _ rfl uL.out.1 Tryz.underlying69 rfl (by kernel_rfl)) rfl ?_;rw [HRR.out];exact ⟨_,_,_,rfl,mW.out,pR.out,Nv.out⟩
theorem Bu (a b c v:Value)(h:Int)(w:World):(Instr.field 69 (.agg #[a,b,c,v,.int .u8 h]) 4).run Tryz.prog w=.ok (.int .u8 h) w:=by kernel_rfl
def aad (w:World)(o:Col)(M b:Nat)(P:ay)(r:Int × aH)(e:Ending)(w':World):Prop :=
 ∃ o' v',e=.returned (.tuple #[.int .u8 r.1,.int .i64 0])∧Turn o o' (dm M) w w'∧aN w' o' M b P r.2 v'
theorem EY {w:World}{o:Col}{M b:Nat}{P:ay}{S:Int}{m:aH}{v:bV}{F s:Nat}(n:Nat)(h:aN w o M b P m v)(hS:bW P=(S,0))(hf:iM P)(hm:lH P F s m)(hs:s≤900000000)(hn:n≤8){d:Nat}(hrd:Ready P m d)(hd:d < S.toNat) :
  Calls Tryz.prog 26 #[.pointer (some ⟨b,0,none⟩),.int .i64 n] w (aad w o M b P (eU P S (m.periods+n) m)):=by
 have hP:=rJ hS;have hSb:=rest_start hS;have Rz:=hm.per;obtain ⟨R,hR⟩:∃ x,eU P S (m.periods+n) m=x:=⟨_,rfl⟩
 have hml:=EC (S:=S.toNat) (to:=(m.periods:Int)+n) (m:=m) hd;have hmb:meas S.toNat ((m.periods:Int)+n) m d≤1048576:=by
  refine Nat.le_trans hml ?_;have h2:((m.periods:Int)+n - (m.periods:Int)).toNat*S.toNat≤8*131072:=Nat.mul_le_mul (by omega) (by omega);omega
 obtain ⟨to,hto⟩:∃ x:Int,(m.periods:Int)+n=x:=⟨_,rfl⟩
 rw [hto] at hR hml hmb ⊢;have adP:to≤1000000000:=by omega
 have c10:=h.cell 10 (u:=.int .i64 (m.periods:Int)) (by unfold bC;rfl);have e1:IntKind.i64.wrap ((m.periods:Int)+n)=to:=by rw [hto];exact IntWalk.i64_in _ (by omega)
 have HM:=Lib.hid h;have Yl:=Lib.hid hrd;have Pb:=Lib.hid hm;have HRR:=Lib.hid hR;have hn0:¬ (n:Int) < 0:=by omega
 have hn8:¬ (8:Int) < n:=by omega
 obtain ⟨pz,hpz⟩:∃ x:Int,(m.periods:Int)=x:=⟨_,rfl⟩
 rw [hpz] at c10 e1;clear h hm hrd hR hto hml hpz
 go_enter Tryz.func26,Tryz.ntmps26
 go_wp2_with fail
 refine (DK _).mono ?_;rintro e w1 ⟨tb,rfl,k1,k2,hb1⟩;have T1:=Turn.of_below o (M+209) hb1;have Hu:=Lib.hid (vR.at o M k1 k2);have hM1:=HM.out.turn T1 (fun _ h=>h.elim);have c10:=cell_later hb1 c10;have EP:=Lib.hid hM1;have HT1:=Lib.hid (T1.mono (D:=dm M) (fun _ h=>h.elim));generalize ext o _ (M+209)=q1 at *;clear k1 k2 hb1 T1 HM hM1
 go_wp2_with fail
 obtain ⟨G,hG⟩:∃ x,meas S.toNat to m d=x:=⟨_,rfl⟩
 rw [hG] at hmb;have HG:=Lib.hid hG;clear hG
 go_loopg [8] G (fun g x wl=>∃ (q:Col) (v':bV) (m':aH) (s' d':Nat),g=meas S.toNat to m' d'∧s'+g≤s+G∧Turn o q (dm M) w wl∧aN wl q M b P m' v'∧zY wl q M tb∧lH P F s' m'∧Ready P m' d'∧d' < S.toNat∧eU P S to m'=R)
 case atStart=>exact ⟨q1,v,m,s,d,HG.out.symm,Nat.le_refl _,HT1.out,EP.out,Hu.out,Pb.out,Yl.out,hd,HRR.out⟩
 case round =>
  clear HT1 EP Hu Pb Yl HG;obtain ⟨q,v',m',s',d',hg,hsg,T5,M5,TA5,Ym,Yn,hd5,Wt⟩:=hrel;have d10:=M5.cell 10 (u:=.int .i64 (m'.periods:Int)) (by unfold bC;rfl);have yP:=Lib.hid M5;have uJ:=Lib.hid T5;have Nw:=Lib.hid TA5;have Wu:=Lib.hid Ym;have Wv:=Lib.hid Yn;have Je:=Lib.hid Wt;have Yo:=Lib.hid hsg;have Yp:=Lib.hid hg;have hs5:s'≤1000000000:=by omega
  clear M5 T5 TA5 hsg hg;obtain ⟨pz,hpz⟩:∃ x:Int,(m'.periods:Int)=x:=⟨_,rfl⟩
  rw [hpz] at d10
  by_cases hp:pz < to
  ·
   have hp':(m'.periods:Int) < to:=by omega
   have hin:=Bt hS Yn hd5 hp' Wt;have hok:=pJ hS hf Ym;have hmp:=rM (S:=S.toNat) (to:=to) (m:=m') (d:=d');clear Ym Yn Wt hpz;have RF:=jX hS Wv.out to hp' hd5;have Bn:=Lib.hid hin;have Hw:=Lib.hid hok;have J9:=Lib.hid RF;clear hin hok RF
   go_wp2_with fail
   refine (Ho yP.out Nw.out hP hf Wu.out hs5).mono ?_;rintro e w6 ⟨o6,v6,cv,rfl,T6,M6,I6⟩;obtain ⟨ca,cc,rfl⟩:=I6.slice;have oH:=uJ.out.trans T6 (fun _ h=>h);have TA6:=Nw.out.turn T6 (Hf (by omega));obtain ⟨⟨⟨FH,FI,FJ,EX,FK⟩,m2⟩,hr⟩:∃ x,aY P m'=x:=⟨_,rfl⟩
   rw [hr] at M6 I6 Bn Hw J9 ⊢;unfold Ws;dsimp only at M6 Bn Hw J9 ⊢;have Yq:=Lib.hid M6;have mQ:=Lib.hid oH;have Ny:=Lib.hid TA6;clear M6 I6 T6 oH TA6 yP uJ Nw hr d10;have hfl:=Bu (.int .i64 FH) (.int .u8 FI) (.int .i64 FJ) (.slice ca EX.length cc)
   by_cases h0:FK=0
   ·
    subst h0;obtain ⟨d9,Ww,Bv,Bw,-⟩:=J9.out (.inl rfl);have Nz:eU P S to m2=R:=by
     rcases Bn.out with ⟨_,_,_,_,_,h⟩ | ⟨h1,_⟩ | ⟨h1,_⟩
     ·
      exact h
     ·
      omega
     ·
      exact absurd rfl h1
    have HR9:=Lib.hid Nz;have aae:=Lib.hid Bv;have RG:=Lib.hid Bw;clear Nz Bv Bw;go_wp2
    go_roundg (meas S.toNat to m2 d9)
    case rel=>exact ⟨o6,v6,m2,s'+1,d9,rfl,by have:=Yo.out;have:=RG.out;have:=Yp.out;omega,mQ.out,Yq.out,Ny.out,Hw.out,aae.out,Ww,HR9.out⟩
    case measure=>have:=RG.out;have:=Yp.out;omega
   ·
    by_cases h1:FK=1
    ·
     subst h1;obtain ⟨d9,Ww,Bv,Bw,-⟩:=J9.out (.inr rfl);have Nz:eU P S to m2=R:=by
      rcases Bn.out with ⟨h1,_⟩ | ⟨_,_,_,_,_,_,_,h⟩ | ⟨_,h1,_⟩
      ·
       omega
      ·
       exact h
      ·
       exact absurd rfl h1
     have HR9:=Lib.hid Nz;have aae:=Lib.hid Bv;have RG:=Lib.hid Bw;clear Nz Bv Bw;go_wp2
     go_roundg (meas S.toNat to m2 d9)
     case rel=>exact ⟨o6,v6,m2,s'+1,d9,rfl,by have:=Yo.out;have:=RG.out;have:=Yp.out;omega,mQ.out,Yq.out,Ny.out,Hw.out,aae.out,Ww,HR9.out⟩
     case measure=>have:=RG.out;have:=Yp.out;omega
    ·
     have hb0:(FK != 0)=true:=by rw [bne_iff_ne];exact h0
     have hb1:(FK != 1)=true:=by rw [bne_iff_ne];exact h1
     have Nz:R=(FK,m2):=by
      rcases Bn.out with ⟨h,_⟩ | ⟨h,_⟩ | ⟨_,_,h⟩
      ·
       exact absurd h h0
      ·
       exact absurd h h1
      ·
       exact h
     subst Nz;go_wp2
     go_ret2
     rw [HRR.out];exact ⟨o6,v6,rfl,mQ.out,Yq.out⟩
  ·
   have Nz:=rO (P:=P) (S:=S) (to:=to) (m:=m') (by omega);rw [Je.out] at Nz;subst Nz;clear Ym Yn Wt;go_wp2
   go_ret2
   rw [HRR.out];exact ⟨q,v',rfl,uJ.out,yP.out⟩
theorem EZ {o:Col}{c:Nat}(w:World)(ao:Option Addr)(n cap:Nat)(l:List Int)(h:Ints w o c (.slice ao n cap) l)(hn:l.length≤20000000000000):Calls Tryz.prog 63 #[.slice ao n cap] w (iX w l):=by
 obtain ⟨i0,hi,hz0,hz1,hz2⟩:=info_parts bJ;obtain ⟨hnone,hnews⟩:=h.news;obtain rfl:=h.len;have HN:=Lib.hid hn;have lV:=Lib.hid hnone;have nu:=Lib.hid hnews;clear hn hnone hnews h
 go_enter Tryz.func63,Tryz.ntmps63
 go_wp2_with (at_builtin;refine aM ?_)
 refine bR ?_;refine aR rfl _ _ 42 rfl w.heap.size 3 i0 _ 1 8 Tryz.underlying42 hi hz0 hz1 hz2 rfl (.slice none 0 0) 0 [] rfl (World.ownsRow_nil w w.heap.size 3 1) ao l.length cap (aV l) rfl (by simp) lV.out (fun ad had j u hu=>nu.out ad had j u hu) (gT l) (by have:=HN.out;unfold maxLen;omega) (aZ (by have:=HN.out;omega)) (Nat.le_refl _) ?_;intro v' w2 g1 g20 g3 g4;have g2:w.grownBy w2 (Value.slice none 0 0).ownBlock:=g20;have hb:Below w.heap.size w w2:=((aI.refl (fun _=>False) w).grown g2 (fun k hk hlt=>by cases hk)).below (Nat.le_refl _) (fun _ _ h=>h);simp only [Nat.zero_add,List.nil_append] at g1;have G1:=Lib.hid g1;clear g1 g20 g2 g3 g4;obtain ⟨sv,cv,rfl⟩:=aB G1.out;go_wp2;go_ret
 exact ⟨_,rfl,by simpa using G1.out,hb⟩
section
variable {w:World} {o:Col} {M b:Nat} {P:ay} {m:aH} {v:bV}
theorem dY.ints {w:World}{o:Col}{c g:Nat}{l:List Int}(h:dY w o c g 3 (aV l).toArray):Ints w o c (.slice (some ⟨g,0,none⟩) l.length l.length) l:=by
 have:=tN (w:=w) (o:=o) (c:=c) (ao:=some ⟨g,0,none⟩) (vs:=aV l) (cap:=l.length) (by rw [aD];exact Nat.le_refl _) (fun h=>by cases h) (fun a ha=>by cases ha;rfl) (fun ad had j u hu=>by
  obtain rfl:=Option.some.inj had;rw [Addr.add_lit,Nat.zero_add];exact h.cell j u (by simpa using hu)) (fun a ha _=>by cases ha;exact h.2)
 rw [aD] at this;exact this
theorem kY (h:aN w o M b P m v)(hl:m.cs.length≤100000):Calls Tryz.prog 47 #[.pointer (some ⟨b,0,none⟩)] w (iX w m.cs):=by
 have c7:=h.cell 7 (u:=.slice (some ⟨v.cs,0,none⟩) m.cs.length m.cs.length) (by unfold bC;rfl);have HI:=Lib.hid h.cs.ints;clear h
 go_enter Tryz.func47,Tryz.ntmps47
 go_wp2_with fail
 refine (EZ w _ _ _ m.cs HI.out (by omega)).mono ?_;rintro e w1 ⟨lv,rfl,K1,hb1⟩;obtain ⟨sa,sc,rfl⟩:=aB K1;have HK:=Lib.hid K1;clear K1;go_wp2;go_ret
 exact ⟨_,rfl,HK.out,hb1⟩
theorem lJ (h:aN w o M b P m v)(hl:m.mem.length≤100000):Calls Tryz.prog 32 #[.pointer (some ⟨b,0,none⟩)] w (iX w m.mem):=by
 have c0:=h.cell 0 (u:=.slice (some ⟨v.mem,0,none⟩) m.mem.length m.mem.length) (by unfold bC;rfl);have HI:=Lib.hid h.mem.ints;clear h
 go_enter Tryz.func32,Tryz.ntmps32
 go_wp2_with fail
 refine (EZ w _ _ _ m.mem HI.out (by omega)).mono ?_;rintro e w1 ⟨lv,rfl,K1,hb1⟩;obtain ⟨sa,sc,rfl⟩:=aB K1;have HK:=Lib.hid K1;clear K1;go_wp2;go_ret
 exact ⟨_,rfl,HK.out,hb1⟩
theorem rT (h:aN w o M b P m v):Calls Tryz.prog 29 #[.pointer (some ⟨b,0,none⟩)] w (vC (.int .i64 (m.periods:Int)) w):=by
 have c10:=h.cell 10 (u:=.int .i64 (m.periods:Int)) (by unfold bC;rfl);clear h
 go_enter Tryz.func29,Tryz.ntmps29
 go_wp2;go_ret
 exact ⟨rfl,rfl⟩
def tK (m:aH)(k:Int):List Int:=if 0≤k∧k < m.out.length then rowAt m.out k.toNat else []
theorem yR (w:World):iX w [] (.returned (.slice none 0 0)) w:=⟨_,rfl,World.ownsRow_nil w w.heap.size 3 1,Below.refl _ _⟩
theorem RH (h:aN w o M b P m v)(k:Int)(hl:∀ r∈m.out,r.length≤20000000000000):Calls Tryz.prog 61 #[.pointer (some ⟨b,2,none⟩),.int .i64 k] w (iX w (tK m k)):=by
 have c3:=h.cell 3 (u:=.slice (some ⟨v.out,0,none⟩) m.out.length m.out.length) (by unfold bC;rfl);have HM:=Lib.hid h;clear h;unfold tK
 by_cases h0:k < 0
 ·
  rw [if_neg (by omega)]
  go_enter Tryz.func61,Tryz.ntmps61
  go_wp2;go_ret
  exact yR w
 ·
  by_cases h1:k < m.out.length
  ·
   rw [if_pos (by omega)];obtain ⟨n,rfl⟩:∃ n:Nat,k=n:=⟨k.toNat,by omega⟩
   have hn:n < m.out.length:=by omega
   obtain ⟨ra,rc,-,r1,r2,-⟩:=HM.out.out.at hn;have HR:=Lib.hid r2.vals;have hle:=pI (Q:=fun r:List Int=>r.length≤20000000000000) hl (Nat.zero_le _) n;rw [Int.toNat_natCast];have wK:=Lib.hid hle;obtain ⟨rl,hrl⟩:∃ x,(rowAt m.out n).length=x:=⟨_,rfl⟩
   rw [hrl] at r1 HR;have hnn:decide (m.out.length≤n)=false:=decide_eq_false (by omega);clear r2 hle hrl hl
   go_enter Tryz.func61,Tryz.ntmps61
   go_wp2_with fail
   refine (EZ w _ _ _ _ HR.out wK.out).mono ?_;rintro e w1 ⟨lv,rfl,K1,hb1⟩;obtain ⟨sa,sc,rfl⟩:=aB K1;have HK:=Lib.hid K1;clear K1;go_wp2;go_ret
   exact ⟨_,rfl,HK.out,hb1⟩
  ·
   rw [if_neg (by omega)]
   go_enter Tryz.func61,Tryz.ntmps61
   go_wp2;go_ret
   exact yR w
theorem qB (h:aN w o M b P m v)(k:Int)(hl:∀ r∈m.out,r.length≤20000000000000):Calls Tryz.prog 28 #[.pointer (some ⟨b,0,none⟩),.int .i64 k] w (iX w (tK m k)):=by
 have HM:=Lib.hid h;clear h
 go_enter Tryz.func28,Tryz.ntmps28
 go_wp2_with fail
 refine (RH HM.out k hl).mono ?_;rintro e w1 ⟨lv,rfl,K1,hb1⟩;obtain ⟨sa,sc,rfl⟩:=aB K1;have HK:=Lib.hid K1;clear K1;go_wp2;go_ret
 exact ⟨_,rfl,HK.out,hb1⟩
end
abbrev uM (w:World) (os:List Obj):World:=os.foldl World.alloc w
theorem yS:∀ (os:List Obj) (w:World) (b:Nat) (x:Obj),w.heap[b]?=some x→(uM w os).heap[b]?=some x
 | [],_,_,_,h=>h
 | o :: os,w,b,x,h=>yS os (w.alloc o) b x (aK h o)
theorem lK:∀ (os:List Obj) (w:World) (k:Nat) (o:Obj),os[k]?=some o→(uM w os).heap[w.heap.size+k]?=some o
 | [],_,_,_,h=>by simp at h
 | x :: os,w,0,o,h=>by
  have e:x=o:=by simpa using h
  subst e;exact yS os (w.alloc x) _ x (heap_alloc_new w x)
 | x :: os,w,k+1,o,h=>by
  have:=lK os (w.alloc x) k o (by simpa using h);rw [World.size_alloc,show w.heap.size+1+k=w.heap.size+(k+1) by omega] at this;exact this
theorem vS:∀ (os:List Obj) (w:World),Below w.heap.size w (uM w os)∧w.heap.size≤(uM w os).heap.size
 | [],w=>⟨Below.refl _ _,Nat.le_refl _⟩
 | o :: os,w=>by
  have h:=vS os (w.alloc o);have h1:=au w o;have h2:w.heap.size≤(w.alloc o).heap.size:=h1.size;exact ⟨h1.trans (h.1.mono h2),Nat.le_trans h2 h.2⟩
theorem gV (w:World)(os:List Obj)(b i:Nat){cs:Array Value}{t:TypeId}{v:Value}(h:os[b]?=some (.cells cs t (0,0)))(hv:cs[i]?=some v):(uM w os).cell? ⟨w.heap.size+b,i,none⟩=some v:=ah _ _ (lK os w b _ h) i v hv
theorem Bz (w:World)(os:List Obj)(b:Nat){x:Int}{t:TypeId}(h:os[b]?=some (.cells #[.int .i64 x] t (0,0))):Has (uM w os) (.slice (some ⟨w.heap.size+b,0,none⟩) 1 1) (aV [x]) :=
 .inr ⟨by simp,_,0,1,rfl,Nat.le_refl _,block_lt (lK os w b _ h),rfl,fun k hk=>by
  match k,hk with
  | 0,_=>exact gV w os b 0 h rfl⟩
theorem fI {a b:Nat}(h:a+b≤1000000):wrap64 ((a:Int)+b)=((a+b:Nat):Int)∧IntKind.i64.wrap ((a:Int)+b)=((a+b:Nat):Int):=by
 refine ⟨?_,?_⟩
 ·
  rw [IntWalk.wrap64_in _ (by omega)];omega
 ·
  rw [IntWalk.i64_in _ (by omega)];omega
theorem Wx {a b:Nat}(ha:a≤1000000)(hb:0 < b):wrap64 (Int.tmod (a:Int) (b:Int))=((a % b:Nat):Int):=by
 rw [Int.tmod_eq_emod_of_nonneg (by omega)];have h1:((a:Int) % (b:Int))=((a % b:Nat):Int):=by omega
 rw [h1];have h2:a % b≤a:=Nat.mod_le _ _;exact IntWalk.wrap64_in _ (by omega)
theorem RI {B Q d S:Nat}(h1:Q+d≤1000000)(h2:B+(Q+d) % S≤1000000):IntKind.i64.wrap ((B:Int)+Int.tmod ((Q:Int)+d) S)=(B:Int)+((Q+d) % S:Nat):=by
 rw [Int.tmod_eq_emod_of_nonneg (by omega)];have e:((Q:Int)+d) % (S:Int)=(((Q+d) % S:Nat):Int):=by rw [← Int.natCast_add];exact (Int.natCast_emod _ _).symm
 rw [e,(fI h2).2];omega
theorem DL {w0 w:World}{o:Col}{M b:Nat}{P:ay}{m:aH}{v:eG}{k:Nat}(h:gF w0 w o M b P m v)(hP:tX P)(hkm:k < m.lines.length)(hl:LOk P (aC m k))(d:Nat)(hk:k < P.lines.length)(hd:d≤4096)(hs:0 < (aC m k).size) :
  Calls Tryz.prog 99 #[.pointer (some ⟨b,0,none⟩),.int .i64 k,.int .i64 d] w (og (.int .i64 (((aC m k).base+((aC m k).pos+d) % (aC m k).size:Nat):Int)) w):=by
 obtain ⟨g,off,cap,y,hvl,hc,c0,c1,c2⟩:=h.line hk;have hp:=h.pos;obtain ⟨g2,cap2,e2,hn2,hc2,p0,-⟩:=jT hp (k:=k) (by rw [G9];exact hkm);rw [Li hkm] at p0;have b5:=h.cell 5 rfl;have b8:=h.cell 8 rfl;rw [hvl] at b5;rw [e2] at b8;obtain ⟨B,hB⟩:∃ x,(aC m k).base=x:=⟨_,rfl⟩
 obtain ⟨S,hS⟩:∃ x,(aC m k).size=x:=⟨_,rfl⟩
 obtain ⟨Q,hQ⟩:∃ x,(aC m k).pos=x:=⟨_,rfl⟩
 have EO:=hl.reg;have hpos:=hl.pos.1;have hmem:=hP.mem;rw [hB,hS] at EO;rw [hQ,hS] at hpos;rw [hB] at c0 ⊢;rw [hS] at c1 hs ⊢;rw [hQ] at p0 ⊢;obtain ⟨n,hn⟩:∃ x,P.lines.length=x:=⟨_,rfl⟩
 obtain ⟨n2,Ka⟩:∃ x,m.lines.length=x:=⟨_,rfl⟩
 rw [hn] at hc hk b5;rw [Ka] at hc2 b8 hkm;have hb1:=au w (.cells #[.int .i64 (B:Int),.int .i64 (S:Int)] 52);have hX:=heap_alloc_new w (.cells #[.int .i64 (B:Int),.int .i64 (S:Int)] 52);have x0:=ah _ _ hX 0 _ rfl;have x1:=ah _ _ hX 1 _ rfl;simp only [List.getElem_toArray,List.getElem_cons_succ,List.getElem_cons_zero] at x0 x1;have b8x:=ca (o:=.cells #[.int .i64 (B:Int),.int .i64 (S:Int)] 52) b8;have p0x:=ca (o:=.cells #[.int .i64 (B:Int),.int .i64 (S:Int)] 52) p0;have HB1:=Lib.hid hb1;have hki:(k:Int) < n:=by omega
 have hci:(n:Int)≤cap:=by omega
 have adQ:(k:Int) < n2:=by omega
 have aa4:(n2:Int)≤cap2:=by omega
 have hb1':Q+d≤1000000:=by omega
 have hle:(Q+d) % S≤Q+d:=Nat.mod_le _ _;have hb2':B+(Q+d) % S≤1000000:=by omega
 have hSi:¬ (S:Int)=0:=by omega
 have hSn:¬ S=0:=by omega
 have hw1:=(fI hb1').1;have xR:=(fI hb1').2;have hw2:=Wx (b:=S) hb1' hs;have HV:=Lib.hid (RI hb1' hb2');obtain ⟨R,hR⟩:∃ x,(Q+d) % S=x:=⟨_,rfl⟩
 rw [hR] at hw2 HV ⊢;clear h hp hX hb1 hl hP hR hle hb1' hb2' EO hpos hmem hs hB hS hQ hvl e2 hn2 hn Ka
 go_enter Tryz.func99,Tryz.ntmps99
 go_wp2_with fail
 refine ax (fun w'=>w'.cell? ⟨w.heap.size,0,none⟩=some (.int .i64 (B:Int))∧w'.cell? ⟨w.heap.size,1,none⟩=some (.int .i64 (S:Int))∧w'.cell? ⟨b,8,none⟩=some (.slice (some ⟨g2,0,none⟩) n2 cap2)∧w'.cell? ⟨g2,k,none⟩=some (.int .i64 (Q:Int))) [0,1,2,3,4,5,6,7,8,9,10,11,12,13,14,15] [] (by kernel_rfl) (by kernel_rfl) rfl (fun _ _ hx h=>⟨hx.cell h.1,hx.cell h.2.1,hx.cell h.2.2.1,hx.cell h.2.2.2⟩) ⟨x0,x1,b8x,p0x⟩ ?_;intro Q2 lq;simp only [pk];refine aA ?_;refine av ?_;go_wp2;go_ret
 refine ⟨?_,cO (n:=1) HB1.out⟩;simp;exact HV.out
def Cu (w0 w:World)(o:Col)(M b:Nat)(P:ay)(r:Int × List Nat × aH)(e:Ending)(w':World):Prop :=
 ∃ o' v' cv,e=.returned (.tuple #[.int .u8 r.1,cv])∧gF w0 w' o' M b P r.2.2 v'∧Turn o o' (dI M) w w'∧Ints w' o' (M+64) cv (bU r.2.1)
theorem gF.drewN {w0 w:World}{o:Col}{M b:Nat}{P:ay}{m:aH}{v:eG}(h:gF w0 w o M b P m v)(n:Nat):gF w0 (w.drewN n) o M b P m v:=h.quiet ((Turn.refl o (fun _=>False) w).drewN n)
theorem Cu.stop {w0 w w':World}{o:Col}{M b:Nat}{P:ay}{m:aH}{v:eG}{x:Int}(h:gF w0 w' o M b P m v)(T:Turn o o (dI M) w w'):Cu w0 w o M b P (x,[],m) (.returned (.tuple #[.int .u8 x,.slice none 0 0])) w':=⟨o,v,_,rfl,h,T,.inl ⟨rfl,none,0,rfl⟩⟩
theorem yT {l:kT}{d n j:Nat}(hj:j < n):(bQ l d n).take (j+1)=(bQ l d n).take j ++ [l.base+(l.pos+d+j) % l.size]:=by
 rw [List.take_succ_eq_append_getElem (by rw [eF];exact hj)];simp [bQ]
theorem NA {w0 w:World}{o:Col}{M b:Nat}{P:ay}{m:aH}{v:eG}{F s k n:Nat}(h:gF w0 w o M b P m v)(hM:1≤M)(hP:tX P)(hm:lH P F s m)(hk:k < P.lines.length)(hn:0 < n∧n≤64) :
  Calls Tryz.prog 84 #[.pointer (some ⟨b,0,none⟩),.int .i64 k,.int .i64 n] w (Cu w0 w o M b P (if (aC m k).cnt < n∨64 < m.hand.length+n then (4,[],m) else (0,bQ (aC m k) 0 n,{ m with
    hand:=m.hand ++ fP m.mem (bQ (aC m k) 0 n)
    lines:=m.lines.set k { aC m k with pos:=((aC m k).pos+n) % (aC m k).size,cnt:=(aC m k).cnt - n } }))):=by
 have hkm:k < m.lines.length:=by have:=hm.lines;omega
 have hL:=lI hm.line k;have Bh:=hm.hand.1;have hml:=hm.mem;have hP2:=hP.mem;obtain ⟨g3,NC,e3,Ka,hc3,p3,f3⟩:=jT h.has (k:=k) (by rw [Bp];exact hkm);rw [Lj hkm] at p3;have b9:=h.cell 9 rfl;rw [e3] at b9;obtain ⟨ha,hcap,eh⟩:=h.hand.slice;rw [aD] at eh;have b10:=h.cell 10 rfl;rw [eh] at b10;obtain ⟨C,hC⟩:∃ x,(aC m k).cnt=x:=⟨_,rfl⟩
 obtain ⟨H,hH⟩:∃ x,m.hand.length=x:=⟨_,rfl⟩
 obtain ⟨n2,hn2⟩:∃ x,m.lines.length=x:=⟨_,rfl⟩
 have HC:=Lib.hid hC;have HH:=Lib.hid hH;have DN:=Lib.hid hn2;rw [hH] at b10 Bh;rw [hC] at p3;rw [hn2] at b9 hc3 hkm;have Pd:=Lib.hid eh;have HE3:=Lib.hid e3;have HZ:=Lib.hid h;have HL:=Lib.hid hL;have HP:=Lib.hid hP;have HML:=Lib.hid hml;have J3:=Lib.hid Bh;have MG:=Lib.hid hP2;have hki:(k:Int) < n2:=by omega
 have aaf:(n2:Int)≤NC:=by omega
 have ND:H+n≤1000000:=by omega
 have hw1:=(fI ND).1;have xR:=(fI ND).2;have HK:=Lib.hid hk;have HN:=Lib.hid hn;rw [hC,hH];clear h hm hL hP hml hP2 Ka hC hH hn2 eh e3 Bh hk hn ND
 by_cases hA:C < n
 ·
  rw [if_pos (Or.inl hA)];have Wy:(C:Int) < n:=by omega
  clear hA
  go_enter Tryz.func84,Tryz.ntmps84
  go_wp2
  go_ret2
  exact Cu.stop HZ.out (Turn.refl _ _ _)
 ·
  have Wy:¬ (C:Int) < n:=by omega
  by_cases hB:64 < H+n
  ·
   rw [if_pos (Or.inr hB)];have Wz:(64:Int) < ((H+n:Nat):Int):=by omega
   clear hA hB
   go_enter Tryz.func84,Tryz.ntmps84
   go_wp2
   go_ret2
   exact Cu.stop HZ.out (Turn.refl _ _ _)
  ·
   rw [if_neg (by omega)];have Wz:¬ (64:Int) < ((H+n:Nat):Int):=by omega
   have HA:=Lib.hid hA;have HB:=Lib.hid hB;clear hA hB
   go_enter Tryz.func84,Tryz.ntmps84
   go_wp2_with fail
   clear f3 p3 b10 b9 hki aaf hw1 xR Wy Wz;obtain ⟨i0,hi,hz0,hz1,hz2⟩:=info_parts bJ;have HI:=Lib.hid hi;obtain ⟨pl,hpl⟩:∃ x,bQ (aC m k) 0 n=x:=⟨_,rfl⟩
   have rQ:=Lib.hid hpl;rw [hpl];have Cr:Hid (pl.length=n):=Lib.hid (by rw [← hpl];exact eF _ _ _);have HS:Hid (0 < (aC m k).size):=Lib.hid (by have:=HL.out.cnt;have:=HC.out;have:=HA.out;have:=HN.out;omega);have HPM:Hid (∀ c∈pl,c < m.mem.length):=Lib.hid fun c hc=>by
    rw [← hpl] at hc;exact vQ (by rw [HML.out];exact HL.out.reg) HS.out hc
   clear hpl hi
   go_loopw [8,9] (fun cv i wl=>∃ (j:Nat) (ol:Col) (hv:Value),j≤n∧i=.int .i64 j∧gF w0 wl ol M b P { m with hand:=m.hand ++ fP m.mem (pl.take j) } { v with hand:=hv }∧Turn o ol (dI M) w wl∧bF wl ol (M+64) 3 cv (aV (bU (pl.take j)))) (fun _ i _=>n - (intOf i).toNat)
   case atStart =>
    refine ⟨0,o,v.hand,Nat.zero_le _,rfl,?_,Turn.refl _ _ _,?_⟩
    ·
     have e:m.hand ++ fP m.mem (pl.take 0)=m.hand:=by simp [fP]
     rw [e];exact HZ.out
    ·
     exact bF.nil _ _ _ _
   case round =>
    obtain ⟨j,ol,hv,hj,rfl,DR,FD,RJ⟩:=hrel;have RN:=Lib.hid DR;have wM:=Lib.hid FD;have HOL:=Lib.hid RJ
    by_cases hlt:j < n
    ·
     have dG:(j:Int) < n:=by omega
     have Lp:=Lib.hid hlt;clear DR FD RJ hlt
     go_wp2_with fail
     obtain ⟨c,hc⟩:∃ x,(aC m k).base+((aC m k).pos+j) % (aC m k).size=x:=⟨_,rfl⟩
     have hzc:=DL RN.out HP.out (show k < m.lines.length by rw [DN.out];exact hkm) HL.out j HK.out (by have:=Lp.out;have:=HN.out;omega) HS.out;have wJ:Hid (pl.take (j+1)=pl.take j ++ [c]):=Lib.hid (by rw [← rQ.out,yT Lp.out,Nat.add_zero,hc]);have HCM:Hid (c < m.mem.length):=Lib.hid (HPM.out c (List.mem_of_mem_take (i:=j+1) (by rw [wJ.out];simp)));replace hzc:Calls Tryz.prog 99 #[.pointer (some ⟨b,0,none⟩),.int .i64 k,.int .i64 j] wr (og (.int .i64 (c:Int)) wr):=by rw [← hc];exact hzc
     clear hc;refine hzc.mono ?_;clear hzc;rintro e w2 ⟨rfl,hb2⟩;have T2:=Turn.of_below ol (M+63) hb2;have HZ2:=Lib.hid (RN.out.quiet T2);have HT2:=Lib.hid (wM.out.trans T2 (fun _ h=>h.elim));have nQ:=Lib.hid (HOL.out.turn T2 (fun h=>h));clear T2 hb2 RN wM HOL;generalize ext ol wr.heap.size (M+63)=o2 at *;obtain ⟨sa,sc,hsv⟩:=nQ.out.slice;subst hsv;rw [aD,show (bU (pl.take j)).length=j by rw [dK,List.length_take,Cr.out];omega] at nQ;rw [aD,show (bU (pl.take j)).length=j by rw [dK,List.length_take,Cr.out];omega]
     go_wp2_with (at_builtin;refine aM ?_)
     refine bR ?_;have Ta:=Turn.of_below o2 (M+63) (au w2 (.cells #[.int .i64 (c:Int)] 3));have HZ3:=Lib.hid (HZ2.out.quiet Ta);have HT3:=Lib.hid (HT2.out.trans Ta (fun _ h=>h.elim));have HO3:=Lib.hid (nQ.out.turn Ta (fun h=>h));clear Ta HZ2 HT2 nQ;refine dA rfl _ _ 42 rfl (ext o2 w2.heap.size (M+63)) (M+64) 3 i0 _ 8 Tryz.underlying42 HI.out hz0 hz1 hz2 rfl (.slice sa j sc) (aV (bU (pl.take j))) rfl HO3.out (some ⟨w2.heap.size,0,none⟩) 1 1 [.int .i64 (c:Int)] rfl rfl (fun h=>by cases h) (bA w2 [.int .i64 (c:Int)] 3) (by simp [Value.oneCell']) (by rw [aD,dK,List.length_take];have:=HN.out;unfold maxLen;omega) (aZ (by rw [aD,dK,List.length_take];have:=HN.out;omega)) ?_;intro v4 w4 T4 O4;have zI:=Lib.hid (HZ3.out.turn T4 (by omega) (kI (by omega)));have tZ:=Lib.hid (HT3.out.trans T4 (dI.one (by omega)));rw [show aV (bU (pl.take j)) ++ [.int .i64 (c:Int)]=aV (bU (pl.take (j+1))) by rw [wJ.out];simp [bU,aV]] at O4;have Wo:=Lib.hid O4;clear T4 O4 HZ3 HT3 HO3;generalize ext (ext o2 w2.heap.size (M+63)) (w2.alloc (.cells #[.int .i64 (c:Int)] 3)).heap.size (M+64)=o4 at *;obtain ⟨ha4,hc4,eh4⟩:=zI.out.hand.slice;rw [aD] at eh4;have b10:=zI.out.cell 10 rfl;dsimp only at eh4 b10;subst eh4;obtain ⟨H4,hH4⟩:∃ x,(m.hand ++ fP m.mem (pl.take j)).length=x:=⟨_,rfl⟩
     have HH4:=Lib.hid hH4;rw [hH4] at b10;obtain ⟨g7,RP,e7,-,hc7,p7,-⟩:=jT zI.out.mem (k:=c) HCM.out;dsimp only at e7 p7 hc7;have b7:=zI.out.cell 7 rfl;dsimp only at b7;rw [e7] at b7;clear e7 hH4;have hcm:=HCM.out;obtain ⟨N7,hN7⟩:∃ x,m.mem.length=x:=⟨_,rfl⟩
     have HN7:=Lib.hid hN7;rw [hN7] at b7 hc7 hcm;have aco:(c:Int) < N7:=by omega
     have acp:(N7:Int)≤RP:=by omega
     obtain ⟨X,hX⟩:∃ x,m.mem[c]?.getD 0=x:=⟨_,rfl⟩
     have HX:=Lib.hid hX;rw [hX] at p7;clear hX hN7;have f10:=zI.out.frozen 10
     go_wp2_with fail
     refine ax (fun w'=>w'.cell? ⟨b,10,none⟩=some (.slice ha4 H4 hc4)∧w'.cell? ⟨b,7,none⟩=some (.slice (some ⟨g7,0,none⟩) N7 RP)∧w'.cell? ⟨g7,c,none⟩=some (.int .i64 X)) [0,1,2,3,4,5,6,7,8,9,10,11] [12,13,14,15,16] (by kernel_rfl) (by kernel_rfl) rfl (fun _ _ hx h=>⟨hx.cell h.1,hx.cell h.2.1,hx.cell h.2.2⟩) ⟨b10,b7,p7⟩ ?_;intro Q2 lq;simp only [pk];refine aA ?_;refine av ?_
     go_wp2_with (at_builtin;refine aM ?_)
     refine bR ?_;have Ta:=(Turn.of_below o4 (M+63) (au w4 (.cells #[.int .i64 X] 3))).drew;have DT:=Lib.hid (zI.out.quiet Ta);have uJ:=Lib.hid (tZ.out.trans Ta (fun _ h=>h.elim));have Lf:=Lib.hid (Wo.out.turn Ta (fun h=>h));clear Ta zI tZ Wo b10 b7 p7 f10;have HHS:Hid (H4≤128):=Lib.hid (by rw [← HH4.out,List.length_append,pG,List.length_take,HH.out];have:=J3.out;have:=HN.out;omega);have hh5:=DT.out.hand;dsimp only at hh5;rw [HH4.out] at hh5;refine dA rfl _ _ 42 rfl (ext o4 w4.heap.size (M+63)) (M+4) 3 i0 _ 8 Tryz.underlying42 HI.out hz0 hz1 hz2 rfl (.slice ha4 H4 hc4) (aV (m.hand ++ fP m.mem (pl.take j))) rfl hh5 (some ⟨w4.heap.size,0,none⟩) 1 1 [.int .i64 X] rfl rfl (fun h=>by cases h) (bA w4 [.int .i64 X] 3) (by simp [Value.oneCell']) (by rw [aD,HH4.out];have:=HHS.out;unfold maxLen;omega) (aZ (by rw [aD,HH4.out];have:=HHS.out;omega)) ?_;intro v6 w6 T6 O6;rw [show aV (m.hand ++ fP m.mem (pl.take j)) ++ [.int .i64 X]=aV (m.hand ++ fP m.mem (pl.take (j+1))) by rw [wJ.out,← HX.out];simp [fP,aV]] at O6;obtain ⟨sp6,cp6,hv6⟩:=O6.slice;obtain ⟨L6,hL6⟩:∃ x,(aV (m.hand ++ fP m.mem (pl.take (j+1)))).length=x:=⟨_,rfl⟩
     rw [hL6] at hv6;clear hL6;subst hv6;have c10:=(DT.out.blk.turn T6 (by omega)).cell 10 _ rfl;have f10:=(DT.out.blk.turn T6 (by omega)).frozen 10;have S6:=DT.out.iW hM T6 O6;have NE:Hid (gF w0 _ _ M b P { m with hand:=m.hand ++ fP m.mem (pl.take (j+1)) } { v with hand:=.slice sp6 L6 cp6 }):=Lib.hid S6.1;have mQ:=Lib.hid (uJ.out.trans S6.2 bM.c);have RQ:=Lib.hid (Lf.out.turn S6.2 (kI (k:=64) (by omega) _ rfl));clear T6 O6 S6 DT uJ Lf hh5;generalize ext (ext o4 w4.heap.size (M+63)) _ (M+4)=o6 at *;go_wp2;go_roundw
     case rel=>exact ⟨j+1,o6,_,Lp.out,by go_num,NE.out,mQ.out,RQ.out⟩
     case measure=>simp [intOf];have:=Lp.out;omega
    ·
     obtain rfl:j=n:=by omega
     rw [List.take_of_length_le (by rw [Cr.out];omega)] at DR RJ;clear RN wM HOL;have HOL:=Lib.hid RJ;have wM:=Lib.hid FD;have RN:=Lib.hid DR;have Hy:k < m.lines.length:=by rw [DN.out];exact hkm
     obtain ⟨g,off,cap,y,hvl,hc,-,c1,-⟩:=DR.line HK.out;obtain ⟨g2,cap2,e2,hc2,p0,f0⟩:=DR.aa5 (k:=k) Hy;replace c1:wr.cell? ⟨g,off+k*3+1,none⟩=some (.int .i64 ((aC m k).size:Int)):=c1;replace p0:wr.cell? ⟨g2,k,none⟩=some (.int .i64 ((aC m k).pos:Int)):=p0;have b5:=DR.cell 5 rfl;have b8:=DR.cell 8 rfl;dsimp only at hvl e2 b5 b8 hc2;rw [hvl] at b5;rw [e2] at b8;have hS:=HS.out;have hL:=HL.out;have hpos:=hL.pos.1;have hcnt:=hL.cnt;have EO:=hL.reg;have hP2:=MG.out;obtain ⟨S,hS1⟩:∃ x,(aC m k).size=x:=⟨_,rfl⟩
     obtain ⟨Q,hQ1⟩:∃ x,(aC m k).pos=x:=⟨_,rfl⟩
     have Rj:=Lib.hid hS1;have HQ1:=Lib.hid hQ1;rw [hS1] at c1 hS hpos hcnt EO;rw [hQ1] at p0 hpos;rw [HC.out] at hcnt;have hn:=HN.out;have hQn:Q+j≤1000000:=by omega
     have HV:Hid (Int.tmod ((Q:Int)+j) S=(((Q+j) % S:Nat):Int)):=Lib.hid (by rw [Int.tmod_eq_emod_of_nonneg (by omega),← Int.natCast_add];exact (Int.natCast_emod _ _).symm);obtain ⟨R,hR⟩:∃ x,(Q+j) % S=x:=⟨_,rfl⟩
     have HR:=Lib.hid hR;rw [hR] at HV;have HSP:=Lib.hid (DR.setPos hM (k:=k) e2 Hy R);have HCN:Hid (IntKind.i64.wrap ((C:Int) - j)=((C - j:Nat):Int)):=Lib.hid (by have:=HA.out;rw [IntWalk.i64_in _ (by omega)];omega);obtain ⟨n3,Ka⟩:∃ x,P.lines.length=x:=⟨_,rfl⟩
     have hk3:=HK.out;rw [Ka] at b5 hc hk3;rw [DN.out] at b8 hc2;have aa6:(k:Int) < n3:=by omega
     have hkmi:(k:Int) < n2:=by omega
     have hci:(n3:Int)≤cap:=by omega
     have aa4:(n2:Int)≤cap2:=by omega
     have hSi:¬ (S:Int)=0:=by omega
     have hSn:¬ S=0:=by omega
     have hw1:=(fI hQn).1;have xR:=(fI hQn).2;have HE2:=Lib.hid e2;clear DR FD RJ hL hpos hcnt EO hP2 hS1 hQ1 hQn hR hvl Ka e2 hn hS
     go_wp2_with fail
     refine ax (fun w'=>w'.cell? ⟨b,8,none⟩=some (.slice (some ⟨g2,0,none⟩) n2 cap2)∧w'.cell? ⟨g2,k,none⟩=some (.int .i64 (Q:Int))∧w'.cell? ⟨b,5,none⟩=some (.slice (some ⟨g,off,none⟩) n3 cap)∧w'.cell? ⟨g,off+k*3+1,none⟩=some (.int .i64 (S:Int))) [0,1,2,3,4,5,6,7,8,9,10,11,12,13,14,15,16,17,18,19,20,21,22,23,24,25] [26] (by kernel_rfl) (by kernel_rfl) rfl (fun _ _ hx h=>⟨hx.cell h.1,hx.cell h.2.1,hx.cell h.2.2.1,hx.cell h.2.2.2⟩) ⟨b8,p0,b5,c1⟩ ?_;intro Q2 lq;simp only [pk];refine aA ?_;refine av ?_;simp only [HV.out]
     go_wp2_with fail
     have TP:=HSP.out.2.drew;have eY:gF w0 (wr.setCell ⟨g2,k,none⟩ (.int .i64 (R:Int))).drew ol M b P { m with hand:=m.hand ++ fP m.mem pl,lines:=m.lines.set k { aC m k with pos:=R } } { v with hand:=hv }:=HSP.out.1.quiet (Turn.refl _ _ _).drew;have hl2:aC { m with hand:=m.hand ++ fP m.mem pl,lines:=m.lines.set k { aC m k with pos:=R } } k={ aC m k with pos:=R }:=by
      have:=Bq (m:=m) (j:=k) (y:={ aC m k with pos:=R }) Hy;rw [if_pos rfl] at this;exact this
     have hk9:k < (m.lines.set k { aC m k with pos:=R }).length:=by rw [List.length_set];exact Hy
     obtain ⟨g9,Wm,e9,Vx,q9,f9⟩:=eY.jq (k:=k) hk9;rw [hl2] at q9;replace q9:(wr.setCell ⟨g2,k,none⟩ (.int .i64 (R:Int))).drew.cell? ⟨g9,k,none⟩=some (.int .i64 (C:Int)):=by rw [← HC.out];exact q9
     have Kb:=Lib.hid (eY.ES hM (k:=k) e9 hk9 (C - j));have b9:=eY.cell 9 rfl;dsimp only at b9 e9 Vx;rw [e9] at b9;rw [List.length_set,DN.out] at b9 Vx;have HL2:=Lib.hid hl2;have RS:=Lib.hid (wM.out.trans TP bM.c);have HOP:=Lib.hid (HOL.out.turn TP (kI (k:=64) (by omega) _ rfl));have adR:(n2:Int)≤Wm:=by omega
     have hcn:=HCN.out;clear eY hl2 hk9 e9 TP HSP wM HOL RN b8 c1 p0 b5 f0 hw1 xR hSi hSn;generalize (wr.setCell ⟨g2,k,none⟩ (.int .i64 (R:Int))).drew=w9 at *;refine ax (fun w'=>w'.cell? ⟨b,9,none⟩=some (.slice (some ⟨g9,0,none⟩) n2 Wm)∧w'.cell? ⟨g9,k,none⟩=some (.int .i64 (C:Int))) [0,1,2,3,4,5,6,7,8,9,10,11,12,13,14] [15] (by kernel_rfl) (by kernel_rfl) rfl (fun _ _ hx h=>⟨hx.cell h.1,hx.cell h.2⟩) ⟨b9,q9⟩ ?_;intro Q3 hQ3;simp only [pk];refine aA ?_;refine av ?_
     try simp only [hcn]
     go_wp2
     go_ret2
     have hfin:=Kb.out.1;have T9:=(RS.out.trans Kb.out.2.drew bM.c);rw [rQ.out];refine ⟨ol,{ v with hand:=hv },_,rfl,?_,T9,?_⟩
     ·
      have e:(m.lines.set k { aC m k with pos:=R }).set k { aC { m with hand:=m.hand ++ fP m.mem pl,lines:=m.lines.set k { aC m k with pos:=R } } k with cnt:=C - j }=m.lines.set k { aC m k with pos:=((aC m k).pos+j) % (aC m k).size,cnt:=C - j }:=by
       rw [HL2.out,List.set_set,HQ1.out,Rj.out,HR.out];simp only [Rj.out]
      dsimp only at hfin ⊢;rw [e] at hfin;exact hfin.quiet (Turn.refl _ _ _).drew
     ·
      exact (HOP.out.turn Kb.out.2.drew (kI (k:=64) (by omega) _ rfl)).vals
theorem NG {w0 w:World}{o:Col}{M b:Nat}{P:ay}{m:aH}{v:eG}{F s k n:Nat}(h:gF w0 w o M b P m v)(hM:1≤M)(hP:tX P)(hm:lH P F s m)(hk:k < P.lines.length)(hn:0 < n∧n≤64) :
  Calls Tryz.prog 85 #[.pointer (some ⟨b,0,none⟩),.int .i64 k,.int .i64 n] w (Cu w0 w o M b P (if m.hand.length < n∨(aC m k).size < (aC m k).cnt+n then (4,[],m) else (0,bQ (aC m k) (aC m k).cnt n,{ m with
    mem:=oO m.mem (bQ (aC m k) (aC m k).cnt n) (m.hand.take n)
    lines:=m.lines.set k { aC m k with cnt:=(aC m k).cnt+n }
    hand:=m.hand.drop n }))):=by
 have hkm:k < m.lines.length:=by have:=hm.lines;omega
 have hL:=lI hm.line k;have Bh:=hm.hand.1;have hml:=hm.mem;have hP2:=hP.mem;obtain ⟨g3,NC,e3,hc3,p3,-⟩:=h.jq (k:=k) hkm;obtain ⟨g,off,cap,y,hvl,hc,-,c1,-⟩:=h.line hk;have b9:=h.cell 9 rfl;have b5:=h.cell 5 rfl;rw [e3] at b9;rw [hvl] at b5;obtain ⟨ha,hcap,eh⟩:=h.hand.slice;rw [aD] at eh;have b10:=h.cell 10 rfl;rw [eh] at b10;have EO:=hL.reg;have hcnt:=hL.cnt;obtain ⟨C,hC⟩:∃ x,(aC m k).cnt=x:=⟨_,rfl⟩
 obtain ⟨S,hS⟩:∃ x,(aC m k).size=x:=⟨_,rfl⟩
 obtain ⟨H,hH⟩:∃ x,m.hand.length=x:=⟨_,rfl⟩
 obtain ⟨n2,hn2⟩:∃ x,m.lines.length=x:=⟨_,rfl⟩
 obtain ⟨n3,Ka⟩:∃ x,P.lines.length=x:=⟨_,rfl⟩
 have HC:=Lib.hid hC;have HS:=Lib.hid hS;have HH:=Lib.hid hH;have DN:=Lib.hid hn2;have HN3:=Lib.hid Ka;have hk3:=hk;rw [hH] at b10 Bh;rw [hC] at p3 hcnt;rw [hS] at c1 EO hcnt;rw [hn2] at b9 hc3 hkm;rw [Ka] at b5 hc hk3;have Pd:=Lib.hid eh;have HE3:=Lib.hid e3;have HZ:=Lib.hid h;have HL:=Lib.hid hL;have HP:=Lib.hid hP;have HM:=Lib.hid hm;have HML:=Lib.hid hml;have J3:=Lib.hid Bh;have HCB:Hid (C≤S∧S≤1024):=Lib.hid (by omega);have hki:(k:Int) < n2:=by omega
 have aa6:(k:Int) < n3:=by omega
 have hci:(n3:Int)≤cap:=by omega
 have aaf:(n2:Int)≤NC:=by omega
 have hCn:C+n≤1000000:=by omega
 have hw1:=(fI hCn).1;have xR:=(fI hCn).2;have HK:=Lib.hid hk;have HN:=Lib.hid hn;have HKM:=Lib.hid hkm;rw [hC,hS,hH];clear h hm hL hP hml hP2 hC hH hS hn2 Ka eh e3 hvl Bh hk hn hCn EO hcnt
 by_cases hA:H < n
 ·
  rw [if_pos (Or.inl hA)];have Wy:(H:Int) < n:=by omega
  clear hA
  go_enter Tryz.func85,Tryz.ntmps85
  go_wp2_with fail
  refine ax (fun w'=>w'.cell? ⟨b,10,none⟩=some (.slice ha H hcap)∧w'.cell? ⟨b,9,none⟩=some (.slice (some ⟨g3,0,none⟩) n2 NC)∧w'.cell? ⟨g3,k,none⟩=some (.int .i64 (C:Int))∧w'.cell? ⟨b,5,none⟩=some (.slice (some ⟨g,off,none⟩) n3 cap)∧w'.cell? ⟨g,off+k*3+1,none⟩=some (.int .i64 (S:Int))) [0,1,2,3,4,5,6,7,8,9,10,11,12,13,14,15,16,17,18,19,20,21,22,23,24,25,26,27,28] [] (by kernel_rfl) (by kernel_rfl) rfl (fun _ _ hx h=>⟨hx.cell h.1,hx.cell h.2.1,hx.cell h.2.2.1,hx.cell h.2.2.2.1,hx.cell h.2.2.2.2⟩) ⟨b10,b9,p3,b5,c1⟩ ?_;intro Q' hQ';simp only [pk];refine aA ?_;refine av ?_;go_wp2
  go_ret2
  exact Cu.stop (HZ.out.drewN 1) (Turn.refl _ _ _).drew
 ·
  have Wy:¬ (H:Int) < n:=by omega
  have hAd:decide (H < n)=false:=decide_eq_false hA
  by_cases hB:S < C+n
  ·
   rw [if_pos (Or.inr hB)];have Wz:(S:Int) < (C:Int)+n:=by omega
   have hBd:decide ((S:Int) < (C:Int)+n)=true:=decide_eq_true Wz;clear hA hB
   go_enter Tryz.func85,Tryz.ntmps85
   go_wp2_with fail
   refine ax (fun w'=>w'.cell? ⟨b,10,none⟩=some (.slice ha H hcap)∧w'.cell? ⟨b,9,none⟩=some (.slice (some ⟨g3,0,none⟩) n2 NC)∧w'.cell? ⟨g3,k,none⟩=some (.int .i64 (C:Int))∧w'.cell? ⟨b,5,none⟩=some (.slice (some ⟨g,off,none⟩) n3 cap)∧w'.cell? ⟨g,off+k*3+1,none⟩=some (.int .i64 (S:Int))) [0,1,2,3,4,5,6,7,8,9,10,11,12,13,14,15,16,17,18,19,20,21,22,23,24,25,26,27,28] [] (by kernel_rfl) (by kernel_rfl) rfl (fun _ _ hx h=>⟨hx.cell h.1,hx.cell h.2.1,hx.cell h.2.2.1,hx.cell h.2.2.2.1,hx.cell h.2.2.2.2⟩) ⟨b10,b9,p3,b5,c1⟩ ?_;intro Q' hQ';simp only [pk];refine aA ?_;refine av ?_;go_wp2
   go_ret2
   exact Cu.stop (HZ.out.drewN 1) (Turn.refl _ _ _).drew
  ·
   rw [if_neg (by omega)];have Wz:¬ (S:Int) < (C:Int)+n:=by omega
   have hBd:decide ((S:Int) < (C:Int)+n)=false:=decide_eq_false Wz;have HA:=Lib.hid hA;have HB:=Lib.hid hB;clear hA hB
   go_enter Tryz.func85,Tryz.ntmps85
   go_wp2_with fail
   refine ax (fun w'=>w'.cell? ⟨b,10,none⟩=some (.slice ha H hcap)∧w'.cell? ⟨b,9,none⟩=some (.slice (some ⟨g3,0,none⟩) n2 NC)∧w'.cell? ⟨g3,k,none⟩=some (.int .i64 (C:Int))∧w'.cell? ⟨b,5,none⟩=some (.slice (some ⟨g,off,none⟩) n3 cap)∧w'.cell? ⟨g,off+k*3+1,none⟩=some (.int .i64 (S:Int))) [0,1,2,3,4,5,6,7,8,9,10,11,12,13,14,15,16,17,18,19,20,21,22,23,24,25,26,27,28] [] (by kernel_rfl) (by kernel_rfl) rfl (fun _ _ hx h=>⟨hx.cell h.1,hx.cell h.2.1,hx.cell h.2.2.1,hx.cell h.2.2.2.1,hx.cell h.2.2.2.2⟩) ⟨b10,b9,p3,b5,c1⟩ ?_;intro Q' hQ';simp only [pk];refine aA ?_;refine av ?_
   go_wp2_with fail
   clear p3 b10 b9 b5 c1 hki aa6 hci aaf hw1 xR Wy Wz hAd hBd;have JW:(n:Int)≤64:=by have:=HN.out;omega
   obtain ⟨i0,hi,hz0,hz1,hz2⟩:=info_parts bJ;have HI:=Lib.hid hi;obtain ⟨pl,hpl⟩:∃ x,bQ (aC m k) C n=x:=⟨_,rfl⟩
   have rQ:=Lib.hid hpl;rw [hpl];have Cr:Hid (pl.length=n):=Lib.hid (by rw [← hpl];exact eF _ _ _);have Uq:Hid (0 < (aC m k).size):=Lib.hid (by have:=HB.out;have:=HN.out;rw [HS.out];omega);have HPM:Hid (∀ c∈pl,c < m.mem.length):=Lib.hid fun c hc=>by
    rw [← hpl] at hc;exact vQ (by rw [HML.out];exact HL.out.reg) Uq.out hc
   clear hpl hi
   go_loopw [8,9] (fun cv i wl=>∃ (j:Nat) (ol:Col),j≤n∧i=.int .i64 j∧gF w0 wl ol M b P { m with mem:=oO m.mem (pl.take j) (m.hand.take j) } v∧Turn o ol (dI M) w wl∧bF wl ol (M+64) 3 cv (aV (bU (pl.take j)))) (fun _ i _=>n - (intOf i).toNat)
   case atStart =>
    refine ⟨0,o,Nat.zero_le _,rfl,?_,(Turn.refl _ _ _).drew,bF.nil _ _ _ _⟩;rw [List.take_zero,List.take_zero];exact HZ.out.drewN 1
   case round =>
    obtain ⟨j,ol,hj,rfl,DR,FD,RJ⟩:=hrel;have RN:=Lib.hid DR;have wM:=Lib.hid FD;have HOL:=Lib.hid RJ
    by_cases hlt:j < n
    ·
     have dG:(j:Int) < n:=by omega
     have Lp:=Lib.hid hlt;obtain ⟨g4,cap4,e4,hc4,p4,-⟩:=DR.jq (k:=k) (show k < m.lines.length by rw [DN.out];exact hkm);have b9:=DR.cell 9 rfl;rw [e4] at b9;replace p4:wr.cell? ⟨g4,k,none⟩=some (.int .i64 (C:Int)):=by rw [← HC.out];exact p4
     dsimp only at b9 hc4;rw [DN.out] at b9 hc4;have ZO:(n2:Int)≤cap4:=by omega
     have hki:(k:Int) < n2:=by omega
     have HCJ:Hid (C+j≤4096):=Lib.hid (by have:=HCB.out;have:=HN.out;omega);have hCj:C+j≤1000000:=Nat.le_trans HCJ.out (by decide);have hw1:=(fI hCj).1;have xR:=(fI hCj).2;clear DR FD RJ hlt e4 hCj
     go_wp2_with fail
     obtain ⟨c,hc⟩:∃ x,(aC m k).base+((aC m k).pos+(C+j)) % (aC m k).size=x:=⟨_,rfl⟩
     have hzc:=DL RN.out HP.out (show k < m.lines.length by rw [DN.out];exact hkm) HL.out (C+j) HK.out HCJ.out Uq.out;have wJ:Hid (pl.take (j+1)=pl.take j ++ [c]):=Lib.hid (by rw [← rQ.out,yT Lp.out,Nat.add_assoc,hc]);have HCM:Hid (c < m.mem.length):=Lib.hid (HPM.out c (List.mem_of_mem_take (i:=j+1) (by rw [wJ.out];simp)));replace hzc:Calls Tryz.prog 99 #[.pointer (some ⟨b,0,none⟩),.int .i64 k,.int .i64 ((C+j:Nat):Int)] wr (og (.int .i64 (c:Int)) wr):=by rw [← hc];exact hzc
     rw [Int.natCast_add] at hzc;clear hc b9 p4 hw1 xR;refine hzc.mono ?_;clear hzc;rintro e w2 ⟨rfl,hb2⟩;have T2:=Turn.of_below ol (M+63) hb2;have HZ2:=Lib.hid (RN.out.quiet T2);have HT2:=Lib.hid (wM.out.trans T2 (fun _ h=>h.elim));have nQ:=Lib.hid (HOL.out.turn T2 (fun h=>h));clear T2 hb2 RN wM HOL;generalize ext ol wr.heap.size (M+63)=o2 at *;obtain ⟨sa,sc,hsv⟩:=nQ.out.slice;subst hsv;rw [aD,show (bU (pl.take j)).length=j by rw [dK,List.length_take,Cr.out];omega] at nQ;rw [aD,show (bU (pl.take j)).length=j by rw [dK,List.length_take,Cr.out];omega]
     go_wp2_with (at_builtin;refine aM ?_)
     refine bR ?_;have Ta:=Turn.of_below o2 (M+63) (au w2 (.cells #[.int .i64 (c:Int)] 3));have HZ3:=Lib.hid (HZ2.out.quiet Ta);have HT3:=Lib.hid (HT2.out.trans Ta (fun _ h=>h.elim));have HO3:=Lib.hid (nQ.out.turn Ta (fun h=>h));clear Ta HZ2 HT2 nQ;refine dA rfl _ _ 42 rfl (ext o2 w2.heap.size (M+63)) (M+64) 3 i0 _ 8 Tryz.underlying42 HI.out hz0 hz1 hz2 rfl (.slice sa j sc) (aV (bU (pl.take j))) rfl HO3.out (some ⟨w2.heap.size,0,none⟩) 1 1 [.int .i64 (c:Int)] rfl rfl (fun h=>by cases h) (bA w2 [.int .i64 (c:Int)] 3) (by simp [Value.oneCell']) (by rw [aD,dK,List.length_take];have:=HN.out;unfold maxLen;omega) (aZ (by rw [aD,dK,List.length_take];have:=HN.out;omega)) ?_;intro v4 w4 T4 O4;have zI:=Lib.hid (HZ3.out.turn T4 (by omega) (kI (by omega)));have tZ:=Lib.hid (HT3.out.trans T4 (dI.one (by omega)));rw [show aV (bU (pl.take j)) ++ [.int .i64 (c:Int)]=aV (bU (pl.take (j+1))) by rw [wJ.out];simp [bU,aV]] at O4;have Wo:=Lib.hid O4;clear T4 O4 HZ3 HT3 HO3;generalize ext (ext o2 w2.heap.size (M+63)) (w2.alloc (.cells #[.int .i64 (c:Int)] 3)).heap.size (M+64)=o4 at *;have hjl:j < m.hand.length:=by rw [HH.out];have:=HA.out;have:=Lp.out;omega
     have hv:=zI.out.hand.vals;rw [Pd.out] at hv;obtain ⟨gh,oh,rfl,-,hhc,-,-,hcl⟩:=Ints.at (l:=m.hand) hv (by omega);have ph:=hcl j hjl;obtain ⟨X,hX⟩:∃ x,m.hand[j]'hjl=x:=⟨_,rfl⟩
     rw [show m.hand[j]?.getD 0=X by rw [List.getElem?_eq_getElem hjl];exact hX] at ph;rw [HH.out] at hhc;have b10:=zI.out.cell 10 rfl;rw [Pd.out,HH.out] at b10;obtain ⟨g7,RP,e7,-,hc7,p7,f7⟩:=jT zI.out.mem (k:=c) (by rw [pF];exact HCM.out);have b7:=zI.out.cell 7 rfl;rw [e7] at b7;have S9:=zI.out.Bd hM e7 c X;have Bg:Hid (gF w0 _ o4 M b P { m with mem:=oO m.mem (pl.take (j+1)) (m.hand.take (j+1)) } v):=Lib.hid (by
      have e:=Bf pl m.hand m.mem j (by rw [Cr.out];exact Lp.out) hjl;have ec:pl[j]'(by rw [Cr.out];exact Lp.out)=c:=by
       have:=wJ.out;rw [List.take_succ_eq_append_getElem (by rw [Cr.out];exact Lp.out)] at this
       simpa using List.append_cancel_left this
      rw [ec,hX] at e;rw [e];exact S9.1)
     have Jf:=Lib.hid (tZ.out.trans S9.2 bM.c);have uU:=Lib.hid (Wo.out.turn S9.2 (kI (k:=64) (by omega) _ rfl));dsimp only at b7 hc7 p7;rw [pF] at b7 hc7;have hcm:=HCM.out;obtain ⟨N7,hN7⟩:∃ x,m.mem.length=x:=⟨_,rfl⟩
     rw [hN7] at b7 hc7 hcm;have aco:(c:Int) < N7:=by omega
     have acp:(N7:Int)≤RP:=by omega
     have adS:(j:Int) < H:=by have:=HH.out;omega
     have acr:(H:Int)≤hcap:=by omega
     obtain ⟨Y,hY⟩:∃ x,(oO m.mem (List.take j pl) (List.take j m.hand))[c]?.getD 0=x:=⟨_,rfl⟩
     rw [hY] at p7;clear hX hjl hN7 e7 S9 hv hcl zI tZ Wo hY
     go_wp2_with fail
     refine ax (fun w'=>w'.cell? ⟨b,7,none⟩=some (.slice (some ⟨g7,0,none⟩) N7 RP)∧w'.cell? ⟨b,10,none⟩=some (.slice (some ⟨gh,oh,none⟩) H hcap)∧w'.cell? ⟨gh,oh+j,none⟩=some (.int .i64 X)) [0,1,2,3,4,5,6,7,8,9,10,11,12] [13] (by kernel_rfl) (by kernel_rfl) rfl (fun _ _ hx h=>⟨hx.cell h.1,hx.cell h.2.1,hx.cell h.2.2⟩) ⟨b7,b10,ph⟩ ?_;intro Q2 lq;simp only [pk];refine aA ?_;refine av ?_;go_wp2;go_roundw
     case rel=>exact ⟨j+1,o4,Lp.out,by go_num,Bg.out.drewN 1,Jf.out.drew,uU.out.turn (Turn.refl _ (fun _=>False) _).drew (fun h=>h)⟩
     case measure=>simp [intOf];have:=Lp.out;omega
    ·
     obtain rfl:j=n:=by omega
     have hjn:j≤H:=by have:=HA.out;omega
     rw [List.take_of_length_le (by rw [Cr.out];omega)] at DR RJ;clear RN wM HOL;obtain ⟨g4,cap4,e4,hc4,p4,f4⟩:=DR.jq (k:=k) (show k < m.lines.length by rw [DN.out];exact hkm);have hCj:C+j≤1000000:=by have:=HCB.out;have:=HN.out;omega
     have Kb:=Lib.hid (DR.ES hM (k:=k) e4 (show k < m.lines.length by rw [DN.out];exact hkm) (C+j));have b9:=DR.cell 9 rfl;rw [e4] at b9;replace p4:wr.cell? ⟨g4,k,none⟩=some (.int .i64 (C:Int)):=by rw [← HC.out];exact p4
     dsimp only at b9 hc4;rw [DN.out] at b9 hc4;have ZO:(n2:Int)≤cap4:=by omega
     have hki:(k:Int) < n2:=by omega
     have wM:=Lib.hid FD;have HOL:=Lib.hid RJ;clear DR FD RJ e4;have hsh:gF w0 (wr.setCell ⟨g4,k,none⟩ (.int .i64 ((C:Int)+j))) ol M b P { m with mem:=oO m.mem pl (m.hand.take j),lines:=m.lines.set k { aC m k with cnt:=C+j } } v∧Turn ol ol (bM M) wr (wr.setCell ⟨g4,k,none⟩ (.int .i64 ((C:Int)+j))):=by
      rw [← Int.natCast_add];exact Kb.out
     have uf:=hsh.1.hand;dsimp only at uf;rw [Pd.out] at uf;obtain ⟨gh,oh,hc',hv2,hcl,hcm⟩:=uf.some (by rw [aD,HH.out];have:=HN.out;omega);simp only [Value.slice.injEq] at hv2;obtain ⟨rfl,-,rfl⟩:=hv2;rw [aD,HH.out] at hcl;have hcut:=uf.cut (k:=j) (by rw [aD,HH.out];exact hjn);rw [aV,← List.map_drop,HH.out] at hcut;have hcut:=hcut.vals;have b10:=hsh.1.cell 10 rfl;rw [Pd.out,HH.out] at b10;have adT:(j:Int)≤hcap:=by omega
     have acr:(H:Int)≤hcap:=by omega
     have adU:(j:Int)≤H:=by omega
     clear Kb;have Kb:=Lib.hid hsh;clear hsh uf hcm;have Yi:Hid ((m.hand.drop j).length≤17600000000000):=Lib.hid (by have:=J3.out;rw [List.length_drop,HH.out];omega);have hw1:=(fI hCj).1;have xR:=(fI hCj).2;clear hCj
     by_cases hcn:hcap=j
     ·
      rw [if_pos hcn,show hcap - j=0 from by rw [hcn];exact Nat.sub_self j] at hcut;have zG:=Lib.hid hcut;clear hcut
      go_wp2_with fail
      refine ax (fun w'=>w'.cell? ⟨b,9,none⟩=some (.slice (some ⟨g4,0,none⟩) n2 cap4)∧w'.cell? ⟨g4,k,none⟩=some (.int .i64 (C:Int))) [0,1,2,3,4,5,6,7,8,9,10,11,12,13,14] [15] (by kernel_rfl) (by kernel_rfl) rfl (fun _ _ hx h=>⟨hx.cell h.1,hx.cell h.2⟩) ⟨b9,p4⟩ ?_;intro Q2 lq;simp only [pk];refine aA ?_;refine av ?_
      go_wp2_with fail
      refine (iE (o:=ol) (c:=M+4) _ _ _ _ (m.hand.drop j) (zG.out.turn (Turn.refl ol (fun _=>False) _).drew (fun h=>h)) Yi.out).mono ?_;rintro e w9 ⟨v9,rfl,K9,Dk⟩;have T9:=Turn.of_below ol (M+4) Dk;have O9:=bF.EJ (Own.made ol (M+4) K9);have S9:=(Kb.out.1.quiet (Turn.refl _ _ _).drew).iW hM (T9.mono (fun _ h=>h.elim)) O9;have X9:=(Kb.out.1.quiet (Turn.refl _ (fun _=>False) _).drew).blk.turn T9 (fun h=>h);have c10:=X9.cell 10 _ rfl;have f10:=X9.frozen 10;have Bg:=Lib.hid S9.1;have Jf:=Lib.hid (((wM.out.trans Kb.out.2 bM.c).drew).trans S9.2 bM.c);have uU:=Lib.hid ((HOL.out.turn Kb.out.2.drew (kI (k:=64) (by omega) _ rfl)).turn S9.2 (kI (k:=64) (by omega) _ rfl));obtain ⟨Yr,Yt,Lr⟩:=aB K9;obtain ⟨L9,Ls⟩:∃ x,(m.hand.drop j).length=x:=⟨_,rfl⟩
      rw [Ls] at Lr;clear Ls;subst Lr;clear S9 X9 O9 T9 Dk K9;go_wp2
      go_ret2
      rw [rQ.out];exact ⟨_,{ v with hand:=_ },_,rfl,Bg.out,Jf.out,uU.out.vals⟩
     ·
      rw [if_neg hcn] at hcut;have zG:=Lib.hid hcut;clear hcut
      go_wp2_with fail
      refine ax (fun w'=>w'.cell? ⟨b,9,none⟩=some (.slice (some ⟨g4,0,none⟩) n2 cap4)∧w'.cell? ⟨g4,k,none⟩=some (.int .i64 (C:Int))) [0,1,2,3,4,5,6,7,8,9,10,11,12,13,14] [15] (by kernel_rfl) (by kernel_rfl) rfl (fun _ _ hx h=>⟨hx.cell h.1,hx.cell h.2⟩) ⟨b9,p4⟩ ?_;intro Q2 lq;simp only [pk];refine aA ?_;refine av ?_
      go_wp2_with fail
      refine (iE (o:=ol) (c:=M+4) _ _ _ _ (m.hand.drop j) (zG.out.turn (Turn.refl ol (fun _=>False) _).drew (fun h=>h)) Yi.out).mono ?_;rintro e w9 ⟨v9,rfl,K9,Dk⟩;have T9:=Turn.of_below ol (M+4) Dk;have O9:=bF.EJ (Own.made ol (M+4) K9);have S9:=(Kb.out.1.quiet (Turn.refl _ _ _).drew).iW hM (T9.mono (fun _ h=>h.elim)) O9;have X9:=(Kb.out.1.quiet (Turn.refl _ (fun _=>False) _).drew).blk.turn T9 (fun h=>h);have c10:=X9.cell 10 _ rfl;have f10:=X9.frozen 10;have Bg:=Lib.hid S9.1;have Jf:=Lib.hid (((wM.out.trans Kb.out.2 bM.c).drew).trans S9.2 bM.c);have uU:=Lib.hid ((HOL.out.turn Kb.out.2.drew (kI (k:=64) (by omega) _ rfl)).turn S9.2 (kI (k:=64) (by omega) _ rfl));obtain ⟨Yr,Yt,Lr⟩:=aB K9;obtain ⟨L9,Ls⟩:∃ x,(m.hand.drop j).length=x:=⟨_,rfl⟩
      rw [Ls] at Lr;clear Ls;subst Lr;clear S9 X9 O9 T9 Dk K9;go_wp2
      go_ret2
      rw [rQ.out];exact ⟨_,{ v with hand:=_ },_,rfl,Bg.out,Jf.out,uU.out.vals⟩
def rU (w0 w:World)(o:Col)(M b:Nat)(P:ay)(r:Int × List Nat × aH)(e:Ending)(w':World):Prop :=
 ∃ o' v',e=.returned (.int .u8 r.1)∧gF w0 w' o' M b P r.2.2 v'∧Turn o o' (dI M) w w'
theorem rU.stop {w0 w w':World}{o:Col}{M b:Nat}{P:ay}{m:aH}{v:eG}{x:Int}(h:gF w0 w' o M b P m v)(T:Turn o o (dI M) w w'):rU w0 w o M b P (x,[],m) (.returned (.int .u8 x)) w':=⟨o,v,rfl,h,T⟩
theorem NH {w0 w:World}{o:Col}{M b:Nat}{P:ay}{m:aH}{v:eG}{F s k n:Nat}(h:gF w0 w o M b P m v)(hM:1≤M)(hm:lH P F s m)(hk:k < m.fed.length)(hn:0 < n∧n≤64) :
  Calls Tryz.prog 86 #[.pointer (some ⟨b,0,none⟩),.int .i64 k,.int .i64 n] w (rU w0 w o M b P (if 64 < m.hand.length+n then (4,[],m) else if (rowAt m.fed k).length < n then (2,[],m) else (0,[],{ m with
   hand:=m.hand ++ (rowAt m.fed k).take n
   fed:=m.fed.set k ((rowAt m.fed k).drop n) }))):=by
 have Bh:=hm.hand.1;obtain ⟨ha,hcap,eh⟩:=h.hand.slice;rw [aD] at eh;have b10:=h.cell 10 rfl;rw [eh] at b10;have b12:=h.cell 12 rfl;obtain ⟨ra,rc,r0,r1,r2,-⟩:=h.ins.at hk;obtain ⟨H,hH⟩:∃ x,m.hand.length=x:=⟨_,rfl⟩
 obtain ⟨nf,hnf⟩:∃ x,m.fed.length=x:=⟨_,rfl⟩
 obtain ⟨rl,hrl⟩:∃ x,(rowAt m.fed k).length=x:=⟨_,rfl⟩
 have HH:=Lib.hid hH;have HNF:=Lib.hid hnf;have mV:=Lib.hid hrl;have HK:=Lib.hid hk;rw [hH] at b10 Bh;rw [hnf] at b12 hk;rw [hrl] at r0 r1 r2;have Pd:=Lib.hid eh;have HZ:=Lib.hid h;have HR2:=Lib.hid r2;have J3:=Lib.hid Bh;have HN:=Lib.hid hn;have hki:(k:Int) < nf:=by omega
 have ND:H+n≤1000000:=by omega
 have hn0:(0:Int)≤n:=by omega
 rw [hH,hrl]
 by_cases hA:64 < H+n
 ·
  rw [if_pos hA];have Wy:(64:Int) < (H:Int)+n:=by omega
  have hw1:=(fI ND).1;have xR:=(fI ND).2;clear h hm hH hnf hrl hn ND hA eh r0 r2
  go_enter Tryz.func86,Tryz.ntmps86
  go_wp2;go_ret
  exact rU.stop HZ.out (Turn.refl _ _ _)
 rw [if_neg hA];have Wy:¬ (64:Int) < (H:Int)+n:=by omega
 by_cases hB:rl < n
 ·
  rw [if_pos hB];have Wz:(rl:Int) < n:=by omega
  have hw1:=(fI ND).1;have xR:=(fI ND).2;clear h hm hH hnf hrl hn ND hA hB eh r0 r2
  go_enter Tryz.func86,Tryz.ntmps86
  go_wp2;go_ret
  exact rU.stop HZ.out (Turn.refl _ _ _)
 rw [if_neg hB];have Wz:¬ (rl:Int) < n:=by omega
 obtain ⟨i0,hi,hz0,hz1,hz2⟩:=info_parts bJ;have HI:=Lib.hid hi;have HB:=Lib.hid hB;have HA:=Lib.hid hA;obtain ⟨gf,of',rc',hv2,hcl,hcm⟩:=r2.some (by rw [aD,hrl];omega);simp only [Value.slice.injEq] at hv2;obtain ⟨rfl,-,rfl⟩:=hv2;rw [aD,hrl] at hcl;have R0:=Lib.hid r0;have adV:(n:Int)≤rc:=by omega
 have adW:(n:Int)≤rl:=by omega
 have acj:(rl:Int)≤rc:=by omega
 have hfr:=r2.front (k:=n) (by rw [aD,hrl];omega);rw [aV,← List.map_take] at hfr;obtain ⟨hnone,hnews⟩:=dn.news hfr;have jL:=Lib.hid hnone;have ou:=Lib.hid hnews;have htl:((rowAt m.fed k).take n).length=n:=by rw [List.length_take,hrl];omega
 have wM:=Lib.hid htl;have hw1:=(fI ND).1;have xR:=(fI ND).2;clear h hm hH hnf hrl hn ND hA hB r0 r2 hi hcm hfr hnone hnews htl
 go_enter Tryz.func86,Tryz.ntmps86
 go_wp2_with fail
 refine ax (fun w'=>w'.cell? ⟨b,10,none⟩=some (.slice ha H hcap)∧w'.cell? ⟨b,12,none⟩=some (.slice (some ⟨v.ins,0,none⟩) nf nf)∧w'.cell? ⟨v.ins,k,none⟩=some (.slice (some ⟨gf,of',none⟩) rl rc)) [0,1,2,3,4,5,6,7,8,9,10,11,12,13] [14,15,16,17] (by kernel_rfl) (by kernel_rfl) rfl (fun _ _ hx h=>⟨hx.cell h.1,hx.cell h.2.1,hx.cell h.2.2⟩) ⟨b10,b12,r1⟩ ?_;intro Q2 lq;simp only [pk];refine aA ?_;refine av ?_
 go_wp2_with (at_builtin;refine aM ?_)
 refine bR ?_;have hh:=(HZ.out.quiet (Turn.refl _ _ _).drew).hand;rw [Pd.out,HH.out] at hh;refine dA rfl _ _ 42 rfl o (M+4) 3 i0 _ 8 Tryz.underlying42 HI.out hz0 hz1 hz2 rfl (.slice ha H hcap) (aV m.hand) rfl hh (some ⟨gf,of',none⟩) n rc (aV ((rowAt m.fed k).take n)) rfl (by rw [aD];exact wM.out) jL.out ou.out (gT _) (by rw [aD,HH.out];have:=J3.out;have:=HN.out;unfold maxLen;omega) (aZ (by rw [aD,HH.out];have:=J3.out;have:=HN.out;omega)) ?_;intro v6 w6 T6 O6;rw [show aV m.hand ++ aV ((rowAt m.fed k).take n)=aV (m.hand ++ (rowAt m.fed k).take n) by simp [aV]] at O6;have X6:=(HZ.out.quiet (Turn.refl _ (fun _=>False) _).drew).blk.turn T6 (by omega);have c10:=X6.cell 10 _ rfl;have f10:=X6.frozen 10;have S6:=(HZ.out.quiet (Turn.refl _ _ _).drew).iW hM T6 O6;obtain ⟨sp6,cp6,hv6⟩:=O6.slice;obtain ⟨L6,hL6⟩:∃ x,(aV (m.hand ++ (rowAt m.fed k).take n)).length=x:=⟨_,rfl⟩
 rw [hL6] at hv6;clear hL6;subst hv6;obtain ⟨ra',rc',r0',r1',r2',f1'⟩:=S6.1.ins.at HK.out;have WB:=S6.1.cell 12 rfl;dsimp only at r0' r1' r2' f1' WB;rw [R0.out,mV.out] at r0';rw [mV.out] at r1' r2';rw [HNF.out] at WB;simp only [Value.slice.injEq] at r0';obtain ⟨rfl,-,rfl⟩:=r0';have hcut:=r2'.cut (k:=n) (by rw [aD,mV.out];have:=HB.out;omega);rw [aV,← List.map_drop] at hcut;have iq:=Lib.hid (S6.1.Rv hM HK.out (Turn.refl _ _ _) hcut);have HTF:=Lib.hid ((Turn.refl o (dI M) w).drew.trans S6.2 bM.c);clear hcut r2' S6 X6 T6 O6 HR2 hw1 xR b10 b12 r1 hh
 by_cases hcn:rc=n
 ·
  rw [if_pos hcn,show rc - n=0 from by rw [hcn];exact Nat.sub_self n] at iq
  go_wp2_with fail
  refine ax (fun w'=>w'.cell? ⟨b,12,none⟩=some (.slice (some ⟨v.ins,0,none⟩) nf nf)∧w'.cell? ⟨v.ins,k,none⟩=some (.slice (some ⟨gf,of',none⟩) rl rc)) [0,1,2,3,4,5,6,7,8,9,10,11,12,13,14] [15] (by kernel_rfl) (by kernel_rfl) rfl (fun _ _ hx h=>⟨hx.cell h.1,hx.cell h.2⟩) ⟨WB,r1'⟩ ?_;intro Q3 hQ3;simp only [pk];refine aA ?_;refine av ?_;go_wp2;go_ret
  exact ⟨_,{ v with hand:=_,uH:=_ },rfl,iq.out.1.quiet (Turn.refl _ _ _).drew,(HTF.out.trans iq.out.2 bM.c).drew⟩
 ·
  rw [if_neg hcn] at iq
  go_wp2_with fail
  refine ax (fun w'=>w'.cell? ⟨b,12,none⟩=some (.slice (some ⟨v.ins,0,none⟩) nf nf)∧w'.cell? ⟨v.ins,k,none⟩=some (.slice (some ⟨gf,of',none⟩) rl rc)) [0,1,2,3,4,5,6,7,8,9,10,11,12,13,14] [15] (by kernel_rfl) (by kernel_rfl) rfl (fun _ _ hx h=>⟨hx.cell h.1,hx.cell h.2⟩) ⟨WB,r1'⟩ ?_;intro Q3 hQ3;simp only [pk];refine aA ?_;refine av ?_;go_wp2;go_ret
  exact ⟨_,{ v with hand:=_,uH:=_ },rfl,iq.out.1.quiet (Turn.refl _ _ _).drew,(HTF.out.trans iq.out.2 bM.c).drew⟩
theorem Kc {w0 w:World}{o:Col}{M b:Nat}{P:ay}{m:aH}{v:eG}{F s k n:Nat}(h:gF w0 w o M b P m v)(hM:1≤M)(hm:lH P F s m)(hs:s≤1000000000)(hk:k < m.out.length)(hn:0 < n∧n≤64) :
  Calls Tryz.prog 87 #[.pointer (some ⟨b,0,none⟩),.int .i64 k,.int .i64 n] w (rU w0 w o M b P (if m.hand.length < n then (4,[],m) else (0,[],{ m with
   out:=m.out.set k (rowAt m.out k ++ m.hand.take n)
   hand:=m.hand.drop n }))):=by
 have Bh:=hm.hand.1;obtain ⟨ha,hcap,eh⟩:=h.hand.slice;rw [aD] at eh;have b10:=h.cell 10 rfl;rw [eh] at b10;have b13:=h.cell 13 rfl;obtain ⟨ra,rc,r0,r1,r2,f1⟩:=h.outs.at hk;have aag:Hid ((rowAt m.out k).length≤64*s):=Lib.hid (by
  have:=(hm.uE _ (List.getElem_mem hk)).1;unfold rowAt;rw [List.getElem?_eq_getElem hk];exact this)
 obtain ⟨H,hH⟩:∃ x,m.hand.length=x:=⟨_,rfl⟩
 obtain ⟨nf,hnf⟩:∃ x,m.out.length=x:=⟨_,rfl⟩
 obtain ⟨rl,hrl⟩:∃ x,(rowAt m.out k).length=x:=⟨_,rfl⟩
 have HH:=Lib.hid hH;have mV:=Lib.hid hrl;have HK:=Lib.hid hk;rw [hH] at b10 Bh;rw [hnf] at b13 hk;rw [hrl] at r0 r1 r2 aag;have Pd:=Lib.hid eh;have HZ:=Lib.hid h;have J3:=Lib.hid Bh;have HN:=Lib.hid hn;have hki:(k:Int) < nf:=by omega
 have hn0:(0:Int)≤n:=by omega
 rw [hH]
 by_cases hA:H < n
 ·
  rw [if_pos hA];have Wy:(H:Int) < n:=by omega
  clear h hm hH hnf hrl hn hA eh r0 r2
  go_enter Tryz.func87,Tryz.ntmps87
  go_wp2;go_ret
  exact rU.stop HZ.out (Turn.refl _ _ _)
 rw [if_neg hA];have Wy:¬ (H:Int) < n:=by omega
 obtain ⟨i0,hi,hz0,hz1,hz2⟩:=info_parts bJ;have HI:=Lib.hid hi;have HA:=Lib.hid hA;have HS:=Lib.hid hs;have uf:=h.hand;rw [eh] at uf;obtain ⟨gh,oh,hc',hv2,hcl,hcm⟩:=uf.some (by rw [aD,hH];omega);simp only [Value.slice.injEq] at hv2;obtain ⟨rfl,-,rfl⟩:=hv2;rw [aD,hH] at hcl;have adX:(n:Int)≤hcap:=by omega
 have hnH:(n:Int)≤H:=by omega
 have hHc:(H:Int)≤hcap:=by omega
 have hfr:=uf.front (k:=n) (by rw [aD,hH];omega);rw [aV,← List.map_take] at hfr;obtain ⟨hnone,hnews⟩:=dn.news hfr;have jL:=Lib.hid hnone;have ou:=Lib.hid hnews;have wM:Hid ((m.hand.take n).length=n):=Lib.hid (by rw [List.length_take,hH];omega);have Yi:Hid ((m.hand.drop n).length≤17600000000000):=Lib.hid (by rw [List.length_drop,hH];omega);have HR2:=Lib.hid r2;clear h hm hH hnf hrl hn hA hs r0 r2 hi hcm hfr hnone hnews uf eh
 go_enter Tryz.func87,Tryz.ntmps87
 go_wp2_with fail
 refine kL (fun w'=>w'.cell? ⟨b,10,none⟩=some (.slice (some ⟨gh,oh,none⟩) H hcap)∧w'.cell? ⟨b,13,none⟩=some (.slice (some ⟨v.outs,0,none⟩) nf nf)∧w'.cell? ⟨v.outs,k,none⟩=some (.slice ra rl rc)) [0,1,2,3,4,5,6,7,8,9,10,11,12,13,14,15,16,17] [] 18 [19,20] (by kernel_rfl) (by kernel_rfl) (by kernel_rfl) rfl (fun _ _ hx h=>⟨hx.cell h.1,hx.cell h.2.1,hx.cell h.2.2⟩) ⟨b10,b13,r1⟩ ?_;intro Q2 lq;simp only [pk];simp only [List.nil_append,pk];refine aA ?_;refine av ?_
 go_wp2_with (at_builtin;refine aM ?_)
 refine bR ?_;refine dA rfl _ _ 42 rfl o (M+32+k) 3 i0 _ 8 Tryz.underlying42 HI.out hz0 hz1 hz2 rfl (.slice ra rl rc) (aV (rowAt m.out k)) rfl (HR2.out.turn (Turn.refl _ (fun _=>False) _).drew (fun h=>h)) (some ⟨gh,oh,none⟩) n hcap (aV (m.hand.take n)) rfl (by rw [aD];exact wM.out) jL.out ou.out (gT _) (by rw [aD,mV.out];have:=aag.out;have:=HN.out;have:=HS.out;unfold maxLen;omega) (aZ (by rw [aD,mV.out];have:=aag.out;have:=HN.out;have:=HS.out;omega)) ?_;intro v6 w6 T6 O6;rw [show aV (rowAt m.out k) ++ aV (m.hand.take n)=aV (rowAt m.out k ++ m.hand.take n) by simp [aV]] at O6;have hz:=HZ.out.quiet (Turn.refl _ (fun _=>False) _).drew;obtain ⟨u13,s13⟩:∃ u,w6.cell? ⟨v.outs,k,none⟩=some u:=⟨_,(hz.outs.blk.turn T6 (by omega)).cell k _ (by rw [List.getElem?_toArray,List.getElem?_eq_getElem (by rw [hz.outs.len];exact HK.out)])⟩
 have f13:=(hz.outs.blk.turn T6 (by omega)).frozen k;have ZJ:=T6.cell (p:=⟨b,10,none⟩) b10 (by show ¬ o b=M+32+k;rw [HZ.out.blk.2];omega);have t13:=T6.cell (p:=⟨b,13,none⟩) b13 (by show ¬ o b=M+32+k;rw [HZ.out.blk.2];omega);have Ur:=T6.cell (p:=⟨v.outs,k,none⟩) r1 (by show ¬ o v.outs=M+32+k;rw [HZ.out.outs.blk.2];omega);have NE:=Lib.hid (hz.Wq hM HK.out T6 O6);have mQ:=Lib.hid (Turn.refl o (dI M) w).drew;obtain ⟨sp6,cp6,hv6⟩:=O6.slice;obtain ⟨L6,hL6⟩:∃ x,(aV (rowAt m.out k ++ m.hand.take n)).length=x:=⟨_,rfl⟩
 rw [hL6] at hv6;clear hL6;subst hv6;have aa7:=NE.out.1.cell 10 rfl;have hcut:=NE.out.1.hand;dsimp only at aa7 hcut;rw [Pd.out,HH.out] at aa7 hcut;have hcut:=hcut.cut (k:=n) (by rw [aD,HH.out];have:=HA.out;omega);rw [aV,← List.map_drop] at hcut;have hcut:=hcut.vals;clear hz T6 O6 HR2 b10 b13 r1;generalize ext o w.drew.heap.size (M+32+k)=o6 at *;go_wp2;refine ⟨⟨ZJ,t13,Ur⟩,?_⟩;clear ZJ t13 Ur
 by_cases hcn:hcap=n
 ·
  rw [if_pos hcn,show hcap - n=0 from by rw [hcn];exact Nat.sub_self n] at hcut;have zG:=Lib.hid hcut;clear hcut
  go_wp2_with fail
  refine (iE (o:=o6) (c:=M+4) _ _ _ _ (m.hand.drop n) zG.out Yi.out).mono ?_;rintro e w9 ⟨v9,rfl,K9,Dk⟩;have T9:=Turn.of_below o6 (M+4) Dk;have O9:=bF.EJ (Own.made o6 (M+4) K9);have S9:=NE.out.1.iW hM (T9.mono (fun _ h=>h.elim)) O9;have X9:=NE.out.1.blk.turn T9 (fun h=>h);have c10:=X9.cell 10 _ rfl;have f10:=X9.frozen 10;have Bg:=Lib.hid S9.1;have Jf:=Lib.hid ((mQ.out.trans NE.out.2 bM.c).trans S9.2 bM.c);obtain ⟨Yr,Yt,Lr⟩:=aB K9;obtain ⟨L9,Ls⟩:∃ x,(m.hand.drop n).length=x:=⟨_,rfl⟩
  rw [Ls] at Lr;clear Ls;subst Lr;clear S9 X9 O9 T9 Dk K9;go_wp2;go_ret
  exact ⟨_,{ v with G8:=_,hand:=_ },rfl,Bg.out,Jf.out⟩
 ·
  rw [if_neg hcn] at hcut;have zG:=Lib.hid hcut;clear hcut
  go_wp2_with fail
  refine (iE (o:=o6) (c:=M+4) _ _ _ _ (m.hand.drop n) zG.out Yi.out).mono ?_;rintro e w9 ⟨v9,rfl,K9,Dk⟩;have T9:=Turn.of_below o6 (M+4) Dk;have O9:=bF.EJ (Own.made o6 (M+4) K9);have S9:=NE.out.1.iW hM (T9.mono (fun _ h=>h.elim)) O9;have X9:=NE.out.1.blk.turn T9 (fun h=>h);have c10:=X9.cell 10 _ rfl;have f10:=X9.frozen 10;have Bg:=Lib.hid S9.1;have Jf:=Lib.hid ((mQ.out.trans NE.out.2 bM.c).trans S9.2 bM.c);obtain ⟨Yr,Yt,Lr⟩:=aB K9;obtain ⟨L9,Ls⟩:∃ x,(m.hand.drop n).length=x:=⟨_,rfl⟩
  rw [Ls] at Lr;clear Ls;subst Lr;clear S9 X9 O9 T9 Dk K9;go_wp2;go_ret
  exact ⟨_,{ v with G8:=_,hand:=_ },rfl,Bg.out,Jf.out⟩
theorem NI {w:World}{o:Col}{c:Nat}{v bL:Value}{t n:Int}{ps keep:List Int}{xss:List (List Int)}(hK:Kp t ps keep)(h:uG w o c v t ps keep n)(hins:LL w bL xss)(hf:∀ l∈xss,∀ x∈l,Fits x)(hn1:Fits (n+1)) :
  Calls Tryz.prog 100 #[v,bL] w fun e w'=>∃ v' ov,e=.returned (.tuple #[v',ov,.int .i64 (jh t ps keep n xss).err])∧uG w' (ext o w.heap.size c) c v' t ps (jh t ps keep n xss).keep (jh t ps keep n xss).n∧uV w' (ext o w.heap.size c) c ov (jh t ps keep n xss).outs∧Below w.heap.size w w':=by
 have hc:=Nc hK h hins hf hn1;unfold jh
 by_cases hfit:xss.map (fun l=>(l.length:Int))=bT t ps
 ·
  rw [decide_eq_true hfit] at hc;rw [if_pos hfit]
  rcases hr:fK t ps keep xss with _ | ⟨outs,keep'⟩
  ·
   rw [hr] at hc;refine hc.mono ?_;rintro e w' ⟨rfl,hb⟩;exact ⟨v,_,rfl,h.turn (Turn.of_below o c hb) (fun h=>h),uV.nil _ _ _,hb⟩
  ·
   rw [hr] at hc;refine hc.mono ?_;rintro e w' ⟨v',ov,rfl,h1,h2,h3⟩;exact ⟨v',ov,rfl,h1,h2,h3⟩
 ·
  rw [decide_eq_false hfit] at hc;rw [if_neg hfit];refine hc.mono ?_;rintro e w' ⟨rfl,hb⟩;exact ⟨v,_,rfl,h.turn (Turn.of_below o c hb) (fun h=>h),uV.nil _ _ _,hb⟩
theorem Yu:∀ (L:List (List Value)) (k i:Nat) (_:∀ l∈L,l.length=6) (h:k < L.length),i < 6→L.flatten[k*6+i]?=L[k][i]?
 | [],_,_,_,h,_=>by simp at h
 | x :: L,0,i,hl,_,hi=>by
  have:=hl x List.mem_cons_self;rw [List.flatten_cons,Nat.zero_mul,Nat.zero_add,List.getElem?_append_left (by omega)];rfl
 | x :: L,k+1,i,hl,h,hi=>by
  have h6:=hl x List.mem_cons_self;have ih:=Yu L k i (fun l hl'=>hl l (List.mem_cons_of_mem _ hl')) (by simpa using h) hi;rw [List.flatten_cons,List.getElem?_append_right (by omega),show (k+1)*6+i - x.length=k*6+i by omega,ih];rfl
theorem DU:∀ (L:List (List Value)) (k i:Nat) (u:Value) (_:∀ l∈L,l.length=6) (h:k < L.length),i < 6→L.flatten.set (k*6+i) u=(L.set k (L[k].set i u)).flatten
 | [],_,_,_,_,h,_=>by simp at h
 | x :: L,0,i,u,hl,_,hi=>by
  have:=hl x List.mem_cons_self;rw [List.flatten_cons,Nat.zero_mul,Nat.zero_add,List.set_append_left _ _ (by omega)];rfl
 | x :: L,k+1,i,u,hl,h,hi=>by
  have h6:=hl x List.mem_cons_self;have ih:=DU L k i u (fun l hl'=>hl l (List.mem_cons_of_mem _ hl')) (by simpa using h) hi;rw [List.flatten_cons,List.set_append_right _ _ (by omega),show (k+1)*6+i - x.length=k*6+i by omega,ih];rfl
theorem xS:∀ (L:List (List Value)) (_:∀ l∈L,l.length=6),L.flatten.length=L.length*6
 | [],_=>rfl
 | x :: L,hl=>by
  have h6:=hl x List.mem_cons_self;have ih:=xS L (fun l hl'=>hl l (List.mem_cons_of_mem _ hl'));rw [List.flatten_cons,List.length_append,List.length_cons,ih];omega
section
variable {w0 w w1:World} {o o1:Col} {C:Nat→Prop} {M b:Nat} {P:ay} {m:aH} {v:eG}
theorem gF.six (h:gF w0 w o M b P m v):∀ l∈v.xK,l.length=6:=fun l hl=>by
 obtain ⟨k,hk,rfl⟩:=List.getElem_of_mem hl;exact (h.act k (by rw [← h.wO];exact hk)).1
theorem gF.RU (h:gF w0 w o M b P m v){k:Nat}(hk:k < P.parts.length):∃ g cap vp vi vo vk,v.acts=.slice (some ⟨g,0,none⟩) P.parts.length cap∧P.parts.length≤cap ∧
  w.cell? ⟨g,k*6,none⟩=some (.int .u8 (partAt P k).tag)∧w.cell? ⟨g,k*6+1,none⟩=some vp∧w.cell? ⟨g,k*6+2,none⟩=some vi∧w.cell? ⟨g,k*6+3,none⟩=some vo∧w.cell? ⟨g,k*6+4,none⟩=some vk∧w.cell? ⟨g,k*6+5,none⟩=some (.int .i64 (bB m k).2) ∧
  uG w o (M+9) (.agg #[.int .u8 (partAt P k).tag,vp,vi,vo,vk,.int .i64 (bB m k).2]) (partAt P k).tag (partAt P k).params (bB m k).1 (bB m k).2 ∧
  Ints w o (M+9) vp (partAt P k).params∧Ints w o (M+9) vi (bT (partAt P k).tag (partAt P k).params)∧Ints w o (M+9) vo (bP (partAt P k).tag (partAt P k).params)∧Ints w o (M+9) vk (bB m k).1∧∀ i,w.frozen? ⟨g,i,none⟩=false:=by
 have ha:=h.acts;obtain ⟨g,cap,e,hc,-⟩:=ha.addr (by omega);rw [e] at ha;have hv:k < v.xK.length:=by rw [h.wO];exact hk
 obtain ⟨h6,hR⟩:=h.act k hk;have hR2:=hR;obtain ⟨vp,vi,vo,vk,e2,r1,r2,r3,r4⟩:=hR;have e3:v.xK[k]=[.int .u8 (partAt P k).tag,vp,vi,vo,vk,.int .i64 (bB m k).2]:=by
  injection e2 with e2
  have:=congrArg Array.toList e2
  simpa using this
 rw [e2] at hR2;have hcell:∀ i u,i < 6→(v.xK[k])[i]?=some u→w.cell? ⟨g,k*6+i,none⟩=some u:=fun i u hi hu=>ha.cellAt (by rw [Yu _ _ _ h.six hv hi];exact hu)
 rw [e3] at hcell;obtain ⟨_,_,g9,_,e9,_,hf,_⟩:=bN ha.1 (by rw [xS _ h.six];omega);cases e9
 exact ⟨g,cap,vp,vi,vo,vk,e,hc,hcell 0 _ (by decide) rfl,hcell 1 _ (by decide) rfl,hcell 2 _ (by decide) rfl,hcell 3 _ (by decide) rfl,hcell 4 _ (by decide) rfl,hcell 5 _ (by decide) rfl,hR2,r1,r2,r3,r4,hf⟩
theorem pU {L:List (List Value)}{g cap n k i:Nat}{u:Value}(h:Own w o (M+8) 83 6 (.slice (some ⟨g,0,none⟩) n cap) n L.flatten)(h6:∀ l∈L,l.length=6)(hk:k < L.length)(hi:i < 6) :
  Own (w.setCell ⟨g,k*6+i,none⟩ u) o (M+8) 83 6 (.slice (some ⟨g,0,none⟩) n cap) n (L.set k (L[k].set i u)).flatten∧Turn o o (fun x=>x=M+8) w (w.setCell ⟨g,k*6+i,none⟩ u)∧∀ l∈L.set k (L[k].set i u),l.length=6:=by
 have:=h.setAt (i:=k*6+i) (by rw [xS L h6];omega) u;rw [DU L k i u h6 hk hi] at this;refine ⟨this.1,this.2,fun l hl=>?_⟩
 rcases List.mem_or_eq_of_mem_set hl with hl | rfl
 ·
  exact h6 l hl
 ·
  rw [List.length_set];exact h6 _ (List.getElem_mem hk)
theorem gF.JV {k g cap:Nat}{t n:Int}{keep:List Int}{vp vi vo vk:Value}(h:gF w0 w o M b P m v)(h0:1≤M)(hk:k < P.parts.length)(hb:k < m.bH.length)(hg:v.acts=.slice (some ⟨g,0,none⟩) P.parts.length cap)(hR:uG w o (M+9) (.agg #[.int .u8 t,vp,vi,vo,vk,.int .i64 n]) (partAt P k).tag (partAt P k).params keep n) :
  gF w0 ((((((w.setCell ⟨g,k*6,none⟩ (.int .u8 t)).setCell ⟨g,k*6+1,none⟩ vp).setCell ⟨g,k*6+2,none⟩ vi).setCell ⟨g,k*6+3,none⟩ vo).setCell ⟨g,k*6+4,none⟩ vk).setCell ⟨g,k*6+5,none⟩ (.int .i64 n)) o M b P { m with bH:=m.bH.set k (keep,n) } { v with xK:=v.xK.set k [.int .u8 t,vp,vi,vo,vk,.int .i64 n] } ∧
  Turn o o (fun x=>x=M+8) w ((((((w.setCell ⟨g,k*6,none⟩ (.int .u8 t)).setCell ⟨g,k*6+1,none⟩ vp).setCell ⟨g,k*6+2,none⟩ vi).setCell ⟨g,k*6+3,none⟩ vo).setCell ⟨g,k*6+4,none⟩ vk).setCell ⟨g,k*6+5,none⟩ (.int .i64 n)):=by
 have ha:=h.acts;rw [hg] at ha;have hv:k < v.xK.length:=by rw [h.wO];exact hk
 have h6:=h.six;have l6:=h6 _ (List.getElem_mem hv);obtain ⟨a0,T0,s0⟩:=pU (i:=0) (u:=.int .u8 t) ha h6 hv (by decide);obtain ⟨a1,T1,s1⟩:=pU (i:=1) (u:=vp) a0 s0 (by rw [List.length_set];exact hv) (by decide);obtain ⟨a2,T2,s2⟩:=pU (i:=2) (u:=vi) a1 s1 (by rw [List.length_set,List.length_set];exact hv) (by decide);obtain ⟨a3,T3,s3⟩:=pU (i:=3) (u:=vo) a2 s2 (by simp only [List.length_set];exact hv) (by decide);obtain ⟨a4,T4,s4⟩:=pU (i:=4) (u:=vk) a3 s3 (by simp only [List.length_set];exact hv) (by decide);obtain ⟨a5,T5,s5⟩:=pU (i:=5) (u:=.int .i64 n) a4 s4 (by simp only [List.length_set];exact hv) (by decide);simp only [List.getElem_set_self,List.set_set] at a5;have e:(((((v.xK[k].set 0 (.int .u8 t)).set 1 vp).set 2 vi).set 3 vo).set 4 vk).set 5 (.int .i64 n)=[.int .u8 t,vp,vi,vo,vk,.int .i64 n]:=by
  match v.xK[k],l6 with
  | [_,_,_,_,_,_],_=>rfl
 rw [e] at a5;have T:=(((((T0.trans T1 (fun _ h=>h)).trans T2 (fun _ h=>h)).trans T3 (fun _ h=>h)).trans T4 (fun _ h=>h)).trans T5 (fun _ h=>h));refine ⟨⟨h.kept.turn T (by have:=h0;omega),h.prog,h.blk.turn T (by omega),h.mem.turn T (by omega),h.pos.turn T (by omega),h.has.turn T (by omega),h.hand.turn T (by omega),h.cs.turn T (by omega),h.ins.turn T (by omega) (fun k _=>by have:=h.small;omega),h.outs.turn T (by omega) (fun k _=>by have:=h.small;omega),by rw [hg];exact a5,by rw [List.length_set];exact h.wO,fun j hj=>?_,h.Nr,h.small,h.last⟩,T⟩
 by_cases ej:j=k
 ·
  subst ej;have hbk:bB { m with bH:=m.bH.set j (keep,n) } j=(keep,n):=by
   unfold bB;rw [List.getElem?_set_self hb];rfl
  rw [hbk];simp only [List.getElem_set_self];exact ⟨rfl,hR.turn T (by omega)⟩
 ·
  have hbk:bB { m with bH:=m.bH.set k (keep,n) } j=bB m j:=by
   unfold bB;rw [List.getElem?_set_ne (Ne.symm ej)]
  rw [hbk];simp only [List.getElem_set_ne (Ne.symm ej)];exact ⟨(h.act j hj).1,(h.act j hj).2.turn T (by omega)⟩
end
end Go.Proofs.YtpdlngonocancaaGreat
