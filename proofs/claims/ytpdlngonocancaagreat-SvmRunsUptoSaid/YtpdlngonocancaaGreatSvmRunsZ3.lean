import Derived.Test.YtpdlngonocancaaGreatSvmRunsZ2
import Derived.Test.YtpdlngonocancaaGreatSvmRunsZ1
set_option linter.unusedVariables false
set_option linter.unusedSimpArgs false
set_option maxRecDepth 100000
set_option maxHeartbeats 20000000
namespace Go.Proofs.YtpdlngonocancaaGreat
open Go.RowKit
def tQ {α:Type}(hd:α→List Value)(tl:α→List Int)(w:World)(a:α)(cs:List Value):Prop:=∃ y,cs=hd a ++ [y]∧Has w y (aV (tl a))
theorem dU {α:Type}(hd:α→List Value)(tl:α→List Int):Jy (tQ hd tl):=fun _ _ _ _ hb ⟨y,h1,h2⟩=>⟨y,h1,h2.below hb⟩
def iU (p:eu):List Value:=[.int .u8 p.tag]
def iV (l:dN):List Value:=[.int .i64 l.base,.int .i64 l.size]
def bO (w:World)(v:Value)(P:ay):Prop:=∃ vp vl vo,v=.agg #[.int .i64 P.memory,.int .i64 P.counters,.int .i64 P.ins,.int .i64 P.outs,vp,vl,vo]∧kR w 2 (tQ iU eu.params) vp P.parts∧kR w 3 (tQ iV dN.start) vl P.lines∧eB w vo P.ops
theorem bO.below {w w':World}{v:Value}{P:ay}(h:bO w v P)(hb:Below w.heap.size w w'):bO w' v P:=by
 obtain ⟨vp,vl,vo,h0,h1,h2,h3⟩:=h;exact ⟨vp,vl,vo,h0,h1.below (dU _ _) hb,h2.below (dU _ _) hb,h3.below hb⟩
def tailV {α:Type}(hd:α→List Value)(ps:List (α × Value)):List Value:=ps.flatMap fun x=>hd x.1 ++ [x.2]
theorem Df {α:Type}{hd:α→List Value}{sz:Nat}(hsz:∀ a,(hd a).length+1=sz):∀ ps:List (α × Value),(tailV hd ps).length=ps.length*sz
 | []=>by simp [tailV]
 | x :: ps=>by
  have ih:=Df hsz ps;have:=hsz x.1;simp only [tailV,List.flatMap_cons,List.length_append,List.length_cons,List.length_nil,Nat.add_mul] at ih ⊢;rw [ih];omega
theorem JB {α:Type}(hd:α→List Value)(ps:List (α × Value))(a:α)(y:Value):tailV hd (ps ++ [(a,y)])=tailV hd ps ++ (hd a ++ [y]):=by simp [tailV]
theorem sM {α:Type}{hd:α→List Value}{sz:Nat}(hsz:∀ a,(hd a).length+1=sz):∀ (ps:List (α × Value)) (k i:Nat) (hk:k < ps.length),i < sz→(tailV hd ps)[k*sz+i]?=(hd (ps[k]).1 ++ [(ps[k]).2])[i]?
 | [],k,i,hk,hi=>by simp at hk
 | x :: ps,0,i,hk,hi=>by
  rw [Nat.zero_mul,Nat.zero_add];show ((hd x.1 ++ [x.2]) ++ tailV hd ps)[i]?=_
  have:=hsz x.1;rw [List.getElem?_append_left (by simp;omega)];rfl
 | x :: ps,k+1,i,hk,hi=>by
  have ih:=sM hsz ps k i (by simpa using hk) hi;have:=hsz x.1;show ((hd x.1 ++ [x.2]) ++ tailV hd ps)[(k+1)*sz+i]?=_
  have hl:(hd x.1 ++ [x.2]).length=sz:=by simp;omega
  rw [List.getElem?_append_right (by rw [hl,Nat.add_mul];omega),hl,show (k+1)*sz+i - sz=k*sz+i by rw [Nat.add_mul];omega,ih];rfl
structure lD {α:Type} (hd:α→List Value) (tl:α→List Int) (w:World) (o:Col) (c d:Nat) (ty sz:Nat) (v:Value) (ps:List (α × Value)):Prop where
 own:Own w o c ty sz v ps.length (tailV hd ps)
 ok:∀ x∈ps,Ints w o d x.2 (tl x.1)
section
variable {α:Type} {hd:α→List Value} {tl:α→List Int} {w w' w2:World} {o o':Col} {C:Nat→Prop} {c d ty sz:Nat} {v:Value} {ps:List (α × Value)}
theorem lD.turn (h:lD hd tl w o c d ty sz v ps)(T:Turn o o' C w w')(hc:¬ C c)(hdd:¬ C d):lD hd tl w' o' c d ty sz v ps:=⟨h.own.turn T hc,fun x hx=>(h.ok x hx).turn T hdd⟩
theorem lD.nil:lD hd tl w o c d ty sz (.slice none 0 0) []:=⟨Own.nil _ _ _ _ _,fun _ h=>by cases h⟩
theorem lD.recs (hsz:∀ a,(hd a).length+1=sz)(h:lD hd tl w o c d ty sz v ps):kR w sz (tQ hd tl) v (ps.map Prod.fst):=by
 rcases h.own.1.2 with ⟨rfl,h0⟩ | ⟨G,cap,cur,rfl,_,hg,hnc,_⟩
 ·
  rw [List.eq_nil_of_length_eq_zero h0];exact .inl ⟨rfl,none,0,rfl⟩
 ·
  by_cases hp:0 < ps.length
  ·
   refine .inr ⟨by simpa using hp,G,0,cap,by simp,by simpa using hnc,block_lt hg,fun k hk=>?_⟩;have hk':k < ps.length:=by simpa using hk
   refine ⟨hd (ps[k]).1 ++ [(ps[k]).2],by simp [hsz],⟨(ps[k]).2,by simp,by simpa using (h.ok _ (List.getElem_mem hk')).has⟩,fun i hi=>?_⟩;have hg2:=sM hsz ps k i hk' hi;have hlen:i < (hd (ps[k]).1 ++ [(ps[k]).2]).length:=by simp [hsz];exact hi
   rw [List.getElem?_eq_getElem hlen] at hg2 ⊢;have:=h.own.1.cells (g:=G) rfl _ _ hg2;rw [Addr.add_lit] at this;rw [Nat.add_assoc];exact this
  ·
   rw [List.eq_nil_of_length_eq_zero (by omega:ps.length=0)];exact .inl ⟨rfl,some ⟨G,0,none⟩,cap,rfl⟩
theorem lD.grow {B i e:Nat}{t:TypeId}{cs:Array Value}{a:α}{y v':Value}(h:lD hd tl w o c d ty sz v ps)(hB:dY w o e B t cs)(hce:c≠e)(hde:d≠e)(hcd:c≠d)(hi:i < cs.size)(hy:Ints w o d y (tl a))
  (k1:w2.ownsRow 0 ty sz v' (ps.length+1) (tailV hd ps ++ (hd a ++ [y]))) (k2:aI (fun b=>v.ownBlock=some b) w w2) (k4:v'.ownBlock=v.ownBlock∨∀ b,v'.ownBlock=some b→w.heap.size≤b) :
  w2.cell? ⟨B,i,none⟩=some cs[i]∧w2.frozen? ⟨B,i,none⟩=false∧Turn o (ext o w.heap.size c) (fun x=>x=c∨x=e) w (w2.setCell ⟨B,i,none⟩ v')∧lD hd tl (w2.setCell ⟨B,i,none⟩ v') (ext o w.heap.size c) c d ty sz v' (ps ++ [(a,y)])∧dY (w2.setCell ⟨B,i,none⟩ v') (ext o w.heap.size c) e B t (cs.setIfInBounds i v'):=by
 have T:Turn o (ext o w.heap.size c) (fun x=>x=c) w w2:=Turn.gN o c k2 (fun b _ hb=>h.own.2 b hb);have b2:=hB.turn T (fun e=>hce e.symm);obtain ⟨b3,T3⟩:=b2.set i v';have hM:=hB.lt;have hMc:o B=e:=hB.2;have hvM:v'.ownBlock≠some B:=fun e=>by
  rcases k4 with k4 | k4
  ·
   rw [k4] at e;have:=h.own.2 B e;omega
  ·
   have:=k4 B e;omega
 refine ⟨b2.cell i _ (by simp [hi]),b2.frozen i,(T.mono (D:=fun x=>x=c∨x=e) (fun x e=>.inl e)).trans T3 (fun x e=>.inr e),⟨⟨?_,fun b hb=>?_⟩,fun x hx=>?_⟩,b3⟩
 ·
  rw [List.length_append,JB];exact ownsRow_setCell_other k1 hvM v'
 ·
  rcases k4 with k4 | k4
  ·
   rw [k4] at hb;exact (bX (h.own.1.lt b hb).2).trans (h.own.2 b hb)
  ·
   exact aW (k4 b hb)
 ·
  rcases List.mem_append.1 hx with hx | hx
  ·
   exact ((h.ok x hx).turn T (fun e=>hcd e.symm)).turn T3 (fun e=>hde e)
  ·
   obtain rfl:x=(a,y):=by simpa using hx
   exact (hy.turn T (fun e=>hcd e.symm)).turn T3 (fun e=>hde e)
end
theorem zy {P:Program}{fn:Func}{p u:Tmp}{ty:TypeId}(h:fn.results=#[.cell p ty,.tmp u])(tmps:Array Value)(w:World)(g:Nat)(t:TypeId)(cs:Array Value)(fr:Nat × Nat)(d:TypeDesc)
  (hp:tmps.getD p undef=.pointer (some ⟨g,0,none⟩)) (hg:w.heap[g]?=some (.cells cs t fr))
  (hu:P.underlying ty=some d) (hd:(match d with | .struct _ | .array _ _=>true | _=>false)=true) (hi:(P.info? ty).map (·.size)=some cs.size) :
  (results fn tmps).run P w=.ok (.tuple #[.agg cs,tmps.getD u undef]) w:=by
 have hp':tmps[p]?.getD undef=.pointer (some ⟨g,0,none⟩):=by simpa using hp
 simp [results,h,hp',asAddr,Result.andThen,run_loadVar_row w g t ty cs fr d hg hu hd hi]
abbrev nA:Array Value:=#[.int .i64 0,.int .i64 0,.int .i64 0,.int .i64 0,.slice none 0 0,.slice none 0 0,.slice none 0 0]
abbrev Ey (w:World) (R:Nat) (a b c d x y z:Value):World:=((((((w.setCell ⟨R,0,none⟩ a).setCell ⟨R,1,none⟩ b).setCell ⟨R,2,none⟩ c).setCell ⟨R,3,none⟩ d).setCell ⟨R,4,none⟩ x).setCell ⟨R,5,none⟩ y).setCell ⟨R,6,none⟩ z
theorem Az {w:World}{R:Nat}{t:TypeId}(h:w.heap[R]?=some (.cells nA t (0,0)))(a b c d x y z:Value):(Ey w R a b c d x y z).heap[R]?=some (.cells #[a,b,c,d,x,y,z] t (0,0)) :=
 block_setCell (block_setCell (block_setCell (block_setCell (block_setCell (block_setCell (block_setCell h 0 a) 1 b) 2 c) 3 d) 4 x) 5 y) 6 z
theorem xg (w:World)(R:Nat)(a b c d x y z:Value):aI (fun k=>k=R) w (Ey w R a b c d x y z) :=
 ((((((aI.refl (fun k=>k=R) w).setCell (p:=⟨R,0,none⟩) (fun _=>rfl) a).setCell (p:=⟨R,1,none⟩) (fun _=>rfl) b).setCell (p:=⟨R,2,none⟩) (fun _=>rfl) c).setCell (p:=⟨R,3,none⟩) (fun _=>rfl) d).setCell (p:=⟨R,4,none⟩) (fun _=>rfl) x).setCell (p:=⟨R,5,none⟩) (fun _=>rfl) y |>.setCell (p:=⟨R,6,none⟩) (fun _=>rfl) z
theorem dV (w:World)(n m:Int):Calls Tryz.prog 67 #[.int .i64 n,.int .i64 m] w (vC (.bool (decide (0≤n) && decide (n≤m))) w):=by
 by_cases h1:0≤n
 ·
  by_cases h2:n≤m
  ·
   rw [decide_eq_true h1,decide_eq_true h2]
   go_enter Tryz.func67,Tryz.ntmps67
   go_wp2;go_ret
   exact ⟨rfl,rfl⟩
  ·
   rw [decide_eq_true h1,decide_eq_false h2]
   go_enter Tryz.func67,Tryz.ntmps67
   go_wp2;go_ret
   exact ⟨rfl,rfl⟩
 ·
  rw [decide_eq_false h1,Bool.false_and]
  go_enter Tryz.func67,Tryz.ntmps67
  go_wp2;go_ret
  exact ⟨rfl,rfl⟩
def fH (n:Int):Int:=if 131073 < n then 131073 else n
theorem om (w:World)(n:Int):Calls Tryz.prog 90 #[.int .i64 n] w (vC (.int .i64 (fH n)) w):=by
 by_cases h:131073 < n
 ·
  have e:fH n=131073:=if_pos h;rw [e];have h2:¬ n≤131073:=by omega
  go_enter Tryz.func90,Tryz.ntmps90
  go_wp2;go_ret
  exact ⟨rfl,rfl⟩
 ·
  have e:fH n=n:=if_neg h;rw [e];have h2:n≤131073:=by omega
  go_enter Tryz.func90,Tryz.ntmps90
  go_wp2;go_ret
  exact ⟨rfl,rfl⟩
theorem eB.opAt {w:World}{ao:Option Addr}{n cap:Nat}{l:List fG}(h:eB w (.slice ao n cap) l){j:Nat}{y:fG}(hy:l[j]?=some y):n≤cap∧j < n∧∃ b off,ao=some ⟨b,off,none⟩∧w.cell? ⟨b,off+j*3,none⟩=some (.int .u8 y.kind)∧w.cell? ⟨b,off+j*3+1,none⟩=some (.int .i64 y.a)∧w.cell? ⟨b,off+j*3+2,none⟩=some (.int .i64 y.b):=by
 obtain ⟨hj,rfl⟩:=List.getElem?_eq_some_iff.1 hy;obtain ⟨h1,h2,b,off,h3,h4⟩:=h.at hj;exact ⟨h2,by omega,b,off,h3,h4 j hj⟩
def jH (P:ay)(k:Int):Int × Int × Int :=
 if k=1 then (P.counters,1,2048) else if k=2 then (P.counters,0,P.ops.length - 1) else if k=3∨k=6 then (P.lines.length,1,64) else if k=4 then (P.ins,1,64) else if k=7 then (P.outs,1,64) else if k=5 then (P.parts.length,0,0) else (0,1,64)
def cK (P:ay)(i:Nat)(x:fG):Bool :=
 if x.kind=0 then decide (x.a=0) && decide (x.b=0) && decide (i+1=P.ops.length)
 else decide (0≤x.a) && decide (x.a≤(jH P x.kind).1 - 1) && decide ((jH P x.kind).2.1≤x.b) && decide (x.b≤(jH P x.kind).2.2)
structure tT (P:ay):Prop where
 cnt:0≤P.counters∧P.counters≤100000
 ins:0≤P.ins∧P.ins≤100000
 outs:0≤P.outs∧P.outs≤100000
 parts:P.parts.length≤100000
 lines:P.lines.length≤100000
 ops:P.ops.length≤131072
theorem JC (w:World)(v:Value)(P:ay)(i:Nat)(hv:bO w v P)(hz:tT P)(hi:i < P.ops.length):Calls Tryz.prog 89 #[v,.int .i64 i] w (og (.bool (cK P i P.ops[i])) w):=by
 obtain ⟨vp,vl,vo,rfl,rp,rl,ro⟩:=hv;obtain ⟨ap,cp,rfl⟩:=rp.slice;obtain ⟨al,cl,rfl⟩:=rl.slice;obtain ⟨ao,co,rfl⟩:=ro.slice;obtain ⟨Vx,_,bo,oo,rfl,o1,o2,o3⟩:=eB.opAt ro (List.getElem?_eq_getElem hi);obtain ⟨F,hF⟩:∃ F,cK P i P.ops[i]=F:=⟨_,rfl⟩
 rw [hF];obtain ⟨x,hx⟩:∃ x,P.ops[i]=x:=⟨_,rfl⟩
 rw [hx] at hF o1 o2 o3;clear hx rp rl ro;obtain ⟨kd,xa,xb⟩:=x;dsimp only at o1 o2 o3;obtain ⟨z1,z2⟩:=hz.cnt;obtain ⟨z3,z4⟩:=hz.ins;obtain ⟨z5,z6⟩:=hz.outs;have z7:=hz.parts;have z8:=hz.lines;have z9:=hz.ops;unfold cK at hF;dsimp only at hF;have hb1:=au w (.cells #[.int .i64 P.memory,.int .i64 P.counters,.int .i64 P.ins,.int .i64 P.outs,.slice ap P.parts.length cp,.slice al P.lines.length cl,.slice (some ⟨bo,oo,none⟩) P.ops.length co] 26);have hX:=heap_alloc_new w (.cells #[.int .i64 P.memory,.int .i64 P.counters,.int .i64 P.ins,.int .i64 P.outs,.slice ap P.parts.length cp,.slice al P.lines.length cl,.slice (some ⟨bo,oo,none⟩) P.ops.length co] 26);have o1:=cell_later hb1 o1;have o2:=cell_later hb1 o2;have o3:=cell_later hb1 o3;have hs:(w.alloc (.cells #[.int .i64 P.memory,.int .i64 P.counters,.int .i64 P.ins,.int .i64 P.outs,.slice ap P.parts.length cp,.slice al P.lines.length cl,.slice (some ⟨bo,oo,none⟩) P.ops.length co] 26)).heap.size=w.heap.size+1:=by simp
 generalize hW:w.alloc (.cells #[.int .i64 P.memory,.int .i64 P.counters,.int .i64 P.ins,.int .i64 P.outs,.slice ap P.parts.length cp,.slice al P.lines.length cl,.slice (some ⟨bo,oo,none⟩) P.ops.length co] 26)=W at *;have hb2:=au W (.cells #[.int .u8 kd,.int .i64 xa,.int .i64 xb] 58);have hY:=heap_alloc_new W (.cells #[.int .u8 kd,.int .i64 xa,.int .i64 xb] 58);have hX2:=aK hX (.cells #[.int .u8 kd,.int .i64 xa,.int .i64 xb] 58);have y0:=ah _ _ hY 0 _ rfl;have y1:=ah _ _ hY 1 _ rfl;have y2:=ah _ _ hY 2 _ rfl;have p1:=ah _ _ hX2 1 _ rfl;have p2:=ah _ _ hX2 2 _ rfl;have p3:=ah _ _ hX2 3 _ rfl;have p4:=ah _ _ hX2 4 _ rfl;have p5:=ah _ _ hX2 5 _ rfl;have p6:=ah _ _ hX2 6 _ rfl;have q6:=ah _ _ hX 6 _ rfl;have HB:=Lib.hid (hb1.trans (hb2.mono hb1.size));have hii:(i:Int) < P.ops.length:=by omega
 have MC:(P.ops.length:Int)≤co:=by omega
 clear hb1 hb2 hX hX2 hY hz
 by_cases k0:kd=0
 ·
  subst k0;rw [if_pos rfl] at hF;have HF:=Lib.hid hF;clear hF;have hwl:IntKind.i64.wrap ((P.ops.length:Int) - 1)=(P.ops.length:Int) - 1:=IntWalk.i64_in _ (by omega)
  go_enter Tryz.func89,Tryz.ntmps89
  by_cases d1:xa=0
  ·
   by_cases d2:xb=0
   ·
    by_cases d3:i+1=P.ops.length
    ·
     have e:F=true:=by rw [← HF.out,decide_eq_true d1,decide_eq_true d2,decide_eq_true d3];rfl
     subst e;have d3i:((i:Int) == (P.ops.length:Int) - 1)=true:=by rw [beq_iff_eq];omega
     subst d1 d2;go_wp2;go_ret
     exact ⟨rfl,HB.out⟩
    ·
     have e:F=false:=by rw [← HF.out,decide_eq_false d3];simp
     subst e;have d3i:((i:Int) == (P.ops.length:Int) - 1)=false:=by rw [beq_eq_false_iff_ne];omega
     subst d1 d2;go_wp2;go_ret
     exact ⟨rfl,HB.out⟩
   ·
    have e:F=false:=by rw [← HF.out,decide_eq_false d2];simp
    subst e;have d2i:(xb == 0)=false:=by rw [beq_eq_false_iff_ne];exact d2
    subst d1;go_wp2;go_ret
    exact ⟨rfl,HB.out⟩
  ·
   have e:F=false:=by rw [← HF.out,decide_eq_false d1];simp
   subst e;have d1i:(xa == 0)=false:=by rw [beq_eq_false_iff_ne];exact d1
   go_wp2;go_ret
   exact ⟨rfl,HB.out⟩
 ·
  rw [if_neg k0] at hF;have k0i:(kd == 0)=false:=by rw [beq_eq_false_iff_ne];exact k0
  by_cases k1:kd=1
  ·
   subst k1;simp only [jH] at hF;have HF:Hid ((decide (0≤xa) && decide (xa≤P.counters - 1) && decide ((1:Int)≤xb) && decide (xb≤2048))=F):=Lib.hid (by simpa using hF);clear hF
   go_enter Tryz.func89,Tryz.ntmps89
   have hwa:IntKind.i64.wrap (P.counters - 1)=P.counters - 1:=IntWalk.i64_in _ (by omega)
   go_wp2_with fail
   refine (dV _ _ _).mono ?_;rintro e w5 ⟨rfl,rfl⟩
   by_cases d1:0≤xa
   ·
    by_cases d2:xa≤P.counters - 1
    ·
     rw [decide_eq_true d1,decide_eq_true d2]
     by_cases d3:(1:Int)≤xb
     ·
      by_cases d4:xb≤2048
      ·
       have e:F=true:=by rw [← HF.out,decide_eq_true d1,decide_eq_true d2,decide_eq_true d3,decide_eq_true d4];rfl
       subst e;go_wp2;go_ret
       exact ⟨rfl,HB.out⟩
      ·
       have e:F=false:=by rw [← HF.out,decide_eq_false d4];simp
       subst e;go_wp2;go_ret
       refine ⟨?_,HB.out⟩;show Ending.returned (Value.bool (decide (xb≤2048)))=_
       rw [decide_eq_false (by omega)]
     ·
      have e:F=false:=by rw [← HF.out,decide_eq_false d3];simp
      subst e;go_wp2;go_ret
      exact ⟨rfl,HB.out⟩
    ·
     have e:F=false:=by rw [← HF.out,decide_eq_false d2];simp
     subst e;rw [decide_eq_false d2,Bool.and_false];go_wp2;go_ret
     exact ⟨rfl,HB.out⟩
   ·
    have e:F=false:=by rw [← HF.out,decide_eq_false d1];simp
    subst e;rw [decide_eq_false d1,Bool.false_and];go_wp2;go_ret
    exact ⟨rfl,HB.out⟩
  have k1i:(kd == 1)=false:=by rw [beq_eq_false_iff_ne];exact k1
  by_cases k2:kd=2
  ·
   subst k2;simp only [jH] at hF;have HF:Hid ((decide (0≤xa) && decide (xa≤P.counters - 1) && decide ((0:Int)≤xb) && decide (xb≤(P.ops.length:Int) - 1))=F):=Lib.hid (by simpa using hF);clear hF;have hwl:IntKind.i64.wrap ((P.ops.length:Int) - 1)=(P.ops.length:Int) - 1:=IntWalk.i64_in _ (by omega)
   go_enter Tryz.func89,Tryz.ntmps89
   go_wp2_with fail
   refine ax (fun w'=>w'.cell? ⟨w.heap.size,1,none⟩=some (.int .i64 P.counters)∧w'.cell? ⟨w.heap.size,6,none⟩=some (.slice (some ⟨bo,oo,none⟩) P.ops.length co)) [0,1,2,3,4,5,6,7,8] [] (by kernel_rfl) (by kernel_rfl) rfl (fun _ _ hx h=>⟨hx.cell h.1,hx.cell h.2⟩) ⟨p1,p6⟩ ?_;intro Q' hQ';simp only [pk];refine aA ?_;refine av ?_;replace HB:=Lib.hid (cO (n:=1) HB.out);have hwa:IntKind.i64.wrap (P.counters - 1)=P.counters - 1:=IntWalk.i64_in _ (by omega)
   go_wp2_with fail
   refine (dV _ _ _).mono ?_;rintro e w5 ⟨rfl,rfl⟩
   by_cases d1:0≤xa
   ·
    by_cases d2:xa≤P.counters - 1
    ·
     rw [decide_eq_true d1,decide_eq_true d2]
     by_cases d3:(0:Int)≤xb
     ·
      by_cases d4:xb≤(P.ops.length:Int) - 1
      ·
       have e:F=true:=by rw [← HF.out,decide_eq_true d1,decide_eq_true d2,decide_eq_true d3,decide_eq_true d4];rfl
       subst e;go_wp2;go_ret
       exact ⟨rfl,HB.out⟩
      ·
       have e:F=false:=by rw [← HF.out,decide_eq_false d4];simp
       subst e;go_wp2;go_ret
       refine ⟨?_,HB.out⟩;show Ending.returned (Value.bool (decide (xb≤(P.ops.length:Int) - 1)))=_
       rw [decide_eq_false (by omega)]
     ·
      have e:F=false:=by rw [← HF.out,decide_eq_false d3];simp
      subst e;go_wp2;go_ret
      exact ⟨rfl,HB.out⟩
    ·
     have e:F=false:=by rw [← HF.out,decide_eq_false d2];simp
     subst e;rw [decide_eq_false d2,Bool.and_false];go_wp2;go_ret
     exact ⟨rfl,HB.out⟩
   ·
    have e:F=false:=by rw [← HF.out,decide_eq_false d1];simp
    subst e;rw [decide_eq_false d1,Bool.false_and];go_wp2;go_ret
    exact ⟨rfl,HB.out⟩
  have k2i:(kd == 2)=false:=by rw [beq_eq_false_iff_ne];exact k2
  by_cases k3:kd=3
  ·
   subst k3;simp only [jH] at hF;have HF:Hid ((decide (0≤xa) && decide (xa≤(P.lines.length:Int) - 1) && decide ((1:Int)≤xb) && decide (xb≤64))=F):=Lib.hid (by simpa using hF);clear hF
   go_enter Tryz.func89,Tryz.ntmps89
   have hwa:IntKind.i64.wrap ((P.lines.length:Int) - 1)=(P.lines.length:Int) - 1:=IntWalk.i64_in _ (by omega)
   go_wp2_with fail
   refine (dV _ _ _).mono ?_;rintro e w5 ⟨rfl,rfl⟩
   by_cases d1:0≤xa
   ·
    by_cases d2:xa≤(P.lines.length:Int) - 1
    ·
     rw [decide_eq_true d1,decide_eq_true d2]
     by_cases d3:(1:Int)≤xb
     ·
      by_cases d4:xb≤64
      ·
       have e:F=true:=by rw [← HF.out,decide_eq_true d1,decide_eq_true d2,decide_eq_true d3,decide_eq_true d4];rfl
       subst e;go_wp2;go_ret
       exact ⟨rfl,HB.out⟩
      ·
       have e:F=false:=by rw [← HF.out,decide_eq_false d4];simp
       subst e;go_wp2;go_ret
       refine ⟨?_,HB.out⟩;show Ending.returned (Value.bool (decide (xb≤64)))=_
       rw [decide_eq_false (by omega)]
     ·
      have e:F=false:=by rw [← HF.out,decide_eq_false d3];simp
      subst e;go_wp2;go_ret
      exact ⟨rfl,HB.out⟩
    ·
     have e:F=false:=by rw [← HF.out,decide_eq_false d2];simp
     subst e;rw [decide_eq_false d2,Bool.and_false];go_wp2;go_ret
     exact ⟨rfl,HB.out⟩
   ·
    have e:F=false:=by rw [← HF.out,decide_eq_false d1];simp
    subst e;rw [decide_eq_false d1,Bool.false_and];go_wp2;go_ret
    exact ⟨rfl,HB.out⟩
  have k3i:(kd == 3)=false:=by rw [beq_eq_false_iff_ne];exact k3
  by_cases k6:kd=6
  ·
   subst k6;simp only [jH] at hF;have HF:Hid ((decide (0≤xa) && decide (xa≤(P.lines.length:Int) - 1) && decide ((1:Int)≤xb) && decide (xb≤64))=F):=Lib.hid (by simpa using hF);clear hF
   go_enter Tryz.func89,Tryz.ntmps89
   have hwa:IntKind.i64.wrap ((P.lines.length:Int) - 1)=(P.lines.length:Int) - 1:=IntWalk.i64_in _ (by omega)
   go_wp2_with fail
   refine (dV _ _ _).mono ?_;rintro e w5 ⟨rfl,rfl⟩
   by_cases d1:0≤xa
   ·
    by_cases d2:xa≤(P.lines.length:Int) - 1
    ·
     rw [decide_eq_true d1,decide_eq_true d2]
     by_cases d3:(1:Int)≤xb
     ·
      by_cases d4:xb≤64
      ·
       have e:F=true:=by rw [← HF.out,decide_eq_true d1,decide_eq_true d2,decide_eq_true d3,decide_eq_true d4];rfl
       subst e;go_wp2;go_ret
       exact ⟨rfl,HB.out⟩
      ·
       have e:F=false:=by rw [← HF.out,decide_eq_false d4];simp
       subst e;go_wp2;go_ret
       refine ⟨?_,HB.out⟩;show Ending.returned (Value.bool (decide (xb≤64)))=_
       rw [decide_eq_false (by omega)]
     ·
      have e:F=false:=by rw [← HF.out,decide_eq_false d3];simp
      subst e;go_wp2;go_ret
      exact ⟨rfl,HB.out⟩
    ·
     have e:F=false:=by rw [← HF.out,decide_eq_false d2];simp
     subst e;rw [decide_eq_false d2,Bool.and_false];go_wp2;go_ret
     exact ⟨rfl,HB.out⟩
   ·
    have e:F=false:=by rw [← HF.out,decide_eq_false d1];simp
    subst e;rw [decide_eq_false d1,Bool.false_and];go_wp2;go_ret
    exact ⟨rfl,HB.out⟩
  have k6i:(kd == 6)=false:=by rw [beq_eq_false_iff_ne];exact k6
  by_cases k4:kd=4
  ·
   subst k4;simp only [jH] at hF;have HF:Hid ((decide (0≤xa) && decide (xa≤P.ins - 1) && decide ((1:Int)≤xb) && decide (xb≤64))=F):=Lib.hid (by simpa using hF);clear hF
   go_enter Tryz.func89,Tryz.ntmps89
   have hwa:IntKind.i64.wrap (P.ins - 1)=P.ins - 1:=IntWalk.i64_in _ (by omega)
   go_wp2_with fail
   refine (dV _ _ _).mono ?_;rintro e w5 ⟨rfl,rfl⟩
   by_cases d1:0≤xa
   ·
    by_cases d2:xa≤P.ins - 1
    ·
     rw [decide_eq_true d1,decide_eq_true d2]
     by_cases d3:(1:Int)≤xb
     ·
      by_cases d4:xb≤64
      ·
       have e:F=true:=by rw [← HF.out,decide_eq_true d1,decide_eq_true d2,decide_eq_true d3,decide_eq_true d4];rfl
       subst e;go_wp2;go_ret
       exact ⟨rfl,HB.out⟩
      ·
       have e:F=false:=by rw [← HF.out,decide_eq_false d4];simp
       subst e;go_wp2;go_ret
       refine ⟨?_,HB.out⟩;show Ending.returned (Value.bool (decide (xb≤64)))=_
       rw [decide_eq_false (by omega)]
     ·
      have e:F=false:=by rw [← HF.out,decide_eq_false d3];simp
      subst e;go_wp2;go_ret
      exact ⟨rfl,HB.out⟩
    ·
     have e:F=false:=by rw [← HF.out,decide_eq_false d2];simp
     subst e;rw [decide_eq_false d2,Bool.and_false];go_wp2;go_ret
     exact ⟨rfl,HB.out⟩
   ·
    have e:F=false:=by rw [← HF.out,decide_eq_false d1];simp
    subst e;rw [decide_eq_false d1,Bool.false_and];go_wp2;go_ret
    exact ⟨rfl,HB.out⟩
  have k4i:(kd == 4)=false:=by rw [beq_eq_false_iff_ne];exact k4
  by_cases k7:kd=7
  ·
   subst k7;simp only [jH] at hF;have HF:Hid ((decide (0≤xa) && decide (xa≤P.outs - 1) && decide ((1:Int)≤xb) && decide (xb≤64))=F):=Lib.hid (by simpa using hF);clear hF
   go_enter Tryz.func89,Tryz.ntmps89
   have hwa:IntKind.i64.wrap (P.outs - 1)=P.outs - 1:=IntWalk.i64_in _ (by omega)
   go_wp2_with fail
   refine (dV _ _ _).mono ?_;rintro e w5 ⟨rfl,rfl⟩
   by_cases d1:0≤xa
   ·
    by_cases d2:xa≤P.outs - 1
    ·
     rw [decide_eq_true d1,decide_eq_true d2]
     by_cases d3:(1:Int)≤xb
     ·
      by_cases d4:xb≤64
      ·
       have e:F=true:=by rw [← HF.out,decide_eq_true d1,decide_eq_true d2,decide_eq_true d3,decide_eq_true d4];rfl
       subst e;go_wp2;go_ret
       exact ⟨rfl,HB.out⟩
      ·
       have e:F=false:=by rw [← HF.out,decide_eq_false d4];simp
       subst e;go_wp2;go_ret
       refine ⟨?_,HB.out⟩;show Ending.returned (Value.bool (decide (xb≤64)))=_
       rw [decide_eq_false (by omega)]
     ·
      have e:F=false:=by rw [← HF.out,decide_eq_false d3];simp
      subst e;go_wp2;go_ret
      exact ⟨rfl,HB.out⟩
    ·
     have e:F=false:=by rw [← HF.out,decide_eq_false d2];simp
     subst e;rw [decide_eq_false d2,Bool.and_false];go_wp2;go_ret
     exact ⟨rfl,HB.out⟩
   ·
    have e:F=false:=by rw [← HF.out,decide_eq_false d1];simp
    subst e;rw [decide_eq_false d1,Bool.false_and];go_wp2;go_ret
    exact ⟨rfl,HB.out⟩
  have k7i:(kd == 7)=false:=by rw [beq_eq_false_iff_ne];exact k7
  by_cases k5:kd=5
  ·
   subst k5;simp only [jH] at hF;have HF:Hid ((decide (0≤xa) && decide (xa≤(P.parts.length:Int) - 1) && decide ((0:Int)≤xb) && decide (xb≤0))=F):=Lib.hid (by simpa using hF);clear hF
   go_enter Tryz.func89,Tryz.ntmps89
   have hwa:IntKind.i64.wrap ((P.parts.length:Int) - 1)=(P.parts.length:Int) - 1:=IntWalk.i64_in _ (by omega)
   go_wp2_with fail
   refine (dV _ _ _).mono ?_;rintro e w5 ⟨rfl,rfl⟩
   by_cases d1:0≤xa
   ·
    by_cases d2:xa≤(P.parts.length:Int) - 1
    ·
     rw [decide_eq_true d1,decide_eq_true d2]
     by_cases d3:(0:Int)≤xb
     ·
      by_cases d4:xb≤0
      ·
       have e:F=true:=by rw [← HF.out,decide_eq_true d1,decide_eq_true d2,decide_eq_true d3,decide_eq_true d4];rfl
       subst e;go_wp2;go_ret
       exact ⟨rfl,HB.out⟩
      ·
       have e:F=false:=by rw [← HF.out,decide_eq_false d4];simp
       subst e;go_wp2;go_ret
       refine ⟨?_,HB.out⟩;show Ending.returned (Value.bool (decide (xb≤0)))=_
       rw [decide_eq_false (by omega)]
     ·
      have e:F=false:=by rw [← HF.out,decide_eq_false d3];simp
      subst e;go_wp2;go_ret
      exact ⟨rfl,HB.out⟩
    ·
     have e:F=false:=by rw [← HF.out,decide_eq_false d2];simp
     subst e;rw [decide_eq_false d2,Bool.and_false];go_wp2;go_ret
     exact ⟨rfl,HB.out⟩
   ·
    have e:F=false:=by rw [← HF.out,decide_eq_false d1];simp
    subst e;rw [decide_eq_false d1,Bool.false_and];go_wp2;go_ret
    exact ⟨rfl,HB.out⟩
  have k5i:(kd == 5)=false:=by rw [beq_eq_false_iff_ne];exact k5
  have HF:Hid ((decide (0≤xa) && decide (xa≤(0:Int) - 1) && decide ((1:Int)≤xb) && decide (xb≤64))=F):=Lib.hid (by
   have e:jH P kd=(0,1,64):=by unfold jH;rw [if_neg k1,if_neg k2,if_neg (by omega),if_neg k4,if_neg k7,if_neg k5]
   rw [e] at hF;exact hF)
  clear hF
  go_enter Tryz.func89,Tryz.ntmps89
  go_wp2_with fail
  refine (dV _ _ _).mono ?_;rintro e w5 ⟨rfl,rfl⟩;have e:F=false:=by
   rw [← HF.out]
   by_cases d1:0≤xa
   ·
    rw [decide_eq_false (by omega:¬ xa≤(0:Int) - 1)];simp
   ·
    rw [decide_eq_false d1];simp
  subst e;have e2:(decide (0≤xa) && decide (xa≤-1))=false:=by
   by_cases d1:0≤xa
   ·
    rw [decide_eq_false (by omega:¬ xa≤-1)];simp
   ·
    rw [decide_eq_false d1];simp
  try rw [e2]
  go_wp2;go_ret
  exact ⟨rfl,HB.out⟩
abbrev lN:=Int × List (Nat × Int)
def jy (P:ay)(p:Nat):fG:=P.ops[p]?.getD ⟨0,0,0⟩
def iG:lN→Int
 | (b,[])=>b
 | (_,(_,s) :: _)=>s
def aaR:lN→Int
 | (_,[])=>-1
 | (_,(p,_) :: _)=>p
def rq (s':Int):lN→lN
 | (_,[])=>(s',[])
 | (b,(p,_) :: r)=>(b,(p,s') :: r)
def JD (k:Int)(st:lN):lN:=rq (fH (iG st+k)) st
def zA (times round:Int):Int:=if round≤131072 / times then 1+times*round else 131073
def dR (P:ay)(x:fG)(st:lN):Int :=
 if x.kind=1 then (if st.2.any (fun f=>decide ((jy P f.1).a=x.a)) then 201 else 0)
 else if x.kind=2 then (match st.2 with | []=>201 | (p,_) :: _=>if (jy P p).a≠x.a∨x.b≠p+1 then 201 else 0)
 else if x.kind=0 then (if st.2=[] then 0 else 201)
 else 0
def jV (P:ay)(i:Nat)(x:fG)(st:lN):lN :=
 if x.kind=1 then (st.1,(i,0) :: st.2)
 else if x.kind=2 then (match st.2 with | []=>st | (p,s) :: r=>JD (zA (jy P p).b (s+1)) (st.1,r))
 else JD 1 st
def Qy (P:ay)(st:lN):Int × Int:=if P.ops.length=0∨(jy P (P.ops.length - 1)).kind≠0 then (0,200) else if 131072 < st.1 then (0,5) else (st.1,0)
def jI (P:ay):List fG→Nat→lN→Int × Int
 | [],_,st=>Qy P st
 | x :: r,i,st=>if !cK P i x then (0,200) else if dR P x st≠0 then (0,dR P x st) else jI P r (i+1) (jV P i x st)
structure xk (P:ay) (i:Nat) (st:lN):Prop where
 bot:0≤st.1∧st.1≤131073
 frames:∀ f∈st.2,f.1 < i∧1≤(jy P f.1).b∧(jy P f.1).b≤2048∧0≤f.2∧f.2≤131073
 len:st.2.length≤i
theorem Vy {n:Int}(h:0≤n):0≤fH n∧fH n≤131073:=by unfold fH;split <;> omega
theorem vF {P:ay}{i:Nat}{st:lN}(h:xk P i st):0≤iG st∧iG st≤131073:=by
 obtain ⟨b,fr⟩:=st;cases fr with
 | nil=>exact h.bot
 | cons f r=>exact (h.frames f List.mem_cons_self).2.2.2
theorem vG (s:Int)(st:lN):(rq s st).2.length=st.2.length:=by
 obtain ⟨b,fr⟩:=st;cases fr <;> rfl
theorem KY {P:ay}{i:Nat}{st:lN}{k:Int}(h:xk P i st)(hk:0≤k):xk P i (JD k st):=by
 have ht:=vF h;have hc:=Vy (show 0≤iG st+k by omega);obtain ⟨b,fr⟩:=st;cases fr with
 | nil=>exact ⟨hc,(fun f hf=>by cases hf),Nat.zero_le _⟩
 | cons f r =>
  refine ⟨h.bot,fun g hg=>?_,h.len⟩;have h1:=h.frames f List.mem_cons_self
  rcases List.mem_cons.1 hg with rfl | hg
  ·
   exact ⟨h1.1,h1.2.1,h1.2.2.1,hc⟩
  ·
   exact h.frames g (List.mem_cons_of_mem _ hg)
theorem xk.later {P:ay}{i:Nat}{st:lN}(h:xk P i st):xk P (i+1) st:=⟨h.bot,fun f hf=>by have:=h.frames f hf;exact ⟨by omega,this.2⟩,by have:=h.len;omega⟩
theorem xk.pop {P:ay}{i:Nat}{b:Int}{f:Nat × Int}{r:List (Nat × Int)}(h:xk P i (b,f :: r)):xk P i (b,r):=⟨h.bot,fun g hg=>h.frames g (List.mem_cons_of_mem _ hg),by have:=h.len;simp only [List.length_cons] at this;show r.length≤i;omega⟩
theorem KZ {t r:Int}(ht:1≤t)(hr:0≤r):0≤zA t r∧zA t r≤131073:=by
 unfold zA
 split
 ·
  rename_i h
  have h1:t*r≤t*(131072 / t):=Int.mul_le_mul_of_nonneg_left h (by omega);have h2:t*(131072 / t)≤131072:=Int.mul_ediv_self_le (by omega);have h3:0≤t*r:=Int.mul_nonneg (by omega) hr;omega
 ·
  omega
theorem Qz {P:ay}{i:Nat}{x:fG}{st:lN}(h:xk P i st)(hi:i < P.ops.length)(hx:P.ops[i]=x)(hs:cK P i x=true):xk P (i+1) (jV P i x st):=by
 unfold jV
 by_cases h1:x.kind=1
 ·
  rw [if_pos h1];have ho:jy P i=x:=by unfold jy;rw [List.getElem?_eq_getElem hi,hx];rfl
  unfold cK at hs;rw [if_neg (by omega)] at hs;simp only [jH,h1,Bool.and_eq_true,decide_eq_true_eq] at hs;refine ⟨h.bot,fun f hf=>?_,by have:=h.len;simp only [List.length_cons];omega⟩
  rcases List.mem_cons.1 hf with rfl | hf
  ·
   rw [ho];simp at hs;exact ⟨by omega,by omega,by omega,by omega,by show (0:Int)≤131073;omega⟩
  ·
   exact (h.later).frames f hf
 ·
  rw [if_neg h1]
  by_cases h2:x.kind=2
  ·
   rw [if_pos h2];obtain ⟨b,fr⟩:=st;cases fr with
   | nil=>exact h.later
   | cons f r =>
    have hf:=h.frames f List.mem_cons_self;exact KY h.pop.later (KZ hf.2.1 (by omega)).1
  ·
   rw [if_neg h2];exact KY h.later (by omega)
def ME (f:Nat × Int):List Value:=[.int .i64 f.1,.int .i64 f.2]
def vH (st:lN):List Value:=[.int .i64 (-1),.int .i64 st.1] ++ st.2.reverse.flatMap ME
theorem Vz (l:List (Nat × Int)):(l.flatMap ME).length=l.length*2:=AA l
 where AA:∀ l:List (Nat × Int),(l.flatMap ME).length=l.length*2
  | []=>rfl
  | x :: l=>by rw [List.flatMap_cons,List.length_append,AA l];simp [ME];omega
theorem Ez (st:lN):(vH st).length=(st.2.length+1)*2:=by
 rw [vH,List.length_append,Vz];simp;omega
theorem pq (b:Int)(fr:List (Nat × Int))(p:Nat)(s:Int):vH (b,(p,s) :: fr)=vH (b,fr) ++ [.int .i64 p,.int .i64 s]:=by
 simp [vH,ME]
theorem sN (st:lN):(vH st)[st.2.length*2]?=some (.int .i64 (aaR st))∧(vH st)[st.2.length*2+1]?=some (.int .i64 (iG st)):=by
 obtain ⟨b,fr⟩:=st;cases fr with
 | nil=>exact ⟨rfl,rfl⟩
 | cons f r =>
  obtain ⟨p,s⟩:=f;rw [pq];have hl:=Ez (b,r);dsimp only at hl ⊢;simp only [List.length_cons];rw [List.getElem?_append_right (by omega),List.getElem?_append_right (by omega),show (r.length+1)*2 - (vH (b,r)).length=0 by omega,show (r.length+1)*2+1 - (vH (b,r)).length=1 by omega];exact ⟨rfl,rfl⟩
theorem zS (st:lN)(s':Int):(vH st).set (st.2.length*2+1) (.int .i64 s')=vH (rq s' st):=by
 obtain ⟨b,fr⟩:=st;cases fr with
 | nil=>rfl
 | cons f r =>
  obtain ⟨p,s⟩:=f;rw [rq,pq,pq];have hl:=Ez (b,r);dsimp only at hl ⊢;simp only [List.length_cons];rw [List.set_append_right _ _ (by omega),show (r.length+1)*2+1 - (vH (b,r)).length=1 by omega];rfl
theorem VA (b:Int)(f:Nat × Int)(fr:List (Nat × Int)):(vH (b,f :: fr)).take ((fr.length+1)*2)=vH (b,fr):=by
 obtain ⟨p,s⟩:=f;have hl:=Ez (b,fr);dsimp only at hl;rw [pq,← hl,List.take_left'];rfl
theorem Zw (st:lN){k:Nat}(hk:k < st.2.length):(vH st)[(k+1)*2]?=some (.int .i64 ((st.2.reverse[k]'(by simpa using hk)).1:Nat)):=by
 have key:∀ (l:List (Nat × Int)) (k:Nat) (h:k < l.length),(l.flatMap ME)[k*2]?=some (.int .i64 (l[k].1:Nat)):=by
  intro l
  induction l with
  | nil=>intro k h;simp at h
  | cons x l ih =>
   intro k h;cases k with
   | zero=>rfl
   | succ k =>
    rw [List.flatMap_cons,List.getElem?_append_right (by simp [ME];omega)];have:=ih k (by simpa using h);rw [show (k+1)*2 - (ME x).length=k*2 by simp [ME];omega,this];rfl
 rw [vH,List.getElem?_append_right (by simp;omega),show (k+1)*2 - ([Value.int .i64 (-1),Value.int .i64 st.1]:List Value).length=k*2 by simp;omega];exact key _ _ _
theorem VB (st:lN){k:Nat}(hk:k < st.2.length):(vH st)[(k+1)*2+1]?=some (.int .i64 (st.2.reverse[k]'(by simpa using hk)).2):=by
 have key:∀ (l:List (Nat × Int)) (k:Nat) (h:k < l.length),(l.flatMap ME)[k*2+1]?=some (.int .i64 l[k].2):=by
  intro l
  induction l with
  | nil=>intro k h;simp at h
  | cons x l ih =>
   intro k h;cases k with
   | zero=>rfl
   | succ k =>
    rw [List.flatMap_cons,List.getElem?_append_right (by simp [ME];omega)];have:=ih k (by simpa using h);rw [show (k+1)*2+1 - (ME x).length=k*2+1 by simp [ME];omega,this];rfl
 rw [vH,List.getElem?_append_right (by simp;omega),show (k+1)*2+1 - ([Value.int .i64 (-1),Value.int .i64 st.1]:List Value).length=k*2+1 by simp;omega];exact key _ _ _
theorem Zx {ob:Int}(h:1≤ob):wrap64 (Int.tdiv 131072 ob)=131072 / ob:=by
 have e:Int.tdiv 131072 ob=131072 / ob:=Int.tdiv_eq_ediv_of_nonneg (by omega);have h1:0≤131072 / ob:=Int.ediv_nonneg (by omega) (by omega);have h2:131072 / ob≤131072:=Int.ediv_le_self _ (by omega);rw [e];exact IntWalk.wrap64_in _ (by omega)
theorem Zy {ob r:Int}(h:1≤ob)(hr:0≤r)(hle:r≤131072 / ob):0≤ob*r∧ob*r≤131072:=by
 have h1:ob*r≤ob*(131072 / ob):=Int.mul_le_mul_of_nonneg_left hle (by omega);have h2:ob*(131072 / ob)≤131072:=Int.mul_ediv_self_le (by omega);have h3:0≤ob*r:=Int.mul_nonneg (by omega) hr;omega
theorem yE {w:World}{base e size n m:Nat}{xs:List Value}{ao:Option Addr}{cap:Nat}(h:w.ownsRow base e size (.slice ao n cap) n xs)(hm:m≤n)(hp:0 < n):w.ownsRow base e size (.slice ao m cap) m (xs.take (m*size)):=by
 rcases h.2 with ⟨e1,_⟩ | ⟨g,cap',cur,e1,hb,hg,hnc,hmx,hcs,ht⟩
 ·
  cases e1;omega
 ·
  cases e1
  have hl:=h.1;refine ⟨by rw [List.length_take];have:=Nat.mul_le_mul_right size hm;omega,.inr ⟨g,_,cur,rfl,hb,hg,by omega,hmx,hcs,?_⟩⟩;rw [← ht,List.take_take,Nat.min_eq_left (Nat.mul_le_mul_right size hm)]
def QA {α:Type}(hd:α→List Value)(_:World)(a:α)(cs:List Value):Prop:=cs=hd a
section
variable {α:Type} {hd:α→List Value} {w w':World} {o:Col} {c sz e:Nat} {l:List α}
end
theorem xu {α:Type}{w:World}{sz:Nat}{R S:World→α→List Value→Prop}{v:Value}{l:List α}(h:kR w sz R v l)(hRS:∀ a cs,R w a cs→S w a cs):kR w sz S v l:=by
 rcases h with h | ⟨hp,b,off,cap,e,hc,hb,hcl⟩
 ·
  exact .inl h
 ·
  refine .inr ⟨hp,b,off,cap,e,hc,hb,fun k hk=>?_⟩;obtain ⟨cs,h1,h2,h3⟩:=hcl k hk;exact ⟨cs,h1,hRS _ _ h2,h3⟩
theorem AB:(Tryz.prog.info? 165).map (fun i=>(i.zero,i.size,i.bytes))=some (some (.agg #[.int .i64 0,.int .i64 0]),2,16):=by kernel_rfl
theorem Gq {P:ay}{j:Nat}(h:j < P.ops.length){st:lN}:jI P (P.ops.drop j) j st=if !cK P j P.ops[j] then (0,200) else if dR P P.ops[j] st≠0 then (0,dR P P.ops[j] st) else jI P (P.ops.drop (j+1)) (j+1) (jV P j P.ops[j] st):=by
 rw [List.drop_eq_getElem_cons h,jI]
theorem Zz {w:World}{o:Col}{c e sz n:Nat}{v:Value}{xs:List Value}(h:Own w o c e sz v (n+1) xs):∃ g cap,v=.slice (some ⟨g,0,none⟩) (n+1) cap∧n+1≤cap∧cap≤maxLen:=by
 rcases h.1.2 with ⟨_,h0⟩ | ⟨g,cap,cur,e,_,_,hnc,hmx,_⟩
 ·
  omega
 ·
  exact ⟨g,cap,e,hnc,hmx⟩
theorem nC {w:World}{o:Col}{c e sz n g cap:Nat}{xs:List Value}(h:Own w o c e sz (.slice (some ⟨g,0,none⟩) n cap) n xs)(i:Nat):w.frozen? ⟨g,i,none⟩=false:=by
 rcases h.1.2 with ⟨e,_⟩ | ⟨g',cap,cur,e,_,hg,_⟩
 ·
  cases e
 ·
  cases e
  exact aj hg i
def K3 (r:Int × Int)(w:World)(e:Ending)(w':World):Prop:=e=.returned (.tuple #[.int .i64 r.1,.int .i64 r.2])∧Below w.heap.size w w'
theorem MF (w:World)(v:Value)(P:ay)(hv:bO w v P)(hz:tT P):Calls Tryz.prog 68 #[v] w (K3 (jI P P.ops 0 (0,[])) w):=by
 obtain ⟨vp,vl,vo,rfl,rp,rl,ro⟩:=hv;obtain ⟨ap,cp,rfl⟩:=rp.slice;obtain ⟨al,cl,rfl⟩:=rl.slice;obtain ⟨ao,co,rfl⟩:=ro.slice;have HV:Hid (bO w (.agg #[.int .i64 P.memory,.int .i64 P.counters,.int .i64 P.ins,.int .i64 P.outs,.slice ap P.parts.length cp,.slice al P.lines.length cl,.slice ao P.ops.length co]) P):=Lib.hid ⟨_,_,_,rfl,rp,rl,ro⟩;have Gr:=Lib.hid ro;have HZ:=Lib.hid hz;have z9:=hz.ops;obtain ⟨r,hr⟩:∃ r,jI P P.ops 0 (0,[])=r:=⟨_,rfl⟩
 rw [hr];have HR:Hid (jI P (P.ops.drop 0) 0 (0,[])=r):=Lib.hid hr;clear rp rl ro hr hz;have hb1:=au w (.cells #[.int .i64 P.memory,.int .i64 P.counters,.int .i64 P.ins,.int .i64 P.outs,.slice ap P.parts.length cp,.slice al P.lines.length cl,.slice ao P.ops.length co] 26);have T1:=Turn.of_below (fun _=>0) 9 hb1;have hX:dY _ (ext (fun _=>0) w.heap.size 9) 9 _ _ _:=⟨heap_alloc_new w (.cells #[.int .i64 P.memory,.int .i64 P.counters,.int .i64 P.ins,.int .i64 P.outs,.slice ap P.parts.length cp,.slice al P.lines.length cl,.slice ao P.ops.length co] 26),aW (Nat.le_refl _)⟩;have K1:=(Kept.start w).turn T1 (fun h=>h);generalize hW:w.alloc (.cells #[.int .i64 P.memory,.int .i64 P.counters,.int .i64 P.ins,.int .i64 P.outs,.slice ap P.parts.length cp,.slice al P.lines.length cl,.slice ao P.ops.length co] 26)=W at *;have XW:W.heap.size=w.heap.size+1:=by rw [← hW];simp
 have hb2:=au W (.cells #[.int .i64 (-1),.int .i64 0] 165);have T2:=Turn.of_below (ext (fun _=>0) w.heap.size 9) 4 hb2;have HK:=Lib.hid (K1.turn T2 (fun h=>h));have zC:=Lib.hid (hX.turn T2 (fun h=>h));have HOW:Hid (Own _ (ext (ext (fun _=>0) w.heap.size 9) W.heap.size 4) 4 165 2 (.slice (some ⟨W.heap.size,0,none⟩) 1 1) 1 (vH (0,[]))):=Lib.hid ⟨⟨rfl,.inr ⟨W.heap.size,1,_,rfl,Nat.zero_le _,heap_alloc_new W (.cells #[.int .i64 (-1),.int .i64 0] 165),Nat.le_refl _,by unfold maxLen;omega,rfl,rfl⟩⟩,fun k hk=>by obtain rfl:=Option.some.inj hk;exact aW (Nat.le_refl _)⟩;have y6:=zC.out.cell 6 _ rfl;generalize ext (ext (fun _=>0) w.heap.size 9) W.heap.size 4=q0 at *;rw [XW] at HOW;clear hb1 T1 hX K1 hb2 T2
 go_enter Tryz.func68,Tryz.ntmps68
 go_wp2_with fail
 clear hW y6;obtain ⟨n,hn⟩:∃ x,P.ops.length=x:=⟨_,rfl⟩
 have HN:=Lib.hid hn;rw [hn] at zC HV z9 Gr ⊢;clear hn
 go_loopw [4,20] (fun v i wl=>∃ (j:Nat) (q:Col) (st:lN),j≤n∧i=.int .i64 j∧Kept w.heap.size q w wl∧dY wl q 9 w.heap.size 26 #[.int .i64 P.memory,.int .i64 P.counters,.int .i64 P.ins,.int .i64 P.outs,.slice ap P.parts.length cp,.slice al P.lines.length cl,.slice ao n co]∧Own wl q 4 165 2 v (st.2.length+1) (vH st)∧xk P j st∧jI P (P.ops.drop j) j st=r) (fun _ i _=>n - (intOf i).toNat)
 case atStart=>exact ⟨0,q0,(0,[]),Nat.zero_le _,rfl,HK.out,zC.out,HOW.out,⟨⟨Int.le_refl _,by decide⟩,(fun f hf=>by cases hf),Nat.le_refl _⟩,HR.out⟩
 case round =>
  clear HK zC HOW HR;obtain ⟨j,q,st,hj,rfl,hK,hB,hO,hS,hE⟩:=hrel;have HK:=Lib.hid hK;have zC:=Lib.hid hB;have HOW:=Lib.hid hO;have HST:=Lib.hid hS;have HE:=Lib.hid hE;obtain ⟨m,hm⟩:∃ x,st.2.length=x:=⟨_,rfl⟩
  have HM:=Lib.hid hm;have hmj:=hS.len;rw [hm] at HOW hmj;clear hK hB hO hS hE;obtain ⟨g,cap,rfl,hmc,hmx⟩:=Zz HOW.out
  by_cases hlt:j < n
  ·
   have dG:(j:Int) < n:=by omega
   have hlt2:j < P.ops.length:=by have:=HN.out;omega
   have AJ:=HE.out;rw [Gq hlt2] at AJ;obtain ⟨Vx,_,bo,oo,rfl,o1,o2,o3⟩:=eB.opAt (Gr.out.below HK.out.below) (List.getElem?_eq_getElem hlt2);have MC:(n:Int)≤co:=by omega
   have jW:=Lib.hid AJ;have K4:Hid (∀ (w:World) (v:Value),bO w v P→Calls Tryz.prog 89 #[v,.int .i64 j] w (og (.bool (cK P j P.ops[j])) w)):=Lib.hid fun w v h=>JC w v P j h HZ.out hlt2
   have I9:Hid (cK P j P.ops[j]=true→xk P (j+1) (jV P j P.ops[j] st)):=Lib.hid fun h=>Qz HST.out hlt2 rfl h
   obtain ⟨x,hx⟩:∃ x,P.ops[j]=x:=⟨_,rfl⟩
   rw [hx] at o1 o2 o3 jW K4 I9;obtain ⟨kd,xa,xb⟩:=x;dsimp only at o1 o2 o3;clear AJ hx HE;have hbX:=au wr (.cells #[.int .u8 kd,.int .i64 xa,.int .i64 xb] 58);have TX:=Turn.of_below q 8 hbX;have HX:Hid (dY _ (ext q wr.heap.size 8) 8 _ _ _):=Lib.hid ⟨heap_alloc_new wr (.cells #[.int .u8 kd,.int .i64 xa,.int .i64 xb] 58),aW (Nat.le_refl _)⟩;have Dg:=Lib.hid (HK.out.turn TX (fun h=>h));have MG:=Lib.hid (zC.out.turn TX (fun h=>h));have nQ:=Lib.hid (HOW.out.turn TX (fun h=>h));have p0:=MG.out.cell 0 _ rfl;have p1:=MG.out.cell 1 _ rfl;have p2:=MG.out.cell 2 _ rfl;have p3:=MG.out.cell 3 _ rfl;have p4:=MG.out.cell 4 _ rfl;have p5:=MG.out.cell 5 _ rfl;have p6:=MG.out.cell 6 _ rfl;clear hbX TX HK zC HOW
   go_wp2_with fail
   clear p0 p1 p2 p3 p4 p5 p6 o1 o2 o3;refine (K4.out _ _ (HV.out.below Dg.out.below)).mono ?_;rintro e w5 ⟨rfl,hb5⟩;have T5:=Turn.of_below (ext q wr.heap.size 8) 8 hb5;have HK:=Lib.hid (Dg.out.turn T5 (fun h=>h));have zC:=Lib.hid (MG.out.turn T5 (fun h=>h));have HOW:=Lib.hid (nQ.out.turn T5 (fun h=>h));have AL:=HX.out.turn T5 (fun h=>h);have ru:=Lib.hid AL;have x0:=AL.cell 0 _ rfl;clear T5 hb5 Dg MG nQ HX K4 AL;generalize ext (ext q wr.heap.size 8) _ 8=q at *;obtain ⟨X,XY⟩:∃ x,wr.heap.size=x:=⟨_,rfl⟩
   rw [XY] at ru x0 ⊢;clear XY;obtain ⟨F,hF⟩:∃ x,cK P j ⟨kd,xa,xb⟩=x:=⟨_,rfl⟩
   rw [hF] at jW I9 ⊢;have HF:=Lib.hid hF;clear hF;cases F with
   | false =>
    obtain rfl:r=(0,200):=by rw [← jW.out];rfl
    go_wp2
    go_ret2
    exact ⟨rfl,HK.out.below⟩
   | true =>
    replace I9:=Lib.hid (I9.out rfl);rw [if_neg (by simp)] at jW;have hmw:IntKind.i64.wrap ((m:Int)+1 - 1)=(m:Int):=by rw [IntWalk.i64_in _ (by omega)];omega
    have Qc:(m:Int)+1≤cap:=by omega
    by_cases k1:kd=1
    ·
     subst k1;have hcn:1≤m+1:=by omega
     have x1:=ru.out.cell 1 _ rfl
     by_cases hc1:cap=1
     ·
      subst hc1;obtain ⟨hm0,HM0⟩:m=0∧Hid (m=0):=⟨by omega,Lib.hid (by omega)⟩;clear hm0
      go_wp2_with fail
      go_loopw [50] (fun i wl=>i=.int .i64 0∧wl=w5) (fun _ _=>0)
      case atStart=>exact ⟨rfl,rfl⟩
      case round =>
       obtain ⟨rfl,hww⟩:=hrel;obtain rfl:=hww.symm;have ab3:=HM0.out;subst ab3;have hbl:Below w5.heap.size w5 w5:=Below.refl _ _;have hnone:∀ t (ht:t < st.2.reverse.length),t < 0→(jy P (st.2.reverse[t]).1).a≠xa:=fun t _ h=>by omega
       clear x1 x0;have hany:st.2.any (fun f=>decide ((jy P f.1).a=xa))=false:=by
        rw [List.any_eq_false];intro f hf;obtain ⟨t,ht,e⟩:=List.mem_iff_getElem.1 (List.mem_reverse.2 hf);have:=hnone t ht (by rw [List.length_reverse] at ht;have:=HM.out;omega);rw [e] at this
        simpa using this
       have e1:dR P ⟨1,xa,xb⟩ st=0:=by rw [dR,if_pos rfl,hany];rfl
       rw [e1,if_neg (by simp)] at jW;have e2:jV P j ⟨1,xa,xb⟩ st=(st.1,(j,0) :: st.2):=by rw [jV,if_pos rfl]
       rw [e2] at jW I9;clear e1 e2 hany hnone;have TL:=Turn.of_below q 8 hbl;have Dh:=Lib.hid (HK.out.turn TL (fun h=>h));have MH:=Lib.hid (zC.out.turn TL (fun h=>h));have uU:=Lib.hid (HOW.out.turn TL (fun h=>h));clear TL hbl HK zC HOW;obtain ⟨i0,hi,hz0,hz1,hz2⟩:=info_parts AB
       go_wp2_with (at_builtin;refine aM ?_)
       refine bR ?_;refine aR rfl _ _ 166 rfl 0 165 i0 _ 2 16 Tryz.underlying166 hi hz0 hz1 hz2 rfl (.slice (some ⟨g,0,none⟩) (0+1) 1) (0+1) _ rfl (uU.out.1.alloc (.cells #[.int .i64 j,.int .i64 0] 165)) (some ⟨w5.heap.size,0,none⟩) 1 1 [.int .i64 j,.int .i64 0] rfl rfl (fun h=>by cases h) (bA w5 [.int .i64 j,.int .i64 0] 165) (by simp [Value.oneCell']) (by unfold maxLen;omega) (aZ (by omega)) (Nat.zero_le _) ?_;intro v7 w7 k1 k20 _ k4;have QB:aI (fun b=>(Value.slice (some ⟨g,0,none⟩) (0+1) 1).ownBlock=some b) w5 w7:=((aI.refl _ w5).alloc _).grown k20 (fun b hb _=>hb);have T7:=Turn.gN (C:=fun x=>x=4) _ 4 QB (fun b _ hb=>uU.out.2 b hb);have k3:w7.ownsRow 0 165 2 v7 (0+1+1) (vH (st.1,(j,0) :: st.2)):=by rw [pq];exact k1
       have Ja:=Lib.hid (Dh.out.turn T7 (by decide));have HP7:=Lib.hid (MH.out.turn T7 (by decide));have QC:Hid (Own w7 (ext _ w5.heap.size 4) 4 165 2 v7 (((st.1,(j,(0:Int)) :: st.2):lN).2.length+1) (vH (st.1,(j,0) :: st.2))):=Lib.hid ⟨by simp only [List.length_cons];rw [HM.out];exact k3,fun b hb=>by
        rcases k4 with k4 | k4
        ·
         rw [k4] at hb;exact (bX (uU.out.1.lt b hb).2).trans (uU.out.2 b hb)
        ·
         rw [k4] at hb;have e:=Option.some.inj hb;simp at e;exact aW (by omega)⟩
       obtain ⟨JE,xw,rfl⟩:=aB k3;clear k1 k20 k4 QB T7 k3 Dh MH uU;go_wp2;go_roundw
       case rel=>exact ⟨j+1,_,(st.1,(j,0) :: st.2),hlt,by go_num,Ja.out,HP7.out,QC.out,I9.out,jW.out⟩
       case measure=>simp [intOf];omega
     ·
      go_wp2_with fail
      go_loopw [50] (fun i wl=>∃ (k:Nat),k≤m∧i=.int .i64 k∧Below w5.heap.size w5 wl∧∀ t (ht:t < st.2.reverse.length),t < k→(jy P (st.2.reverse[t]).1).a≠xa) (fun i _=>m - (intOf i).toNat)
      case atStart=>exact ⟨0,Nat.zero_le _,rfl,Below.refl _ _,fun t _ h=>by omega⟩
      case round =>
       obtain ⟨k,hk,rfl,hbl,hnone⟩:=hrel
       by_cases hkm:k < m
       ·
        have hkmi:(k:Int) < m:=by omega
        have hks:k < st.2.length:=by have:=HM.out;omega
        have hkr:k < st.2.reverse.length:=by simpa using hks
        have f1:=HOW.out.1.cells (g:=g) rfl _ _ (Zw st hks);have f2:=HOW.out.1.cells (g:=g) rfl _ _ (VB st hks);rw [Addr.add_lit,Nat.zero_add,show (k+1)*2=2+k*2 by omega] at f1;rw [Addr.add_lit,Nat.zero_add,show (k+1)*2+1=2+k*2+1 by omega] at f2;have hfr:=HST.out.frames _ (List.mem_reverse.1 (List.getElem_mem hkr));have jL:Hid ((jy P (st.2.reverse[k]).1).a≠xa→∀ t (ht:t < st.2.reverse.length),t < k+1→(jy P (st.2.reverse[t]).1).a≠xa):=Lib.hid fun h t ht h2=>by
         by_cases e:t=k
         ·
          subst e;exact h
         ·
          exact hnone t ht (by omega)
        have HAN:Hid ((jy P (st.2.reverse[k]).1).a=xa→st.2.any (fun f=>decide ((jy P f.1).a=xa))=true):=Lib.hid fun h=>List.any_eq_true.2 ⟨_,List.mem_reverse.1 (List.getElem_mem hkr),by simpa using h⟩
        obtain ⟨fr,hfr2⟩:∃ x,st.2.reverse[k]=x:=⟨_,rfl⟩
        rw [hfr2] at f1 f2 hfr jL HAN;have hp:fr.1 < P.ops.length:=by omega
        have hoP:jy P fr.1=P.ops[fr.1]:=by unfold jy;rw [List.getElem?_eq_getElem hp];rfl
        obtain ⟨_,_,bo',oo',eb,_,o2,_⟩:=eB.opAt (Gr.out.below HK.out.below) (List.getElem?_eq_getElem hp);cases eb
        rw [← hoP] at o2;obtain ⟨pp,hpp⟩:∃ x,fr.1=x:=⟨_,rfl⟩
        rw [hpp] at f1 hp;have ab4:(pp:Int) < n:=by have:=HN.out;omega
        clear hoP;rw [hpp] at o2 jL HAN hfr;obtain ⟨oa,hoa⟩:∃ x,(jy P pp).a=x:=⟨_,rfl⟩
        rw [hoa] at o2 jL HAN;have f1':=cell_later hbl f1;have f2':=cell_later hbl f2;have hbf:=au wr (.cells #[.int .i64 pp,.int .i64 fr.2] 165);have hF0:=ah _ _ (heap_alloc_new wr (.cells #[.int .i64 pp,.int .i64 fr.2] 165)) 0 _ rfl;have o2':=cell_later hbf (cell_later hbl o2);have x1':=cell_later hbf (cell_later hbl x1);have y6':=cell_later hbf (cell_later hbl (zC.out.cell 6 _ rfl));have Gs:=Lib.hid (cO (n:=1) (hbl.trans (hbf.mono hbl.size)));clear hfr hfr2 hpp hoa hbl hbf f1 f2 o2 hnone hp
        go_wp2_with fail
        refine ax (fun w'=>w'.cell? ⟨w.heap.size,6,none⟩=some (.slice (some ⟨bo,oo,none⟩) n co)∧w'.cell? ⟨wr.heap.size,0,none⟩=some (.int .i64 pp)∧w'.cell? ⟨bo,oo+pp*3+1,none⟩=some (.int .i64 oa)∧w'.cell? ⟨X,1,none⟩=some (.int .i64 xa)) [0,1,2,3,4,5,6,7,8,9] [] (by kernel_rfl) (by kernel_rfl) rfl (fun _ _ hx h=>⟨hx.cell h.1,hx.cell h.2.1,hx.cell h.2.2.1,hx.cell h.2.2.2⟩) ⟨y6',hF0,o2',x1'⟩ ?_;intro Q' hQ';simp only [pk]
        by_cases hEq:oa=xa
        ·
         have ZA:(oa == xa)=true:=by rw [beq_iff_eq];exact hEq
         have e1:dR P ⟨1,xa,xb⟩ st=201:=by rw [dR,if_pos rfl,HAN.out hEq];rfl
         rw [e1,if_pos (by simp)] at jW;have e3:=jW.out;subst e3;clear e1 hEq;refine aA ?_;refine av ?_;go_wp2
         go_ret2
         exact ⟨rfl,HK.out.below.trans (Gs.out.mono HK.out.size)⟩
        ·
         have ZA:(oa == xa)=false:=by rw [beq_eq_false_iff_ne];exact hEq
         have ou:=Lib.hid (jL.out hEq);clear hEq;refine aA ?_;refine av ?_;go_wp2;go_roundw
         case rel=>exact ⟨k+1,hkm,by go_num,Gs.out,ou.out⟩
         case measure=>simp [intOf];omega
       ·
        obtain rfl:m=k:=by omega
        clear hkm hk x1 x0;have hany:st.2.any (fun f=>decide ((jy P f.1).a=xa))=false:=by
         rw [List.any_eq_false];intro f hf;obtain ⟨t,ht,e⟩:=List.mem_iff_getElem.1 (List.mem_reverse.2 hf);have:=hnone t ht (by rw [List.length_reverse] at ht;have:=HM.out;omega);rw [e] at this
         simpa using this
        have e1:dR P ⟨1,xa,xb⟩ st=0:=by rw [dR,if_pos rfl,hany];rfl
        rw [e1,if_neg (by simp)] at jW;have e2:jV P j ⟨1,xa,xb⟩ st=(st.1,(j,0) :: st.2):=by rw [jV,if_pos rfl]
        rw [e2] at jW I9;clear e1 e2 hany hnone;have TL:=Turn.of_below q 8 hbl;have Dh:=Lib.hid (HK.out.turn TL (fun h=>h));have MH:=Lib.hid (zC.out.turn TL (fun h=>h));have uU:=Lib.hid (HOW.out.turn TL (fun h=>h));clear TL hbl HK zC HOW;obtain ⟨i0,hi,hz0,hz1,hz2⟩:=info_parts AB
        go_wp2_with (at_builtin;refine aM ?_)
        refine bR ?_;refine aR rfl _ _ 166 rfl 0 165 i0 _ 2 16 Tryz.underlying166 hi hz0 hz1 hz2 rfl (.slice (some ⟨g,0,none⟩) (m+1) cap) (m+1) _ rfl (uU.out.1.alloc (.cells #[.int .i64 j,.int .i64 0] 165)) (some ⟨wr.heap.size,0,none⟩) 1 1 [.int .i64 j,.int .i64 0] rfl rfl (fun h=>by cases h) (bA wr [.int .i64 j,.int .i64 0] 165) (by simp [Value.oneCell']) (by unfold maxLen;omega) (aZ (by omega)) (Nat.zero_le _) ?_;intro v7 w7 k1 k20 _ k4;have QB:aI (fun b=>(Value.slice (some ⟨g,0,none⟩) (m+1) cap).ownBlock=some b) wr w7:=((aI.refl _ wr).alloc _).grown k20 (fun b hb _=>hb);have T7:=Turn.gN (C:=fun x=>x=4) _ 4 QB (fun b _ hb=>uU.out.2 b hb);have k3:w7.ownsRow 0 165 2 v7 (m+1+1) (vH (st.1,(j,0) :: st.2)):=by rw [pq];exact k1
        have Ja:=Lib.hid (Dh.out.turn T7 (by decide));have HP7:=Lib.hid (MH.out.turn T7 (by decide));have QC:Hid (Own w7 (ext _ wr.heap.size 4) 4 165 2 v7 (((st.1,(j,(0:Int)) :: st.2):lN).2.length+1) (vH (st.1,(j,0) :: st.2))):=Lib.hid ⟨by simp only [List.length_cons];rw [HM.out];exact k3,fun b hb=>by
         rcases k4 with k4 | k4
         ·
          rw [k4] at hb;exact (bX (uU.out.1.lt b hb).2).trans (uU.out.2 b hb)
         ·
          rw [k4] at hb;have e:=Option.some.inj hb;simp at e;exact aW (by omega)⟩
        obtain ⟨JE,xw,rfl⟩:=aB k3;clear k1 k20 k4 QB T7 k3 Dh MH uU;go_wp2;go_roundw
        case rel=>exact ⟨j+1,_,(st.1,(j,0) :: st.2),hlt,by go_num,Ja.out,HP7.out,QC.out,I9.out,jW.out⟩
        case measure=>simp [intOf];omega
    by_cases k2:kd=2
    ·
     subst k2;have x1:=ru.out.cell 1 _ rfl;have x2:=ru.out.cell 2 _ rfl;have y6:=zC.out.cell 6 _ rfl;obtain ⟨b,fr⟩:=st;cases fr with
     | nil =>
      have e1:dR P ⟨2,xa,xb⟩ (b,[])=201:=by rw [dR,if_neg (show ¬ (2:Int)=1 by decide),if_pos rfl]
      rw [e1,if_pos (by simp)] at jW;have e3:=jW.out;subst e3;have hm0:m=0:=hm.symm;have hmb:(((m:Int)+1) == 1)=true:=by rw [beq_iff_eq];omega
      have qK:=Lib.hid (cO (n:=1) HK.out.below);clear e1 hm hm0 k1
      go_wp2_with fail
      refine ax (fun _=>True) [0,1,2,3,4,5,6,7,8,9,10,11,12,13,14,15,16,17,18,19,20,21,22,23,24,25,26] [] (by kernel_rfl) (by kernel_rfl) rfl (fun _ _ _ _=>trivial) trivial ?_;intro Q' hQ';simp only [pk];refine aA ?_;refine av ?_;go_wp2
      go_ret2
      exact ⟨rfl,qK.out⟩
     | cons f r' =>
      obtain ⟨pp,s⟩:=f;obtain ⟨M1,hM1⟩:∃ x,r'.length=x:=⟨_,rfl⟩
      have hmM:m=M1+1:=by rw [← hm,← hM1];rfl
      have hfr:=HST.out.frames _ List.mem_cons_self;dsimp only at hfr;have t0:=HOW.out.1.cells (g:=g) rfl _ _ (sN (b,(pp,s) :: r')).1;have t1:=HOW.out.1.cells (g:=g) rfl _ _ (sN (b,(pp,s) :: r')).2;rw [Addr.add_lit,Nat.zero_add,hm] at t0 t1;dsimp only [aaR,iG] at t0 t1;have hp:pp < P.ops.length:=by omega
      have hoP:jy P pp=P.ops[pp]:=by unfold jy;rw [List.getElem?_eq_getElem hp];rfl
      obtain ⟨-,-,bo',oo',eb,-,o2,o3⟩:=eB.opAt (Gr.out.below HK.out.below) (List.getElem?_eq_getElem hp);cases eb
      rw [← hoP] at o2 o3;have ab4:(pp:Int) < n:=by have:=HN.out;omega
      obtain ⟨oa,hoa⟩:∃ x,(jy P pp).a=x:=⟨_,rfl⟩
      obtain ⟨ob,XZ⟩:∃ x,(jy P pp).b=x:=⟨_,rfl⟩
      rw [hoa] at o2;rw [XZ] at o3 hfr;have e1:dR P ⟨2,xa,xb⟩ (b,(pp,s) :: r')=if oa≠xa∨xb≠pp+1 then 201 else 0:=by rw [← hoa,dR,if_neg (show ¬ (2:Int)=1 by decide),if_pos rfl]
      rw [e1] at jW;have e2:jV P j ⟨2,xa,xb⟩ (b,(pp,s) :: r')=JD (zA ob (s+1)) (b,r'):=by rw [← XZ,jV,if_neg (show ¬ (2:Int)=1 by decide),if_pos rfl]
      rw [e2] at jW I9;have hmb:(((m:Int)+1) == 1)=false:=by rw [beq_eq_false_iff_ne];omega
      have hpw:IntKind.i64.wrap ((pp:Int)+1)=(pp:Int)+1:=IntWalk.i64_in _ (by omega);have qK:=Lib.hid (cO (n:=1) HK.out.below);have OY:=Lib.hid hfr;have rz:=Lib.hid hmM;clear e1 e2 hoP hoa XZ hp hfr k1 hm hmM
      go_wp2_with fail
      refine ax (fun w'=>w'.cell? ⟨w.heap.size,6,none⟩=some (.slice (some ⟨bo,oo,none⟩) n co)∧w'.cell? ⟨g,m*2,none⟩=some (.int .i64 pp)∧w'.cell? ⟨bo,oo+pp*3+1,none⟩=some (.int .i64 oa)∧w'.cell? ⟨X,1,none⟩=some (.int .i64 xa)∧w'.cell? ⟨X,2,none⟩=some (.int .i64 xb)) [0,1,2,3,4,5,6,7,8,9,10,11,12,13,14,15,16,17,18,19,20,21,22,23,24,25,26] [] (by kernel_rfl) (by kernel_rfl) rfl (fun _ _ hx h=>⟨hx.cell h.1,hx.cell h.2.1,hx.cell h.2.2.1,hx.cell h.2.2.2.1,hx.cell h.2.2.2.2⟩) ⟨y6,t0,o2,x1,x2⟩ ?_;intro Q' hQ';simp only [pk]
      by_cases hA:oa=xa
      ·
       have hAb:(oa != xa)=false:=by simp [hA]
       by_cases K5:xb=(pp:Int)+1
       ·
        have hBb:(xb != (pp:Int)+1)=false:=by simp [K5]
        have e9:(if oa≠xa∨xb≠pp+1 then (201:Int) else 0)=0:=if_neg (by intro h;rcases h with h | h;exact h hA;exact h K5);rw [e9,if_neg (by simp)] at jW;clear e9;have HA':=Lib.hid hA;have HBK:=Lib.hid K5;clear hA K5;refine aA ?_;refine av ?_;have hsw:IntKind.i64.wrap (s+1)=s+1:=IntWalk.i64_in _ (by have:=OY.out;omega)
        go_wp2_with fail
        refine ax (fun w'=>w'.cell? ⟨w.heap.size,6,none⟩=some (.slice (some ⟨bo,oo,none⟩) n co)∧w'.cell? ⟨g,m*2,none⟩=some (.int .i64 pp)∧w'.cell? ⟨bo,oo+pp*3+2,none⟩=some (.int .i64 ob)) [0,1,2,3,4,5,6,7,8,9] [] (by kernel_rfl) (by kernel_rfl) rfl (fun _ _ hx h=>⟨hx.cell h.1,hx.cell h.2.1,hx.cell h.2.2⟩) ⟨y6,t0,o3⟩ ?_;intro Q2 lq;simp only [pk];refine aA ?_;refine av ?_;have XZ:1≤ob∧0≤s:=by have:=OY.out;omega
        have hq:=Zx XZ.1;have aaS:=Lib.hid (HST.out.pop);have zD:Hid (Own w5 q 4 165 2 (.slice (some ⟨g,0,none⟩) m cap) m (vH (b,r'))):=Lib.hid ⟨by
         have h1:=yE (m:=m) HOW.out.1 (by omega) (by omega);have h2:=VA b (pp,s) r';rw [hM1,← rz.out] at h2;rw [h2] at h1;exact h1,HOW.out.2⟩
        have ab5:IntKind.i64.wrap ((m:Int) - 1)=(M1:Int):=by rw [IntWalk.i64_in _ (by omega)];have:=rz.out;omega
        have ab6:(M1:Int) < m:=by have:=rz.out;omega
        have ab7:(m:Int)≤cap:=by omega
        have adE:m≤cap:=by omega
        clear HOW t0 t1 o2 o3 x1 x2 x0 y6;obtain ⟨Q9,X0⟩:∃ x,131072 / ob=x:=⟨_,rfl⟩
        rw [X0] at hq
        by_cases hle:s+1≤Q9
        ·
         have hmul:=Zy XZ.1 (show 0≤s+1 by omega) (by rw [X0];exact hle);have VD:zA ob (s+1)=1+ob*(s+1):=if_pos (by rw [X0];exact hle);obtain ⟨MM,X3⟩:∃ x,ob*(s+1)=x:=⟨_,rfl⟩
         rw [X3] at hmul VD;have hw1:wrap64 (ob*(s+1))=MM:=by rw [X3];exact IntWalk.wrap64_in _ (by omega)
         have hw2:wrap64 (1+MM)=1+MM:=IntWalk.wrap64_in _ (by omega);have hle1:s+1≤wrap64 (Int.tdiv 131072 ob):=by rw [hq];exact hle
         have hle2:s+1≤131072 / ob:=by rw [X0];exact hle
         clear X3 X0 hq hle;have hs2:=vF aaS.out;have QD:IntKind.i64.wrap (iG (b,r')+(1+MM))=iG (b,r')+(1+MM):=IntWalk.i64_in _ (by omega);have t2:=zD.out.1.cells (g:=g) rfl _ _ (sN (b,r')).2;rw [Addr.add_lit,Nat.zero_add] at t2;dsimp only at t2;rw [hM1] at t2;have f2:=nC zD.out (M1*2+1);have s1:=(zD.out.1.stored (M1*2+1) (.int .i64 (fH (iG (b,r')+(1+MM))))).1;have es:=zS (b,r') (fH (iG (b,r')+(1+MM)));dsimp only at es;rw [hM1] at es;rw [es] at s1;have T9:Turn q q (fun x=>x=4) w5 ((w5.setCell ⟨g,M1*2+1,none⟩ (.int .i64 (fH (iG (b,r')+(1+MM))))).drewN 2):=⟨((aI.refl (fun k=>q k=4) w5).setCell (p:=⟨g,M1*2+1,none⟩) (fun _=>zD.out.2 g rfl) _).drewN 2,fun _ _=>rfl⟩;have Dh:=Lib.hid (HK.out.turn T9 (by decide));have MH:=Lib.hid (zC.out.turn T9 (by decide));have uU:Hid (Own ((w5.setCell ⟨g,M1*2+1,none⟩ (.int .i64 (fH (iG (b,r')+(1+MM))))).drewN 2) q 4 165 2 (.slice (some ⟨g,0,none⟩) m cap) m (vH (rq (fH (iG (b,r')+(1+MM))) (b,r')))):=Lib.hid ⟨s1,zD.out.2⟩;have Di:Hid (JD (zA ob (s+1)) (b,r')=rq (fH (iG (b,r')+(1+MM))) (b,r')):=Lib.hid (by rw [VD];rfl);have wK:Hid ((rq (fH (iG (b,r')+(1+MM))) (b,r')).2.length+1=m):=Lib.hid (by rw [vG];show r'.length+1=m;rw [hM1];exact rz.out.symm);clear s1 es T9 HK zC
         go_wp2_with fail
         refine (om _ _).mono ?_;rintro e w9 ⟨rfl,rfl⟩;clear zD;go_wp2;go_roundw
         case rel=>exact ⟨j+1,q,rq (fH (iG (b,r')+(1+MM))) (b,r'),hlt,by go_num,Dh.out,MH.out,by rw [wK.out];exact uU.out,by rw [← Di.out];exact I9.out,by rw [← Di.out];exact jW.out⟩
         case measure=>simp [intOf];omega
        ·
         have VD:zA ob (s+1)=131073:=if_neg (by rw [X0];exact hle);have hle1:¬ s+1≤wrap64 (Int.tdiv 131072 ob):=by rw [hq];exact hle
         have hle2:¬ s+1≤131072 / ob:=by rw [X0];exact hle
         clear X0 hq hle;have hs2:=vF aaS.out;have QD:IntKind.i64.wrap (iG (b,r')+(131073:Int))=iG (b,r')+(131073:Int):=IntWalk.i64_in _ (by omega);have t2:=zD.out.1.cells (g:=g) rfl _ _ (sN (b,r')).2;rw [Addr.add_lit,Nat.zero_add] at t2;dsimp only at t2;rw [hM1] at t2;have f2:=nC zD.out (M1*2+1);have s1:=(zD.out.1.stored (M1*2+1) (.int .i64 (fH (iG (b,r')+(131073:Int))))).1;have es:=zS (b,r') (fH (iG (b,r')+(131073:Int)));dsimp only at es;rw [hM1] at es;rw [es] at s1;have T9:Turn q q (fun x=>x=4) w5 ((w5.setCell ⟨g,M1*2+1,none⟩ (.int .i64 (fH (iG (b,r')+(131073:Int))))).drewN 2):=⟨((aI.refl (fun k=>q k=4) w5).setCell (p:=⟨g,M1*2+1,none⟩) (fun _=>zD.out.2 g rfl) _).drewN 2,fun _ _=>rfl⟩;have Dh:=Lib.hid (HK.out.turn T9 (by decide));have MH:=Lib.hid (zC.out.turn T9 (by decide));have uU:Hid (Own ((w5.setCell ⟨g,M1*2+1,none⟩ (.int .i64 (fH (iG (b,r')+(131073:Int))))).drewN 2) q 4 165 2 (.slice (some ⟨g,0,none⟩) m cap) m (vH (rq (fH (iG (b,r')+(131073:Int))) (b,r')))):=Lib.hid ⟨s1,zD.out.2⟩;have Di:Hid (JD (zA ob (s+1)) (b,r')=rq (fH (iG (b,r')+(131073:Int))) (b,r')):=Lib.hid (by rw [VD];rfl);have wK:Hid ((rq (fH (iG (b,r')+(131073:Int))) (b,r')).2.length+1=m):=Lib.hid (by rw [vG];show r'.length+1=m;rw [hM1];exact rz.out.symm);clear s1 es T9 HK zC
         go_wp2_with fail
         refine (om _ _).mono ?_;rintro e w9 ⟨rfl,rfl⟩;clear zD;go_wp2;go_roundw
         case rel=>exact ⟨j+1,q,rq (fH (iG (b,r')+(131073:Int))) (b,r'),hlt,by go_num,Dh.out,MH.out,by rw [wK.out];exact uU.out,by rw [← Di.out];exact I9.out,by rw [← Di.out];exact jW.out⟩
         case measure=>simp [intOf];omega
       ·
        have hBb:(xb != (pp:Int)+1)=true:=by simpa using K5
        have e9:(if oa≠xa∨xb≠pp+1 then (201:Int) else 0)=201:=if_pos (.inr K5);rw [e9,if_pos (by simp)] at jW;clear e9;have e3:=jW.out;subst e3;clear hA K5;refine aA ?_;refine av ?_;go_wp2
        go_ret2
        exact ⟨rfl,qK.out⟩
      ·
       have hAb:(oa != xa)=true:=by simpa using hA
       have e9:(if oa≠xa∨xb≠pp+1 then (201:Int) else 0)=201:=if_pos (.inl hA);rw [e9,if_pos (by simp)] at jW;clear e9;have e3:=jW.out;subst e3;clear hA;refine aA ?_;refine av ?_;go_wp2
       go_ret2
       exact ⟨rfl,qK.out⟩
    have k1i:(kd == 1)=false:=by rw [beq_eq_false_iff_ne];exact k1
    have k2i:(kd == 2)=false:=by rw [beq_eq_false_iff_ne];exact k2
    have e2:jV P j ⟨kd,xa,xb⟩ st=rq (fH (iG st+1)) st:=by rw [jV,if_neg k1,if_neg k2];rfl
    rw [e2] at jW I9
    by_cases k0:kd=0
    ·
     subst k0
     by_cases hm0:m=0
     ·
      have hfr:st.2=[]:=List.eq_nil_of_length_eq_zero (by omega);have e1:dR P ⟨0,xa,xb⟩ st=0:=by rw [dR,if_neg k1,if_neg k2,if_pos rfl,if_pos hfr]
      rw [e1,if_neg (by simp)] at jW;have ab8:¬ (1:Int) < (m:Int)+1:=by omega
      clear e1 e2 hm0 hfr;have QD:IntKind.i64.wrap (iG st+1)=iG st+1:=IntWalk.i64_in _ (by have:=vF HST.out;omega);have t1:=HOW.out.1.cells (g:=g) rfl _ _ (sN st).2;rw [Addr.add_lit,Nat.zero_add,hm] at t1;have f1:=nC HOW.out (m*2+1);have s1:=(HOW.out.1.stored (m*2+1) (.int .i64 (fH (iG st+1)))).1;rw [← hm,zS] at s1;rw [hm] at s1;have T9:Turn q q (fun x=>x=4) w5 (w5.setCell ⟨g,m*2+1,none⟩ (.int .i64 (fH (iG st+1)))):=⟨(aI.refl (fun k=>q k=4) w5).setCell (p:=⟨g,m*2+1,none⟩) (fun _=>HOW.out.2 g rfl) _,fun _ _=>rfl⟩;have Dh:=Lib.hid (HK.out.turn T9 (by decide));have MH:=Lib.hid (zC.out.turn T9 (by decide));have uU:Hid (Own _ q 4 165 2 (.slice (some ⟨g,0,none⟩) (m+1) cap) (m+1) (vH (rq (fH (iG st+1)) st))):=Lib.hid ⟨s1,HOW.out.2⟩;clear s1 T9 HK zC
      go_wp2_with fail
      refine (om _ _).mono ?_;rintro e w9 ⟨rfl,rfl⟩;clear HOW;go_wp2;go_roundw
      case rel=>exact ⟨j+1,q,rq (fH (iG st+1)) st,hlt,by go_num,Dh.out,MH.out,by rw [vG,HM.out];exact uU.out,I9.out,jW.out⟩
      case measure=>simp [intOf];omega
     ·
      have hfr:¬ st.2=[]:=fun h=>by rw [h] at hm;exact hm0 hm.symm
      have e1:dR P ⟨0,xa,xb⟩ st=201:=by rw [dR,if_neg k1,if_neg k2,if_pos rfl,if_neg hfr]
      rw [e1,if_pos (by simp)] at jW;have e3:=jW.out;subst e3;have ab8:(1:Int) < (m:Int)+1:=by omega
      clear e1 e2 hm0 hfr;go_wp2
      go_ret2
      exact ⟨rfl,HK.out.below⟩
    ·
     have k0i:(kd == 0)=false:=by rw [beq_eq_false_iff_ne];exact k0
     have e1:dR P ⟨kd,xa,xb⟩ st=0:=by rw [dR,if_neg k1,if_neg k2,if_neg k0]
     rw [e1,if_neg (by simp)] at jW;clear e1 e2;have QD:IntKind.i64.wrap (iG st+1)=iG st+1:=IntWalk.i64_in _ (by have:=vF HST.out;omega);have t1:=HOW.out.1.cells (g:=g) rfl _ _ (sN st).2;rw [Addr.add_lit,Nat.zero_add,hm] at t1;have f1:=nC HOW.out (m*2+1);have s1:=(HOW.out.1.stored (m*2+1) (.int .i64 (fH (iG st+1)))).1;rw [← hm,zS] at s1;rw [hm] at s1;have T9:Turn q q (fun x=>x=4) w5 (w5.setCell ⟨g,m*2+1,none⟩ (.int .i64 (fH (iG st+1)))):=⟨(aI.refl (fun k=>q k=4) w5).setCell (p:=⟨g,m*2+1,none⟩) (fun _=>HOW.out.2 g rfl) _,fun _ _=>rfl⟩;have Dh:=Lib.hid (HK.out.turn T9 (by decide));have MH:=Lib.hid (zC.out.turn T9 (by decide));have uU:Hid (Own _ q 4 165 2 (.slice (some ⟨g,0,none⟩) (m+1) cap) (m+1) (vH (rq (fH (iG st+1)) st))):=Lib.hid ⟨s1,HOW.out.2⟩;clear s1 T9 HK zC
     go_wp2_with fail
     refine (om _ _).mono ?_;rintro e w9 ⟨rfl,rfl⟩;clear HOW;go_wp2;go_roundw
     case rel=>exact ⟨j+1,q,rq (fH (iG st+1)) st,hlt,by go_num,Dh.out,MH.out,by rw [vG,HM.out];exact uU.out,I9.out,jW.out⟩
     case measure=>simp [intOf];omega
  ·
   obtain rfl:n=j:=by omega
   clear hlt hj;have hfin:=HE.out;rw [List.drop_of_length_le (by have:=HN.out;omega),jI] at hfin;have y6:=zC.out.cell 6 _ rfl;have hln:P.ops.length=n:=HN.out;have t0:=HOW.out.1.cells (g:=g) rfl 1 (.int .i64 st.1) rfl;rw [Addr.add_lit] at t0;unfold Qy at hfin;rw [hln] at hfin;have Qc:(1:Int)≤(m:Int)+1:=by omega
   have hci:(m:Int)+1≤cap:=by omega
   clear HE hln
   by_cases hn0:n=0
   ·
    subst hn0;rw [if_pos (.inl rfl)] at hfin;subst hfin;go_wp2
    go_ret2
    exact ⟨rfl,HK.out.below⟩
   ·
    have hl:n - 1 < P.ops.length:=by have:=HN.out;omega
    obtain ⟨Vx,_,bo,oo,rfl,o1,o2,o3⟩:=eB.opAt (Gr.out.below HK.out.below) (List.getElem?_eq_getElem hl);have ho:jy P (n - 1)=P.ops[n - 1]:=by unfold jy;rw [List.getElem?_eq_getElem hl];rfl
    rw [ho] at hfin;obtain ⟨x,hx⟩:∃ x,P.ops[n - 1]=x:=⟨_,rfl⟩
    rw [hx] at hfin o1;clear ho hx o2 o3;obtain ⟨N1,hN1⟩:∃ N1,n - 1=N1:=⟨_,rfl⟩
    have hnw:IntKind.i64.wrap ((n:Int) - 1)=(N1:Int):=by rw [IntWalk.i64_in _ (by omega)];omega
    rw [hN1] at o1;have hni:(N1:Int) < n:=by omega
    have MC:(n:Int)≤co:=by omega
    have adF:((n:Int) == 0)=false:=by rw [beq_eq_false_iff_ne];omega
    have HN0:=Lib.hid hn0;clear hl hN1 hn0
    by_cases kx:x.kind=0
    ·
     rw [kx] at o1;rw [if_neg (by intro h;rcases h with h | h;exact HN0.out h;exact h kx)] at hfin
     by_cases hb:131072 < st.1
     ·
      rw [if_pos hb] at hfin;subst hfin;clear kx;go_wp2
      go_ret2
      exact ⟨rfl,HK.out.below⟩
     ·
      rw [if_neg hb] at hfin;subst hfin;clear kx;go_wp2
      go_ret2
      exact ⟨rfl,HK.out.below⟩
    ·
     rw [if_pos (.inr kx)] at hfin;subst hfin;have kxi:(x.kind != 0)=true:=by simpa using kx
     clear kx;go_wp2
     go_ret2
     exact ⟨rfl,HK.out.below⟩
def dD (n m:Int):Bool:=decide (0≤n) && decide (n≤m)
def gZ:List eu→Int
 | []=>0
 | p :: r=>if aF p.tag p.params then gZ r else zw p.tag
def rA (mem:Int)(l:dN):Int:=if dD l.base mem && dD l.size (mem - l.base) then (if l.size < l.start.length then 88 else 0) else 190
def iD (mem:Int):List dN→Int
 | []=>0
 | l :: r=>if rA mem l=0 then iD mem r else rA mem l
def bW (P:ay):Int × Int :=
 if dD P.memory 1024 && dD P.counters 17 && dD P.ins 16 && dD P.outs 16 then
  (if 32 < P.parts.length∨96 < P.lines.length∨131072 < P.ops.length then (0,81)
  else if gZ P.parts≠0 then (0,gZ P.parts) else if iD P.memory P.lines≠0 then (0,iD P.memory P.lines) else jI P P.ops 0 (0,[]))
 else (0,1)
theorem within_iff {n m:Int}:dD n m=true↔0≤n∧n≤m:=by simp [dD]
theorem yF {l:List eu}{j:Nat}(h:j < l.length):gZ (l.drop j)=if aF l[j].tag l[j].params then gZ (l.drop (j+1)) else zw l[j].tag:=by
 rw [List.drop_eq_getElem_cons h,gZ]
theorem yG {m:Int}{l:List dN}{j:Nat}(h:j < l.length):iD m (l.drop j)=if rA m l[j]=0 then iD m (l.drop (j+1)) else rA m l[j]:=by
 rw [List.drop_eq_getElem_cons h,iD]
theorem EA (t:Int):zw t≠0:=by rcases Mx t with h | h <;> rw [h] <;> decide
theorem JF (w:World)(v:Value)(P:ay)(hv:bO w v P)(hps:∀ p∈P.parts,p.params.length≤17600000000000):Calls Tryz.prog 50 #[v] w (K3 (bW P) w):=by
 obtain ⟨vp,vl,vo,rfl,rp,rl,ro⟩:=hv;obtain ⟨ap,cp,rfl⟩:=rp.slice;obtain ⟨al,cl,rfl⟩:=rl.slice;obtain ⟨ao,co,rfl⟩:=ro.slice;have HV:Hid (bO w (.agg #[.int .i64 P.memory,.int .i64 P.counters,.int .i64 P.ins,.int .i64 P.outs,.slice ap P.parts.length cp,.slice al P.lines.length cl,.slice ao P.ops.length co]) P):=Lib.hid ⟨_,_,_,rfl,rp,rl,ro⟩;have Jb:=Lib.hid rp;have mV:=Lib.hid rl;have JG:=Lib.hid hps;obtain ⟨r,hr⟩:∃ r,bW P=r:=⟨_,rfl⟩
 rw [hr];unfold bW at hr;obtain ⟨F1,h1⟩:∃ x,dD P.memory 1024=x:=⟨_,rfl⟩
 obtain ⟨F2,h2⟩:∃ x,dD P.counters 17=x:=⟨_,rfl⟩
 obtain ⟨F3,h3⟩:∃ x,dD P.ins 16=x:=⟨_,rfl⟩
 obtain ⟨F4,h4⟩:∃ x,dD P.outs 16=x:=⟨_,rfl⟩
 rw [h1,h2,h3,h4] at hr;have HF1:=Lib.hid h1;have HF2:=Lib.hid h2;have HF3:=Lib.hid h3;have HF4:=Lib.hid h4;have HR:=Lib.hid hr;have hb1:=au w (.cells #[.int .i64 P.memory,.int .i64 P.counters,.int .i64 P.ins,.int .i64 P.outs,.slice ap P.parts.length cp,.slice al P.lines.length cl,.slice ao P.ops.length co] 26);have hX:=heap_alloc_new w (.cells #[.int .i64 P.memory,.int .i64 P.counters,.int .i64 P.ins,.int .i64 P.outs,.slice ap P.parts.length cp,.slice al P.lines.length cl,.slice ao P.ops.length co] 26);obtain ⟨W,hW⟩:∃ x,w.alloc (.cells #[.int .i64 P.memory,.int .i64 P.counters,.int .i64 P.ins,.int .i64 P.outs,.slice ap P.parts.length cp,.slice al P.lines.length cl,.slice ao P.ops.length co] 26)=x:=⟨_,rfl⟩
 rw [hW] at hb1 hX;have p0:=ah _ _ hX 0 _ rfl;have p1:=ah _ _ hX 1 _ rfl;have p2:=ah _ _ hX 2 _ rfl;have p3:=ah _ _ hX 3 _ rfl;have p4:=ah _ _ hX 4 _ rfl;have p5:=ah _ _ hX 5 _ rfl;have p6:=ah _ _ hX 6 _ rfl;have HB:=Lib.hid hb1;have HX:=Lib.hid hX;clear rp rl ro hr hps h1 h2 h3 h4 hb1 hX
 go_enter Tryz.func50,Tryz.ntmps50
 go_wp2_with fail
 refine (dV _ _ _).mono ?_;rintro e w5 ⟨rfl,rfl⟩;rw [show (decide (0≤P.memory) && decide (P.memory≤1024))=F1 from HF1.out];cases F1 with
 | false =>
  have e1:r=(0,1):=by rw [← HR.out];simp
  subst e1;go_wp2
  go_ret2
  exact ⟨rfl,HB.out⟩
 | true =>
  go_wp2_with fail
  refine (dV _ _ _).mono ?_;rintro e w5 ⟨rfl,rfl⟩;rw [show (decide (0≤P.counters) && decide (P.counters≤17))=F2 from HF2.out];cases F2 with
  | false =>
   have e1:r=(0,1):=by rw [← HR.out];simp
   subst e1;go_wp2
   go_ret2
   exact ⟨rfl,HB.out⟩
  | true =>
   go_wp2_with fail
   refine (dV _ _ _).mono ?_;rintro e w5 ⟨rfl,rfl⟩;rw [show (decide (0≤P.ins) && decide (P.ins≤16))=F3 from HF3.out];cases F3 with
   | false =>
    have e1:r=(0,1):=by rw [← HR.out];simp
    subst e1;go_wp2
    go_ret2
    exact ⟨rfl,HB.out⟩
   | true =>
    go_wp2_with fail
    refine (dV _ _ _).mono ?_;rintro e w5 ⟨rfl,rfl⟩;rw [show (decide (0≤P.outs) && decide (P.outs≤16))=F4 from HF4.out];cases F4 with
    | false =>
     have e1:r=(0,1):=by rw [← HR.out];simp
     subst e1;go_wp2
     go_ret2
     exact ⟨rfl,HB.out⟩
    | true =>
     simp only [Bool.and_self,if_true] at HR;have hs1:=within_iff.1 HF1.out;have hs2:=within_iff.1 HF2.out;have hs3:=within_iff.1 HF3.out;have hs4:=within_iff.1 HF4.out
     by_cases QE:32 < P.parts.length∨96 < P.lines.length∨131072 < P.ops.length
     ·
      rw [if_pos QE] at HR;have e1:=HR.out;subst e1
      by_cases m1:32 < P.parts.length
      ·
       have m1i:(32:Int) < P.parts.length:=by omega
       go_wp2
       go_ret2
       exact ⟨rfl,HB.out⟩
      ·
       have m1i:¬ (32:Int) < P.parts.length:=by omega
       by_cases m2:96 < P.lines.length
       ·
        have m2i:(96:Int) < P.lines.length:=by omega
        go_wp2
        go_ret2
        exact ⟨rfl,HB.out⟩
       ·
        have m2i:¬ (96:Int) < P.lines.length:=by omega
        have m3i:(131072:Int) < P.ops.length:=by omega
        go_wp2
        go_ret2
        exact ⟨rfl,HB.out⟩
     ·
      rw [if_neg QE] at HR;have m1i:¬ (32:Int) < P.parts.length:=by omega
      have m2i:¬ (96:Int) < P.lines.length:=by omega
      have m3i:¬ (131072:Int) < P.ops.length:=by omega
      have hz:tT P:=⟨by omega,by omega,by omega,by omega,by omega,by omega⟩;have HZ:=Lib.hid hz;clear QE hz
      go_wp2_with fail
      have hW0:=HB.out.size;have dP:=Lib.hid (Below.refl W.heap.size W);obtain ⟨PE,hPE⟩:∃ x,gZ P.parts=x:=⟨_,rfl⟩
      obtain ⟨LE,hLE⟩:∃ x,iD P.memory P.lines=x:=⟨_,rfl⟩
      rw [hPE,hLE] at HR;have MI:Hid (gZ (P.parts.drop 0)=PE):=Lib.hid hPE;have wK:Hid (iD P.memory (P.lines.drop 0)=LE):=Lib.hid hLE;clear hPE hLE hW p0 p1 p2 p3 p4 p5 p6 HF1 HF2 HF3 HF4
      go_loopw [53] (fun i wl=>∃ (j:Nat),j≤P.parts.length∧i=.int .i64 j∧Below W.heap.size W wl∧gZ (P.parts.drop j)=PE) (fun i _=>P.parts.length - (intOf i).toNat)
      case atStart=>exact ⟨0,Nat.zero_le _,rfl,dP.out,MI.out⟩
      case round =>
       clear dP MI;obtain ⟨j,hj,rfl,hb,hE⟩:=hrel;have dP:=Lib.hid hb;have HE:=Lib.hid hE;clear hb hE;have fU:=Lib.hid (HB.out.trans (dP.out.mono hW0))
       by_cases hlt:j < P.parts.length
       ·
        have dG:(j:Int) < P.parts.length:=by omega
        have AJ:=HE.out;rw [yF hlt] at AJ;obtain ⟨b0,off,rfl,hcap,hb0,hrec⟩:=Jb.out.at (by omega);obtain ⟨cs,hcs,AO,hcl⟩:=hrec j hlt;obtain ⟨y,rfl,hst⟩:=AO;have c0:=cell_later fU.out (hcl 0 (by omega));have c1:=cell_later fU.out (hcl 1 (by omega));simp [iU] at c0 c1;have iK:(P.parts.length:Int)≤cp:=by omega
        obtain ⟨sa,sc,hxs⟩:=Ints.slice hst;subst hxs;have HST:=Lib.hid hst;have hpl:=JG.out _ (List.getElem_mem hlt);clear hcl hcs hrec hst HE;generalize P.parts[j]=a at *;have hbX:=au wr (.cells #[.int .u8 a.tag,.slice sa a.params.length sc] 50);have hY:=heap_alloc_new wr (.cells #[.int .u8 a.tag,.slice sa a.params.length sc] 50);have x0:=ah _ _ hY 0 _ rfl;have x1:=ah _ _ hY 1 _ rfl;have HB2:=Lib.hid (dP.out.trans (hbX.mono dP.out.size));have HB3:=Lib.hid (fU.out.trans (hbX.mono fU.out.size));clear hbX hY dP fU
        go_wp2_with fail
        clear c0 c1
        by_cases hg:aF a.tag a.params
        ·
         rw [if_pos hg] at AJ;have HE:=Lib.hid AJ;clear AJ;refine (XH _ a.tag sa _ sc a.params hg hpl (HST.out.below HB3.out)).mono ?_;rintro e w6 ⟨vti,vto,rfl,q1,q2,hb6⟩;have Dj:=Lib.hid (HB2.out.trans (hb6.mono HB2.out.size));clear q1 q2 hb6 x0 x1 HST;go_wp2;go_roundw
         case rel=>exact ⟨j+1,hlt,by go_num,Dj.out,HE.out⟩
         case measure=>simp [intOf];omega
        ·
         rw [if_neg hg] at AJ;have hne:=EA a.tag;have hof:=aaE _ a.tag sa _ sc a.params hg hpl (HST.out.below HB3.out);obtain ⟨er,her⟩:∃ x,zw a.tag=x:=⟨_,rfl⟩
         rw [her] at AJ hne hof;rw [← AJ,if_pos hne] at HR;have e1:=HR.out;subst e1;have HER:=Lib.hid hne;clear AJ her hne;refine hof.mono ?_;clear hof;rintro e w6 ⟨rfl,hb6⟩;have Cm:=Lib.hid (HB3.out.trans (hb6.mono HB3.out.size));have ab9:(er != 0)=true:=by simpa using HER.out
         clear hb6 x0 x1 HST;go_wp2
         go_ret2
         exact ⟨rfl,Cm.out⟩
       ·
        obtain rfl:P.parts.length=j:=by omega
        have AJ:=HE.out;rw [List.drop_length,gZ] at AJ;subst AJ;rw [if_neg (by simp)] at HR;clear HE hj hlt;have y5:=cell_later dP.out (ah _ _ HX.out 5 _ rfl)
        go_wp2_with fail
        clear y5
        go_loopw [73] (fun i wl=>∃ (j:Nat),j≤P.lines.length∧i=.int .i64 j∧Below W.heap.size W wl∧iD P.memory (P.lines.drop j)=LE) (fun i _=>P.lines.length - (intOf i).toNat)
        case atStart=>exact ⟨0,Nat.zero_le _,rfl,dP.out,wK.out⟩
        case round =>
         clear dP fU wK;obtain ⟨j,hj,rfl,hb,hE⟩:=hrel;have dP:=Lib.hid hb;have HE:=Lib.hid hE;clear hb hE;have fU:=Lib.hid (HB.out.trans (dP.out.mono hW0))
         by_cases hlt:j < P.lines.length
         ·
          have dG:(j:Int) < P.lines.length:=by omega
          have AJ:=HE.out;rw [yG hlt] at AJ;obtain ⟨b0,off,rfl,hcap,hb0,hrec⟩:=mV.out.at (by omega);obtain ⟨cs,hcs,AO,hcl⟩:=hrec j hlt;obtain ⟨y,rfl,hst⟩:=AO;have c0:=cell_later fU.out (hcl 0 (by omega));have c1:=cell_later fU.out (hcl 1 (by omega));have c2:=cell_later fU.out (hcl 2 (by omega));simp [iV] at c0 c1 c2;have iK:(P.lines.length:Int)≤cl:=by omega
          obtain ⟨sa,sc,hxs⟩:=Ints.slice hst;subst hxs;clear hcl hcs hrec hst HE;generalize P.lines[j]=a at *;have hbX:=au wr (.cells #[.int .i64 a.base,.int .i64 a.size,.slice sa a.start.length sc] 54);have hY:=heap_alloc_new wr (.cells #[.int .i64 a.base,.int .i64 a.size,.slice sa a.start.length sc] 54);have hsY:(wr.alloc (.cells #[.int .i64 a.base,.int .i64 a.size,.slice sa a.start.length sc] 54)).heap.size=wr.heap.size+1:=by simp
          have hY2:=aK hY (.cells #[.int .i64 a.base,.int .i64 a.size] 52);have hbZ:=au (wr.alloc (.cells #[.int .i64 a.base,.int .i64 a.size,.slice sa a.start.length sc] 54)) (.cells #[.int .i64 a.base,.int .i64 a.size] 52);have hZ:=heap_alloc_new (wr.alloc (.cells #[.int .i64 a.base,.int .i64 a.size,.slice sa a.start.length sc] 54)) (.cells #[.int .i64 a.base,.int .i64 a.size] 52);rw [hsY] at hZ;have x0:=ah _ _ hY 0 _ rfl;have x1:=ah _ _ hY 1 _ rfl;have x1':=ah _ _ hY2 1 _ rfl;have x2':=ah _ _ hY2 2 _ rfl;have r0:=ah _ _ hZ 0 _ rfl;have r1:=ah _ _ hZ 1 _ rfl;have HB2:=Lib.hid ((dP.out.trans (hbX.mono dP.out.size)).trans (hbZ.mono (by have:=dP.out.size;omega)));have HB3:=Lib.hid ((fU.out.trans (hbX.mono fU.out.size)).trans (hbZ.mono (by have:=fU.out.size;omega)));have m0:=cell_later HB2.out (ah _ _ HX.out 0 _ rfl);obtain ⟨B1,b1⟩:∃ x,dD a.base P.memory=x:=⟨_,rfl⟩
          obtain ⟨B2,b2⟩:∃ x,dD a.size (P.memory - a.base)=x:=⟨_,rfl⟩
          have hLn:rA P.memory a=if B1 && B2 then (if a.size < a.start.length then 88 else 0) else 190:=by rw [← b1,← b2];rfl
          rw [hLn] at AJ;have jW:=Lib.hid AJ;have HB1:=Lib.hid b1;have HBT:=Lib.hid b2;clear hbX hY hY2 hbZ hZ hsY hLn AJ b1 b2 dP fU
          go_wp2_with fail
          clear c0 c1 c2 x0 x1;refine (dV _ _ _).mono ?_;rintro e w5 ⟨rfl,rfl⟩;rw [show (decide (0≤a.base) && decide (a.base≤P.memory))=B1 from HB1.out];cases B1 with
          | false =>
           simp at jW;rw [← jW.out,if_pos (by decide)] at HR;have e1:=HR.out;subst e1;go_wp2
           go_ret2
           exact ⟨rfl,HB3.out⟩
          | true =>
           have hba:=within_iff.1 HB1.out;have hsw:IntKind.i64.wrap (P.memory - a.base)=P.memory - a.base:=IntWalk.i64_in _ (by omega)
           go_wp2_with fail
           refine (dV _ _ _).mono ?_;rintro e w5 ⟨rfl,rfl⟩;rw [show (decide (0≤a.size) && decide (a.size≤P.memory - a.base))=B2 from HBT.out];cases B2 with
           | false =>
            simp at jW;rw [← jW.out,if_pos (by decide)] at HR;have e1:=HR.out;subst e1;go_wp2
            go_ret2
            exact ⟨rfl,HB3.out⟩
           | true =>
            by_cases hst:a.size < a.start.length
            ·
             simp only [Bool.and_self,if_true] at jW;rw [if_pos hst,if_neg (by decide)] at jW;rw [← jW.out,if_pos (by decide)] at HR;have e1:=HR.out;subst e1;go_wp2
             go_ret2
             exact ⟨rfl,HB3.out⟩
            ·
             simp only [Bool.and_self,if_true] at jW;rw [if_neg hst,if_pos rfl] at jW;have aaT:¬ a.size < (a.start.length:Int):=hst;go_wp2;go_roundw
             case rel=>exact ⟨j+1,hlt,by go_num,HB2.out,jW.out⟩
             case measure=>simp [intOf];omega
         ·
          obtain rfl:P.lines.length=j:=by omega
          have AJ:=HE.out;rw [List.drop_length,iD] at AJ;subst AJ;rw [if_neg (by simp)] at HR;clear HE hj hlt;have y0:=cell_later dP.out (ah _ _ HX.out 0 _ rfl);have y1:=cell_later dP.out (ah _ _ HX.out 1 _ rfl);have y2:=cell_later dP.out (ah _ _ HX.out 2 _ rfl);have y3:=cell_later dP.out (ah _ _ HX.out 3 _ rfl);have y4:=cell_later dP.out (ah _ _ HX.out 4 _ rfl);have y5:=cell_later dP.out (ah _ _ HX.out 5 _ rfl);have y6:=cell_later dP.out (ah _ _ HX.out 6 _ rfl)
          go_wp2_with fail
          clear y0 y1 y2 y3 y4 y5 y6;refine (MF _ _ P (HV.out.below fU.out) HZ.out).mono ?_;rintro e w9 ⟨rfl,Dk⟩;rw [HR.out];have qK:=Lib.hid (fU.out.trans (Dk.mono fU.out.size));clear Dk;go_wp2
          go_ret2
          exact ⟨rfl,qK.out⟩
def lF (P:ay):Int:=(bW P).2
theorem AP (w:World)(v:Value)(P:ay)(hv:bO w v P)(hps:∀ p∈P.parts,p.params.length≤17600000000000):Calls Tryz.prog 16 #[v] w (og (.int .i64 (lF P)) w):=by
 obtain ⟨vp,vl,vo,rfl,rp,rl,ro⟩:=hv;have hb1:=au w (.cells #[.int .i64 P.memory,.int .i64 P.counters,.int .i64 P.ins,.int .i64 P.outs,vp,vl,vo] 26);have hX:=heap_alloc_new w (.cells #[.int .i64 P.memory,.int .i64 P.counters,.int .i64 P.ins,.int .i64 P.outs,vp,vl,vo] 26);have HV:Hid (bO w (.agg #[.int .i64 P.memory,.int .i64 P.counters,.int .i64 P.ins,.int .i64 P.outs,vp,vl,vo]) P):=Lib.hid ⟨_,_,_,rfl,rp,rl,ro⟩;have JG:=Lib.hid hps;have p0:=ah _ _ hX 0 _ rfl;have p1:=ah _ _ hX 1 _ rfl;have p2:=ah _ _ hX 2 _ rfl;have p3:=ah _ _ hX 3 _ rfl;have p4:=ah _ _ hX 4 _ rfl;have p5:=ah _ _ hX 5 _ rfl;have p6:=ah _ _ hX 6 _ rfl;have HB:=Lib.hid hb1;obtain ⟨r,hr⟩:∃ r,bW P=r:=⟨_,rfl⟩
 have HR:=Lib.hid hr;rw [lF,hr];clear rp rl ro hb1 hX hps hr
 go_enter Tryz.func16,Tryz.ntmps16
 go_wp2_with fail
 clear p0 p1 p2 p3 p4 p5 p6;refine (JF _ _ P (HV.out.below HB.out) JG.out).mono ?_;rintro e w9 ⟨rfl,Dk⟩;rw [HR.out];have qK:=Lib.hid (HB.out.trans (Dk.mono HB.out.size));clear Dk;go_wp2;go_ret
 exact ⟨rfl,qK.out⟩
inductive Tree where
 | nil
 | op (x:fG) (r:Tree)
 | loop (c:Nat) (t:Int) (b r:Tree)
def Tree.len:Tree→Nat
 | .nil=>0
 | .op _ r=>1+r.len
 | .loop _ _ b r=>b.len+2+r.len
def Tree.flat:Tree→Nat→List fG
 | .nil,_=>[]
 | .op x r,i=>x :: r.flat (i+1)
 | .loop c t b r,i=>⟨1,c,t⟩ :: (b.flat (i+1) ++ ⟨2,c,((i+1:Nat):Int)⟩ :: r.flat (i+b.len+2))
def Tree.cost:Tree→Nat
 | .nil=>0
 | .op _ r=>1+r.cost
 | .loop _ t b r=>1+t.toNat*(b.cost+1)+r.cost
theorem Tree.jb:∀ (T:Tree) (i:Nat),(T.flat i).length=T.len
 | .nil,_=>rfl
 | .op x r,i=>by rw [flat,len,List.length_cons,jb r];omega
 | .loop c t b r,i=>by rw [flat,len,List.length_cons,List.length_append,List.length_cons,jb b,jb r];omega
def Tree.ok (n:Nat):List Nat→Tree→Prop
 | _,.nil=>True
 | O,.op x r=>(x.kind≠0∧x.kind≠1∧x.kind≠2)∧r.ok n O
 | O,.loop c t b r=>c ∉ O∧c < n∧1≤t∧t≤2048∧b.ok n (c :: O)∧r.ok n O
def bI (ops:List fG)(pc:Nat):fG:=ops[pc]?.getD ⟨0,0,0⟩
def rC (ops:List fG)(s:Nat × List Int):Nat × List Int :=
 if (bI ops s.1).kind=1 then (s.1+1,s.2.set (bI ops s.1).a.toNat (bI ops s.1).b)
 else if (bI ops s.1).kind=2 then (if 0 < s.2[(bI ops s.1).a.toNat]?.getD 0 - 1 then (bI ops s.1).b.toNat else s.1+1,s.2.set (bI ops s.1).a.toNat (s.2[(bI ops s.1).a.toNat]?.getD 0 - 1))
 else (s.1+1,s.2)
def EB (ops:List fG)(s:Nat × List Int):Nat→Nat × List Int
 | 0=>s
 | k+1=>rC ops (EB ops s k)
theorem vI (ops:List fG)(s:Nat × List Int)(a:Nat):∀ b,EB ops s (a+b)=EB ops (EB ops s a) b
 | 0=>rfl
 | b+1=>by
  show rC ops (EB ops s (a+b))=rC ops _
  rw [vI ops s a b]
def tV (n:Nat)(cs:List Int):Prop:=cs.length=n∧∀ x∈cs,0≤x∧x≤2048
structure X4 (ops:List fG) (n:Nat) (s:Nat × List Int):Prop where
 lt:s.1 < ops.length
 kind:(bI ops s.1).kind≠0
 cs:tV n s.2
structure kz (ops:List fG) (n:Nat) (s:Nat × List Int) (m:Nat) (s':Nat × List Int):Prop where
 ok:∀ k,k < m→X4 ops n (EB ops s k)
 is:EB ops s m=s'
theorem kz.refl (ops:List fG)(n:Nat)(s:Nat × List Int):kz ops n s 0 s:=⟨fun k h=>by omega,rfl⟩
theorem kz.trans {ops:List fG}{n:Nat}{s s1 s2:Nat × List Int}{a b:Nat}(h:kz ops n s a s1)(k:kz ops n s1 b s2):kz ops n s (a+b) s2:=by
 refine ⟨fun j hj=>?_,by rw [vI,h.is,k.is]⟩
 by_cases h1:j < a
 ·
  exact h.ok j h1
 ·
  obtain ⟨d,rfl⟩:=Nat.exists_eq_add_of_le (Nat.le_of_not_lt h1);rw [vI,h.is];exact k.ok d (by omega)
theorem kz.one {ops:List fG}{n:Nat}{s s':Nat × List Int}(h:X4 ops n s)(e:rC ops s=s'):kz ops n s 1 s':=by
 refine ⟨fun k hk=>?_,e⟩;obtain rfl:k=0:=by omega
 exact h
theorem jA {α:Type}{L R:List α}{x:α}{i:Nat}(h:L.drop i=x :: R):i < L.length∧L[i]?=some x∧L.drop (i+1)=R:=by
 have h1:(L.drop i)[0]?=some x:=by rw [h];rfl
 rw [List.getElem?_drop] at h1;refine ⟨?_,by simpa using h1,?_⟩
 ·
  have:=congrArg List.length h;rw [List.length_drop,List.length_cons] at this;omega
 ·
  rw [← List.drop_drop,h];rfl
theorem jN {ops:List fG}{i:Nat}{x:fG}(h:ops[i]?=some x):bI ops i=x:=by simp [bI,h]
theorem xA {n:Nat}{cs:List Int}(h:tV n cs){k:Nat}{v:Int}(h1:0≤v∧v≤2048):tV n (cs.set k v) :=
 ⟨by rw [List.length_set];exact h.1,fun x hx=>by
  rcases List.mem_or_eq_of_mem_set hx with hx | rfl
  ·
   exact h.2 x hx
  ·
   exact h1⟩
def Left (O:List Nat)(cs cs':List Int):Prop:=(∀ j:Nat,j∈O→cs'[j]?=cs[j]?)∧∀ j:Nat,cs'[j]?=cs[j]?∨cs'[j]?=some 0
theorem Left.refl (O:List Nat)(cs:List Int):Left O cs cs:=⟨fun _ _=>rfl,fun _=>.inl rfl⟩
theorem Left.trans {O:List Nat}{a b c:List Int}(h:Left O a b)(k:Left O b c):Left O a c :=
 ⟨fun j hj=>(k.1 j hj).trans (h.1 j hj),fun j=>by
  rcases k.2 j with e | e
  ·
   rw [e];exact h.2 j
  ·
   exact .inr e⟩
theorem rD {ops:List fG}{n:Nat}:∀ (T:Tree) (O:List Nat) (i:Nat) (R:List fG) (cs:List Int),T.ok n O→ops.drop i=T.flat i ++ R→tV n cs →
  ∃ cs',tV n cs'∧Left O cs cs'∧kz ops n (i,cs) T.cost (i+T.len,cs')
 | .nil,O,i,R,cs,_,_,hc=>⟨cs,hc,Left.refl _ _,kz.refl _ _ _⟩
 | .op x r,O,i,R,cs,hk,hd,hc=>by
  obtain ⟨⟨k0,k1,k2⟩,hr⟩:=hk;obtain ⟨d1,d2,d3⟩:=jA (R:=r.flat (i+1) ++ R) hd;obtain ⟨cs',h1,h2,h3⟩:=rD r O (i+1) R cs hr d3 hc;refine ⟨cs',h1,h2,?_⟩;have hx:=jN d2;have h4:kz ops n (i,cs) 1 (i+1,cs):=kz.one ⟨d1,by show (bI ops i).kind≠0;rw [hx];exact k0,hc⟩ (by
   unfold rC;show (if (bI ops i).kind=1 then _ else _)=_
   rw [hx,if_neg k1,if_neg k2])
  have h5:=h4.trans h3;rw [show i+1+r.len=i+(Tree.op x r).len by rw [Tree.len];omega] at h5;exact h5
 | .loop c t b r,O,i,R,cs,hk,hd,hc=>by
  obtain ⟨kO,kn,t1,t2,kb,kr⟩:=hk;rw [Tree.flat,List.cons_append,List.append_assoc,List.cons_append] at hd;obtain ⟨d1,d2,d3⟩:=jA hd;have hx:=jN d2;have e3:ops.drop (i+1+b.len)=⟨2,c,((i+1:Nat):Int)⟩ :: (r.flat (i+b.len+2) ++ R):=by
   rw [← List.drop_drop,d3,List.drop_left' (Tree.jb b _)]
  obtain ⟨f1,f2,f3⟩:=jA e3;have hy:=jN f2;have hlen:c < cs.length:=by rw [hc.1];exact kn
  have hback:∀ (cs2:List Int) (v:Int),tV n cs2→cs2[c]?=some v→1≤v→kz ops n (i+1+b.len,cs2) 1 (if 0 < v - 1 then i+1 else i+b.len+2,cs2.set c (v - 1)):=by
   intro cs2 v h2 h3 h4;refine kz.one ⟨f1,by show (bI ops (i+1+b.len)).kind≠0;rw [hy];show (2:Int)≠0;omega,h2⟩ ?_;unfold rC;show (if (bI ops (i+1+b.len)).kind=1 then _ else _)=_
   simp only [hy];rw [if_neg (by show ¬ (2:Int)=1;omega),if_pos trivial];simp only [Int.toNat_natCast,h3,Option.getD_some]
   congr 1
   split <;> omega
  have VE:∀ (k:Nat) (cs2:List Int),tV n cs2→cs2[c]?=some ((k+1:Nat):Int)→k+1≤2048 →
    ∃ cs',tV n cs'∧(∀ j:Nat,j∈O→cs'[j]?=cs2[j]?)∧(∀ j:Nat,j≠c→cs'[j]?=cs2[j]?∨cs'[j]?=some 0)∧cs'[c]?=some 0∧kz ops n (i+1,cs2) ((k+1)*(b.cost+1)) (i+b.len+2,cs'):=by
   intro k
   induction k with
   | zero =>
    intro cs2 h2 h3 _;obtain ⟨X5,m1,m2,m3⟩:=rD b (c :: O) (i+1) _ cs2 kb d3 h2;have h4:X5[c]?=some 1:=by rw [m2.1 c List.mem_cons_self,h3];rfl
    have m4:=hback X5 1 m1 h4 (Int.le_refl _);rw [if_neg (by omega)] at m4;have hl3:c < X5.length:=by rw [m1.1];exact kn
    refine ⟨_,xA (k:=c) (v:=(1:Int) - 1) m1 (by omega),fun j hj=>?_,fun j hj=>?_,?_,?_⟩
    ·
     rw [List.getElem?_set_ne (fun e=>kO (by rw [e];exact hj))];exact m2.1 j (List.mem_cons_of_mem _ hj)
    ·
     rw [List.getElem?_set_ne (fun e=>hj e.symm)];exact m2.2 j
    ·
     rw [List.getElem?_set_self hl3];rfl
    ·
     have:=m3.trans m4;rw [show (0+1)*(b.cost+1)=b.cost+1 by omega];exact this
   | succ k ih =>
    intro cs2 h2 h3 hk;obtain ⟨X5,m1,m2,m3⟩:=rD b (c :: O) (i+1) _ cs2 kb d3 h2;have h4:X5[c]?=some ((k+1+1:Nat):Int):=by rw [m2.1 c List.mem_cons_self,h3]
    have m4:=hback X5 _ m1 h4 (by omega);rw [if_pos (by omega)] at m4;have hl3:c < X5.length:=by rw [m1.1];exact kn
    obtain ⟨cs4,n1,n2,n3,n4,n5⟩:=ih (X5.set c (((k+1+1:Nat):Int) - 1)) (xA m1 (by omega)) (by rw [List.getElem?_set_self hl3];congr 1;omega) (by omega);refine ⟨cs4,n1,fun j hj=>?_,fun j hj=>?_,n4,?_⟩
    ·
     rw [n2 j hj,List.getElem?_set_ne (fun e=>kO (by rw [e];exact hj))];exact m2.1 j (List.mem_cons_of_mem _ hj)
    ·
     rcases n3 j hj with e | e
     ·
      rw [e,List.getElem?_set_ne (fun e=>hj e.symm)];exact m2.2 j
     ·
      exact .inr e
    ·
     have:=(m3.trans m4).trans n5;rw [show (k+1+1)*(b.cost+1)=b.cost+1+(k+1)*(b.cost+1) by rw [Nat.add_mul (k+1)];omega];exact this
  obtain ⟨k,hkt⟩:∃ k:Nat,t=((k+1:Nat):Int):=⟨(t - 1).toNat,by omega⟩
  have s1:kz ops n (i,cs) 1 (i+1,cs.set c t):=kz.one ⟨d1,by show (bI ops i).kind≠0;rw [hx];show (1:Int)≠0;omega,hc⟩ (by
   unfold rC;show (if (bI ops i).kind=1 then _ else _)=_
   simp only [hx];rw [if_pos trivial];simp)
  obtain ⟨cs5,p1,p2,p3,p4,p5⟩:=VE k (cs.set c t) (xA hc (by omega)) (by rw [List.getElem?_set_self hlen,hkt]) (by omega);obtain ⟨cs6,q1,q2,q3⟩:=rD r O (i+b.len+2) R cs5 kr (by have h:=f3;rwa [show i+1+b.len+1=i+b.len+2 by omega] at h) p1;refine ⟨cs6,q1,Left.trans ⟨fun j hj=>?_,fun j=>?_⟩ q2,?_⟩
  ·
   rw [p2 j hj,List.getElem?_set_ne (fun e=>kO (by rw [e];exact hj))]
  ·
   by_cases hj:j=c
   ·
    rw [hj];exact .inr p4
   ·
    rcases p3 j hj with e | e
    ·
     rw [e,List.getElem?_set_ne (fun e=>hj e.symm)];exact .inl rfl
    ·
     exact .inr e
  ·
   have h5:=(s1.trans p5).trans q3;have ht:t.toNat=k+1:=by omega
   show kz ops n _ (1+t.toNat*(b.cost+1)+r.cost) _
   rw [ht,show i+(Tree.loop c t b r).len=i+b.len+2+r.len by rw [Tree.len];omega];exact h5
def uz (k:Int):lN→lN
 | (b,[])=>(b+k,[])
 | (b,(p,s) :: r)=>(b,(p,s+k) :: r)
def Dl (P:ay)(fr:List (Nat × Int)):List Nat:=fr.map fun f=>(jy P f.1).a.toNat
inductive K6 (P:ay) (n:Nat):List fG→Nat→lN→Int→Prop
 | fin {i:Nat} {b:Int} (T:Tree) (hT:T.ok n []):K6 P n (T.flat i ++ [⟨0,0,0⟩]) i (b,[]) (b+T.cost+1)
 | X8 {i p:Nat} {b s:Int} {r:List (Nat × Int)} {L:List fG} {S:Int} (T:Tree) (hT:T.ok n (Dl P ((p,s) :: r))) (h:K6 P n L (i+T.len+1) (uz (1+(jy P p).b*(s+T.cost+1)) (b,r)) S) :
  K6 P n (T.flat i ++ ⟨2,(jy P p).a,((p+1:Nat):Int)⟩ :: L) i (b,(p,s) :: r) S
structure NN (P:ay) (n:Nat) (st:lN):Prop where
 bot:0≤st.1
 fr:∀ f∈st.2,0≤f.2∧1≤(jy P f.1).b∧(jy P f.1).b≤2048∧0≤(jy P f.1).a∧(jy P f.1).a < n
theorem NN.top {P:ay}{n:Nat}{st:lN}(h:NN P n st):0≤iG st:=by
 obtain ⟨b,fr⟩:=st;cases fr with
 | nil=>exact h.bot
 | cons f r=>exact (h.fr f List.mem_cons_self).1
theorem NN.uz {P:ay}{n:Nat}{st:lN}(h:NN P n st){k:Int}(hk:0≤k):NN P n (uz k st):=by
 obtain ⟨b,fr⟩:=st;cases fr with
 | nil=>exact ⟨by have:=h.bot;show 0≤b+k;simp only at this;omega,fun f hf=>by cases hf⟩
 | cons f r =>
  obtain ⟨p,s⟩:=f;refine ⟨h.bot,fun g hg=>?_⟩
  rcases List.mem_cons.1 hg with rfl | hg
  ·
   have:=h.fr (p,s) List.mem_cons_self;exact ⟨by show 0≤s+k;have:=this.1;simp only at this;omega,this.2⟩
  ·
   exact h.fr g (List.mem_cons_of_mem _ hg)
theorem NN.pop {P:ay}{n:Nat}{b:Int}{f:Nat × Int}{r:List (Nat × Int)}(h:NN P n (b,f :: r)):NN P n (b,r):=⟨h.bot,fun g hg=>h.fr g (List.mem_cons_of_mem _ hg)⟩
theorem zT {t s:Int}(ht:1≤t)(hs:0≤s):s≤t*s:=by
 have:=Int.mul_le_mul_of_nonneg_right ht hs;omega
theorem ZB {P:ay}{n:Nat}{L:List fG}{i:Nat}{st:lN}{S:Int}{x:fG}(hx:x.kind≠0∧x.kind≠1∧x.kind≠2)(h:K6 P n L (i+1) (uz 1 st) S):K6 P n (x :: L) i st S:=by
 obtain ⟨b,fr⟩:=st;cases fr with
 | nil =>
  generalize he:uz 1 (b,[])=st' at h;cases h with
  | fin T hT =>
   cases he
   have:=K6.fin (P:=P) (n:=n) (i:=i) (b:=b) (.op x T) ⟨hx,hT⟩;rw [show b+1+(T.cost:Int)+1=b+((Tree.op x T).cost:Nat)+1 by rw [Tree.cost];omega];exact this
  | X8 T hT h=>cases he
 | cons f r =>
  obtain ⟨p,s⟩:=f;generalize he:uz 1 (b,(p,s) :: r)=st' at h;cases h with
  | fin T hT=>cases he
  | X8 T hT h =>
   cases he
   have:=K6.X8 (P:=P) (n:=n) (i:=i) (b:=b) (p:=p) (s:=s) (r:=r) (S:=S) (.op x T) ⟨hx,hT⟩ (by
    rw [Tree.len,Tree.cost,show i+(1+T.len)+1=i+1+T.len+1 by omega,show s+((1+T.cost:Nat):Int)+1=s+1+(T.cost:Int)+1 by omega];exact h)
   exact this
theorem QF {P:ay}{n:Nat}{L:List fG}{i:Nat}{b:Int}{fr:List (Nat × Int)}{S:Int}{x:fG}(hk:x.kind=1)(ho:jy P i=x)(ha:0≤x.a∧x.a < n)(hb:1≤x.b∧x.b≤2048)(hn:x.a.toNat ∉ Dl P fr)
  (h:K6 P n L (i+1) (b,(i,0) :: fr) S):K6 P n (x :: L) i (b,fr) S:=by
 have hx:x=⟨1,(x.a.toNat:Nat),x.b⟩:=by
  obtain ⟨k,a,b'⟩:=x;simp only at hk ha;rw [hk]
  congr 1
  show a=(a.toNat:Int)
  omega
 generalize he:((b,(i,0) :: fr):lN)=st' at h;cases h with
 | fin T hT=>cases he
 | @X8 _ _ _ _ _ L' _ T hT h =>
  cases he
  rw [ho] at h ⊢;have hT':T.ok n (x.a.toNat :: Dl P fr):=by
   have e:Dl P ((i,(0:Int)) :: fr)=x.a.toNat :: Dl P fr:=by unfold Dl;rw [List.map_cons,ho]
   rw [e] at hT;exact hT
  have hcs:(0:Int)+(T.cost:Int)+1=((T.cost+1:Nat):Int):=by omega
  rw [hcs] at h;have hto:((x.b.toNat:Nat):Int)=x.b:=by omega
  have Ya:∀ T2:Tree,(((Tree.loop x.a.toNat x.b T T2).cost:Nat):Int)=1+x.b*((T.cost+1:Nat):Int)+(T2.cost:Int):=by
   intro T2;rw [Tree.cost]
   push_cast
   rw [hto]
  generalize hst:uz (1+x.b*((T.cost+1:Nat):Int)) (b,fr)=st2 at h;generalize hi2:i+1+T.len+1=i2 at h;have hi3:i2=i+T.len+2:=by omega
  cases h with
  | @fin _ b2 T2 Yc =>
   cases fr with
   | cons f r=>obtain ⟨p,s⟩:=f;cases hst
   | nil =>
    cases hst
    have:=K6.fin (P:=P) (n:=n) (i:=i) (b:=b) (.loop x.a.toNat x.b T T2) ⟨hn,by omega,hb.1,hb.2,hT',Yc⟩;rw [Ya,Tree.flat] at this;rw [hi3];have e:x :: (T.flat (i+1) ++ ⟨2,x.a,((i+1:Nat):Int)⟩ :: (T2.flat (i+T.len+2) ++ [⟨0,0,0⟩]))=(⟨1,(x.a.toNat:Nat),x.b⟩ :: (T.flat (i+1) ++ ⟨2,(x.a.toNat:Nat),((i+1:Nat):Int)⟩ :: T2.flat (i+T.len+2))) ++ [⟨0,0,0⟩]:=by
     rw [List.cons_append,List.append_assoc,List.cons_append,← hx,show ((x.a.toNat:Nat):Int)=x.a by omega]
    rw [e,show b+(1+x.b*((T.cost+1:Nat):Int))+(T2.cost:Int)+1=b+(1+x.b*((T.cost+1:Nat):Int)+(T2.cost:Int))+1 by omega];exact this
  | @X8 _ p2 b2 s2 r2 L2 _ T2 Yc h =>
   cases fr with
   | nil=>cases hst
   | cons f r =>
    obtain ⟨p,s⟩:=f;cases hst
    have:=K6.X8 (P:=P) (n:=n) (i:=i) (b:=b) (p:=p2) (s:=s) (r:=r2) (L:=L2) (S:=S) (.loop x.a.toNat x.b T T2) ⟨hn,by omega,hb.1,hb.2,hT',Yc⟩ (by
     rw [Ya,Tree.len,show i+(T.len+2+T2.len)+1=i2+T2.len+1 by omega,show s+(1+x.b*((T.cost+1:Nat):Int)+(T2.cost:Int))+1=s+(1+x.b*((T.cost+1:Nat):Int))+(T2.cost:Int)+1 by omega];exact h)
    rw [Tree.flat] at this;rw [hi3];have e:x :: (T.flat (i+1) ++ ⟨2,x.a,((i+1:Nat):Int)⟩ :: (T2.flat (i+T.len+2) ++ ⟨2,(jy P p2).a,((p2+1:Nat):Int)⟩ :: L2))=(⟨1,(x.a.toNat:Nat),x.b⟩ :: (T.flat (i+1) ++ ⟨2,(x.a.toNat:Nat),((i+1:Nat):Int)⟩ :: T2.flat (i+T.len+2))) ++ ⟨2,(jy P p2).a,((p2+1:Nat):Int)⟩ :: L2:=by
     rw [List.cons_append,List.append_assoc,List.cons_append,← hx,show ((x.a.toNat:Nat):Int)=x.a by omega]
    rw [e];exact this
def lG (P:ay)(i:Nat)(x:fG)(st:lN):lN :=
 if x.kind=1 then (st.1,(i,0) :: st.2)
 else if x.kind=2 then (match st.2 with | []=>st | (p,s) :: r=>uz (1+(jy P p).b*(s+1)) (st.1,r))
 else uz 1 st
def mK (P:ay):Int:=if P.ops.length=0∨(jy P (P.ops.length - 1)).kind≠0 then 200 else 0
def jJ (P:ay):List fG→Nat→lN→Int × Int
 | [],_,st=>(st.1,mK P)
 | x :: r,i,st=>if !cK P i x then (0,200) else if dR P x st≠0 then (0,dR P x st) else jJ P r (i+1) (lG P i x st)
def JH (r:Int × Int):Int × Int:=if r.2≠0 then (0,r.2) else if 131072 < r.1 then (0,5) else r
def yH (st:lN):lN:=(fH st.1,st.2.map fun f=>(f.1,fH f.2))
theorem lQ (n:Int):fH n=min n 131073:=by unfold fH;split <;> omega
theorem Gt {P:ay}{n:Nat}{st:lN}(h:NN P n st){k k':Int}(hk:k=k'∨(131073≤k∧131073≤k'))(h0:0≤k):JD k (yH st)=yH (uz k' st):=by
 have ht:=h.top;obtain ⟨b,fr⟩:=st;cases fr with
 | nil =>
  show ((fH (fH b+k),[]):lN)=(fH (b+k'),[])
  congr 1
  have:0≤b:=ht;rw [lQ,lQ,lQ];omega
 | cons f r =>
  obtain ⟨p,s⟩:=f;show ((fH b,(p,fH (fH s+k)) :: r.map _):lN)=(fH b,(p,fH (s+k')) :: r.map _)
  have e:fH (fH s+k)=fH (s+k'):=by
   have:0≤s:=ht;rw [lQ,lQ,lQ];omega
  rw [e]
theorem QG {t s:Int}(ht:1≤t)(hs:0≤s):zA t (fH s+1)=1+t*(s+1)∨(131073≤zA t (fH s+1)∧131073≤1+t*(s+1)):=by
 have h3:=zT ht (show 0≤s+1 by omega);unfold zA
 by_cases h:fH s+1≤131072 / t
 ·
  have h1:t*(131072 / t)≤131072:=Int.mul_ediv_self_le (by omega);have h2:=zT ht (show 0≤131072 / t from Int.ediv_nonneg (by omega) (by omega));have e:fH s=s:=by rw [lQ] at h ⊢;omega
  rw [e] at h ⊢;rw [if_pos h];exact .inl rfl
 ·
  rw [if_neg h];refine .inr ⟨Int.le_refl _,?_⟩
  by_cases hb:s≤131072
  ·
   have e:fH s=s:=by rw [lQ];omega
   rw [e] at h;have h4:¬ t*(s+1)≤131072:=fun h5=>h (by rw [Int.le_ediv_iff_mul_le (by omega),Int.mul_comm];exact h5)
   omega
  ·
   omega
theorem VF (P:ay)(a:Int)(r:List (Nat × Int)):(r.map fun f=>(f.1,fH f.2)).any (fun f=>decide ((jy P f.1).a=a))=r.any (fun f=>decide ((jy P f.1).a=a)):=by
 rw [List.any_map];rfl
theorem JI (P:ay)(x:fG)(st:lN):dR P x (yH st)=dR P x st:=by
 obtain ⟨b,fr⟩:=st;unfold dR yH;simp only [VF];cases fr with
 | nil=>rfl
 | cons f r=>simp
theorem AQ {P:ay}{n i:Nat}{x:fG}(hc:(n:Int)=P.counters)(ho:jy P i=x)(h1:x.kind=1)(hs:cK P i x=true):1≤(jy P i).b∧(jy P i).b≤2048∧0≤(jy P i).a∧(jy P i).a < n:=by
 unfold cK at hs;rw [if_neg (by omega)] at hs;simp only [Bool.and_eq_true,decide_eq_true_eq] at hs;obtain ⟨⟨⟨s1,s2⟩,s3⟩,s4⟩:=hs;simp only [jH,h1] at s2 s3 s4;simp at s2 s3 s4;rw [ho];omega
theorem Dm {P:ay}{n i:Nat}{x:fG}{st:lN}(hc:(n:Int)=P.counters)(ho:jy P i=x)(hs:cK P i x=true)(h:NN P n st):NN P n (lG P i x st):=by
 unfold lG
 by_cases h1:x.kind=1
 ·
  rw [if_pos h1];refine ⟨h.bot,fun f hf=>?_⟩
  rcases List.mem_cons.1 hf with rfl | hf
  ·
   exact ⟨Int.le_refl _,AQ hc ho h1 hs⟩
  ·
   exact h.fr f hf
 rw [if_neg h1]
 by_cases h2:x.kind=2
 ·
  rw [if_pos h2];obtain ⟨b,fr⟩:=st;cases fr with
  | nil=>exact h
  | cons f r =>
   obtain ⟨p,s⟩:=f;have hf:=h.fr (p,s) List.mem_cons_self;simp only at hf;have:=zT hf.2.1 (show 0≤s+1 by omega);exact h.pop.uz (by omega)
 rw [if_neg h2];exact h.uz (by omega)
theorem JJ {P:ay}{n i:Nat}{x:fG}{st:lN}(h:NN P n st):jV P i x (yH st)=yH (lG P i x st):=by
 unfold jV lG
 by_cases h1:x.kind=1
 ·
  rw [if_pos h1,if_pos h1];rfl
 rw [if_neg h1,if_neg h1]
 by_cases h2:x.kind=2
 ·
  rw [if_pos h2,if_pos h2];obtain ⟨b,fr⟩:=st;cases fr with
  | nil=>rfl
  | cons f r =>
   obtain ⟨p,s⟩:=f;have hf:=h.fr (p,s) List.mem_cons_self;simp only at hf;have hall:=KZ hf.2.1 (show 0≤fH s+1 by rw [lQ];omega);exact Gt h.pop (QG hf.2.1 hf.1) hall.1
 rw [if_neg h2,if_neg h2];exact Gt h (.inl rfl) (by omega)
theorem Dn {P:ay}{n:Nat}(hc:(n:Int)=P.counters):∀ (L:List fG) (i:Nat) (st:lN),P.ops.drop i=L→NN P n st→jI P L i (yH st)=JH (jJ P L i st)
 | [],i,st,_,hn=>by
  rw [jI,jJ,Qy,mK,JH];simp only
  by_cases hl:P.ops.length=0∨(jy P (P.ops.length - 1)).kind≠0
  ·
   rw [if_pos hl,if_pos hl,if_pos (by decide)]
  ·
   rw [if_neg hl,if_neg hl,if_neg (show ¬ (0:Int)≠0 by decide)];have hb:=hn.bot;have hcb:(yH st).1=min st.1 131073:=lQ _;rw [hcb]
   by_cases hm:131072 < st.1
   ·
    rw [if_pos (by omega),if_pos hm]
   ·
    rw [if_neg (by omega),if_neg hm]
    congr 1
    omega
 | x :: r,i,st,hd,hn=>by
  obtain ⟨d1,d2,d3⟩:=jA hd;have ho:jy P i=x:=by unfold jy;rw [d2];rfl
  rw [jI,jJ,JI]
  by_cases hs:cK P i x=true
  ·
   rw [hs];simp only [Bool.not_true,Bool.false_eq_true,if_false]
   by_cases he:dR P x st=0
   ·
    rw [if_neg (by simp [he]),if_neg (by simp [he]),JJ hn];exact Dn hc r (i+1) _ d3 (Dm hc ho hs hn)
   ·
    rw [if_pos he,if_pos he,JH,if_pos he]
  ·
   simp [hs,JH]
theorem parse {P:ay}{n:Nat}(hc:(n:Int)=P.counters):∀ (L:List fG) (i:Nat) (st:lN) {S:Int},jJ P L i st=(S,0)→P.ops.drop i=L→L≠[]→NN P n st→K6 P n L i st S
 | [],i,st,S,_,_,h,_=>absurd rfl h
 | x :: r,i,st,S,h,hd,_,hn=>by
  obtain ⟨d1,d2,d3⟩:=jA hd;have ho:jy P i=x:=by unfold jy;rw [d2];rfl
  rw [jJ] at h
  by_cases hs:cK P i x=true
  ·
   rw [hs] at h;simp only [Bool.not_true,Bool.false_eq_true,if_false] at h
   by_cases he:dR P x st=0
   ·
    rw [if_neg (by simp [he])] at h;have hn2:=Dm (st:=st) hc ho hs hn;have hlast:r=[]→x.kind≠0→False:=by
     intro h1 h2;have h3:i+1=P.ops.length:=by
      have:=congrArg List.length d3;rw [h1,List.length_drop,List.length_nil] at this;omega
     subst h1;rw [jJ,mK,if_pos (.inr (by rw [← h3,Nat.add_sub_cancel,ho];exact h2))] at h;simp at h
    by_cases k0:x.kind=0
    ·
     unfold cK at hs;rw [if_pos k0] at hs;simp only [Bool.and_eq_true,decide_eq_true_eq] at hs;obtain ⟨⟨h1,h2⟩,h3⟩:=hs;have hr:r=[]:=by
      rw [← d3,h3];exact List.drop_length
     have hx:x=⟨0,0,0⟩:=by
      obtain ⟨a,b,c⟩:=x;simp only at k0 h1 h2;rw [k0,h1,h2]
     unfold dR at he;rw [if_neg (by omega),if_neg (by omega),if_pos k0] at he;have hf:st.2=[]:=by
      by_cases hf:st.2=[]
      ·
       exact hf
      ·
       rw [if_neg hf] at he;omega
     obtain ⟨b,fr⟩:=st;simp only at hf;subst hf hr hx;have hb2:b+1=S:=congrArg Prod.fst h;have:=K6.fin (P:=P) (n:=n) (i:=i) (b:=b) .nil trivial;rw [show b+((Tree.nil.cost:Nat):Int)+1=S by rw [Tree.cost];omega] at this;exact this
    ·
     have hr:r≠[]:=fun e=>hlast e k0
     by_cases k1:x.kind=1
     ·
      have hfr:=AQ hc ho k1 hs;rw [ho] at hfr;have e1:lG P i x st=(st.1,(i,0) :: st.2):=by unfold lG;rw [if_pos k1]
      rw [e1] at h hn2;unfold dR at he;rw [if_pos k1] at he;have hno:∀ f∈st.2,(jy P f.1).a≠x.a:=by
       intro f hf e;rw [if_pos (List.any_eq_true.2 ⟨f,hf,by simp [e]⟩)] at he;omega
      obtain ⟨b,fr⟩:=st;refine QF k1 ho ⟨hfr.2.2.1,hfr.2.2.2⟩ ⟨hfr.1,hfr.2.1⟩ ?_ (parse hc r (i+1) _ h d3 hr hn2);intro hm;obtain ⟨f,hf,e⟩:=List.mem_map.1 hm;have h1:=hn.fr f hf;exact hno f hf (by omega)
     ·
      by_cases k2:x.kind=2
      ·
       obtain ⟨b,fr⟩:=st;unfold dR at he;rw [if_neg k1,if_pos k2] at he;cases fr with
       | nil=>simp at he
       | cons f r2 =>
        obtain ⟨p,s⟩:=f;simp only at he;have he2:(jy P p).a=x.a∧x.b=p+1:=by
         by_cases h1:(jy P p).a≠x.a∨x.b≠p+1
         ·
          rw [if_pos h1] at he;omega
         ·
          constructor <;> · apply Classical.byContradiction;intro hne;exact h1 (by first | exact .inl hne | exact .inr hne)
        have hx:x=⟨2,(jy P p).a,((p+1:Nat):Int)⟩:=by
         obtain ⟨a,b',c⟩:=x;simp only at k2 he2;rw [k2,he2.1,he2.2];rfl
        have e1:lG P i x (b,(p,s) :: r2)=uz (1+(jy P p).b*(s+1)) (b,r2):=by unfold lG;rw [if_neg k1,if_pos k2]
        rw [e1] at h hn2;have h2:=parse hc r (i+1) _ h d3 hr hn2;rw [hx];have:=K6.X8 (P:=P) (n:=n) (i:=i) (b:=b) (p:=p) (s:=s) (r:=r2) (L:=r) (S:=S) .nil trivial (by
         rw [Tree.len,Tree.cost,show s+((0:Nat):Int)+1=s+1 by omega];exact h2)
        exact this
      ·
       have e1:lG P i x st=uz 1 st:=by unfold lG;rw [if_neg k1,if_neg k2]
       rw [e1] at h hn2;exact ZB ⟨k0,k1,k2⟩ (parse hc r (i+1) _ h d3 hr hn2)
   ·
    rw [if_pos he] at h;simp at h;exact absurd h.2 he
  ·
   simp [hs] at h
theorem Dp {P:ay}(hc:0≤P.counters){S:Int}(h:jJ P P.ops 0 (0,[])=(S,0)):∃ T:Tree,T.ok P.counters.toNat []∧P.ops=T.flat 0 ++ [⟨0,0,0⟩]∧S=T.cost+1:=by
 have hne:P.ops≠[]:=by
  intro e;rw [e,jJ,mK,if_pos (.inl (by rw [e];rfl))] at h;simp at h
 have hp:=parse (P:=P) (n:=P.counters.toNat) (by omega) P.ops 0 (0,[]) h rfl hne ⟨Int.le_refl _,fun f hf=>by cases hf⟩;generalize hL:P.ops=L at hp;generalize hst:((0,[]):lN)=st at hp;cases hp with
 | X8 T hT h=>cases hst
 | fin T hT =>
  cases hst
  exact ⟨T,hT,rfl,by omega⟩
theorem Gu {P:ay}(hc:0≤P.counters):jI P P.ops 0 (0,[])=JH (jJ P P.ops 0 (0,[])):=by
 have:=Dn (P:=P) (n:=P.counters.toNat) (by omega) P.ops 0 (0,[]) rfl ⟨Int.le_refl _,fun f hf=>by cases hf⟩;exact this
theorem MJ {P:ay}{S:Int}(h:bW P=(S,0)):∃ T:Tree,T.ok P.counters.toNat []∧P.ops=T.flat 0 ++ [⟨0,0,0⟩]∧S=T.cost+1∧S≤131072:=by
 unfold bW at h
 split at h
 ·
  rename_i hw
  simp only [Bool.and_eq_true,within_iff] at hw
  split at h
  ·
   simp at h
  ·
   split at h
   ·
    rename_i h1;simp at h;exact absurd h.2 h1
   ·
    split at h
    ·
     rename_i h1;simp at h;exact absurd h.2 h1
    ·
     rw [Gu (by omega)] at h;unfold JH at h
     split at h
     ·
      rename_i h1;simp at h;exact absurd h.2 h1
     ·
      split at h
      ·
       simp at h
      ·
       obtain ⟨T,h1,h2,h3⟩:=Dp (by omega) h;have h4:(jJ P P.ops 0 (0,[])).1=S:=congrArg Prod.fst h;exact ⟨T,h1,h2,h3,by omega⟩
 ·
  simp at h
theorem JK {P:ay}{S:Int}(h:bW P=(S,0)):∃ m:Nat,S=(m:Int)+1∧m+1≤131072∧∃ e,kz P.ops P.counters.toNat (0,List.replicate P.counters.toNat 0) m (e,List.replicate P.counters.toNat 0)∧P.ops[e]?=some ⟨0,0,0⟩∧e+1=P.ops.length:=by
 obtain ⟨T,hT,hL,hS,hS2⟩:=MJ h;have hd:P.ops.drop 0=T.flat 0 ++ [⟨0,0,0⟩]:=hL;obtain ⟨cs',h1,h2,h3⟩:=rD T [] 0 [⟨0,0,0⟩] (List.replicate P.counters.toNat 0) hT hd ⟨List.length_replicate,fun x hx=>by rw [List.eq_of_mem_replicate hx];omega⟩;have hcs:cs'=List.replicate P.counters.toNat 0:=by
  refine List.ext_getElem? fun j=>?_
  rcases h2.2 j with e | e
  ·
   exact e
  ·
   rw [e];have hj:j < cs'.length:=by
    rcases Nat.lt_or_ge j cs'.length with hj | hj
    ·
     exact hj
    ·
     rw [List.getElem?_eq_none hj] at e;cases e
   rw [List.getElem?_replicate,if_pos (by rw [← h1.1];exact hj)]
 have hlen:P.ops.length=T.len+1:=by rw [hL,List.length_append,Tree.jb];rfl
 refine ⟨T.cost,by omega,by omega,T.len,?_,?_,hlen.symm⟩
 ·
  rw [hcs,Nat.zero_add] at h3;exact h3
 ·
  rw [hL,List.getElem?_append_right (by rw [Tree.jb];exact Nat.le_refl _),Tree.jb,Nat.sub_self];rfl
structure kT where
 base:Nat
 size:Nat
 pos:Nat
 cnt:Nat
structure OZ where
 op:Int
 kind:Int
 line:Int
 cells:List Int
 halt:Int
structure aH where
 mem:List Int
 lines:List kT
 fed:List (List Int)
 out:List (List Int)
 bH:List (List Int × Int)
 cs:List Int
 hand:List Int
 next:Nat
 periods:Nat
 last:Option OZ
def aC (m:aH)(k:Nat):kT:=m.lines[k]?.getD ⟨0,0,0,0⟩
def rowAt (l:List (List Int))(k:Nat):List Int:=l[k]?.getD []
def partAt (P:ay)(k:Nat):eu:=P.parts[k]?.getD ⟨0,[]⟩
def bB (m:aH)(k:Nat):List Int × Int:=m.bH[k]?.getD ([],0)
def bQ (l:kT)(dist n:Nat):List Nat:=(List.range n).map fun k=>l.base+(l.pos+dist+k) % l.size
def oO:List Int→List Nat→List Int→List Int
 | mem,c :: cs,t :: ts=>oO (mem.set c t) cs ts
 | mem,_,_=>mem
def fP (mem:List Int)(l:List Nat):List Int:=l.map fun c=>mem[c]?.getD 0
def bU (l:List Nat):List Int:=l.map fun c:Nat=>(c:Int)
def kU (p:eu):Nat:=(bT p.tag p.params).sum.toNat
def dX:List Int→List Int→List (List Int)
 | [],_=>[]
 | r :: rs,l=>l.take r.toNat :: dX rs (l.drop r.toNat)
def rE (x:fG)(m:aH):Int × List Nat × aH :=
 if (aC m x.a.toNat).cnt < x.b.toNat∨64 < m.hand.length+x.b.toNat then (4,[],m)
 else (0,bQ (aC m x.a.toNat) 0 x.b.toNat,{ m with
  hand:=m.hand ++ fP m.mem (bQ (aC m x.a.toNat) 0 x.b.toNat)
  lines:=m.lines.set x.a.toNat { aC m x.a.toNat with pos:=((aC m x.a.toNat).pos+x.b.toNat) % (aC m x.a.toNat).size,cnt:=(aC m x.a.toNat).cnt - x.b.toNat } })
def pu (x:fG)(m:aH):Int × List Nat × aH :=
 if 64 < m.hand.length+x.b.toNat then (4,[],m)
 else if (rowAt m.fed x.a.toNat).length < x.b.toNat then (2,[],m)
 else (0,[],{ m with hand:=m.hand ++ (rowAt m.fed x.a.toNat).take x.b.toNat,fed:=m.fed.set x.a.toNat ((rowAt m.fed x.a.toNat).drop x.b.toNat) })
def gI (P:ay)(x:fG)(m:aH):aaQ:=jh (partAt P x.a.toNat).tag (partAt P x.a.toNat).params (bB m x.a.toNat).1 (bB m x.a.toNat).2 (dX (bT (partAt P x.a.toNat).tag (partAt P x.a.toNat).params) m.hand)
def pE (P:ay)(x:fG)(m:aH):Int × List Nat × aH :=
 if m.hand.length≠kU (partAt P x.a.toNat) then (4,[],m)
 else if (gI P x m).err≠0 then (3,[],m)
 else (0,[],{ m with hand:=(gI P x m).outs.flatten,bH:=m.bH.set x.a.toNat ((gI P x m).keep,(gI P x m).n) })
def rF (x:fG)(m:aH):Int × List Nat × aH :=
 if m.hand.length < x.b.toNat∨(aC m x.a.toNat).size < (aC m x.a.toNat).cnt+x.b.toNat then (4,[],m)
 else (0,bQ (aC m x.a.toNat) (aC m x.a.toNat).cnt x.b.toNat,{ m with
  mem:=oO m.mem (bQ (aC m x.a.toNat) (aC m x.a.toNat).cnt x.b.toNat) (m.hand.take x.b.toNat)
  lines:=m.lines.set x.a.toNat { aC m x.a.toNat with cnt:=(aC m x.a.toNat).cnt+x.b.toNat }
  hand:=m.hand.drop x.b.toNat })
def mF (x:fG)(m:aH):Int × List Nat × aH :=
 if m.hand.length < x.b.toNat then (4,[],m)
 else (0,[],{ m with out:=m.out.set x.a.toNat (rowAt m.out x.a.toNat ++ m.hand.take x.b.toNat),hand:=m.hand.drop x.b.toNat })
def zF (m:aH):Int × List Nat × aH :=
 if 0 < m.hand.length then (4,[],m) else (1,[],{ m with periods:=m.periods+1 })
def bK (P:ay)(x:fG)(m:aH):Int × List Nat × aH :=
 if x.kind=0 then zF m
 else if x.kind=3 then rE x m
 else if x.kind=4 then pu x m
 else if x.kind=5 then pE P x m
 else if x.kind=6 then rF x m
 else if x.kind=7 then mF x m
 else (0,[],m)
def jB (P:ay)(m:aH):Nat × List Int:=if (bI P.ops m.next).kind=0 then (0,m.cs) else rC P.ops (m.next,m.cs)
def Jc (P:ay)(m:aH)(h:Int)(c:List Nat):OZ:=⟨m.next,(bI P.ops m.next).kind,if (bI P.ops m.next).kind=3∨(bI P.ops m.next).kind=6 then (bI P.ops m.next).a else -1,bU c,h⟩
def aY (P:ay)(m:aH):OZ × aH :=
 match m.last with
 | some e=>({ e with cells:=[] },m)
 | none =>
  if (bK P (bI P.ops m.next) m).1=0∨(bK P (bI P.ops m.next) m).1=1 then
   (Jc P m (bK P (bI P.ops m.next) m).1 (bK P (bI P.ops m.next) m).2.1,{ (bK P (bI P.ops m.next) m).2.2 with next:=(jB P m).1,cs:=(jB P m).2 })
  else if (bK P (bI P.ops m.next) m).1=2 then (Jc P m 2 [],m)
  else (Jc P m (bK P (bI P.ops m.next) m).1 [],{ m with last:=some (Jc P m (bK P (bI P.ops m.next) m).1 []) })
def uD (P:ay)(to:Int):Nat→aH→Int × aH
 | 0,m=>(1,m)
 | f+1,m=>if (m.periods:Int) < to then (if (aY P m).1.halt≠0∧(aY P m).1.halt≠1 then ((aY P m).1.halt,(aY P m).2) else uD P to f (aY P m).2) else (1,m)
theorem ow (P:ay)(x:fG)(m:aH):(bK P x m).1=0∨(bK P x m).1=1∨((bK P x m)=(2,[],m))∨((bK P x m)=(3,[],m))∨((bK P x m)=(4,[],m)):=by
 unfold bK zF rE pu pE rF mF
 repeat' split
 all_goals first | exact .inl rfl | exact .inr (.inl rfl) | exact .inr (.inr (.inl rfl)) | exact .inr (.inr (.inr (.inl rfl))) | exact .inr (.inr (.inr (.inr rfl)))
theorem xB {P:ay}{x:fG}{m:aH}:(bK P x m).1=1→x.kind=0∧(bK P x m).2.2={ m with periods:=m.periods+1 }:=by
 unfold bK zF rE pu pE rF mF
 repeat' split
 all_goals first | (intro h;simp at h;done) | (intro _;exact ⟨by assumption,rfl⟩)
theorem rG {P:ay}{x:fG}{m:aH}:(bK P x m).1=0→x.kind≠0∧(bK P x m).2.2.periods=m.periods∧(bK P x m).2.2.cs=m.cs∧(bK P x m).2.2.next=m.next∧(bK P x m).2.2.last=m.last:=by
 unfold bK zF rE pu pE rF mF
 repeat' split
 all_goals first | (intro h;simp at h;done) | (intro _;exact ⟨by assumption,rfl,rfl,rfl,rfl⟩)
structure tX (P:ay):Prop where
 mem:0≤P.memory∧P.memory≤1024
 counters:0≤P.counters∧P.counters≤17
 ins:0≤P.ins∧P.ins≤16
 outs:0≤P.outs∧P.outs≤16
 rH:P.parts.length≤32
 AR:P.lines.length≤96
 QH:P.ops.length≤131072
 parts:∀ p∈P.parts,aF p.tag p.params
 lines:∀ l∈P.lines,0≤l.base∧0≤l.size∧l.base+l.size≤P.memory∧l.start.length≤l.size
 ops:∀ i (h:i < P.ops.length),cK P i P.ops[i]=true
theorem yI {P:ay}:∀ (L:List fG) (i:Nat) (st:lN) {S:Int},jI P L i st=(S,0)→∀ k (h:k < L.length),cK P (i+k) L[k]=true
 | [],_,_,_,_,k,h=>by simp at h
 | x :: r,i,st,S,h,k,hk=>by
  rw [jI] at h
  by_cases hs:cK P i x=true
  ·
   rw [hs] at h;simp only [Bool.not_true,Bool.false_eq_true,if_false] at h
   by_cases he:dR P x st=0
   ·
    rw [if_neg (by simp [he])] at h;cases k with
    | zero=>exact hs
    | succ k =>
     have:=yI r (i+1) _ h k (by simpa using hk);rw [show i+(k+1)=i+1+k by omega];exact this
   ·
    rw [if_pos he] at h;simp at h;exact absurd h.2 he
  ·
   simp [hs] at h
theorem Dq:∀ l:List eu,gZ l=0→∀ p∈l,aF p.tag p.params
 | [],_,p,hp=>by cases hp
 | q :: r,h,p,hp=>by
  rw [gZ] at h
  by_cases hg:aF q.tag q.params
  ·
   rw [if_pos hg] at h
   rcases List.mem_cons.1 hp with rfl | hp
   ·
    exact hg
   ·
    exact Dq r h p hp
  ·
   rw [if_neg hg] at h;exact absurd h (EA _)
theorem Dr (m:Int):∀ l:List dN,iD m l=0→∀ p∈l,0≤p.base∧0≤p.size∧p.base+p.size≤m∧p.start.length≤p.size
 | [],_,p,hp=>by cases hp
 | q :: r,h,p,hp=>by
  rw [iD] at h
  by_cases hq:rA m q=0
  ·
   rw [if_pos hq] at h
   rcases List.mem_cons.1 hp with rfl | hp
   ·
    unfold rA at hq
    split at hq
    ·
     rename_i h1
     simp only [Bool.and_eq_true,within_iff] at h1
     split at hq
     ·
      omega
     ·
      omega
    ·
     omega
   ·
    exact Dr m r h p hp
  ·
   rw [if_neg hq] at h;exact absurd h hq
theorem rJ {P:ay}{S:Int}(h:bW P=(S,0)):tX P:=by
 unfold bW at h
 split at h
 ·
  rename_i hw
  simp only [Bool.and_eq_true,within_iff] at hw
  split at h
  ·
   simp at h
  ·
   rename_i h1
   split at h
   ·
    rename_i h2;simp at h;exact absurd h.2 h2
   ·
    rename_i h2
    split at h
    ·
     rename_i h3;simp at h;exact absurd h.2 h3
    ·
     rename_i h3
     refine ⟨hw.1.1.1,hw.1.1.2,hw.1.2,hw.2,by omega,by omega,by omega,Dq _ (by omega),Dr _ _ (by omega),fun i hi=>?_⟩;have:=yI _ _ _ h i hi
     rwa [Nat.zero_add] at this
 ·
  simp at h
structure Gv (P:ay) (x:fG):Prop where
 kind:x.kind=0∨x.kind=1∨x.kind=2∨x.kind=3∨x.kind=4∨x.kind=5∨x.kind=6∨x.kind=7
 zero:x.kind=0→x.a=0∧x.b=0
 cnt:x.kind=1∨x.kind=2→0≤x.a∧x.a < P.counters
 times:x.kind=1→1≤x.b∧x.b≤2048
 to:x.kind=2→0≤x.b∧x.b < P.ops.length
 line:x.kind=3∨x.kind=6→0≤x.a∧x.a < P.lines.length
 ins:x.kind=4→0≤x.a∧x.a < P.ins
 outs:x.kind=7→0≤x.a∧x.a < P.outs
 part:x.kind=5→0≤x.a∧x.a < P.parts.length
 rate:x.kind=3∨x.kind=4∨x.kind=6∨x.kind=7→1≤x.b∧x.b≤64
theorem QI {P:ay}{i:Nat}{x:fG}(h:cK P i x=true):Gv P x:=by
 unfold cK at h
 by_cases h0:x.kind=0
 ·
  rw [if_pos h0] at h;simp only [Bool.and_eq_true,decide_eq_true_eq] at h;refine ⟨.inl h0,fun _=>⟨h.1.1,h.1.2⟩,?_,?_,?_,?_,?_,?_,?_,?_⟩ <;> intro hk <;> omega
 ·
  rw [if_neg h0] at h;simp only [Bool.and_eq_true,decide_eq_true_eq] at h;obtain ⟨⟨⟨s1,s2⟩,s3⟩,s4⟩:=h;have hl:∀ k,x.kind=k→jH P x.kind=jH P k:=fun k e=>by rw [e]
  by_cases h1:x.kind=1
  ·
   rw [hl _ h1] at s2 s3 s4;simp [jH] at s2 s3 s4;refine ⟨by omega,?_,?_,?_,?_,?_,?_,?_,?_,?_⟩ <;> intro hk <;> omega
  by_cases h2:x.kind=2
  ·
   rw [hl _ h2] at s2 s3 s4;simp [jH] at s2 s3 s4;refine ⟨by omega,?_,?_,?_,?_,?_,?_,?_,?_,?_⟩ <;> intro hk <;> omega
  by_cases h3:x.kind=3∨x.kind=6
  ·
   have hq:jH P x.kind=(((P.lines.length:Nat):Int),(1:Int),(64:Int)):=by rcases h3 with e | e <;> rw [e] <;> simp [jH]
   rw [hq] at s2 s3 s4;simp only at s2 s3 s4;refine ⟨by omega,?_,?_,?_,?_,?_,?_,?_,?_,?_⟩ <;> intro hk <;> omega
  by_cases h4:x.kind=4
  ·
   rw [hl _ h4] at s2 s3 s4;simp [jH] at s2 s3 s4;refine ⟨by omega,?_,?_,?_,?_,?_,?_,?_,?_,?_⟩ <;> intro hk <;> omega
  by_cases h5:x.kind=5
  ·
   rw [hl _ h5] at s2 s3 s4;simp [jH] at s2 s3 s4;refine ⟨by omega,?_,?_,?_,?_,?_,?_,?_,?_,?_⟩ <;> intro hk <;> omega
  by_cases h7:x.kind=7
  ·
   rw [hl _ h7] at s2 s3 s4;simp [jH] at s2 s3 s4;refine ⟨by omega,?_,?_,?_,?_,?_,?_,?_,?_,?_⟩ <;> intro hk <;> omega
  ·
   unfold jH at s2;rw [if_neg h1,if_neg h2,if_neg h3,if_neg h4,if_neg h7,if_neg h5] at s2;simp only at s2;omega
def Rest (P:ay)(s:Nat × List Int)(d:Nat):Prop:=∃ e,kz P.ops P.counters.toNat s d (e,List.replicate P.counters.toNat 0)∧P.ops[e]?=some ⟨0,0,0⟩∧e+1=P.ops.length
theorem sO {P:ay}{s:Nat × List Int}(h:Rest P s 0):bI P.ops s.1=⟨0,0,0⟩∧s.2=List.replicate P.counters.toNat 0∧s.1+1=P.ops.length:=by
 obtain ⟨e,h1,h2,h3⟩:=h;have h4:s=(e,List.replicate P.counters.toNat 0):=h1.is;subst h4;exact ⟨jN h2,rfl,h3⟩
theorem xC {P:ay}{s:Nat × List Int}{d:Nat}(h:Rest P s d):(bI P.ops s.1).kind=0↔d=0:=by
 constructor
 ·
  intro hk;cases d with
  | zero=>rfl
  | succ d =>
   obtain ⟨e,h1,_,_⟩:=h;exact absurd hk (h1.ok 0 (by omega)).kind
 ·
  rintro rfl;rw [(sO h).1]
theorem VG {P:ay}{s:Nat × List Int}{d:Nat}(h:Rest P s d):s.1 < P.ops.length:=by
 cases d with
 | zero=>have:=(sO h).2.2;omega
 | succ d =>
  obtain ⟨e,h1,_,_⟩:=h;exact (h1.ok 0 (by omega)).lt
theorem Gw (n:Nat):tV n (List.replicate n 0):=⟨List.length_replicate,fun x hx=>by rw [List.eq_of_mem_replicate hx];omega⟩
theorem zU {P:ay}{s:Nat × List Int}{d:Nat}(h:Rest P s d):tV P.counters.toNat s.2:=by
 cases d with
 | zero=>rw [(sO h).2.1];exact Gw _
 | succ d =>
  obtain ⟨e,h1,_,_⟩:=h;exact (h1.ok 0 (by omega)).cs
theorem Dt (ops:List fG)(s:Nat × List Int)(k:Nat):EB ops s (k+1)=EB ops (rC ops s) k:=by
 have:=vI ops s 1 k;rw [Nat.add_comm 1 k] at this;exact this
theorem rest_step {P:ay}{s:Nat × List Int}{d:Nat}(h:Rest P s (d+1)):Rest P (rC P.ops s) d:=by
 obtain ⟨e,h1,h2,h3⟩:=h;refine ⟨e,⟨fun k hk=>?_,?_⟩,h2,h3⟩
 ·
  have:=h1.ok (k+1) (by omega)
  rwa [Dt] at this
 ·
  have:=h1.is
  rwa [Dt] at this
theorem rest_start {P:ay}{S:Int}(h:bW P=(S,0)):1≤S∧S≤131072∧Rest P (0,List.replicate P.counters.toNat 0) (S.toNat - 1):=by
 obtain ⟨m,h1,h2,e,h3,h4,h5⟩:=JK h;refine ⟨by omega,by omega,e,?_,h4,h5⟩;rw [show S.toNat - 1=m by omega];exact h3
structure LOk (P:ay) (l:kT):Prop where
 reg:l.base+l.size≤P.memory.toNat
 cnt:l.cnt≤l.size
 pos:l.pos≤l.size∧(0 < l.size→l.pos < l.size)
structure lH (P:ay) (F s:Nat) (m:aH):Prop where
 mem:m.mem.length=P.memory.toNat
 ZC:∀ x∈m.mem,Fits x
 lines:m.lines.length=P.lines.length
 line:∀ l∈m.lines,LOk P l
 fed:m.fed.length=P.ins.toNat
 AU:∀ r∈m.fed,r.length≤F∧∀ x∈r,Fits x
 out:m.out.length=P.outs.toNat
 uE:∀ r∈m.out,r.length≤64*s∧∀ x∈r,Fits x
 bH:m.bH.length=P.parts.length
 Cn:∀ b∈m.bH,0≤b.2∧b.2≤s∧∀ x∈b.1,Fits x
 hand:m.hand.length≤64∧∀ x∈m.hand,Fits x
 ctl:∃ d,d < 131072∧Rest P (m.next,m.cs) d
 per:m.periods≤s
 last:∀ e,m.last=some e→e.cells=[]∧(e.halt=3∨e.halt=4)∧(0≤e.op∧e.op < 131072)∧(0≤e.kind∧e.kind≤7)∧(-1≤e.line∧e.line < 96)
theorem QJ:Fits 0:=by unfold Fits;omega
theorem pF:∀ (l:List Nat) (ts mem:List Int),(oO mem l ts).length=mem.length
 | [],ts,mem=>by cases ts <;> rfl
 | c :: l,[],mem=>rfl
 | c :: l,t :: ts,mem=>by rw [oO,pF l ts,List.length_set]
theorem Du:∀ (l:List Nat) (ts mem:List Int),(∀ x∈ts,Fits x)→(∀ x∈mem,Fits x)→∀ x∈oO mem l ts,Fits x
 | [],ts,mem,_,h,x,hx=>by cases ts <;> exact h x hx
 | c :: l,[],mem,_,h,x,hx=>h x hx
 | c :: l,t :: ts,mem,ht,h,x,hx=>by
  rw [oO] at hx;refine Du l ts _ (fun y hy=>ht y (List.mem_cons_of_mem _ hy)) (fun y hy=>?_) x hx
  rcases List.mem_or_eq_of_mem_set hy with hy | rfl
  ·
   exact h y hy
  ·
   exact ht y List.mem_cons_self
theorem JL {mem:List Int}(h:∀ x∈mem,Fits x)(l:List Nat):∀ x∈fP mem l,Fits x:=by
 intro x hx;obtain ⟨c,hc,rfl⟩:=List.mem_map.1 hx
 by_cases hl:c < mem.length
 ·
  rw [List.getElem?_eq_getElem hl];exact h _ (List.getElem_mem hl)
 ·
  rw [List.getElem?_eq_none (by omega)];exact QJ
theorem eF (l:kT)(a n:Nat):(bQ l a n).length=n:=by simp [bQ]
theorem pG (mem:List Int)(l:List Nat):(fP mem l).length=l.length:=by simp [fP]
theorem pI {l:List (List Int)}{Q:List Int→Prop}(h:∀ r∈l,Q r)(h0:Q [])(k:Nat):Q (rowAt l k):=by
 unfold rowAt
 by_cases hk:k < l.length
 ·
  rw [List.getElem?_eq_getElem hk];exact h _ (List.getElem_mem hk)
 ·
  rw [List.getElem?_eq_none (by omega)];exact h0
theorem lI {P:ay}{m:aH}(h:∀ l∈m.lines,LOk P l)(k:Nat):LOk P (aC m k):=by
 unfold aC
 by_cases hk:k < m.lines.length
 ·
  rw [List.getElem?_eq_getElem hk];exact h _ (List.getElem_mem hk)
 ·
  rw [List.getElem?_eq_none (by omega)];exact ⟨Nat.zero_le _,Nat.le_refl _,Nat.le_refl _,fun h=>by cases h⟩
theorem sQ {α:Type}{Q:α→Prop}{l:List α}(h:∀ x∈l,Q x){k:Nat}{v:α}(hv:Q v):∀ x∈l.set k v,Q x:=fun x hx=>by
 rcases List.mem_or_eq_of_mem_set hx with hx | rfl
 ·
  exact h x hx
 ·
  exact hv
theorem vJ {l:List Int}(h:∀ x∈l,Fits x)(n:Nat):∀ x∈l.take n,Fits x:=fun x hx=>h x (List.mem_of_mem_take hx)
theorem vK {l:List Int}(h:∀ x∈l,Fits x)(n:Nat):∀ x∈l.drop n,Fits x:=fun x hx=>h x (List.mem_of_mem_drop hx)
theorem kC:∀ (rs:List Int) {l:List Int},(∀ x∈l,Fits x)→∀ r∈dX rs l,∀ x∈r,Fits x
 | [],_,_,r,hr=>by cases hr
 | k :: rs,l,h,r,hr=>by
  rcases List.mem_cons.1 hr with rfl | hr
  ·
   exact vJ h _
  ·
   exact kC rs (vK h _) r hr
def iM (P:ay):Prop:=∀ p∈P.parts,∀ x∈p.params,Fits x
theorem jC {P:ay}{Q:eu→Prop}(h:∀ p∈P.parts,Q p){k:Nat}(hk:k < P.parts.length):Q (partAt P k):=by
 unfold partAt;rw [List.getElem?_eq_getElem hk];exact h _ (List.getElem_mem hk)
theorem Gx {m:aH}{Q:List Int × Int→Prop}(h:∀ p∈m.bH,Q p){k:Nat}(hk:k < m.bH.length):Q (bB m k):=by
 unfold bB;rw [List.getElem?_eq_getElem hk];exact h _ (List.getElem_mem hk)
theorem lH.later {P:ay}{F s:Nat}{m:aH}(h:lH P F s m):lH P F (s+1) m :=
 { h with uE:=fun r hr=>⟨by have:=(h.uE r hr).1;omega,(h.uE r hr).2⟩,Cn:=fun b hb=>by have:=h.Cn b hb;exact ⟨this.1,by omega,this.2.2⟩,per:=by have:=h.per;omega }
theorem QK {P:ay}{F s:Nat}{m:aH}{x:fG}(hP:tX P)(hf:iM P)(h:lH P F s m)(hx:Gv P x):lH P F (s+1) (bK P x m).2.2:=by
 have H:=h.later;unfold bK
 by_cases h0:x.kind=0
 ·
  rw [if_pos h0,zF]
  split
  ·
   exact H
  ·
   exact { H with per:=by have:=h.per;show m.periods+1≤s+1;omega }
 rw [if_neg h0]
 by_cases h3:x.kind=3
 ·
  rw [if_pos h3,rE]
  split
  ·
   exact H
  ·
   rename_i hno
   have hl:=lI h.line x.a.toNat;have hr:=hx.rate (.inl h3);refine { H with lines:=by rw [← h.lines];exact List.length_set,line:=sQ h.line ⟨hl.reg,by have:=hl.cnt;show (aC m x.a.toNat).cnt - x.b.toNat≤(aC m x.a.toNat).size;omega,?_⟩,hand:=⟨?_,fun y hy=>?_⟩ }
   ·
    have h1:=hl.cnt;have h2:0 < (aC m x.a.toNat).size:=by omega
    exact ⟨Nat.le_of_lt (Nat.mod_lt _ h2),fun _=>Nat.mod_lt _ h2⟩
   ·
    show (_ ++ _:List Int).length≤64
    rw [List.length_append,pG,eF];omega
   ·
    rcases List.mem_append.1 hy with hy | hy
    ·
     exact h.hand.2 y hy
    ·
     exact JL h.ZC _ y hy
 rw [if_neg h3]
 by_cases h4:x.kind=4
 ·
  rw [if_pos h4,pu]
  split
  ·
   exact H
  ·
   split
   ·
    exact H
   ·
    have hr:=pI (Q:=fun r:List Int=>r.length≤F∧∀ x∈r,Fits x) h.AU ⟨Nat.zero_le _,fun _ h=>by cases h⟩ x.a.toNat;refine { H with fed:=by rw [← h.fed];exact List.length_set,AU:=sQ (Q:=fun r:List Int=>r.length≤F∧∀ x∈r,Fits x) h.AU ⟨by rw [List.length_drop];have:=hr.1;omega,vK hr.2 _⟩,hand:=⟨?_,fun y hy=>?_⟩ }
    ·
     show (_ ++ _:List Int).length≤64
     rw [List.length_append,List.length_take];omega
    ·
     rcases List.mem_append.1 hy with hy | hy
     ·
      exact h.hand.2 y hy
     ·
      exact vJ hr.2 _ y hy
 rw [if_neg h4]
 by_cases h5:x.kind=5
 ·
  rw [if_pos h5,pE]
  split
  ·
   exact H
  ·
   split
   ·
    exact H
   ·
    have ha:=hx.part h5;have hk:x.a.toNat < P.parts.length:=by omega
    have hb:=Gx (Q:=fun b=>0≤b.2∧b.2≤s∧∀ x∈b.1,Fits x) h.Cn (k:=x.a.toNat) (by rw [h.bH];exact hk);have hs:=Ev (t:=(partAt P x.a.toNat).tag) (n:=(bB m x.a.toNat).2) (jC hP.parts hk) (jC hf hk) hb.2.2 (kC (bT (partAt P x.a.toNat).tag (partAt P x.a.toNat).params) h.hand.2)
    change (∀ l∈(gI P x m).outs,_)∧(gI P x m).outs.flatten.length≤64∧(∀ x_1∈(gI P x m).keep,_)∧_≤(gI P x m).n∧(gI P x m).n≤_ at hs
    refine { H with bH:=by rw [← h.bH];exact List.length_set,Cn:=sQ (Q:=fun b:List Int × Int=>0≤b.2∧b.2≤((s+1:Nat):Int)∧∀ x∈b.1,Fits x) H.Cn ⟨?_,?_,hs.2.2.1⟩,hand:=⟨hs.2.1,fun y hy=>?_⟩ }
    ·
     have:=hb.1;have:=hs.2.2.2;show 0≤(gI P x m).n;omega
    ·
     have:=hb.2.1;have:=hs.2.2.2;show (gI P x m).n≤_;omega
    ·
     obtain ⟨l,hl,hy⟩:=List.mem_flatten.1 hy;exact hs.1 l hl y hy
 rw [if_neg h5]
 by_cases h6:x.kind=6
 ·
  rw [if_pos h6,rF]
  split
  ·
   exact H
  ·
   rename_i hno
   have hl:=lI h.line x.a.toNat;refine { H with mem:=by rw [← h.mem];exact pF _ _ _,ZC:=Du _ _ _ (vJ h.hand.2 _) h.ZC,lines:=by rw [← h.lines];exact List.length_set,line:=sQ h.line ⟨hl.reg,by show (aC m x.a.toNat).cnt+x.b.toNat≤(aC m x.a.toNat).size;omega,hl.pos⟩,hand:=⟨by show (m.hand.drop _).length≤64;rw [List.length_drop];have:=h.hand.1;omega,vK h.hand.2 _⟩ }
 rw [if_neg h6]
 by_cases h7:x.kind=7
 ·
  rw [if_pos h7,mF]
  split
  ·
   exact H
  ·
   have hb:=hx.rate (.inr (.inr (.inr h7)));have hr:=pI (Q:=fun r:List Int=>r.length≤64*s∧∀ x∈r,Fits x) h.uE ⟨Nat.zero_le _,fun _ h=>by cases h⟩ x.a.toNat;refine { H with out:=by rw [← h.out];exact List.length_set,uE:=sQ (Q:=fun r:List Int=>r.length≤64*(s+1)∧∀ x∈r,Fits x) H.uE ⟨?_,fun y hy=>?_⟩,hand:=⟨by show (m.hand.drop _).length≤64;rw [List.length_drop];have:=h.hand.1;omega,vK h.hand.2 _⟩ }
   ·
    rw [List.length_append,List.length_take];have:=hr.1;omega
   ·
    rcases List.mem_append.1 hy with hy | hy
    ·
     exact hr.2 y hy
    ·
     exact vJ h.hand.2 _ y hy
 rw [if_neg h7];exact H
theorem xD {P:ay}{S:Int}(hS:bW P=(S,0)){m:aH}{d:Nat}(h:Rest P (m.next,m.cs) d):(∃ d',d=d'+1∧Rest P (jB P m) d')∨(d=0∧jB P m=(0,List.replicate P.counters.toNat 0)∧Rest P (jB P m) (S.toNat - 1)):=by
 unfold jB;cases d with
 | zero =>
  have h1:=sO h;have h2:=h1.2.1;simp only at h1 h2;rw [if_pos (by rw [h1.1]),h2];exact .inr ⟨rfl,rfl,(rest_start hS).2.2⟩
 | succ d =>
  have hk:¬ (bI P.ops m.next).kind=0:=fun e=>by have:=(xC h).1 e;omega
  rw [if_neg hk];exact .inl ⟨d,rfl,rest_step h⟩
theorem sS {P:ay}(hP:tX P){s:Nat × List Int}{d:Nat}(h:Rest P s d):s.1 < P.ops.length∧P.ops[s.1]?=some (bI P.ops s.1)∧Gv P (bI P.ops s.1):=by
 have hl:=VG h;have e:P.ops[s.1]?=some (P.ops[s.1]):=List.getElem?_eq_getElem hl;have e2:=jN e;rw [e2];exact ⟨hl,e,QI (hP.ops _ hl)⟩
theorem ZF {P:ay}(hP:tX P){m:aH}{d:Nat}(hr:Rest P (m.next,m.cs) d)(h:Int)(c:List Nat):(0≤(Jc P m h c).op∧(Jc P m h c).op < 131072)∧(0≤(Jc P m h c).kind∧(Jc P m h c).kind≤7)∧(-1≤(Jc P m h c).line∧(Jc P m h c).line < 96):=by
 obtain ⟨h1,_,h3⟩:=sS hP hr;have h4:=hP.QH;have h5:=hP.AR;have h6:=h3.kind;have h7:=h3.line;unfold Jc;simp only at h1 h6 h7 ⊢;refine ⟨by omega,by omega,?_⟩
 split
 ·
  have:=h7 (by assumption);omega
 ·
  omega
theorem pJ {P:ay}{S:Int}{F s:Nat}{m:aH}(hS:bW P=(S,0))(hf:iM P)(h:lH P F s m):lH P F (s+1) (aY P m).2:=by
 have hP:=rJ hS;obtain ⟨d,hd,hr⟩:=h.ctl;have hb:=rest_start hS;unfold aY
 rcases hlast:m.last with _ | e
 ·
  simp only;have hD:=QK hP hf h (sS hP hr).2.2
  split
  ·
   refine { hD with ctl:=?_ }
   rcases xD hS hr with ⟨d',rfl,h1⟩ | ⟨_,_,h1⟩
   ·
    exact ⟨d',by omega,h1⟩
   ·
    exact ⟨_,by omega,h1⟩
  ·
   rename_i hno
   split
   ·
    exact h.later
   ·
    rename_i QL
    refine { h.later with last:=?_ };intro e he;obtain rfl:=Option.some.inj he;refine ⟨rfl,?_,ZF hP hr _ _⟩
    rcases ow P (bI P.ops m.next) m with h1 | h1 | h1 | h1 | h1
    ·
     exact absurd (.inl h1) hno
    ·
     exact absurd (.inr h1) hno
    ·
     exact absurd (by rw [h1]) QL
    ·
     rw [h1];exact .inl rfl
    ·
     rw [h1];exact .inr rfl
 ·
  exact h.later
structure acd (P:ay) (S:Int) (m m':aH) (d:Nat) (h:Int):Prop where
 going:h=0→∃ d',d=d'+1∧Rest P (m'.next,m'.cs) d'∧m'.periods=m.periods∧m'.last=none
 done:h=1→d=0∧m'.next=0∧m'.cs=List.replicate P.counters.toNat 0∧Rest P (m'.next,m'.cs) (S.toNat - 1)∧m'.periods=m.periods+1∧m'.last=none
 stops:h≠0→h≠1→m'.periods=m.periods∧m'.next=m.next∧m'.cs=m.cs
theorem AV {P:ay}{S:Int}(hS:bW P=(S,0)){m:aH}{d:Nat}(hl:∀ e,m.last=some e→e.halt≠0∧e.halt≠1)(hr:Rest P (m.next,m.cs) d):acd P S m (aY P m).2 d (aY P m).1.halt:=by
 unfold aY
 rcases hlast:m.last with _ | e
 ·
  simp only
  split
  ·
   rename_i hgo
   refine ⟨fun h=>?_,fun h=>?_,fun h1 h2=>absurd hgo (by rintro (h | h) <;> first | exact h1 h | exact h2 h)⟩
   ·
    obtain ⟨k,p1,p2,p3,p4⟩:=rG h
    rcases xD hS hr with ⟨d',h1,h2⟩ | ⟨h1,_,_⟩
    ·
     exact ⟨d',h1,h2,p1,p4.trans hlast⟩
    ·
     exact absurd ((xC hr).2 h1) k
   ·
    obtain ⟨k,p1⟩:=xB h
    rcases xD hS hr with ⟨d',h1,h2⟩ | ⟨h1,h2,h3⟩
    ·
     have:=(xC hr).1 k;omega
    ·
     refine ⟨h1,congrArg Prod.fst h2,congrArg Prod.snd h2,h3,?_,?_⟩
     ·
      show (bK P (bI P.ops m.next) m).2.2.periods=_;rw [p1]
     ·
      show (bK P (bI P.ops m.next) m).2.2.last=_;rw [p1];exact hlast
  ·
   rename_i hno
   split
   ·
    exact ⟨fun h=>(by cases h),fun h=>(by cases h),fun _ _=>⟨rfl,rfl,rfl⟩⟩
   ·
    exact ⟨fun h=>absurd (.inl h) hno,fun h=>absurd (.inr h) hno,fun _ _=>⟨rfl,rfl,rfl⟩⟩
 ·
  have:=hl e hlast;exact ⟨fun h=>absurd h this.1,fun h=>absurd h this.2,fun _ _=>⟨rfl,rfl,rfl⟩⟩
def meas (S:Nat)(to:Int)(m:aH)(d:Nat):Nat:=if (m.periods:Int) < to then (to - m.periods - 1).toNat*S+d+1 else 0
structure Ready (P:ay) (m:aH) (d:Nat):Prop where
 rest:Rest P (m.next,m.cs) d
 last:∀ e,m.last=some e→e.halt=3∨e.halt=4
theorem Ready.halt {P:ay}{m:aH}{d:Nat}(h:Ready P m d):∀ e,m.last=some e→e.halt≠0∧e.halt≠1:=fun e he=>by
 have:=h.last e he;omega
theorem uF {P:ay}{m:aH}{d:Nat}(h:Ready P m d):∀ e,(aY P m).2.last=some e→e.halt=3∨e.halt=4:=by
 intro e he;unfold aY at he
 rcases hl:m.last with _ | e0
 ·
  rw [hl] at he;simp only at he
  split at he
  ·
   rename_i hgo
   rcases hgo with hgo | hgo
   ·
    have:=(rG hgo).2.2.2.2;simp only [this,hl] at he;cases he
   ·
    have:=(xB hgo).2;simp only [this,hl] at he;cases he
  ·
   split at he
   ·
    rw [hl] at he;cases he
   ·
    simp only [Option.some.injEq] at he;subst he
    rcases ow P (bI P.ops m.next) m with h1 | h1 | h1 | h1 | h1
    ·
     rename_i hno _;exact absurd (.inl h1) hno
    ·
     rename_i hno _;exact absurd (.inr h1) hno
    ·
     rename_i QL;exact absurd (by rw [h1]) QL
    ·
     rw [h1];exact .inl rfl
    ·
     rw [h1];exact .inr rfl
 ·
  rw [hl] at he;simp only at he;exact h.last e he
theorem jX {P:ay}{S:Int}(hS:bW P=(S,0)){m:aH}{d:Nat}(h:Ready P m d)(to:Int)(hp:(m.periods:Int) < to)(hd:d < S.toNat)(hgo:(aY P m).1.halt=0∨(aY P m).1.halt=1) :
  ∃ d',d' < S.toNat∧Ready P (aY P m).2 d'∧meas S.toNat to m d=meas S.toNat to (aY P m).2 d'+1∧((aY P m).1.halt=0→d=d'+1∧(aY P m).2.periods=m.periods)∧((aY P m).1.halt=1→d=0∧(aY P m).2.periods=m.periods+1∧d'+1=S.toNat∧(aY P m).2.cs=List.replicate P.counters.toNat 0):=by
 have hb:=rest_start hS;have w:=AV hS h.halt h.rest;have hla:=uF h
 rcases hgo with hgo | hgo
 ·
  obtain ⟨d',e1,h2,h3,_⟩:=w.going hgo;refine ⟨d',by omega,⟨h2,hla⟩,?_,fun _=>⟨e1,h3⟩,fun h1=>by omega⟩;unfold meas;rw [h3,if_pos hp,if_pos hp];omega
 ·
  obtain ⟨e1,h2,h3,h4,h5,_⟩:=w.done hgo;refine ⟨S.toNat - 1,by omega,⟨h4,hla⟩,?_,fun h1=>by omega,fun _=>⟨e1,h5,by omega,h3⟩⟩;unfold meas;rw [h5,if_pos hp,e1]
  by_cases hq:((m.periods+1:Nat):Int) < to
  ·
   rw [if_pos hq];have e2:(to - (m.periods:Int) - 1).toNat=(to - ((m.periods+1:Nat):Int) - 1).toNat+1:=by omega
   rw [e2,Nat.add_mul];omega
  ·
   rw [if_neg hq];have e2:(to - (m.periods:Int) - 1).toNat=0:=by omega
   rw [e2];omega
theorem rM {S:Nat}{to:Int}{m:aH}{d:Nat}:0 < meas S to m d↔(m.periods:Int) < to:=by
 unfold meas
 split <;> omega
theorem EC {S:Nat}{to:Int}{m:aH}{d:Nat}(hd:d < S):meas S to m d≤(to - m.periods).toNat*S:=by
 unfold meas
 split
 ·
  have e:(to - (m.periods:Int)).toNat=(to - m.periods - 1).toNat+1:=by omega
  rw [e,Nat.add_mul];omega
 ·
  omega
def eU (P:ay)(S:Int)(to:Int)(m:aH):Int × aH:=uD P to ((to - m.periods).toNat*S.toNat) m
theorem yJ {P:ay}{S:Int}(hS:bW P=(S,0))(to:Int):∀ (f:Nat) {m:aH} {d:Nat},Ready P m d→d < S.toNat→meas S.toNat to m d≤f→uD P to f m=uD P to (meas S.toNat to m d) m
 | 0,m,d,_,_,hf=>by rw [show meas S.toNat to m d=0 by omega]
 | f+1,m,d,h,hd,hf=>by
  by_cases hp:(m.periods:Int) < to
  ·
   have hm:=rM (S:=S.toNat) (d:=d).2 hp;obtain ⟨k,hk⟩:∃ k,meas S.toNat to m d=k+1:=⟨meas S.toNat to m d - 1,by omega⟩
   rw [hk,uD,uD,if_pos hp,if_pos hp]
   split
   ·
    rfl
   ·
    rename_i hgo
    obtain ⟨d',h1,h2,h3,_⟩:=jX hS h to hp hd (by omega);have e:k=meas S.toNat to (aY P m).2 d':=by omega
    rw [e];exact yJ hS to f h2 h1 (by omega)
  ·
   have e0:meas S.toNat to m d=0:=by have:=rM (S:=S.toNat) (to:=to) (m:=m) (d:=d);omega
   rw [e0,uD,uD,if_neg hp]
theorem Dv {P:ay}{S:Int}(hS:bW P=(S,0))(to:Int){m:aH}{d:Nat}(h:Ready P m d)(hd:d < S.toNat):eU P S to m=uD P to (meas S.toNat to m d) m:=yJ hS to _ h hd (EC hd)
theorem rO {P:ay}{S:Int}{to:Int}{m:aH}(hp:¬ (m.periods:Int) < to):eU P S to m=(1,m):=by
 unfold eU;rw [show (to - (m.periods:Int)).toNat=0 by omega,Nat.zero_mul,uD]
theorem yK {P:ay}{S:Int}(hS:bW P=(S,0)){to:Int}{m:aH}{d:Nat}(h:Ready P m d)(hd:d < S.toNat)(hp:(m.periods:Int) < to) :
  eU P S to m=if (aY P m).1.halt≠0∧(aY P m).1.halt≠1 then ((aY P m).1.halt,(aY P m).2) else eU P S to (aY P m).2:=by
 rw [Dv hS to h hd];have hm:=(rM (S:=S.toNat) (to:=to) (m:=m) (d:=d)).2 hp;obtain ⟨k,hk⟩:∃ k,meas S.toNat to m d=k+1:=⟨meas S.toNat to m d - 1,by omega⟩
 rw [hk,uD,if_pos hp]
 split
 ·
  rfl
 ·
  rename_i hgo
  obtain ⟨d',h1,h2,h3,_⟩:=jX hS h to hp hd (by omega);rw [Dv hS to h2 h1,show k=meas S.toNat to (aY P m).2 d' by omega]
def Gy (mem:List Int)(l:dN):List Int:=mem.take l.base.toNat ++ l.start ++ mem.drop (l.base.toNat+l.start.length)
def dH (P:ay)(k:Nat):List Int:=(P.lines.take k).foldl Gy (List.replicate P.memory.toNat 0)
def dZ (l:dN):kT:=⟨l.base.toNat,l.size.toNat,0,l.start.length⟩
def newP (P:ay):aH:=⟨dH P P.lines.length,P.lines.map dZ,List.replicate P.ins.toNat [],List.replicate P.outs.toNat [],P.parts.map fun p=>(eT p.tag p.params,0),List.replicate P.counters.toNat 0,[],0,0,none⟩
def Gz (P:ay):Prop:=∀ l∈P.lines,∀ x∈l.start,Fits x
theorem QM {mem:List Int}{l:dN}{n:Nat}(h:mem.length=n)(hb:l.base.toNat+l.start.length≤n):(Gy mem l).length=n:=by
 unfold Gy;rw [List.length_append,List.length_append,List.length_take,List.length_drop];omega
theorem GD {P:ay}(hP:tX P){l:dN}(hl:l∈P.lines):l.base.toNat+l.start.length≤P.memory.toNat:=by
 have h1:=hP.lines l hl;omega
theorem oz {P:ay}{k:Nat}(hk:k < P.lines.length):dH P (k+1)=Gy (dH P k) P.lines[k]:=by
 unfold dH;rw [List.take_succ_eq_append_getElem hk,List.foldl_append];rfl
theorem qm {P:ay}(hP:tX P):∀ k,k≤P.lines.length→(dH P k).length=P.memory.toNat
 | 0,_=>by simp [dH]
 | k+1,hk=>by
  rw [oz (by omega)];exact QM (qm hP k (by omega)) (GD hP (List.getElem_mem _))
theorem yL {P:ay}(hs:Gz P):∀ k,k≤P.lines.length→∀ x∈dH P k,Fits x
 | 0,_,x,hx=>by
  unfold dH at hx;rw [List.take_zero,List.foldl_nil] at hx;rw [List.eq_of_mem_replicate hx];exact QJ
 | k+1,hk,x,hx=>by
  rw [oz (by omega),Gy] at hx;have ih:=yL hs k (by omega)
  rcases List.mem_append.1 hx with hx | hx
  ·
   rcases List.mem_append.1 hx with hx | hx
   ·
    exact ih x (List.mem_of_mem_take hx)
   ·
    exact hs _ (List.getElem_mem _) x hx
  ·
   exact ih x (List.mem_of_mem_drop hx)
theorem AX {P:ay}{S:Int}(hS:bW P=(S,0)):Ready P (newP P) (S.toNat - 1):=⟨(rest_start hS).2.2,fun e he=>by cases he⟩
theorem K8 {P:ay}{S:Int}{F:Nat}(hS:bW P=(S,0))(hf:iM P)(hs:Gz P):lH P F 0 (newP P):=by
 have hP:=rJ hS;have hb:=rest_start hS;refine ⟨qm hP _ (Nat.le_refl _),yL hs _ (Nat.le_refl _),List.length_map _,fun l hl=>?_,List.length_replicate,fun r hr=>?_,List.length_replicate,fun r hr=>?_,List.length_map _,fun b hb=>?_,⟨Nat.zero_le _,fun _ h=>by cases h⟩,⟨S.toNat - 1,by omega,hb.2.2⟩,Nat.le_refl _,fun e he=>by cases he⟩
 ·
  obtain ⟨q,hq,rfl⟩:=List.mem_map.1 hl;have h1:=hP.lines q hq;refine ⟨?_,?_,Nat.zero_le _,fun h=>h⟩
  ·
   show q.base.toNat+q.size.toNat≤_
   omega
  ·
   show q.start.length≤q.size.toNat
   omega
 ·
  rw [List.eq_of_mem_replicate hr];exact ⟨Nat.zero_le _,fun _ h=>by cases h⟩
 ·
  rw [List.eq_of_mem_replicate hr];exact ⟨Nat.zero_le _,fun _ h=>by cases h⟩
 ·
  obtain ⟨p,hp,rfl⟩:=List.mem_map.1 hb;exact ⟨Int.le_refl _,Int.le_refl _,JA (hP.parts p hp) (hf p hp)⟩
theorem MK {w w':World}{B:Nat}{ao:Option Addr}{vs:List Value}(hb:Below B w w')(h:∀ ad,ao=some ad→∀ j u,vs[j]?=some u→w.cell? (ad.add j)=some u)(hB:∀ k,k < w.heap.size→k < B:=by intro k hk;exact hk):∀ ad,ao=some ad→∀ j u,vs[j]?=some u→w'.cell? (ad.add j)=some u:=fun ad had j u hu =>
 (hb.cell (hB _ (World.block_lt_of_cell? _ _ (h ad had j u hu)))).trans (h ad had j u hu)
theorem QN (w:World)(zs:List Int)(ao:Option Addr)(zc:Nat)(hz:zs.length≤17600000000000)(hnone:ao=none→zs.length=0)(hcz:∀ ad,ao=some ad→∀ j u,(zs.map (Value.int .i64))[j]?=some u→w.cell? (ad.add j)=some u) :
  Calls Tryz.prog 15 #[.slice ao zs.length zc] w fun e w'=>∃ g cap,e=.returned (.slice (some ⟨g,0,none⟩) zs.length cap) ∧
   w'.ownsRow w.heap.size 3 1 (.slice (some ⟨g,0,none⟩) (zs.length+4) cap) (zs.length+4) ((zs ++ List.replicate 4 (-7770777)).map (Value.int .i64))∧Below w.heap.size w w':=by
 obtain ⟨i0,hi,hz0,hz1,hz2⟩:=info_parts bJ;have HZ:=Lib.hid hz;have lV:=Lib.hid hnone;have Hcz:=Lib.hid hcz;have hzi:(zs.length:Int)+4≤4611686018427387904:=by omega
 clear hz hnone hcz
 go_enter Tryz.func15,Tryz.ntmps15
 obtain ⟨w1,hr,hown,hg⟩:=run_make_own (P:=Tryz.prog) w w.heap.size 42 3 i0 _ 1 Tryz.underlying42 hi hz0 hz1 .i64 .i64 (zs.length+4) (by rw [hz2];have:=HZ.out;omega) (by have:=HZ.out;unfold maxLen;omega) (Nat.le_refl _);have hcast:((zs.length+4:Nat):Int)=(zs.length:Int)+4:=by omega
 rw [hcast] at hr
 go_wp2_with (at_builtin;refine aM ?_)
 refine bR ?_;have hm1:aI (fun _=>False) w w1:=(aI.refl (fun _=>False) w).grown hg (fun k hk _=>by simp at hk);have hsz1:=hm1.size;have aaU:∀ ad,ao=some ad→∀ j u,(zs.map (Value.int .i64))[j]?=some u→w1.cell? (ad.add j)=some u:=MK (Am hm1) Hcz.out
 refine aR rfl _ _ 42 rfl w.heap.size 3 i0 _ 1 8 Tryz.underlying42 hi hz0 hz1 hz2 rfl (.slice (some ⟨w.heap.size,0,none⟩) 0 (zs.length+4)) 0 [] rfl hown ao zs.length zc (zs.map (Value.int .i64)) rfl (by simp) lV.out aaU (gT zs) (by have:=HZ.out;unfold maxLen;omega) (aZ (by have:=HZ.out;omega)) hsz1 ?_;intro v2 w2 g1 g20 _ g4;have g2:w1.grownBy w2 (Value.slice (some ⟨w.heap.size,0,none⟩) 0 (zs.length+4)).ownBlock:=⟨g20.os,g20.tape,g20.output,g20.size,g20.block⟩;have hb2:Below w.heap.size w w2:=(hm1.below (Nat.le_refl _) (fun _ _ h=>h)).trans (((aI.refl (fun k=>k=w.heap.size) w1).grown g2 (fun k hk _=>(Option.some.inj hk).symm)).below hsz1 (fun k hk e=>by omega));simp only [Nat.zero_add,List.nil_append] at g1;have hT:∃ v n,v2=v∧n=zs.length∧w2.ownsRow w.heap.size 3 1 v n ((zs ++ List.replicate 0 (-7770777)).map (Value.int .i64)):=⟨_,_,rfl,rfl,by simpa using g1⟩
 clear g20 g2 g4 hown hg hr hcast aaU
 go_wp2_with fail
 go_loopw [3,4] (fun v i wr=>∃ k:Nat,k≤4∧i=.int .i64 k∧wr.ownsRow w.heap.size 3 1 v (zs.length+k) ((zs ++ List.replicate k (-7770777)).map (Value.int .i64))∧Below w.heap.size w wr) (fun _ i _=>4 - (intOf i).toNat)
 case atStart=>exact ⟨0,by omega,rfl,by simpa using g1,hb2⟩
 case round =>
  clear hT g1 hb2;obtain ⟨k,hk,rfl,hrow,hbw⟩:=hrel;have hsz:=hbw.size;obtain ⟨sv,cv,rfl⟩:=aB hrow
  by_cases hlt:k < 4
  ·
   have hki:(k:Int) < 4:=by omega
   go_wp2_with (at_builtin;refine aM ?_)
   refine bR ?_;refine aR rfl _ _ 42 rfl w.heap.size 3 i0 _ 1 8 Tryz.underlying42 hi hz0 hz1 hz2 rfl (.slice sv (zs.length+k) cv) (zs.length+k) _ rfl (hrow.alloc (.cells #[.int .i64 (-7770777)] 3)) (some ⟨wr.heap.size,0,none⟩) 1 1 [.int .i64 (-7770777)] rfl rfl (fun h=>by cases h) (bA wr [.int .i64 (-7770777)] 3) (by simp [Value.oneCell']) (by have:=HZ.out;unfold maxLen;omega) (aZ (by have:=HZ.out;omega)) (gX hsz _) ?_;intro v5 w5 k1 k20 _ _;have k2:(wr.alloc (.cells #[.int .i64 (-7770777)] 3)).grownBy w5 (Value.slice sv (zs.length+k) cv).ownBlock:=⟨k20.os,k20.tape,k20.output,k20.size,k20.block⟩;have hb5:=hbw.trans (dW hrow k2 hsz);have k3:w5.ownsRow w.heap.size 3 1 v5 (zs.length+(k+1)) ((zs ++ List.replicate (k+1) (-7770777)).map (Value.int .i64)):=by
    rw [List.replicate_succ',← List.append_assoc,List.map_append];exact k1
   clear k1 k20 k2 hrow;go_wp2;go_roundw
   case rel=>exact ⟨k+1,by omega,by go_num,k3,hb5⟩
   case measure=>simp [intOf];omega
  ·
   obtain rfl:k=4:=by omega
   obtain ⟨_,hcap,g,hg,rfl,_⟩:=bN hrow (by simp);have iK:(zs.length:Int)≤cv:=by omega
   go_wp2;go_ret
   exact ⟨g,cv,rfl,by simpa using hrow,hbw⟩
def yM (w:World)(g n cap:Nat)(zs:List Int):Prop :=
 n=zs.length∧n+4≤cap∧g < w.heap.size∧(∀ k,k < n→w.cell? ⟨g,k,none⟩=some (.int .i64 (zs[k]?.getD 0)))∧∀ k,n≤k→k < n+4→w.cell? ⟨g,k,none⟩=some (.int .i64 (-7770777))
theorem Co {w:World}{base g cap:Nat}{zs:List Int}(h:w.ownsRow base 3 1 (.slice (some ⟨g,0,none⟩) (zs.length+4) cap) (zs.length+4) ((zs ++ List.replicate 4 (-7770777)).map (Value.int .i64))):yM w g zs.length cap zs:=by
 obtain ⟨_,hcap,g',_,e,hc,_,hg⟩:=bN h (by simp);cases e
 refine ⟨rfl,hcap,hg,fun k hk=>hc k _ ?_,fun k h1 h2=>hc k _ ?_⟩
 ·
  simp [List.getElem?_append_left,hk]
 ·
  rw [List.getElem?_map,List.getElem?_append_right h1,List.getElem?_replicate,if_pos (by omega)];rfl
theorem yM.below {w w':World}{g n cap:Nat}{zs:List Int}(h:yM w g n cap zs)(hb:Below w.heap.size w w'):yM w' g n cap zs :=
 ⟨h.1,h.2.1,Nat.lt_of_lt_of_le h.2.2.1 hb.size,fun k hk=>cell_later hb (h.2.2.2.1 k hk),fun k h1 h2=>cell_later hb (h.2.2.2.2 k h1 h2)⟩
theorem yM.has {w:World}{g n cap c:Nat}{zs:List Int}(h:yM w g n cap zs)(hc:n≤c):Has w (.slice (some ⟨g,0,none⟩) n c) (aV zs):=by
 obtain ⟨rfl,_,hg,hcl,_⟩:=h
 by_cases hp:0 < zs.length
 ·
  exact .inr ⟨by simpa using hp,g,0,c,by simp,by simpa using hc,hg,rfl,fun k hk=>by
   have hk':k < zs.length:=by simpa using hk
   rw [iy hk',Nat.zero_add];exact hcl k hk'⟩
 ·
  obtain rfl:zs=[]:=List.eq_nil_of_length_eq_zero (by omega);exact .inl ⟨rfl,_,c,rfl⟩
def VH (w:World)(l:List Int)(e:Ending)(w':World):Prop:=∃ v,e=.returned v∧w'.ownsRow w.heap.size 3 1 v l.length (aV l)∧Below w.heap.size w w'
theorem iE {o:Col}{c:Nat}(w:World)(ao:Option Addr)(n cap:Nat)(l:List Int)(h:Ints w o c (.slice ao n cap) l)(hn:l.length≤17600000000000):Calls Tryz.prog 56 #[.slice ao n cap] w (VH w l):=by
 obtain ⟨i0,hi,hz0,hz1,hz2⟩:=info_parts bJ;obtain ⟨hnone,hnews⟩:=h.news;obtain rfl:=h.len;have HN:=Lib.hid hn;have lV:=Lib.hid hnone;have nu:=Lib.hid hnews;clear hn hnone hnews h
 go_enter Tryz.func56,Tryz.ntmps56
 go_wp2_with (at_builtin;refine aM ?_)
 refine bR ?_;refine aR rfl _ _ 42 rfl w.heap.size 3 i0 _ 1 8 Tryz.underlying42 hi hz0 hz1 hz2 rfl (.slice none 0 0) 0 [] rfl (World.ownsRow_nil w w.heap.size 3 1) ao l.length cap (aV l) rfl (by simp) lV.out (fun ad had j u hu=>nu.out ad had j u hu) (gT l) (by have:=HN.out;unfold maxLen;omega) (aZ (by have:=HN.out;omega)) (Nat.le_refl _) ?_;intro v' w2 g1 g20 g3 g4;have g2:w.grownBy w2 (Value.slice none 0 0).ownBlock:=g20;have hb:Below w.heap.size w w2:=((aI.refl (fun _=>False) w).grown g2 (fun k hk hlt=>by cases hk)).below (Nat.le_refl _) (fun _ _ h=>h);simp only [Nat.zero_add,List.nil_append] at g1;have G1:=Lib.hid g1;clear g1 g20 g2 g3 g4;obtain ⟨sv,cv,rfl⟩:=aB G1.out;go_wp2;go_ret
 exact ⟨_,rfl,by simpa using G1.out,hb⟩
theorem QO (k:Nat)(r:Int):List.replicate (k+1) r=List.replicate k r ++ [r]:=by rw [List.replicate_succ',]
theorem dh (w:World)(n:Nat)(r:Int)(hn:n≤1000):Calls Tryz.prog 74 #[.int .i64 n,.int .i64 r] w (Qi w (List.replicate n r)):=by
 obtain ⟨i0,hi,hz0,hz1,hz2⟩:=info_parts bJ;have hni:(n:Int)≤1000:=by omega
 go_enter Tryz.func74,Tryz.ntmps74
 go_wp2_with fail
 go_loopw [5,6] (fun v i wr=>∃ j:Nat,j≤n∧i=.int .i64 j∧wr.ownsRow w.heap.size 3 1 v j (aV (List.replicate j r))∧Below w.heap.size w wr) (fun _ i _=>n - (intOf i).toNat)
 case atStart=>exact ⟨0,Nat.zero_le _,rfl,by simpa using World.ownsRow_nil w w.heap.size 3 1,Below.refl _ _⟩
 case round =>
  obtain ⟨j,hj,rfl,ho,hb⟩:=hrel;have hs:=hb.size;obtain ⟨sv,cv,rfl⟩:=aB ho
  by_cases hjn:j < n
  ·
   have Vo:(j:Int) < n:=by omega
   go_wp2_with (at_builtin;refine aM ?_)
   refine bR ?_;refine aR rfl _ _ 42 rfl w.heap.size 3 i0 _ 1 8 Tryz.underlying42 hi hz0 hz1 hz2 rfl (.slice sv j cv) j _ rfl (ho.alloc (.cells #[.int .i64 r] 3)) (some ⟨wr.heap.size,0,none⟩) 1 1 [.int .i64 r] rfl rfl (fun h=>by cases h) (bA wr [.int .i64 r] 3) (by simp [Value.oneCell']) (by unfold maxLen;omega) (aZ (by omega)) (gX hs _) ?_;intro v5 w5 k1 k20 _ _;have k2:(wr.alloc (.cells #[.int .i64 r] 3)).grownBy w5 (Value.slice sv j cv).ownBlock:=k20;have hb5:=hb.trans (dW ho k2 hs);have k3:w5.ownsRow w.heap.size 3 1 v5 (j+1) (aV (List.replicate (j+1) r)):=by
    rw [QO];simpa using k1
   clear k1 k20 k2 ho hb;go_wp2;go_roundw
   case rel=>exact ⟨j+1,by omega,by go_num,k3,hb5⟩
   case measure=>simp [intOf];omega
  ·
   obtain rfl:j=n:=by omega
   have HO:=Lib.hid ho;clear ho;go_wp2;go_ret
   exact ⟨_,rfl,by rw [List.length_replicate];exact HO.out,hb⟩
theorem rP {o:Col}{c:Nat}(w:World)(ao:Option Addr)(n cap:Nat)(l:List Int)(m:Int)(h:Ints w o c (.slice ao n cap) l):Calls Tryz.prog 91 #[.slice ao n cap,.int .i64 m] w fun e w'=>e=.returned (.bool (decide (bS l m)))∧w=w':=by
 obtain rfl:=h.len
 by_cases hl:l.length=1
 ·
  obtain ⟨x,rfl⟩:∃ x,l=[x]:=by
   match l,hl with
   | [x],_=>exact ⟨x,rfl⟩
  obtain ⟨b,off,rfl,-,hcap,-,-,hc⟩:=h.at (by simp);have c0:=hc 0 (by simp);simp at c0;have hc1:(1:Int)≤cap:=by simp at hcap;omega
  clear hc h
  by_cases h1:1≤x
  ·
   by_cases h2:x≤m
   ·
    have e:decide (bS [x] m)=true:=decide_eq_true (by simp [bS,hd];omega);rw [e];clear e
    go_enter Tryz.func91,Tryz.ntmps91
    go_wp2;go_ret
    exact ⟨rfl,rfl⟩
   ·
    have e:decide (bS [x] m)=false:=decide_eq_false (by simp [bS,hd];omega);rw [e];clear e
    go_enter Tryz.func91,Tryz.ntmps91
    go_wp2;go_ret
    exact ⟨rfl,rfl⟩
  ·
   have e:decide (bS [x] m)=false:=decide_eq_false (by simp [bS,hd];omega);rw [e];clear e
   go_enter Tryz.func91,Tryz.ntmps91
   go_wp2;go_ret
   exact ⟨rfl,rfl⟩
 ·
  have e:decide (bS l m)=false:=decide_eq_false (fun h=>hl h.1);have XI:¬ (l.length:Int)=1:=by omega
  rw [e];clear e h
  go_enter Tryz.func91,Tryz.ntmps91
  go_wp2;go_ret
  exact ⟨rfl,rfl⟩
theorem GH {o:Col}{c:Nat}(w:World)(ao:Option Addr)(n cap:Nat)(l:List Int)(h:Ints w o c (.slice ao n cap) l):Calls Tryz.prog 92 #[.slice ao n cap] w (Quiet (.bool (decide (bD l))) w):=by
 obtain rfl:=h.len
 by_cases hl:l.length=2
 ·
  obtain ⟨x,y,rfl⟩:∃ x y,l=[x,y]:=by
   match l,hl with
   | [x,y],_=>exact ⟨x,y,rfl⟩
  obtain ⟨b,off,rfl,-,hcap,-,-,hc⟩:=h.at (by simp);have c0:=hc 0 (by simp);have c1:=hc 1 (by simp);simp at c0 c1;have hc1:(2:Int)≤cap:=by simp at hcap;omega
  clear hc h
  rcases fT x y with hh | ⟨⟨g1,g2⟩,hh⟩ | ⟨⟨g1,g2⟩,⟨g3,g4⟩,g5,g6⟩ | ⟨⟨g1,g2⟩,⟨g3,g4⟩,g5,g6⟩
  ·
   have e:decide (bD [x,y])=false:=decide_eq_false (by simp [bD,hd,hd1];omega);rw [e];clear e
   by_cases h1:x < 1
   ·
    go_enter Tryz.func92,Tryz.ntmps92
    go_wp2;go_ret
    exact ⟨rfl,0,rfl⟩
   ·
    have h2:16 < x:=by omega
    go_enter Tryz.func92,Tryz.ntmps92
    go_wp2;go_ret
    exact ⟨rfl,0,rfl⟩
  ·
   have e:decide (bD [x,y])=false:=decide_eq_false (by simp [bD,hd,hd1];omega);rw [e];clear e
   by_cases h1:y < 1
   ·
    go_enter Tryz.func92,Tryz.ntmps92
    go_wp2;go_ret
    exact ⟨rfl,0,rfl⟩
   ·
    have h2:64 < y:=by omega
    go_enter Tryz.func92,Tryz.ntmps92
    go_wp2;go_ret
    exact ⟨rfl,0,rfl⟩
  ·
   have e:decide (bD [x,y])=true:=decide_eq_true (by simp [bD,hd,hd1];omega);rw [e];clear e;have hw:wrap64 (x*y)=x*y:=IntWalk.wrap64_in _ (by omega)
   go_enter Tryz.func92,Tryz.ntmps92
   go_wp2;go_quiet (fail);go_wp2;go_ret
   exact ⟨rfl,_,rfl⟩
  ·
   have e:decide (bD [x,y])=false:=decide_eq_false (by simp [bD,hd,hd1];omega);rw [e];clear e;have g7:¬ x*y≤64:=by omega
   have hw:wrap64 (x*y)=x*y:=IntWalk.wrap64_in _ (by omega)
   go_enter Tryz.func92,Tryz.ntmps92
   go_wp2;go_quiet (fail);go_wp2;go_ret
   refine ⟨?_,_,rfl⟩;show Ending.returned (.bool (decide (x*y≤64)))=_
   rw [decide_eq_false (show ¬ x*y≤64 by omega)]
 ·
  have e:decide (bD l)=false:=decide_eq_false (fun h=>hl h.1);have XI:¬ (l.length:Int)=2:=by omega
  rw [e];clear e h
  go_enter Tryz.func92,Tryz.ntmps92
  go_wp2;go_ret
  exact ⟨rfl,0,rfl⟩
end Go.Proofs.YtpdlngonocancaaGreat
