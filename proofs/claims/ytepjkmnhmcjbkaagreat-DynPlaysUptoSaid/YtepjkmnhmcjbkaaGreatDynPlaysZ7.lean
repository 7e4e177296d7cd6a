import Derived.Test.YtepjkmnhmcjbkaaGreatDynPlaysZ6
import Derived.Test.YtepjkmnhmcjbkaaGreatDynPlaysZ2
import Derived.Test.YtepjkmnhmcjbkaaGreatDynPlaysZ3
import Derived.Test.YtepjkmnhmcjbkaaGreatDynPlaysZ5
set_option linter.unusedVariables false
set_option linter.unusedSimpArgs false
set_option maxRecDepth 100000
set_option maxHeartbeats 20000000
namespace Go.Proofs.YtepjkmnhmcjbkaaGreat
open Go.RowKit
theorem wS {fn:Func}{p u v:Tmp}{ty:TypeId}(h:fn.results=#[.cell p ty,.tmp u,.tmp v])(tmps:Array Value)(P:Program)(w:World) :
  (results fn tmps).run P w =
   ((asAddr (tmps.getD p undef)).run P w).andThen fun a w₁=>((loadVar ty a).run P w₁).andThen fun x w₂=>.ok (.tuple #[x,tmps.getD u undef,tmps.getD v undef]) w₂:=by
 simp only [results,h];simp [Sem.run_bind,Result.andThen]
theorem aH {P:Program}{fn:Func}{p u v:Tmp}{ty:TypeId}(h:fn.results=#[.cell p ty,.tmp u,.tmp v])(tmps:Array Value)(w:World)(g:Nat)(t:TypeId)(cs:Array Value)(fr:Nat × Nat)(d:TypeDesc)
  (hp:tmps.getD p undef=.pointer (some ⟨g,0,none⟩)) (hg:w.heap[g]?=some (.cells cs t fr))
  (hu:P.underlying ty=some d) (hd:(match d with | .struct _ | .array _ _=>true | _=>false)=true) (hi:(P.info? ty).map (·.size)=some cs.size) :
  (results fn tmps).run P w=.ok (.tuple #[.agg cs,tmps.getD u undef,tmps.getD v undef]) w:=by
 rw [wS h,hp];simp [asAddr,run_loadVar_row w g t ty cs fr d hg hu hd hi,Result.andThen]
def dU (w:World)(o:Col)(c:Nat)(t:Int)(vp vi vo vk:Value)(n:Int)(r:Option (List (List Int) × List Int))(e:Ending)(w':World):Prop :=
 match r with
 | some (outs,keep')=>∃ ov Dj,e=.returned (.tuple #[.agg #[.int .u8 t,vp,vi,vo,Dj,.int .i64 n],ov,.int .i64 0])/\Ints w' (ext o w.heap.size c) c Dj keep'/\vU w' (ext o w.heap.size c) c ov outs/\Below w.heap.size w w'
 | none=>e=.returned (.tuple #[.agg #[.int .u8 t,vp,vi,vo,vk,.int .i64 n],.slice none 0 0,.int .i64 70])/\Below w.heap.size w w'
theorem kz {w W W':World}{o:Col}{c:Nat}{t n:Int}{vp vi vo vk ov:Value}{keep:List Int}{outs:List (List Int)}(hk:Ints w o c vk keep)(hb:Below w.heap.size w W)(hM:aG (fun k=>k=w.heap.size+1) W W')
  (ho:vU W (fun k=>if k < w.heap.size+2 then 0 else 2) 2 ov outs) :
  dU w o c t vp vi vo vk n (some (outs,keep)) (.returned (.tuple #[.agg #[.int .u8 t,vp,vi,vo,vk,.int .i64 n],ov,.int .i64 0])) W':=by
 have hB:Below w.heap.size w W':=hb.trans (hM.below hb.size (fun k hk e=>by omega));have T:Turn (fun k=>if k < w.heap.size+2 then 0 else 2) (fun k=>if k < w.heap.size+2 then 0 else 2) (fun x=>x=0) W W':=⟨hM.mono (fun k _ e=>by simp [e]),fun _ _=>rfl⟩;refine ⟨ov,vk,rfl,hk.turn (Turn.of_below o c hB) (fun h=>h),(ho.turn T (by decide)).dO (fun k hk e=>?_),hB⟩;have:¬ k < w.heap.size:=fun h=>by
  have:k < w.heap.size+2:=by omega
  simp [this] at e
 exact dI (by omega)
theorem Q0 (w:World)(o:Col)(c:Nat)(a1 a2 a3 a4:Option Addr)(n1 n2 n3 n4 c1 c2 c3 c4:Nat)(bF:Value)(n:Int)(keep:List Int)(hk:Ints w o c (.slice a4 n4 c4) keep) :
  Calls Tryz.prog 91 #[.agg #[.int .u8 11,.slice a1 n1 c1,.slice a2 n2 c2,.slice a3 n3 c3,.slice a4 n4 c4,.int .i64 n],bF] w (dU w o c 11 (.slice a1 n1 c1) (.slice a2 n2 c2) (.slice a3 n3 c3) (.slice a4 n4 c4) n (some ([],keep))):=by
 have HK:=af hk;clear hk;go_enter Tryz.func91,Tryz.ntmps91;go_wp2;have hK:=heap_alloc_new (w.alloc (.cells #[.int .u8 11,.slice a1 n1 c1,.slice a2 n2 c2,.slice a3 n3 c3,.slice a4 n4 c4,.int .i64 n] 84)) (.cells #[.int .u8 11,.slice a1 n1 c1,.slice a2 n2 c2,.slice a3 n3 c3,.slice a4 n4 c4,.int .i64 n] 84);rw [World.size_alloc] at hK;refine bodyPost_ret_by (aH rfl _ _ _ _ _ _ _ rfl hK Tryz.underlying84 rfl (by kernel_rfl)) rfl ?_;exact kz HK.out (Below.refl _ _) ((aG.refl _ _).alloc _ |>.alloc _) (vU.nil _ _ _)
abbrev BU (w:World) (g:Nat) (a b c d e f:Value):Prop:=w.cell? ⟨g,0,none⟩=some a/\w.cell? ⟨g,1,none⟩=some b/\w.cell? ⟨g,2,none⟩=some c/\w.cell? ⟨g,3,none⟩=some d/\w.cell? ⟨g,4,none⟩=some e/\w.cell? ⟨g,5,none⟩=some f
theorem BU.ext {w w':World}{g:Nat}{a b c d e f:Value}(h:BU w g a b c d e f)(hx:Ext w w'):BU w' g a b c d e f :=
 ⟨hx.cell h.1,hx.cell h.2.1,hx.cell h.2.2.1,hx.cell h.2.2.2.1,hx.cell h.2.2.2.2.1,hx.cell h.2.2.2.2.2⟩
theorem rz (w:World)(a b c d e f:Value)(t:TypeId):BU (w.alloc (.cells #[a,b,c,d,e,f] t)) w.heap.size a b c d e f:=by
 have h:=heap_alloc_new w (.cells #[a,b,c,d,e,f] t);exact ⟨ah _ _ h 0 a rfl,ah _ _ h 1 b rfl,ah _ _ h 2 c rfl,ah _ _ h 3 d rfl,ah _ _ h 4 e rfl,ah _ _ h 5 f rfl⟩
theorem BU.alloc {w:World}{g:Nat}{a b c d e f:Value}(h:BU w g a b c d e f)(x:Obj):BU (w.alloc x) g a b c d e f :=
 ⟨ca h.1,ca h.2.1,ca h.2.2.1,ca h.2.2.2.1,ca h.2.2.2.2.1,ca h.2.2.2.2.2⟩
theorem VA (w:World)(o:Col)(c:Nat)(a1 a2 a3 a4:Option Addr)(n1 n2 n3 n4 c1 c2 c3 c4:Nat)(bF:Value)(n:Int)(l:List Int)(keep:List Int)(hk:Ints w o c (.slice a4 n4 c4) keep)(hins:LL w bF [l])(hl:1<=l.length) :
  Calls Tryz.prog 91 #[.agg #[.int .u8 3,.slice a1 n1 c1,.slice a2 n2 c2,.slice a3 n3 c3,.slice a4 n4 c4,.int .i64 n],bF] w (dU w o c 3 (.slice a1 n1 c1) (.slice a2 n2 c2) (.slice a3 n3 c3) (.slice a4 n4 c4) n (some ([[hd l]],keep))):=by
 have HK:=af hk;obtain ⟨ia,ic,rfl⟩:=hins.slice;obtain ⟨bi,oi,rfl,hci,hrow⟩:=hins.at (by simp);obtain ⟨a0,c0,hr0,hh0⟩:=hrow 0 (by simp);simp only [List.length_cons,List.length_nil,List.getElem?_cons_zero,Option.getD_some,Nat.add_zero,Nat.zero_add] at hr0 hh0 hci ⊢;obtain ⟨b0,o0,rfl,-,hc0,-,-,hx0⟩:=cu.at hh0 (by rw [aX];omega);have hx1:=hx0 0 (by rw [aX];omega);rw [iC (by omega),Nat.add_zero] at hx1;have hx1:w.cell? ⟨b0,o0,none⟩=some (.int .i64 (hd l)):=hx1;have hl1:(1:Int)<=l.length:=by omega
 have hl0:0 < l.length:=by omega
 obtain ⟨x,hx⟩:∃ x,hd l=x:=⟨_,rfl⟩;rw [hx] at hx1 ⊢;have JZ:(1:Int)<=ic:=by omega
 have Q6:(l.length:Int)<=c0:=by omega
 have S0:=(rz w (.int .u8 3) (.slice a1 n1 c1) (.slice a2 n2 c2) (.slice a3 n3 c3) (.slice a4 n4 c4) (.int .i64 n) 84).alloc (.cells #[.int .u8 0,.slice none 0 0,.slice none 0 0,.slice none 0 0,.slice none 0 0,.int .i64 0] 84);have r0:=ca (o:=.cells #[.int .u8 0,.slice none 0 0,.slice none 0 0,.slice none 0 0,.slice none 0 0,.int .i64 0] 84) (ca (o:=.cells #[.int .u8 3,.slice a1 n1 c1,.slice a2 n2 c2,.slice a3 n3 c3,.slice a4 n4 c4,.int .i64 n] 84) hr0);have r1:=ca (o:=.cells #[.int .u8 0,.slice none 0 0,.slice none 0 0,.slice none 0 0,.slice none 0 0,.int .i64 0] 84) (ca (o:=.cells #[.int .u8 3,.slice a1 n1 c1,.slice a2 n2 c2,.slice a3 n3 c3,.slice a4 n4 c4,.int .i64 n] 84) hx1);have H0:=af hr0;have H1:=af hx1;have HS:=af (show BU _ _ _ _ _ _ _ _/\_/\_ from ⟨S0,r0,r1⟩);clear hk hins hrow hh0 hx0 hr0 hx1 S0 r0 r1 hx;have hK:=heap_alloc_new (w.alloc (.cells #[.int .u8 3,.slice a1 n1 c1,.slice a2 n2 c2,.slice a3 n3 c3,.slice a4 n4 c4,.int .i64 n] 84)) (.cells #[.int .u8 3,.slice a1 n1 c1,.slice a2 n2 c2,.slice a3 n3 c3,.slice a4 n4 c4,.int .i64 n] 84);rw [World.size_alloc] at hK;go_enter Tryz.func91,Tryz.ntmps91;go_wp2_with fail;refine cZ (fun w'=>BU w' w.heap.size (.int .u8 3) (.slice a1 n1 c1) (.slice a2 n2 c2) (.slice a3 n3 c3) (.slice a4 n4 c4) (.int .i64 n)/\w'.cell? ⟨bi,oi,none⟩=some (.slice (some ⟨b0,o0,none⟩) l.length c0)/\w'.cell? ⟨b0,o0,none⟩=some (.int .i64 x)) [0,1,2,3,4,5] [8] 5 (by kernel_rfl) (by kernel_rfl) rfl HS.out ?_;intro Q' hQ';simp only [pk];refine aD ?_;refine ax ?_;refine fZ (i:=6) (k:=8) (by kernel_rfl) ?_ ?_
 ·
  simp only [pk];go_wp2;refine ⟨fun _ hS=>⟨hS.1.alloc _,ca hS.2.1,ca hS.2.2⟩,?_⟩;refine fZ (i:=7) (k:=8) (by kernel_rfl) ?_ ?_
  ·
   simp only [pk];go_wp2;refine ⟨fun _ hS=>⟨hS.1.alloc _,ca hS.2.1,ca hS.2.2⟩,?_⟩;refine aB (i:=8) (by kernel_rfl) ?_;simp only [pk];go_wp2;refine ⟨fun _ hS=>⟨((((rz w _ _ _ _ _ _ _).alloc _).alloc _).alloc _),ca (ca (ca (ca H0.out))),ca (ca (ca (ca H1.out)))⟩,?_⟩;refine aJ (ks:=[9,10]) (fun _ _ hx h=>⟨h.1.ext hx,hx.cell h.2.1,hx.cell h.2.2⟩) (by kernel_rfl) ?_;simp only [pk];go_wp2;refine bodyPost_ret_by (aH rfl _ _ _ _ _ _ _ rfl (aI (aI hK _) _) Tryz.underlying84 rfl (by kernel_rfl)) rfl ?_;exact kz HK.out (((((Below.refl _ _).alloc (by simp) _).alloc (by simp) _).alloc (by simp <;> omega) _).alloc (by simp <;> omega) _ |> dL <| 1) (aG.refl _ _) ((nk 27 (by simp) (by simp) (mo [x] 3 (by simp) (by simp) 1 rfl)).drewN 1)
  ·
   simp only [pk];go_wp2;refine ⟨fun _ hS=>⟨(((rz w _ _ _ _ _ _ _).alloc _).alloc _),ca (ca (ca H0.out)),ca (ca (ca H1.out))⟩,?_⟩;refine aB (i:=7) (by kernel_rfl) ?_;simp only [pk];go_wp2;refine ⟨fun _ hS=>⟨hS.1.alloc _,ca hS.2.1,ca hS.2.2⟩,?_⟩;refine aJ (ks:=[9,10]) (fun _ _ hx h=>⟨h.1.ext hx,hx.cell h.2.1,hx.cell h.2.2⟩) (by kernel_rfl) ?_;simp only [pk];go_wp2;refine bodyPost_ret_by (aH rfl _ _ _ _ _ _ _ rfl (aI (aI hK _) _) Tryz.underlying84 rfl (by kernel_rfl)) rfl ?_;exact kz HK.out (((((Below.refl _ _).alloc (by simp) _).alloc (by simp) _).alloc (by simp <;> omega) _).alloc (by simp <;> omega) _ |> dL <| 1) (aG.refl _ _) ((nk 27 (by simp) (by simp) (mo [x] 3 (by simp) (by simp) 1 rfl)).drewN 1)
 ·
  simp only [pk];go_wp2;refine ⟨fun _ hS=>⟨((rz w _ _ _ _ _ _ _).alloc _),ca (ca H0.out),ca (ca H1.out)⟩,?_⟩;refine aB (i:=6) (by kernel_rfl) ?_;simp only [pk];go_wp2;refine ⟨fun _ hS=>⟨hS.1.alloc _,ca hS.2.1,ca hS.2.2⟩,?_⟩;refine aB (i:=7) (by kernel_rfl) ?_;simp only [pk];go_wp2;refine ⟨fun _ hS=>⟨hS.1.alloc _,ca hS.2.1,ca hS.2.2⟩,?_⟩;refine aJ (ks:=[9,10]) (fun _ _ hx h=>⟨h.1.ext hx,hx.cell h.2.1,hx.cell h.2.2⟩) (by kernel_rfl) ?_;simp only [pk];go_wp2;refine bodyPost_ret_by (aH rfl _ _ _ _ _ _ _ rfl (aI (aI hK _) _) Tryz.underlying84 rfl (by kernel_rfl)) rfl ?_;exact kz HK.out (((((Below.refl _ _).alloc (by simp) _).alloc (by simp) _).alloc (by simp <;> omega) _).alloc (by simp <;> omega) _ |> dL <| 1) (aG.refl _ _) ((nk 27 (by simp) (by simp) (mo [x] 3 (by simp) (by simp) 1 rfl)).drewN 1)
theorem BU.below {w w':World}{g:Nat}{a b c d e f:Value}(h:BU w g a b c d e f)(hb:Below w.heap.size w w'):BU w' g a b c d e f :=
 ⟨cell_later hb h.1,cell_later hb h.2.1,cell_later hb h.2.2.1,cell_later hb h.2.2.2.1,cell_later hb h.2.2.2.2.1,cell_later hb h.2.2.2.2.2⟩
theorem mq {w:World}{B:Nat}{a b c d e f:Value}{p:Addr}{v:Value}(hp:w.cell? p=some v)(h:p.block≠B):(six w B a b c d e f).cell? p=some v :=
 ((mg (F:=fun k=>k=B) (aG.refl _ w) rfl:aG (fun k=>k=B) w (six w B a b c d e f)).cell (World.block_lt_of_cell? _ _ hp) h).trans hp
theorem BU.six {w:World}{g B:Nat}{a b c d e f a' b' c' d' e' f':Value}(h:BU w g a b c d e f)(hg:g≠B):BU (six w B a' b' c' d' e' f') g a b c d e f :=
 ⟨mq h.1 hg,mq h.2.1 hg,mq h.2.2.1 hg,mq h.2.2.2.1 hg,mq h.2.2.2.2.1 hg,mq h.2.2.2.2.2 hg⟩
theorem gY {B:Nat}{w w':World}(h:Below B w w'):Below B w w'.drew:=⟨h.os,h.tape,h.output,h.size,h.block⟩
theorem EB {w:World}{N:Nat}{v:Value}{l:List Int}{o:Col}{c:Nat}(h:w.ownsRow N 3 1 v l.length (bB l))(ho:∀ k,N<=k->o k=c):Ints w o c v l :=
 (Own.made (fun _=>0) 2 h).vals.dO (fun k _ e=>ho k (by
  rcases Nat.lt_or_ge k N with h | h
  ·
   rw [dm h] at e;cases e
  ·
   exact h))
abbrev nu (N:Nat):Col:=fun k=>if k < N+2 then 0 else 2
theorem iU {N k:Nat}(h:N+2<=k):nu N k=2:=by simp [nu,show ¬ k < N+2 by omega]
theorem yo {w:World}{N M:Nat}{v:Value}{l:List Int}(h:w.ownsRow M 3 1 v l.length (bB l))(hM:N+2<=M):Ints w (nu N) 2 v l:=EB h (fun k hk=>iU (by omega))
theorem Q7 (N:Nat)(w:World)(a b c d e f:Value):Turn (nu N) (nu N) (fun x=>x=0) w (six w (N+1) a b c d e f):=⟨mg (aG.refl _ _) (by simp),fun _ _=>rfl⟩
theorem Nq {N:Nat}{w0 w:World}(h:Below N w0 w)(hs:N<=w.heap.size)(a b c d e f:Value):Below N w0 (six w (N+1) a b c d e f) :=
 h.trans ((mg (F:=fun k=>k=N+1) (aG.refl _ w) rfl:aG (fun k=>k=N+1) w (six w (N+1) a b c d e f)).below hs (fun k hk e=>by omega))
theorem Lv {w:World}{g B:Nat}{a b c d e f a' b' c' d' e' f' v u:Value}{p q:Addr}(h:BU w g a b c d e f/\w.cell? p=some v/\w.cell? q=some u)(hg:g≠B)(hp:p.block≠B)(hq:q.block≠B) :
  BU ((((((w.setCell ⟨B,0,none⟩ a').setCell ⟨B,1,none⟩ b').setCell ⟨B,2,none⟩ c').setCell ⟨B,3,none⟩ d').setCell ⟨B,4,none⟩ e').setCell ⟨B,5,none⟩ f') g a b c d e f /\
   ((((((w.setCell ⟨B,0,none⟩ a').setCell ⟨B,1,none⟩ b').setCell ⟨B,2,none⟩ c').setCell ⟨B,3,none⟩ d').setCell ⟨B,4,none⟩ e').setCell ⟨B,5,none⟩ f').cell? p=some v /\
   ((((((w.setCell ⟨B,0,none⟩ a').setCell ⟨B,1,none⟩ b').setCell ⟨B,2,none⟩ c').setCell ⟨B,3,none⟩ d').setCell ⟨B,4,none⟩ e').setCell ⟨B,5,none⟩ f').cell? q=some u :=
 ⟨h.1.six hg,mq h.2.1 hp,mq h.2.2 hq⟩
theorem lF {w0 w:World}{B:Nat}{a' b' c' d' e' f':Value}{F:Nat->Prop}(h:aG F w0 w)(hB:F B):aG F w0 ((((((w.setCell ⟨B,0,none⟩ a').setCell ⟨B,1,none⟩ b').setCell ⟨B,2,none⟩ c').setCell ⟨B,3,none⟩ d').setCell ⟨B,4,none⟩ e').setCell ⟨B,5,none⟩ f'):=mg h hB
theorem VB (w:World)(o:Col)(c:Nat)(a1 a2 a3 a4:Option Addr)(n1 n2 n3 n4 c1 c2 c3 c4:Nat)(bF:Value)(n:Int)(u m:Nat)(keep:List Int)(xss:List (List Int))(hk:Ints w o c (.slice a4 n4 c4) keep)
  (hp:Has w (.slice a1 n1 c1) (bB [(u:Int),(m:Int)])) (hins:LL w bF xss) (hu:u<=16) (hm:m<=64) (hl:xss.length=u) (hr:∀ l∈xss,l.length=m) :
  Calls Tryz.prog 91 #[.agg #[.int .u8 4,.slice a1 n1 c1,.slice a2 n2 c2,.slice a3 n3 c3,.slice a4 n4 c4,.int .i64 n],bF] w (dU w o c 4 (.slice a1 n1 c1) (.slice a2 n2 c2) (.slice a3 n3 c3) (.slice a4 n4 c4) n (some ([dN xss m],keep))):=by
 obtain ⟨ia,ic,rfl⟩:=hins.slice;have HI:=af hins;have HL:=af hl;have HR:=af hr;clear hins hl hr;have HK:=af hk;obtain ⟨pb,po,rfl,hn1,hc1,-,-,hpc⟩:=cu.at hp (by simp);have hp0:=hpc 0 (by simp);have hp1:=hpc 1 (by simp);simp at hp0 hp1 hn1;subst hn1;have hpb:pb < w.heap.size:=World.block_lt_of_cell? _ _ hp0;have M8:(2:Int)<=c1:=by omega
 have hui:(u:Int)<=16:=by omega
 have Pv:(m:Int)<=64:=by omega
 have S0:=(rz w (.int .u8 4) (.slice (some ⟨pb,po,none⟩) 2 c1) (.slice a2 n2 c2) (.slice a3 n3 c3) (.slice a4 n4 c4) (.int .i64 n) 84).alloc (.cells #[.int .u8 0,.slice none 0 0,.slice none 0 0,.slice none 0 0,.slice none 0 0,.int .i64 0] 84);have hbW:∀ x:Obj,Below w.heap.size w ((w.alloc (.cells #[.int .u8 4,.slice (some ⟨pb,po,none⟩) 2 c1,.slice a2 n2 c2,.slice a3 n3 c3,.slice a4 n4 c4,.int .i64 n] 84)).alloc x):=fun x=>(au w _).alloc (by simp) _;have jU:=af hbW;have H0:=af hp0;have H1:=af hp1;have hB0:=heap_alloc_new (w.alloc (.cells #[.int .u8 4,.slice (some ⟨pb,po,none⟩) 2 c1,.slice a2 n2 c2,.slice a3 n3 c3,.slice a4 n4 c4,.int .i64 n] 84)) (.cells #[.int .u8 0,.slice none 0 0,.slice none 0 0,.slice none 0 0,.slice none 0 0,.int .i64 0] 84);rw [World.size_alloc] at hB0;have YB:=heap_alloc_new (w.alloc (.cells #[.int .u8 4,.slice (some ⟨pb,po,none⟩) 2 c1,.slice a2 n2 c2,.slice a3 n3 c3,.slice a4 n4 c4,.int .i64 n] 84)) (.cells #[.int .u8 4,.slice (some ⟨pb,po,none⟩) 2 c1,.slice a2 n2 c2,.slice a3 n3 c3,.slice a4 n4 c4,.int .i64 n] 84);rw [World.size_alloc] at YB;have HB0:=af hB0;have BD:=af YB;clear hk hpc hp0 hp1 hB0 YB hbW hp;have HS:=af S0;clear S0;go_enter Tryz.func91,Tryz.ntmps91;go_wp2_with fail;refine cZ (fun w'=>BU w' w.heap.size (.int .u8 4) (.slice (some ⟨pb,po,none⟩) 2 c1) (.slice a2 n2 c2) (.slice a3 n3 c3) (.slice a4 n4 c4) (.int .i64 n)/\w'.cell? ⟨pb,po,none⟩=some (.int .i64 u)/\w'.cell? ⟨pb,po+1,none⟩=some (.int .i64 m)) [0,1,2,3,4,5,6,7,8,9] [10,12] 5 (by kernel_rfl) (by kernel_rfl) rfl ⟨HS.out,cell_later (gY (jU.out _)) H0.out,cell_later (gY (jU.out _)) H1.out⟩ ?_;intro Q' hQ';simp only [pk];refine aD ?_;refine ax ?_;refine aB (i:=10) (by kernel_rfl) ?_;simp only [pk];go_wp2_with fail;refine (JY _ u m xss _ hu hm HL.out HR.out (HI.out.below (gY (jU.out _)))).mono ?_;rintro e w3 ⟨v,rfl,ho,hb⟩;obtain ⟨sv,cv,rfl⟩:=aA ho;have hb3:Below w.heap.size w w3:=(jU.out _).trans ((j4 (n:=1) hb).mono (jU.out _).size);have aT:=aN HB0.out (aG.of_below (j4 (n:=1) hb) (fun _=>False)) (fun h=>h);have q0:=ah _ _ aT 0 _ rfl;have q1:=ah _ _ aT 1 _ rfl;have q2:=ah _ _ aT 2 _ rfl;have q3:=ah _ _ aT 3 _ rfl;have q4:=ah _ _ aT 4 _ rfl;have q5:=ah _ _ aT 5 _ rfl;have r0:=aj aT 0;have r1:=aj aT 1;have r2:=aj aT 2;have r3:=aj aT 3;have r4:=aj aT 4;have r5:=aj aT 5;have hs3:w.heap.size+2<=w3.heap.size:=by have:=hb.size;simpa using this
 have HB3:=af hb;have ng:=af hb3;have lN:=af aT;have HO:=af ho;clear hb hb3 aT ho;go_wp2;refine ⟨fun _ hS=>⟨hS.1.below HB3.out,cell_later ng.out H0.out,cell_later ng.out H1.out⟩,?_⟩;refine fZ (i:=11) (k:=12) (by kernel_rfl) ?_ ?_
 ·
  simp only [pk];go_wp2;refine ⟨fun _ hS=>⟨hS.1.alloc _,ca hS.2.1,ca hS.2.2⟩,?_⟩;refine aB (i:=12) (by kernel_rfl) ?_;simp only [pk];have aT:=aI lN.out (.cells #[.slice sv (dN xss m).length cv] 27);clear q0 q1 q2 q3 q4 q5 r0 r1 r2 r3 r4 r5;have q0:=ah _ _ aT 0 _ rfl;have q1:=ah _ _ aT 1 _ rfl;have q2:=ah _ _ aT 2 _ rfl;have q3:=ah _ _ aT 3 _ rfl;have q4:=ah _ _ aT 4 _ rfl;have q5:=ah _ _ aT 5 _ rfl;have r0:=aj aT 0;have r1:=aj aT 1;have r2:=aj aT 2;have r3:=aj aT 3;have r4:=aj aT 4;have r5:=aj aT 5;have xV:=af aT;clear aT;go_wp2;refine ⟨fun _ hS=>Lv hS (by omega) (by show pb≠_;omega) (by show pb≠_;omega),?_⟩;refine aJ (ks:=[13,14]) (fun _ _ hx h=>⟨h.1.ext hx,hx.cell h.2.1,hx.cell h.2.2⟩) (by kernel_rfl) ?_;simp only [pk];go_wp2;have aT:=xV.out;have hK:=block_setCell (block_setCell (block_setCell (block_setCell (block_setCell (block_setCell aT 0 (.int .u8 4)) 1 (.slice (some ⟨pb,po,none⟩) 2 c1)) 2 (.slice a2 n2 c2)) 3 (.slice a3 n3 c3)) 4 (.slice a4 n4 c4)) 5 (.int .i64 n);refine bodyPost_ret_by (aH rfl _ _ _ _ _ _ _ rfl hK Tryz.underlying84 rfl (by kernel_rfl)) rfl ?_;exact kz HK.out (ng.out.alloc (ng.out.size) _) (lF (aG.refl _ _) rfl) (nk 27 rfl (iU hs3) (yo HO.out (by simp)))
 ·
  simp only [pk];go_wp2;refine ⟨fun _ hS=>Lv hS (by omega) (by show pb≠_;omega) (by show pb≠_;omega),?_⟩;refine aB (i:=11) (by kernel_rfl) ?_;simp only [pk];go_wp2;refine ⟨fun _ hS=>⟨hS.1.alloc _,ca hS.2.1,ca hS.2.2⟩,?_⟩;refine aJ (ks:=[13,14]) (fun _ _ hx h=>⟨h.1.ext hx,hx.cell h.2.1,hx.cell h.2.2⟩) (by kernel_rfl) ?_;simp only [pk];go_wp2;have aT:=lN.out;have hK:=block_setCell (block_setCell (block_setCell (block_setCell (block_setCell (block_setCell aT 0 (.int .u8 4)) 1 (.slice (some ⟨pb,po,none⟩) 2 c1)) 2 (.slice a2 n2 c2)) 3 (.slice a3 n3 c3)) 4 (.slice a4 n4 c4)) 5 (.int .i64 n);have hK2:=aI hK (.cells #[.slice sv (dN xss m).length cv] 27);refine bodyPost_ret_by (aH rfl _ _ _ _ _ _ _ rfl hK2 Tryz.underlying84 rfl (by kernel_rfl)) rfl ?_;have hB6:Below w.heap.size w _:=Nq ng.out ng.out.size (.int .u8 4) (.slice (some ⟨pb,po,none⟩) 2 c1) (.slice a2 n2 c2) (.slice a3 n3 c3) (.slice a4 n4 c4) (.int .i64 n);have hI6:=(yo HO.out (by simp)).turn (Q7 w.heap.size w3 (.int .u8 4) (.slice (some ⟨pb,po,none⟩) 2 c1) (.slice a2 n2 c2) (.slice a3 n3 c3) (.slice a4 n4 c4) (.int .i64 n)) (by decide);exact kz HK.out (hB6.alloc hB6.size _) (aG.refl _ _) (nk 27 (by simp [six]) (iU hs3) hI6)
theorem VD (w:World)(o:Col)(c:Nat)(a1 a2 a3 a4:Option Addr)(n1 n2 n3 n4 c1 c2 c3 c4:Nat)(bF:Value)(n:Int)(u m:Nat)(keep l:List Int)(hk:Ints w o c (.slice a4 n4 c4) keep)
  (hp:Has w (.slice a1 n1 c1) (bB [(u:Int),(m:Int)])) (hins:LL w bF [l]) (hu:u<=16) (hm:m<=64) (hl:l.length=u*m) :
  Calls Tryz.prog 91 #[.agg #[.int .u8 5,.slice a1 n1 c1,.slice a2 n2 c2,.slice a3 n3 c3,.slice a4 n4 c4,.int .i64 n],bF] w (dU w o c 5 (.slice a1 n1 c1) (.slice a2 n2 c2) (.slice a3 n3 c3) (.slice a4 n4 c4) n (some (gu u m l,keep))):=by
 obtain ⟨ia,ic,rfl⟩:=hins.slice;obtain ⟨bi,oi,rfl,hci,hrow⟩:=hins.at (by simp);obtain ⟨a0,c0,hr0,hh0⟩:=hrow 0 (by simp);simp only [List.length_cons,List.length_nil,List.getElem?_cons_zero,Option.getD_some,Nat.add_zero,Nat.zero_add] at hr0 hh0 hci ⊢;have JZ:(1:Int)<=ic:=by omega
 have HH:=af hh0;have vR:=af hr0;have HL:=af hl;clear hins hl hrow hh0 hr0 hci;have HK:=af hk;obtain ⟨pb,po,rfl,hn1,hc1,-,-,hpc⟩:=cu.at hp (by simp);have hp0:=hpc 0 (by simp);have hp1:=hpc 1 (by simp);simp at hp0 hp1 hn1;subst hn1;have hpb:pb < w.heap.size:=World.block_lt_of_cell? _ _ hp0;have M8:(2:Int)<=c1:=by omega
 have hui:(u:Int)<=16:=by omega
 have Pv:(m:Int)<=64:=by omega
 have S0:=(rz w (.int .u8 5) (.slice (some ⟨pb,po,none⟩) 2 c1) (.slice a2 n2 c2) (.slice a3 n3 c3) (.slice a4 n4 c4) (.int .i64 n) 84).alloc (.cells #[.int .u8 0,.slice none 0 0,.slice none 0 0,.slice none 0 0,.slice none 0 0,.int .i64 0] 84);have hbW:∀ x:Obj,Below w.heap.size w ((w.alloc (.cells #[.int .u8 5,.slice (some ⟨pb,po,none⟩) 2 c1,.slice a2 n2 c2,.slice a3 n3 c3,.slice a4 n4 c4,.int .i64 n] 84)).alloc x):=fun x=>(au w _).alloc (by simp) _;have jU:=af hbW;have H0:=af hp0;have H1:=af hp1;have hB0:=heap_alloc_new (w.alloc (.cells #[.int .u8 5,.slice (some ⟨pb,po,none⟩) 2 c1,.slice a2 n2 c2,.slice a3 n3 c3,.slice a4 n4 c4,.int .i64 n] 84)) (.cells #[.int .u8 0,.slice none 0 0,.slice none 0 0,.slice none 0 0,.slice none 0 0,.int .i64 0] 84);rw [World.size_alloc] at hB0;have YB:=heap_alloc_new (w.alloc (.cells #[.int .u8 5,.slice (some ⟨pb,po,none⟩) 2 c1,.slice a2 n2 c2,.slice a3 n3 c3,.slice a4 n4 c4,.int .i64 n] 84)) (.cells #[.int .u8 5,.slice (some ⟨pb,po,none⟩) 2 c1,.slice a2 n2 c2,.slice a3 n3 c3,.slice a4 n4 c4,.int .i64 n] 84);rw [World.size_alloc] at YB;have HB0:=af hB0;have BD:=af YB;clear hk hpc hp0 hp1 hB0 YB hbW hp;have HS:=af S0;clear S0;go_enter Tryz.func91,Tryz.ntmps91;go_wp2_with fail;refine cZ (fun w'=>BU w' w.heap.size (.int .u8 5) (.slice (some ⟨pb,po,none⟩) 2 c1) (.slice a2 n2 c2) (.slice a3 n3 c3) (.slice a4 n4 c4) (.int .i64 n)/\(w'.cell? ⟨pb,po,none⟩=some (.int .i64 u)/\w'.cell? ⟨pb,po+1,none⟩=some (.int .i64 m))/\w'.cell? ⟨bi,oi,none⟩=some (.slice a0 l.length c0)) [0,1,2,3,4,5,6,7,8,9,10,11] [12] 4 (by kernel_rfl) (by kernel_rfl) rfl ⟨HS.out,⟨cell_later (gY (jU.out _)) H0.out,cell_later (gY (jU.out _)) H1.out⟩,cell_later (gY (jU.out _)) vR.out⟩ ?_;intro Q' hQ';simp only [pk];refine aD ?_;refine ax ?_;refine aB (i:=12) (by kernel_rfl) ?_;simp only [pk];go_wp2_with fail;refine (GV _ u m l _ hu hm HL.out (HH.out.below (gY (jU.out _)))).mono ?_;rintro e w3 ⟨v,rfl,ho,hb⟩;obtain ⟨sv,cv,rfl⟩:=ho.ll.slice;have hb3:Below w.heap.size w w3:=(jU.out _).trans ((j4 (n:=1) hb).mono (jU.out _).size);have aT:=aN HB0.out (aG.of_below (j4 (n:=1) hb) (fun _=>False)) (fun h=>h);have q0:=ah _ _ aT 0 _ rfl;have q1:=ah _ _ aT 1 _ rfl;have q2:=ah _ _ aT 2 _ rfl;have q3:=ah _ _ aT 3 _ rfl;have q4:=ah _ _ aT 4 _ rfl;have q5:=ah _ _ aT 5 _ rfl;have r0:=aj aT 0;have r1:=aj aT 1;have r2:=aj aT 2;have r3:=aj aT 3;have r4:=aj aT 4;have r5:=aj aT 5;have HB3:=af hb;have ng:=af hb3;have lN:=af aT;have HO:Hid (vU w3 (nu w.heap.size) 2 (.slice sv (gu u m l).length cv) (gu u m l)):=af (ho.dO (fun k _ e=>by
  unfold Ez at e;show (if k < w.heap.size+2 then 0 else 2)=2
  simpa using e))
 clear hb hb3 aT ho;go_wp2;refine ⟨fun _ hS=>⟨hS.1.below HB3.out,⟨cell_later ng.out H0.out,cell_later ng.out H1.out⟩,cell_later ng.out vR.out⟩,?_⟩;refine aJ (ks:=[13,14,15]) (fun _ _ hx h=>⟨h.1.ext hx,⟨hx.cell h.2.1.1,hx.cell h.2.1.2⟩,hx.cell h.2.2⟩) (by kernel_rfl) ?_;simp only [pk];go_wp2;have aT:=lN.out;have hK:=block_setCell (block_setCell (block_setCell (block_setCell (block_setCell (block_setCell aT 0 (.int .u8 5)) 1 (.slice (some ⟨pb,po,none⟩) 2 c1)) 2 (.slice a2 n2 c2)) 3 (.slice a3 n3 c3)) 4 (.slice a4 n4 c4)) 5 (.int .i64 n);refine bodyPost_ret_by (aH rfl _ _ _ _ _ _ _ rfl hK Tryz.underlying84 rfl (by kernel_rfl)) rfl ?_;exact kz HK.out ng.out (lF (aG.refl _ _) rfl) HO.out
theorem Q8 (u:Nat)(x:Int)(h:1<=u):(bB (List.replicate u 0)).set 0 (iv x)=bB (x :: List.replicate (u - 1) 0):=by
 obtain ⟨k,rfl⟩:∃ k,u=k+1:=⟨u - 1,by omega⟩;simp [bB,List.replicate_succ]
theorem VE (w:World)(o:Col)(c:Nat)(a1 a2 a3 a4:Option Addr)(n1 n2 n3 n4 c1 c2 c3 c4:Nat)(bF:Value)(n x:Int)(u:Nat)(keep:List Int)(hk:Ints w o c (.slice a4 n4 c4) keep)
  (hp:Has w (.slice a1 n1 c1) (bB [(u:Int)])) (hins:LL w bF [[x]]) (hu:u<=64) (hu1:1<=u) :
  Calls Tryz.prog 91 #[.agg #[.int .u8 2,.slice a1 n1 c1,.slice a2 n2 c2,.slice a3 n3 c3,.slice a4 n4 c4,.int .i64 n],bF] w (dU w o c 2 (.slice a1 n1 c1) (.slice a2 n2 c2) (.slice a3 n3 c3) (.slice a4 n4 c4) n (some ([x :: List.replicate (u - 1) 0],keep))):=by
 obtain ⟨i0,hi,hz0,hz1,hz2⟩:=info_parts bU;have HK:=af hk;obtain ⟨ia,ic,rfl⟩:=hins.slice;obtain ⟨bi,oi,rfl,hci,hrow⟩:=hins.at (by simp);obtain ⟨a0,c0,hr0,hh0⟩:=hrow 0 (by simp);simp only [List.length_cons,List.length_nil,List.getElem?_cons_zero,Option.getD_some,Nat.add_zero,Nat.zero_add] at hr0 hh0 hci ⊢;obtain ⟨b0,o0,rfl,-,hc0,-,-,hx0⟩:=cu.at hh0 (by simp);have hx1:=hx0 0 (by simp);simp at hx1;obtain ⟨pb,po,rfl,hn1,hc1,-,-,hpc⟩:=cu.at hp (by simp);have hp0:=hpc 0 (by simp);simp at hp0 hn1;subst hn1;have JZ:(1:Int)<=ic:=by omega
 have Q6:(1:Int)<=c0:=by omega
 have M8:(1:Int)<=c1:=by omega
 have hui:(u:Int)<=64:=by omega
 have acr:(1:Int)<=u:=by omega
 have acs:(0:Int) < u:=by omega
 obtain ⟨A,hA⟩:∃ A,A=Obj.cells #[.int .u8 2,.slice (some ⟨pb,po,none⟩) 1 c1,.slice a2 n2 c2,.slice a3 n3 c3,.slice a4 n4 c4,.int .i64 n] 84:=⟨_,rfl⟩;obtain ⟨B,hB⟩:∃ B,B=Obj.cells #[.int .u8 0,.slice none 0 0,.slice none 0 0,.slice none 0 0,.slice none 0 0,.int .i64 0] 84:=⟨_,rfl⟩;have hbW:Below w.heap.size w ((w.alloc A).alloc B):=(au w _).alloc (by simp) _;have hB0:=heap_alloc_new (w.alloc A) B;have Vz:=aI (heap_alloc_new w A) B;rw [World.size_alloc] at hB0;obtain ⟨w3,hr,hown,hg⟩:=run_make_full (P:=Tryz.prog) ((w.alloc A).alloc B) ((w.alloc A).alloc B).heap.size 27 3 i0 _ 1 Tryz.underlying27 hi hz0 hz1 .i64 .i64 u (by rw [hz2];omega) (by unfold maxLen;omega) (Nat.le_refl _);rw [lM] at hown;have hb3:Below ((w.alloc A).alloc B).heap.size ((w.alloc A).alloc B) w3:=((aG.refl (fun _=>False) _).grown hg (fun k hk _=>by cases hk)).below (Nat.le_refl _) (fun _ _ h=>h);have hA3:=aN Vz (aG.of_below hb3 (fun _=>False)) (fun h=>h);have hB3:=aN hB0 (aG.of_below hb3 (fun _=>False)) (fun h=>h);have VF:Below w.heap.size w w3:=hbW.trans (hb3.mono hbW.size);have p2:=ca (o:=B) (ca (o:=A) hp0);have e0:=cell_later VF hr0;have e1:=cell_later VF hx1;have sz:((w.alloc A).alloc B).heap.size=w.heap.size+1+1:=by simp
 rw [sz] at hown hr hb3;subst hA;have s0:=ah _ _ hA3 0 (.int .u8 2) rfl;have s1:=ah _ _ hA3 1 (.slice (some ⟨pb,po,none⟩) 1 c1) rfl;have s2:=ah _ _ hA3 2 (.slice a2 n2 c2) rfl;have s3:=ah _ _ hA3 3 (.slice a3 n3 c3) rfl;have s4:=ah _ _ hA3 4 (.slice a4 n4 c4) rfl;have s5:=ah _ _ hA3 5 (.int .i64 n) rfl;subst hB;have lN:=af hB3;have HOWN:=af hown;have HB3:=af hb3;have ng:=af VF;obtain ⟨_,_,g,_,ge,gc,gf,_⟩:=bQ hown (by simp;omega);cases ge
 have gc0:=gc 0 (iv 0) (by rw [List.getElem?_map,List.getElem?_replicate,if_pos (by omega)];rfl);have gf0:=gf 0;clear hk hins hrow hh0 hx0 hr0 hx1 hpc hp Vz hA3 hB0 hB3 hown hb3 VF hbW sz gc gf hg;have aT:=aI (gV (a:=⟨w.heap.size+1+1,0,none⟩) lN.out (show w.heap.size+1≠w.heap.size+1+1 by omega) (.int .i64 x)) (.cells #[.slice (some ⟨w.heap.size+1+1,0,none⟩) u u] 27);have q0:=ah _ _ aT 0 _ rfl;have q1:=ah _ _ aT 1 _ rfl;have q2:=ah _ _ aT 2 _ rfl;have q3:=ah _ _ aT 3 _ rfl;have q4:=ah _ _ aT 4 _ rfl;have q5:=ah _ _ aT 5 _ rfl;have r0:=aj aT 0;have r1:=aj aT 1;have r2:=aj aT 2;have r3:=aj aT 3;have r4:=aj aT 4;have r5:=aj aT 5;have AY:=af aT;clear aT;go_enter Tryz.func91,Tryz.ntmps91;go_wp2;have aT:=AY.out;have hK:=block_setCell (block_setCell (block_setCell (block_setCell (block_setCell (block_setCell aT 0 (.int .u8 2)) 1 (.slice (some ⟨pb,po,none⟩) 1 c1)) 2 (.slice a2 n2 c2)) 3 (.slice a3 n3 c3)) 4 (.slice a4 n4 c4)) 5 (.int .i64 n);refine bodyPost_ret_by (aH rfl _ _ _ _ _ _ _ rfl hK Tryz.underlying84 rfl (by kernel_rfl)) rfl ?_;obtain ⟨hst,_⟩:=HOWN.out.stored 0 (iv x);rw [Q8 u x hu1] at hst;have hb6:Below w.heap.size w (w3.setCell ⟨w.heap.size+1+1,0,none⟩ (iv x)):=ng.out.setCell (by show w.heap.size<=w.heap.size+1+1;omega) _;have hlen:(x :: List.replicate (u - 1) 0).length=u:=by simp;omega
 have hI:Ints (w3.setCell ⟨w.heap.size+1+1,0,none⟩ (iv x)) (nu w.heap.size) 2 (.slice (some ⟨w.heap.size+1+1,0,none⟩) u u) (x :: List.replicate (u - 1) 0):=yo (M:=w.heap.size+1+1) (by rw [hlen];exact hst) (Nat.le_refl _);have hs3:w.heap.size+2<=w3.heap.size:=by simpa using HB3.out.size
 exact kz HK.out (hb6.alloc hb6.size _) (lF (aG.refl _ _) rfl) (nk 27 (by simp) (iU (by simpa using hs3)) hI)
theorem VG (w:World)(o:Col)(c:Nat)(a1 a2 a3 a4:Option Addr)(n1 n2 n3 n4 c1 c2 c3 c4:Nat)(bF:Value)(n x:Int)(u:Nat)(keep:List Int)(hk:Ints w o c (.slice a4 n4 c4) keep)
  (hp:Has w (.slice a1 n1 c1) (bB [(u:Int)])) (hins:LL w bF [[x]]) (hu:u<=64) :
  Calls Tryz.prog 91 #[.agg #[.int .u8 9,.slice a1 n1 c1,.slice a2 n2 c2,.slice a3 n3 c3,.slice a4 n4 c4,.int .i64 n],bF] w (dU w o c 9 (.slice a1 n1 c1) (.slice a2 n2 c2) (.slice a3 n3 c3) (.slice a4 n4 c4) n (some (List.replicate u [x],keep))):=by
 obtain ⟨j0,ji,XK,jz1,XL⟩:=info_parts lK;have HK:=af hk;obtain ⟨ia,ic,rfl⟩:=hins.slice;obtain ⟨bi,oi,rfl,hci,hrow⟩:=hins.at (by simp);obtain ⟨a0,c0,hr0,hh0⟩:=hrow 0 (by simp);simp only [List.length_cons,List.length_nil,List.getElem?_cons_zero,Option.getD_some,Nat.add_zero,Nat.zero_add] at hr0 hh0 hci ⊢;obtain ⟨b0,o0,rfl,-,hc0,-,-,hx0⟩:=cu.at hh0 (by simp);have hx1:=hx0 0 (by simp);simp at hx1;obtain ⟨pb,po,rfl,hn1,hc1,-,-,hpc⟩:=cu.at hp (by simp);have hp0:=hpc 0 (by simp);simp at hp0 hn1;subst hn1;have JZ:(1:Int)<=ic:=by omega
 have Q6:(1:Int)<=c0:=by omega
 have M8:(1:Int)<=c1:=by omega
 have hui:(u:Int)<=64:=by omega
 obtain ⟨A,hA⟩:∃ A,A=Obj.cells #[.int .u8 9,.slice (some ⟨pb,po,none⟩) 1 c1,.slice a2 n2 c2,.slice a3 n3 c3,.slice a4 n4 c4,.int .i64 n] 84:=⟨_,rfl⟩;obtain ⟨B,hB⟩:∃ B,B=Obj.cells #[.int .u8 0,.slice none 0 0,.slice none 0 0,.slice none 0 0,.slice none 0 0,.int .i64 0] 84:=⟨_,rfl⟩;have hbW:Below w.heap.size w ((w.alloc A).alloc B):=(au w _).alloc (by simp) _;have HB0:=af (heap_alloc_new (w.alloc A) B);have Nr:=af (aI (heap_alloc_new w A) B);have HP0:=af (ca (o:=B) (ca (o:=A) hp0));have vR:=af (ca (o:=B) (ca (o:=A) hr0));have Ns:=af (ca (o:=B) (ca (o:=A) hx1));have jU:=af hbW;obtain ⟨W,hW⟩:∃ W,W=(w.alloc A).alloc B:=⟨_,rfl⟩;have hsz:W.heap.size=w.heap.size+1+1:=by rw [hW];simp
 rw [<- hW] at HB0 Nr HP0 vR Ns jU;rw [World.size_alloc] at HB0;subst hA hB;have HW:=af hW;have Fa:=af hsz;clear hk hins hrow hh0 hx0 hr0 hx1 hpc hp hp0 hbW hW hsz;go_enter Tryz.func91,Tryz.ntmps91;go_wp2_with fail;rw [<- HW.out]
 go_loopw [8,9] (fun v i wr=>∃ (k:Nat) (o1:Col) (vs:List Value),k<=u/\i=.int .i64 k/\kQ wr o1 v k vs (List.replicate k [x])/\Kept W.heap.size o1 W wr) (fun _ i _=>u - (intOf i).toNat)
 case atStart=>exact ⟨0,fun _=>0,[],Nat.zero_le _,rfl,kQ.nil W _,Kept.start W⟩
 case round =>
  obtain ⟨k,o1,vs,hk,rfl,hG,hK⟩:=hrel;obtain ⟨sv,cv,rfl⟩:=hG.1.slice;have p0:=cell_later hK.below HP0.out;have hA3:=aN Nr.out (aG.of_below hK.below (fun _=>False)) (fun h=>h);have hB3:=aN HB0.out (aG.of_below hK.below (fun _=>False)) (fun h=>h);have s0:=ah _ _ hA3 0 (.int .u8 9) rfl;have s1:=ah _ _ hA3 1 (.slice (some ⟨pb,po,none⟩) 1 c1) rfl;have s2:=ah _ _ hA3 2 (.slice a2 n2 c2) rfl;have s3:=ah _ _ hA3 3 (.slice a3 n3 c3) rfl;have s4:=ah _ _ hA3 4 (.slice a4 n4 c4) rfl;have s5:=ah _ _ hA3 5 (.int .i64 n) rfl;have HG:=af hG;have HKK:=af hK;have HB3:=af hB3
  by_cases hlt:k < u
  ·
   have bX:(k:Int) < u:=by omega
   have r0:=cell_later hK.below vR.out;have x1:=cell_later hK.below Ns.out;have hI:=mo (w:=wr) (o:=ext o1 wr.heap.size 2) (c:=2) [x] 3 rfl (dI (Nat.le_refl _)) 1 rfl;have hG1:=hG.turn (Turn.of_below o1 2 (au wr (.cells #[.int .i64 x] 3))) (fun h=>h) (fun h=>h);have hK1:=hK.turn (Turn.of_below o1 2 (au wr (.cells #[.int .i64 x] 3))) (fun h=>h);have HI:=af hI;have Ox:=af hG1;have HK1:=af hK1;have hown:=hG1.1.1;have hnw:=bC (wr.alloc (.cells #[.int .i64 x] 3)) [.slice (some ⟨wr.heap.size,0,none⟩) 1 1] 27;rw [World.size_alloc] at hnw;clear hA3 hB3 hG hK hI hG1 hK1;go_wp2_with (at_builtin;refine aU ?_);refine dR ?_;refine aS rfl _ _ 43 rfl 0 27 j0 _ 1 24 Tryz.underlying43 ji XK jz1 XL rfl (.slice sv k cv) k _ rfl (hown.alloc (.cells #[.slice (some ⟨wr.heap.size,0,none⟩) 1 1] 27)) (some ⟨wr.heap.size+1,0,none⟩) 1 1 [.slice (some ⟨wr.heap.size,0,none⟩) 1 1] rfl rfl (fun h=>by cases h) hnw (by simp [Value.oneCell']) (by unfold maxLen;omega) (bA (by omega)) (Nat.zero_le _) ?_;intro v5 w5 k1 k20 _ k4;have k2:((wr.alloc (.cells #[.int .i64 x] 3)).alloc (.cells #[.slice (some ⟨wr.heap.size,0,none⟩) 1 1] 27)).grownBy w5 (Value.slice sv k cv).ownBlock:=⟨k20.os,k20.tape,k20.output,k20.size,k20.block⟩;obtain ⟨G5,T5⟩:=Ox.out.app HI.out k1 k2 k4;have HG5:=af (show kQ w5 _ v5 (k+1) _ (List.replicate (k+1) [x]) by rw [List.replicate_succ'];exact G5);have jc:=af (HK1.out.turn T5 (by decide));clear k1 k20 k2 k4 hnw hown G5 T5 HG HKK HB3 Ox HK1 HI s0 s1 s2 s3 s4 s5 p0 r0 x1;go_wp2;go_roundw
   case rel=>exact ⟨k+1,_,_,by omega,by go_num,HG5.out,jc.out⟩
   case measure=>simp [intOf];omega
  ·
   obtain rfl:k=u:=by omega
   have aT:=hB3;have q0:=ah _ _ aT 0 _ rfl;have q1:=ah _ _ aT 1 _ rfl;have q2:=ah _ _ aT 2 _ rfl;have q3:=ah _ _ aT 3 _ rfl;have q4:=ah _ _ aT 4 _ rfl;have q5:=ah _ _ aT 5 _ rfl;have r0:=aj aT 0;have r1:=aj aT 1;have r2:=aj aT 2;have r3:=aj aT 3;have r4:=aj aT 4;have r5:=aj aT 5;clear hA3 hB3 hG hK aT;go_wp2;have aT:=HB3.out;have hK:=block_setCell (block_setCell (block_setCell (block_setCell (block_setCell (block_setCell aT 0 (.int .u8 9)) 1 (.slice (some ⟨pb,po,none⟩) 1 c1)) 2 (.slice a2 n2 c2)) 3 (.slice a3 n3 c3)) 4 (.slice a4 n4 c4)) 5 (.int .i64 n);refine bodyPost_ret_by (aH rfl _ _ _ _ _ _ _ rfl hK Tryz.underlying84 rfl (by kernel_rfl)) rfl ?_;have hL:vU wr (nu w.heap.size) 2 (.slice sv k cv) (List.replicate k [x]):=HG.out.llc (fun j hj e=>iU (by
    rcases Nat.lt_or_ge j W.heap.size with h | h
    ·
     have:=HKK.out.old j h;omega
    ·
     have:=Fa.out;omega))
   have:=Fa.out;exact kz HK.out (jU.out.trans (HKK.out.below.mono (by omega))) (lF (aG.refl _ _) rfl) hL
theorem Dk {w W W':World}{o:Col}{c:Nat}{t n:Int}{vp vi vo vk Dj ov:Value}{keep':List Int}{outs:List (List Int)}(hb:Below w.heap.size w W)(hM:aG (fun k=>k=w.heap.size+1) W W')
  (hk:Ints W (nu w.heap.size) 2 Dj keep') (ho:vU W (nu w.heap.size) 2 ov outs) :
  dU w o c t vp vi vo vk n (some (outs,keep')) (.returned (.tuple #[.agg #[.int .u8 t,vp,vi,vo,Dj,.int .i64 n],ov,.int .i64 0])) W':=by
 have hB:Below w.heap.size w W':=hb.trans (hM.below hb.size (fun k hk e=>by omega));have T:Turn (nu w.heap.size) (nu w.heap.size) (fun x=>x=0) W W':=⟨hM.mono (fun k _ e=>by simp [e]),fun _ _=>rfl⟩;have hc:∀ k,k < W'.heap.size->nu w.heap.size k=2->ext o w.heap.size c k=c:=fun k hk e=>by
  have:¬ k < w.heap.size:=fun h=>by
   have:k < w.heap.size+2:=by omega
   simp [this] at e
  exact dI (by omega)
 exact ⟨ov,Dj,rfl,(hk.turn T (by decide)).dO hc,(ho.turn T (by decide)).dO hc,hB⟩
theorem Nt {w:World}{o:Col}{c n cap k:Nat}{sa:Option Addr}{l:List Int}(h:Ints w o c (.slice sa n cap) l)(hk:k<=l.length):Ints w o c (.slice sa k cap) (l.take k):=by
 by_cases hp:0 < k
 ·
  obtain ⟨g,off,rfl,hn,hc,hb,ho,hcl⟩:=h.at (by omega);have hl:(l.take k).length=k:=by rw [List.length_take];omega
  refine .inr ⟨by rw [aX,hl];exact hp,g,off,cap,by rw [aX,hl],by rw [aX,hl];omega,hb,ho,fun j hj=>?_⟩;rw [aX,hl] at hj;rw [hcl j (by omega),iC (by omega),List.getElem?_take_of_lt hj]
 ·
  obtain rfl:k=0:=by omega
  exact .inl ⟨by simp,_,_,rfl⟩
theorem GX (w:World)(o:Col)(c:Nat)(a1 a2 a3 a4:Option Addr)(n1 n2 n3 n4 c1 c2 c3 c4:Nat)(n x:Int)(ps keep:List Int)
  (hk:Has w (.slice a4 n4 c4) (bB keep)) (hp:Has w (.slice a1 n1 c1) (bB ps)) (hl:ps.length=keep.length+1) (Q9:ps.length<=16) (hfp:∀ z∈ps,Fits z) (D7:∀ z∈keep,Fits z) (hx:Fits x) :
  Calls Tryz.prog 98 #[.agg #[.int .u8 1,.slice a1 n1 c1,.slice a2 n2 c2,.slice a3 n3 c3,.slice a4 n4 c4,.int .i64 n],.int .i64 x] w (dU w o c 1 (.slice a1 n1 c1) (.slice a2 n2 c2) (.slice a3 n3 c3) (.slice a4 n4 c4) n ((mI 0 ps (x :: keep)).map fun y=>([[y]],(x :: keep).take keep.length))):=by
 obtain ⟨i0,hi,hz0,hz1,hz2⟩:=info_parts bU;obtain rfl:n1=ps.length:=by have:=hp.len;simpa using this
 obtain rfl:n4=keep.length:=by have:=hk.len;simpa using this
 obtain ⟨A,hA⟩:∃ A,A=Obj.cells #[.int .u8 1,.slice a1 ps.length c1,.slice a2 n2 c2,.slice a3 n3 c3,.slice a4 keep.length c4,.int .i64 n] 84:=⟨_,rfl⟩;obtain ⟨B,hB⟩:∃ B,B=Obj.cells #[.int .u8 0,.slice none 0 0,.slice none 0 0,.slice none 0 0,.slice none 0 0,.int .i64 0] 84:=⟨_,rfl⟩;have hbW:Below w.heap.size w ((w.alloc A).alloc B):=(au w _).alloc (by simp) _;have HB0:=af (heap_alloc_new (w.alloc A) B);have Nr:=af (aI (heap_alloc_new w A) B);have HKW:=af (hk.below hbW);have HPW:=af (hp.below hbW);have jU:=af hbW;obtain ⟨W,hW⟩:∃ W,W=(w.alloc A).alloc B:=⟨_,rfl⟩;have hsz:W.heap.size=w.heap.size+1+1:=by rw [hW];simp
 rw [<- hW] at HB0 Nr HKW HPW jU;rw [World.size_alloc] at HB0;subst hA hB;have HW:=af hW;have Fa:=af hsz;have HL:=af hl;have abF:=af Q9;have Zo:=af hfp;have HFK:=af D7;have HX:=af hx;have hkl:(keep.length:Int)<=16:=by omega
 clear hk hp hbW hW hsz hl Q9 hfp D7 hx;go_enter Tryz.func98,Tryz.ntmps98;go_wp2_with (at_builtin;refine aU ?_);rw [<- HW.out];refine dR ?_;have hsz0:w.heap.size+1+1=W.heap.size:=Fa.out.symm;refine aS rfl _ _ 27 rfl W.heap.size 3 i0 _ 1 8 Tryz.underlying27 hi hz0 hz1 hz2 rfl (.slice none 0 0) 0 [] rfl (World.ownsRow_nil _ _ _ _) (some ⟨W.heap.size,0,none⟩) 1 1 [.int .i64 x] (by rw [<- hsz0];rfl) rfl (fun h=>by cases h) (bC W [.int .i64 x] 3) (by simp [Value.oneCell']) (by unfold maxLen;omega) (bA (by omega)) (by simp) ?_;intro v2 w2 g1 g20 _ g4;clear hsz0;have g2:(W.alloc (.cells #[.int .i64 x] 3)).grownBy w2 (Value.slice none 0 0).ownBlock:=⟨g20.os,g20.tape,g20.output,g20.size,g20.block⟩;have hb2:Below W.heap.size W w2:=gJ (World.ownsRow_nil W W.heap.size 3 1) g2 (Nat.le_refl _);simp only [Nat.zero_add,List.nil_append] at g1;obtain ⟨s2,k2,rfl⟩:=aA g1;have hA2:=aN Nr.out (aG.of_below hb2 (fun _=>False)) (fun h=>h);have t4:=ah _ _ hA2 4 (.slice a4 keep.length c4) rfl;obtain ⟨hnone,hnews⟩:=(HKW.out.below hb2).news;have su:=af hnone;have wu:=af hnews;have HB2:=af hb2;have sz2:=hb2.size;clear hnone hnews hA2 g20 g2 g4 hb2;go_wp2_with (at_builtin;refine aU ?_);refine dR ?_;refine aS rfl _ _ 27 rfl W.heap.size 3 i0 _ 1 8 Tryz.underlying27 hi hz0 hz1 hz2 rfl (.slice s2 1 k2) 1 _ rfl g1 a4 keep.length c4 (bB keep) rfl (by simp) (by simpa using su.out) wu.out (mX keep) (by unfold maxLen;omega) (bA (by omega)) sz2 ?_;intro v3 w3 g1' g20 _ _;have hb3:Below W.heap.size W w3:=HB2.out.trans (((aG.refl (fun k=>(Value.slice s2 1 k2).ownBlock=some k) w2).grown g20 (fun k hk _=>hk)).below sz2 (fun k hk e=>by have:=(g1.lt k e).1;omega));have hown:w3.ownsRow W.heap.size 3 1 v3 (x :: keep).length (bB (x :: keep)):=by
  have e:1+keep.length=(x :: keep).length:=by simp;omega
  rw [<- e];exact g1'
 obtain ⟨s3,k3,rfl⟩:=aA hown;have hA3:=aN Nr.out (aG.of_below hb3 (fun _=>False)) (fun h=>h);have aT:=aN HB0.out (aG.of_below hb3 (fun _=>False)) (fun h=>h);have s0:=ah _ _ hA3 0 (.int .u8 1) rfl;have s1:=ah _ _ hA3 1 (.slice a1 ps.length c1) rfl;have s2':=ah _ _ hA3 2 (.slice a2 n2 c2) rfl;have s3':=ah _ _ hA3 3 (.slice a3 n3 c3) rfl;have s4:=ah _ _ hA3 4 (.slice a4 keep.length c4) rfl;have s5:=ah _ _ hA3 5 (.int .i64 n) rfl;have f4:=aj hA3 4;have q0:=ah _ _ aT 0 _ rfl;have q1:=ah _ _ aT 1 _ rfl;have q2:=ah _ _ aT 2 _ rfl;have q3:=ah _ _ aT 3 _ rfl;have q4:=ah _ _ aT 4 _ rfl;have q5:=ah _ _ aT 5 _ rfl;have r0:=aj aT 0;have r1:=aj aT 1;have r2:=aj aT 2;have r3:=aj aT 3;have r4:=aj aT 4;have r5:=aj aT 5;have hcap:(x :: keep).length<=k3:=(bQ hown (by simp)).2.1;have fu:(keep.length:Int)+1<=k3:=by simp at hcap;omega
 have hlen1:((x :: keep).length:Int)=keep.length+1:=by simp
 have HOWN:=af hown;have HB3:=af hb3;have lN:=af aT;have HA3:=af hA3;have HP3:=af (HPW.out.below hb3);have abG:Hid (∀ z∈x :: keep,Fits z):=af (fun z hz=>by
  rcases List.mem_cons.1 hz with rfl | hz
  ·
   exact HX.out
  ·
   exact HFK.out z hz)
 clear g1 g1' g20 t4 hown hb3 aT hA3 hcap sz2;go_wp2_with fail;refine (Nl w3 a1 s3 _ _ c1 k3 ps (x :: keep) HP3.out (Own.made (fun _=>0) 2 HOWN.out).vals (by have:=HL.out;simp;omega) (by have:=abF.out;omega) Zo.out abG.out).mono ?_;rintro e w4 ⟨rfl,q,rfl⟩
 rcases hd:mI 0 ps (x :: keep) with _ | y
 ·
  have HD:=af hd;clear hd;have e0:FL none=.tuple #[.int .i64 0,.bool false]:=rfl;rw [e0];clear e0;go_wp2;have aT:=lN.out;have hK:=block_setCell (block_setCell (block_setCell (block_setCell (block_setCell (block_setCell aT 0 (.int .u8 1)) 1 (.slice a1 ps.length c1)) 2 (.slice a2 n2 c2)) 3 (.slice a3 n3 c3)) 4 (.slice a4 keep.length c4)) 5 (.int .i64 n);refine bodyPost_ret_by (aH rfl _ _ _ _ _ _ _ rfl hK Tryz.underlying84 rfl (by kernel_rfl)) rfl ?_
  rewrite [HD.out]
  exact ⟨rfl,((aG.of_below (jU.out.trans (HB3.out.mono jU.out.size)) (fun k=>k=w.heap.size+1)).trans (lF ((aG.refl (fun k=>k=w.heap.size+1) w3).drewN q) rfl) (fun _ _ h=>h) (fun _ _ h=>h)).below (Nat.le_refl _) (fun k hk e=>by omega)⟩
 ·
  have HD:=af hd;clear hd;have e0:FL (some y)=.tuple #[.int .i64 y,.bool true]:=rfl;rw [e0];clear e0 q0 q1 q2 q3 q4 q5 r0 r1 r2 r3 r4 r5;have hB4:(w3.drewN q).heap[w.heap.size+1]?=some _:=lN.out;have aT:=aI (aI (gV (a:=⟨w.heap.size,4,none⟩) hB4 (show w.heap.size+1≠w.heap.size by omega) (.slice s3 keep.length k3)) (.cells #[.int .i64 y] 3)) (.cells #[.slice (some ⟨w3.heap.size,0,none⟩) 1 1] 27);have q0:=ah _ _ aT 0 _ rfl;have q1:=ah _ _ aT 1 _ rfl;have q2:=ah _ _ aT 2 _ rfl;have q3:=ah _ _ aT 3 _ rfl;have q4:=ah _ _ aT 4 _ rfl;have q5:=ah _ _ aT 5 _ rfl;have r0:=aj aT 0;have r1:=aj aT 1;have r2:=aj aT 2;have r3:=aj aT 3;have r4:=aj aT 4;have r5:=aj aT 5;have AY:=af aT;clear aT hB4;go_wp2;have aT:=AY.out;have hK:=block_setCell (block_setCell (block_setCell (block_setCell (block_setCell (block_setCell aT 0 (.int .u8 1)) 1 (.slice a1 ps.length c1)) 2 (.slice a2 n2 c2)) 3 (.slice a3 n3 c3)) 4 (.slice s3 keep.length k3)) 5 (.int .i64 n);refine bodyPost_ret_by (aH rfl _ _ _ _ _ _ _ rfl hK Tryz.underlying84 rfl (by kernel_rfl)) rfl ?_
  rewrite [HD.out]
  have hsz:=Fa.out;have hs3:w.heap.size+2<=w3.heap.size:=by have:=HB3.out.size;omega
  have hM4:Turn (nu w.heap.size) (nu w.heap.size) (fun x=>x=0) w3 ((w3.drewN q).setCell ⟨w.heap.size,4,none⟩ (.slice s3 keep.length k3)):=⟨((aG.refl (fun k=>nu w.heap.size k=0) w3).drewN q).setCell (p:=⟨w.heap.size,4,none⟩) (fun _=>by simp) _,fun _ _=>rfl⟩;have hS:=((Own.made (fun _=>0) 2 HOWN.out).vals.dO (o':=nu w.heap.size) (d:=2) (fun k _ e=>iU (by
   rcases Nat.lt_or_ge k W.heap.size with h | h
   ·
    rw [dm h] at e;cases e
   ·
    omega)))
  have hS1:Ints w3 (nu w.heap.size) 2 (.slice s3 keep.length k3) ((x :: keep).take keep.length):=Nt hS (Nat.le_succ _);have hS2:=hS1.turn hM4 (by decide);have hbw:Below w.heap.size w ((w3.drewN q).setCell ⟨w.heap.size,4,none⟩ (.slice s3 keep.length k3)):=(dL (jU.out.trans (HB3.out.mono jU.out.size)) q).setCell (Nat.le_refl _) _;have hI:=mo (w:=(w3.drewN q).setCell ⟨w.heap.size,4,none⟩ (.slice s3 keep.length k3)) (o:=nu w.heap.size) (c:=2) (n:=w3.heap.size) [y] 3 (by simp) (iU hs3) 1 rfl;have hL:=nk (n:=w3.heap.size+1) 27 (by simp) (iU (by omega)) hI;have hT2:Turn (nu w.heap.size) (nu w.heap.size) (fun _=>False) ((w3.drewN q).setCell ⟨w.heap.size,4,none⟩ (.slice s3 keep.length k3)) ((((w3.drewN q).setCell ⟨w.heap.size,4,none⟩ (.slice s3 keep.length k3)).alloc (.cells #[.int .i64 y] 3)).alloc (.cells #[.slice (some ⟨w3.heap.size,0,none⟩) 1 1] 27)):=⟨((aG.refl _ _).alloc _).alloc _,fun _ _=>rfl⟩;exact Dk ((hbw.alloc hbw.size _).alloc (Nat.le_trans hbw.size (by simp)) _) (lF (aG.refl _ _) rfl) (hS2.turn hT2 (fun h=>h)) hL
theorem Lx (w:World)(B:Nat)(a' b' c' d' e' f':Value):((((((w.setCell ⟨B,0,none⟩ a').setCell ⟨B,1,none⟩ b').setCell ⟨B,2,none⟩ c').setCell ⟨B,3,none⟩ d').setCell ⟨B,4,none⟩ e').setCell ⟨B,5,none⟩ f').heap.size=w.heap.size:=by simp [jk]
theorem wT {w W:World}{o:Col}{c:Nat}{t n z:Int}{vp vi vo vk:Value}{keep:List Int}(hk:Ints w o c vk keep)(hb:Below w.heap.size w W)(hs:W.heap.size=w.heap.size+1+1) :
  dU w o c t vp vi vo vk n (some ([[z]],keep)) (.returned (.tuple #[.agg #[.int .u8 t,vp,vi,vo,vk,.int .i64 n],.slice (some ⟨w.heap.size+1+1+1,0,none⟩) 1 1,.int .i64 0])) ((W.alloc (.cells #[.int .i64 z] 3)).alloc (.cells #[.slice (some ⟨w.heap.size+1+1,0,none⟩) 1 1] 27)):=by
 refine kz hk ((hb.alloc hb.size _).alloc (Nat.le_trans hb.size (by simp)) _) (aG.refl _ _) (nk 27 (by simp [hs]) (iU (by omega)) (mo [z] 3 hs.symm (iU (by omega)) 1 rfl))
theorem Bc {w0 w:World}{N B:Nat}{a' b' c' d' e' f':Value}(h:Below N w0 w)(hB:N<=B):Below N w0 ((((((w.setCell ⟨B,0,none⟩ a').setCell ⟨B,1,none⟩ b').setCell ⟨B,2,none⟩ c').setCell ⟨B,3,none⟩ d').setCell ⟨B,4,none⟩ e').setCell ⟨B,5,none⟩ f') :=
 (((((h.setCell hB _).setCell hB _).setCell hB _).setCell hB _).setCell hB _).setCell hB _
theorem heap_drewN {w:World}{b:Nat}{x:Option Obj}(h:w.heap[b]?=x)(q:Nat):(w.drewN q).heap[b]?=x:=h
theorem Ra {x:Int}(fx:Fits x)(h:¬ x = -9223372036854775808):wrap64 (-x) = -x:=by
 unfold Fits at fx;exact IntWalk.wrap64_in _ (by omega)
theorem Rb {w:World}{bF:Value}{x y:Int}(h:LL w bF [[x],[y]]):∃ bi oi ic ba oa ca bb ob cb:Nat,bF=.slice (some ⟨bi,oi,none⟩) 2 ic/\(2:Int)<=ic/\(1:Int)<=ca/\(1:Int)<=cb/\w.cell? ⟨bi,oi,none⟩=some (.slice (some ⟨ba,oa,none⟩) 1 ca) /\
  w.cell? ⟨bi,oi+1,none⟩=some (.slice (some ⟨bb,ob,none⟩) 1 cb)/\w.cell? ⟨ba,oa,none⟩=some (.int .i64 x)/\w.cell? ⟨bb,ob,none⟩=some (.int .i64 y):=by
 obtain ⟨ia,ic,rfl⟩:=h.slice;obtain ⟨bi,oi,rfl,hci,hrow⟩:=h.at (by simp);obtain ⟨aa,ca,hr0,hh0⟩:=hrow 0 (by simp);obtain ⟨ab,cb,hr1,ZN⟩:=hrow 1 (by simp);simp at hr0 hh0 hr1 ZN hci;obtain ⟨ba,oa,rfl,-,hca,-,-,hx0⟩:=cu.at hh0 (by simp);obtain ⟨bb,ob,rfl,-,hcb,-,-,hx1⟩:=cu.at ZN (by simp);have h0:=hx0 0 (by simp);have h1:=hx1 0 (by simp);simp at h0 h1;exact ⟨bi,oi,ic,ba,oa,ca,bb,ob,cb,rfl,by omega,by omega,by omega,hr0,hr1,h0,h1⟩
theorem VH (w:World)(o:Col)(c:Nat)(a1 a2 a3 a4:Option Addr)(n1 n2 n3 n4 c1 c2 c3 c4:Nat)(bF:Value)(n x y:Int)(keep:List Int)(hk:Ints w o c (.slice a4 n4 c4) keep)(hins:LL w bF [[x],[y]])(fx:Fits x)(fy:Fits y) :
  Calls Tryz.prog 101 #[.agg #[.int .u8 7,.slice a1 n1 c1,.slice a2 n2 c2,.slice a3 n3 c3,.slice a4 n4 c4,.int .i64 n],bF] w (dU w o c 7 (.slice a1 n1 c1) (.slice a2 n2 c2) (.slice a3 n3 c3) (.slice a4 n4 c4) n ((jI x y).map fun z=>([[z]],keep))):=by
 have HK:=af hk;obtain ⟨bi,oi,ic,ba,oa,ca',bb,ob,cb,rfl,hic,hca,hcb,h0,h1,h2,h3⟩:=Rb hins;obtain ⟨A,hA⟩:∃ A,A=Obj.cells #[.int .u8 7,.slice a1 n1 c1,.slice a2 n2 c2,.slice a3 n3 c3,.slice a4 n4 c4,.int .i64 n] 84:=⟨_,rfl⟩;obtain ⟨B,hB⟩:∃ B,B=Obj.cells #[.int .u8 0,.slice none 0 0,.slice none 0 0,.slice none 0 0,.slice none 0 0,.int .i64 0] 84:=⟨_,rfl⟩;have p0:=ca (o:=B) (ca (o:=A) h0);have p1:=ca (o:=B) (ca (o:=A) h1);have p2:=ca (o:=B) (ca (o:=A) h2);have p3:=ca (o:=B) (ca (o:=A) h3);subst hA hB;have hK:=heap_alloc_new (w.alloc (.cells #[.int .u8 7,.slice a1 n1 c1,.slice a2 n2 c2,.slice a3 n3 c3,.slice a4 n4 c4,.int .i64 n] 84)) (.cells #[.int .u8 7,.slice a1 n1 c1,.slice a2 n2 c2,.slice a3 n3 c3,.slice a4 n4 c4,.int .i64 n] 84);rw [World.size_alloc] at hK;have hB0:=heap_alloc_new (w.alloc (.cells #[.int .u8 7,.slice a1 n1 c1,.slice a2 n2 c2,.slice a3 n3 c3,.slice a4 n4 c4,.int .i64 n] 84)) (.cells #[.int .u8 0,.slice none 0 0,.slice none 0 0,.slice none 0 0,.slice none 0 0,.int .i64 0] 84);rw [World.size_alloc] at hB0;have HB0:=af (heap_drewN hB0);clear hB0;have jU:=af (show Below w.heap.size w ((w.alloc (.cells #[.int .u8 7,.slice a1 n1 c1,.slice a2 n2 c2,.slice a3 n3 c3,.slice a4 n4 c4,.int .i64 n] 84)).alloc (.cells #[.int .u8 0,.slice none 0 0,.slice none 0 0,.slice none 0 0,.slice none 0 0,.int .i64 0] 84)) from (au w _).alloc (by simp) _);clear hk hins h0 h1 h2 h3
 by_cases hy:y=0
 ·
  subst hy;have HP:Hid (Option.map (fun z=>([[z]],keep)) (jI x 0)=none):=af rfl;have HKK:=af hK;clear hK fx fy;go_enter Tryz.func101,Tryz.ntmps101;go_wp2;have hK:=HKK.out;refine bodyPost_ret_by (aH rfl _ _ _ _ _ _ _ rfl hK Tryz.underlying84 rfl (by kernel_rfl)) rfl ?_
  rewrite [HP.out]
  exact ⟨rfl,dL (((Below.refl _ _).alloc (by simp) _).alloc (by simp) _) 0⟩
 ·
  by_cases hm:y = -1
  ·
   subst hm
   by_cases hx:x = -9223372036854775808
   ·
    subst hx;have HP:Hid (Option.map (fun z=>([[z]],keep)) (jI (-9223372036854775808) (-1))=none):=af (by rw [show jI (-9223372036854775808) (-1)=none by decide];rfl);have HKK:=af hK;clear hK fx fy hy;go_enter Tryz.func101,Tryz.ntmps101;go_wp2;have hK:=HKK.out;refine bodyPost_ret_by (aH rfl _ _ _ _ _ _ _ rfl hK Tryz.underlying84 rfl (by kernel_rfl)) rfl ?_
    rewrite [HP.out]
    exact ⟨rfl,dL (((Below.refl _ _).alloc (by simp) _).alloc (by simp) _) 0⟩
   ·
    have hv:jI x (-1)=some (0 - x):=by
     have:Fits (0 - x):=by unfold Fits at fx ⊢;omega
     unfold jI;rw [if_neg (by decide),if_pos rfl,if_pos this]
    have HP:Hid (Option.map (fun z=>([[z]],keep)) (jI x (-1))=some ([[-x]],keep)):=af (by rw [hv,Int.zero_sub];rfl);have hq:x.tdiv (-1) = -x:=by simp
    have hw:=Ra fx hx;have hb1:(x == -9223372036854775808)=false:=beq_eq_false_iff_ne.2 hx;have HKK:=af hK;clear hK fy hy hv;go_enter Tryz.func101,Tryz.ntmps101;go_wp2;go_quiet (fail);go_wp2;have aT:=HB0.out nq;have hK:=block_setCell (block_setCell (block_setCell (block_setCell (block_setCell (block_setCell aT 0 (.int .u8 7)) 1 (.slice a1 n1 c1)) 2 (.slice a2 n2 c2)) 3 (.slice a3 n3 c3)) 4 (.slice a4 n4 c4)) 5 (.int .i64 n);have hK2:=aI (aI hK (.cells #[.int .i64 (-x)] 3)) (.cells #[.slice (some ⟨w.heap.size+1+1,0,none⟩) 1 1] 27);refine bodyPost_ret_by (aH rfl _ _ _ _ _ _ _ rfl hK2 Tryz.underlying84 rfl (by kernel_rfl)) rfl ?_
    rewrite [HP.out]
    exact wT HK.out (Bc (dL jU.out nq) (Nat.le_succ w.heap.size)) ((Lx _ _ _ _ _ _ _ _).trans (by simp))
  ·
   have hv:jI x y=some (x.tdiv y):=by simp [jI,hy,hm]
   have HP:Hid (Option.map (fun z=>([[z]],keep)) (jI x y)=some ([[x.tdiv y]],keep)):=af (by rw [hv];rfl);have hw:=xI fx hy hm;have hb0:(y == 0)=false:=beq_eq_false_iff_ne.2 hy;have hb1:(y == -1)=false:=beq_eq_false_iff_ne.2 hm;have HKK:=af hK;clear hK hv
   by_cases hx:x = -9223372036854775808
   ·
    have hb2:(x == -9223372036854775808)=true:=beq_iff_eq.2 hx;clear hx fx;go_enter Tryz.func101,Tryz.ntmps101;go_wp2;go_quiet (fail);go_wp2;have aT:=HB0.out nq;have hK:=block_setCell (block_setCell (block_setCell (block_setCell (block_setCell (block_setCell aT 0 (.int .u8 7)) 1 (.slice a1 n1 c1)) 2 (.slice a2 n2 c2)) 3 (.slice a3 n3 c3)) 4 (.slice a4 n4 c4)) 5 (.int .i64 n);have hK2:=aI (aI hK (.cells #[.int .i64 (x.tdiv y)] 3)) (.cells #[.slice (some ⟨w.heap.size+1+1,0,none⟩) 1 1] 27);refine bodyPost_ret_by (aH rfl _ _ _ _ _ _ _ rfl hK2 Tryz.underlying84 rfl (by kernel_rfl)) rfl ?_
    rewrite [HP.out]
    exact wT HK.out (Bc (dL jU.out nq) (Nat.le_succ w.heap.size)) ((Lx _ _ _ _ _ _ _ _).trans (by simp))
   ·
    have hb2:(x == -9223372036854775808)=false:=beq_eq_false_iff_ne.2 hx;go_enter Tryz.func101,Tryz.ntmps101;go_wp2;go_quiet (fail);go_wp2;have aT:=HB0.out nq;have hK:=block_setCell (block_setCell (block_setCell (block_setCell (block_setCell (block_setCell aT 0 (.int .u8 7)) 1 (.slice a1 n1 c1)) 2 (.slice a2 n2 c2)) 3 (.slice a3 n3 c3)) 4 (.slice a4 n4 c4)) 5 (.int .i64 n);have hK2:=aI (aI hK (.cells #[.int .i64 (x.tdiv y)] 3)) (.cells #[.slice (some ⟨w.heap.size+1+1,0,none⟩) 1 1] 27);refine bodyPost_ret_by (aH rfl _ _ _ _ _ _ _ rfl hK2 Tryz.underlying84 rfl (by kernel_rfl)) rfl ?_
    rewrite [HP.out]
    exact wT HK.out (Bc (dL jU.out nq) (Nat.le_succ w.heap.size)) ((Lx _ _ _ _ _ _ _ _).trans (by simp))
theorem Dl {w X:World}{o:Col}{c:Nat}{t n z z':Int}{vp vi vo vk:Value}(hb:Below w.heap.size w X)(hs:X.heap.size=w.heap.size+1+1) :
  dU w o c t vp vi vo vk n (some ([[z]],[z'])) (.returned (.tuple #[.agg #[.int .u8 t,vp,vi,vo,.slice (some ⟨w.heap.size+1+1,0,none⟩) 1 1,.int .i64 n],.slice (some ⟨w.heap.size+1+1+1+1,0,none⟩) 1 1,.int .i64 0])) (((X.alloc (.cells #[.int .i64 z'] 3)).alloc (.cells #[.int .i64 z] 3)).alloc (.cells #[.slice (some ⟨w.heap.size+1+1+1,0,none⟩) 1 1] 27)):=by
 have hk:=mo (w:=X) (o:=nu w.heap.size) (c:=2) [z'] 3 hs.symm (iU (by omega)) 1 rfl;have hb1:Below w.heap.size w (X.alloc (.cells #[.int .i64 z'] 3)):=hb.alloc hb.size _;have hs1:(X.alloc (.cells #[.int .i64 z'] 3)).heap.size=w.heap.size+1+1+1:=by simp [hs]
 refine Dk ((hb1.alloc hb1.size _).alloc (Nat.le_trans hb1.size (by simp)) _) (aG.refl _ _) (hk.turn (⟨((aG.refl _ _).alloc _).alloc _,fun _ _=>rfl⟩:Turn (nu w.heap.size) (nu w.heap.size) (fun _=>False) _ _) (fun h=>h)) (nk 27 (by simp [hs]) (iU (by omega)) (mo [z] 3 hs1.symm (iU (by omega)) 1 rfl))
theorem VI (w:World)(o:Col)(c:Nat)(a1 a2 a3 a4:Option Addr)(n1 n2 n3 n4 c1 c2 c3 c4:Nat)(bF:Value)(n x acc:Int)(hk:Ints w o c (.slice a4 n4 c4) [acc])(hins:LL w bF [[x]])(fx:Fits x)(fa:Fits acc) :
  Calls Tryz.prog 101 #[.agg #[.int .u8 8,.slice a1 n1 c1,.slice a2 n2 c2,.slice a3 n3 c3,.slice a4 n4 c4,.int .i64 n],bF] w (dU w o c 8 (.slice a1 n1 c1) (.slice a2 n2 c2) (.slice a3 n3 c3) (.slice a4 n4 c4) n (if Fits (acc+x) then some ([[acc+x]],[acc+x]) else none)):=by
 have HK:=af hk;obtain ⟨b4,o4,rfl,hn4,hc4,-,-,hkc⟩:=cu.at hk (by simp);have k0:=hkc 0 (by simp);simp at k0 hn4;subst hn4;have abH:(1:Int)<=c4:=by omega
 obtain ⟨ia,ic,rfl⟩:=hins.slice;obtain ⟨bi,oi,rfl,hci,hrow⟩:=hins.at (by simp);obtain ⟨a0,c0,hr0,hh0⟩:=hrow 0 (by simp);simp only [List.length_cons,List.length_nil,List.getElem?_cons_zero,Option.getD_some,Nat.add_zero,Nat.zero_add] at hr0 hh0 hci ⊢;obtain ⟨b0,o0,rfl,-,hc0,-,-,hx0⟩:=cu.at hh0 (by simp);have hx1:=hx0 0 (by simp);simp at hx1;have JZ:(1:Int)<=ic:=by omega
 have Q6:(1:Int)<=c0:=by omega
 obtain ⟨A,hA⟩:∃ A,A=Obj.cells #[.int .u8 8,.slice a1 n1 c1,.slice a2 n2 c2,.slice a3 n3 c3,.slice (some ⟨b4,o4,none⟩) 1 c4,.int .i64 n] 84:=⟨_,rfl⟩;obtain ⟨B,hB⟩:∃ B,B=Obj.cells #[.int .u8 0,.slice none 0 0,.slice none 0 0,.slice none 0 0,.slice none 0 0,.int .i64 0] 84:=⟨_,rfl⟩;have p0:=ca (o:=B) (ca (o:=A) hr0);have p1:=ca (o:=B) (ca (o:=A) hx1);have p2:=ca (o:=B) (ca (o:=A) k0);have HB0:=af (heap_drewN (show ((w.alloc A).alloc B).heap[w.heap.size+1]?=some B by have:=heap_alloc_new (w.alloc A) B;rwa [World.size_alloc] at this));have jU:=af (show Below w.heap.size w ((w.alloc A).alloc B) from (au w _).alloc (by simp) _);subst hA hB;have Ir:=af fx;have vT:=af fa;clear hk hkc hins hrow hr0 hh0 hx0 hx1 k0 fx fa
 by_cases hf:Fits (acc+x)
 ·
  have HP:Hid ((if Fits (acc+x) then some ([[acc+x]],[acc+x]) else none)=some ([[acc+x]],[acc+x])):=af (if_pos hf);have HF:=af hf;clear hf;go_enter Tryz.func101,Tryz.ntmps101;go_wp2;go_quiet ((go_at_call 105;exact Calls.quiet_of_same ((uw _ acc x vT.out Ir.out HF.out).mono fun e w' ⟨h1,h2⟩=>⟨h1,h2.symm⟩)));go_wp2;have aT:=gV (a:=⟨w.heap.size,4,none⟩) (HB0.out nq) (show w.heap.size+1≠w.heap.size by omega) (.slice (some ⟨w.heap.size+1+1,0,none⟩) 1 1);have hK:=block_setCell (block_setCell (block_setCell (block_setCell (block_setCell (block_setCell aT 0 (.int .u8 8)) 1 (.slice a1 n1 c1)) 2 (.slice a2 n2 c2)) 3 (.slice a3 n3 c3)) 4 (.slice (some ⟨w.heap.size+1+1,0,none⟩) 1 1)) 5 (.int .i64 n);have hK2:=aI (aI (aI hK (.cells #[.int .i64 (acc+x)] 3)) (.cells #[.int .i64 (acc+x)] 3)) (.cells #[.slice (some ⟨w.heap.size+1+1+1,0,none⟩) 1 1] 27);refine bodyPost_ret_by (aH rfl _ _ _ _ _ _ _ rfl hK2 Tryz.underlying84 rfl (by kernel_rfl)) rfl ?_
  first | rewrite [HP.out] | skip
  exact Dl (Bc ((dL jU.out nq).setCell (Nat.le_refl _) _) (Nat.le_succ w.heap.size)) ((Lx _ _ _ _ _ _ _ _).trans (by simp [jk]))
 ·
  have HP:Hid ((if Fits (acc+x) then some ([[acc+x]],[acc+x]) else none)=none):=af (if_neg hf);have HF:=af hf;clear hf;go_enter Tryz.func101,Tryz.ntmps101;go_wp2;go_quiet ((go_at_call 105;exact Calls.quiet_of_same ((wR _ acc x vT.out Ir.out HF.out).mono fun e w' ⟨h1,h2⟩=>⟨h1,h2.symm⟩)));go_wp2;have aT:=HB0.out nq;have hK:=block_setCell (block_setCell (block_setCell (block_setCell (block_setCell (block_setCell aT 0 (.int .u8 8)) 1 (.slice a1 n1 c1)) 2 (.slice a2 n2 c2)) 3 (.slice a3 n3 c3)) 4 (.slice (some ⟨b4,o4,none⟩) 1 c4)) 5 (.int .i64 n);refine bodyPost_ret_by (aH rfl _ _ _ _ _ _ _ rfl hK Tryz.underlying84 rfl (by kernel_rfl)) rfl ?_
  first | rewrite [HP.out] | skip
  exact ⟨rfl,Bc (dL jU.out nq) (Nat.le_succ w.heap.size)⟩
theorem Rc (w:World)(o:Col)(c:Nat)(a1 a2 a3 a4:Option Addr)(n1 n2 n3 n4 c1 c2 c3 c4:Nat)(bF:Value)(n p x acc:Int)(hk:Ints w o c (.slice a4 n4 c4) [acc])(hp:Has w (.slice a1 n1 c1) (bB [p,x]))(fx:Fits x)(fa:Fits acc) :
  Calls Tryz.prog 101 #[.agg #[.int .u8 10,.slice a1 n1 c1,.slice a2 n2 c2,.slice a3 n3 c3,.slice a4 n4 c4,.int .i64 n],bF] w (dU w o c 10 (.slice a1 n1 c1) (.slice a2 n2 c2) (.slice a3 n3 c3) (.slice a4 n4 c4) n (if Fits (acc+x) then some ([[acc]],[acc+x]) else none)):=by
 have HK:=af hk;obtain ⟨b4,o4,rfl,hn4,hc4,-,-,hkc⟩:=cu.at hk (by simp);have k0:=hkc 0 (by simp);simp at k0 hn4;subst hn4;have abH:(1:Int)<=c4:=by omega
 obtain ⟨pb,po,rfl,hn1,hc1,-,-,hpc⟩:=cu.at hp (by simp);have hp1:=hpc 1 (by simp);simp at hp1 hn1;subst hn1;have M8:(2:Int)<=c1:=by omega
 obtain ⟨A,hA⟩:∃ A,A=Obj.cells #[.int .u8 10,.slice (some ⟨pb,po,none⟩) 2 c1,.slice a2 n2 c2,.slice a3 n3 c3,.slice (some ⟨b4,o4,none⟩) 1 c4,.int .i64 n] 84:=⟨_,rfl⟩;obtain ⟨B,hB⟩:∃ B,B=Obj.cells #[.int .u8 0,.slice none 0 0,.slice none 0 0,.slice none 0 0,.slice none 0 0,.int .i64 0] 84:=⟨_,rfl⟩;have p0:=ca (o:=B) (ca (o:=A) hp1);have p2:=ca (o:=B) (ca (o:=A) k0);subst hA hB;have Ir:=af fx;have vT:=af fa;clear hk hkc hp hpc hp1 k0 fx fa
 by_cases hf:Fits (acc+x)
 ·
  have HP:Hid ((if Fits (acc+x) then some ([[acc]],[acc+x]) else none)=some ([[acc]],[acc+x])):=af (if_pos hf);have HF:=af hf;clear hf;go_enter Tryz.func101,Tryz.ntmps101;go_wp2_with fail;refine (uw _ acc x vT.out Ir.out HF.out).mono ?_;rintro e w1 ⟨rfl,rfl⟩;go_wp2;have hK:=heap_alloc_new (w.alloc (.cells #[.int .u8 10,.slice (some ⟨pb,po,none⟩) 2 c1,.slice a2 n2 c2,.slice a3 n3 c3,.slice (some ⟨w.heap.size+1+1,0,none⟩) 1 1,.int .i64 n] 84)) (.cells #[.int .u8 10,.slice (some ⟨pb,po,none⟩) 2 c1,.slice a2 n2 c2,.slice a3 n3 c3,.slice (some ⟨w.heap.size+1+1,0,none⟩) 1 1,.int .i64 n] 84);rw [World.size_alloc] at hK;have hK2:=aI (aI (aI hK (.cells #[.int .i64 (acc+x)] 3)) (.cells #[.int .i64 acc] 3)) (.cells #[.slice (some ⟨w.heap.size+1+1+1,0,none⟩) 1 1] 27);refine bodyPost_ret_by (aH rfl _ _ _ _ _ _ _ rfl hK2 Tryz.underlying84 rfl (by kernel_rfl)) rfl ?_
  first | rewrite [HP.out] | skip
  exact Dl ((au w _).alloc (by simp) _) (by simp)
 ·
  have HP:Hid ((if Fits (acc+x) then some ([[acc]],[acc+x]) else none)=none):=af (if_neg hf);have HF:=af hf;clear hf;go_enter Tryz.func101,Tryz.ntmps101;go_wp2_with fail;refine (wR _ acc x vT.out Ir.out HF.out).mono ?_;rintro e w1 ⟨rfl,rfl⟩;go_wp2;have hK:=heap_alloc_new (w.alloc (.cells #[.int .u8 10,.slice (some ⟨pb,po,none⟩) 2 c1,.slice a2 n2 c2,.slice a3 n3 c3,.slice (some ⟨b4,o4,none⟩) 1 c4,.int .i64 n] 84)) (.cells #[.int .u8 10,.slice (some ⟨pb,po,none⟩) 2 c1,.slice a2 n2 c2,.slice a3 n3 c3,.slice (some ⟨b4,o4,none⟩) 1 c4,.int .i64 n] 84);rw [World.size_alloc] at hK;refine bodyPost_ret_by (aH rfl _ _ _ _ _ _ _ rfl hK Tryz.underlying84 rfl (by kernel_rfl)) rfl ?_
  first | rewrite [HP.out] | skip
  exact ⟨rfl,(au w _).alloc (by simp) _⟩
theorem J2 {xss:List (List Int)}{k:Nat}(h:k < (firsts xss).length):(firsts xss)[k]=(xss[k]?.getD [])[0]?.getD 0:=by
 have hk:k < xss.length:=by simpa [firsts,wE] using h
 simp [firsts,wE,hk]
theorem Bd (xss:List (List Int)):(firsts xss).length=xss.length:=by simp [firsts,wE]
theorem VJ (w:World)(o:Col)(c:Nat)(a1 a2 a3 a4:Option Addr)(n1 n2 n3 n4 c1 c2 c3 c4:Nat)(bF:Value)(n:Int)(keep:List Int)(xss:List (List Int))(hk:Ints w o c (.slice a4 n4 c4) keep)(hins:LL w bF xss)(hr:∀ l∈xss,l.length=1)(hl:xss.length<=16)(hf:∀ l∈xss,∀ x∈l,Fits x) :
  Calls Tryz.prog 101 #[.agg #[.int .u8 6,.slice a1 n1 c1,.slice a2 n2 c2,.slice a3 n3 c3,.slice a4 n4 c4,.int .i64 n],bF] w (dU w o c 6 (.slice a1 n1 c1) (.slice a2 n2 c2) (.slice a3 n3 c3) (.slice a4 n4 c4) n ((oH 0 (firsts xss)).map fun y=>([[y]],keep))):=by
 have HK:=af hk;obtain ⟨ia,ic,rfl⟩:=hins.slice;obtain ⟨A,hA⟩:∃ A,A=Obj.cells #[.int .u8 6,.slice a1 n1 c1,.slice a2 n2 c2,.slice a3 n3 c3,.slice a4 n4 c4,.int .i64 n] 84:=⟨_,rfl⟩;obtain ⟨B,hB⟩:∃ B,B=Obj.cells #[.int .u8 0,.slice none 0 0,.slice none 0 0,.slice none 0 0,.slice none 0 0,.int .i64 0] 84:=⟨_,rfl⟩;have HI:=af (hins.below (show Below w.heap.size w ((w.alloc A).alloc B) from (au w _).alloc (by simp) _));subst hA hB;have HR:=af hr;have HF:=af hf;have E9:(xss.length:Int)<=16:=by omega
 have f0:Fits 0:=by unfold Fits;omega
 have hK:=heap_alloc_new (w.alloc (.cells #[.int .u8 6,.slice a1 n1 c1,.slice a2 n2 c2,.slice a3 n3 c3,.slice a4 n4 c4,.int .i64 n] 84)) (.cells #[.int .u8 6,.slice a1 n1 c1,.slice a2 n2 c2,.slice a3 n3 c3,.slice a4 n4 c4,.int .i64 n] 84);rw [World.size_alloc] at hK;have HKK:=af hK;clear hk hins hr hf hK;go_enter Tryz.func101,Tryz.ntmps101;go_wp2_with fail
 go_loopw [7,8,9] (fun g s i wr=>wr=(w.alloc (.cells #[.int .u8 6,.slice a1 n1 c1,.slice a2 n2 c2,.slice a3 n3 c3,.slice a4 n4 c4,.int .i64 n] 84)).alloc (.cells #[.int .u8 0,.slice none 0 0,.slice none 0 0,.slice none 0 0,.slice none 0 0,.int .i64 0] 84)/\∃ (k:Nat) (acc:Int),k<=xss.length/\i=.int .i64 k/\((g=.bool true/\s=.int .i64 acc/\Fits acc/\oH 0 (firsts xss)=oH acc ((firsts xss).drop k))\/(g=.bool false/\s=.int .i64 0/\oH 0 (firsts xss)=none))) (fun _ _ i _=>xss.length - (intOf i).toNat)
 case atStart=>exact ⟨rfl,0,0,Nat.zero_le _,rfl,.inl ⟨rfl,rfl,f0,by simp⟩⟩
 case round =>
  obtain ⟨rfl,k,acc,hk,rfl,h⟩:=hrel
  rcases h with ⟨rfl,rfl,fa,hs⟩ | ⟨rfl,rfl,hs⟩
  ·
   have vT:=af fa;have HS:=af hs;clear fa hs
   by_cases hlt:k < xss.length
   ·
    have bX:(k:Int) < xss.length:=by omega
    obtain ⟨bi,oi,rfl,hci,hrow⟩:=HI.out.at (by omega);obtain ⟨a0,c0,hr0,hh0⟩:=hrow k hlt;have hm:(xss[k]?.getD [])∈xss:=by simp [hlt]
    have hrl:=HR.out _ hm;rw [hrl] at hr0 hh0;obtain ⟨b0,o0,rfl,-,hc0,-,-,hx0⟩:=cu.at hh0 (by rw [aX];omega);have hx1:=hx0 0 (by rw [aX];omega);rw [iC (by omega),Nat.add_zero] at hx1;have JZ:(xss.length:Int)<=ic:=by omega
    have Q6:(1:Int)<=c0:=by omega
    have hfl:k < (firsts xss).length:=by rw [Bd];exact hlt
    have hst:=Cj (acc:=acc) hfl;rw [J2 hfl] at hst;have hfx:=HF.out _ hm ((xss[k]?.getD [])[0]?.getD 0) (by
     have:0 < (xss[k]?.getD []).length:=by omega
     simp [this])
    have HST:=af hst;have Ir:=af hfx;clear hst hfx hrow hh0 hx0 hm hrl hfl;generalize (xss[k]?.getD [])[0]?.getD 0=x at *;go_wp2_with fail
    by_cases hf2:Fits (acc+x)
    ·
     refine (uw _ acc x vT.out Ir.out hf2).mono ?_;rintro e w1 ⟨rfl,rfl⟩;have KN:=af hf2;clear hf2;go_wp2;go_roundw
     case rel=>exact ⟨by first | rfl | trivial,k+1,acc+x,by omega,by go_num,.inl ⟨rfl,rfl,KN.out,by rw [HS.out,HST.out,if_pos KN.out]⟩⟩
     case measure=>simp [intOf];omega
    ·
     refine (wR _ acc x vT.out Ir.out hf2).mono ?_;rintro e w1 ⟨rfl,rfl⟩;have KN:=af hf2;clear hf2;go_wp2;go_roundw
     case rel=>exact ⟨by first | rfl | trivial,k+1,0,by omega,by go_num,.inr ⟨rfl,rfl,by rw [HS.out,HST.out,if_neg KN.out]⟩⟩
     case measure=>simp [intOf];omega
   ·
    obtain rfl:k=xss.length:=by omega
    have HP:Hid (Option.map (fun y=>([[y]],keep)) (oH 0 (firsts xss))=some ([[acc]],keep)):=af (by
     rw [HS.out,List.drop_of_length_le (by rw [Bd];exact Nat.le_refl _)];rfl)
    go_wp2;have hK2:=aI (aI HKK.out (.cells #[.int .i64 acc] 3)) (.cells #[.slice (some ⟨w.heap.size+1+1,0,none⟩) 1 1] 27);refine bodyPost_ret_by (aH rfl _ _ _ _ _ _ _ rfl hK2 Tryz.underlying84 rfl (by kernel_rfl)) rfl ?_
    rewrite [HP.out]
    exact wT HK.out ((au w _).alloc (by simp) _) (by simp)
  ·
   have HP:Hid (Option.map (fun y=>([[y]],keep)) (oH 0 (firsts xss))=none):=af (by rw [hs];rfl);clear hs
   by_cases hlt:k < xss.length
   ·
    have bX:(k:Int) < xss.length:=by omega
    go_wp2;refine bodyPost_ret_by (aH rfl _ _ _ _ _ _ _ rfl HKK.out Tryz.underlying84 rfl (by kernel_rfl)) rfl ?_
    rewrite [HP.out]
    exact ⟨rfl,(au w _).alloc (by simp) _⟩
   ·
    obtain rfl:k=xss.length:=by omega
    go_wp2;refine bodyPost_ret_by (aH rfl _ _ _ _ _ _ _ rfl HKK.out Tryz.underlying84 rfl (by kernel_rfl)) rfl ?_
    rewrite [HP.out]
    exact ⟨rfl,(au w _).alloc (by simp) _⟩
theorem qm {w W w3 w4:World}{o:Col}{c:Nat}{t n:Int}{vp vi vo vk Dj ov:Value}{keep':List Int}{outs:List (List Int)}(hbW:Below w.heap.size w W)(hWs:W.heap.size=w.heap.size+2)(hb3:Below W.heap.size W w3)
  (hk:Ints w3 (ext (ext o w.heap.size (c+1)) W.heap.size c) c Dj keep') (ho:vU w3 (ext (ext o w.heap.size (c+1)) W.heap.size c) c ov outs) (hM:aG (fun k=>k=w.heap.size+1) w3 w4) :
  dU w o c t vp vi vo vk n (some (outs,keep')) (.returned (.tuple #[.agg #[.int .u8 t,vp,vi,vo,Dj,.int .i64 n],ov,.int .i64 0])) w4:=by
 have hb:=hbW.trans (hb3.mono hbW.size);have hB:Below w.heap.size w w4:=hb.trans (hM.below hb.size (fun k hk e=>by omega));have T:Turn (ext (ext o w.heap.size (c+1)) W.heap.size c) (ext (ext o w.heap.size (c+1)) W.heap.size c) (fun x=>x=c+1) w3 w4:=⟨hM.mono (fun k _ e=>by
  subst e;rw [dm (by omega),dI (by omega)]),fun _ _=>rfl⟩
 have hc:∀ k,k < w4.heap.size->ext (ext o w.heap.size (c+1)) W.heap.size c k=c->ext o w.heap.size c k=c:=fun k _ e=>by
  by_cases h:k < w.heap.size
  ·
   rw [dm (by omega),dm h] at e;rw [dm h];exact e
  ·
   exact dI (by omega)
 exact ⟨ov,Dj,rfl,(hk.turn T (by omega)).dO hc,(ho.turn T (by omega)).dO hc,hB⟩
theorem lG {w W w3 w4:World}{o:Col}{c:Nat}{t n:Int}{vp vi vo vk:Value}(hbW:Below w.heap.size w W)(hb3:Below W.heap.size W w3)(hM:aG (fun k=>k=w.heap.size+1) w3 w4) :
  dU w o c t vp vi vo vk n none (.returned (.tuple #[.agg #[.int .u8 t,vp,vi,vo,vk,.int .i64 n],.slice none 0 0,.int .i64 70])) w4:=by
 have hb:=hbW.trans (hb3.mono hbW.size);exact ⟨rfl,hb.trans (hM.below hb.size (fun k hk e=>by omega))⟩
theorem GY (w:World)(o:Col)(c:Nat)(a1 a2 a3 a4:Option Addr)(n1 n2 n3 n4 c1 c2 c3 c4:Nat)(ia:Option Addr)(il ic:Nat)(n:Int)(r:Option (List (List Int) × List Int))
  (hc:∀ W,Below w.heap.size w W->Calls Tryz.prog 101 #[.agg #[.int .u8 6,.slice a1 n1 c1,.slice a2 n2 c2,.slice a3 n3 c3,.slice a4 n4 c4,.int .i64 n],.slice ia il ic] W (dU W (ext o w.heap.size (c+1)) c 6 (.slice a1 n1 c1) (.slice a2 n2 c2) (.slice a3 n3 c3) (.slice a4 n4 c4) n r)) :
  Calls Tryz.prog 91 #[.agg #[.int .u8 6,.slice a1 n1 c1,.slice a2 n2 c2,.slice a3 n3 c3,.slice a4 n4 c4,.int .i64 n],.slice ia il ic] w (dU w o c 6 (.slice a1 n1 c1) (.slice a2 n2 c2) (.slice a3 n3 c3) (.slice a4 n4 c4) n r):=by
 have HC:=af hc;clear hc;obtain ⟨A,hA⟩:∃ A,A=Obj.cells #[.int .u8 6,.slice a1 n1 c1,.slice a2 n2 c2,.slice a3 n3 c3,.slice a4 n4 c4,.int .i64 n] 84:=⟨_,rfl⟩;obtain ⟨B,hB⟩:∃ B,B=Obj.cells #[.int .u8 0,.slice none 0 0,.slice none 0 0,.slice none 0 0,.slice none 0 0,.int .i64 0] 84:=⟨_,rfl⟩;have hbW:Below w.heap.size w ((w.alloc A).alloc B):=(au w _).alloc (by simp) _;have hB0:=heap_alloc_new (w.alloc A) B;rw [World.size_alloc] at hB0;subst hA hB;have jU:=af hbW;have HB0:=af hB0;clear hbW hB0
 rcases r with _ | ⟨outs,keep'⟩
 ·
  go_enter Tryz.func91,Tryz.ntmps91;go_wp2_with fail;refine (HC.out _ jU.out).mono ?_;rintro e w3 ⟨rfl,hb3⟩;have aT:=aN HB0.out (aG.of_below hb3 (fun _=>False)) (fun h=>h);have q0:=ah _ _ aT 0 _ rfl;have q1:=ah _ _ aT 1 _ rfl;have q2:=ah _ _ aT 2 _ rfl;have q3:=ah _ _ aT 3 _ rfl;have q4:=ah _ _ aT 4 _ rfl;have q5:=ah _ _ aT 5 _ rfl;have r0:=aj aT 0;have r1:=aj aT 1;have r2:=aj aT 2;have r3:=aj aT 3;have r4:=aj aT 4;have r5:=aj aT 5;have HB3:=af hb3;have lN:=af aT;clear hb3 aT;go_wp2;have aT:=lN.out;have hK:=block_setCell (block_setCell (block_setCell (block_setCell (block_setCell (block_setCell aT 0 (.int .u8 6)) 1 (.slice a1 n1 c1)) 2 (.slice a2 n2 c2)) 3 (.slice a3 n3 c3)) 4 (.slice a4 n4 c4)) 5 (.int .i64 n);refine bodyPost_ret_by (aH rfl _ _ _ _ _ _ _ rfl hK Tryz.underlying84 rfl (by kernel_rfl)) rfl ?_;exact lG jU.out HB3.out (lF (aG.refl _ _) rfl)
 ·
  go_enter Tryz.func91,Tryz.ntmps91;go_wp2_with fail;refine (HC.out _ jU.out).mono ?_;rintro e w3 ⟨ov,Dj,rfl,hk',ho,hb3⟩;obtain ⟨ak,ck,rfl⟩:=hk'.slice;obtain ⟨ao,co,rfl⟩:=ho.ll.slice;have aT:=aN HB0.out (aG.of_below hb3 (fun _=>False)) (fun h=>h);have q0:=ah _ _ aT 0 _ rfl;have q1:=ah _ _ aT 1 _ rfl;have q2:=ah _ _ aT 2 _ rfl;have q3:=ah _ _ aT 3 _ rfl;have q4:=ah _ _ aT 4 _ rfl;have q5:=ah _ _ aT 5 _ rfl;have r0:=aj aT 0;have r1:=aj aT 1;have r2:=aj aT 2;have r3:=aj aT 3;have r4:=aj aT 4;have r5:=aj aT 5;have HB3:=af hb3;have lN:=af aT;have GZ:=af hk';have HO:=af ho;clear hb3 aT hk' ho;go_wp2;have aT:=lN.out;have hK:=block_setCell (block_setCell (block_setCell (block_setCell (block_setCell (block_setCell aT 0 (.int .u8 6)) 1 (.slice a1 n1 c1)) 2 (.slice a2 n2 c2)) 3 (.slice a3 n3 c3)) 4 (.slice ak keep'.length ck)) 5 (.int .i64 n);refine bodyPost_ret_by (aH rfl _ _ _ _ _ _ _ rfl hK Tryz.underlying84 rfl (by kernel_rfl)) rfl ?_;exact qm jU.out (by simp) HB3.out GZ.out HO.out (lF (aG.refl _ _) rfl)
theorem G6 (w:World)(o:Col)(c:Nat)(a1 a2 a3 a4:Option Addr)(n1 n2 n3 n4 c1 c2 c3 c4:Nat)(ia:Option Addr)(il ic:Nat)(n:Int)(r:Option (List (List Int) × List Int))
  (hc:∀ W,Below w.heap.size w W->Calls Tryz.prog 101 #[.agg #[.int .u8 7,.slice a1 n1 c1,.slice a2 n2 c2,.slice a3 n3 c3,.slice a4 n4 c4,.int .i64 n],.slice ia il ic] W (dU W (ext o w.heap.size (c+1)) c 7 (.slice a1 n1 c1) (.slice a2 n2 c2) (.slice a3 n3 c3) (.slice a4 n4 c4) n r)) :
  Calls Tryz.prog 91 #[.agg #[.int .u8 7,.slice a1 n1 c1,.slice a2 n2 c2,.slice a3 n3 c3,.slice a4 n4 c4,.int .i64 n],.slice ia il ic] w (dU w o c 7 (.slice a1 n1 c1) (.slice a2 n2 c2) (.slice a3 n3 c3) (.slice a4 n4 c4) n r):=by
 have HC:=af hc;clear hc;obtain ⟨A,hA⟩:∃ A,A=Obj.cells #[.int .u8 7,.slice a1 n1 c1,.slice a2 n2 c2,.slice a3 n3 c3,.slice a4 n4 c4,.int .i64 n] 84:=⟨_,rfl⟩;obtain ⟨B,hB⟩:∃ B,B=Obj.cells #[.int .u8 0,.slice none 0 0,.slice none 0 0,.slice none 0 0,.slice none 0 0,.int .i64 0] 84:=⟨_,rfl⟩;have hbW:Below w.heap.size w ((w.alloc A).alloc B):=(au w _).alloc (by simp) _;have hB0:=heap_alloc_new (w.alloc A) B;rw [World.size_alloc] at hB0;subst hA hB;have jU:=af hbW;have HB0:=af hB0;clear hbW hB0
 rcases r with _ | ⟨outs,keep'⟩
 ·
  go_enter Tryz.func91,Tryz.ntmps91;go_wp2_with fail;refine (HC.out _ jU.out).mono ?_;rintro e w3 ⟨rfl,hb3⟩;have aT:=aN HB0.out (aG.of_below hb3 (fun _=>False)) (fun h=>h);have q0:=ah _ _ aT 0 _ rfl;have q1:=ah _ _ aT 1 _ rfl;have q2:=ah _ _ aT 2 _ rfl;have q3:=ah _ _ aT 3 _ rfl;have q4:=ah _ _ aT 4 _ rfl;have q5:=ah _ _ aT 5 _ rfl;have r0:=aj aT 0;have r1:=aj aT 1;have r2:=aj aT 2;have r3:=aj aT 3;have r4:=aj aT 4;have r5:=aj aT 5;have HB3:=af hb3;have lN:=af aT;clear hb3 aT;go_wp2;have aT:=lN.out;have hK:=block_setCell (block_setCell (block_setCell (block_setCell (block_setCell (block_setCell aT 0 (.int .u8 7)) 1 (.slice a1 n1 c1)) 2 (.slice a2 n2 c2)) 3 (.slice a3 n3 c3)) 4 (.slice a4 n4 c4)) 5 (.int .i64 n);refine bodyPost_ret_by (aH rfl _ _ _ _ _ _ _ rfl hK Tryz.underlying84 rfl (by kernel_rfl)) rfl ?_;exact lG jU.out HB3.out (lF (aG.refl _ _) rfl)
 ·
  go_enter Tryz.func91,Tryz.ntmps91;go_wp2_with fail;refine (HC.out _ jU.out).mono ?_;rintro e w3 ⟨ov,Dj,rfl,hk',ho,hb3⟩;obtain ⟨ak,ck,rfl⟩:=hk'.slice;obtain ⟨ao,co,rfl⟩:=ho.ll.slice;have aT:=aN HB0.out (aG.of_below hb3 (fun _=>False)) (fun h=>h);have q0:=ah _ _ aT 0 _ rfl;have q1:=ah _ _ aT 1 _ rfl;have q2:=ah _ _ aT 2 _ rfl;have q3:=ah _ _ aT 3 _ rfl;have q4:=ah _ _ aT 4 _ rfl;have q5:=ah _ _ aT 5 _ rfl;have r0:=aj aT 0;have r1:=aj aT 1;have r2:=aj aT 2;have r3:=aj aT 3;have r4:=aj aT 4;have r5:=aj aT 5;have HB3:=af hb3;have lN:=af aT;have GZ:=af hk';have HO:=af ho;clear hb3 aT hk' ho;go_wp2;have aT:=lN.out;have hK:=block_setCell (block_setCell (block_setCell (block_setCell (block_setCell (block_setCell aT 0 (.int .u8 7)) 1 (.slice a1 n1 c1)) 2 (.slice a2 n2 c2)) 3 (.slice a3 n3 c3)) 4 (.slice ak keep'.length ck)) 5 (.int .i64 n);refine bodyPost_ret_by (aH rfl _ _ _ _ _ _ _ rfl hK Tryz.underlying84 rfl (by kernel_rfl)) rfl ?_;exact qm jU.out (by simp) HB3.out GZ.out HO.out (lF (aG.refl _ _) rfl)
theorem G7 (w:World)(o:Col)(c:Nat)(a1 a2 a3 a4:Option Addr)(n1 n2 n3 n4 c1 c2 c3 c4:Nat)(ia:Option Addr)(il ic:Nat)(n:Int)(r:Option (List (List Int) × List Int))
  (hc:∀ W,Below w.heap.size w W->Calls Tryz.prog 101 #[.agg #[.int .u8 8,.slice a1 n1 c1,.slice a2 n2 c2,.slice a3 n3 c3,.slice a4 n4 c4,.int .i64 n],.slice ia il ic] W (dU W (ext o w.heap.size (c+1)) c 8 (.slice a1 n1 c1) (.slice a2 n2 c2) (.slice a3 n3 c3) (.slice a4 n4 c4) n r)) :
  Calls Tryz.prog 91 #[.agg #[.int .u8 8,.slice a1 n1 c1,.slice a2 n2 c2,.slice a3 n3 c3,.slice a4 n4 c4,.int .i64 n],.slice ia il ic] w (dU w o c 8 (.slice a1 n1 c1) (.slice a2 n2 c2) (.slice a3 n3 c3) (.slice a4 n4 c4) n r):=by
 have HC:=af hc;clear hc;obtain ⟨A,hA⟩:∃ A,A=Obj.cells #[.int .u8 8,.slice a1 n1 c1,.slice a2 n2 c2,.slice a3 n3 c3,.slice a4 n4 c4,.int .i64 n] 84:=⟨_,rfl⟩;obtain ⟨B,hB⟩:∃ B,B=Obj.cells #[.int .u8 0,.slice none 0 0,.slice none 0 0,.slice none 0 0,.slice none 0 0,.int .i64 0] 84:=⟨_,rfl⟩;have hbW:Below w.heap.size w ((w.alloc A).alloc B):=(au w _).alloc (by simp) _;have hB0:=heap_alloc_new (w.alloc A) B;rw [World.size_alloc] at hB0;subst hA hB;have jU:=af hbW;have HB0:=af hB0;clear hbW hB0
 rcases r with _ | ⟨outs,keep'⟩
 ·
  go_enter Tryz.func91,Tryz.ntmps91;go_wp2_with fail;refine (HC.out _ jU.out).mono ?_;rintro e w3 ⟨rfl,hb3⟩;have aT:=aN HB0.out (aG.of_below hb3 (fun _=>False)) (fun h=>h);have q0:=ah _ _ aT 0 _ rfl;have q1:=ah _ _ aT 1 _ rfl;have q2:=ah _ _ aT 2 _ rfl;have q3:=ah _ _ aT 3 _ rfl;have q4:=ah _ _ aT 4 _ rfl;have q5:=ah _ _ aT 5 _ rfl;have r0:=aj aT 0;have r1:=aj aT 1;have r2:=aj aT 2;have r3:=aj aT 3;have r4:=aj aT 4;have r5:=aj aT 5;have HB3:=af hb3;have lN:=af aT;clear hb3 aT;go_wp2;have aT:=lN.out;have hK:=block_setCell (block_setCell (block_setCell (block_setCell (block_setCell (block_setCell aT 0 (.int .u8 8)) 1 (.slice a1 n1 c1)) 2 (.slice a2 n2 c2)) 3 (.slice a3 n3 c3)) 4 (.slice a4 n4 c4)) 5 (.int .i64 n);refine bodyPost_ret_by (aH rfl _ _ _ _ _ _ _ rfl hK Tryz.underlying84 rfl (by kernel_rfl)) rfl ?_;exact lG jU.out HB3.out (lF (aG.refl _ _) rfl)
 ·
  go_enter Tryz.func91,Tryz.ntmps91;go_wp2_with fail;refine (HC.out _ jU.out).mono ?_;rintro e w3 ⟨ov,Dj,rfl,hk',ho,hb3⟩;obtain ⟨ak,ck,rfl⟩:=hk'.slice;obtain ⟨ao,co,rfl⟩:=ho.ll.slice;have aT:=aN HB0.out (aG.of_below hb3 (fun _=>False)) (fun h=>h);have q0:=ah _ _ aT 0 _ rfl;have q1:=ah _ _ aT 1 _ rfl;have q2:=ah _ _ aT 2 _ rfl;have q3:=ah _ _ aT 3 _ rfl;have q4:=ah _ _ aT 4 _ rfl;have q5:=ah _ _ aT 5 _ rfl;have r0:=aj aT 0;have r1:=aj aT 1;have r2:=aj aT 2;have r3:=aj aT 3;have r4:=aj aT 4;have r5:=aj aT 5;have HB3:=af hb3;have lN:=af aT;have GZ:=af hk';have HO:=af ho;clear hb3 aT hk' ho;go_wp2;have aT:=lN.out;have hK:=block_setCell (block_setCell (block_setCell (block_setCell (block_setCell (block_setCell aT 0 (.int .u8 8)) 1 (.slice a1 n1 c1)) 2 (.slice a2 n2 c2)) 3 (.slice a3 n3 c3)) 4 (.slice ak keep'.length ck)) 5 (.int .i64 n);refine bodyPost_ret_by (aH rfl _ _ _ _ _ _ _ rfl hK Tryz.underlying84 rfl (by kernel_rfl)) rfl ?_;exact qm jU.out (by simp) HB3.out GZ.out HO.out (lF (aG.refl _ _) rfl)
theorem EC (w:World)(o:Col)(c:Nat)(a1 a2 a3 a4:Option Addr)(n1 n2 n3 n4 c1 c2 c3 c4:Nat)(ia:Option Addr)(il ic:Nat)(n:Int)(r:Option (List (List Int) × List Int))
  (hc:∀ W,Below w.heap.size w W->Calls Tryz.prog 101 #[.agg #[.int .u8 10,.slice a1 n1 c1,.slice a2 n2 c2,.slice a3 n3 c3,.slice a4 n4 c4,.int .i64 n],.slice ia il ic] W (dU W (ext o w.heap.size (c+1)) c 10 (.slice a1 n1 c1) (.slice a2 n2 c2) (.slice a3 n3 c3) (.slice a4 n4 c4) n r)) :
  Calls Tryz.prog 91 #[.agg #[.int .u8 10,.slice a1 n1 c1,.slice a2 n2 c2,.slice a3 n3 c3,.slice a4 n4 c4,.int .i64 n],.slice ia il ic] w (dU w o c 10 (.slice a1 n1 c1) (.slice a2 n2 c2) (.slice a3 n3 c3) (.slice a4 n4 c4) n r):=by
 have HC:=af hc;clear hc;obtain ⟨A,hA⟩:∃ A,A=Obj.cells #[.int .u8 10,.slice a1 n1 c1,.slice a2 n2 c2,.slice a3 n3 c3,.slice a4 n4 c4,.int .i64 n] 84:=⟨_,rfl⟩;obtain ⟨B,hB⟩:∃ B,B=Obj.cells #[.int .u8 0,.slice none 0 0,.slice none 0 0,.slice none 0 0,.slice none 0 0,.int .i64 0] 84:=⟨_,rfl⟩;have hbW:Below w.heap.size w ((w.alloc A).alloc B):=(au w _).alloc (by simp) _;have hB0:=heap_alloc_new (w.alloc A) B;rw [World.size_alloc] at hB0;subst hA hB;have jU:=af hbW;have HB0:=af hB0;clear hbW hB0
 rcases r with _ | ⟨outs,keep'⟩
 ·
  go_enter Tryz.func91,Tryz.ntmps91;go_wp2_with fail;refine (HC.out _ jU.out).mono ?_;rintro e w3 ⟨rfl,hb3⟩;have aT:=aN HB0.out (aG.of_below hb3 (fun _=>False)) (fun h=>h);have q0:=ah _ _ aT 0 _ rfl;have q1:=ah _ _ aT 1 _ rfl;have q2:=ah _ _ aT 2 _ rfl;have q3:=ah _ _ aT 3 _ rfl;have q4:=ah _ _ aT 4 _ rfl;have q5:=ah _ _ aT 5 _ rfl;have r0:=aj aT 0;have r1:=aj aT 1;have r2:=aj aT 2;have r3:=aj aT 3;have r4:=aj aT 4;have r5:=aj aT 5;have HB3:=af hb3;have lN:=af aT;clear hb3 aT;go_wp2;have aT:=lN.out;have hK:=block_setCell (block_setCell (block_setCell (block_setCell (block_setCell (block_setCell aT 0 (.int .u8 10)) 1 (.slice a1 n1 c1)) 2 (.slice a2 n2 c2)) 3 (.slice a3 n3 c3)) 4 (.slice a4 n4 c4)) 5 (.int .i64 n);refine bodyPost_ret_by (aH rfl _ _ _ _ _ _ _ rfl hK Tryz.underlying84 rfl (by kernel_rfl)) rfl ?_;exact lG jU.out HB3.out (lF (aG.refl _ _) rfl)
 ·
  go_enter Tryz.func91,Tryz.ntmps91;go_wp2_with fail;refine (HC.out _ jU.out).mono ?_;rintro e w3 ⟨ov,Dj,rfl,hk',ho,hb3⟩;obtain ⟨ak,ck,rfl⟩:=hk'.slice;obtain ⟨ao,co,rfl⟩:=ho.ll.slice;have aT:=aN HB0.out (aG.of_below hb3 (fun _=>False)) (fun h=>h);have q0:=ah _ _ aT 0 _ rfl;have q1:=ah _ _ aT 1 _ rfl;have q2:=ah _ _ aT 2 _ rfl;have q3:=ah _ _ aT 3 _ rfl;have q4:=ah _ _ aT 4 _ rfl;have q5:=ah _ _ aT 5 _ rfl;have r0:=aj aT 0;have r1:=aj aT 1;have r2:=aj aT 2;have r3:=aj aT 3;have r4:=aj aT 4;have r5:=aj aT 5;have HB3:=af hb3;have lN:=af aT;have GZ:=af hk';have HO:=af ho;clear hb3 aT hk' ho;go_wp2;have aT:=lN.out;have hK:=block_setCell (block_setCell (block_setCell (block_setCell (block_setCell (block_setCell aT 0 (.int .u8 10)) 1 (.slice a1 n1 c1)) 2 (.slice a2 n2 c2)) 3 (.slice a3 n3 c3)) 4 (.slice ak keep'.length ck)) 5 (.int .i64 n);refine bodyPost_ret_by (aH rfl _ _ _ _ _ _ _ rfl hK Tryz.underlying84 rfl (by kernel_rfl)) rfl ?_;exact qm jU.out (by simp) HB3.out GZ.out HO.out (lF (aG.refl _ _) rfl)
theorem zB {N:Nat}{w w':World}(h:Below N w.drew w'):Below N w w':=⟨h.os,h.tape,h.output,h.size,h.block⟩
theorem VK (w:World)(o:Col)(c:Nat)(a1 a2 a3 a4:Option Addr)(n1 n2 n3 n4 c1 c2 c3 c4:Nat)(bF:Value)(n x:Int)(ps keep:List Int)
  (hk:Has w (.slice a4 n4 c4) (bB keep)) (hp:Has w (.slice a1 n1 c1) (bB ps)) (hl:ps.length=keep.length+1) (Q9:ps.length<=16) (hfp:∀ z∈ps,Fits z) (D7:∀ z∈keep,Fits z) (hx:Fits x) (hins:LL w bF [[x]]) :
  Calls Tryz.prog 91 #[.agg #[.int .u8 1,.slice a1 n1 c1,.slice a2 n2 c2,.slice a3 n3 c3,.slice a4 n4 c4,.int .i64 n],bF] w (dU w o c 1 (.slice a1 n1 c1) (.slice a2 n2 c2) (.slice a3 n3 c3) (.slice a4 n4 c4) n ((mI 0 ps (x :: keep)).map fun y=>([[y]],(x :: keep).take keep.length))):=by
 obtain ⟨ia,ic,rfl⟩:=hins.slice;obtain ⟨bi,oi,rfl,hci,hrow⟩:=hins.at (by simp);obtain ⟨a0,c0,hr0,hh0⟩:=hrow 0 (by simp);simp only [List.length_cons,List.length_nil,List.getElem?_cons_zero,Option.getD_some,Nat.add_zero,Nat.zero_add] at hr0 hh0 hci ⊢;obtain ⟨b0,o0,rfl,-,hc0,-,-,hx0⟩:=cu.at hh0 (by simp);have hx1:=hx0 0 (by simp);simp at hx1;have hbi:bi < w.heap.size:=World.block_lt_of_cell? _ _ hr0;have hbo:b0 < w.heap.size:=World.block_lt_of_cell? _ _ hx1;have JZ:(1:Int)<=ic:=by omega
 have Q6:(1:Int)<=c0:=by omega
 obtain ⟨r,hr⟩:∃ r,(mI 0 ps (x :: keep)).map (fun y=>([[y]],(x :: keep).take keep.length))=r:=⟨_,rfl⟩;have HC:=af (fun (W:World) (hbW:Below w.heap.size w W)=>GX W (ext o w.heap.size (c+1)) c a1 a2 a3 a4 n1 n2 n3 n4 c1 c2 c3 c4 n x ps keep (hk.below hbW) (hp.below hbW) hl Q9 hfp D7 hx);rw [hr] at HC ⊢;have S0:=rz w (.int .u8 1) (.slice a1 n1 c1) (.slice a2 n2 c2) (.slice a3 n3 c3) (.slice a4 n4 c4) (.int .i64 n) 84;obtain ⟨A,hA⟩:∃ A,A=Obj.cells #[.int .u8 1,.slice a1 n1 c1,.slice a2 n2 c2,.slice a3 n3 c3,.slice a4 n4 c4,.int .i64 n] 84:=⟨_,rfl⟩;obtain ⟨B,hB⟩:∃ B,B=Obj.cells #[.int .u8 0,.slice none 0 0,.slice none 0 0,.slice none 0 0,.slice none 0 0,.int .i64 0] 84:=⟨_,rfl⟩;have hbW:Below w.heap.size w ((w.alloc A).alloc B):=(au w _).alloc (by simp) _;have hB0:=heap_alloc_new (w.alloc A) B;rw [World.size_alloc] at hB0;have H0:=af (cell_later hbW hr0);have H1:=af (cell_later hbW hx1);rw [<- hA] at S0;have HS:=af (S0.alloc B);subst hA hB;have jU:=af hbW;have HB0:=af hB0;clear hbW hB0 hr hk hp hl Q9 hfp D7 hx hins hrow hr0 hh0 hx0 hx1 S0
 rcases r with _ | ⟨outs,keep'⟩
 ·
  go_enter Tryz.func91,Tryz.ntmps91;go_wp2_with fail;refine ko (fun w'=>BU w' w.heap.size (.int .u8 1) (.slice a1 n1 c1) (.slice a2 n2 c2) (.slice a3 n3 c3) (.slice a4 n4 c4) (.int .i64 n)/\w'.cell? ⟨bi,oi,none⟩=some (.slice (some ⟨b0,o0,none⟩) 1 c0)/\w'.cell? ⟨b0,o0,none⟩=some (.int .i64 x)) [0,1,2,3,4,5] 6 [7,8,9] [6,10] 3 (by kernel_rfl) (by kernel_rfl) rfl ⟨HS.out,H0.out,H1.out⟩ ?_;intro Q' hQ';simp only [pk];refine aD ?_;refine ax ?_;go_wp2_with fail;refine (HC.out _ (gY jU.out)).mono ?_;rintro e w3 ⟨rfl,hb3⟩;have J3:=zB hb3;have aT:=aN HB0.out (aG.of_below J3 (fun _=>False)) (fun h=>h);have q0:=ah _ _ aT 0 _ rfl;have q1:=ah _ _ aT 1 _ rfl;have q2:=ah _ _ aT 2 _ rfl;have q3:=ah _ _ aT 3 _ rfl;have q4:=ah _ _ aT 4 _ rfl;have q5:=ah _ _ aT 5 _ rfl;have r0:=aj aT 0;have r1:=aj aT 1;have r2:=aj aT 2;have r3:=aj aT 3;have r4:=aj aT 4;have r5:=aj aT 5;have HB3:=af J3;have lN:=af aT;have HBD:=af hb3;clear hb3 J3 aT;go_wp2;refine ⟨⟨HS.out.below HB3.out,cell_later HB3.out H0.out,cell_later HB3.out H1.out⟩,?_⟩;refine aD ?_;refine ax ?_;refine aB (i:=10) (by kernel_rfl) ?_;simp only [pk];go_wp2;refine ⟨fun _ hS=>Lv hS (by omega) (by show bi≠_;omega) (by show b0≠_;omega),?_⟩;refine aJ (ks:=[11,12]) (fun _ _ hx h=>⟨h.1.ext hx,hx.cell h.2.1,hx.cell h.2.2⟩) (by kernel_rfl) ?_;simp only [pk];go_wp2;have aT:=lN.out;have hK:=block_setCell (block_setCell (block_setCell (block_setCell (block_setCell (block_setCell aT 0 (.int .u8 1)) 1 (.slice a1 n1 c1)) 2 (.slice a2 n2 c2)) 3 (.slice a3 n3 c3)) 4 (.slice a4 n4 c4)) 5 (.int .i64 n);refine bodyPost_ret_by (aH rfl _ _ _ _ _ _ _ rfl hK Tryz.underlying84 rfl (by kernel_rfl)) rfl ?_;exact lG (gY jU.out) HBD.out (lF (aG.refl _ _) rfl)
 ·
  go_enter Tryz.func91,Tryz.ntmps91;go_wp2_with fail;refine ko (fun w'=>BU w' w.heap.size (.int .u8 1) (.slice a1 n1 c1) (.slice a2 n2 c2) (.slice a3 n3 c3) (.slice a4 n4 c4) (.int .i64 n)/\w'.cell? ⟨bi,oi,none⟩=some (.slice (some ⟨b0,o0,none⟩) 1 c0)/\w'.cell? ⟨b0,o0,none⟩=some (.int .i64 x)) [0,1,2,3,4,5] 6 [7,8,9] [6,10] 3 (by kernel_rfl) (by kernel_rfl) rfl ⟨HS.out,H0.out,H1.out⟩ ?_;intro Q' hQ';simp only [pk];refine aD ?_;refine ax ?_;go_wp2_with fail;refine (HC.out _ (gY jU.out)).mono ?_;rintro e w3 ⟨ov,Dj,rfl,hk',ho,hb3⟩;obtain ⟨ak,ck,rfl⟩:=hk'.slice;obtain ⟨ao,co,rfl⟩:=ho.ll.slice;have J3:=zB hb3;have aT:=aN HB0.out (aG.of_below J3 (fun _=>False)) (fun h=>h);have q0:=ah _ _ aT 0 _ rfl;have q1:=ah _ _ aT 1 _ rfl;have q2:=ah _ _ aT 2 _ rfl;have q3:=ah _ _ aT 3 _ rfl;have q4:=ah _ _ aT 4 _ rfl;have q5:=ah _ _ aT 5 _ rfl;have r0:=aj aT 0;have r1:=aj aT 1;have r2:=aj aT 2;have r3:=aj aT 3;have r4:=aj aT 4;have r5:=aj aT 5;have HB3:=af J3;have lN:=af aT;have HBD:=af hb3;have GZ:=af hk';have HO:=af ho;clear hb3 J3 aT hk' ho;go_wp2;refine ⟨⟨HS.out.below HB3.out,cell_later HB3.out H0.out,cell_later HB3.out H1.out⟩,?_⟩;refine aD ?_;refine ax ?_;refine aB (i:=10) (by kernel_rfl) ?_;simp only [pk];go_wp2;refine ⟨fun _ hS=>Lv hS (by omega) (by show bi≠_;omega) (by show b0≠_;omega),?_⟩;refine aJ (ks:=[11,12]) (fun _ _ hx h=>⟨h.1.ext hx,hx.cell h.2.1,hx.cell h.2.2⟩) (by kernel_rfl) ?_;simp only [pk];go_wp2;have aT:=lN.out;have hK:=block_setCell (block_setCell (block_setCell (block_setCell (block_setCell (block_setCell aT 0 (.int .u8 1)) 1 (.slice a1 n1 c1)) 2 (.slice a2 n2 c2)) 3 (.slice a3 n3 c3)) 4 (.slice ak keep'.length ck)) 5 (.int .i64 n);refine bodyPost_ret_by (aH rfl _ _ _ _ _ _ _ rfl hK Tryz.underlying84 rfl (by kernel_rfl)) rfl ?_;exact qm (gY jU.out) (by simp) HBD.out GZ.out HO.out (lF (aG.refl _ _) rfl)
theorem Nu (w:World)(t n:Int)(vp vi vo vk bF:Value)(xss:List (List Int))(L:List Int)(hL:L.length<=64)(hi:Has w vi (bB L))(hins:LL w bF xss) :
  Calls Tryz.prog 90 #[.agg #[.int .u8 t,vp,vi,vo,vk,.int .i64 n],bF] w fun e w'=>e=.returned (.bool (decide (xss.map (fun l=>(l.length:Int))=L)))/\Below w.heap.size w w':=by
 obtain ⟨ia,ic,rfl⟩:=hins.slice;obtain ⟨va,vc,rfl⟩:=hi.slice;rw [aX] at hi ⊢
 by_cases hlen:xss.length=L.length
 ·
  have HL:=af hlen;have E9:(xss.length:Int)=L.length:=by omega
  have hlb:(xss.length:Int)<=64:=by omega
  have HLI:=af E9;have HI:=af hi;have HX:=af hins;have hb0:=au w (.cells #[.int .u8 t,vp,.slice va L.length vc,vo,vk,.int .i64 n] 84);have HB0:=af hb0;rw [<- hlen];clear hlen hi hins E9 hb0;go_enter Tryz.func90,Tryz.ntmps90;go_wp2_with fail
  go_loopw [5] (fun i wr=>∃ j:Nat,j<=xss.length/\i=.int .i64 j/\(∃ m,wr=(w.alloc (.cells #[.int .u8 t,vp,.slice va xss.length vc,vo,vk,.int .i64 n] 84)).drewN m)/\∀ k,k < j->((xss[k]?.getD []).length:Int)=L[k]?.getD 0) (fun i _=>xss.length - (intOf i).toNat)
  case atStart=>exact ⟨0,Nat.zero_le _,rfl,⟨0,rfl⟩,fun k hk=>by omega⟩
  case round =>
   obtain ⟨j,hj,rfl,⟨m,rfl⟩,hall⟩:=hrel;have IX:=af hall;clear hall
   by_cases hjn:j < xss.length
   ·
    have Uw:(j:Int) < xss.length:=by omega
    obtain ⟨bi,oi,ie,hci,hrow⟩:=HX.out.at (by omega);subst ie;obtain ⟨a0,c0,hr0,-⟩:=hrow j hjn;obtain ⟨gb,go,eg,-,hcR,-,-,hcell⟩:=cu.at HI.out (by rw [aX];have:=HL.out;omega);subst eg;have hx:=hcell j (by rw [aX];have:=HL.out;omega);rw [iC (by have:=HL.out;omega)] at hx;have hr1:=cell_later HB0.out hr0;have hx1:=cell_later HB0.out hx;rw [<- HL.out] at hr1 hx1;have XJ:(xss.length:Int)<=vc:=by have:=HL.out;omega
    have ZV:(xss.length:Int)<=ic:=by omega
    have oO:=af (fun h=>PK (R:=L) hjn h);have HST:=af (fun (h:((xss[j]?.getD []).length:Int)=L[j]?.getD 0) k (hk:k < j+1)=>(by
     by_cases hkj:k=j
     ·
      rw [hkj];exact h
     ·
      exact IX.out k (by omega):((xss[k]?.getD []).length:Int)=L[k]?.getD 0))
    clear hrow hcell hr0 hx;generalize (xss[j]?.getD []).length=lm at *;generalize L[j]?.getD 0=rm at *
    by_cases hq:(lm:Int)=rm
    ·
     have HQ:=af (HST.out hq);clear HST;subst hq;go_wp2;go_quiet (fail);go_wp2;go_roundw
     case rel=>exact ⟨j+1,by omega,by go_num,⟨_,rfl⟩,HQ.out⟩
     case measure=>simp [intOf];omega
    ·
     go_wp2;go_quiet (fail);go_wp2;go_ret;rw [oO.out hq];exact ⟨rfl,dL (dL (au w _) _) _⟩
   ·
    obtain rfl:j=xss.length:=by omega
    have Nv:=af (KQ HL.out IX.out);clear IX;go_wp2;go_ret;rw [Nv.out,decide_eq_true rfl];exact ⟨rfl,dL (au w _) _⟩
 ·
  have E9:¬ (xss.length:Int)=L.length:=by omega
  have u7:Hid (decide (xss.map (fun l=>(l.length:Int))=L)=false):=af (decide_eq_false fun e=>hlen (by have:=congrArg List.length e;simpa using this));clear hlen hi hins;go_enter Tryz.func90,Tryz.ntmps90;go_wp2;go_ret;rw [u7.out];exact ⟨rfl,au w _⟩
structure Kp (t:Int) (ps keep:List Int):Prop where
 good:aC t ps
 BL:∀ x∈ps,Fits x
 qK:∀ x∈keep,Fits x
 oI:t=1->ps.length=keep.length+1
 mR:t=8\/t=10->keep.length=1
theorem Rf {ps:List Int}(h:ps.length=1):ps=[hd ps]:=one_num (by omega)
theorem J4 {ps:List Int}(h:ps.length=2):ps=[hd ps,hd1 ps]:=by
 match ps,h with
 | [x,y],_=>rfl
theorem Nw {w:World}{o:Col}{c:Nat}{t n:Int}{vp vi vo vk bF:Value}{ps keep:List Int}{xss:List (List Int)}{li lo:List Int}(hK:Kp t ps keep)(hp:Has w vp (bB ps))(ZO:Has w vi (bB li))(Aq:Has w vo (bB lo))(hk:Ints w o c vk keep)(hins:LL w bF xss)
  (hlen:xss.map (fun l=>(l.length:Int))=bJ t ps) (hf:∀ l∈xss,∀ x∈l,Fits x) :
  Calls Tryz.prog 91 #[.agg #[.int .u8 t,vp,vi,vo,vk,.int .i64 n],bF] w (dU w o c t vp vi vo vk n (fT t ps keep xss)):=by
 obtain ⟨a1,c1,rfl⟩:=hp.slice;obtain ⟨a2,c2,rfl⟩:=ZO.slice;obtain ⟨a3,c3,rfl⟩:=Aq.slice;obtain ⟨a4,c4,rfl⟩:=hk.slice;obtain ⟨ia,ic,rfl⟩:=hins.slice;have hg:=hK.good
 rcases l7 hg with rfl | rfl | rfl | rfl | rfl | rfl | rfl | rfl | rfl | rfl | rfl
 ·
  obtain ⟨l,rfl,hl⟩:=kE hlen;obtain ⟨x,rfl⟩:∃ x,l=[x]:=⟨_,one_num hl⟩;have hg1:1<=ps.length/\ps.length<=16:=by unfold aC at hg;omega
  exact VK w o c a1 a2 a3 a4 _ _ _ _ c1 c2 c3 c4 _ n x ps keep hk.has hp (hK.oI rfl) hg1.2 hK.BL hK.qK (hf [x] (by simp) x (by simp)) hins
 ·
  have h1:bP ps 64:=by simpa [aC] using hg
  obtain ⟨l,rfl,hl⟩:=kE hlen;obtain ⟨x,rfl⟩:∃ x,l=[x]:=⟨_,one_num hl⟩;obtain ⟨u,hu⟩:∃ u:Nat,hd ps=u:=⟨(hd ps).toNat,by have:=h1.2;omega⟩;have hu2:=h1.2;rw [hu] at hu2;have hps:=Rf h1.1;rw [hu] at hps;have e:fT 2 ps keep [[x]]=some ([x :: List.replicate (u - 1) 0],keep):=by
   show some ([x :: List.replicate ((hd ps).toNat - 1) 0],keep)=_
   rw [hu,Int.toNat_natCast]
  rw [e];exact VE w o c a1 a2 a3 a4 _ _ _ _ c1 c2 c3 c4 _ n x u keep hk (by rw [hps] at hp ⊢;exact hp) hins (by omega) (by omega)
 ·
  obtain ⟨l,rfl,hl⟩:=kE hlen;have h1:bP ps 64:=by simpa [aC] using hg
  exact VA w o c a1 a2 a3 a4 _ _ _ _ c1 c2 c3 c4 _ n l keep hk hins (by have:=h1.2;omega)
 ·
  have h1:aZ ps:=by simpa [aC] using hg
  obtain ⟨h2,h3,h4,h5⟩:=h1;obtain ⟨u,hu⟩:∃ u:Nat,hd ps=u:=⟨(hd ps).toNat,by omega⟩;obtain ⟨m,hm⟩:∃ u:Nat,hd1 ps=u:=⟨(hd1 ps).toNat,by omega⟩;have hps:=J4 h2;rw [hu,hm] at hps;have hlen':xss.map (fun l=>(l.length:Int))=List.replicate u (m:Int):=by rw [hlen];simp [bJ,hu,hm]
  have hxl:xss.length=u:=by have:=congrArg List.length hlen';simpa using this
  have hall:∀ l∈xss,l.length=m:=fun l hl=>by
   have:(l.length:Int)∈xss.map (fun l=>(l.length:Int)):=List.mem_map.2 ⟨l,hl,rfl⟩;rw [hlen'] at this;have:=(List.mem_replicate.1 this).2;omega
  have e:fT 4 ps keep xss=some ([dN xss m],keep):=by
   show some ([dN xss (hd1 ps).toNat],keep)=_
   rw [hm,Int.toNat_natCast]
  rw [e];exact VB w o c a1 a2 a3 a4 _ _ _ _ c1 c2 c3 c4 _ n u m keep xss hk (by rw [hps] at hp ⊢;exact hp) hins (by omega) (by omega) hxl hall
 ·
  have h1:aZ ps:=by simpa [aC] using hg
  obtain ⟨h2,h3,h4,h5⟩:=h1;obtain ⟨u,hu⟩:∃ u:Nat,hd ps=u:=⟨(hd ps).toNat,by omega⟩;obtain ⟨m,hm⟩:∃ u:Nat,hd1 ps=u:=⟨(hd1 ps).toNat,by omega⟩;obtain ⟨l,rfl,hl⟩:=kE hlen;have hps:=J4 h2;rw [hu,hm] at hps;have e:fT 5 ps keep [l]=some (gu u m l,keep):=by
   show some (gu (hd ps).toNat (hd1 ps).toNat l,keep)=_
   rw [hu,hm,Int.toNat_natCast,Int.toNat_natCast]
  rw [e];exact VD w o c a1 a2 a3 a4 _ _ _ _ c1 c2 c3 c4 _ n u m keep l hk (by rw [hps] at hp ⊢;exact hp) hins (by omega) (by omega) (by rw [hu,hm] at hl;exact_mod_cast hl)
 ·
  have h1:bP ps 16:=by simpa [aC] using hg
  have hlen':xss.map (fun l=>(l.length:Int))=List.replicate (hd ps).toNat 1:=hlen;have hxl:xss.length=(hd ps).toNat:=by have:=congrArg List.length hlen';simpa using this
  have hall:∀ l∈xss,l.length=1:=fun l hl=>by
   have:(l.length:Int)∈xss.map (fun l=>(l.length:Int)):=List.mem_map.2 ⟨l,hl,rfl⟩;rw [hlen'] at this;have:=(List.mem_replicate.1 this).2;omega
  exact GY w o c a1 a2 a3 a4 _ _ _ _ c1 c2 c3 c4 ia _ ic n _ (fun W hb=>VJ W _ c a1 a2 a3 a4 _ _ _ _ c1 c2 c3 c4 _ n keep xss (hk.turn (Turn.of_below o (c+1) hb) (fun h=>h)) (hins.below hb) hall (by have:=h1.2;omega) hf)
 ·
  obtain ⟨x,y,rfl⟩:=FV hlen;exact G6 w o c a1 a2 a3 a4 _ _ _ _ c1 c2 c3 c4 ia _ ic n _ (fun W hb=>VH W _ c a1 a2 a3 a4 _ _ _ _ c1 c2 c3 c4 _ n x y keep (hk.turn (Turn.of_below o (c+1) hb) (fun h=>h)) (hins.below hb) (hf [x] (by simp) x (by simp)) (hf [y] (by simp) y (by simp)))
 ·
  obtain ⟨l,rfl,hl⟩:=kE hlen;obtain ⟨x,rfl⟩:∃ x,l=[x]:=⟨_,one_num hl⟩;have hkk:keep=[hd keep]:=one_num (by have:=hK.mR (.inl rfl);omega);have D7:Fits (hd keep):=hK.qK _ (by rw [hkk];exact List.mem_cons_self);exact G7 w o c a1 a2 a3 a4 _ _ _ _ c1 c2 c3 c4 ia _ ic n _ (fun W hb=>VI W _ c a1 a2 a3 a4 _ _ _ _ c1 c2 c3 c4 _ n x (hd keep) (by rw [<- hkk];exact hk.turn (Turn.of_below o (c+1) hb) (fun h=>h)) (hins.below hb) (hf [x] (by simp) x (by simp)) D7)
 ·
  have h1:bP ps 16:=by simpa [aC] using hg
  obtain ⟨l,rfl,hl⟩:=kE hlen;obtain ⟨x,rfl⟩:∃ x,l=[x]:=⟨_,one_num hl⟩;obtain ⟨u,hu⟩:∃ u:Nat,hd ps=u:=⟨(hd ps).toNat,by have:=h1.2;omega⟩;have hu2:=h1.2;rw [hu] at hu2;have hps:=Rf h1.1;rw [hu] at hps;have e:fT 9 ps keep [[x]]=some (List.replicate u [x],keep):=by
   show some (List.replicate (hd ps).toNat [x],keep)=_
   rw [hu,Int.toNat_natCast]
  rw [e];exact VG w o c a1 a2 a3 a4 _ _ _ _ c1 c2 c3 c4 _ n x u keep hk (by rw [hps] at hp ⊢;exact hp) hins (by omega)
 ·
  have h2:ps.length=2:=by unfold aC at hg;omega
  have hfp:Fits (hd1 ps):=hK.BL _ (by unfold hd1;rw [List.getElem?_eq_getElem (by omega),Option.getD_some];exact List.getElem_mem _);have hkk:keep=[hd keep]:=one_num (by have:=hK.mR (.inr rfl);omega);have D7:Fits (hd keep):=hK.qK _ (by rw [hkk];exact List.mem_cons_self);exact EC w o c a1 a2 a3 a4 _ _ _ _ c1 c2 c3 c4 ia _ ic n _ (fun W hb=>Rc W _ c a1 a2 a3 a4 _ _ _ _ c1 c2 c3 c4 _ n (hd ps) (hd1 ps) (hd keep) (by rw [<- hkk];exact hk.turn (Turn.of_below o (c+1) hb) (fun h=>h)) (by rw [<- J4 h2];exact hp.below hb) hfp D7)
 ·
  exact Q0 w o c a1 a2 a3 a4 _ _ _ _ c1 c2 c3 c4 _ n keep hk
def ED (w:World)(o:Col)(c:Nat)(v:Value)(t:Int)(ps keep:List Int)(n:Int):Prop :=
 ∃ vp vi vo vk,v=.agg #[.int .u8 t,vp,vi,vo,vk,.int .i64 n]/\Ints w o c vp ps/\Ints w o c vi (bJ t ps)/\Ints w o c vo (aV t ps)/\Ints w o c vk keep
theorem ED.turn {w w':World}{o o':Col}{C:Nat->Prop}{c:Nat}{v:Value}{t:Int}{ps keep:List Int}{n:Int}(h:ED w o c v t ps keep n)(T:Turn o o' C w w')(hc:¬ C c):ED w' o' c v t ps keep n:=by
 obtain ⟨vp,vi,vo,vk,h0,h1,h2,h3,h4⟩:=h;exact ⟨vp,vi,vo,vk,h0,h1.turn T hc,h2.turn T hc,h3.turn T hc,h4.turn T hc⟩
def J5 (w:World)(o:Col)(c:Nat)(v:Value)(t:Int)(ps:List Int)(n:Int)(fit:Bool)(r:Option (List (List Int) × List Int))(e:Ending)(w':World):Prop :=
 match fit,r with
 | false,_=>e=.returned (.tuple #[v,.slice none 0 0,.int .i64 1])/\Below w.heap.size w w'
 | true,none=>e=.returned (.tuple #[v,.slice none 0 0,.int .i64 70])/\Below w.heap.size w w'
 | true,some (outs,keep')=>∃ v' ov,e=.returned (.tuple #[v',ov,.int .i64 0])/\ED w' (ext o w.heap.size c) c v' t ps keep' (n+1)/\vU w' (ext o w.heap.size c) c ov outs/\Below w.heap.size w w'
theorem Ny {w w3 w4 w5:World}{o:Col}{c:Nat}{t n:Int}{vp vi vo Dj ov v:Value}{ps keep':List Int}{outs:List (List Int)}(h1:Ints w o c vp ps)(h2:Ints w o c vi (bJ t ps))(h3:Ints w o c vo (aV t ps))
  (hb3:Below w.heap.size w w3) (hs:w.heap.size+2<=w3.heap.size) (hb4:Below w3.heap.size w3 w4) (hk:Ints w4 (ext (ext o w.heap.size (c+1)) w3.heap.size c) c Dj keep') (ho:vU w4 (ext (ext o w.heap.size (c+1)) w3.heap.size c) c ov outs) (hM:aG (fun k=>k=w.heap.size+1) w4 w5) :
  J5 w o c v t ps n true (some (outs,keep')) (.returned (.tuple #[.agg #[.int .u8 t,vp,vi,vo,Dj,.int .i64 (n+1)],ov,.int .i64 0])) w5:=by
 have hb:=hb3.trans (hb4.mono hb3.size);have hB:Below w.heap.size w w5:=hb.trans (hM.below hb.size (fun k hk e=>by omega));have T:Turn (ext (ext o w.heap.size (c+1)) w3.heap.size c) (ext (ext o w.heap.size (c+1)) w3.heap.size c) (fun x=>x=c+1) w4 w5:=⟨hM.mono (fun k _ e=>by
  subst e;rw [dm (by omega),dI (by omega)]),fun _ _=>rfl⟩
 have hc:∀ k,k < w5.heap.size->ext (ext o w.heap.size (c+1)) w3.heap.size c k=c->ext o w.heap.size c k=c:=fun k _ e=>by
  by_cases h:k < w.heap.size
  ·
   rw [dm (by omega),dm h] at e;rw [dm h];exact e
  ·
   exact dI (by omega)
 have T0:=Turn.of_below o c hB;exact ⟨_,ov,rfl,⟨vp,vi,vo,Dj,rfl,h1.turn T0 (fun h=>h),h2.turn T0 (fun h=>h),h3.turn T0 (fun h=>h),(hk.turn T (by omega)).dO hc⟩,(ho.turn T (by omega)).dO hc,hB⟩
theorem Nz (w:World)(o:Col)(c:Nat)(t n:Int)(a1 a2 a3 a4:Option Addr)(m1 m2 m3 m4 c1 c2 c3 c4:Nat)(ia:Option Addr)(il ic:Nat)(ps keep:List Int)(fit:Bool)(r:Option (List (List Int) × List Int))(hn1:Fits (n+1))
  (h1:Ints w o c (.slice a1 m1 c1) ps) (h2:Ints w o c (.slice a2 m2 c2) (bJ t ps)) (h3:Ints w o c (.slice a3 m3 c3) (aV t ps))
  (hfits:∀ W,Below w.heap.size w W->Calls Tryz.prog 90 #[.agg #[.int .u8 t,.slice a1 m1 c1,.slice a2 m2 c2,.slice a3 m3 c3,.slice a4 m4 c4,.int .i64 n],.slice ia il ic] W fun e w'=>e=.returned (.bool fit)/\Below W.heap.size W w')
  (hdone:fit=true->∀ W,Below w.heap.size w W->Calls Tryz.prog 91 #[.agg #[.int .u8 t,.slice a1 m1 c1,.slice a2 m2 c2,.slice a3 m3 c3,.slice a4 m4 c4,.int .i64 n],.slice ia il ic] W (dU W (ext o w.heap.size (c+1)) c t (.slice a1 m1 c1) (.slice a2 m2 c2) (.slice a3 m3 c3) (.slice a4 m4 c4) n r)) :
  Calls Tryz.prog 75 #[.agg #[.int .u8 t,.slice a1 m1 c1,.slice a2 m2 c2,.slice a3 m3 c3,.slice a4 m4 c4,.int .i64 n],.slice ia il ic] w (J5 w o c (.agg #[.int .u8 t,.slice a1 m1 c1,.slice a2 m2 c2,.slice a3 m3 c3,.slice a4 m4 c4,.int .i64 n]) t ps n fit r):=by
 have HF:=af hfits;have HD:=af hdone;have H1:=af h1;have H2:=af h2;have H3:=af h3;have Iu:=af hn1;clear hfits hdone h1 h2 h3 hn1;obtain ⟨A,hA⟩:∃ A,A=Obj.cells #[.int .u8 t,.slice a1 m1 c1,.slice a2 m2 c2,.slice a3 m3 c3,.slice a4 m4 c4,.int .i64 n] 84:=⟨_,rfl⟩;obtain ⟨B,hB⟩:∃ B,B=Obj.cells #[.int .u8 0,.slice none 0 0,.slice none 0 0,.slice none 0 0,.slice none 0 0,.int .i64 0] 84:=⟨_,rfl⟩;have hbW:Below w.heap.size w ((w.alloc A).alloc B):=(au w _).alloc (by simp) _;have hB0:=heap_alloc_new (w.alloc A) B;have Vz:=aI (heap_alloc_new w A) B;rw [World.size_alloc] at hB0;subst hA hB;have jU:=af hbW;have HB0:=af hB0;have Nr:=af Vz;clear hbW hB0 Vz;cases fit with
 | false =>
  go_enter Tryz.func75,Tryz.ntmps75;go_wp2_with fail;refine (HF.out _ jU.out).mono ?_;rintro e w3 ⟨rfl,hb3⟩;have aT:=aN HB0.out (aG.of_below hb3 (fun _=>False)) (fun h=>h);have uM:=aN Nr.out (aG.of_below hb3 (fun _=>False)) (fun h=>h);have q0:=ah _ _ aT 0 _ rfl;have q1:=ah _ _ aT 1 _ rfl;have q2:=ah _ _ aT 2 _ rfl;have q3:=ah _ _ aT 3 _ rfl;have q4:=ah _ _ aT 4 _ rfl;have q5:=ah _ _ aT 5 _ rfl;have r0:=aj aT 0;have r1:=aj aT 1;have r2:=aj aT 2;have r3:=aj aT 3;have r4:=aj aT 4;have r5:=aj aT 5;have s0:=ah _ _ uM 0 (.int .u8 t) rfl;have s1:=ah _ _ uM 1 (.slice a1 m1 c1) rfl;have s2:=ah _ _ uM 2 (.slice a2 m2 c2) rfl;have s3:=ah _ _ uM 3 (.slice a3 m3 c3) rfl;have s4:=ah _ _ uM 4 (.slice a4 m4 c4) rfl;have s5:=ah _ _ uM 5 (.int .i64 n) rfl;have HB3:=af hb3;have lN:=af aT;clear hb3 aT uM;go_wp2;have aT:=lN.out;have hK:=block_setCell (block_setCell (block_setCell (block_setCell (block_setCell (block_setCell aT 0 (.int .u8 t)) 1 (.slice a1 m1 c1)) 2 (.slice a2 m2 c2)) 3 (.slice a3 m3 c3)) 4 (.slice a4 m4 c4)) 5 (.int .i64 n);refine bodyPost_ret_by (aH rfl _ _ _ _ _ _ _ rfl hK Tryz.underlying84 rfl (by kernel_rfl)) rfl ?_;have hb:=jU.out.trans (HB3.out.mono jU.out.size);exact ⟨rfl,hb.trans ((lF (aG.refl (fun k=>k=w.heap.size+1) w3) rfl).below hb.size (fun k hk e=>by omega))⟩
 | true =>
  rcases r with _ | ⟨outs,keep'⟩
  ·
   go_enter Tryz.func75,Tryz.ntmps75;go_wp2_with fail;refine (HF.out _ jU.out).mono ?_;rintro e w3 ⟨rfl,hb3⟩;have uM:=aN Nr.out (aG.of_below hb3 (fun _=>False)) (fun h=>h);have s0:=ah _ _ uM 0 (.int .u8 t) rfl;have s1:=ah _ _ uM 1 (.slice a1 m1 c1) rfl;have s2:=ah _ _ uM 2 (.slice a2 m2 c2) rfl;have s3:=ah _ _ uM 3 (.slice a3 m3 c3) rfl;have s4:=ah _ _ uM 4 (.slice a4 m4 c4) rfl;have s5:=ah _ _ uM 5 (.int .i64 n) rfl;have HB3:=af hb3;have W9:=af uM;have ng:=af (jU.out.trans (hb3.mono jU.out.size));clear hb3 uM;go_wp2_with fail;refine (HD.out (by first | rfl | trivial) _ ng.out).mono ?_;rintro e w4 ⟨rfl,hb4⟩;clear s0 s1 s2 s3 s4 s5;have hB4:=aN (aN HB0.out (aG.of_below HB3.out (fun _=>False)) (fun h=>h)) (aG.of_below hb4 (fun _=>False)) (fun h=>h);have aT:=aI hB4 (.cells #[.int .u8 t,.slice a1 m1 c1,.slice a2 m2 c2,.slice a3 m3 c3,.slice a4 m4 c4,.int .i64 n] 84);have uM:=aI (aN W9.out (aG.of_below hb4 (fun _=>False)) (fun h=>h)) (.cells #[.int .u8 t,.slice a1 m1 c1,.slice a2 m2 c2,.slice a3 m3 c3,.slice a4 m4 c4,.int .i64 n] 84);have q0:=ah _ _ aT 0 _ rfl;have q1:=ah _ _ aT 1 _ rfl;have q2:=ah _ _ aT 2 _ rfl;have q3:=ah _ _ aT 3 _ rfl;have q4:=ah _ _ aT 4 _ rfl;have q5:=ah _ _ aT 5 _ rfl;have r0:=aj aT 0;have r1:=aj aT 1;have r2:=aj aT 2;have r3:=aj aT 3;have r4:=aj aT 4;have r5:=aj aT 5;have s0:=ah _ _ uM 0 (.int .u8 t) rfl;have s1:=ah _ _ uM 1 (.slice a1 m1 c1) rfl;have s2:=ah _ _ uM 2 (.slice a2 m2 c2) rfl;have s3:=ah _ _ uM 3 (.slice a3 m3 c3) rfl;have s4:=ah _ _ uM 4 (.slice a4 m4 c4) rfl;have s5:=ah _ _ uM 5 (.int .i64 n) rfl;have lN:=af aT;have YC:=af (ng.out.trans (hb4.mono ng.out.size));clear hb4 aT uM hB4;go_wp2;have aT:=lN.out;have hK:=block_setCell (block_setCell (block_setCell (block_setCell (block_setCell (block_setCell aT 0 (.int .u8 t)) 1 (.slice a1 m1 c1)) 2 (.slice a2 m2 c2)) 3 (.slice a3 m3 c3)) 4 (.slice a4 m4 c4)) 5 (.int .i64 n);refine bodyPost_ret_by (aH rfl _ _ _ _ _ _ _ rfl hK Tryz.underlying84 rfl (by kernel_rfl)) rfl ?_;have hb:=YC.out.alloc YC.out.size (.cells #[.int .u8 t,.slice a1 m1 c1,.slice a2 m2 c2,.slice a3 m3 c3,.slice a4 m4 c4,.int .i64 n] 84);exact ⟨rfl,hb.trans ((lF (aG.refl (fun k=>k=w.heap.size+1) _) rfl).below hb.size (fun k hk e=>by omega))⟩
  ·
   go_enter Tryz.func75,Tryz.ntmps75;go_wp2_with fail;refine (HF.out _ jU.out).mono ?_;rintro e w3 ⟨rfl,hb3⟩;have uM:=aN Nr.out (aG.of_below hb3 (fun _=>False)) (fun h=>h);have s0:=ah _ _ uM 0 (.int .u8 t) rfl;have s1:=ah _ _ uM 1 (.slice a1 m1 c1) rfl;have s2:=ah _ _ uM 2 (.slice a2 m2 c2) rfl;have s3:=ah _ _ uM 3 (.slice a3 m3 c3) rfl;have s4:=ah _ _ uM 4 (.slice a4 m4 c4) rfl;have s5:=ah _ _ uM 5 (.int .i64 n) rfl;have HB3:=af hb3;have W9:=af uM;have ng:=af (jU.out.trans (hb3.mono jU.out.size));clear hb3 uM;go_wp2_with fail;refine (HD.out (by first | rfl | trivial) _ ng.out).mono ?_;rintro e w4 ⟨ov,Dj,rfl,hk',ho,hb4⟩;obtain ⟨ak,ck,rfl⟩:=hk'.slice;obtain ⟨ao,co,rfl⟩:=ho.ll.slice;clear s0 s1 s2 s3 s4 s5;have hn1:=Iu.out;unfold Fits at hn1;have hw1:wrap64 (n+1)=n+1:=IntWalk.wrap64_in _ hn1;clear hn1;have hB4:=aN (aN HB0.out (aG.of_below HB3.out (fun _=>False)) (fun h=>h)) (aG.of_below hb4 (fun _=>False)) (fun h=>h);have aT:=aI hB4 (.cells #[.int .u8 t,.slice a1 m1 c1,.slice a2 m2 c2,.slice a3 m3 c3,.slice ak keep'.length ck,.int .i64 (n+1)] 84);have q0:=ah _ _ aT 0 _ rfl;have q1:=ah _ _ aT 1 _ rfl;have q2:=ah _ _ aT 2 _ rfl;have q3:=ah _ _ aT 3 _ rfl;have q4:=ah _ _ aT 4 _ rfl;have q5:=ah _ _ aT 5 _ rfl;have r0:=aj aT 0;have r1:=aj aT 1;have r2:=aj aT 2;have r3:=aj aT 3;have r4:=aj aT 4;have r5:=aj aT 5;have lN:=af aT;have xV:=af hb4;have GZ:=af hk';have HO:=af ho;have YC:=af (ng.out.trans (hb4.mono ng.out.size));have Fa:=af (show w.heap.size+2<=w3.heap.size by have:=HB3.out.size;simpa using this);clear hb4 aT hB4 hk' ho;go_wp2;have aT:=lN.out;have hK:=block_setCell (block_setCell (block_setCell (block_setCell (block_setCell (block_setCell aT 0 (.int .u8 t)) 1 (.slice a1 m1 c1)) 2 (.slice a2 m2 c2)) 3 (.slice a3 m3 c3)) 4 (.slice ak keep'.length ck)) 5 (.int .i64 (n+1));refine bodyPost_ret_by (aH rfl _ _ _ _ _ _ _ rfl hK Tryz.underlying84 rfl (by kernel_rfl)) rfl ?_;exact Ny H1.out H2.out H3.out ng.out Fa.out xV.out GZ.out HO.out (lF ((aG.refl (fun k=>k=w.heap.size+1) w4).alloc _) rfl)
theorem NA {w:World}{o:Col}{c:Nat}{v bF:Value}{t n:Int}{ps keep:List Int}{xss:List (List Int)}(hK:Kp t ps keep)(h:ED w o c v t ps keep n)(hins:LL w bF xss)(hf:∀ l∈xss,∀ x∈l,Fits x)(hn1:Fits (n+1)) :
  Calls Tryz.prog 75 #[v,bF] w (J5 w o c v t ps n (decide (xss.map (fun l=>(l.length:Int))=bJ t ps)) (fT t ps keep xss)):=by
 obtain ⟨vp,vi,vo,vk,rfl,h1,h2,h3,h4⟩:=h;obtain ⟨a1,c1,rfl⟩:=h1.slice;obtain ⟨a2,c2,rfl⟩:=h2.slice;obtain ⟨a3,c3,rfl⟩:=h3.slice;obtain ⟨a4,c4,rfl⟩:=h4.slice;obtain ⟨ia,ic,rfl⟩:=hins.slice;refine Nz w o c t n a1 a2 a3 a4 _ _ _ _ c1 c2 c3 c4 ia _ ic ps keep _ _ hn1 h1 h2 h3 (fun W hb=>Nu W t n _ _ _ _ _ xss (bJ t ps) (tT hK.good).1 (h2.has.below hb) (hins.below hb)) (fun hfit W hb=>?_);exact Nw hK (h1.has.below hb) (h2.has.below hb) (h3.has.below hb) (h4.turn (Turn.of_below o (c+1) hb) (fun h=>h)) (hins.below hb) (of_decide_eq_true hfit) hf
theorem ou {w:World}{Z:Nat}{t:TypeId}{a0 a1 a2 a3 a4 a5 a6 a7 a8:Value}(h:w.heap[Z]?=some (.cells #[a0,a1,a2,a3,a4,a5,a6,a7,a8] t (0,0))):w.cell? ⟨Z,0,none⟩=some a0/\w.cell? ⟨Z,1,none⟩=some a1/\w.cell? ⟨Z,2,none⟩=some a2/\w.cell? ⟨Z,3,none⟩=some a3/\w.cell? ⟨Z,4,none⟩=some a4/\w.cell? ⟨Z,5,none⟩=some a5/\w.cell? ⟨Z,6,none⟩=some a6/\w.cell? ⟨Z,7,none⟩=some a7/\w.cell? ⟨Z,8,none⟩=some a8:=by
 refine ⟨?_,?_,?_,?_,?_,?_,?_,?_,?_⟩ <;> exact ah _ _ h _ _ rfl
theorem jD {w:World}{o:Col}{c Z:Nat}{t:TypeId}{a0 a1 a2 a3 a4 a5 a6 a7 a8:Value}(h:dZ w o c Z t #[a0,a1,a2,a3,a4,a5,a6,a7,a8]):w.cell? ⟨Z,0,none⟩=some a0/\w.cell? ⟨Z,1,none⟩=some a1/\w.cell? ⟨Z,2,none⟩=some a2/\w.cell? ⟨Z,3,none⟩=some a3/\w.cell? ⟨Z,4,none⟩=some a4/\w.cell? ⟨Z,5,none⟩=some a5/\w.cell? ⟨Z,6,none⟩=some a6/\w.cell? ⟨Z,7,none⟩=some a7/\w.cell? ⟨Z,8,none⟩=some a8:=ou h.1
theorem sV {w w':World}{Z:Nat}{a0 a1 a2 a3 a4 a5 a6 a7 a8:Value}(hx:Ext w w')(h:w.cell? ⟨Z,0,none⟩=some a0/\w.cell? ⟨Z,1,none⟩=some a1/\w.cell? ⟨Z,2,none⟩=some a2/\w.cell? ⟨Z,3,none⟩=some a3/\w.cell? ⟨Z,4,none⟩=some a4/\w.cell? ⟨Z,5,none⟩=some a5/\w.cell? ⟨Z,6,none⟩=some a6/\w.cell? ⟨Z,7,none⟩=some a7/\w.cell? ⟨Z,8,none⟩=some a8):w'.cell? ⟨Z,0,none⟩=some a0/\w'.cell? ⟨Z,1,none⟩=some a1/\w'.cell? ⟨Z,2,none⟩=some a2/\w'.cell? ⟨Z,3,none⟩=some a3/\w'.cell? ⟨Z,4,none⟩=some a4/\w'.cell? ⟨Z,5,none⟩=some a5/\w'.cell? ⟨Z,6,none⟩=some a6/\w'.cell? ⟨Z,7,none⟩=some a7/\w'.cell? ⟨Z,8,none⟩=some a8 :=
 ⟨hx.cell h.1,hx.cell h.2.1,hx.cell h.2.2.1,hx.cell h.2.2.2.1,hx.cell h.2.2.2.2.1,hx.cell h.2.2.2.2.2.1,hx.cell h.2.2.2.2.2.2.1,hx.cell h.2.2.2.2.2.2.2.1,hx.cell h.2.2.2.2.2.2.2.2⟩
theorem Rh {w:World}{o:Col}{c Z:Nat}{t:TypeId}{a0 a1 a2 a3 a4 a5 a6 a7 a8 a9 b0 b1:Value}(h:dZ w o c Z t #[a0,a1,a2,a3,a4,a5,a6,a7,a8,a9,b0,b1]):w.cell? ⟨Z,0,none⟩=some a0/\w.cell? ⟨Z,1,none⟩=some a1/\w.cell? ⟨Z,2,none⟩=some a2/\w.cell? ⟨Z,3,none⟩=some a3/\w.cell? ⟨Z,4,none⟩=some a4/\w.cell? ⟨Z,5,none⟩=some a5/\w.cell? ⟨Z,6,none⟩=some a6/\w.cell? ⟨Z,7,none⟩=some a7/\w.cell? ⟨Z,8,none⟩=some a8/\w.cell? ⟨Z,9,none⟩=some a9/\w.cell? ⟨Z,10,none⟩=some b0/\w.cell? ⟨Z,11,none⟩=some b1:=by
 refine ⟨?_,?_,?_,?_,?_,?_,?_,?_,?_,?_,?_,?_⟩ <;> exact h.cell _ _ rfl
theorem Bf {w:World}{tg k:Nat}{a0 a1 a2 a3 a4 a5 a6 a7 a8 a9 b0 b1:Value}(h:∀ j (u:Value),j < 12->[a0,a1,a2,a3,a4,a5,a6,a7,a8,a9,b0,b1][j]?=some u->w.cell? ⟨tg,k+j,none⟩=some u):w.cell? ⟨tg,k,none⟩=some a0/\w.cell? ⟨tg,k+1,none⟩=some a1/\w.cell? ⟨tg,k+2,none⟩=some a2/\w.cell? ⟨tg,k+3,none⟩=some a3/\w.cell? ⟨tg,k+4,none⟩=some a4/\w.cell? ⟨tg,k+5,none⟩=some a5/\w.cell? ⟨tg,k+6,none⟩=some a6/\w.cell? ⟨tg,k+7,none⟩=some a7/\w.cell? ⟨tg,k+8,none⟩=some a8/\w.cell? ⟨tg,k+9,none⟩=some a9/\w.cell? ⟨tg,k+10,none⟩=some b0/\w.cell? ⟨tg,k+11,none⟩=some b1 :=
 ⟨h 0 _ (by decide) rfl,h 1 _ (by decide) rfl,h 2 _ (by decide) rfl,h 3 _ (by decide) rfl,h 4 _ (by decide) rfl,h 5 _ (by decide) rfl,h 6 _ (by decide) rfl,h 7 _ (by decide) rfl,h 8 _ (by decide) rfl,h 9 _ (by decide) rfl,h 10 _ (by decide) rfl,h 11 _ (by decide) rfl⟩
theorem uy {w w':World}{tg k:Nat}{a0 a1 a2 a3 a4 a5 a6 a7 a8 a9 b0 b1:Value}(hb:Below w.heap.size w w')(h:w.cell? ⟨tg,k,none⟩=some a0/\w.cell? ⟨tg,k+1,none⟩=some a1/\w.cell? ⟨tg,k+2,none⟩=some a2/\w.cell? ⟨tg,k+3,none⟩=some a3/\w.cell? ⟨tg,k+4,none⟩=some a4/\w.cell? ⟨tg,k+5,none⟩=some a5/\w.cell? ⟨tg,k+6,none⟩=some a6/\w.cell? ⟨tg,k+7,none⟩=some a7/\w.cell? ⟨tg,k+8,none⟩=some a8/\w.cell? ⟨tg,k+9,none⟩=some a9/\w.cell? ⟨tg,k+10,none⟩=some b0/\w.cell? ⟨tg,k+11,none⟩=some b1):w'.cell? ⟨tg,k,none⟩=some a0/\w'.cell? ⟨tg,k+1,none⟩=some a1/\w'.cell? ⟨tg,k+2,none⟩=some a2/\w'.cell? ⟨tg,k+3,none⟩=some a3/\w'.cell? ⟨tg,k+4,none⟩=some a4/\w'.cell? ⟨tg,k+5,none⟩=some a5/\w'.cell? ⟨tg,k+6,none⟩=some a6/\w'.cell? ⟨tg,k+7,none⟩=some a7/\w'.cell? ⟨tg,k+8,none⟩=some a8/\w'.cell? ⟨tg,k+9,none⟩=some a9/\w'.cell? ⟨tg,k+10,none⟩=some b0/\w'.cell? ⟨tg,k+11,none⟩=some b1:=by
 obtain ⟨a0,a1,a2,a3,a4,a5,a6,a7,a8,a9,qF,pK⟩:=h;exact ⟨cell_later hb a0,cell_later hb a1,cell_later hb a2,cell_later hb a3,cell_later hb a4,cell_later hb a5,cell_later hb a6,cell_later hb a7,cell_later hb a8,cell_later hb a9,cell_later hb qF,cell_later hb pK⟩
structure wU where
 pa:Option Addr
 pl:Nat
 pc:Nat
 ia:Option Addr
 il:Nat
 ic:Nat
 oa:Option Addr
 ol:Nat
 oc:Nat
 ka:Option Addr
 kl:Nat
 kc:Nat
 sa:Option Addr
 sl:Nat
 sc:Nat
 da:Option Addr
 dl:Nat
 dc:Nat
 ha:Option Addr
 hl:Nat
 hc:Nat
 ga:Option Addr
 gl:Nat
 gc:Nat
structure rT where
 a:Option Addr
 l:Nat
 c:Nat
def rT.v (s:rT):Value:=.slice s.a s.l s.c
structure iH where
 aa:Option Addr
 ac:Nat
 ae:Option Addr
 ec:Nat
 ai:Option Addr
 ic:Nat
 ao:Option Addr
 oc:Nat
 ca:Option Addr
 cc:Nat
 ta:Option Addr
 tc:Nat
 sa:Option Addr
 sc:Nat
 fail:Nat
def aR (g:av):Nat:=g.edges.length+g.ins.length+g.outs.length
def dP (g:av)(caps:List Int)(H:iH):List Value:=[.string g.name,.slice H.aa g.actors.length H.ac,.slice H.ae g.edges.length H.ec,.slice H.ai g.ins.length H.ic,.slice H.ao g.outs.length H.oc,.slice H.ca caps.length H.cc,.slice H.ta g.actors.length H.tc,.slice H.sa (aR g) H.sc,.slice (some ⟨H.fail,0,none⟩) 1 1]
def iw (tg:Int)(v:wU)(n:Int)(at' whole:Nat):List Value:=[.int .u8 tg,.slice v.pa v.pl v.pc,.slice v.ia v.il v.ic,.slice v.oa v.ol v.oc,.slice v.ka v.kl v.kc,.int .i64 n,.slice v.sa v.sl v.sc,.slice v.da v.dl v.dc,.int .i64 (at':Nat),.slice v.ha v.hl v.hc,.slice v.ga v.gl v.gc,.int .i64 (whole:Nat)]
def taskX (g:av)(x:bW)(gv:List Int)(v:wU)(t:Nat):List Value:=iw (eH g t) v x.n (zA x gv) x.whole
def vL (v:rT)(hs:List Int):List Value:=[.slice v.a v.l v.c,.int .i64 (hs.length:Nat)]
def EF (g:av)(t:Nat)(keep:List Int):Prop:=(eH g t=1->(jh g t).length=keep.length+1)/\(eH g t=8\/eH g t=10->keep.length=1)
structure oC (w:World) (o:Col) (R:Nat) (g:av) (t:Nat) (x:bW) (gv:List Int) (v:wU):Prop where
 vp:Ints w o (R+3) (.slice v.pa v.pl v.pc) (jh g t)
 vi:Ints w o (R+3) (.slice v.ia v.il v.ic) (ay g t)
 vo:Ints w o (R+3) (.slice v.oa v.ol v.oc) (aF g t)
 vk:Ints w o (R+3) (.slice v.ka v.kl v.kc) x.keep
 src:Ints w o (R+1000+2*t) (.slice v.sa v.sl v.sc) (ku g t (g.edges.length+g.ins.length))
 dst:Ints w o (R+1001+2*t) (.slice v.da v.dl v.dc) (zw g t (aR g))
 hand:Ints w o (R+3) (.slice v.ha v.hl v.hc) x.hand.flatten
 gives:x.gives=true->Ints w o (R+3) (.slice v.ga v.gl v.gc) (gv ++ x.bg.flatten)
 rest:YA g t x gv
 kp:EF g t x.keep
structure fA (w:World) (o:Col) (R:Nat) (g:av) (caps:List Int) (K:Nat) (r:bH) (hs gv:Nat->List Int) (H:iH) (tv:Nat->wU) (sv:Nat->rT):Prop where
 caps:Ints w o (R+3) (.slice H.ca caps.length H.cc) caps
 fail:dZ w o (R+4) H.fail 3 #[.int .i64 (iK r)]
 tasks:Own w o (R+1) 88 12 (.slice H.ta g.actors.length H.tc) g.actors.length ((List.range g.actors.length).flatMap fun t=>taskX g (r.aP.tasks t) (gv t) (tv t) t)
 streams:Own w o (R+2) 90 2 (.slice H.sa (aR g) H.sc) (aR g) ((List.range (aR g)).flatMap fun d=>vL (sv d) (hs d))
 task:∀ t,t < g.actors.length->oC w o R g t (r.aP.tasks t) (gv t) (tv t)
 all:∀ d,d < aR g->bT w o (R+10+d) 3 (sv d).v (bB (hs d ++ r.aP.strs d))
 gone:∀ d,(hs d).length<=K
 tape:∀ d,g.edges.length+g.ins.length<=d->hs d=[]
 most:g.actors.length<=32/\aR g<=128
section
variable {w w':World} {o o':Col} {C:Nat->Prop} {R K:Nat} {g:av} {caps:List Int} {r:bH} {hs gv:Nat->List Int} {H:iH} {tv:Nat->wU} {sv:Nat->rT}
theorem oC.turn {t:Nat}{x:bW}{gs:List Int}{v:wU}(h:oC w o R g t x gs v)(T:Turn o o' C w w')(h3:¬ C (R+3))(hs:¬ C (R+1000+2*t))(hd:¬ C (R+1001+2*t)):oC w' o' R g t x gs v :=
 ⟨h.vp.turn T h3,h.vi.turn T h3,h.vo.turn T h3,h.vk.turn T h3,h.src.turn T hs,h.dst.turn T hd,h.hand.turn T h3,fun e=>(h.gives e).turn T h3,h.rest,h.kp⟩
theorem fA.turn (h:fA w o R g caps K r hs gv H tv sv)(T:Turn o o' C w w')(hC:∀ k,C k->¬ jY R k):fA w' o' R g caps K r hs gv H tv sv:=by
 have hc:∀ j,j < 2000->¬ C (R+j):=fun j hj hcc=>hC _ hcc ⟨by omega,by omega⟩;obtain ⟨m1,m2⟩:=h.most;exact ⟨h.caps.turn T (hc 3 (by omega)),h.fail.turn T (hc 4 (by omega)),h.tasks.turn T (hc 1 (by omega)),h.streams.turn T (hc 2 (by omega)),fun t ht=>(h.task t ht).turn T (hc 3 (by omega)) (by rw [Nat.add_assoc];exact hc _ (by omega)) (by rw [Nat.add_assoc];exact hc _ (by omega)),fun d hd=>(h.all d hd).turn T (by rw [Nat.add_assoc];exact hc _ (by omega)),h.gone,h.tape,h.most⟩
theorem fA.below (h:fA w o R g caps K r hs gv H tv sv){w1:World}(hb:Below w.heap.size w w1):fA w1 (ext o w.heap.size 0) R g caps K r hs gv H tv sv:=h.turn (Turn.of_below o 0 hb) (fun _ h=>h.elim)
theorem fA.mono {K':Nat}(h:fA w o R g caps K r hs gv H tv sv)(hk:K<=K'):fA w o R g caps K' r hs gv H tv sv:={ h with gone:=fun d=>Nat.le_trans (h.gone d) hk }
theorem fA.pF (h:fA w o R g caps K r hs gv H tv sv){t:Nat}(ht:t < g.actors.length):∃ tg,H.ta=some ⟨tg,0,none⟩/\g.actors.length<=H.tc/\o tg=R+1/\(∀ j,w.frozen? ⟨tg,j,none⟩=false)/\tg < w.heap.size/\∀ k (u:Value),k < 12->(taskX g (r.aP.tasks t) (gv t) (tv t) t)[k]?=some u->w.cell? ⟨tg,t*12+k,none⟩=some u:=by
 have hl:=jW (f:=fun t=>taskX g (r.aP.tasks t) (gv t) (tv t) t) (sz:=12) (fun _=>rfl) g.actors.length;obtain ⟨-,hc,tg,-,e,hcl,hf,hlt⟩:=bQ h.tasks.1 (by rw [hl];omega);refine ⟨tg,e,hc,h.tasks.2 tg (by rw [e];rfl),hf,hlt,fun k u hk hu=>hcl _ u ?_⟩;rw [kN (f:=fun t=>taskX g (r.aP.tasks t) (gv t) (tv t) t) (sz:=12) (fun _=>rfl) hk ht];exact hu
theorem fA.sW (h:fA w o R g caps K r hs gv H tv sv){d:Nat}(hd:d < aR g):∃ sg,H.sa=some ⟨sg,0,none⟩/\aR g<=H.sc/\o sg=R+2/\(∀ j,w.frozen? ⟨sg,j,none⟩=false)/\sg < w.heap.size/\w.cell? ⟨sg,d*2,none⟩=some (sv d).v/\w.cell? ⟨sg,d*2+1,none⟩=some (.int .i64 ((hs d).length:Nat)):=by
 have hl:=jW (f:=fun d=>vL (sv d) (hs d)) (sz:=2) (fun _=>rfl) (aR g);obtain ⟨-,hc,sg,-,e,hcl,hf,hlt⟩:=bQ h.streams.1 (by rw [hl];omega);refine ⟨sg,e,hc,h.streams.2 sg (by rw [e];rfl),hf,hlt,hcl (d*2+0) _ ?_,hcl (d*2+1) _ ?_⟩
 ·
  rw [kN (f:=fun d=>vL (sv d) (hs d)) (sz:=2) (fun _=>rfl) (by omega) hd];rfl
 ·
  rw [kN (f:=fun d=>vL (sv d) (hs d)) (sz:=2) (fun _=>rfl) (by omega) hd];rfl
end
theorem NC {f:Nat->List Value}{sz:Nat}(hf:∀ t,(f t).length=sz){t k:Nat}(hk:k < sz)(u:Value){n:Nat}(ht:t < n):((List.range n).flatMap f).set (t*sz+k) u=(List.range n).flatMap (upd f t ((f t).set k u)):=by
 have hf2:∀ s,(upd f t ((f t).set k u) s).length=sz:=fun s=>by
  unfold upd
  split
  ·
   rw [List.length_set,hf]
  ·
   exact hf s
 refine List.ext_getElem? fun i=>?_
 by_cases hi:i < n*sz
 ·
  have hsz:0 < sz:=by omega
  have hq:i / sz < n:=(Nat.div_lt_iff_lt_mul hsz).2 hi;have hr:i % sz < sz:=Nat.mod_lt _ hsz;have e:i=i / sz*sz+i % sz:=by rw [Nat.mul_comm];exact (Nat.div_add_mod i sz).symm
  generalize i / sz=q at *;generalize i % sz=j at *;subst e;rw [kN hf2 hr hq,List.getElem?_set]
  by_cases e:q=t
  ·
   subst e;rw [upd_same,List.getElem?_set]
   by_cases e2:k=j
   ·
    subst e2;rw [if_pos rfl,if_pos rfl,if_pos (by rw [jW hf];exact hi),if_pos (by rw [hf];exact hk)]
   ·
    rw [if_neg (by omega),if_neg e2,kN hf hr hq]
  ·
   rw [aO e,if_neg,kN hf hr hq];intro e2
   rcases Nat.lt_or_gt_of_ne e with h | h
   ·
    have:=Nat.mul_le_mul_right sz (show q+1<=t by omega);rw [Nat.add_mul] at this;omega
   ·
    have:=Nat.mul_le_mul_right sz (show t+1<=q by omega);rw [Nat.add_mul] at this;omega
 ·
  rw [List.getElem?_eq_none (by rw [List.length_set,jW hf];omega),List.getElem?_eq_none (by rw [jW hf2];omega)]
theorem EG {w:World}{o:Col}{c e sz n g cap:Nat}{f:Nat->List Value}(hf:∀ t,(f t).length=sz)(h:Own w o c e sz (.slice (some ⟨g,0,none⟩) n cap) n ((List.range n).flatMap f)){t k:Nat}(ht:t < n)(hk:k < sz)(u:Value) :
  Own (w.setCell ⟨g,t*sz+k,none⟩ u) o c e sz (.slice (some ⟨g,0,none⟩) n cap) n ((List.range n).flatMap (upd f t ((f t).set k u)))/\Turn o o (fun y=>y=c) w (w.setCell ⟨g,t*sz+k,none⟩ u):=by
 have h1:=(h.1.stored (t*sz+k) u).1;rw [NC hf hk u ht] at h1;exact ⟨⟨h1,h.2⟩,⟨(aG.refl (fun k=>o k=c) w).setCell (p:=⟨g,t*sz+k,none⟩) (fun _=>h.2 g rfl) _,fun _ _=>rfl⟩⟩
def EH (g:Nat):Nat->List Value->World->World
 | _,[],w=>w
 | k,u :: l,w=>EH g (k+1) l (w.setCell ⟨g,k,none⟩ u)
theorem G8 {w:World}{o:Col}{c e sz n g cap t:Nat}{f:Nat->List Value}(hf:∀ t,(f t).length=sz)(ht:t < n):∀ (l:List Value) (i:Nat) {w:World} {f:Nat->List Value} (_:∀ t,(f t).length=sz) (_:i+l.length=sz),Own w o c e sz (.slice (some ⟨g,0,none⟩) n cap) n ((List.range n).flatMap f) ->
  Own (EH g (t*sz+i) l w) o c e sz (.slice (some ⟨g,0,none⟩) n cap) n ((List.range n).flatMap (upd f t ((f t).take i ++ l)))/\Turn o o (fun y=>y=c) w (EH g (t*sz+i) l w)
 | [],i,w,f,hf,hi,h=>by
  have e:upd f t ((f t).take i ++ [])=f:=by
   rw [List.append_nil,List.take_of_length_le (by rw [hf];simpa using Nat.le_of_eq hi.symm)];exact GJ f t
  rw [e];exact ⟨h,Turn.refl _ _ _⟩
 | u :: l,i,w,f,hf,hi,h=>by
  simp only [List.length_cons] at hi;obtain ⟨h1,T1⟩:=EG hf h ht (k:=i) (by omega) u;have hf1:∀ s,(upd f t ((f t).set i u) s).length=sz:=fun s=>by
   unfold upd
   split
   ·
    rw [List.length_set,hf]
   ·
    exact hf s
  obtain ⟨h2,T2⟩:=G8 hf ht l (i+1) (w:=w.setCell ⟨g,t*sz+i,none⟩ u) hf1 (by omega) h1;have e:upd (upd f t ((f t).set i u)) t ((upd f t ((f t).set i u) t).take (i+1) ++ l)=upd f t ((f t).take i ++ u :: l):=by
   rw [Cu,upd_same]
   congr 1
   have hi2:i < ((f t).set i u).length:=by rw [List.length_set,hf];omega
   rw [List.take_succ_eq_append_getElem hi2,List.take_set_of_le (Nat.le_refl _)];simp
  rw [e] at h2;exact ⟨h2,T1.trans T2 (fun _ h=>h)⟩
section
variable {w:World} {o:Col} {R K:Nat} {g:av} {caps:List Int} {r:bH} {hs gv:Nat->List Int} {H:iH} {tv:Nat->wU} {sv:Nat->rT}
theorem fA.zU (h:fA w o R g caps K r hs gv H tv sv){t tg:Nat}(ht:t < g.actors.length)(ND:H.ta=some ⟨tg,0,none⟩){x:bW}{gs:List Int}{v:wU}(hx:oC w o R g t x gs v){fl:Option Nat}(hfl:iK r=iK ⟨r.aP,fl⟩) :
  fA (EH tg (t*12) (taskX g x gs v t) w) o R g caps K ⟨⟨upd r.aP.tasks t x,r.aP.strs⟩,fl⟩ hs (upd gv t gs) H (upd tv t v) sv/\Turn o o (fun y=>y=R+1) w (EH tg (t*12) (taskX g x gs v t) w):=by
 have h1:=h.tasks;rw [ND] at h1;obtain ⟨h2,T⟩:=G8 (t:=t) (fun _=>rfl) ht (taskX g x gs v t) 0 (w:=w) (f:=fun t=>taskX g (r.aP.tasks t) (gv t) (tv t) t) (sz:=12) (fun _=>rfl) rfl h1;rw [List.take_zero,List.nil_append] at h2;have e:upd (fun t=>taskX g (r.aP.tasks t) (gv t) (tv t) t) t (taskX g x gs v t)=fun u=>taskX g (upd r.aP.tasks t x u) (upd gv t gs u) (upd tv t v u) u:=by
  funext u
  by_cases e:u=t
  ·
   subst e;simp only [upd_same]
  ·
   simp only [aO e]
 rw [e] at h2;refine ⟨⟨h.caps.turn T (by omega),?_,by rw [ND];exact h2,h.streams.turn T (by omega),fun u hu=>?_,fun d hd=>(h.all d hd).turn T (by omega),h.gone,h.tape,h.most⟩,T⟩
 ·
  have:=h.fail.turn T (by omega);rw [hfl] at this;exact this
 ·
  show oC _ o R g u (upd r.aP.tasks t x u) (upd gv t gs u) (upd tv t v u)
  by_cases e:u=t
  ·
   subst e;rw [upd_same,upd_same,upd_same];exact hx.turn T (by omega) (by omega) (by omega)
  ·
   rw [aO e,aO e,aO e];exact (h.task u hu).turn T (by omega) (by omega) (by omega)
theorem fA.Ri {w1:World}{o1:Col}(h:fA w o R g caps K r hs gv H tv sv){d sg:Nat}(hd:d < aR g)(hsg:H.sa=some ⟨sg,0,none⟩){z:rT}{l:List Int}(T:Turn o o1 (fun x=>x=R+10+d) w w1)(hO:bT w1 o1 (R+10+d) 3 z.v (bB (hs d ++ (r.aP.strs d ++ l)))) :
  fA (w1.setCell ⟨sg,d*2,none⟩ z.v) o1 R g caps K ⟨⟨r.aP.tasks,upd r.aP.strs d (r.aP.strs d ++ l)⟩,r.failed⟩ hs gv H tv (upd sv d z)/\Turn o o1 (fun x=>x=R+10+d\/x=R+2) w (w1.setCell ⟨sg,d*2,none⟩ z.v):=by
 obtain ⟨m1,m2⟩:=h.most;have h1:=h.streams.turn T (by omega);rw [hsg] at h1;obtain ⟨h2,T2⟩:=EG (f:=fun d=>vL (sv d) (hs d)) (sz:=2) (fun _=>rfl) h1 hd (k:=0) (by omega) z.v;rw [Nat.add_zero] at h2 T2;have e:upd (fun d=>vL (sv d) (hs d)) d ((vL (sv d) (hs d)).set 0 z.v)=fun u=>vL (upd sv d z u) (hs u):=by
  funext u
  by_cases e:u=d
  ·
   subst e;simp only [upd_same];rfl
  ·
   simp only [aO e]
 rw [e] at h2;have TT:Turn o o1 (fun x=>x=R+10+d\/x=R+2) w (w1.setCell ⟨sg,d*2,none⟩ z.v):=(T.mono (fun _ h=>Or.inl h)).trans T2 (fun _ h=>Or.inr h);refine ⟨⟨h.caps.turn TT (by omega),h.fail.turn TT (by omega),h.tasks.turn TT (by omega),by rw [hsg];exact h2,fun t ht=>(h.task t ht).turn TT (by omega) (by omega) (by omega),fun u hu=>?_,h.gone,h.tape,h.most⟩,TT⟩;show bT _ o1 (R+10+u) 3 (upd sv d z u).v (bB (hs u ++ upd r.aP.strs d (r.aP.strs d ++ l) u))
 by_cases e:u=d
 ·
  subst e;rw [upd_same,upd_same];exact hO.turn T2 (by omega)
 ·
  rw [aO e,aO e];exact (h.all u hu).turn TT (by omega)
theorem fA.VL (h:fA w o R g caps K r hs gv H tv sv){d sg:Nat}(hd:d < g.edges.length+g.ins.length)(hsg:H.sa=some ⟨sg,0,none⟩){x:Int}{l:List Int}(hx:r.aP.strs d=x :: l) :
  fA (w.setCell ⟨sg,d*2+1,none⟩ (.int .i64 ((hs d).length+1:Nat))) o R g caps (K+1) ⟨⟨r.aP.tasks,upd r.aP.strs d l⟩,r.failed⟩ (upd hs d (hs d ++ [x])) gv H tv sv/\Turn o o (fun x=>x=R+2) w (w.setCell ⟨sg,d*2+1,none⟩ (.int .i64 ((hs d).length+1:Nat))):=by
 have hd2:d < aR g:=by unfold aR;omega
 have h1:=h.streams;rw [hsg] at h1;obtain ⟨h2,T2⟩:=EG (f:=fun d=>vL (sv d) (hs d)) (sz:=2) (fun _=>rfl) h1 hd2 (k:=1) (by omega) (.int .i64 ((hs d).length+1:Nat));have e:upd (fun d=>vL (sv d) (hs d)) d ((vL (sv d) (hs d)).set 1 (.int .i64 ((hs d).length+1:Nat)))=fun u=>vL (sv u) (upd hs d (hs d ++ [x]) u):=by
  funext u
  by_cases e:u=d
  ·
   subst e;simp only [upd_same];unfold vL;rw [List.length_append];rfl
  ·
   simp only [aO e]
 rw [e] at h2;refine ⟨⟨h.caps.turn T2 (by omega),h.fail.turn T2 (by omega),h.tasks.turn T2 (by omega),by rw [hsg];exact h2,fun t ht=>(h.task t ht).turn T2 (by omega) (by omega) (by omega),fun u hu=>?_,fun u=>?_,fun u hu=>?_,h.most⟩,T2⟩
 ·
  show bT _ o (R+10+u) 3 (sv u).v (bB (upd hs d (hs d ++ [x]) u ++ upd r.aP.strs d l u))
  have ha:=(h.all u hu).turn T2 (by omega)
  by_cases e:u=d
  ·
   subst e;rw [upd_same,upd_same,List.append_assoc,List.singleton_append,<- hx];exact ha
  ·
   rw [aO e,aO e];exact ha
 ·
  have:=h.gone u
  by_cases e:u=d
  ·
   subst e;rw [upd_same,List.length_append,List.length_singleton];omega
  ·
   rw [aO e];omega
 ·
  rw [aO (by omega)];exact h.tape u hu
theorem fA.Et (h:fA w o R g caps K r hs gv H tv sv)(t:Nat):fA (w.setCell ⟨H.fail,0,none⟩ (.int .i64 (t:Nat))) o R g caps K ⟨r.aP,some t⟩ hs gv H tv sv/\Turn o o (fun x=>x=R+4) w (w.setCell ⟨H.fail,0,none⟩ (.int .i64 (t:Nat))):=by
 obtain ⟨hb,T⟩:=h.fail.set 0 (.int .i64 (t:Nat));exact ⟨⟨h.caps.turn T (by omega),hb,h.tasks.turn T (by omega),h.streams.turn T (by omega),fun t ht=>(h.task t ht).turn T (by omega) (by omega) (by omega),fun d hd=>(h.all d hd).turn T (by omega),h.gone,h.tape,h.most⟩,T⟩
end
theorem pq {a b:Nat}(h:a+b<=1000000):wrap64 ((a:Int)+b)=((a+b:Nat):Int)/\IntKind.i64.wrap ((a:Int)+b)=((a+b:Nat):Int):=by
 refine ⟨?_,?_⟩
 ·
  rw [IntWalk.wrap64_in _ (by omega)];omega
 ·
  rw [IntWalk.i64_in _ (by omega)];omega
theorem add_one {a b:Nat}(h:a<=100000000000000)(hb:a+1=b):wrap64 ((a:Int)+1)=(b:Int)/\IntKind.i64.wrap ((a:Int)+1)=(b:Int):=by
 subst hb;refine ⟨?_,?_⟩
 ·
  rw [IntWalk.wrap64_in _ (by omega)];omega
 ·
  rw [IntWalk.i64_in _ (by omega)];omega
theorem LA {a b:Nat}(h:a<=1000000)(hb:b<=a):wrap64 ((a:Int) - b)=((a - b:Nat):Int)/\IntKind.i64.wrap ((a:Int) - b)=((a - b:Nat):Int):=by
 refine ⟨?_,?_⟩
 ·
  rw [IntWalk.wrap64_in _ (by omega)];omega
 ·
  rw [IntWalk.i64_in _ (by omega)];omega
theorem gZ:∀ {l:List Int},(∀ x∈l,1<=x/\x<=64)->fH l<=64*l.length
 | [],_=>Nat.le_refl _
 | r :: l,h=>by
  have h1:=h r List.mem_cons_self;have h2:=gZ (l:=l) (fun x hx=>h x (List.mem_cons_of_mem _ hx));unfold fH at h2 ⊢;rw [List.map_cons,List.sum_cons,List.length_cons];omega
theorem EJ {w:World}{o:Col}{c:Nat}{la:Option Addr}{n lc:Nat}{l:List Int}(h:Ints w o c (.slice la n lc) l)(hp:∀ x∈l,1<=x/\x<=64){k:Nat}(hk:k < l.length):∃ (b off x:Nat),la=some ⟨b,off,none⟩/\n<=lc/\w.cell? ⟨b,off+k,none⟩=some (.int .i64 (x:Int))/\1<=x/\x<=64/\fH (l.take (k+1))=fH (l.take k)+x:=by
 obtain ⟨b,off,rfl,-,hcap,-,-,hc⟩:=Ints.at h (by omega);have c0:=hc k hk;rw [List.getElem?_eq_getElem hk] at c0;have hx:=hp _ (List.getElem_mem hk);refine ⟨b,off,l[k].toNat,rfl,hcap,?_,by omega,by omega,uo hk⟩;rw [c0];show some (Value.int .i64 l[k])=_
 rw [Int.toNat_of_nonneg (by omega)]
theorem rA {w:World}{o:Col}{c:Nat}{v:Value}{l:List Int}(h:Ints w o c v l)(hp:∀ x∈l,1<=x/\x<=64)(hn:l.length<=64) :
  Calls Tryz.prog 49 #[v] w (pW (.int .i64 (fH l:Nat)) w):=by
 obtain ⟨la,lc,rfl⟩:=Ints.slice h;have HL:=af h;have HP:=af hp;have HS:=af (gZ hp);clear h hp;obtain ⟨n,hN⟩:∃ n,l.length=n:=⟨_,rfl⟩;have HN:=af hN;rw [hN] at hn HL HS ⊢;clear hN;go_enter Tryz.func49,Tryz.ntmps49;go_wp2_with fail
 go_loopw [3,4] (fun s i wr=>∃ k:Nat,k<=n/\i=.int .i64 k/\s=.int .i64 (fH (l.take k):Nat)/\wr=w) (fun _ i _=>n - (intOf i).toNat)
 case atStart=>exact ⟨0,Nat.zero_le _,rfl,rfl,rfl⟩
 case round =>
  obtain ⟨k,hk,rfl,rfl,hw⟩:=hrel;subst hw
  by_cases hlt:k < n
  ·
   have bX:(k:Int) < n:=by omega
   obtain ⟨b,off,x,rfl,hcap,c0,x1,x2,hs⟩:=EJ HL.out HP.out (k:=k) (by rw [HN.out];exact hlt);have fu:(n:Int)<=lc:=by omega
   have h1:=ru (l:=l) (k+1);rw [hs] at h1;have h2:=HS.out;obtain ⟨S,YD⟩:∃ S,fH (l.take k)=S:=⟨_,rfl⟩;rw [YD] at h1 hs ⊢;obtain ⟨ha,hb⟩:=pq (a:=S) (b:=x) (by omega);have EK:=af hs;clear h1 h2 hs YD hcap;go_wp2;go_roundw
   case rel=>exact ⟨k+1,hlt,by go_num,by rw [EK.out];simp,trivial⟩
   case measure=>simp [intOf];omega
  ·
   obtain rfl:k=n:=by omega
   go_wp2;go_ret;have e:fH (l.take k)=fH l:=by rw [<- HN.out,wP]
   refine ⟨?_,rfl⟩;show Ending.returned (.int .i64 (fH (l.take k):Nat))=_
   rw [e]
theorem uz {w:World}{o:Col}{c:Nat}{v:Value}{l:List Int}(h:Ints w o c v l)(hp:∀ x∈l,1<=x/\x<=64)(hn:l.length<=64){p k:Nat}(hpl:p < l.length)(h1:fH (l.take p)<=k)(h2:k < fH (l.take (p+1))) :
  Calls Tryz.prog 50 #[v,.int .i64 (k:Nat)] w (pW (.int .i64 (p:Nat)) w):=by
 obtain ⟨la,lc,rfl⟩:=Ints.slice h;have hS:=gZ hp;have hle:=ru (l:=l) (p+1);have hk:k<=5000:=by omega
 have HL:=af h;have HP:=af hp;have H1:=af h1;have H2:=af h2;clear h hp hS hle h1 h2;obtain ⟨n,hN⟩:∃ n,l.length=n:=⟨_,rfl⟩;have HN:=af hN;rw [hN] at hn HL hpl;rw [hN];clear hN;go_enter Tryz.func50,Tryz.ntmps50;go_wp2_with fail
 go_loopw [1,5] (fun s i wr=>∃ q:Nat,q<=p/\i=.int .i64 q/\s=.int .i64 (k - fH (l.take q):Nat)/\wr=w) (fun _ i _=>p - (intOf i).toNat)
 case atStart=>exact ⟨0,Nat.zero_le _,rfl,rfl,rfl⟩
 case round =>
  obtain ⟨q,hq,rfl,rfl,hw⟩:=hrel;subst hw;obtain ⟨b,off,x,rfl,hcap,c0,x1,x2,hs⟩:=EJ HL.out HP.out (k:=q) (by rw [HN.out];omega);have fu:(n:Int)<=lc:=by omega
  have hqi:(q:Int) < n:=by omega
  obtain ⟨S,YD⟩:∃ S,fH (l.take q)=S:=⟨_,rfl⟩;have hqk:S<=k:=by rw [<- YD];exact Nat.le_trans (yj hq) H1.out
  rw [YD] at hs ⊢;have EK:=af hs
  by_cases hlt:q < p
  ·
   have h3:fH (l.take (q+1))<=k:=Nat.le_trans (yj hlt) H1.out;rw [hs] at h3;have hgi:((k - S:Nat):Int)>=x:=by omega
   obtain ⟨ha,hb⟩:=LA (a:=k - S) (b:=x) (by omega) (by omega);clear hs YD hcap;go_wp2;go_roundw
   case rel=>exact ⟨q+1,hlt,by go_num,by rw [EK.out,Nat.sub_sub],trivial⟩
   case measure=>simp [intOf];omega
  ·
   obtain rfl:q=p:=by omega
   have h3:=H2.out;rw [hs] at h3;have hgi:¬ ((k - S:Nat):Int)>=x:=by omega
   clear hs YD hcap;go_wp2;go_ret;exact ⟨rfl,rfl⟩
theorem Bg (w:World)(a:Option Addr)(n c gone:Nat)(hg:gone<=n)(hn:n<=1000000000000000) :
  Calls Tryz.prog 54 #[.agg #[.slice a n c,.int .i64 (gone:Nat)]] w (fq (.int .i64 (n - gone:Nat)) w):=by
 have hb:=au w (.cells #[.slice a n c,.int .i64 (gone:Nat)] 90);have hX:=heap_alloc_new w (.cells #[.slice a n c,.int .i64 (gone:Nat)] 90);have c0:=ah _ _ hX 0 _ rfl;have c1:=ah _ _ hX 1 _ rfl;simp only [List.getElem_toArray,List.getElem_cons_succ,List.getElem_cons_zero] at c0 c1;have hw1:IntKind.i64.wrap ((n:Int) - gone)=((n - gone:Nat):Int):=by rw [IntWalk.i64_in _ (by omega)];omega
 have hw2:wrap64 ((n:Int) - gone)=((n - gone:Nat):Int):=by rw [IntWalk.wrap64_in _ (by omega)];omega
 have HB:=af hb;clear hb hX;go_enter Tryz.func54,Tryz.ntmps54;go_wp2;go_ret;exact ⟨rfl,HB.out⟩
theorem Rj {w:World}{b off n cap:Nat}{vs:List Value}(h:Has w (.slice (some ⟨b,off,none⟩) n cap) vs){p r:Nat}(hr:1<=r)(hp:p+r<=vs.length):Has w (.slice (some ⟨b,off+p,none⟩) r (cap - p)) ((vs.drop p).take r):=by
 obtain ⟨b',off',e,hn,hc,hb,ho,hcl⟩:=h.at (by omega);cases e
 have hl:((vs.drop p).take r).length=r:=by rw [List.length_take,List.length_drop];omega
 refine .inr ⟨by omega,b,off+p,cap - p,by rw [hl],by omega,hb,ho,fun k hk=>?_⟩;rw [hl] at hk;have:=hcl (p+k) (by omega);rw [Nat.add_assoc,this];rw [List.getElem?_take_of_lt hk,List.getElem?_drop]
def RowsIn (w:World)(vs:List Value)(xss:List (List Int)):Prop:=vs.length=xss.length/\∀ k,k < xss.length->Has w (vs[k]?.getD undef) (bB (xss[k]?.getD []))
theorem RowsIn.snoc {w:World}{vs:List Value}{xss:List (List Int)}{u:Value}{l:List Int}(h:RowsIn w vs xss)(hu:Has w u (bB l)):RowsIn w (vs ++ [u]) (xss ++ [l]):=by
 refine ⟨by simp [h.1],fun k hk=>?_⟩
 by_cases e:k < xss.length
 ·
  rw [List.getElem?_append_left (by have:=h.1;omega),List.getElem?_append_left e];exact h.2 k e
 ·
  obtain rfl:k=xss.length:=by simp at hk;omega
  have e1:(vs ++ [u])[xss.length]?=some u:=by rw [<- h.1];exact List.getElem?_concat_length
  rw [e1,List.getElem?_concat_length];exact hu
theorem G9 {w:World}{o:Col}{c:Nat}{v u:Value}{is row:List Int}(h:Ints w o c v is)(hp:∀ x∈is,1<=x/\x<=64)(hn:is.length<=64)(hr:Has w u (bB row))(hs:fH is=row.length) :
  Calls Tryz.prog 76 #[v,u] w (fun e w'=>∃ x,e=.returned x/\LL w' x (jr is row)/\Below w.heap.size w w'):=by
 obtain ⟨la,lc,rfl⟩:=Ints.slice h;obtain ⟨ra,rc,rfl⟩:=Ints.slice hr;obtain ⟨i0,hi,hz0,hz1,hz2⟩:=info_parts lK;have HI:=af hi;have HL:=af h;have HP:=af hp;have HR:=af hr;have HSM:=af (gZ hp);have HS:=af hs;clear h hp hr hs hi;obtain ⟨n,hN⟩:∃ n,is.length=n:=⟨_,rfl⟩;obtain ⟨L,GN⟩:∃ n,row.length=n:=⟨_,rfl⟩;have HN:=af hN;have uL:=af GN;rw [hN] at hn HL HSM ⊢;rw [GN] at HR HS ⊢;clear hN GN;go_enter Tryz.func76,Tryz.ntmps76;go_wp2_with fail
 go_loopw [5,6,7] (fun dv at' i wl=>∃ (j:Nat) (vs:List Value),j<=n/\i=.int .i64 j/\at'=.int .i64 (fH (is.take j):Nat)/\wl.ownsRow w.heap.size 27 1 dv j vs/\RowsIn w vs (jr (is.take j) row)/\Below w.heap.size w wl) (fun _ _ i _=>n - (intOf i).toNat)
 case atStart=>exact ⟨0,[],Nat.zero_le _,rfl,rfl,World.ownsRow_nil _ _ _ _,⟨rfl,fun k hk=>by simp [jr] at hk⟩,Below.refl _ _⟩
 case round =>
  obtain ⟨j,vs,hj,rfl,rfl,hO,BQ,hb⟩:=hrel;obtain ⟨sd,cd,rfl⟩:=aA hO;have HO:=af hO;have qE:=af BQ;have HB:=af hb;clear hO BQ hb;obtain ⟨p,hpp⟩:∃ x,fH (is.take j)=x:=⟨_,rfl⟩
  by_cases hlt:j < n
  ·
   have bX:(j:Int) < n:=by omega
   have hjl:j < is.length:=by rw [HN.out];exact hlt
   obtain ⟨gi,oi,r,rfl,hcap,c0,r1,r2,hsu⟩:=EJ HL.out HP.out hjl;have fu:(n:Int)<=lc:=by omega
   have y:=cell_later HB.out c0;have mD:=af c0;have hle:=ru (l:=is) (j+1);rw [hpp] at hsu ⊢;rw [hsu,HS.out] at hle;have HSU:=af hsu;have hL5:L<=5000:=by have h1:=HSM.out;have h2:=HS.out;omega
   obtain ⟨gr,orr,rfl,-,hrc,-,-,-⟩:=cu.at HR.out (by rw [aX,uL.out];omega);have hpart:=Rj HR.out (p:=p) (r:=r) r1 (by rw [aX,uL.out];exact hle);have hde:jr (is.take (j+1)) row=jr (is.take j) row ++ [(row.drop p).take r]:=by
    rw [zx is row j hjl,hpp];have:is[j].toNat=r:=by have:=uo hjl;rw [hsu,hpp] at this;omega
    rw [this]
   have hsn:=qE.out.snoc (u:=.slice (some ⟨gr,orr+p,none⟩) r (rc - p)) (l:=(row.drop p).take r) (by rw [bB,List.map_take,List.map_drop];exact hpart);rw [<- hde] at hsn;have HSN:=af hsn;have acu:(p:Int)+r<=rc:=by omega
   have htn:((p:Int)+r).toNat=p+r:=by omega
   have hp0:(0:Int)<=(p:Int)+r:=by omega
   have hpr:p<=p+r:=by omega
   have hsub:p+r - p=r:=by omega
   have hne:¬ rc=p:=by omega
   obtain ⟨hwp,acv⟩:=pq (a:=p) (b:=r) (by omega);have HW:=af hwp;clear hle hpp hpart hde hsn c0 hcap hsu hrc;go_wp2_with (at_builtin;refine aU ?_);refine dR ?_;refine aS rfl _ _ 43 rfl w.heap.size 27 i0 _ 1 24 Tryz.underlying43 HI.out hz0 hz1 hz2 rfl (.slice sd j cd) j _ rfl (HO.out.alloc (.cells #[.slice (some ⟨gr,orr+p,none⟩) r (rc - p)] 27)) (some ⟨wr.heap.size,0,none⟩) 1 1 [.slice (some ⟨gr,orr+p,none⟩) r (rc - p)] rfl rfl (fun h=>by cases h) (bC wr [.slice (some ⟨gr,orr+p,none⟩) r (rc - p)] 27) (by simp [Value.oneCell']) (by unfold maxLen;omega) (bA (by omega)) (by have:=HB.out.size;simp;omega) ?_;intro v5 w5 k1 k20 _ _;have hb5:=HB.out.trans (gJ HO.out k20 HB.out.size);have y5:=cell_later hb5 mD.out;have AY:=af hb5;have K1:=af k1;have hwp:=HW.out;clear k1 k20 y hb5;go_wp2;go_roundw
   case rel=>exact ⟨j+1,_,hlt,by go_num,by rw [HSU.out];simp,K1.out,HSN.out,AY.out⟩
   case measure=>simp [intOf];omega
  ·
   obtain rfl:j=n:=by omega
   go_wp2;go_ret;have hfull:is.take j=is:=List.take_of_length_le (by rw [HN.out];omega);have WN:=qE.out;rw [hfull] at WN;refine ⟨_,rfl,⟨vs,WN.1,(Own.made (fun _=>0) 0 HO.out).vals.has,fun k hk=>(WN.2 k hk).below HB.out⟩,HB.out⟩
theorem yt {w:World}{o:Col}{c:Nat}{v bF:Value}{t n:Int}{ps keep:List Int}{xss:List (List Int)}(hK:Kp t ps keep)(h:ED w o c v t ps keep n)(hins:LL w bF xss)(hf:∀ l∈xss,∀ x∈l,Fits x)(hn1:Fits (n+1)) :
  Calls Tryz.prog 75 #[v,bF] w fun e w'=>∃ v' ov,e=.returned (.tuple #[v',ov,.int .i64 (iD t ps keep n xss).err])/\ED w' (ext o w.heap.size c) c v' t ps (iD t ps keep n xss).keep (iD t ps keep n xss).n/\vU w' (ext o w.heap.size c) c ov (iD t ps keep n xss).outs/\Below w.heap.size w w':=by
 have hc:=NA hK h hins hf hn1;unfold iD
 by_cases hfit:xss.map (fun l=>(l.length:Int))=bJ t ps
 ·
  rw [decide_eq_true hfit] at hc;rw [if_pos hfit]
  rcases hr:fT t ps keep xss with _ | ⟨outs,keep'⟩
  ·
   rw [hr] at hc;refine hc.mono ?_;rintro e w' ⟨rfl,hb⟩;exact ⟨v,_,rfl,h.turn (Turn.of_below o c hb) (fun h=>h),vU.nil _ _ _,hb⟩
  ·
   rw [hr] at hc;refine hc.mono ?_;rintro e w' ⟨v',ov,rfl,h1,h2,h3⟩;exact ⟨v',ov,rfl,h1,h2,h3⟩
 ·
  rw [decide_eq_false hfit] at hc;rw [if_neg hfit];refine hc.mono ?_;rintro e w' ⟨rfl,hb⟩;exact ⟨v,_,rfl,h.turn (Turn.of_below o c hb) (fun h=>h),vU.nil _ _ _,hb⟩
theorem NE {t:Int}{ps keep keep':List Int}{xss outs:List (List Int)}(hk:t=8\/t=10->keep.length=1)(hr:fT t ps keep xss=some (outs,keep')):keep'.length=keep.length:=by
 unfold fT at hr
 split at hr
 ·
  obtain ⟨y,hy,e⟩:=Option.map_eq_some_iff.1 hr;cases e
  rw [List.length_take,List.length_cons];omega
 repeat' split at hr
 all_goals first
  | (cases hr;rfl)
  | (obtain ⟨y,hy,e⟩:=Option.map_eq_some_iff.1 hr;cases e;rfl)
  | (cases hr;rw [hk (by omega)];rfl)
  | (cases hr)
theorem NG {t:Int}{ps keep:List Int}{n:Int}{xss:List (List Int)}(hk:t=8\/t=10->keep.length=1):(iD t ps keep n xss).keep.length=keep.length:=by
 unfold iD
 split
 ·
  split
  ·
   rename_i e
   exact NE hk e
  ·
   rfl
 ·
  rfl
section
variable {g:av} {t s:Nat} {x:bW}
theorem sZ (ht:t < g.actors.length):dV g t x=iD (eH g t) (jh g t) x.keep x.n x.hand:=by
 unfold dV eH jh;rw [List.getElem?_eq_getElem ht]
theorem Dm (ht:t < g.actors.length):ay g t=bJ (eH g t) (jh g t):=by
 unfold ay eH jh;rw [List.getElem?_eq_getElem ht]
theorem yu (ht:t < g.actors.length):aF g t=aV (eH g t) (jh g t):=by
 unfold aF eH jh;rw [List.getElem?_eq_getElem ht]
theorem rC (h:fG g)(ht:t < g.actors.length):aC (eH g t) (jh g t)/\∀ z∈jh g t,Fits z:=by
 unfold eH jh;rw [List.getElem?_eq_getElem ht];exact ⟨h.good _ (List.getElem_mem ht),h.fits _ (List.getElem_mem ht)⟩
theorem EF.kp (h:EF g t x.keep)(ha:fG g)(ht:t < g.actors.length)(hx:xu g t s x):Kp (eH g t) (jh g t) x.keep:=⟨(rC ha ht).1,(rC ha ht).2,hx.Ej,h.1,h.2⟩
theorem EF.iD (h:EF g t x.keep)(ht:t < g.actors.length):EF g t (dV g t x).keep:=by
 have e:(dV g t x).keep.length=x.keep.length:=by rw [sZ ht];exact NG h.2
 unfold EF;rw [e];exact h
theorem Dn (ha:fG g)(ht:t < g.actors.length)(he:(dV g t x).err=0):(dV g t x).outs.flatten.length=fH (aF g t):=by
 rw [yu ht];rw [sZ ht] at he ⊢;have hg:=(rC ha ht).1;have hl:(iD (eH g t) (jh g t) x.keep x.n x.hand).outs.map (fun l=>(l.length:Int))=aV (eH g t) (jh g t):=by
  unfold iD at he ⊢
  split at he
  ·
   rename_i hfit
   rw [if_pos hfit];cases hr:fT (eH g t) (jh g t) x.keep x.hand with
   | none=>rw [hr] at he;simp at he
   | some y =>
    obtain ⟨outs,keep'⟩:=y;exact nD hg hfit hr
  ·
   simp at he
 rw [<- hl];generalize (iD (eH g t) (jh g t) x.keep x.n x.hand).outs=L;unfold fH;rw [List.map_map,List.length_flatten]
 congr 1
end
end Go.Proofs.YtepjkmnhmcjbkaaGreat
