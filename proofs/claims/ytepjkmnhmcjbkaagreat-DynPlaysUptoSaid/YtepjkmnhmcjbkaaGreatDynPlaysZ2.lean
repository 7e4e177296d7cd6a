import Derived.Test.YtepjkmnhmcjbkaaGreatDynPlaysZ1
import Derived.Shelf.Bits.Mul64
import Derived.TacticsIn
import Derived.Deep.QuietTactic
set_option linter.unusedVariables false
set_option linter.unusedSimpArgs false
set_option maxRecDepth 100000
set_option maxHeartbeats 20000000
namespace Go.Proofs.YtepjkmnhmcjbkaaGreat
open Go.RowKit
theorem Fy (w:World){o:Col}{c:Nat}(ao:Option Addr)(n cap:Nat)(l:List Int)(hl:l.length<=17600000000000)(h:Ints w o c (.slice ao n cap) l):(aC 1 l->Calls Tryz.prog 42 #[.int .u8 1,.slice ao n cap] w (jm w 1 l))/\(¬ aC 1 l->Calls Tryz.prog 42 #[.int .u8 1,.slice ao n cap] w (fP w 61)):=by
 obtain rfl:=h.len
 match l,h,hl with
 | [],h,_ =>
  exact ⟨fun hg=>absurd hg (by simp [aC,bP,aZ,hd,hd1] <;> omega),fun _=>Tf w ao cap⟩
 | [x],h,_ =>
  exact ⟨fun _=>Tg w ao cap x h,fun hg=>absurd (by simp [aC,bP,aZ,hd,hd1] <;> omega) hg⟩
 | [x,y],h,_ =>
  exact ⟨fun _=>Ti w ao cap x y h,fun hg=>absurd (by simp [aC,bP,aZ,hd,hd1] <;> omega) hg⟩
 | x :: y :: z :: r,h,hl =>
  simp only [List.length_cons] at hl h ⊢
  by_cases hr:r.length<=13
  ·
   exact ⟨fun _=>OT w ao cap _ r.length rfl hr h,fun hg=>absurd (by simp [aC,bP,aZ,hd,hd1] <;> omega) hg⟩
  ·
   exact ⟨fun hg=>absurd hg (by simp [aC,bP,aZ,hd,hd1] <;> omega),fun _=>OU w ao cap _ r.length rfl (by omega) (by omega) h⟩
theorem Fz (w:World){o:Col}{c:Nat}(ao:Option Addr)(n cap:Nat)(l:List Int)(hl:l.length<=17600000000000)(h:Ints w o c (.slice ao n cap) l):(aC 2 l->Calls Tryz.prog 42 #[.int .u8 2,.slice ao n cap] w (jm w 2 l))/\(¬ aC 2 l->Calls Tryz.prog 42 #[.int .u8 2,.slice ao n cap] w (fP w 61)):=by
 obtain rfl:=h.len
 match l,h,hl with
 | [],h,_ =>
  exact ⟨fun hg=>absurd hg (by simp [aC,bP,aZ,hd,hd1] <;> omega),fun _=>Tj w ao cap⟩
 | [x],h,_ =>
  by_cases hx:1<=x/\x<=64
  ·
   exact ⟨fun _=>OW w ao cap x hx.1 hx.2 h,fun hg=>absurd (by simp [aC,bP,aZ,hd,hd1] <;> omega) hg⟩
  ·
   exact ⟨fun hg=>absurd hg (by simp [aC,bP,aZ,hd,hd1] <;> omega),fun _=>OX w ao cap x (by omega) h⟩
 | [x,y],h,_ =>
  exact ⟨fun hg=>absurd hg (by simp [aC,bP,aZ,hd,hd1] <;> omega),fun _=>Tk w ao cap x y h⟩
 | x :: y :: z :: r,h,hl =>
  simp only [List.length_cons] at hl h ⊢;exact ⟨fun hg=>absurd hg (by simp [aC,bP,aZ,hd,hd1] <;> omega),fun _=>Tm w ao cap _ r.length rfl (by omega) h⟩
theorem FB (w:World){o:Col}{c:Nat}(ao:Option Addr)(n cap:Nat)(l:List Int)(hl:l.length<=17600000000000)(h:Ints w o c (.slice ao n cap) l):(aC 3 l->Calls Tryz.prog 42 #[.int .u8 3,.slice ao n cap] w (jm w 3 l))/\(¬ aC 3 l->Calls Tryz.prog 42 #[.int .u8 3,.slice ao n cap] w (fP w 61)):=by
 obtain rfl:=h.len
 match l,h,hl with
 | [],h,_ =>
  exact ⟨fun hg=>absurd hg (by simp [aC,bP,aZ,hd,hd1] <;> omega),fun _=>Tp w ao cap⟩
 | [x],h,_ =>
  by_cases hx:1<=x/\x<=64
  ·
   exact ⟨fun _=>OY w ao cap x hx.1 hx.2 h,fun hg=>absurd (by simp [aC,bP,aZ,hd,hd1] <;> omega) hg⟩
  ·
   exact ⟨fun hg=>absurd hg (by simp [aC,bP,aZ,hd,hd1] <;> omega),fun _=>OZ w ao cap x (by omega) h⟩
 | [x,y],h,_ =>
  exact ⟨fun hg=>absurd hg (by simp [aC,bP,aZ,hd,hd1] <;> omega),fun _=>Tv w ao cap x y h⟩
 | x :: y :: z :: r,h,hl =>
  simp only [List.length_cons] at hl h ⊢;exact ⟨fun hg=>absurd hg (by simp [aC,bP,aZ,hd,hd1] <;> omega),fun _=>Tw w ao cap _ r.length rfl (by omega) h⟩
theorem FC (w:World){o:Col}{c:Nat}(ao:Option Addr)(n cap:Nat)(l:List Int)(hl:l.length<=17600000000000)(h:Ints w o c (.slice ao n cap) l):(aC 4 l->Calls Tryz.prog 42 #[.int .u8 4,.slice ao n cap] w (jm w 4 l))/\(¬ aC 4 l->Calls Tryz.prog 42 #[.int .u8 4,.slice ao n cap] w (fP w 61)):=by
 obtain rfl:=h.len
 match l,h,hl with
 | [],h,_ =>
  exact ⟨fun hg=>absurd hg (by simp [aC,bP,aZ,hd,hd1] <;> omega),fun _=>Tx w ao cap⟩
 | [x],h,_ =>
  exact ⟨fun hg=>absurd hg (by simp [aC,bP,aZ,hd,hd1] <;> omega),fun _=>TB w ao cap x h⟩
 | [x,y],h,_ =>
  rcases gK x y with hc | hc | hc | hc
  ·
   exact ⟨fun hg=>absurd hg (by simp [aC,bP,aZ,hd,hd1] <;> omega),fun _=>Al w ao cap x y (.inl hc) h⟩
  ·
   exact ⟨fun hg=>absurd hg (by simp [aC,bP,aZ,hd,hd1] <;> omega),fun _=>Al w ao cap x y (.inr (.inl hc)) h⟩
  ·
   obtain ⟨u,rfl⟩:∃ u:Nat,x=u:=⟨x.toNat,by omega⟩;obtain ⟨m,rfl⟩:∃ m:Nat,y=m:=⟨y.toNat,by omega⟩;have hum:u*m<=64:=by have:=hc.2.2.2;exact_mod_cast this
   exact ⟨fun _=>O0 w ao cap u m (by omega) (by omega) (by omega) (by omega) hum h,fun hg=>absurd (by simp [aC,bP,aZ,hd,hd1] <;> omega) hg⟩
  ·
   exact ⟨fun hg=>absurd hg (by simp [aC,bP,aZ,hd,hd1] <;> omega),fun _=>Al w ao cap x y (.inr (.inr hc)) h⟩
 | x :: y :: z :: r,h,hl =>
  simp only [List.length_cons] at hl h ⊢;exact ⟨fun hg=>absurd hg (by simp [aC,bP,aZ,hd,hd1] <;> omega),fun _=>TI w ao cap _ r.length rfl (by omega) h⟩
theorem FD (w:World){o:Col}{c:Nat}(ao:Option Addr)(n cap:Nat)(l:List Int)(hl:l.length<=17600000000000)(h:Ints w o c (.slice ao n cap) l):(aC 5 l->Calls Tryz.prog 42 #[.int .u8 5,.slice ao n cap] w (jm w 5 l))/\(¬ aC 5 l->Calls Tryz.prog 42 #[.int .u8 5,.slice ao n cap] w (fP w 61)):=by
 obtain rfl:=h.len
 match l,h,hl with
 | [],h,_ =>
  exact ⟨fun hg=>absurd hg (by simp [aC,bP,aZ,hd,hd1] <;> omega),fun _=>TJ w ao cap⟩
 | [x],h,_ =>
  exact ⟨fun hg=>absurd hg (by simp [aC,bP,aZ,hd,hd1] <;> omega),fun _=>TL w ao cap x h⟩
 | [x,y],h,_ =>
  rcases gK x y with hc | hc | hc | hc
  ·
   exact ⟨fun hg=>absurd hg (by simp [aC,bP,aZ,hd,hd1] <;> omega),fun _=>Am w ao cap x y (.inl hc) h⟩
  ·
   exact ⟨fun hg=>absurd hg (by simp [aC,bP,aZ,hd,hd1] <;> omega),fun _=>Am w ao cap x y (.inr (.inl hc)) h⟩
  ·
   obtain ⟨u,rfl⟩:∃ u:Nat,x=u:=⟨x.toNat,by omega⟩;obtain ⟨m,rfl⟩:∃ m:Nat,y=m:=⟨y.toNat,by omega⟩;have hum:u*m<=64:=by have:=hc.2.2.2;exact_mod_cast this
   exact ⟨fun _=>O4 w ao cap u m (by omega) (by omega) (by omega) (by omega) hum h,fun hg=>absurd (by simp [aC,bP,aZ,hd,hd1] <;> omega) hg⟩
  ·
   exact ⟨fun hg=>absurd hg (by simp [aC,bP,aZ,hd,hd1] <;> omega),fun _=>Am w ao cap x y (.inr (.inr hc)) h⟩
 | x :: y :: z :: r,h,hl =>
  simp only [List.length_cons] at hl h ⊢;exact ⟨fun hg=>absurd hg (by simp [aC,bP,aZ,hd,hd1] <;> omega),fun _=>TR w ao cap _ r.length rfl (by omega) h⟩
theorem FE (w:World){o:Col}{c:Nat}(ao:Option Addr)(n cap:Nat)(l:List Int)(hl:l.length<=17600000000000)(h:Ints w o c (.slice ao n cap) l):(aC 6 l->Calls Tryz.prog 42 #[.int .u8 6,.slice ao n cap] w (jm w 6 l))/\(¬ aC 6 l->Calls Tryz.prog 42 #[.int .u8 6,.slice ao n cap] w (fP w 61)):=by
 obtain rfl:=h.len
 match l,h,hl with
 | [],h,_ =>
  exact ⟨fun hg=>absurd hg (by simp [aC,bP,aZ,hd,hd1] <;> omega),fun _=>TU w ao cap⟩
 | [x],h,_ =>
  by_cases hx:1<=x/\x<=16
  ·
   obtain ⟨u,rfl⟩:∃ u:Nat,x=u:=⟨x.toNat,by omega⟩;exact ⟨fun _=>O5 w ao cap u (by omega) (by omega) h,fun hg=>absurd (by simp [aC,bP,aZ,hd,hd1] <;> omega) hg⟩
  ·
   exact ⟨fun hg=>absurd hg (by simp [aC,bP,aZ,hd,hd1] <;> omega),fun _=>O6 w ao cap x (by omega) h⟩
 | [x,y],h,_ =>
  exact ⟨fun hg=>absurd hg (by simp [aC,bP,aZ,hd,hd1] <;> omega),fun _=>TV w ao cap x y h⟩
 | x :: y :: z :: r,h,hl =>
  simp only [List.length_cons] at hl h ⊢;exact ⟨fun hg=>absurd hg (by simp [aC,bP,aZ,hd,hd1] <;> omega),fun _=>TW w ao cap _ r.length rfl (by omega) h⟩
theorem FH (w:World){o:Col}{c:Nat}(ao:Option Addr)(n cap:Nat)(l:List Int)(hl:l.length<=17600000000000)(h:Ints w o c (.slice ao n cap) l):(aC 7 l->Calls Tryz.prog 42 #[.int .u8 7,.slice ao n cap] w (jm w 7 l))/\(¬ aC 7 l->Calls Tryz.prog 42 #[.int .u8 7,.slice ao n cap] w (fP w 61)):=by
 obtain rfl:=h.len
 match l,h,hl with
 | [],h,_ =>
  exact ⟨fun _=>Ua w ao cap,fun hg=>absurd (by simp [aC,bP,aZ,hd,hd1] <;> omega) hg⟩
 | [x],h,_ =>
  exact ⟨fun hg=>absurd hg (by simp [aC,bP,aZ,hd,hd1] <;> omega),fun _=>Ub w ao cap x h⟩
 | [x,y],h,_ =>
  exact ⟨fun hg=>absurd hg (by simp [aC,bP,aZ,hd,hd1] <;> omega),fun _=>Uc w ao cap x y h⟩
 | x :: y :: z :: r,h,hl =>
  simp only [List.length_cons] at hl h ⊢;exact ⟨fun hg=>absurd hg (by simp [aC,bP,aZ,hd,hd1] <;> omega),fun _=>Ud w ao cap _ r.length rfl (by omega) h⟩
theorem FI (w:World){o:Col}{c:Nat}(ao:Option Addr)(n cap:Nat)(l:List Int)(hl:l.length<=17600000000000)(h:Ints w o c (.slice ao n cap) l):(aC 8 l->Calls Tryz.prog 42 #[.int .u8 8,.slice ao n cap] w (jm w 8 l))/\(¬ aC 8 l->Calls Tryz.prog 42 #[.int .u8 8,.slice ao n cap] w (fP w 61)):=by
 obtain rfl:=h.len
 match l,h,hl with
 | [],h,_ =>
  exact ⟨fun _=>Ue w ao cap,fun hg=>absurd (by simp [aC,bP,aZ,hd,hd1] <;> omega) hg⟩
 | [x],h,_ =>
  exact ⟨fun hg=>absurd hg (by simp [aC,bP,aZ,hd,hd1] <;> omega),fun _=>Uf w ao cap x h⟩
 | [x,y],h,_ =>
  exact ⟨fun hg=>absurd hg (by simp [aC,bP,aZ,hd,hd1] <;> omega),fun _=>Ug w ao cap x y h⟩
 | x :: y :: z :: r,h,hl =>
  simp only [List.length_cons] at hl h ⊢;exact ⟨fun hg=>absurd hg (by simp [aC,bP,aZ,hd,hd1] <;> omega),fun _=>Uh w ao cap _ r.length rfl (by omega) h⟩
theorem FJ (w:World){o:Col}{c:Nat}(ao:Option Addr)(n cap:Nat)(l:List Int)(hl:l.length<=17600000000000)(h:Ints w o c (.slice ao n cap) l):(aC 9 l->Calls Tryz.prog 42 #[.int .u8 9,.slice ao n cap] w (jm w 9 l))/\(¬ aC 9 l->Calls Tryz.prog 42 #[.int .u8 9,.slice ao n cap] w (fP w 61)):=by
 obtain rfl:=h.len
 match l,h,hl with
 | [],h,_ =>
  exact ⟨fun hg=>absurd hg (by simp [aC,bP,aZ,hd,hd1] <;> omega),fun _=>Ui w ao cap⟩
 | [x],h,_ =>
  by_cases hx:1<=x/\x<=16
  ·
   obtain ⟨u,rfl⟩:∃ u:Nat,x=u:=⟨x.toNat,by omega⟩;exact ⟨fun _=>O8 w ao cap u (by omega) (by omega) h,fun hg=>absurd (by simp [aC,bP,aZ,hd,hd1] <;> omega) hg⟩
  ·
   exact ⟨fun hg=>absurd hg (by simp [aC,bP,aZ,hd,hd1] <;> omega),fun _=>O9 w ao cap x (by omega) h⟩
 | [x,y],h,_ =>
  exact ⟨fun hg=>absurd hg (by simp [aC,bP,aZ,hd,hd1] <;> omega),fun _=>Uj w ao cap x y h⟩
 | x :: y :: z :: r,h,hl =>
  simp only [List.length_cons] at hl h ⊢;exact ⟨fun hg=>absurd hg (by simp [aC,bP,aZ,hd,hd1] <;> omega),fun _=>Uk w ao cap _ r.length rfl (by omega) h⟩
theorem Ce (w:World){o:Col}{c:Nat}(ao:Option Addr)(n cap:Nat)(l:List Int)(hl:l.length<=17600000000000)(h:Ints w o c (.slice ao n cap) l):(aC 10 l->Calls Tryz.prog 42 #[.int .u8 10,.slice ao n cap] w (jm w 10 l))/\(¬ aC 10 l->Calls Tryz.prog 42 #[.int .u8 10,.slice ao n cap] w (fP w 61)):=by
 obtain rfl:=h.len
 match l,h,hl with
 | [],h,_ =>
  exact ⟨fun hg=>absurd hg (by simp [aC,bP,aZ,hd,hd1] <;> omega),fun _=>Pb w ao cap⟩
 | [x],h,_ =>
  exact ⟨fun hg=>absurd hg (by simp [aC,bP,aZ,hd,hd1] <;> omega),fun _=>Pd w ao cap x h⟩
 | [x,y],h,_ =>
  exact ⟨fun _=>Pe w ao cap x y h,fun hg=>absurd (by simp [aC,bP,aZ,hd,hd1] <;> omega) hg⟩
 | x :: y :: z :: r,h,hl =>
  simp only [List.length_cons] at hl h ⊢;exact ⟨fun hg=>absurd hg (by simp [aC,bP,aZ,hd,hd1] <;> omega),fun _=>Pf w ao cap _ r.length rfl (by omega) h⟩
theorem Cg (w:World){o:Col}{c:Nat}(ao:Option Addr)(n cap:Nat)(l:List Int)(hl:l.length<=17600000000000)(h:Ints w o c (.slice ao n cap) l):(aC 11 l->Calls Tryz.prog 42 #[.int .u8 11,.slice ao n cap] w (jm w 11 l))/\(¬ aC 11 l->Calls Tryz.prog 42 #[.int .u8 11,.slice ao n cap] w (fP w 61)):=by
 obtain rfl:=h.len
 match l,h,hl with
 | [],h,_ =>
  exact ⟨fun hg=>absurd hg (by simp [aC,bP,aZ,hd,hd1] <;> omega),fun _=>Pg w ao cap⟩
 | [x],h,_ =>
  by_cases hx:1<=x/\x<=64
  ·
   exact ⟨fun _=>Ma w ao cap x hx.1 hx.2 h,fun hg=>absurd (by simp [aC,bP,aZ,hd,hd1] <;> omega) hg⟩
  ·
   exact ⟨fun hg=>absurd hg (by simp [aC,bP,aZ,hd,hd1] <;> omega),fun _=>Mc w ao cap x (by omega) h⟩
 | [x,y],h,_ =>
  exact ⟨fun hg=>absurd hg (by simp [aC,bP,aZ,hd,hd1] <;> omega),fun _=>Ph w ao cap x y h⟩
 | x :: y :: z :: r,h,hl =>
  simp only [List.length_cons] at hl h ⊢;exact ⟨fun hg=>absurd hg (by simp [aC,bP,aZ,hd,hd1] <;> omega),fun _=>Pj w ao cap _ r.length rfl (by omega) h⟩
theorem Wq {o:Col}{c:Nat}(w:World)(t:Int)(ao:Option Addr)(n cap:Nat)(ps:List Int)(hg:aC t ps)(hl:ps.length<=17600000000000)(h:Ints w o c (.slice ao n cap) ps):Calls Tryz.prog 42 #[.int .u8 t,.slice ao n cap] w (jm w t ps):=by
 rcases l7 hg with rfl | rfl | rfl | rfl | rfl | rfl | rfl | rfl | rfl | rfl | rfl
 ·
  exact (Fy w ao n cap ps hl h).1 hg
 ·
  exact (Fz w ao n cap ps hl h).1 hg
 ·
  exact (FB w ao n cap ps hl h).1 hg
 ·
  exact (FC w ao n cap ps hl h).1 hg
 ·
  exact (FD w ao n cap ps hl h).1 hg
 ·
  exact (FE w ao n cap ps hl h).1 hg
 ·
  exact (FH w ao n cap ps hl h).1 hg
 ·
  exact (FI w ao n cap ps hl h).1 hg
 ·
  exact (FJ w ao n cap ps hl h).1 hg
 ·
  exact (Ce w ao n cap ps hl h).1 hg
 ·
  exact (Cg w ao n cap ps hl h).1 hg
theorem Xw {o:Col}{c:Nat}(w:World)(t:Int)(ao:Option Addr)(n cap:Nat)(ps:List Int)(ht:jy t)(hg:¬ aC t ps)(hl:ps.length<=17600000000000)(h:Ints w o c (.slice ao n cap) ps):Calls Tryz.prog 42 #[.int .u8 t,.slice ao n cap] w (fP w 61):=by
 rcases ht with rfl | rfl | rfl | rfl | rfl | rfl | rfl | rfl | rfl | rfl | rfl
 ·
  exact (Fy w ao n cap ps hl h).2 hg
 ·
  exact (Fz w ao n cap ps hl h).2 hg
 ·
  exact (FB w ao n cap ps hl h).2 hg
 ·
  exact (FC w ao n cap ps hl h).2 hg
 ·
  exact (FD w ao n cap ps hl h).2 hg
 ·
  exact (FE w ao n cap ps hl h).2 hg
 ·
  exact (FH w ao n cap ps hl h).2 hg
 ·
  exact (FI w ao n cap ps hl h).2 hg
 ·
  exact (FJ w ao n cap ps hl h).2 hg
 ·
  exact (Ce w ao n cap ps hl h).2 hg
 ·
  exact (Cg w ao n cap ps hl h).2 hg
theorem ZL {o:Col}{c:Nat}(w:World)(t:Int)(ao:Option Addr)(n cap:Nat)(ps:List Int)(hg:¬ aC t ps)(hl:ps.length<=17600000000000)(h:Ints w o c (.slice ao n cap) ps):Calls Tryz.prog 42 #[.int .u8 t,.slice ao n cap] w (fP w (uG t)):=by
 unfold uG
 by_cases ht:1<=t/\t<=11
 ·
  rw [if_pos ht];exact Xw w t ao n cap ps (by unfold jy;omega) hg hl h
 ·
  rw [if_neg ht];exact Xv w t _ (by omega)
end Go.Proofs.YtepjkmnhmcjbkaaGreat
namespace Go.Proofs.YtepjkmnhmcjbkaaGreat
section
variable {P:Program} {md:Region.Mode} {ops:Array Oper} {Q:Exit->Act->World->Prop} {S:World->Prop}
def gF (l:Array Bool)(r:List Nat):Array Bool:=r.foldl (fun l i=>l.setIfInBounds i true) l
def oG (ops:Array Oper)(reads M:List Nat)(j:Nat):Bool:=jd ops j || reads.contains j || M.contains j
def KM (md:Region.Mode)(ops:Array Oper)(reads M:List Nat):Bool :=
 Region.noSelect ops && (reads.all fun i=>nH ops i || (List.range ops.size).all fun j=>jd ops j || reads.contains j || M.contains j || gN md ops ops.size j i) &&
 fJ md ops (fun _=>true) reads (Array.replicate ops.size false)
theorem gP {reads M:List Nat}{n:Nat}(hsel:Region.noSelect ops=true)(hQ:∀ c a a' w,Q (.panic c) a w->Q (.panic c) a' w)
  (hbe:∀ i∈reads,nH ops i=false->∀ j,j < ops.size->jd ops j=true\/reads.contains j=true\/M.contains j=true\/gN md ops ops.size j i=true) :
  ∀ (r:List Nat) (listed:Array Bool) (a:Act) (w:World),(∀ i∈r,i∈reads)->gH md ops listed->fJ md ops (fun _=>true) r listed=true->S w ->
   dX P ops S (fun a'=>eZ P md ops Q S (oG ops reads M) n (gF listed r) a' w) (aQ ops r) a ->
   eZ P md ops Q S (oG ops reads M) (r.length+n) listed a w
 | [],listed,a,w,_,_,_,_,h=>by
  rw [show ([]:List Nat).length+n=n by simp];exact h
 | i :: r,listed,a,w,hr,hcl,hB,hS,h=>by
  simp only [fJ,Bool.and_eq_true] at hB;obtain ⟨⟨qI,hfree⟩,hB'⟩:=hB;have l6:i∈Region.ready md ops listed:=by simpa using qI
  have hlt:=eF l6;have hi:ops[i]?=some ops[i]:=Array.getElem?_eq_getElem hlt;have hp:aQ ops (i :: r)=ops[i] :: aQ ops r:=je hi r;rw [hp] at h;obtain ⟨v,hy,hK⟩:=h;rw [show (i :: r).length+n=(r.length+n)+1 by simp;omega];refine qH (S':=fun w=>DL ops[i]=true\/S w) hi (Region.noSelect_spec hsel) (fun c a w h=>hQ c _ _ w h) (fun j listed w w' hc hj zF hb hS=>?_) (fun w _ _ h=>h) _ listed a w hcl (Region.free_spec hi hfree) l6 hy (.inr hS) ?_
  ·
   rcases hS with hS | hS
   ·
    exact .inl hS
   ·
    cases hany:DL ops[i] with
    | true=>exact .inl rfl
    | false =>
     right
     rcases hbe i (hr i (by simp)) (by unfold nH;rw [hi];exact hany) j (eF hj) with h1 | h1 | h1 | h1
     ·
      exact hb (by simp [oG,h1]) hS
     ·
      exact hb (by unfold oG;rw [h1];simp) hS
     ·
      exact hb (by unfold oG;rw [h1];simp) hS
     ·
      have:=mV hc h1 hj;rw [zF] at this;cases this
  ·
   exact gP hsel hQ hbe r _ _ w (fun x hx=>hr x (by simp [hx])) (fK hcl l6) hB' hS hK
theorem cZ {id:Nat}{l:List Oper}{a:Act}{w:World}(S:World->Prop)(reads M:List Nat)(n:Nat)(hm:P.follows .mixedOrders=true)
  (hB:KM .any l.toArray reads M=true) (hlen:reads.length+n=l.length) (hS:S w.drew)
  (h:∀ Q':Exit->Act->World->Prop,(∀ a w,Q .normal a w->Q' .normal a w)->dX P l.toArray S (fun a'=>eZ P .any l.toArray Q' S (oG l.toArray reads M) n (gF (Array.replicate l.length false) reads) a' w.drew) (aQ l.toArray reads) a):(Code.region id l.toArray true).wp P Q a w:=by
 refine wp_region_noPanic ?_;refine wp_region_any hm ?_;simp only [KM,Bool.and_eq_true,List.all_eq_true,List.mem_range,Bool.or_eq_true] at hB;obtain ⟨⟨hsel,hbe⟩,hl⟩:=hB;refine kG (S:=S) (B:=oG l.toArray reads M) _ _ _ _ ?_;have key:=gP (P:=P) (md:=.any) (Q:=NoPanic Q) (S:=S) (reads:=reads) (M:=M) (n:=n) hsel (fun c a a' w h=>h) (fun i hi hany j hj=>by
  rcases hbe i hi with h0 | h0
  ·
   rw [hany] at h0;cases h0
  rcases h0 j hj with ((h1 | h1) | h1) | h1
  ·
   exact .inl h1
  ·
   exact .inr (.inl h1)
  ·
   exact .inr (.inr (.inl h1))
  ·
   exact .inr (.inr (.inr h1))) reads (Array.replicate l.toArray.size false) a { w with drawn:=w.drawn+1 } (fun _ h=>h)
  (fun j oj _ hl=>by rw [getD_replicate_false] at hl;cases hl) hl hS (by simpa using h (NoPanic Q) (fun _ _ h=>NoPanic.normal h))
 rw [hlen] at key
 simpa using key
theorem jQ {i:Nat}{K:Act->World->Prop}{a:Act}{w:World}(hi:i < ops.size)(h:wpList P ops (mW Q K) (aQ ops [i]) a w):wpOp P ops Q i K a w:=by
 have ho:ops[i]?=some ops[i]:=Array.getElem?_eq_getElem hi;rw [je ho []] at h;have hw:wpOp P ops (mW Q K) i (wpList P ops (mW Q K) (aQ ops [])) a w:=by unfold wpOp;simp only [ho];exact h
 exact xE (fun a' w' h'=>h') hw
theorem aB {B:Nat->Bool}{n i:Nat}{listed:Array Bool}{a:Act}{w:World}(hr:Region.ready md ops listed=[i])(h:wpList P ops (mW Q fun a' w'=>(B i=true->S w->S w')/\eZ P md ops Q S B n (listed.setIfInBounds i true) a' w') (aQ ops [i]) a w):eZ P md ops Q S B (n+1) listed a w:=by
 have hi:i∈Region.ready md ops listed:=by rw [hr];simp
 refine ⟨fun h0=>(by rw [h0] at hr;cases hr),fun j hj=>?_⟩;rw [hr] at hj;obtain rfl:j=i:=by simpa using hj
 exact jQ (eF hi) h
theorem fZ {B:Nat->Bool}{n i k:Nat}{listed:Array Bool}{a:Act}{w:World}(hr:Region.ready md ops listed=[i,k])(h:wpList P ops (mW Q fun a' w'=>(B i=true->S w->S w')/\eZ P md ops Q S B n (listed.setIfInBounds i true) a' w') (aQ ops [i]) a w)
  (h':wpList P ops (mW Q fun a' w'=>(B k=true->S w->S w')/\eZ P md ops Q S B n (listed.setIfInBounds k true) a' w') (aQ ops [k]) a w):eZ P md ops Q S B (n+1) listed a w:=by
 have hi:i∈Region.ready md ops listed:=by rw [hr];simp
 have hk:k∈Region.ready md ops listed:=by rw [hr];simp
 refine ⟨fun h0=>(by rw [h0] at hr;cases hr),fun j hj=>?_⟩;rw [hr] at hj
 rcases List.mem_cons.1 hj with rfl | hj
 ·
  exact jQ (eF hi) h
 ·
  obtain rfl:j=k:=by simpa using hj
  exact jQ (eF hk) h'
theorem aJ {reads M:List Nat}{ks:List Nat}{listed:Array Bool}{a:Act}{w:World}(Ca:∀ w w',Ext w w'->S w->S w')(hB:(kK md ops (fun l=>(Region.ready md ops l).isEmpty) ks listed && ks.all fun k=>!(reads.contains k || M.contains k))=true)(h:wpList P ops Q (aQ ops ks) a w):eZ P md ops Q S (oG ops reads M) ks.length listed a w:=by
 simp only [Bool.and_eq_true,List.all_eq_true,Bool.not_eq_true'] at hB;have go:∀ (ks:List Nat) (listed:Array Bool) (a:Act) (w:World),kK md ops (fun l=>(Region.ready md ops l).isEmpty) ks listed=true->(∀ k∈ks,(reads.contains k || M.contains k)=false)->wpList P ops Q (aQ ops ks) a w->eZ P md ops Q S (oG ops reads M) ks.length listed a w:=by
  intro ks
  induction ks with
  | nil=>exact fun listed a w h1 _ h=>⟨by simpa [kK] using h1,h⟩
  | cons k r ih =>
   intro listed a w h1 h2 h;simp only [kK,Bool.and_eq_true,decide_eq_true_eq] at h1;have qI:k∈Region.ready md ops listed:=by rw [h1.1];simp
   have hlt:=eF qI;have ho:ops[k]?=some ops[k]:=Array.getElem?_eq_getElem hlt;rw [je ho r] at h;refine ⟨fun h0=>(by rw [h0] at h1;cases h1.1),fun j hj=>?_⟩;rw [h1.1] at hj;obtain rfl:j=k:=by simpa using hj
   have hw:wpOp P ops Q j (wpList P ops Q (aQ ops r)) a w:=by unfold wpOp;simp only [ho];exact h
   by_cases hm:jd ops j=true
   ·
    obtain ⟨o,ho',hmo⟩:=Ab hm;exact wpOp_mono (fun a' w' h'=>⟨fun _ hS=>Ca _ _ h'.1 hS,ih _ a' w' h1.2 (fun x hx=>h2 x (by simp [hx])) h'.2⟩) (uU ho' hmo hw)
   ·
    have hf:oG ops reads M j=false:=by
     have h3:=h2 j (by simp);rw [Bool.or_eq_false_iff] at h3;unfold oG;rw [h3.1,h3.2]
     simpa using hm
    exact wpOp_mono (fun a' w' h'=>⟨fun hb=>(by rw [hf] at hb;cases hb),ih _ a' w' h1.2 (fun x hx=>h2 x (by simp [hx])) h'⟩) hw
 exact go ks listed a w hB.1 (fun k hk=>hB.2 k hk) h
end
open Go.RowKit
def Fits (n:Int):Prop:=-9223372036854775808<=n/\n<=9223372036854775807
instance (n:Int):Decidable (Fits n):=by unfold Fits;infer_instance
theorem zP (w:World)(a b:Int)(_ha:Fits a)(hb:Fits b)(h:Fits (a+b)):Calls Tryz.prog 137 #[.int .i64 a,.int .i64 b] w fun e w'=>e=.returned (.tuple #[.int .i64 (a+b),.bool true])/\w=w':=by
 unfold Fits at hb h
 by_cases h0:0 < b
 ·
  have h1:¬ b < 0:=by omega
  go_enter Tryz.func137,Tryz.ntmps137;go_wp2;go_ret2;exact ⟨rfl,rfl⟩
 ·
  by_cases h1:b < 0
  ·
   go_enter Tryz.func137,Tryz.ntmps137;go_wp2;go_ret2;exact ⟨rfl,rfl⟩
  ·
   go_enter Tryz.func137,Tryz.ntmps137;go_wp2;go_ret2;exact ⟨rfl,rfl⟩
theorem D5 (w:World)(a b:Int)(ha:Fits a)(hb:Fits b)(h:¬ Fits (a+b)):Calls Tryz.prog 137 #[.int .i64 a,.int .i64 b] w fun e w'=>e=.returned (.tuple #[.int .i64 0,.bool false])/\w=w':=by
 unfold Fits at ha hb h
 by_cases h0:0 < b
 ·
  have h1:9223372036854775807 - b < a:=by omega
  clear h;go_enter Tryz.func137,Tryz.ntmps137;go_wp2;go_ret2;exact ⟨rfl,rfl⟩
 ·
  have h1:b < 0:=by omega
  have h2:a < -9223372036854775808 - b:=by omega
  clear h;go_enter Tryz.func137,Tryz.ntmps137;go_wp2;go_ret2;exact ⟨rfl,rfl⟩
theorem Ul (w:World)(a b:Int)(_ha:Fits a)(hb:Fits b)(h:Fits (a - b)):Calls Tryz.prog 148 #[.int .i64 a,.int .i64 b] w fun e w'=>e=.returned (.tuple #[.int .i64 (a - b),.bool true])/\w=w':=by
 unfold Fits at hb h
 by_cases h0:b < 0
 ·
  have h1:¬ 0 < b:=by omega
  go_enter Tryz.func148,Tryz.ntmps148;go_wp2;go_ret2;exact ⟨rfl,rfl⟩
 ·
  by_cases h1:0 < b
  ·
   go_enter Tryz.func148,Tryz.ntmps148;go_wp2;go_ret2;exact ⟨rfl,rfl⟩
  ·
   go_enter Tryz.func148,Tryz.ntmps148;go_wp2;go_ret2;exact ⟨rfl,rfl⟩
theorem Xx (w:World)(a b:Int)(ha:Fits a)(hb:Fits b)(h:¬ Fits (a - b)):Calls Tryz.prog 148 #[.int .i64 a,.int .i64 b] w fun e w'=>e=.returned (.tuple #[.int .i64 0,.bool false])/\w=w':=by
 unfold Fits at ha hb h
 by_cases h0:b < 0
 ·
  have h1:9223372036854775807+b < a:=by omega
  clear h;go_enter Tryz.func148,Tryz.ntmps148;go_wp2;go_ret2;exact ⟨rfl,rfl⟩
 ·
  have h1:0 < b:=by omega
  have h2:a < -9223372036854775808+b:=by omega
  clear h;go_enter Tryz.func148,Tryz.ntmps148;go_wp2;go_ret2;exact ⟨rfl,rfl⟩
theorem Ch (x y:Nat)(hx:x < 18446744073709551616)(hy:y < 18446744073709551616)(w:World) :
  Calls Tryz.prog 138 #[.int .u64 x,.int .u64 y] w fun e w'=>e=.returned (.tuple #[.int .u64 ((x*y / 18446744073709551616:Nat):Int),.int .u64 ((x*y % 18446744073709551616:Nat):Int)])/\w=w':=by
 obtain ⟨bd,bt,bw,hhi⟩:=Lib.mul64_hi x y hx hy;have ba:=Lib.half_mul_le (a:=x / 4294967296) (b:=y / 4294967296) (by omega) (by omega);have bb:=Lib.half_mul_le (a:=x / 4294967296) (b:=y % 4294967296) (by omega) (by omega);have bc:=Lib.half_mul_le (a:=x % 4294967296) (b:=y / 4294967296) (by omega) (by omega);have ba':x / 4294967296*(y / 4294967296) < 18446744073709551616:=by omega
 have bb':x / 4294967296*(y % 4294967296) < 18446744073709551616:=by omega
 have bc':x % 4294967296*(y / 4294967296) < 18446744073709551616:=by omega
 have bh1:x / 4294967296*(y / 4294967296)+(x / 4294967296*(y % 4294967296)+x % 4294967296*(y % 4294967296) / 4294967296) / 4294967296 < 18446744073709551616:=by omega
 have bh:x / 4294967296*(y / 4294967296)+(x / 4294967296*(y % 4294967296)+x % 4294967296*(y % 4294967296) / 4294967296) / 4294967296+((x / 4294967296*(y % 4294967296)+x % 4294967296*(y % 4294967296) / 4294967296) % 4294967296+x % 4294967296*(y / 4294967296)) / 4294967296 < 18446744073709551616:=by omega
 go_enter Tryz.func138,Tryz.ntmps138;go_wp2;simp only [Mul64.maskN x hx,Mul64.maskN y hy,Mul64.divN,Mul64.mulN,Mul64.addN,Mul64.wrapN _ bd,Mul64.wrapN _ bb',Mul64.wrapN _ bt,Mul64.maskN _ bt,Mul64.wrapN _ bc',Mul64.wrapN _ bw,Mul64.wrapN _ ba',Mul64.wrapN _ bh1,Mul64.wrapN _ bh,Mul64.wrapM (x*y)];rw [hhi];go_ret2;exact ⟨rfl,rfl⟩
theorem fQ (w:World)(a:Int)(ha:Fits a):Calls Tryz.prog 139 #[.int .i64 a] w fun e w'=>e=.returned (.int .u64 (a.natAbs:Int))/\w=w':=by
 unfold Fits at ha
 by_cases h0:a < 0
 ·
  go_enter Tryz.func139,Tryz.ntmps139;go_wp2;go_ret;exact ⟨wo (by rw [IntKind.wrap_u64,IntKind.wrap_u64];omega),rfl⟩
 ·
  go_enter Tryz.func139,Tryz.ntmps139;go_wp2;go_ret;exact ⟨wo (by omega),rfl⟩
theorem kM (w:World)(x y p:Nat)(hp:x*y=p)(hx:x < 18446744073709551616)(hy:y < 18446744073709551616)(h:p < 18446744073709551616) :
  Calls Tryz.prog 138 #[.int .u64 x,.int .u64 y] w fun e w'=>e=.returned (.tuple #[.int .u64 0,.int .u64 (p:Int)])/\w=w':=by
 have:=Ch x y hx hy w;rw [hp,Nat.div_eq_of_lt h,Nat.mod_eq_of_lt h] at this;exact this
theorem IG (w:World)(x y:Nat)(hx:x < 18446744073709551616)(hy:y < 18446744073709551616)(h:18446744073709551616<=x*y) :
  Calls Tryz.prog 138 #[.int .u64 x,.int .u64 y] w fun e w'=>(∃ u v:Int,1<=u/\e=.returned (.tuple #[.int .u64 u,.int .u64 v]))/\w=w':=by
 refine (Ch x y hx hy w).mono ?_;rintro e w' ⟨rfl,rfl⟩;refine ⟨⟨_,_,?_,rfl⟩,rfl⟩;have:=Nat.div_le_div_right (c:=18446744073709551616) h;omega
theorem FK (a b:Int):((a < 0↔b < 0)->a*b=((a.natAbs*b.natAbs:Nat):Int))/\(¬ (a < 0↔b < 0)->a*b = -((a.natAbs*b.natAbs:Nat):Int)):=by
 rcases Int.natAbs_eq a with ha | ha <;> rcases Int.natAbs_eq b with hb | hb
 all_goals
  rw [ha,hb];simp only [Int.natAbs_neg,Int.natAbs_natCast,Int.natCast_mul,Int.neg_mul,Int.mul_neg,Int.neg_neg];generalize a.natAbs=x;generalize b.natAbs=y
 ·
  exact ⟨fun _=>trivial,fun h=>by omega⟩
 ·
  refine ⟨fun h=>?_,fun _=>trivial⟩;obtain rfl:y=0:=by omega
  simp
 ·
  refine ⟨fun h=>?_,fun _=>trivial⟩;obtain rfl:x=0:=by omega
  simp
 ·
  refine ⟨fun _=>trivial,fun h=>?_⟩
  rcases Nat.eq_zero_or_pos x with rfl | hx
  ·
   simp
  ·
   rcases Nat.eq_zero_or_pos y with rfl | hy
   ·
    simp
   ·
    exact absurd (by omega) h
theorem jo {a:Int}(h:Fits a):a.natAbs < 18446744073709551616:=by unfold Fits at h;omega
theorem Um (w:World)(a b:Int)(ha:Fits a)(hb:Fits b)(h:Fits (a*b)):Calls Tryz.prog 136 #[.int .i64 a,.int .i64 b] w fun e w'=>e=.returned (.tuple #[.int .i64 (a*b),.bool true])/\w=w':=by
 obtain ⟨hs1,hs2⟩:=FK a b;have hfa:=af ha;have D6:=af hb;obtain ⟨p,hp⟩:∃ p,a.natAbs*b.natAbs=p:=⟨_,rfl⟩;rw [hp] at hs1 hs2;have Hp:=af hp;clear hp ha hb;generalize a*b=q at h hs1 hs2
 by_cases h0:a < 0
 ·
  have t1:decide (a < 0)=true:=by simpa using h0
  by_cases h1:b < 0
  ·
   have t2:decide (b < 0)=true:=by simpa using h1
   have Hq:=af (hs1 ⟨fun _=>h1,fun _=>h0⟩);have hpl:(p:Int)<=9223372036854775807:=by have:=Hq.out;unfold Fits at h;omega
   clear hs1 hs2 h;go_enter Tryz.func136,Tryz.ntmps136;go_wp2_with fail;refine (fQ _ a hfa.out).mono ?_;rintro e w1 ⟨rfl,rfl⟩;go_wp2_with fail;refine (fQ _ b D6.out).mono ?_;rintro e w1 ⟨rfl,rfl⟩;go_wp2_with fail;refine (kM _ _ _ p Hp.out (jo hfa.out) (jo D6.out) (by omega)).mono ?_;rintro e w1 ⟨rfl,rfl⟩;go_wp2;go_ret2;exact ⟨by rw [Hq.out];rfl,rfl⟩
  ·
   have t2:decide (b < 0)=false:=by simpa using h1
   have Hq:=af (hs2 (fun x=>h1 (x.1 h0)));have hpl:(p:Int)<=9223372036854775808:=by have:=Hq.out;unfold Fits at h;omega
   have Hr:Hid (wrap64 (IntKind.u64.wrap (-(p:Int)))=q):=af (by rw [IntKind.wrap_u64,Hq.out];unfold wrap64;omega);clear hs1 hs2 h;go_enter Tryz.func136,Tryz.ntmps136;go_wp2_with fail;refine (fQ _ a hfa.out).mono ?_;rintro e w1 ⟨rfl,rfl⟩;go_wp2_with fail;refine (fQ _ b D6.out).mono ?_;rintro e w1 ⟨rfl,rfl⟩;go_wp2_with fail;refine (kM _ _ _ p Hp.out (jo hfa.out) (jo D6.out) (by omega)).mono ?_;rintro e w1 ⟨rfl,rfl⟩;go_wp2;go_ret2;exact ⟨by rw [<- Hr.out];rfl,rfl⟩
 ·
  have t1:decide (a < 0)=false:=by simpa using h0
  by_cases h1:b < 0
  ·
   have t2:decide (b < 0)=true:=by simpa using h1
   have Hq:=af (hs2 (fun x=>h0 (x.2 h1)));have hpl:(p:Int)<=9223372036854775808:=by have:=Hq.out;unfold Fits at h;omega
   have Hr:Hid (wrap64 (IntKind.u64.wrap (-(p:Int)))=q):=af (by rw [IntKind.wrap_u64,Hq.out];unfold wrap64;omega);clear hs1 hs2 h;go_enter Tryz.func136,Tryz.ntmps136;go_wp2_with fail;refine (fQ _ a hfa.out).mono ?_;rintro e w1 ⟨rfl,rfl⟩;go_wp2_with fail;refine (fQ _ b D6.out).mono ?_;rintro e w1 ⟨rfl,rfl⟩;go_wp2_with fail;refine (kM _ _ _ p Hp.out (jo hfa.out) (jo D6.out) (by omega)).mono ?_;rintro e w1 ⟨rfl,rfl⟩;go_wp2;go_ret2;exact ⟨by rw [<- Hr.out];rfl,rfl⟩
  ·
   have t2:decide (b < 0)=false:=by simpa using h1
   have Hq:=af (hs1 ⟨fun x=>absurd x h0,fun x=>absurd x h1⟩);have hpl:(p:Int)<=9223372036854775807:=by have:=Hq.out;unfold Fits at h;omega
   clear hs1 hs2 h;go_enter Tryz.func136,Tryz.ntmps136;go_wp2_with fail;refine (fQ _ a hfa.out).mono ?_;rintro e w1 ⟨rfl,rfl⟩;go_wp2_with fail;refine (fQ _ b D6.out).mono ?_;rintro e w1 ⟨rfl,rfl⟩;go_wp2_with fail;refine (kM _ _ _ p Hp.out (jo hfa.out) (jo D6.out) (by omega)).mono ?_;rintro e w1 ⟨rfl,rfl⟩;go_wp2;go_ret2;exact ⟨by rw [Hq.out];rfl,rfl⟩
theorem Xy (w:World)(a b:Int)(ha:Fits a)(hb:Fits b)(h:¬ Fits (a*b)):Calls Tryz.prog 136 #[.int .i64 a,.int .i64 b] w fun e w'=>e=.returned (.tuple #[.int .i64 0,.bool false])/\w=w':=by
 obtain ⟨hs1,hs2⟩:=FK a b;have hfa:=af ha;have D6:=af hb
 by_cases hbig:18446744073709551616<=a.natAbs*b.natAbs
 ·
  have Hb:=af hbig;clear hbig hs1 hs2 h ha hb;go_enter Tryz.func136,Tryz.ntmps136;go_wp2_with fail;refine (fQ _ a hfa.out).mono ?_;rintro e w1 ⟨rfl,rfl⟩;go_wp2_with fail;refine (fQ _ b D6.out).mono ?_;rintro e w1 ⟨rfl,rfl⟩;go_wp2_with fail;refine (IG _ _ _ (jo hfa.out) (jo D6.out) Hb.out).mono ?_;rintro e w1 ⟨⟨u,v,hu,rfl⟩,rfl⟩;have hu0:(u == 0)=false:=by simp;omega
  go_wp2;go_ret2;exact ⟨rfl,rfl⟩
 ·
  obtain ⟨p,hp⟩:∃ p,a.natAbs*b.natAbs=p:=⟨_,rfl⟩;rw [hp] at hs1 hs2 hbig;have Hp:=af hp;clear hp ha hb;generalize a*b=q at h hs1 hs2;unfold Fits at h
  by_cases h0:a < 0
  ·
   have t1:decide (a < 0)=true:=by simpa using h0
   by_cases h1:b < 0
   ·
    have t2:decide (b < 0)=true:=by simpa using h1
    have hpl:(9223372036854775807:Int) < p:=by have:=hs1 ⟨fun _=>h1,fun _=>h0⟩;omega
    clear hs1 hs2 h;go_enter Tryz.func136,Tryz.ntmps136;go_wp2_with fail;refine (fQ _ a hfa.out).mono ?_;rintro e w1 ⟨rfl,rfl⟩;go_wp2_with fail;refine (fQ _ b D6.out).mono ?_;rintro e w1 ⟨rfl,rfl⟩;go_wp2_with fail;refine (kM _ _ _ p Hp.out (jo hfa.out) (jo D6.out) (by omega)).mono ?_;rintro e w1 ⟨rfl,rfl⟩;go_wp2;go_ret2;exact ⟨rfl,rfl⟩
   ·
    have t2:decide (b < 0)=false:=by simpa using h1
    have hpl:(9223372036854775808:Int) < p:=by have:=hs2 (fun x=>h1 (x.1 h0));omega
    clear hs1 hs2 h;go_enter Tryz.func136,Tryz.ntmps136;go_wp2_with fail;refine (fQ _ a hfa.out).mono ?_;rintro e w1 ⟨rfl,rfl⟩;go_wp2_with fail;refine (fQ _ b D6.out).mono ?_;rintro e w1 ⟨rfl,rfl⟩;go_wp2_with fail;refine (kM _ _ _ p Hp.out (jo hfa.out) (jo D6.out) (by omega)).mono ?_;rintro e w1 ⟨rfl,rfl⟩;go_wp2;go_ret2;exact ⟨rfl,rfl⟩
  ·
   have t1:decide (a < 0)=false:=by simpa using h0
   by_cases h1:b < 0
   ·
    have t2:decide (b < 0)=true:=by simpa using h1
    have hpl:(9223372036854775808:Int) < p:=by have:=hs2 (fun x=>h0 (x.2 h1));omega
    clear hs1 hs2 h;go_enter Tryz.func136,Tryz.ntmps136;go_wp2_with fail;refine (fQ _ a hfa.out).mono ?_;rintro e w1 ⟨rfl,rfl⟩;go_wp2_with fail;refine (fQ _ b D6.out).mono ?_;rintro e w1 ⟨rfl,rfl⟩;go_wp2_with fail;refine (kM _ _ _ p Hp.out (jo hfa.out) (jo D6.out) (by omega)).mono ?_;rintro e w1 ⟨rfl,rfl⟩;go_wp2;go_ret2;exact ⟨rfl,rfl⟩
   ·
    have t2:decide (b < 0)=false:=by simpa using h1
    have hpl:(9223372036854775807:Int) < p:=by have:=hs1 ⟨fun x=>absurd x h0,fun x=>absurd x h1⟩;omega
    clear hs1 hs2 h;go_enter Tryz.func136,Tryz.ntmps136;go_wp2_with fail;refine (fQ _ a hfa.out).mono ?_;rintro e w1 ⟨rfl,rfl⟩;go_wp2_with fail;refine (fQ _ b D6.out).mono ?_;rintro e w1 ⟨rfl,rfl⟩;go_wp2_with fail;refine (kM _ _ _ p Hp.out (jo hfa.out) (jo D6.out) (by omega)).mono ?_;rintro e w1 ⟨rfl,rfl⟩;go_wp2;go_ret2;exact ⟨rfl,rfl⟩
def mI:Int->List Int->List Int->Option Int
 | acc,x :: xs,y :: ys=>if Fits (x*y)/\Fits (acc+x*y) then mI (acc+x*y) xs ys else none
 | acc,_,_=>some acc
def oH:Int->List Int->Option Int
 | acc,x :: xs=>if Fits (acc+x) then oH (acc+x) xs else none
 | acc,[]=>some acc
def FL (r:Option Int):Value:=.tuple #[.int .i64 (r.getD 0),.bool r.isSome]
theorem Ci {acc:Int}{xs ys:List Int}{k:Nat}(h1:k < xs.length)(h2:k < ys.length):mI acc (xs.drop k) (ys.drop k) =
  if Fits (xs[k]*ys[k])/\Fits (acc+xs[k]*ys[k]) then mI (acc+xs[k]*ys[k]) (xs.drop (k+1)) (ys.drop (k+1)) else none:=by
 rw [List.drop_eq_getElem_cons h1,List.drop_eq_getElem_cons h2,mI]
theorem Cj {acc:Int}{xs:List Int}{k:Nat}(h1:k < xs.length):oH acc (xs.drop k)=if Fits (acc+xs[k]) then oH (acc+xs[k]) (xs.drop (k+1)) else none:=by
 rw [List.drop_eq_getElem_cons h1,oH]
theorem Un {o:Col}{c:Nat}(w:World)(ao:Option Addr)(n cap:Nat)(l:List Int)(hl:Ints w o c (.slice ao n cap) l)(hn:l.length<=17600000000000)(hf:∀ x∈l,Fits x) :
  Calls Tryz.prog 146 #[.slice ao n cap] w fun e w'=>e=.returned (FL (oH 0 l))/\w=w':=by
 obtain rfl:=hl.len;have HL:=af hl;have HF:=af hf;have hni:(l.length:Int)<=17600000000000:=by omega
 obtain ⟨R,hR⟩:∃ R,oH 0 l=R:=⟨_,rfl⟩;rw [hR];have HR:=af hR;clear hl hf hn hR;go_enter Tryz.func146,Tryz.ntmps146;go_wp2_with fail
 go_loop [4,10] (fun t i=>∃ (k:Nat) (acc:Int),k<=l.length/\i=.int .i64 k/\t=.int .i64 acc/\Fits acc/\oH acc (l.drop k)=R) (fun _ i=>l.length - (intOf i).toNat)
 case atStart=>exact ⟨0,0,Nat.zero_le _,rfl,rfl,by unfold Fits;omega,HR.out⟩
 case round =>
  obtain ⟨k,acc,hk,rfl,rfl,hacc,hres⟩:=hrel;have Pk:=af hacc;have Pm:=af hres;clear hacc hres
  by_cases hlt:k < l.length
  ·
   have bX:(k:Int) < l.length:=by omega
   obtain ⟨b,off,e1,-,-,-,-,hc⟩:=HL.out.at (by omega);subst e1;have hck:=hc k hlt;have hx:l[k]?.getD 0=l[k]:=by simp [hlt]
   rw [hx] at hck;have hstep:=Cj (acc:=acc) hlt;rw [Pm.out] at hstep;have hfx:Fits l[k]:=HF.out _ (List.getElem_mem hlt);have Uo:=af hstep;have Xz:=af hfx;clear hc hx hstep hfx;generalize l[k]=x at hck Uo Xz;go_wp2_with fail
   by_cases hfit:Fits (acc+x)
   ·
    refine (zP _ acc x Pk.out Xz.out hfit).mono ?_;rintro e w1 ⟨rfl,rfl⟩;have Uq:=af hfit;clear hfit;go_wp2
    go_round
    case rel=>exact ⟨k+1,acc+x,by omega,by go_num,rfl,Uq.out,by have:=Uo.out;rw [if_pos Uq.out] at this;exact this.symm⟩
    case measure=>simp [intOf];omega
   ·
    refine (D5 _ acc x Pk.out Xz.out hfit).mono ?_;rintro e w1 ⟨rfl,rfl⟩;have Uq:=af hfit;clear hfit;go_wp2;go_ret2;refine ⟨?_,rfl⟩;have:=Uo.out;rw [if_neg Uq.out] at this;rw [this];rfl
  ·
   obtain rfl:k=l.length:=by omega
   go_wp2;go_ret2;refine ⟨?_,rfl⟩;have:=Pm.out;rw [List.drop_length,oH] at this;rw [<- this];rfl
theorem Ur {o o':Col}{c c':Nat}(w:World)(ao bo:Option Addr)(n m cap cap':Nat)(xs ys:List Int)(hx:Ints w o c (.slice ao n cap) xs)(hy:Ints w o' c' (.slice bo m cap') ys)(hxy:xs.length=ys.length)(hn:xs.length<=17600000000000)(hfx:∀ x∈xs,Fits x)(Pn:∀ x∈ys,Fits x) :
  Calls Tryz.prog 135 #[.slice ao n cap,.slice bo m cap'] w fun e w'=>e=.returned (FL (mI 0 xs ys))/\w=w':=by
 obtain rfl:=hx.len;have hm:=hy.len;rw [<- hxy] at hm;subst hm;have HX:=af hx;have HY:=af hy;have Ir:=af hfx;have HFY:=af Pn;have HXY:=af hxy;have hni:(xs.length:Int)<=17600000000000:=by omega
 obtain ⟨R,hR⟩:∃ R,mI 0 xs ys=R:=⟨_,rfl⟩;rw [hR];have HR:=af hR;clear hx hy hfx Pn hn hR hxy;go_enter Tryz.func135,Tryz.ntmps135;go_wp2_with fail
 go_loop [6,18] (fun t i=>∃ (k:Nat) (acc:Int),k<=xs.length/\i=.int .i64 k/\t=.int .i64 acc/\Fits acc/\mI acc (xs.drop k) (ys.drop k)=R) (fun _ i=>xs.length - (intOf i).toNat)
 case atStart=>exact ⟨0,0,Nat.zero_le _,rfl,rfl,by unfold Fits;omega,HR.out⟩
 case round =>
  obtain ⟨k,acc,hk,rfl,rfl,hacc,hres⟩:=hrel;have Pk:=af hacc;have Pm:=af hres;clear hacc hres
  by_cases hlt:k < xs.length
  ·
   have bX:(k:Int) < xs.length:=by omega
   have hlty:k < ys.length:=by have:=HXY.out;omega
   obtain ⟨b,off,e1,-,-,-,-,hc⟩:=HX.out.at (by omega);obtain ⟨b',off',e2,-,-,-,-,hc'⟩:=HY.out.at (by omega);subst e1 e2;have hck:=hc k hlt;have ZM:=hc' k hlty;rw [show xs[k]?.getD 0=xs[k] by simp [hlt]] at hck;rw [show ys[k]?.getD 0=ys[k] by simp [hlty]] at ZM;have hstep:=Ci (acc:=acc) hlt hlty;rw [Pm.out] at hstep;have Uo:=af hstep;have Xz:=af (Ir.out _ (List.getElem_mem hlt));have Hfy:=af (HFY.out _ (List.getElem_mem hlty));clear hc hc' hstep;generalize xs[k]=x at hck Uo Xz;generalize ys[k]=y at ZM Uo Hfy;clear hlty;go_wp2_with fail
   by_cases hf1:Fits (x*y)
   ·
    refine (Um _ x y Xz.out Hfy.out hf1).mono ?_;rintro e w1 ⟨rfl,rfl⟩;have Hf1:=af hf1;clear hf1;go_wp2_with fail
    by_cases hf2:Fits (acc+x*y)
    ·
     refine (zP _ acc (x*y) Pk.out Hf1.out hf2).mono ?_;rintro e w1 ⟨rfl,rfl⟩;have KN:=af hf2;clear hf2;go_wp2
     go_round
     case rel=>exact ⟨k+1,acc+x*y,by omega,by go_num,rfl,KN.out,by have:=Uo.out;rw [if_pos ⟨Hf1.out,KN.out⟩] at this;exact this.symm⟩
     case measure=>simp [intOf];omega
    ·
     refine (D5 _ acc (x*y) Pk.out Hf1.out hf2).mono ?_;rintro e w1 ⟨rfl,rfl⟩;have KN:=af hf2;clear hf2;go_wp2;go_ret2;refine ⟨?_,rfl⟩;have:=Uo.out;rw [if_neg (fun h=>KN.out h.2)] at this;rw [this];rfl
   ·
    refine (Xy _ x y Xz.out Hfy.out hf1).mono ?_;rintro e w1 ⟨rfl,rfl⟩;have Hf1:=af hf1;clear hf1;go_wp2;go_ret2;refine ⟨?_,rfl⟩;have:=Uo.out;rw [if_neg (fun h=>Hf1.out h.1)] at this;rw [this];rfl
  ·
   obtain rfl:k=xs.length:=by omega
   go_wp2;go_ret2;refine ⟨?_,rfl⟩;have:=Pm.out;rw [List.drop_length,mI] at this
   ·
    rw [<- this];rfl
   ·
    intro x xs' y ys' h;cases h
def kS (t:Int):TypeId:=if t=1 then 145 else if t=2 then 148 else if t=3 then 150 else if t=4 then 152 else if t=5 then 154 else if t=6 then 156 else if t=7 then 158 else if t=8 then 163 else if t=9 then 165 else if t=10 then 168 else 170
def kP (t:Int):TypeId:=if t=1 then 143 else if t=2 then 146 else if t=3 then 149 else if t=4 then 151 else if t=5 then 153 else if t=6 then 155 else if t=7 then 157 else if t=8 then 159 else if t=9 then 164 else if t=10 then 166 else 169
def qJ (t:Int)(vi vo:Value)(n x b:Int)(vt vs:Value):Array Value :=
 if t=1 then #[vi,vo,.int .i64 n,vt,vs] else if t=8 then #[vi,vo,.int .i64 n,.int .i64 x] else if t=10 then #[vi,vo,.int .i64 n,.int .i64 x,.int .i64 b] else #[vi,vo,.int .i64 n]
def eB (t:Int)(ps:List Int):List Int:=if t=1 then List.replicate (ps.length - 1) 0 else if t=8 then [0] else if t=10 then [hd ps] else []
def Made (w:World)(t:Int)(vi vo:Value)(ps:List Int)(e:Ending)(w':World):Prop :=
 ∃ K vt vs,e=.returned (.iface (kP t) (.pointer (some ⟨K,0,none⟩)))/\w'.heap[K]?=some (.cells (qJ t vi vo 0 (hd (eB t ps)) (hd1 ps) vt vs) (kS t) (0,0))/\w.heap.size<=K/\Below w.heap.size w w' /\
  (t=1->w'.ownsRow w.heap.size 3 1 vt ps.length (bB ps)/\w'.ownsRow w.heap.size 3 1 vs (eB 1 ps).length (bB (eB 1 ps))/\vt.ownBlock≠some K/\vs.ownBlock≠some K)
theorem j6 {w w1:World}{t:Int}{vi vo:Value}{ps:List Int}{cs:Array Value}{e:Ending}{n:Nat}(ht:t≠1)(hcs:qJ t vi vo 0 (hd (eB t ps)) (hd1 ps) undef undef=cs)(hn:n=w1.heap.size)(he:e=.returned (.iface (kP t) (.pointer (some ⟨n,0,none⟩))))(hb:Below w.heap.size w w1):Made w t vi vo ps e (w1.alloc (.cells cs (kS t))):=by
 subst hn hcs;exact ⟨w1.heap.size,undef,undef,he,heap_alloc_new _ _,hb.size,hb.alloc hb.size _,fun h=>absurd h ht⟩
theorem Ck {w w1:World}{vi vo vt vs:Value}{ps:List Int}{e:Ending}{n:Nat}(hn:n=w1.heap.size)(he:e=.returned (.iface (kP 1) (.pointer (some ⟨n,0,none⟩))))(hb:Below w.heap.size w w1)
  (h1:w1.ownsRow w.heap.size 3 1 vt ps.length (bB ps)) (h2:w1.ownsRow w.heap.size 3 1 vs (eB 1 ps).length (bB (eB 1 ps))):Made w 1 vi vo ps e (w1.alloc (.cells #[vi,vo,.int .i64 0,vt,vs] 145)):=by
 subst hn;exact ⟨w1.heap.size,vt,vs,he,heap_alloc_new _ _,hb.size,hb.alloc hb.size _,fun _=>⟨h1.alloc _,h2.alloc _,fun e=>Nat.lt_irrefl _ (h1.lt _ e).2,fun e=>Nat.lt_irrefl _ (h2.lt _ e).2⟩⟩
theorem XA (w:World)(vi vo v:Value)(ps:List Int):Calls Tryz.prog 43 #[.int .u8 2,.agg #[vi,vo,.int .i64 0],v] w (Made w 2 vi vo ps):=by
 go_enter Tryz.func43,Tryz.ntmps43;go_wp2;go_ret;exact j6 (by decide) rfl (by simp) rfl ((Below.refl _ _).alloc (Nat.le_refl _) _)
theorem XB (w:World)(vi vo v:Value)(ps:List Int):Calls Tryz.prog 43 #[.int .u8 3,.agg #[vi,vo,.int .i64 0],v] w (Made w 3 vi vo ps):=by
 go_enter Tryz.func43,Tryz.ntmps43;go_wp2;go_ret;exact j6 (by decide) rfl (by simp) rfl ((Below.refl _ _).alloc (Nat.le_refl _) _)
theorem XC (w:World)(vi vo v:Value)(ps:List Int):Calls Tryz.prog 43 #[.int .u8 4,.agg #[vi,vo,.int .i64 0],v] w (Made w 4 vi vo ps):=by
 go_enter Tryz.func43,Tryz.ntmps43;go_wp2;go_ret;exact j6 (by decide) rfl (by simp) rfl ((Below.refl _ _).alloc (Nat.le_refl _) _)
theorem XD (w:World)(vi vo v:Value)(ps:List Int):Calls Tryz.prog 43 #[.int .u8 5,.agg #[vi,vo,.int .i64 0],v] w (Made w 5 vi vo ps):=by
 go_enter Tryz.func43,Tryz.ntmps43;go_wp2;go_ret;exact j6 (by decide) rfl (by simp) rfl ((Below.refl _ _).alloc (Nat.le_refl _) _)
theorem XE (w:World)(vi vo v:Value)(ps:List Int):Calls Tryz.prog 43 #[.int .u8 6,.agg #[vi,vo,.int .i64 0],v] w (Made w 6 vi vo ps):=by
 go_enter Tryz.func43,Tryz.ntmps43;go_wp2;go_ret;exact j6 (by decide) rfl (by simp) rfl ((Below.refl _ _).alloc (Nat.le_refl _) _)
theorem XF (w:World)(vi vo v:Value)(ps:List Int):Calls Tryz.prog 43 #[.int .u8 7,.agg #[vi,vo,.int .i64 0],v] w (Made w 7 vi vo ps):=by
 go_enter Tryz.func43,Tryz.ntmps43;go_wp2;go_ret;exact j6 (by decide) rfl (by simp) rfl ((Below.refl _ _).alloc (Nat.le_refl _) _)
theorem XG (w:World)(vi vo v:Value)(ps:List Int):Calls Tryz.prog 43 #[.int .u8 8,.agg #[vi,vo,.int .i64 0],v] w (Made w 8 vi vo ps):=by
 go_enter Tryz.func43,Tryz.ntmps43;go_wp2;go_ret;exact j6 (by decide) rfl (by simp) rfl ((Below.refl _ _).alloc (Nat.le_refl _) _)
theorem XH (w:World)(vi vo v:Value)(ps:List Int):Calls Tryz.prog 43 #[.int .u8 9,.agg #[vi,vo,.int .i64 0],v] w (Made w 9 vi vo ps):=by
 go_enter Tryz.func43,Tryz.ntmps43;go_wp2;go_ret;exact j6 (by decide) rfl (by simp) rfl ((Below.refl _ _).alloc (Nat.le_refl _) _)
theorem Us (w:World)(vi vo v:Value)(ps:List Int):Calls Tryz.prog 43 #[.int .u8 11,.agg #[vi,vo,.int .i64 0],v] w (Made w 11 vi vo ps):=by
 go_enter Tryz.func43,Tryz.ntmps43;go_wp2;go_ret;exact j6 (by decide) rfl (by simp) rfl ((Below.refl _ _).alloc (Nat.le_refl _) _)
theorem Ut {o:Col}{c:Nat}(w:World)(vi vo:Value)(ao:Option Addr)(cap:Nat)(x y:Int)(h:Ints w o c (.slice ao 2 cap) [x,y]):Calls Tryz.prog 43 #[.int .u8 10,.agg #[vi,vo,.int .i64 0],.slice ao 2 cap] w (Made w 10 vi vo [x,y]):=by
 obtain ⟨b,off,rfl,-,hcap,-,-,hc⟩:=h.at (by simp);have c0:=hc 0 (by simp);have c1:=hc 1 (by simp);simp at c0 c1;clear hc h;have a0:=ca (o:=.cells #[vi,vo,.int .i64 0] 119) c0;have a1:=ca (o:=.cells #[vi,vo,.int .i64 0] 119) c1;have hB:=heap_alloc_new w (.cells #[vi,vo,.int .i64 0] 119);have q0:=ah _ _ hB 0 vi rfl;have q1:=ah _ _ hB 1 vo rfl;have q2:=ah _ _ hB 2 (.int .i64 0) rfl;go_enter Tryz.func43,Tryz.ntmps43;go_wp2;refine aM (fun w'=>(w'.cell? ⟨w.heap.size,0,none⟩=some vi/\w'.cell? ⟨w.heap.size,1,none⟩=some vo/\w'.cell? ⟨w.heap.size,2,none⟩=some (.int .i64 0))/\w'.cell? ⟨b,off,none⟩=some (.int .i64 x)/\w'.cell? ⟨b,off+1,none⟩=some (.int .i64 y)) [0,1,2,3,4,5,6,7,8] [9,10,11] (by kernel_rfl) (by kernel_rfl) rfl (fun _ _ hx h=>⟨⟨hx.cell h.1.1,hx.cell h.1.2.1,hx.cell h.1.2.2⟩,hx.cell h.2.1,hx.cell h.2.2⟩) ⟨⟨q0,q1,q2⟩,a0,a1⟩ ?_;intro Q' hQ';simp only [pk];refine aD ?_;refine ax ?_;go_wp2;go_ret;exact j6 (w1:=(w.alloc (.cells #[vi,vo,.int .i64 0] 119)).drew) (by decide) rfl (by simp) rfl (((Below.refl _ _).alloc (Nat.le_refl _) _).drew)
theorem XI {o:Col}{c:Nat}(w:World)(vi vo:Value)(ao:Option Addr)(n cap:Nat)(l:List Int)(h:Ints w o c (.slice ao n cap) l)(hl:1<=l.length)(hl2:l.length<=16):Calls Tryz.prog 43 #[.int .u8 1,.agg #[vi,vo,.int .i64 0],.slice ao n cap] w (Made w 1 vi vo l):=by
 obtain rfl:=h.len;have HH:=af h;obtain ⟨i0,hi,hz0,hz1,hz2⟩:=info_parts bU;have hB:=heap_alloc_new w (.cells #[vi,vo,.int .i64 0] 119);have q0:=ah _ _ hB 0 vi rfl;have q1:=ah _ _ hB 1 vo rfl;have q2:=ah _ _ hB 2 (.int .i64 0) rfl;have E9:(1:Int)<=l.length:=by omega
 have ab2:(l.length:Int)<=16:=by omega
 clear h;go_enter Tryz.func43,Tryz.ntmps43;go_wp2;have hb0:Below w.heap.size w (w.alloc (.cells #[vi,vo,.int .i64 0] 119)):=(Below.refl _ _).alloc (Nat.le_refl _) _;have hs0:(w.alloc (.cells #[vi,vo,.int .i64 0] 119)).heap.size=w.heap.size+1:=by simp
 have HH0:=af (HH.out.has.below hb0);generalize w.alloc (.cells #[vi,vo,.int .i64 0] 119)=w0 at *;have hwrap:IntKind.i64.wrap ((l.length:Int) - 1)=(l.length:Int) - 1:=IntWalk.i64_in _ (by omega);refine cZ (fun w'=>w'.cell? ⟨w.heap.size,0,none⟩=some vi/\w'.cell? ⟨w.heap.size,1,none⟩=some vo/\w'.cell? ⟨w.heap.size,2,none⟩=some (.int .i64 0)) [0,1,3,4,5] [2,6] 6 (by kernel_rfl) (by kernel_rfl) rfl ⟨q0,q1,q2⟩ ?_;intro Q' hQ';simp only [pk];refine aD ?_;refine ax ?_;clear hwrap;have ab3:Below w.heap.size w w0.drew:=hb0.drew;have HHd:Hid (Has w0.drew (.slice ao l.length cap) (bB l)):=af (HH0.out.drewN 1);have hcast:((l.length - 1:Nat):Int)=(l.length:Int) - 1:=by omega
 refine fZ (i:=2) (k:=6) (by kernel_rfl) ?_ ?_
 ·
  simp only [aQ,List.flatMap_cons,List.flatMap_nil,List.drop_succ_cons,List.drop_zero,List.take_succ_cons,List.take_zero,List.append_nil];go_wp2_with fail;refine (tO _ _ _ _ l HHd.out (by omega)).mono ?_;rintro e w1 ⟨g,cp,rfl,ho1,hb1⟩;have hb1:Below w0.heap.size w0 w1:=j4 (n:=1) hb1;have ho1:w1.ownsRow w0.heap.size 3 1 (.slice (some ⟨g,0,none⟩) l.length cp) l.length (bB l):=ho1;go_wp2;refine ⟨fun _ hS=>⟨cell_later hb1 q0,cell_later hb1 q1,cell_later hb1 q2⟩,?_⟩;refine aB (i:=6) (by kernel_rfl) ?_;simp only [aQ,List.flatMap_cons,List.flatMap_nil,List.drop_succ_cons,List.drop_zero,List.take_succ_cons,List.take_zero,List.append_nil];obtain ⟨w2,hr,hown,hg⟩:=run_make_full (P:=Tryz.prog) w1 w1.heap.size 27 3 i0 _ 1 Tryz.underlying27 hi hz0 hz1 .i64 .i64 (l.length - 1) (by rw [hz2];omega) (by unfold maxLen;omega) (Nat.le_refl _);rw [hcast] at hr;clear hcast;rw [lM] at hown;have hb2:Below w1.heap.size w1 w2:=((aG.refl (fun _=>False) w1).grown hg (fun k hk _=>by cases hk)).below (Nat.le_refl _) (fun _ _ h=>h);have s1:=hb1.size;have Ao:Below w0.heap.size w0 w2:=hb1.trans (hb2.mono s1);go_wp2;refine ⟨fun _ hS=>⟨cell_later Ao q0,cell_later Ao q1,cell_later Ao q2⟩,?_⟩;refine aJ (ks:=[7,8,9,10]) (fun _ _ hx h=>⟨hx.cell h.1,hx.cell h.2.1,hx.cell h.2.2⟩) (by kernel_rfl) ?_;simp only [aQ,List.flatMap_cons,List.flatMap_nil,List.drop_succ_cons,List.drop_zero,List.take_succ_cons,List.take_zero,List.cons_append,List.nil_append,List.append_nil];have hbw:Below w.heap.size w w2:=hb0.trans (Ao.mono (by omega));have r1:=bI (eD ho1 (aG.of_below hb2 (fun _=>False)) (fun _ _ h=>h)) (base':=w.heap.size) (fun k hk=>by have:=(ho1.lt k hk).1;omega);have r2:=bI hown (base':=w.heap.size) (fun k hk=>by have:=(hown.lt k hk).1;omega);clear ho1 hown hg hb1 hb2 Ao q0 q1 q2 hB hr;go_wp2;go_ret;exact Ck rfl rfl hbw r1 (by simpa [eB] using r2)
 ·
  simp only [aQ,List.flatMap_cons,List.flatMap_nil,List.drop_succ_cons,List.drop_zero,List.take_succ_cons,List.take_zero,List.append_nil];obtain ⟨w1,hr,hown,hg⟩:=run_make_full (P:=Tryz.prog) w0.drew w0.heap.size 27 3 i0 _ 1 Tryz.underlying27 hi hz0 hz1 .i64 .i64 (l.length - 1) (by rw [hz2];omega) (by unfold maxLen;omega) (Nat.le_refl _);rw [hcast] at hr;clear hcast;rw [lM] at hown;have hb1:Below w0.heap.size w0 w1:=((aG.refl (fun _=>False) w0).drew.grown (b:=w0.drew) hg (fun k hk _=>by cases hk)).below (Nat.le_refl _) (fun _ _ h=>h);go_wp2;refine ⟨fun _ hS=>⟨cell_later hb1 q0,cell_later hb1 q1,cell_later hb1 q2⟩,?_⟩;refine aB (i:=2) (by kernel_rfl) ?_;simp only [aQ,List.flatMap_cons,List.flatMap_nil,List.drop_succ_cons,List.drop_zero,List.take_succ_cons,List.take_zero,List.append_nil];clear hr;go_wp2_with fail;refine (tO _ _ _ _ l (HH0.out.below hb1) (by omega)).mono ?_;rintro e w2 ⟨g,cp,rfl,ho2,hb2⟩;have s1:=hb1.size;have Ao:Below w0.heap.size w0 w2:=hb1.trans (hb2.mono s1);go_wp2;refine ⟨fun _ hS=>⟨cell_later Ao q0,cell_later Ao q1,cell_later Ao q2⟩,?_⟩;refine aJ (ks:=[7,8,9,10]) (fun _ _ hx h=>⟨hx.cell h.1,hx.cell h.2.1,hx.cell h.2.2⟩) (by kernel_rfl) ?_;simp only [aQ,List.flatMap_cons,List.flatMap_nil,List.drop_succ_cons,List.drop_zero,List.take_succ_cons,List.take_zero,List.cons_append,List.nil_append,List.append_nil];have hbw:Below w.heap.size w w2:=hb0.trans (Ao.mono (by omega));have r1:=bI ho2 (base':=w.heap.size) (fun k hk=>by have:=(ho2.lt k hk).1;omega);have r2:=bI (eD hown (aG.of_below hb2 (fun _=>False)) (fun _ _ h=>h)) (base':=w.heap.size) (fun k hk=>by have:=(hown.lt k hk).1;omega);clear ho2 hown hg hb1 hb2 Ao q0 q1 q2 hB;go_wp2;go_ret;exact Ck rfl rfl hbw r1 (by rw [show w0.drew.heap.size=w.heap.size+1 from hs0] at r2;simpa [eB] using r2)
def kF (t:Int):Nat:=if t=1 then 134 else if t=2 then 141 else if t=3 then 142 else if t=4 then 143 else if t=5 then 144 else if t=6 then 145 else if t=7 then 147 else if t=8 then 150 else if t=9 then 151 else if t=10 then 152 else 153
theorem II {t:Int}(h:jy t)(K:Nat)(w:World):(method 332 (kP t) (.pointer (some ⟨K,0,none⟩)) "pianola/actors.fired").run Tryz.prog w=.ok (131,.pointer (some ⟨K,0,none⟩)) w:=by
 rcases h with rfl | rfl | rfl | rfl | rfl | rfl | rfl | rfl | rfl | rfl | rfl <;> kernel_rfl
theorem Ap {t:Int}(h:jy t)(K:Nat)(w:World):(method 332 (kP t) (.pointer (some ⟨K,0,none⟩)) "pianola/actors.rates").run Tryz.prog w=.ok (133,.pointer (some ⟨K,0,none⟩)) w:=by
 rcases h with rfl | rfl | rfl | rfl | rfl | rfl | rfl | rfl | rfl | rfl | rfl <;> kernel_rfl
theorem FM {t:Int}(h:jy t)(K:Nat)(w:World):(method 332 (kP t) (.pointer (some ⟨K,0,none⟩)) "pianola/actors.reckon").run Tryz.prog w=.ok (kF t,.pointer (some ⟨K,0,none⟩)) w:=by
 rcases h with rfl | rfl | rfl | rfl | rfl | rfl | rfl | rfl | rfl | rfl | rfl <;> kernel_rfl
def xH (w:World)(K:Nat)(ks:TypeId)(cells:Array Value)(outs:List (List Int))(e:Ending)(w':World):Prop :=
 ∃ ov,e=.returned (.tuple #[ov,.bool true])/\aG (fun k=>k=K) w w'/\w'.heap[K]?=some (.cells cells ks (0,0))/\kX w' (canon w.heap.size K) 1 ov outs
def uX (w:World)(e:Ending)(w':World):Prop:=(∃ ov,e=.returned (.tuple #[ov,.bool false]))/\Below w.heap.size w w'
theorem pV (w:World)(l:List Int)(hl:l.length<=1000000):(w.alloc (.cells (bB l).toArray 3)).ownsRow w.heap.size 3 1 (.slice (some ⟨w.heap.size,0,none⟩) l.length l.length) l.length (bB l) :=
 ⟨by simp,.inr ⟨w.heap.size,l.length,(bB l).toArray,rfl,Nat.le_refl _,heap_alloc_new w _,Nat.le_refl _,by unfold maxLen;omega,by simp,by simp [List.take_of_length_le]⟩⟩
theorem FN {w w1:World}{K:Nat}{ks:TypeId}{cells:Array Value}{l:List Int}{e:Ending}(he:e=.returned (.tuple #[.slice (some ⟨w1.heap.size+1,0,none⟩) 1 1,.bool true]))(hl:l.length<=1000000)(hm:aG (fun k=>k=K) w w1)(hK:w1.heap[K]?=some (.cells cells ks (0,0)))(Sw:K < w.heap.size) :
  xH w K ks cells [l] e ((w1.alloc (.cells (bB l).toArray 3)).alloc (.cells #[.slice (some ⟨w1.heap.size,0,none⟩) l.length l.length] 27)):=by
 have hs:=hm.size;have h1:=bI (pV w1 l hl) (base':=w.heap.size) (fun k hk=>by have e:w1.heap.size=k:=Option.some.inj hk;omega);have h2:=wC (w1:=w1.alloc (.cells (bB l).toArray 3)) (N:=w.heap.size) (R:=K) h1 (by simp;omega) (fun e=>by have e:w1.heap.size=K:=Option.some.inj e;omega) (by simp;omega);simp only [World.size_alloc] at h2;exact ⟨_,he,(hm.alloc _).alloc _,aI (aI hK _) _,h2⟩
theorem sD {w w1:World}{K:Nat}{ks:TypeId}{cells:Array Value}{z z':Int}{n:Nat}{e:Ending}(he:e=.returned (.tuple #[.slice (some ⟨n+1,0,none⟩) 1 1,.bool true]))(hz:z'=z)(hn:n=w1.heap.size)(hm:aG (fun k=>k=K) w w1)(hK:w1.heap[K]?=some (.cells cells ks (0,0)))(Sw:K < w.heap.size) :
  xH w K ks cells [[z]] e ((w1.alloc (.cells #[.int .i64 z'] 3)).alloc (.cells #[.slice (some ⟨n,0,none⟩) 1 1] 27)):=by
 subst hz hn;exact FN (l:=[z']) he (by simp) hm hK Sw
theorem xI {x y:Int}(hx:-9223372036854775808<=x/\x<=9223372036854775807)(h0:¬ y=0)(h1:¬ y = -1):wrap64 (x.tdiv y)=x.tdiv y:=by
 refine IntWalk.wrap64_in _ ?_
 by_cases h2:y=1
 ·
  subst h2;simpa using hx
 ·
  have h3:2<=y.natAbs:=by omega
  have h4:(x.tdiv y).natAbs=x.natAbs / y.natAbs:=Int.natAbs_tdiv x y;have h5:x.natAbs / y.natAbs<=x.natAbs / 2:=Nat.div_le_div_left h3 (by omega);omega
theorem Md (w:World)(K:Nat)(bF:Value)(cells:Array Value)(l:List Int)(hp:0 < l.length)(hK:w.heap[K]?=some (.cells cells 150 (0,0)))(hins:LL w bF [l]) :
  Calls Tryz.prog 142 #[.pointer (some ⟨K,0,none⟩),bF] w (xH w K 150 cells [[l[0]?.getD 0]]):=by
 obtain ⟨Uu,Me,rfl⟩:=hins.slice;obtain ⟨bi,oi,ie,hci,hrow⟩:=hins.at (by simp);subst ie;obtain ⟨a0,c0,hr0,hh0⟩:=hrow 0 (by simp);obtain ⟨b0,o0,e0,-,hc0,-,-,hcell⟩:=cu.at hh0 (by have:=hp;simp;omega);subst e0;have hx0:=hcell 0 (by have:=hp;simp;omega);rw [iC (by have:=hp;simp;omega)] at hx0;simp only [List.getElem?_cons_zero,Option.getD_some,Nat.add_zero,List.length_cons,List.length_nil,Nat.zero_add] at hr0 hx0 hc0 hci;clear hcell hrow hh0 hins;have hlp:(0:Int) < l.length:=by omega
 generalize l[0]?.getD 0=x at *;go_enter Tryz.func142,Tryz.ntmps142;go_wp2;go_ret2;exact FN (l:=[x]) rfl (by simp) (aG.refl _ w) hK (block_lt hK)
theorem Mf (w:World)(K:Nat)(bF:Value)(cells:Array Value)(hK:w.heap[K]?=some (.cells cells 170 (0,0))) :
  Calls Tryz.prog 153 #[.pointer (some ⟨K,0,none⟩),bF] w (xH w K 170 cells []):=by
 go_enter Tryz.func153,Tryz.ntmps153;go_wp2;go_ret2;exact ⟨_,rfl,aG.refl _ _,hK,kX.nil _ _ _⟩
theorem Po (u:Nat)(x:Int)(hu:1<=u):(bB (List.replicate u 0)).set 0 (iv x)=bB (x :: List.replicate (u - 1) 0):=by
 obtain ⟨m,rfl⟩:∃ m,u=m+1:=⟨u - 1,by omega⟩;rfl
theorem Uv (w:World)(K:Nat)(vi vo nv bF:Value)(x:Int)(u:Nat)(hu:1<=u)(hu2:u<=64)(hK:w.heap[K]?=some (.cells #[vi,vo,nv] 148 (0,0)))(Aq:Has w vo (bB [(u:Int)]))(hins:LL w bF [[x]]) :
  Calls Tryz.prog 141 #[.pointer (some ⟨K,0,none⟩),bF] w (xH w K 148 #[vi,vo,nv] [x :: List.replicate (u - 1) 0]):=by
 obtain ⟨Uu,Me,rfl⟩:=hins.slice;obtain ⟨bi,oi,ie,hci,hrow⟩:=hins.at (by simp);subst ie;obtain ⟨a0,c0,hr0,hh0⟩:=hrow 0 (by simp);obtain ⟨b0,o0,e0,-,hc0,-,-,hcell⟩:=cu.at hh0 (by simp);subst e0;have hx0:=hcell 0 (by simp);simp at hr0 hx0 hc0 hci;clear hcell hrow hh0 hins;obtain ⟨oao,ocp,rfl⟩:=Aq.slice;obtain ⟨bo,oo,eo,-,hco,-,-,Pp⟩:=cu.at Aq (by simp);subst eo;have hu0:=Pp 0 (by simp);simp at hu0 hco;have hk1:=ah w K hK 1 _ rfl;obtain ⟨i0,hi,hz0,hz1,hz2⟩:=info_parts bU;obtain ⟨w1,hr,hown,hg⟩:=run_make_full (P:=Tryz.prog) w w.heap.size 27 3 i0 _ 1 Tryz.underlying27 hi hz0 hz1 .i64 .i64 u (by rw [hz2];omega) (by unfold maxLen;omega) (Nat.le_refl _);have hb1:Below w.heap.size w w1:=((aG.refl (fun _=>False) w).grown hg (fun k hk _=>by cases hk)).below (Nat.le_refl _) (fun _ _ h=>h);rw [lM] at hown;have r1:=cell_later hb1 hr0;have x1:=cell_later hb1 hx0;have hK1:=aN hK (aG.of_below hb1 (fun _=>False)) (fun h=>h);obtain ⟨-,-,g',-,eg,hcg,hfg,-⟩:=bQ hown (by simp;omega);cases eg
 have ab4:=hcg 0 (iv 0) (by rw [bB,List.map_replicate,List.getElem?_replicate,if_pos (by omega)]);have ab5:=hfg 0;obtain ⟨ho2,hg2⟩:=hown.stored 0 (iv x);rw [Po u x hu] at ho2;have hm2:aG (fun k=>k=K) w (w1.setCell ⟨w.heap.size,0,none⟩ (iv x)):=((aG.of_below hb1 _).grown hg2 (fun k hk hlt=>by have e:w.heap.size=k:=Option.some.inj hk;omega));have Sw:=block_lt hK;have hs1:=hb1.size;have hK2:(w1.setCell ⟨w.heap.size,0,none⟩ (iv x)).heap[K]?=_:=gV hK1 (by show K≠w.heap.size;omega) _;have hui:(1:Int)<=u:=by omega
 clear hcg hfg hown hg Pp Aq hg2 hb1;go_enter Tryz.func141,Tryz.ntmps141;go_wp2;go_ret2;have hl:(x :: List.replicate (u - 1) (0:Int)).length=u:=by simp;omega
 have h2:=wC (w1:=w1.setCell ⟨w.heap.size,0,none⟩ (iv x)) (N:=w.heap.size) (R:=K) (v:=.slice (some ⟨w.heap.size,0,none⟩) u u) (l:=x :: List.replicate (u - 1) 0) (by rw [hl];exact ho2) hm2.size (fun e=>by have e:w.heap.size=K:=Option.some.inj e;omega) (by have:=hm2.size;omega);exact ⟨.slice (some ⟨w1.heap.size,0,none⟩) 1 1,rfl,hm2.alloc _,aI hK2 _,by rw [jk] at h2;exact h2⟩
def jI (x y:Int):Option Int:=if y=0 then none else if y = -1 then (if Fits (0 - x) then some (0 - x) else none) else some (x.tdiv y)
theorem xJ {w w1:World}{e:Ending}{ov:Value}(he:e=.returned (.tuple #[ov,.bool false]))(hb:Below w.heap.size w w1):uX w e w1:=⟨⟨ov,he⟩,hb⟩
theorem Mg (w:World)(K:Nat)(bF:Value)(cells:Array Value)(x y:Int)(hfx:Fits x)(Pn:Fits y)(hK:w.heap[K]?=some (.cells cells 158 (0,0)))(hins:LL w bF [[x],[y]]) :
  Calls Tryz.prog 147 #[.pointer (some ⟨K,0,none⟩),bF] w fun e w'=>match jI x y with
   | some z=>xH w K 158 cells [[z]] e w'
   | none=>uX w e w':=by
 obtain ⟨Uu,Me,rfl⟩:=hins.slice;obtain ⟨bi,oi,ie,hci,hrow⟩:=hins.at (by simp);subst ie;obtain ⟨a0,c0,hr0,hh0⟩:=hrow 0 (by simp);obtain ⟨b0,o0,e0,-,hc0,-,-,hcell⟩:=cu.at hh0 (by simp);subst e0;have hx0:=hcell 0 (by simp);obtain ⟨a1,c1,hr1,ZN⟩:=hrow 1 (by simp);obtain ⟨b1,o1,e1,-,hc1,-,-,hcell1⟩:=cu.at ZN (by simp);subst e1;have hx1:=hcell1 0 (by simp);simp at hr0 hx0 hc0 hci hr1 hx1 hc1;clear hcell hrow hh0 hins hcell1 ZN;have HX:=af hfx;have HY:=af Pn;have ab6:(2:Int)<=Me:=by omega
 by_cases h0:y=0
 ·
  subst h0;rw [show jI x 0=none from rfl];clear hfx Pn;go_enter Tryz.func147,Tryz.ntmps147;go_wp2;go_quiet (fail);go_wp2;go_ret2;exact xJ rfl (cK (Below.refl _ _))
 ·
  by_cases h1:y = -1
  ·
   subst h1
   by_cases hf:Fits (0 - x)
   ·
    rw [show jI x (-1)=some (0 - x) by unfold jI;rw [if_neg (by decide),if_pos rfl,if_pos hf]];have HF:=af hf;clear hfx Pn hf;go_enter Tryz.func147,Tryz.ntmps147;go_wp2;go_quiet (fail);go_wp2_with fail;refine (Ul _ 0 x (by unfold Fits;omega) HX.out HF.out).mono ?_;rintro e w1 ⟨rfl,rfl⟩;go_wp2;go_ret2;exact sD rfl (by omega) rfl ((aG.refl _ w).drewN _) hK (block_lt hK)
   ·
    rw [show jI x (-1)=none by unfold jI;rw [if_neg (by decide),if_pos rfl,if_neg hf]];have HF:=af hf;clear hfx Pn hf;go_enter Tryz.func147,Tryz.ntmps147;go_wp2;go_quiet (fail);go_wp2_with fail;refine (Xx _ 0 x (by unfold Fits;omega) HX.out HF.out).mono ?_;rintro e w1 ⟨rfl,rfl⟩;go_wp2;go_ret2;exact xJ rfl (((cK (Below.refl _ _)).alloc (Nat.le_refl _) _).alloc (by simp) _)
  ·
   rw [show jI x y=some (x.tdiv y) by unfold jI;rw [if_neg h0,if_neg h1]];have h0b:(y == 0)=false:=by simpa using h0
   have h1b:(y == -1)=false:=by simpa using h1
   unfold Fits at hfx Pn;go_enter Tryz.func147,Tryz.ntmps147;go_wp2;go_quiet (fail);go_wp2;go_ret2;exact sD rfl (xI hfx h0 h1) rfl ((aG.refl _ w).drewN _) hK (block_lt hK)
theorem Ar {w w1:World}{K:Nat}{ks:TypeId}{cells:Array Value}(hm:aG (fun _=>False) w w1)(hK:w.heap[K]?=some (.cells cells ks (0,0)))(i:Nat)(u:Value) :
  aG (fun k=>k=K) w (w1.setCell ⟨K,i,none⟩ u)/\(w1.setCell ⟨K,i,none⟩ u).heap[K]?=some (.cells (cells.setIfInBounds i u) ks (0,0)) :=
 ⟨(hm.mono (G:=fun k=>k=K) (fun _ _ h=>h.elim)).setCell (F:=fun k=>k=K) (p:=⟨K,i,none⟩) (fun _=>rfl) u,block_setCell (aN hK hm (fun h=>h)) i u⟩
theorem Pq (w:World)(K:Nat)(vi vo nv bF:Value)(s x:Int)(hfs:Fits s)(hfx:Fits x)(hK:w.heap[K]?=some (.cells #[vi,vo,nv,.int .i64 s] 163 (0,0)))(hins:LL w bF [[x]]) :
  Calls Tryz.prog 150 #[.pointer (some ⟨K,0,none⟩),bF] w fun e w'=>if Fits (s+x) then xH w K 163 #[vi,vo,nv,.int .i64 (s+x)] [[s+x]] e w' else uX w e w':=by
 obtain ⟨Uu,Me,rfl⟩:=hins.slice;obtain ⟨bi,oi,ie,hci,hrow⟩:=hins.at (by simp);subst ie;obtain ⟨a0,c0,hr0,hh0⟩:=hrow 0 (by simp);obtain ⟨b0,o0,e0,-,hc0,-,-,hcell⟩:=cu.at hh0 (by simp);subst e0;have hx0:=hcell 0 (by simp);simp at hr0 hx0 hc0 hci;clear hcell hrow hh0 hins;have HX:=af hfx;have HS:=af hfs;have k3:=ah w K hK 3 (.int .i64 s) rfl;have kf:=aj hK 3;clear hfx hfs
 by_cases hf:Fits (s+x)
 ·
  simp only [if_pos hf];have HF:=af hf;clear hf;go_enter Tryz.func150,Tryz.ntmps150;go_wp2;go_quiet ((go_at_call 137;exact Calls.quiet_of_same ((zP _ s x HS.out HX.out HF.out).mono fun e w' ⟨h1,h2⟩=>⟨h1,h2.symm⟩)));go_wp2;go_ret2;obtain ⟨h1,h2⟩:=Ar (w1:=w.drewN nq) ((aG.refl _ w).drewN nq) hK 3 (.int .i64 (s+x));exact sD rfl rfl (by rw [jk];rfl) h1 h2 (block_lt hK)
 ·
  simp only [if_neg hf];have HF:=af hf;clear hf;go_enter Tryz.func150,Tryz.ntmps150;go_wp2;go_quiet ((go_at_call 137;exact Calls.quiet_of_same ((D5 _ s x HS.out HX.out HF.out).mono fun e w' ⟨h1,h2⟩=>⟨h1,h2.symm⟩)));go_wp2;go_ret2;exact xJ rfl (((cK (Below.refl _ _)).alloc (Nat.le_refl _) _).alloc (by simp) _)
theorem Mh (w:World)(K:Nat)(vi vo nv bF:Value)(s x:Int)(hfs:Fits s)(hfx:Fits x)(hK:w.heap[K]?=some (.cells #[vi,vo,nv,.int .i64 s,.int .i64 x] 168 (0,0))) :
  Calls Tryz.prog 152 #[.pointer (some ⟨K,0,none⟩),bF] w fun e w'=>if Fits (s+x) then xH w K 168 #[vi,vo,nv,.int .i64 (s+x),.int .i64 x] [[s]] e w' else uX w e w':=by
 have HX:=af hfx;have HS:=af hfs;have k3:=ah w K hK 3 (.int .i64 s) rfl;have k4:=ah w K hK 4 (.int .i64 x) rfl;have kf:=aj hK 3;clear hfx hfs
 by_cases hf:Fits (s+x)
 ·
  simp only [if_pos hf];have HF:=af hf;clear hf;go_enter Tryz.func152,Tryz.ntmps152;go_wp2;go_quiet ((go_at_call 137;exact Calls.quiet_of_same ((zP _ s x HS.out HX.out HF.out).mono fun e w' ⟨h1,h2⟩=>⟨h1,h2.symm⟩)));go_wp2;go_ret2;obtain ⟨h1,h2⟩:=Ar (w1:=w.drewN nq) ((aG.refl _ w).drewN nq) hK 3 (.int .i64 (s+x));exact sD rfl rfl (by rw [jk];rfl) h1 h2 (block_lt hK)
 ·
  simp only [if_neg hf];have HF:=af hf;clear hf;go_enter Tryz.func152,Tryz.ntmps152;go_wp2;go_quiet ((go_at_call 137;exact Calls.quiet_of_same ((D5 _ s x HS.out HX.out HF.out).mono fun e w' ⟨h1,h2⟩=>⟨h1,h2.symm⟩)));go_wp2;go_ret2;exact xJ rfl (((cK (Below.refl _ _)).alloc (Nat.le_refl _) _).alloc (by simp) _)
theorem au (w:World)(x:Obj):Below w.heap.size w (w.alloc x):=(Below.refl _ _).alloc (Nat.le_refl _) _
theorem Kept.of_below {B:Nat}{o:Col}{w0 w w':World}(h:Kept B o w0 w)(c:Nat)(hb:Below w.heap.size w w'):Kept B (ext o w.heap.size c) w0 w':=h.turn (Turn.of_below o c hb) (fun h=>h)
theorem Kept.drewN {B:Nat}{o:Col}{w0 w:World}(h:Kept B o w0 w)(m:Nat):Kept B o w0 (w.drewN m):=h.turn (Turn.jE o ⟨m,rfl⟩) (fun h=>h)
theorem gJ {w w2:World}{N e sz:Nat}{tmp:Obj}{v:Value}{n:Nat}{xs:List Value}(hi:w.ownsRow N e sz v n xs)(hg:(w.alloc tmp).grownBy w2 v.ownBlock)(hb:N<=w.heap.size):Below N w w2 :=
 (((aG.refl (fun k=>v.ownBlock=some k) w).alloc tmp).grown hg (fun k hk _=>hk)).below hb fun k hk e=>by have:=(hi.lt k e).1;omega
theorem Has.drewN {w:World}{v:Value}{vs:List Value}(h:Has w v vs)(m:Nat):Has (w.drewN m) v vs:=cu.drewN h m
def fq (v:Value)(w:World)(e:Ending)(w':World):Prop:=e=.returned v/\Below w.heap.size w w'
def pW (v:Value)(w:World)(e:Ending)(w':World):Prop:=e=.returned v/\w=w'
def wE (ins:List (List Int))(j:Nat):List Int:=ins.map fun l=>l[j]?.getD 0
def dN (ins:List (List Int))(m:Nat):List Int:=(List.range m).flatMap (wE ins)
theorem yS (ins:List (List Int))(m:Nat):dN ins (m+1)=dN ins m ++ wE ins m:=by simp [dN,List.range_succ]
theorem FO (ins:List (List Int))(j i:Nat)(h:i < ins.length):wE (ins.take (i+1)) j=wE (ins.take i) j ++ [(ins[i]?.getD [])[j]?.getD 0]:=by
 rw [List.take_succ_eq_append_getElem h];unfold wE;rw [List.map_append]
 congr 1
 simp [h]
theorem uY (ins:List (List Int))(m:Nat):(dN ins m).length=m*ins.length:=by
 induction m with
 | zero=>simp [dN]
 | succ m ih=>rw [yS,List.length_append,ih];simp [wE,Nat.add_mul]
theorem IJ (w:World)(K:Nat)(vi vo nv bF:Value)(n m:Nat)(ins:List (List Int))(hn:n<=16)(hm:m<=64)(hn1:1<=n)(Pt:ins.length=n)(Ws:∀ l∈ins,l.length=m)(hK:w.heap[K]?=some (.cells #[vi,vo,nv] 152 (0,0)))
  (ZO:Has w vi (bB (List.replicate n (m:Int)))) (Aq:Has w vo (bB [(n:Int)*m])) (hins:LL w bF ins) :
  Calls Tryz.prog 143 #[.pointer (some ⟨K,0,none⟩),bF] w (xH w K 152 #[vi,vo,nv] [dN ins m]):=by
 obtain ⟨i0,hi,hz0,hz1,hz2⟩:=info_parts bU;have hnm:n*m<=16*64:=Nat.mul_le_mul hn hm;obtain ⟨oao,ocp,rfl⟩:=Aq.slice;obtain ⟨bo,oo,eo,-,hco,-,-,Pp⟩:=cu.at Aq (by simp);subst eo;have hu0:=Pp 0 (by simp);obtain ⟨qao,qcp,rfl⟩:=ZO.slice;obtain ⟨bq,oq,eq,-,hcq,-,-,ZP⟩:=cu.at ZO (by simp;omega);subst eq;have hq0:=ZP 0 (by simp;omega);rw [iC (by simp;omega),List.getElem?_replicate,if_pos (by omega)] at hq0;simp at hu0 hco hq0 hcq;have hk0:=ah w K hK 0 _ rfl;have hk1:=ah w K hK 1 _ rfl;simp at hk0 hk1;have ZQ:((n*m:Nat):Int)=(n:Int)*m:=by push_cast;rfl
 obtain ⟨w1,hr,hown,hg⟩:=run_make_own (P:=Tryz.prog) w w.heap.size 27 3 i0 _ 1 Tryz.underlying27 hi hz0 hz1 .i64 .i64 (n*m) (by rw [hz2];omega) (by unfold maxLen;omega) (Nat.le_refl _);rw [ZQ] at hr;have hb1:Below w.heap.size w w1:=((aG.refl (fun _=>False) w).grown hg (fun k hk _=>by cases hk)).below (Nat.le_refl _) (fun _ _ h=>h);have hs1:=hb1.size;have q1:=cell_later hb1 hq0;have abq:=cell_later hb1 hk0;have HI:=af hins;have HL:=af Pt;have HM:=af Ws;obtain ⟨Uu,Me,rfl⟩:=hins.slice;have hni:(n:Int)<=16:=by omega
 have Pv:(m:Int)<=64:=by omega
 have abr:(1:Int)<=n:=by omega
 have HK:=af hK;have Sw:=block_lt hK;rw [Pt];clear Pp ZP ZO Aq ZQ hg hins Pt Ws hK;go_enter Tryz.func143,Tryz.ntmps143;go_wp2_with fail
 go_loopw [6,24] (fun v i wr=>∃ k:Nat,k<=m/\i=.int .i64 k/\wr.ownsRow w.heap.size 3 1 v (dN ins k).length (bB (dN ins k))/\Below w.heap.size w wr) (fun _ i _=>m - (intOf i).toNat)
 case atStart=>exact ⟨0,Nat.zero_le _,rfl,by simpa [dN] using hown,hb1⟩
 case round =>
  clear hown hb1 hs1 q1 abq hr;obtain ⟨k,hk,rfl,ho,hb⟩:=hrel
  by_cases hlt:k < m
  ·
   have bX:(k:Int) < m:=by omega
   go_wp2_with fail
   go_loopw [6,29] (fun v i wr=>∃ j:Nat,j<=n/\i=.int .i64 j/\wr.ownsRow w.heap.size 3 1 v (dN ins k ++ wE (ins.take j) k).length (bB (dN ins k ++ wE (ins.take j) k))/\Below w.heap.size w wr) (fun _ i _=>n - (intOf i).toNat)
   case atStart=>exact ⟨0,Nat.zero_le _,rfl,by simpa [wE] using ho,hb⟩
   case round =>
    clear ho hb;obtain ⟨j,hj,rfl,ho,hb⟩:=hrel;have hs:=hb.size
    by_cases hjn:j < n
    ·
     have Uw:(j:Int) < n:=by omega
     obtain ⟨bi,oi,ie,hci,hrow⟩:=HI.out.at (by have:=HL.out;omega);subst ie;obtain ⟨a0,c0,hr0,hh0⟩:=hrow j (by have:=HL.out;omega);have hlm:(ins[j]?.getD []).length=m:=by
      have hjl:j < ins.length:=by have:=HL.out;omega
      simp only [List.getElem?_eq_getElem hjl,Option.getD_some];exact HM.out _ (List.getElem_mem hjl)
     rw [hlm] at hr0 hh0;obtain ⟨b0,o0,e0,-,hc0,-,-,hcell⟩:=cu.at hh0 (by rw [aX,hlm];omega);subst e0;have hx0:=hcell k (by rw [aX,hlm];exact hlt);rw [iC (by rw [hlm];exact hlt)] at hx0;have hr1:=cell_later hb hr0;have hx1:=cell_later hb hx0;have hlen:(dN ins k ++ wE (ins.take j) k).length<=2000:=by
      rw [List.length_append,uY];have:=HL.out;have h1:k*ins.length<=64*16:=Nat.mul_le_mul (by omega) (by omega);simp [wE];omega
     have HS:=af (FO ins k j (by have:=HL.out;omega));generalize (ins[j]?.getD [])[k]?.getD 0=x at hx1 HS;obtain ⟨sv,cv,rfl⟩:=aA ho;have XJ:(n:Int)<=Me:=by have:=HL.out;omega
     have ab7:(m:Int)<=c0:=by omega
     clear hcell hrow hh0 hr0 hx0 hlm;generalize hacc:dN ins k ++ wE (ins.take j) k=acc at ho hlen;have HA:=af hacc;have Hlen:=af hlen;clear hacc hlen;go_wp2_with (at_builtin;refine aU ?_);refine dR ?_;refine aS rfl _ _ 27 rfl w.heap.size 3 i0 _ 1 8 Tryz.underlying27 hi hz0 hz1 hz2 rfl (.slice sv acc.length cv) acc.length _ rfl (ho.alloc (.cells #[.int .i64 x] 3)) (some ⟨wr.heap.size,0,none⟩) 1 1 [.int .i64 x] rfl rfl (fun h=>by cases h) (bC wr [.int .i64 x] 3) (by simp [Value.oneCell']) (by have:=Hlen.out;unfold maxLen;omega) (bA (by have:=Hlen.out;omega)) (gy hs _) ?_;intro v5 w5 k1 k20 _ _;have k2:(wr.alloc (.cells #[.int .i64 x] 3)).grownBy w5 (Value.slice sv acc.length cv).ownBlock:=k20;have hb5:=hb.trans (gJ ho k2 hs);have k3:w5.ownsRow w.heap.size 3 1 v5 (dN ins k ++ wE (ins.take (j+1)) k).length (bB (dN ins k ++ wE (ins.take (j+1)) k)):=by
      rw [HS.out,<- List.append_assoc,HA.out];simpa using k1
     clear k1 k20 k2 ho hb;go_wp2;go_roundw
     case rel=>exact ⟨j+1,by omega,by go_num,k3,hb5⟩
     case measure=>simp [intOf];omega
    ·
     obtain rfl:j=n:=by omega
     rw [List.take_of_length_le (by have:=HL.out;omega),<- yS] at ho;go_wp2;go_roundw
     case rel=>exact ⟨k+1,by omega,by go_num,ho,hb⟩
     case measure=>simp [intOf];omega
  ·
   obtain rfl:k=m:=by omega
   obtain ⟨sv,cv,rfl⟩:=aA ho;go_wp2;go_ret2;have hs:=hb.size;have h2:=wC (R:=K) ho hs (fun e=>by have:=(ho.lt K e).1;omega) (by omega);exact ⟨_,rfl,(aG.of_below hb _).alloc _,aI (aN HK.out (aG.of_below hb (fun _=>False)) (fun h=>h)) _,h2⟩
def firsts (ins:List (List Int)):List Int:=ins.map fun l=>l[0]?.getD 0
theorem FP (ins:List (List Int))(i:Nat)(h:i < ins.length):firsts (ins.take (i+1))=firsts (ins.take i) ++ [(ins[i]?.getD [])[0]?.getD 0]:=FO ins 0 i h
def Ux (w:World)(K:Nat)(ks:TypeId)(r:Option (Array Value × List (List Int)))(e:Ending)(w':World):Prop :=
 match r with
 | some (cells,outs)=>xH w K ks cells outs e w'
 | none=>uX w e w'
theorem Pw (w:World)(K:Nat)(bF:Value)(cells:Array Value)(ins:List (List Int))(hn:ins.length<=1000)(hp:∀ l∈ins,0 < l.length)(hf:∀ x∈firsts ins,Fits x)(hK:w.heap[K]?=some (.cells cells 156 (0,0)))(hins:LL w bF ins) :
  Calls Tryz.prog 145 #[.pointer (some ⟨K,0,none⟩),bF] w (Ux w K 156 ((oH 0 (firsts ins)).map fun y=>(cells,[[y]]))):=by
 obtain ⟨i0,hi,hz0,hz1,hz2⟩:=info_parts bU;have HI:=af hins;have HP:=af hp;have HF:=af hf;have HN:=af hn;have hni:(ins.length:Int)<=1000:=by omega
 obtain ⟨Uu,Me,rfl⟩:=hins.slice;have HK:=af hK;have Sw:=block_lt hK;clear hins hp hf hn hK;go_enter Tryz.func145,Tryz.ntmps145;go_wp2_with fail
 go_loopw [6,13] (fun v i wr=>∃ j:Nat,j<=ins.length/\i=.int .i64 j/\wr.ownsRow w.heap.size 3 1 v (firsts (ins.take j)).length (bB (firsts (ins.take j)))/\Below w.heap.size w wr) (fun _ i _=>ins.length - (intOf i).toNat)
 case atStart=>exact ⟨0,Nat.zero_le _,rfl,by simpa [firsts] using World.ownsRow_nil w w.heap.size 3 1,Below.refl _ _⟩
 case round =>
  obtain ⟨j,hj,rfl,ho,hb⟩:=hrel;have hs:=hb.size;obtain ⟨sv,cv,rfl⟩:=aA ho
  by_cases hjn:j < ins.length
  ·
   have Uw:(j:Int) < ins.length:=by omega
   obtain ⟨bi,oi,ie,hci,hrow⟩:=HI.out.at (by omega);subst ie;obtain ⟨a0,c0,hr0,hh0⟩:=hrow j hjn;have hlm:0 < (ins[j]?.getD []).length:=by
    simp only [List.getElem?_eq_getElem hjn,Option.getD_some];exact HP.out _ (List.getElem_mem hjn)
   obtain ⟨b0,o0,e0,-,hc0,-,-,hcell⟩:=cu.at hh0 (by rw [aX];exact hlm);subst e0;have hx0:=hcell 0 (by rw [aX];exact hlm);rw [iC hlm,Nat.add_zero] at hx0;have hr1:=cell_later hb hr0;have hx1:=cell_later hb hx0;have HS:=af (FP ins j hjn);have hlen:(firsts (ins.take j)).length<=1000:=by simp [firsts];have:=HN.out;omega
   have abt:(0:Int) < (ins[j]?.getD []).length:=by omega
   have XJ:(ins.length:Int)<=Me:=by omega
   generalize (ins[j]?.getD [])[0]?.getD 0=x at hx1 HS;generalize (ins[j]?.getD []).length=lm at hr1 hlm abt hc0;generalize hacc:firsts (ins.take j)=acc at ho hlen;have HA:=af hacc;have Hlen:=af hlen;clear hcell hrow hh0 hr0 hx0 hacc hlen;go_wp2_with (at_builtin;refine aU ?_);refine dR ?_;refine aS rfl _ _ 27 rfl w.heap.size 3 i0 _ 1 8 Tryz.underlying27 hi hz0 hz1 hz2 rfl (.slice sv acc.length cv) acc.length _ rfl (ho.alloc (.cells #[.int .i64 x] 3)) (some ⟨wr.heap.size,0,none⟩) 1 1 [.int .i64 x] rfl rfl (fun h=>by cases h) (bC wr [.int .i64 x] 3) (by simp [Value.oneCell']) (by have:=Hlen.out;unfold maxLen;omega) (bA (by have:=Hlen.out;omega)) (gy hs _) ?_;intro v5 w5 k1 k20 _ _;have k2:(wr.alloc (.cells #[.int .i64 x] 3)).grownBy w5 (Value.slice sv acc.length cv).ownBlock:=k20;have hb5:=hb.trans (gJ ho k2 hs);have k3:w5.ownsRow w.heap.size 3 1 v5 (firsts (ins.take (j+1))).length (bB (firsts (ins.take (j+1)))):=by
    rw [HS.out,HA.out];simpa using k1
   clear k1 k20 k2 ho hb;go_wp2;go_roundw
   case rel=>exact ⟨j+1,by omega,by go_num,k3,hb5⟩
   case measure=>simp [intOf];omega
  ·
   obtain rfl:j=ins.length:=by omega
   rw [List.take_length] at ho;have hkb:=aN HK.out (aG.of_below hb (fun _=>False)) (fun h=>h);have Hints:=(Own.made (fun _=>0) 0 ho).vals.has;have hfl:(firsts ins).length<=1000:=by simp [firsts];exact HN.out
   obtain ⟨R,hR⟩:∃ R,oH 0 (firsts ins)=R:=⟨_,rfl⟩;go_wp2_with fail;have ZR:=ho.1;refine (Un (l:=firsts ins) _ _ _ _ (by simpa using Hints) (by omega) HF.out).mono ?_;rintro e w1 ⟨rfl,rfl⟩;rw [hR];unfold FL;have HR:=af hR;clear hR Hints ho hfl ZR;cases R with
   | none =>
    go_wp2;go_ret2;rw [HR.out];exact xJ rfl ((hb.alloc hs _).alloc (by simp;omega) _)
   | some y =>
    go_wp2;go_ret2;rw [HR.out];exact sD rfl rfl rfl (aG.of_below hb _) hkb Sw
theorem xK (n:Nat):(madeCells (Value.cells (.slice none 0 0)) (n*1)).toList=List.replicate n (.slice none 0 0):=by
 rw [Nat.mul_one];simp [madeCells,Value.cells,Nat.mod_one,List.map_const']
theorem Cm {w1:World}{N K g n:Nat}(hown:w1.ownsRow N 27 1 (.slice (some ⟨g,0,none⟩) n n) n (List.replicate n (.slice none 0 0)))(hK:K < N):kX w1 (canon N K) 1 (.slice (some ⟨g,0,none⟩) n n) (List.replicate n []):=by
 have hrow:∀ k,k < n->(List.replicate n (Value.slice none 0 0))[k]?.getD undef=.slice none 0 0:=fun k hk=>by rw [List.getElem?_replicate,if_pos hk];rfl
 refine ⟨List.replicate n (.slice none 0 0),by simp,⟨by rw [List.length_replicate];exact bI hown (fun _ _=>Nat.zero_le _),fun k hk=>?_⟩,fun k hk=>?_,fun i j B hij hj hB=>?_,fun i B hi hB=>?_⟩
 ·
  have:=(hown.lt k hk).1;exact pR this (by omega)
 ·
  rw [List.length_replicate] at hk;rw [hrow k hk,List.getElem?_replicate,if_pos hk];exact Own.nil _ _ _ _ _
 ·
  rw [List.length_replicate] at hj;rw [hrow i (by omega)] at hB;simp [Value.ownBlock] at hB
 ·
  rw [List.length_replicate] at hi;rw [hrow i hi] at hB;simp [Value.ownBlock] at hB
theorem Uy {α:Type}(n k:Nat)(x y:α)(h:k < n):(List.replicate k x ++ List.replicate (n - k) y).set k x=List.replicate (k+1) x ++ List.replicate (n - (k+1)) y:=by
 rw [List.set_append_right _ _ (by simp),List.replicate_succ',List.append_assoc]
 congr 1
 simp only [List.length_replicate,Nat.sub_self];obtain ⟨m,hm⟩:∃ m,n - k=m+1:=⟨n - k - 1,by omega⟩;rw [hm,List.replicate_succ,show n - (k+1)=m by omega];rfl
theorem Mi (w:World)(K:Nat)(vi vo nv bF:Value)(x:Int)(n:Nat)(lo:List Int)(hlo:lo.length=n)(hn:n<=1000)(hK:w.heap[K]?=some (.cells #[vi,vo,nv] 165 (0,0)))(Aq:Has w vo (bB lo))(hins:LL w bF [[x]]) :
  Calls Tryz.prog 151 #[.pointer (some ⟨K,0,none⟩),bF] w (xH w K 165 #[vi,vo,nv] (List.replicate n [x])):=by
 obtain ⟨Uu,Me,rfl⟩:=hins.slice;obtain ⟨bi,oi,ie,hci,hrow⟩:=hins.at (by simp);subst ie;obtain ⟨a0,c0,hr0,hh0⟩:=hrow 0 (by simp);obtain ⟨b0,o0,e0,-,hc0,-,-,hcell⟩:=cu.at hh0 (by simp);subst e0;have hx0:=hcell 0 (by simp);simp at hr0 hx0 hc0 hci;clear hcell hrow hh0 hins;obtain ⟨oao,ocp,rfl⟩:=Aq.slice;rw [aX,hlo] at hK Aq ⊢;clear Aq hlo;have hk1:=ah w K hK 1 _ rfl;simp at hk1;obtain ⟨i0,hi,hz0,hz1,hz2⟩:=info_parts lK;obtain ⟨w1,hr,hown,hg⟩:=run_make_full (P:=Tryz.prog) w w.heap.size 43 27 i0 _ 1 Tryz.underlying43 hi hz0 hz1 .i64 .i64 n (by rw [hz2];omega) (by unfold maxLen;omega) (Nat.le_refl _);have hb1:Below w.heap.size w w1:=((aG.refl (fun _=>False) w).grown hg (fun k hk _=>by cases hk)).below (Nat.le_refl _) (fun _ _ h=>h);rw [xK] at hown;have hO:=Cm (K:=K) hown (block_lt hK);have hs1:=hb1.size;have hni:(n:Int)<=1000:=by omega
 have HK:=af hK;have Sw:=block_lt hK;clear hown hg hK;go_enter Tryz.func151,Tryz.ntmps151;go_wp2_with fail;clear hr
 go_loopw [17] (fun i wr=>∃ k:Nat,k<=n/\i=.int .i64 k/\kX wr (canon w.heap.size K) 1 (.slice (some ⟨w.heap.size,0,none⟩) n n) (List.replicate k [x] ++ List.replicate (n - k) [])/\Below w.heap.size w wr) (fun i _=>n - (intOf i).toNat)
 case atStart=>exact ⟨0,Nat.zero_le _,rfl,by simpa using hO,hb1⟩
 case round =>
  clear hO hb1 hs1;obtain ⟨k,hk,rfl,hO,hb⟩:=hrel
  by_cases hlt:k < n
  ·
   have bX:(k:Int) < n:=by omega
   obtain ⟨vs,h1,h2,h3,h4,h5⟩:=hO;have hvl:vs.length=n:=by rw [h1];simp;omega
   obtain ⟨-,-,g',-,eg,hcg,hfg,hgw⟩:=bQ h2.1 (by omega);cases eg
   have abu:=ca (o:=.cells #[.int .i64 x] 3) (hcg k vs[k] (by simp [hvl,hlt]));have ab8:(wr.alloc (.cells #[.int .i64 x] 3)).frozen? ⟨w.heap.size,k,none⟩=false:=by
    have:=hfg k;rw [<- World.frozen?_of_block (w:=wr) (w':=wr.alloc (.cells #[.int .i64 x] 3)) (a:=⟨w.heap.size,k,none⟩) (Below.heap_alloc wr _ _ hgw)] at this;exact this
   have hr1:=cell_later hb hr0;have hx1:=cell_later hb hx0;have hs:=hb.size;have hwn:wr.heap.size≠K:=by omega
   have hO2:=kX.set (v':=.slice (some ⟨wr.heap.size,0,none⟩) 1 1) (l':=[x]) (w1:=wr.alloc (.cells #[.int .i64 x] 3)) (F:=fun _=>False) (i:=k) h1 h2 h3 h4 (fun i B hi hB e=>h5 i B hi hB (by rw [e];rfl)) (by simp;omega) ((aG.refl _ wr).alloc _) (fun _ _ h=>h.elim)
    ⟨bI (pV wr [x] (by simp)) (fun _ _=>Nat.zero_le _),fun j hj=>by obtain rfl:=Option.some.inj hj;exact pR hs hwn⟩ (.inr fun j hj=>by obtain rfl:=Option.some.inj hj;exact Nat.le_refl _)
   rw [Uy n k [x] [] hlt] at hO2;have hb2:Below w.heap.size w ((wr.alloc (.cells #[.int .i64 x] 3)).setCell ⟨w.heap.size,k,none⟩ (.slice (some ⟨wr.heap.size,0,none⟩) 1 1)):=(hb.alloc hs _).setCell (Nat.le_refl _) _;rw [World.setCell_alloc_past _ _ _ _ hgw] at hO2 hb2;generalize vs[k]=vk at abu;clear h1 h2 h3 h4 h5 hcg hfg hb hvl;go_wp2;go_roundw
   case rel=>exact ⟨k+1,by omega,by go_num,hO2,hb2⟩
   case measure=>simp [intOf];omega
  ·
   obtain rfl:k=n:=by omega
   go_wp2;go_ret2;rw [Nat.sub_self,List.replicate_zero,List.append_nil] at hO;exact ⟨_,rfl,aG.of_below hb _,aN HK.out (aG.of_below hb (fun _=>False)) (fun h=>h),hO⟩
def iV (n:Nat)(l:List Int)(k:Nat):List (List Int):=(List.range n).map fun i=>((List.range k).filter (fun q=>q % n == i)).map fun q=>l[q]?.getD 0
def gu (n m:Nat)(l:List Int):List (List Int):=(List.range n).map fun i=>(List.range m).map fun j=>l[j*n+i]?.getD 0
theorem tQ (n k:Nat)(l:List Int):(iV n l k).length=n:=by simp [iV]
theorem IK (n:Nat)(l:List Int):iV n l 0=List.replicate n []:=by simp [iV,List.map_const']
theorem Cn (n k i:Nat)(l:List Int)(hi:i < n):(iV n l k)[i]?.getD []=((List.range k).filter (fun q=>q % n == i)).map fun q=>l[q]?.getD 0:=by simp [iV,hi]
theorem BK (n k i:Nat)(l:List Int)(hi:i < n):((iV n l k)[i]?.getD []).length<=k:=by
 rw [Cn n k i l hi,List.length_map];have:=List.length_filter_le (fun q=>q % n == i) (List.range k)
 simpa using this
theorem IL (n k:Nat)(l:List Int)(hn:0 < n):iV n l (k+1)=(iV n l k).set (k % n) ((iV n l k)[k % n]?.getD [] ++ [l[k]?.getD 0]):=by
 have hkn:k % n < n:=Nat.mod_lt _ hn;refine List.ext_getElem (by simp [iV]) fun i h1 h2=>?_;have hi:i < n:=by simpa [iV] using h1
 rw [List.getElem_set];have e1:(iV n l (k+1))[i]=((List.range (k+1)).filter (fun q=>q % n == i)).map fun q=>l[q]?.getD 0:=by simp [iV]
 rw [e1,List.range_succ,List.filter_append,List.map_append]
 split
 ·
  rename_i he
  subst he;rw [Cn n k _ l hi];simp
 ·
  rename_i he
  have e2:(iV n l k)[i]'(by simp [iV,hi])=((List.range k).filter (fun q=>q % n == i)).map fun q=>l[q]?.getD 0:=by simp [iV]
  rw [e2];simp [he]
theorem IU (n m i:Nat)(hi:i < n):(List.range (n*m)).filter (fun q=>q % n == i)=(List.range m).map fun j=>j*n+i:=by
 induction m with
 | zero=>simp
 | succ m ih =>
  have e:(List.range n).filter (fun q=>(n*m+q) % n == i)=[i]:=by
   have h0:(List.range n).filter (fun q=>(n*m+q) % n == i)=(List.range n).filter (fun q=>q == i):=by
    refine List.filter_congr fun q hq=>?_;have hq:=List.mem_range.1 hq;rw [Nat.mul_add_mod,Nat.mod_eq_of_lt hq]
   rw [h0];obtain ⟨r,rfl⟩:∃ r,n=i+(1+r):=⟨n - i - 1,by omega⟩;rw [List.range_add,List.filter_append,List.filter_eq_nil_iff.2 (fun q hq=>by have:=List.mem_range.1 hq;simp;omega),List.range_add];simp only [List.map_append,List.filter_append,List.nil_append];have:(List.map (fun x=>i+x) (List.map (fun x=>1+x) (List.range r))).filter (fun q=>q == i)=[]:=List.filter_eq_nil_iff.2 fun q hq=>by
    simp at hq;obtain ⟨a,_,rfl⟩:=hq;simp
   rw [this];simp
  rw [Nat.mul_succ,List.range_add,List.filter_append,ih,List.filter_map,List.range_succ,List.map_append]
  congr 1
  show List.map _ ((List.range n).filter (fun q=>(n*m+q) % n == i))=_
  rw [e];simp [Nat.mul_comm]
theorem Mj (n m:Nat)(l:List Int):iV n l (n*m)=gu n m l:=by
 unfold iV gu;refine List.map_congr_left fun i hi=>?_;rw [IU n m i (List.mem_range.1 hi),List.map_map];rfl
theorem Px (w:World)(K:Nat)(vi vo nv bF:Value)(n m:Nat)(l lo:List Int)(hlo:lo.length=n)(hn:1<=n)(hn2:n<=16)(hm:m<=64)(hl:l.length=n*m)(hK:w.heap[K]?=some (.cells #[vi,vo,nv] 154 (0,0)))(Aq:Has w vo (bB lo))(hins:LL w bF [l]) :
  Calls Tryz.prog 144 #[.pointer (some ⟨K,0,none⟩),bF] w (xH w K 154 #[vi,vo,nv] (gu n m l)):=by
 obtain ⟨j0,ji,XK,jz1,XL⟩:=info_parts bU;have hnm:n*m<=16*64:=Nat.mul_le_mul hn2 hm;obtain ⟨Uu,Me,rfl⟩:=hins.slice;obtain ⟨bi,oi,ie,hci,hrow⟩:=hins.at (by simp);subst ie;obtain ⟨a0,c0,hr0,hh0⟩:=hrow 0 (by simp);simp at hr0 hci;simp only [List.getElem?_cons_zero,Option.getD_some] at hh0;have HH:=af hh0;clear hrow hh0 hins;obtain ⟨oao,ocp,rfl⟩:=Aq.slice;rw [aX,hlo] at hK Aq ⊢;clear Aq hlo;have hk1:=ah w K hK 1 _ rfl;simp at hk1;obtain ⟨i0,hi,hz0,hz1,hz2⟩:=info_parts lK;obtain ⟨w1,hr,hown,hg⟩:=run_make_full (P:=Tryz.prog) w w.heap.size 43 27 i0 _ 1 Tryz.underlying43 hi hz0 hz1 .i64 .i64 n (by rw [hz2];omega) (by unfold maxLen;omega) (Nat.le_refl _);have hb1:Below w.heap.size w w1:=((aG.refl (fun _=>False) w).grown hg (fun k hk _=>by cases hk)).below (Nat.le_refl _) (fun _ _ h=>h);rw [xK] at hown;have hO:=Cm (K:=K) hown (block_lt hK);rw [<- IK n l] at hO;have hr1:=cell_later hb1 hr0;have hs1:=hb1.size;have hni:(n:Int)<=16:=by omega
 have abr:(1:Int)<=n:=by omega
 have HK:=af hK;have Sw:=block_lt hK;have hlb:l.length<=1024:=by omega
 have ab9:(l.length:Int)<=1024:=by omega
 have HL:=af hl;clear hown hg hK hl;go_enter Tryz.func144,Tryz.ntmps144;go_wp2_with fail;clear hr
 go_loopw [21] (fun i wr=>∃ k:Nat,k<=l.length/\i=.int .i64 k/\kX wr (canon w.heap.size K) 1 (.slice (some ⟨w.heap.size,0,none⟩) n n) (iV n l k)/\Below w.heap.size w wr) (fun i _=>l.length - (intOf i).toNat)
 case atStart=>exact ⟨0,Nat.zero_le _,rfl,hO,hb1⟩
 case round =>
  clear hO hb1 hs1 hr1;obtain ⟨k,hk,rfl,hO,hb⟩:=hrel
  by_cases hlt:k < l.length
  ·
   have bX:(k:Int) < l.length:=by omega
   obtain ⟨b0,o0,e0,-,hc0,-,-,hcell⟩:=cu.at HH.out (by simp;omega);subst e0;have hx0:=hcell k (by simp;omega);rw [iC hlt] at hx0;have hx1:=cell_later hb hx0;have HS:=af (IL n k l (by omega));have hs:=hb.size;generalize l[k]?.getD 0=x at hx1 HS;obtain ⟨vs,h1,h2,h3,h4,h5⟩:=hO;have hvl:vs.length=n:=by rw [h1,tQ]
   have hin:k % n < n:=Nat.mod_lt _ (by omega);obtain ⟨-,-,g',-,eg,hcg,hfg,hgw⟩:=bQ h2.1 (by omega);cases eg
   have hck:=hcg (k % n) (vs[k % n]?.getD undef) (by simp [hvl,hin]);have D7:=hfg (k % n);have Wp:=h3 (k % n) (by rw [tQ];exact hin);have hrl:=BK n k (k % n) l hin;obtain ⟨sv,cv,ev⟩:=Wp.slice;rw [ev] at hck;have hcI:(0:Int)<=(k:Int) % n:=by omega
   have acd:(k:Int) % n < n:=by omega
   have hmod:((k:Int) % n).toNat=k % n:=by omega
   go_wp2_with (at_builtin;refine aU ?_);refine dR ?_;rw [ev] at Wp;have Hrl:=af hrl;have g2f:∀ j,(Value.slice sv ((iV n l k)[k % n]?.getD []).length cv).ownBlock=some j->j≠w.heap.size:=fun j hj e=>h5 (k % n) j (by rw [tQ];exact hin) (by rw [ev];exact hj) (by rw [e];rfl);refine yM rfl _ _ 27 rfl 0 3 j0 _ 1 8 Tryz.underlying27 ji XK jz1 XL rfl (.slice sv ((iV n l k)[k % n]?.getD []).length cv) ((iV n l k)[k % n]?.getD []).length _ rfl (Wp.1.alloc (.cells #[.int .i64 x] 3)) (some ⟨wr.heap.size,0,none⟩) 1 1 [.int .i64 x] rfl rfl (fun h=>by cases h) (bC wr [.int .i64 x] 3) (by simp [Value.oneCell']) (by have:=Hrl.out;unfold maxLen;omega) (bA (by have:=Hrl.out;omega)) (Nat.zero_le _) ?_;intro v' w2 g1 g20 _ g4;have g2:(wr.alloc (.cells #[.int .i64 x] 3)).grownBy w2 (Value.slice sv ((iV n l k)[k % n]?.getD []).length cv).ownBlock:=g20;have hm2:aG (fun j=>(vs[k % n]?.getD undef).ownBlock=some j) wr w2:=((aG.refl _ wr).alloc _).grown g2 (fun j hj _=>by rw [ev];exact hj);have XM:w2.heap[w.heap.size]?=wr.heap[w.heap.size]?:=hm2.block _ hgw (fun e=>by rw [ev] at e;exact g2f _ e rfl);have FQ:=(World.cell?_of_block (w:=wr) (a:=⟨w.heap.size,k % n,none⟩) XM).trans hck;have ace:=(World.frozen?_of_block (w:=wr) (a:=⟨w.heap.size,k % n,none⟩) XM).trans D7;have FR:∀ j,v'.ownBlock=some j->canon w.heap.size K j=1:=fun j hj=>by
    rcases g4 with g4 | ⟨g4,_⟩
    ·
     rw [g4] at hj;exact Wp.2 j hj
    ·
     rw [g4] at hj;have hj:=Option.some.inj hj;have hj:wr.heap.size+1=j:=by simpa using hj
     exact pR (by omega) (by omega)
   have hO2:=kX.set (v':=v') (l':=(iV n l k)[k % n]?.getD [] ++ [x]) (w1:=w2) (i:=k % n) h1 h2 h3 h4 (fun i B hi hB e=>h5 i B hi hB (by rw [e];rfl)) (by rw [tQ];exact hin) hm2 (fun j _ f=>f)
    ⟨by simpa using g1,FR⟩ (by
     rcases g4 with g4 | ⟨g4,_⟩
     ·
      left;rw [g4,ev]
     ·
      right;intro j hj;rw [g4] at hj;have hj:=Option.some.inj hj;have hj:wr.heap.size+1=j:=(by simpa using hj);omega)
   rw [<- HS.out] at hO2;have hb2:Below w.heap.size w (w2.setCell ⟨w.heap.size,k % n,none⟩ v'):=(hb.trans (hm2.below hs (fun j hj f=>by
    rw [ev] at f;have h0:=Wp.2 j f;have:=(Ak h0).1;omega))).setCell (Nat.le_refl _) _
   obtain ⟨Py,cv',rfl⟩:=aA g1;have ZT:(k:Int) % n=((k % n:Nat):Int):=by omega
   generalize ((iV n l k)[k % n]?.getD []).length=rl at *;clear h1 h2 h3 h4 h5 hcg hfg hb g1 g20 g2 g4 hm2 XM hck D7 Wp FR ev ZT hcell;go_wp2;go_roundw
   case rel=>exact ⟨k+1,by omega,by go_num,hO2,hb2⟩
   case measure=>simp [intOf];omega
  ·
   obtain rfl:k=l.length:=by omega
   go_wp2;go_ret2;rw [HL.out,Mj] at hO;exact ⟨_,rfl,aG.of_below hb _,aN HK.out (aG.of_below hb (fun _=>False)) (fun h=>h),hO⟩
def Wt (w:World)(K:Nat)(vi vo nv vt:Value)(keep:List Int)(y:Int)(e:Ending)(w':World):Prop :=
 ∃ ov R cp,e=.returned (.tuple #[ov,.bool true])/\aG (fun k=>k=K) w w'/\w'.heap[K]?=some (.cells #[vi,vo,nv,vt,.slice (some ⟨R,0,none⟩) keep.length cp] 145 (0,0))/\Has w' (.slice (some ⟨R,0,none⟩) keep.length cp) (bB keep)/\w.heap.size<=R/\R < w'.heap.size/\kX w' (canon w.heap.size R) 1 ov [[y]]
def Pz (w:World)(K:Nat)(vi vo nv vt:Value)(keep:List Int)(r:Option Int)(e:Ending)(w':World):Prop :=
 match r with
 | some y=>Wt w K vi vo nv vt keep y e w'
 | none=>uX w e w'
theorem cu.cut {w:World}{o:Col}{c:Nat}{ao:Option Addr}{n cap:Nat}{vs:List Value}(h:cu w o c (.slice ao n cap) vs)(k:Nat)(hk:k<=vs.length):cu w o c (.slice ao k cap) (vs.take k):=by
 have hl:(vs.take k).length=k:=by rw [List.length_take];omega
 by_cases hp:0 < k
 ·
  obtain ⟨b,off,rfl,hn,hc,hb,ho,hcl⟩:=h.at (by omega);refine .inr ⟨by omega,b,off,cap,by rw [hl],by omega,hb,ho,fun j hj=>?_⟩;rw [hl] at hj;rw [hcl j (by omega),List.getElem?_take,if_pos hj]
 ·
  obtain rfl:k=0:=by omega
  exact .inl ⟨by simp,ao,cap,rfl⟩
theorem FT (w:World)(K:Nat)(vi vo nv vt vs bF:Value)(x:Int)(oI keep:List Int)(htk:oI.length=keep.length+1)(hn:oI.length<=16)(hfx:Fits x)(hft:∀ a∈oI,Fits a)(D7:∀ a∈keep,Fits a)
  (hK:w.heap[K]?=some (.cells #[vi,vo,nv,vt,vs] 145 (0,0))) (hvt:Has w vt (bB oI)) (hvs:Has w vs (bB keep)) (hins:LL w bF [[x]]) :
  Calls Tryz.prog 134 #[.pointer (some ⟨K,0,none⟩),bF] w (Pz w K vi vo nv vt ((x :: keep).take keep.length) (mI 0 oI (x :: keep))):=by
 obtain ⟨i0,hi,hz0,hz1,hz2⟩:=info_parts bU;obtain ⟨Uu,Me,rfl⟩:=hins.slice;obtain ⟨bi,oi,ie,hci,hrow⟩:=hins.at (by simp);subst ie;obtain ⟨a0,c0,hr0,hh0⟩:=hrow 0 (by simp);obtain ⟨b0,o0,e0,-,hc0,-,-,hcell⟩:=cu.at hh0 (by simp);subst e0;have hx0:=hcell 0 (by simp);simp at hr0 hx0 hc0 hci;clear hcell hrow hh0 hins;obtain ⟨sao,scp,rfl⟩:=hvs.slice;obtain ⟨tao,tcp,rfl⟩:=hvt.slice;simp only [aX] at hvs hvt hK ⊢;have k3:=ah w K hK 3 (.slice tao oI.length tcp) rfl;have k4:=ah w K hK 4 (.slice sao keep.length scp) rfl;obtain ⟨Wu,Wv⟩:=hvs.news;have HT:=af hvt;have HTK:=af htk;have HN:=af hn;have Ir:=af hfx;have HFT:=af hft;have HFK:=af D7;have HK:=af hK;have Sw:=block_lt hK;have XO:=af Wu;have XP:=af Wv;have hkl:keep.length<=15:=by omega
 have ZU:(keep.length:Int)<=15:=by omega
 clear hvs hvt htk hn hfx hft D7 hK Wu Wv;go_enter Tryz.func134,Tryz.ntmps134;go_wp2_with fail;refine aM (fun w'=>w'.cell? ⟨bi,oi,none⟩=some (.slice (some ⟨b0,o0,none⟩) 1 c0)/\w'.cell? ⟨b0,o0,none⟩=some (.int .i64 x)/\w'.cell? ⟨K,4,none⟩=some (.slice sao keep.length scp)) [0,1,2,3,4,6,7,8,9] [5,10,11] (by kernel_rfl) (by kernel_rfl) rfl (fun _ _ hx h=>⟨hx.cell h.1,hx.cell h.2.1,hx.cell h.2.2⟩) ⟨hr0,hx0,k4⟩ ?_;intro Q' hQ';simp only [pk];refine aD ?_;refine ax ?_;refine wpList_plain rfl fun K hK=>?_
 go_simp
 refine hK _ _ ?_;clear hK K;have hown0:=bI (pV w.drew [x] (by simp)) (base':=w.heap.size) (fun k hk=>by have e:w.heap.size=k:=Option.some.inj hk;omega);refine aS rfl _ _ 27 rfl w.heap.size 3 i0 _ 1 8 Tryz.underlying27 hi hz0 hz1 hz2 rfl (.slice (some ⟨w.heap.size,0,none⟩) 1 1) 1 _ rfl hown0 sao keep.length scp (bB keep) rfl (by simp) XO.out (fun ad had j u hu=>ca (w:=w.drew) (XP.out ad had j u hu)) (mX keep) (by unfold maxLen;omega) (bA (by omega)) (by simp) ?_;intro v' w2 g1 g20 g3 _;have g2:(w.drew.alloc (.cells (bB [x]).toArray 3)).grownBy w2 (Value.slice (some ⟨w.heap.size,0,none⟩) 1 1).ownBlock:=g20;have hb2:Below w.heap.size w w2:=((((aG.refl (fun _=>False) w).drew).alloc (.cells (bB [x]).toArray 3)).grown g2 (fun k hk hlt=>by have e:w.heap.size=k:=Option.some.inj hk;omega)).below (Nat.le_refl _) (fun _ _ h=>h);have hne:v'≠.slice none 0 0:=fun e=>by have:=(g3.1 e).1;cases this
 have g1':w2.ownsRow w.heap.size 3 1 v' (x :: keep).length (bB (x :: keep)):=by
  rw [List.length_cons,Nat.add_comm keep.length 1];exact g1
 obtain ⟨R,cp,rfl⟩:∃ R cp,v'=.slice (some ⟨R,0,none⟩) (x :: keep).length cp:=by
  rcases g1'.2 with ⟨e,_⟩ | ⟨g,cp,cur,e,_⟩
  ·
   exact absurd e hne
  ·
   exact ⟨g,cp,e⟩
 obtain ⟨_,hcp,gR,hRn,eR,hcR,_,acf⟩:=bQ g1' (by simp);cases eR
 have KO:=(Own.made (fun _=>0) 0 g1').vals.has;have k3b:=cell_later hb2 k3;have k4b:=cell_later hb2 k4;have HT2:=af (HT.out.below hb2);have hK2:=aN HK.out (aG.of_below hb2 (fun _=>False)) (fun h=>h);have Zi:=aj hK2 4;have hs2:=hb2.size;simp only [List.length_cons] at hcp KO g1' ⊢;have PD:(keep.length:Int)+1<=cp:=by omega
 clear g1 g20 g2 g3 hne hown0;obtain ⟨D,hD⟩:∃ D,mI 0 oI (x :: keep)=D:=⟨_,rfl⟩;go_wp2_with fail;have HD:=af hD;clear hD;refine (Ur (xs:=oI) (ys:=x :: keep) _ _ _ _ _ _ _ HT2.out KO (by simpa using HTK.out) (by have:=HN.out;omega) HFT.out (fun a ha=>by rcases List.mem_cons.1 ha with rfl | ha;exact Ir.out;exact HFK.out a ha)).mono ?_;rintro e w3 ⟨rfl,rfl⟩;rw [HD.out];unfold FL;have G1:=af g1';have CR:=af hcR;have vR:=af KO;clear g1' hcR KO;cases D with
 | none =>
  go_wp2;go_ret2;rw [HD.out];exact xJ rfl ((hb2.alloc hs2 _).alloc (by simp;omega) _)
 | some y =>
  go_wp2;go_ret2;obtain ⟨h1,h2⟩:=Ar (w1:=w2) (aG.of_below hb2 _) HK.out 4 (.slice (some ⟨R,0,none⟩) keep.length cp);have hsz:(w2.setCell ⟨K,4,none⟩ (.slice (some ⟨R,0,none⟩) keep.length cp)).heap.size=w2.heap.size:=jk _ _ _;have ho:=bI (pV (w2.setCell ⟨K,4,none⟩ (.slice (some ⟨R,0,none⟩) keep.length cp)) [y] (by simp)) (base':=w.heap.size) (fun k hk=>by have e:=Option.some.inj hk;rw [hsz] at e;have e:w2.heap.size=k:=e;omega);have hO:=wC (w1:=(w2.setCell ⟨K,4,none⟩ (.slice (some ⟨R,0,none⟩) keep.length cp)).alloc (.cells (bB [y]).toArray 3)) (N:=w.heap.size) (R:=R) ho (by simp;omega) (fun e=>by have e:=Option.some.inj e;rw [hsz] at e;have e:w2.heap.size=R:=e;omega) (by simp;omega);have Zj:aG (fun k=>k=K) w2 (((w2.setCell ⟨K,4,none⟩ (.slice (some ⟨R,0,none⟩) keep.length cp)).alloc (.cells #[.int .i64 y] 3)).alloc (.cells #[.slice (some ⟨w2.heap.size,0,none⟩) 1 1] 27)):=(((aG.refl (fun k=>k=K) w2).setCell (p:=⟨K,4,none⟩) (fun _=>rfl) _).alloc _).alloc _;have T:Turn (ext (fun _=>0) w.heap.size 1) (ext (fun _=>0) w.heap.size 1) (fun c=>c=0) w2 _:=⟨Zj.mono (fun k _ e=>by rw [e,dm Sw]),fun _ _=>rfl⟩;have Ww:=(((Own.made (fun _=>0) 1 G1.out).vals.turn T (by decide)).cut keep.length (by simp)).has;rw [show (bB (x :: keep)).take keep.length=bB ((x :: keep).take keep.length) by rw [<- List.map_take]] at Ww;rw [HD.out];have hkt:((x :: keep).take keep.length).length=keep.length:=by rw [List.length_take,List.length_cons];omega
  simp only [World.size_alloc,hsz] at hO;refine ⟨_,R,cp,rfl,(h1.alloc _).alloc _,?_,?_,hRn,by simp;omega,hO⟩
  ·
   rw [hkt];exact aI (aI h2 _) _
  ·
   rw [hkt];exact Ww
structure iQ (w:World) (o:Col) (c d b:Nat) (t:Int) (ps keep:List Int) (n:Int) (K:Nat) (vi vo vt vs:Value):Prop where
 body:dZ w o d b 121 #[.iface (kP t) (.pointer (some ⟨K,0,none⟩))]
 kind:dZ w o c K (kS t) (qJ t vi vo n (hd keep) (hd1 ps) vt vs)
 ins:Ints w o d vi (bJ t ps)
 outs:Ints w o d vo (aV t ps)
 oI:t=1->Ints w o d vt ps/\Ints w o d vs keep/\ps.length=keep.length+1
 good:aC t ps
 BL:∀ x∈ps,Fits x
 qK:∀ x∈keep,Fits x
 mR:t=8\/t=10->keep.length=1
 sF:t≠1->t≠8->t≠10->keep=[]
 Uz:Fits n
 ne:c≠d
theorem iQ.turn {w w':World}{o o':Col}{C:Nat->Prop}{c d b:Nat}{t:Int}{ps keep:List Int}{n:Int}{K:Nat}{vi vo vt vs:Value}(h:iQ w o c d b t ps keep n K vi vo vt vs)(T:Turn o o' C w w')(hc:¬ C c)(hd:¬ C d):iQ w' o' c d b t ps keep n K vi vo vt vs :=
 ⟨h.body.turn T hd,h.kind.turn T hc,h.ins.turn T hd,h.outs.turn T hd,fun e=>⟨(h.oI e).1.turn T hd,(h.oI e).2.1.turn T hd,(h.oI e).2.2⟩,h.good,h.BL,h.qK,h.mR,h.sF,h.Uz,h.ne⟩
def KP (w:World)(is os:List Int)(e:Ending)(w':World):Prop :=
 ∃ g1 c1 g2 c2,e=.returned (.tuple #[.slice (some ⟨g1,0,none⟩) is.length c1,.slice (some ⟨g2,0,none⟩) os.length c2])/\w'.ownsRow w.heap.size 3 1 (.slice (some ⟨g1,0,none⟩) is.length c1) is.length (bB is)/\w'.ownsRow w.heap.size 3 1 (.slice (some ⟨g2,0,none⟩) os.length c2) os.length (bB os)/\g1≠g2/\Below w.heap.size w w'
theorem Co (w:World)(K:Nat)(vi vo:Value)(is os:List Int)(h0:w.cell? ⟨K,0,none⟩=some vi)(h1:w.cell? ⟨K,1,none⟩=some vo)(hi:Has w vi (bB is))(ho:Has w vo (bB os))(hni:is.length<=1000000)(hno:os.length<=1000000):Calls Tryz.prog 133 #[.pointer (some ⟨K,0,none⟩)] w (KP w is os):=by
 obtain ⟨ai,ci,rfl⟩:=hi.slice;obtain ⟨ao,co,rfl⟩:=ho.slice;simp only [aX] at hi ho h0 h1;have HI:=af hi;have HO:=af ho;clear hi ho;go_enter Tryz.func133,Tryz.ntmps133;go_wp2;refine cZ (fun w'=>w'.cell? ⟨K,0,none⟩=some (.slice ai is.length ci)/\w'.cell? ⟨K,1,none⟩=some (.slice ao os.length co)) [0,1,2,3,5,6,7,8] [4] 4 (by kernel_rfl) (by kernel_rfl) rfl ⟨h0,h1⟩ ?_;intro Q' hQ';simp only [pk];refine aD ?_;refine ax ?_;refine aB (i:=4) (by kernel_rfl) ?_;simp only [pk];have HI1:Hid (Has w.drew (.slice ai is.length ci) (bB is)):=af (HI.out.drewN 1);go_wp2_with fail;refine (tO _ _ _ _ is HI1.out (by omega)).mono ?_;rintro e w1 ⟨g1,c1,rfl,ho1,hb1⟩;have hb1:Below w.heap.size w w1:=j4 (n:=1) hb1;have zQ:=af ho1;have BM:=af (HO.out.below hb1);clear ho1;go_wp2;refine ⟨fun _ hS=>⟨cell_later hb1 h0,cell_later hb1 h1⟩,?_⟩;refine aJ (ks:=[9,10,11]) (fun _ _ hx h=>⟨hx.cell h.1,hx.cell h.2⟩) (by kernel_rfl) ?_;simp only [pk];go_wp2_with fail;refine (tO _ _ _ _ os BM.out (by omega)).mono ?_;rintro e w2 ⟨g2,c2,rfl,ho2,hb2⟩;have XQ:=af ho2;have HB2:=af hb2;clear ho2 hb2;go_wp2;go_ret2;refine ⟨g1,c1,g2,c2,rfl,eD zQ.out (aG.of_below HB2.out (fun _=>False)) (fun _ _ h=>h),bI XQ.out (fun k hk=>?_),?_,hb1.trans (HB2.out.mono hb1.size)⟩
 ·
  have:=(XQ.out.lt k hk).1;have:=hb1.size;omega
 ·
  rintro rfl;have h1:=(zQ.out.lt g1 rfl).2;have h2:=(XQ.out.lt g1 rfl).1;omega
theorem IV (w:World)(K:Nat)(n:Int)(h:w.cell? ⟨K,2,none⟩=some (.int .i64 n))(hf:w.frozen? ⟨K,2,none⟩=false)(hn:Fits (n+1)):Calls Tryz.prog 131 #[.pointer (some ⟨K,0,none⟩)] w fun e w'=>e=.returned (.tuple #[])/\w'=w.setCell ⟨K,2,none⟩ (.int .i64 (n+1)):=by
 have hw:IntKind.i64.wrap (n+1)=n+1:=IntWalk.i64_in _ hn;go_enter Tryz.func131,Tryz.ntmps131;go_wp2;go_end0
 exact ⟨rfl,rfl⟩
theorem iQ.tag {w:World}{o:Col}{c d b:Nat}{t:Int}{ps keep:List Int}{n:Int}{K:Nat}{vi vo vt vs:Value}(h:iQ w o c d b t ps keep n K vi vo vt vs):jy t:=l7 h.good
theorem nQ (t:Int)(vi vo:Value)(n x b:Int)(vt vs:Value)(ht:jy t):(qJ t vi vo n x b vt vs)[0]?=some vi/\(qJ t vi vo n x b vt vs)[1]?=some vo/\(qJ t vi vo n x b vt vs)[2]?=some (.int .i64 n):=by
 rcases ht with rfl | rfl | rfl | rfl | rfl | rfl | rfl | rfl | rfl | rfl | rfl <;> exact ⟨rfl,rfl,rfl⟩
theorem FU (t:Int)(vi vo:Value)(n m x b:Int)(vt vs:Value)(ht:jy t):(qJ t vi vo n x b vt vs).setIfInBounds 2 (.int .i64 m)=qJ t vi vo m x b vt vs:=by
 rcases ht with rfl | rfl | rfl | rfl | rfl | rfl | rfl | rfl | rfl | rfl | rfl <;> rfl
theorem tT {t:Int}{ps:List Int}(h:aC t ps):(bJ t ps).length<=64/\(aV t ps).length<=64:=by
 unfold aC aZ bP at h;unfold bJ aV
 constructor <;> (repeat' split) <;> simp <;> omega
theorem IW {w:World}{o:Col}{c d b:Nat}{t:Int}{ps keep:List Int}{n:Int}{K:Nat}{vi vo vt vs:Value}(h:iQ w o c d b t ps keep n K vi vo vt vs):Calls Tryz.prog 14 #[.pointer (some ⟨b,0,none⟩)] w (KP w (bJ t ps) (aV t ps)):=by
 have hb:=h.body.cell 0 _ rfl;have h0:=h.kind.cell 0 _ (nQ t vi vo n _ _ vt vs h.tag).1;have h1:=h.kind.cell 1 _ (nQ t vi vo n _ _ vt vs h.tag).2.1;have hm:=Ap h.tag K;have hl:=tT h.good;have HI:=af h.ins.has;have HO:=af h.outs.has;clear h;go_enter Tryz.func14,Tryz.ntmps14;go_wp2_with fail;refine (Co _ K _ _ _ _ h0 h1 HI.out HO.out (by omega) (by omega)).mono ?_;rintro e w1 ⟨g1,c1,g2,c2,rfl,r1,r2,r3,r4⟩;have R1:=af r1;have R2:=af r2;clear r1 r2 hm;go_wp2;go_ret2;exact ⟨g1,c1,g2,c2,rfl,R1.out,R2.out,r3,r4⟩
def PE (w:World)(keep:List Int)(e:Ending)(w':World):Prop :=
 ∃ v,e=.returned v/\w'.ownsRow w.heap.size 3 1 v keep.length (bB keep)/\Below w.heap.size w w'
def fT (t:Int)(ps keep:List Int)(xss:List (List Int)):Option (List (List Int) × List Int) :=
 if t=1 then (mI 0 ps (hd (xss[0]?.getD []) :: keep)).map fun y=>([[y]],(hd (xss[0]?.getD []) :: keep).take keep.length)
 else if t=2 then some ([hd (xss[0]?.getD []) :: List.replicate ((hd ps).toNat - 1) 0],keep)
 else if t=3 then some ([[hd (xss[0]?.getD [])]],keep)
 else if t=4 then some ([dN xss (hd1 ps).toNat],keep)
 else if t=5 then some (gu (hd ps).toNat (hd1 ps).toNat (xss[0]?.getD []),keep)
 else if t=6 then (oH 0 (firsts xss)).map fun y=>([[y]],keep)
 else if t=7 then (jI (hd (xss[0]?.getD [])) (hd (xss[1]?.getD []))).map fun y=>([[y]],keep)
 else if t=8 then (if Fits (hd keep+hd (xss[0]?.getD [])) then some ([[hd keep+hd (xss[0]?.getD [])]],[hd keep+hd (xss[0]?.getD [])]) else none)
 else if t=9 then some (List.replicate (hd ps).toNat [hd (xss[0]?.getD [])],keep)
 else if t=10 then (if Fits (hd keep+hd1 ps) then some ([[hd keep]],[hd keep+hd1 ps]) else none)
 else some ([],keep)
def jJ (w:World)(o:Col)(c d E b:Nat)(t:Int)(ps:List Int)(n:Int)(K:Nat)(vi vo vt:Value)(r:Option (List (List Int) × List Int))(e:Ending)(w':World):Prop :=
 match r with
 | some (outs,keep')=>∃ ov vs' o',e=.returned (.tuple #[ov,.bool true])/\Turn o o' (fun x=>x=c) w w'/\iQ w' o' c d b t ps keep' n K vi vo vt vs'/\kX w' o' E ov outs
 | none=>uX w e w'
theorem fB {w:World}{o:Col}{c d E b:Nat}{t:Int}{ps keep keep':List Int}{n:Int}{K:Nat}{vi vo vt vs:Value}{outs:List (List Int)}{e:Ending}{w':World}(h:iQ w o c d b t ps keep n K vi vo vt vs)(h1:t≠1)
  (hk1:t=8\/t=10->keep'.length=1) (hk2:t≠1->t≠8->t≠10->keep'=[]) (hkf:∀ x∈keep',Fits x)
  (hr:xH w K (kS t) (qJ t vi vo n (hd keep') (hd1 ps) vt vs) outs e w'):jJ w o c d E b t ps n K vi vo vt (some (outs,keep')) e w':=by
 obtain ⟨ov,he,hm,hK,hO⟩:=hr;have hKc:o K=c:=h.kind.2;have hKl:=h.kind.lt;have T:Turn o (ext o w.heap.size E) (fun x=>x=c) w w':=Turn.kT o E hm (fun k _ hk=>by rw [hk];exact hKc);have hd:¬ d=c:=fun e=>h.ne e.symm;refine ⟨ov,vs,_,he,T,⟨h.body.turn T hd,⟨hK,by rw [dm hKl];exact hKc⟩,h.ins.turn T hd,h.outs.turn T hd,fun e=>absurd e h1,h.good,h.BL,hkf,hk1,hk2,h.Uz,h.ne⟩,?_⟩;refine hO.dO fun k hk hc=>?_;exact dI (Ak hc).1
theorem zG {w:World}{o:Col}{c d E b:Nat}{ps keep:List Int}{n:Int}{K:Nat}{vi vo vt vs:Value}{y x:Int}{e:Ending}{w':World}(h:iQ w o c d b 1 ps keep n K vi vo vt vs)(hx:Fits x)
  (hr:Wt w K vi vo (.int .i64 n) vt ((x :: keep).take keep.length) y e w'):jJ w o c d E b 1 ps n K vi vo vt (some ([[y]],(x :: keep).take keep.length)) e w':=by
 obtain ⟨ov,R,cp,he,hm,hK,hS,Fx,hR2,hO⟩:=hr;have hKc:o K=c:=h.kind.2;have hKl:=h.kind.lt;have hd:¬ d=c:=fun e=>h.ne e.symm;have T:Turn o (fun k=>if k < w.heap.size then o k else if k=R then d else E) (fun x=>x=c) w w':=⟨hm.mono (fun k _ hk=>by rw [hk];exact hKc),fun k hk=>by simp [hk]⟩;have hl:((x :: keep).take keep.length).length=keep.length:=by rw [List.length_take,List.length_cons];omega
 have Wx:=h.oI rfl;refine ⟨ov,_,_,he,T,⟨h.body.turn T hd,⟨hK,by simp [hKl,hKc]⟩,h.ins.turn T hd,h.outs.turn T hd,fun _=>⟨Wx.1.turn T hd,?_,by rw [hl];exact Wx.2.2⟩,h.good,h.BL,fun z hz=>?_,fun hh=>by omega,fun hh=>absurd rfl hh,h.Uz,h.ne⟩,?_⟩
 ·
  rcases hS with hS | ⟨hp,b',off,cap,e,hle,hb,_,hcl⟩
  ·
   exact .inl hS
  ·
   refine .inr ⟨hp,b',off,cap,e,hle,hb,?_,hcl⟩;obtain ⟨rfl,_⟩:R=b'/\True:=by
    injection e with e1
    injection e1 with e1
    injection e1 with e1
    exact ⟨e1,trivial⟩
   simp [Nat.not_lt.2 Fx]
 ·
  rcases List.mem_cons.1 (List.mem_of_mem_take hz) with rfl | hz
  ·
   exact hx
  ·
   exact h.qK z hz
 ·
  refine hO.dO fun k hk hc=>?_;have:=Ak hc;simp [Nat.not_lt.2 this.1,this.2]
theorem kE {xss:List (List Int)}{n:Int}(h:xss.map (fun l=>(l.length:Int))=[n]):∃ l,xss=[l]/\(l.length:Int)=n:=by
 match xss,h with
 | [l],h=>exact ⟨l,rfl,by simpa using h⟩
theorem one_num {l:List Int}(h:(l.length:Int)=1):l=[hd l]:=by
 match l,h with
 | [x],_=>rfl
theorem FV {xss:List (List Int)}(h:xss.map (fun l=>(l.length:Int))=[1,1]):∃ x y,xss=[[x],[y]]:=by
 match xss with
 | []=>simp at h
 | [l]=>simp at h
 | [l,k] =>
  simp only [List.map_cons,List.map_nil,List.cons.injEq,and_true] at h;exact ⟨hd l,hd k,by rw [<- one_num h.1,<- one_num h.2]⟩
 | _ :: _ :: _ :: _=>simp at h
theorem PG {w:World}{o:Col}{c d b:Nat}{t:Int}{ps keep:List Int}{n:Int}{K:Nat}{vi vo vt vs bF:Value}{xss:List (List Int)}(E:Nat)(h:iQ w o c d b t ps keep n K vi vo vt vs)(hins:LL w bF xss)(hlen:xss.map (fun l=>(l.length:Int))=bJ t ps)(hf:∀ l∈xss,∀ x∈l,Fits x) :
  Calls Tryz.prog (kF t) #[.pointer (some ⟨K,0,none⟩),bF] w (jJ w o c d E b t ps n K vi vo vt (fT t ps keep xss)):=by
 have hg:=h.good;have hK:=h.kind.1
 rcases h.tag with rfl | rfl | rfl | rfl | rfl | rfl | rfl | rfl | rfl | rfl | rfl
 ·
  obtain ⟨l,rfl,hl⟩:=kE hlen;obtain ⟨x,rfl⟩:∃ x,l=[x]:=⟨_,one_num hl⟩;have hx:Fits x:=hf [x] (by simp) x (by simp);obtain ⟨t1,t2,t3⟩:=h.oI rfl;have hg1:1<=ps.length/\ps.length<=16:=by unfold aC at hg;omega
  refine (FT w K vi vo (.int .i64 n) vt vs bF x ps keep t3 hg1.2 hx h.BL h.qK hK t1.has t2.has hins).mono fun e w' hr=>?_;show jJ w o c d E b 1 ps n K vi vo vt ((mI 0 ps (x :: keep)).map fun y=>([[y]],(x :: keep).take keep.length)) e w'
  cases hD:mI 0 ps (x :: keep) with
  | none=>rw [hD] at hr;exact hr
  | some y=>rw [hD] at hr;exact zG h hx hr
 ·
  have h1:bP ps 64:=by simpa [aC] using hg
  obtain ⟨l,rfl,hl⟩:=kE hlen;obtain ⟨x,rfl⟩:∃ x,l=[x]:=⟨_,one_num hl⟩;obtain ⟨u,hu⟩:∃ u:Nat,hd ps=u:=⟨(hd ps).toNat,by have:=h1.2;omega⟩;have hu2:=h1.2;rw [hu] at hu2;have ho:Has w vo (bB [(u:Int)]):=by have:=h.outs.has;rw [<- hu];exact this
  refine (Uv w K vi vo (.int .i64 n) bF x u (by omega) (by omega) hK ho hins).mono fun e w' hr=>?_;show jJ w o c d E b 2 ps n K vi vo vt (some ([x :: List.replicate ((hd ps).toNat - 1) 0],keep)) e w'
  rw [hu,Int.toNat_natCast];exact fB h (by decide) h.mR h.sF h.qK hr
 ·
  have h1:bP ps 64:=by simpa [aC] using hg
  obtain ⟨l,rfl,hl⟩:=kE hlen;refine (Md w K bF _ l (by have:=h1.2;omega) hK hins).mono fun e w' hr=>?_;exact fB h (by decide) h.mR h.sF h.qK hr
 ·
  have h1:aZ ps:=by simpa [aC] using hg
  obtain ⟨h2,h3,h4,h5⟩:=h1;obtain ⟨u,hu⟩:∃ u:Nat,hd ps=u:=⟨(hd ps).toNat,by omega⟩;obtain ⟨m,hm⟩:∃ u:Nat,hd1 ps=u:=⟨(hd1 ps).toNat,by omega⟩;have hi:Has w vi (bB (List.replicate u (m:Int))):=by have:=h.ins.has;simpa [bJ,hu,hm] using this
  have ho:Has w vo (bB [(u:Int)*m]):=by have:=h.outs.has;simpa [aV,hu,hm] using this
  have hlen':xss.map (fun l=>(l.length:Int))=List.replicate u (m:Int):=by rw [hlen];simp [bJ,hu,hm]
  have hxl:xss.length=u:=by have:=congrArg List.length hlen';simpa using this
  have hall:∀ l∈xss,l.length=m:=fun l hl=>by
   have:(l.length:Int)∈xss.map (fun l=>(l.length:Int)):=List.mem_map.2 ⟨l,hl,rfl⟩;rw [hlen'] at this;have:=(List.mem_replicate.1 this).2;omega
  refine (IJ w K vi vo (.int .i64 n) bF u m xss (by omega) (by omega) (by omega) hxl hall hK hi ho hins).mono fun e w' hr=>?_;show jJ w o c d E b 4 ps n K vi vo vt (some ([dN xss (hd1 ps).toNat],keep)) e w'
  rw [hm,Int.toNat_natCast];exact fB h (by decide) h.mR h.sF h.qK hr
 ·
  have h1:aZ ps:=by simpa [aC] using hg
  obtain ⟨h2,h3,h4,h5⟩:=h1;obtain ⟨u,hu⟩:∃ u:Nat,hd ps=u:=⟨(hd ps).toNat,by omega⟩;obtain ⟨m,hm⟩:∃ u:Nat,hd1 ps=u:=⟨(hd1 ps).toNat,by omega⟩;obtain ⟨l,rfl,hl⟩:=kE hlen;have ho:Has w vo (bB (List.replicate u (m:Int))):=by have:=h.outs.has;simpa [aV,hu,hm] using this
  refine (Px w K vi vo (.int .i64 n) bF u m l _ (by simp) (by omega) (by omega) (by omega) (by rw [hu,hm] at hl;exact_mod_cast hl) hK ho hins).mono fun e w' hr=>?_;show jJ w o c d E b 5 ps n K vi vo vt (some (gu (hd ps).toNat (hd1 ps).toNat l,keep)) e w'
  rw [hu,hm,Int.toNat_natCast,Int.toNat_natCast];exact fB h (by decide) h.mR h.sF h.qK hr
 ·
  have h1:bP ps 16:=by simpa [aC] using hg
  have hlen':xss.map (fun l=>(l.length:Int))=List.replicate (hd ps).toNat 1:=hlen;have hxl:xss.length=(hd ps).toNat:=by have:=congrArg List.length hlen';simpa using this
  have hall:∀ l∈xss,l.length=1:=fun l hl=>by
   have:(l.length:Int)∈xss.map (fun l=>(l.length:Int)):=List.mem_map.2 ⟨l,hl,rfl⟩;rw [hlen'] at this;have:=(List.mem_replicate.1 this).2;omega
  refine (Pw w K bF _ xss (by have:=h1.2;omega) (fun l hl=>by rw [hall l hl];omega) (fun x hx=>?_) hK hins).mono fun e w' hr=>?_
  ·
   obtain ⟨l,hl,rfl⟩:=List.mem_map.1 hx;have h0:=hall l hl;refine hf l hl _ ?_;rw [List.getElem?_eq_getElem (by omega),Option.getD_some];exact List.getElem_mem _
  show jJ w o c d E b 6 ps n K vi vo vt ((oH 0 (firsts xss)).map fun y=>([[y]],keep)) e w'
  cases hS:oH 0 (firsts xss) with
  | none=>rw [hS] at hr;exact hr
  | some y=>rw [hS] at hr;exact fB h (by decide) h.mR h.sF h.qK hr
 ·
  obtain ⟨x,y,rfl⟩:=FV hlen;refine (Mg w K bF _ x y (hf [x] (by simp) x (by simp)) (hf [y] (by simp) y (by simp)) hK hins).mono fun e w' hr=>?_;show jJ w o c d E b 7 ps n K vi vo vt ((jI x y).map fun z=>([[z]],keep)) e w'
  cases hS:jI x y with
  | none=>rw [hS] at hr;exact hr
  | some z=>rw [hS] at hr;exact fB h (by decide) h.mR h.sF h.qK hr
 ·
  obtain ⟨l,rfl,hl⟩:=kE hlen;obtain ⟨x,rfl⟩:∃ x,l=[x]:=⟨_,one_num hl⟩;have hk:keep=[hd keep]:=one_num (by have:=h.mR (.inl rfl);omega);have D7:Fits (hd keep):=h.qK _ (by rw [hk];exact List.mem_cons_self);refine (Pq w K vi vo (.int .i64 n) bF (hd keep) x D7 (hf [x] (by simp) x (by simp)) hK hins).mono fun e w' hr=>?_;show jJ w o c d E b 8 ps n K vi vo vt (if Fits (hd keep+x) then some ([[hd keep+x]],[hd keep+x]) else none) e w'
  by_cases hS:Fits (hd keep+x)
  ·
   rw [if_pos hS] at hr ⊢;exact fB h (by decide) (fun _=>rfl) (fun _ h8 _=>absurd rfl h8) (fun z hz=>by rw [List.mem_singleton.1 hz];exact hS) hr
  ·
   rw [if_neg hS] at hr ⊢;exact hr
 ·
  have h1:bP ps 16:=by simpa [aC] using hg
  obtain ⟨l,rfl,hl⟩:=kE hlen;obtain ⟨x,rfl⟩:∃ x,l=[x]:=⟨_,one_num hl⟩;refine (Mi w K vi vo (.int .i64 n) bF x (hd ps).toNat _ (by simp [aV]) (by have:=h1.2;omega) hK h.outs.has hins).mono fun e w' hr=>?_;exact fB h (by decide) h.mR h.sF h.qK hr
 ·
  have h2:ps.length=2:=by unfold aC at hg;omega
  have hfp:Fits (hd1 ps):=h.BL _ (by unfold hd1;rw [List.getElem?_eq_getElem (by omega),Option.getD_some];exact List.getElem_mem _);have hk:keep=[hd keep]:=one_num (by have:=h.mR (.inr rfl);omega);have D7:Fits (hd keep):=h.qK _ (by rw [hk];exact List.mem_cons_self);refine (Mh w K vi vo (.int .i64 n) bF (hd keep) (hd1 ps) D7 hfp hK).mono fun e w' hr=>?_;show jJ w o c d E b 10 ps n K vi vo vt (if Fits (hd keep+hd1 ps) then some ([[hd keep]],[hd keep+hd1 ps]) else none) e w'
  by_cases hS:Fits (hd keep+hd1 ps)
  ·
   rw [if_pos hS] at hr ⊢;exact fB h (by decide) (fun _=>rfl) (fun _ _ h8=>absurd rfl h8) (fun z hz=>by rw [List.mem_singleton.1 hz];exact hS) hr
  ·
   rw [if_neg hS] at hr ⊢;exact hr
 ·
  refine (Mf w K bF _ hK).mono fun e w' hr=>?_;exact fB h (by decide) h.mR h.sF h.qK hr
def PI (w:World)(o:Col)(c d E b:Nat)(t:Int)(ps:List Int)(n:Int)(K:Nat)(vi vo vt:Value)(fit:Bool)(r:Option (List (List Int) × List Int))(e:Ending)(w':World):Prop :=
 match fit,r with
 | false,_=>e=.returned (.tuple #[.slice none 0 0,.int .i64 1])/\Below w.heap.size w w'
 | true,none=>e=.returned (.tuple #[.slice none 0 0,.int .i64 70])/\Below w.heap.size w w'
 | true,some (outs,keep')=>∃ ov vs' o',e=.returned (.tuple #[ov,.int .i64 0])/\Turn o o' (fun x=>x=c) w w'/\iQ w' o' c d b t ps keep' (n+1) K vi vo vt vs'/\kX w' o' E ov outs
theorem Mk {w w1 w2:World}{o o1 o':Col}{c d E b:Nat}{t:Int}{ps keep':List Int}{n:Int}{K:Nat}{vi vo vt vs' ov:Value}{outs:List (List Int)}{e:Ending}(hE:E≠c)(T1:Turn o o1 (fun x=>x=c) w w1)(T2:Turn o1 o' (fun x=>x=c) w1 w2)
  (hb:iQ w2 o' c d b t ps keep' n K vi vo vt vs') (hO:kX w2 o' E ov outs) (hn:Fits (n+1)) (he:e=.returned (.tuple #[ov,.int .i64 0])):PI w o c d E b t ps n K vi vo vt true (some (outs,keep')) e (w2.setCell ⟨K,2,none⟩ (.int .i64 (n+1))):=by
 obtain ⟨hk,T3⟩:=hb.kind.set 2 (.int .i64 (n+1));rw [FU _ _ _ _ _ _ _ _ _ hb.tag] at hk;have hd:¬ d=c:=fun e=>hb.ne e.symm;exact ⟨ov,vs',o',he,(T1.trans T2 (fun _ h=>h)).trans T3 (fun _ h=>h),⟨hb.body.turn T3 hd,hk,hb.ins.turn T3 hd,hb.outs.turn T3 hd,fun e=>⟨(hb.oI e).1.turn T3 hd,(hb.oI e).2.1.turn T3 hd,(hb.oI e).2.2⟩,hb.good,hb.BL,hb.qK,hb.mR,hb.sF,hn,hb.ne⟩,hO.turn T3 hE⟩
theorem PK {xss:List (List Int)}{R:List Int}{j:Nat}(hj:j < xss.length)(h:¬ ((xss[j]?.getD []).length:Int)=R[j]?.getD 0):decide (xss.map (fun l=>(l.length:Int))=R)=false:=by
 refine decide_eq_false fun e=>h ?_;subst e;simp [hj]
theorem KQ {xss:List (List Int)}{R:List Int}(hl:xss.length=R.length)(h:∀ j,j < xss.length->((xss[j]?.getD []).length:Int)=R[j]?.getD 0):xss.map (fun l=>(l.length:Int))=R:=by
 refine List.ext_getElem (by simpa using hl) fun j h1 h2=>?_;have:=h j (by simpa using h1);simp only [List.length_map] at h1
 simpa [h1,h2] using this
theorem FW {w:World}{o:Col}{c d b:Nat}{t:Int}{ps keep:List Int}{n:Int}{K:Nat}{vi vo vt vs bF:Value}{xss:List (List Int)}(E:Nat)(hE:E≠c)(h:iQ w o c d b t ps keep n K vi vo vt vs)(hins:LL w bF xss)(hf:∀ l∈xss,∀ x∈l,Fits x)(hn1:Fits (n+1)) :
  Calls Tryz.prog 74 #[.pointer (some ⟨b,0,none⟩),bF] w (PI w o c d E b t ps n K vi vo vt (decide (xss.map (fun l=>(l.length:Int))=bJ t ps)) (fT t ps keep xss)):=by
 obtain ⟨Uu,Me,rfl⟩:=hins.slice;have ht:=h.tag;have hb:w.cell? ⟨b,0,none⟩=some (.iface (kP t) (.pointer (some ⟨K,0,none⟩))):=h.body.cell 0 _ rfl;have h0:=h.kind.cell 0 _ (nQ t vi vo n _ _ vt vs ht).1;have h1:=h.kind.cell 1 _ (nQ t vi vo n _ _ vt vs ht).2.1;have hl:=tT h.good;have hm1:=Ap ht K;have hm2:=FM ht K;have Zj:=II ht K;have hcf:∀ (args:Array Value) (w:World),(callFunc (kF t) args).run Tryz.prog w=.ok (.enter (kF t) args) w:=fun args w=>by
  rcases ht with rfl | rfl | rfl | rfl | rfl | rfl | rfl | rfl | rfl | rfl | rfl <;> first | exact Tryz.call134 _ _ | exact Tryz.call141 _ _ | exact Tryz.call142 _ _ | exact Tryz.call143 _ _ | exact Tryz.call144 _ _ | exact Tryz.call145 _ _ | exact Tryz.call147 _ _ | exact Tryz.call150 _ _ | exact Tryz.call151 _ _ | exact Tryz.call152 _ _ | exact Tryz.call153 _ _
 have HH:=af h;have HI:=af hins;have HF:=af hf;have HN:=af hn1;have HT:=af ht;clear h hins hf hn1 ht;go_enter Tryz.func74,Tryz.ntmps74;go_wp2_with fail;refine (Co _ K _ _ _ _ h0 h1 HH.out.ins.has HH.out.outs.has (by omega) (by omega)).mono ?_;rintro e w1 ⟨g1,c1,g2,c2,rfl,r1,-,-,hb1⟩;have R1:=af (Own.made (fun _=>0) 0 r1).vals.has;have acg:=cell_later hb1 hb;clear r1 h0 h1 hm1;obtain ⟨R,hR⟩:∃ R,bJ t ps=R:=⟨_,rfl⟩;have hl1:R.length<=64:=by rw [<- hR];exact hl.1
 rw [hR] at R1;have HR:=af hR;clear hR hl
 by_cases hlen:xss.length=R.length
 ·
  have Wy:(xss.length:Int)=(bJ t ps).length:=by rw [HR.out];omega
  have ach:(xss.length:Int)<=64:=by omega
  have HL:=af hlen;clear hlen;go_wp2_with fail;clear Wy
  go_loopw [29] (fun i wr=>∃ j:Nat,j<=xss.length/\i=.int .i64 j/\wr=w1/\∀ k,k < j->((xss[k]?.getD []).length:Int)=R[k]?.getD 0) (fun i _=>xss.length - (intOf i).toNat)
  case atStart=>exact ⟨0,Nat.zero_le _,rfl,rfl,fun k hk=>by omega⟩
  case round =>
   obtain ⟨j,hj,rfl,hw,hall⟩:=hrel;subst hw;have IX:=af hall;clear hall
   by_cases hjn:j < xss.length
   ·
    have Uw:(j:Int) < xss.length:=by omega
    obtain ⟨bi,oi,ie,hci,hrow⟩:=HI.out.at (by omega);subst ie;obtain ⟨a0,c0,hr0,-⟩:=hrow j hjn;have hr1:=cell_later hb1 hr0;obtain ⟨gb,go,eg,-,hcR,-,-,hcell⟩:=cu.at R1.out (by rw [aX];have:=HL.out;omega);cases eg
    have hx:=hcell j (by rw [aX];have:=HL.out;omega);rw [iC (by have:=HL.out;omega)] at hx;rw [Nat.zero_add] at hx;have XJ:((bJ t ps).length:Int)<=c1:=by rw [HR.out];omega
    have ZV:(xss.length:Int)<=Me:=by omega
    have hjR:(j:Int) < (bJ t ps).length:=by rw [HR.out];have:=HL.out;omega
    have oO:=af (fun h=>PK (R:=R) hjn h);have HST:=af (fun (h:((xss[j]?.getD []).length:Int)=R[j]?.getD 0) k (hk:k < j+1)=>(by
     by_cases hkj:k=j
     ·
      rw [hkj];exact h
     ·
      exact IX.out k (by omega):((xss[k]?.getD []).length:Int)=R[k]?.getD 0))
    clear hrow hcell hr0;generalize (xss[j]?.getD []).length=lm at *;generalize R[j]?.getD 0=rm at *
    by_cases hq:(lm:Int)=rm
    ·
     have HQ:=af (HST.out hq);clear HST;subst hq;go_wp2;go_roundw
     case rel=>exact ⟨j+1,by omega,by go_num,by first | rfl | trivial,HQ.out⟩
     case measure=>simp [intOf];omega
    ·
     go_wp2;go_ret2;rw [HR.out,oO.out hq];exact ⟨rfl,hb1⟩
   ·
    obtain rfl:j=xss.length:=by omega
    have HX:=af (KQ HL.out IX.out);have HB:=af (HH.out.turn (Turn.of_below o d hb1) (fun h=>h) (fun h=>h));have HI1:=af (HI.out.below hb1);clear IX;have hNN:¬ (xss.length:Int) < (bJ t ps).length:=by rw [HR.out];have:=HL.out;omega
    go_wp2_with fail;refine (PG E HB.out HI1.out (by rw [HX.out,HR.out]) HF.out).mono ?_;intro e w2 hr
    rcases hp:fT t ps keep xss with _ | ⟨outs,keep'⟩
    ·
     rw [hp] at hr;have HP:=af hp;obtain ⟨⟨ov,rfl⟩,hb2⟩:=hr;clear hp;go_wp2;go_ret2;rw [HR.out,HX.out,decide_eq_true rfl,HP.out];exact ⟨rfl,hb1.trans (hb2.mono hb1.size)⟩
    ·
     rw [hp] at hr;have HP:=af hp;obtain ⟨ov,vs',o',rfl,T2,B2,O2⟩:=hr;have hb2:w2.cell? ⟨b,0,none⟩=some (.iface (kP t) (.pointer (some ⟨K,0,none⟩))):=B2.body.cell 0 _ rfl;have HB2:=af B2;have BM:=af O2;have HT2:=af T2;clear hp B2 O2 T2;go_wp2_with fail;refine (IV _ K n (HB2.out.kind.cell 2 _ (nQ t vi vo n _ _ vt vs' HT.out).2.2) (HB2.out.kind.frozen 2) HN.out).mono ?_;rintro e w3 ⟨rfl,rfl⟩;go_wp2;go_ret2;rw [HR.out,HX.out,decide_eq_true rfl,HP.out];exact Mk hE ((Turn.of_below o d hb1).mono (fun _ h=>h.elim)) HT2.out HB2.out BM.out HN.out rfl
 ·
  have Wy:¬ (xss.length:Int)=(bJ t ps).length:=by rw [HR.out];omega
  go_wp2;go_ret2;rw [HR.out,show decide (xss.map (fun l=>(l.length:Int))=R)=false from decide_eq_false fun e=>hlen (by rw [<- e];simp)];exact ⟨rfl,hb1⟩
theorem PL {o:Col}{c:Nat}(w:World)(t:Int)(vi vo:Value)(ao:Option Addr)(n cap:Nat)(ps:List Int)(hg:aC t ps)(h:Ints w o c (.slice ao n cap) ps):Calls Tryz.prog 43 #[.int .u8 t,.agg #[vi,vo,.int .i64 0],.slice ao n cap] w (Made w t vi vo ps):=by
 rcases l7 hg with rfl | rfl | rfl | rfl | rfl | rfl | rfl | rfl | rfl | rfl | rfl
 ·
  have h1:1<=ps.length/\ps.length<=16:=by simpa [aC] using hg
  exact XI w vi vo ao n cap ps h h1.1 h1.2
 ·
  exact XA w vi vo _ ps
 ·
  exact XB w vi vo _ ps
 ·
  exact XC w vi vo _ ps
 ·
  exact XD w vi vo _ ps
 ·
  exact XE w vi vo _ ps
 ·
  exact XF w vi vo _ ps
 ·
  exact XG w vi vo _ ps
 ·
  exact XH w vi vo _ ps
 ·
  have h1:ps.length=2:=by simpa [aC] using hg
  obtain rfl:=h.len
  match ps,h1,h with
  | [x,y],_,h=>exact Ut w vi vo ao cap x y h
 ·
  exact Us w vi vo _ ps
def ZW (w:World)(o:Col)(c d:Nat)(t:Int)(ps:List Int)(e:Ending)(w':World):Prop :=
 ∃ b K vi vo vt vs o',e=.returned (.tuple #[.pointer (some ⟨b,0,none⟩),.int .i64 0])/\Turn o o' (fun _=>False) w w'/\iQ w' o' c d b t ps (eB t ps) 0 K vi vo vt vs
theorem yT {t:Int}{ps:List Int}(hg:aC t ps)(hf:∀ x∈ps,Fits x):(∀ x∈eB t ps,Fits x)/\(t=8\/t=10->(eB t ps).length=1)/\(t≠1->t≠8->t≠10->eB t ps=[])/\(t=1->ps.length=(eB t ps).length+1):=by
 have f0:Fits 0:=by unfold Fits;omega
 refine ⟨fun x hx=>?_,fun h=>?_,fun h1 h2 h3=>?_,fun h=>?_⟩
 ·
  unfold eB at hx
  split at hx
  ·
   rw [(List.mem_replicate.1 hx).2];exact f0
  split at hx
  ·
   rw [List.mem_singleton.1 hx];exact f0
  split at hx
  ·
   rename_i h10
   have h2:ps.length=2:=by subst h10;simpa [aC] using hg
   rw [List.mem_singleton.1 hx];exact hf _ (by unfold hd;rw [List.getElem?_eq_getElem (by omega),Option.getD_some];exact List.getElem_mem _)
  ·
   cases hx
 ·
  rcases h with rfl | rfl <;> rfl
 ·
  unfold eB;rw [if_neg h1,if_neg h2,if_neg h3]
 ·
  subst h;have h1:1<=ps.length/\ps.length<=16:=by simpa [aC] using hg
  simp [eB];omega
theorem FX {w:World}{N:Nat}{o:Col}{d e:Nat}{v:Value}{l:List Int}(h:w.ownsRow N e 1 v l.length (bB l))(ho:∀ k,v.ownBlock=some k->o k=d):Ints w o d v l :=
 Own.vals (e:=e) (n:=l.length) ⟨bI h (fun _ _=>Nat.zero_le _),ho⟩
theorem XR {o1:Col}{c1:Nat}{w:World}{t:Int}{ao:Option Addr}{n cap:Nat}{ps:List Int}(o:Col)(c d:Nat)(hcd:c≠d)(hg:aC t ps)(hf:∀ x∈ps,Fits x)(h:Ints w o1 c1 (.slice ao n cap) ps):Calls Tryz.prog 13 #[.int .u8 t,.slice ao n cap] w (ZW w o c d t ps):=by
 have hl:ps.length<=64:=by
  unfold aC bP aZ at hg;omega
 have HH:=af h;have HG:=af hg;have HF:=af hf;clear h hg hf;go_enter Tryz.func13,Tryz.ntmps13;go_wp2_with fail;refine (Wq w t ao n cap ps HG.out (by omega) HH.out).mono ?_;rintro e w1 ⟨vi,vo,rfl,r1,r2,hb1⟩;obtain ⟨ai,ci,rfl⟩:=aA r1;obtain ⟨a2,c2,rfl⟩:=aA r2;have R1:=af r1;have R2:=af r2;have H1:=af (HH.out.has.below hb1);clear r1 r2;go_wp2_with fail;refine (PL w1 t _ _ ao n cap ps HG.out H1.out).mono ?_;rintro e w2 ⟨K,vt,vs,rfl,hK,hKb,hb2,Wz⟩;have HK:=af hK;have HT:=af Wz;clear hK Wz;go_wp2;go_ret2;have s1:=hb1.size;have s2:=hb2.size;have hKl:=block_lt HK.out;have hb:Below w.heap.size w (w2.alloc (.cells #[.iface (kP t) (.pointer (some ⟨K,0,none⟩))] 121)):=(hb1.trans (hb2.mono s1)).alloc (by omega) _;have M2:aG (fun _=>False) w1 w2:=aG.of_below hb2 _;have hlow:∀ v:Value,∀ l:List Int,w1.ownsRow w.heap.size 3 1 v l.length (bB l)->Ints (w2.alloc (.cells #[.iface (kP t) (.pointer (some ⟨K,0,none⟩))] 121)) (fun k=>if k < w.heap.size then o k else if k=K then c else d) d v l:=fun v l hv=>by
  refine FX ((eD hv M2 (fun _ _ h=>h)).alloc _) fun k hk=>?_;have:=hv.lt k hk;rw [if_neg (by omega),if_neg (by omega)]
 have hhigh:∀ v:Value,∀ l:List Int,w2.ownsRow w1.heap.size 3 1 v l.length (bB l)->v.ownBlock≠some K->Ints (w2.alloc (.cells #[.iface (kP t) (.pointer (some ⟨K,0,none⟩))] 121)) (fun k=>if k < w.heap.size then o k else if k=K then c else d) d v l:=fun v l hv hvK=>by
  refine FX (hv.alloc _) fun k hk=>?_;have:=hv.lt k hk;rw [if_neg (by omega),if_neg (fun e=>hvK (by rw [hk,e]))]
 have hk0:=yT HG.out HF.out;refine ⟨w2.heap.size,K,_,_,vt,vs,_,rfl,⟨aG.of_below hb _,fun k hk=>if_pos hk⟩,⟨⟨heap_alloc_new _ _,?_⟩,⟨aI HK.out _,?_⟩,hlow _ _ R1.out,hlow _ _ R2.out,fun e=>?_,HG.out,HF.out,hk0.1,hk0.2.1,hk0.2.2.1,by unfold Fits;omega,hcd⟩⟩
 ·
  simp only [];rw [if_neg (by omega),if_neg (by omega)]
 ·
  simp only [];rw [if_neg (by omega),if_pos trivial]
 ·
  obtain ⟨t1,t2,t3,t4⟩:=HT.out e;subst e;exact ⟨hhigh _ _ t1 t3,hhigh _ _ t2 t4,hk0.2.2.2 rfl⟩
def Quiet (v:Value)(w:World)(e:Ending)(w':World):Prop:=e=.returned v/\∃ m,w'=w.drewN m
theorem UA {l l2:List Int}{k:Nat}(_hk:k < l.length)(_hk2:k < l2.length)(h:¬ l[k]?.getD 0=l2[k]?.getD 0):decide (l=l2)=false:=decide_eq_false fun e=>h (by rw [e])
theorem PN {l l2:List Int}(hl:l.length=l2.length)(h:∀ k,k < l.length->l[k]?.getD 0=l2[k]?.getD 0):decide (l=l2)=true:=by
 refine decide_eq_true (List.ext_getElem hl fun k h1 h2=>?_);have:=h k h1
 simpa [h1,h2] using this
theorem BN (w:World)(b off c b' off' c':Nat)(l l2:List Int)(hl2:l2.length=l.length)(hl:l.length<=4611686018427387904)(h1:∀ k,k < l.length->w.cell? ⟨b,off+k,none⟩=some (iv (l[k]?.getD 0)))(h2:∀ k,k < l.length->w.cell? ⟨b',off'+k,none⟩=some (iv (l2[k]?.getD 0))) :
  Calls Tryz.prog 20 #[.slice (some ⟨b,off,none⟩) l.length c,.slice (some ⟨b',off',none⟩) l.length c'] w (Quiet (.bool (decide (l=l2))) w):=by
 have H1:=af h1;have H2:=af h2;have HL:=af hl2;clear h1 h2 hl2;go_enter Tryz.func20,Tryz.ntmps20;go_wp2
 go_loopw [5] (fun i wr=>∃ k:Nat,k<=l.length/\i=.int .i64 k/\(∀ j,j < k->l[j]?.getD 0=l2[j]?.getD 0)/\∃ m,wr=w.drewN m) (fun i _=>l.length - (intOf i).toNat)
 case atStart=>exact ⟨0,Nat.zero_le _,rfl,fun j hj=>by omega,0,rfl⟩
 case round =>
  obtain ⟨k,hk,rfl,hall,m,rfl⟩:=hrel;have HA:=af hall;clear hall
  by_cases hlt:k < l.length
  ·
   have c1:=H1.out k hlt;have c2:=H2.out k hlt;have bX:(k:Int) < l.length:=by omega
   have oO:=af (fun h=>UA (l2:=l2) hlt (by have:=HL.out;omega) h);have HST:=af (fun (h:l[k]?.getD 0=l2[k]?.getD 0) j (hj:j < k+1)=>(by
    by_cases hkj:j=k
    ·
     rw [hkj];exact h
    ·
     exact HA.out j (by omega):l[j]?.getD 0=l2[j]?.getD 0))
   generalize l[k]?.getD 0=x at *;generalize l2[k]?.getD 0=y at *
   by_cases hq:x=y
   ·
    have HQ:=af (HST.out hq);clear HST;subst hq;go_wp2;go_quiet (fail);go_wp2;go_roundw
    case rel=>exact ⟨k+1,by omega,by go_num,HQ.out,_,rfl⟩
    case measure=>simp [intOf];omega
   ·
    go_wp2;go_quiet (fail);go_wp2;go_ret;rw [oO.out hq];exact ⟨rfl,m+_,(World.drewN_drewN _ _ _)⟩
  ·
   obtain rfl:k=l.length:=by omega
   have HX:=af (PN HL.out.symm HA.out);go_wp2;go_ret;rw [HX.out];exact ⟨rfl,_,rfl⟩
theorem Au (w:World)(a a':Option Addr)(c c':Nat) :
  Calls Tryz.prog 20 #[.slice a 0 c,.slice a' 0 c'] w (Quiet (.bool true) w):=by
 go_enter Tryz.func20,Tryz.ntmps20;go_wp2
 go_loopw [5] (fun i wr=>i=.int .i64 0/\wr=w) (fun _ _=>0)
 case atStart=>exact ⟨rfl,rfl⟩
 case round =>
  obtain ⟨rfl,rfl⟩:=hrel;go_wp2;go_ret;exact ⟨rfl,0,rfl⟩
theorem D8 (w:World)(a a':Option Addr)(n n' c c':Nat)(h:¬ n=n') :
  Calls Tryz.prog 20 #[.slice a n c,.slice a' n' c'] w (Quiet (.bool false) w):=by
 have hi:¬ (n:Int)=n':=by omega
 go_enter Tryz.func20,Tryz.ntmps20;go_wp2;go_ret;exact ⟨rfl,0,rfl⟩
theorem D9 {o o2:Col}{c c2:Nat}{w:World}{v v':Value}{l l2:List Int}(h:Ints w o c v l)(h':Ints w o2 c2 v' l2)(hl:l.length<=4611686018427387904) :
  Calls Tryz.prog 20 #[v,v'] w (Quiet (.bool (decide (l=l2))) w):=by
 obtain ⟨a,cp,rfl⟩:=h.slice;obtain ⟨a',cp',rfl⟩:=h'.slice
 by_cases hq:l.length=l2.length
 ·
  by_cases hp:0 < l.length
  ·
   obtain ⟨b,off,rfl,-,-,-,-,h1⟩:=h.at hp;obtain ⟨b',off',rfl,-,-,-,-,h2⟩:=h'.at (by omega);rw [<- hq];exact BN w b off _ b' off' _ l l2 hq.symm hl h1 (fun k hk=>h2 k (by omega))
  ·
   obtain rfl:l=[]:=List.eq_nil_of_length_eq_zero (by omega);obtain rfl:l2=[]:=List.eq_nil_of_length_eq_zero (by simpa using hq.symm);exact Au w _ _ _ _
 ·
  rw [show decide (l=l2)=false from decide_eq_false fun e=>hq (by rw [e])];exact D8 w _ _ _ _ _ _ hq
theorem gQ {o o2:Col}{c c2:Nat}{w:World}{v v':Value}{l:List Int}(h:Ints w o c v l)(h':Ints w o2 c2 v' l)(hl:l.length<=4611686018427387904) :
  Calls Tryz.prog 20 #[v,v'] w (Quiet (.bool true) w):=by
 have:=D9 h h' hl
 rwa [decide_eq_true rfl] at this
theorem dL {B:Nat}{w w':World}(h:Below B w w')(n:Nat):Below B w (w'.drewN n):=⟨h.os,h.tape,h.output,h.size,h.block⟩
theorem FY {w:World}{o:Col}{c d b:Nat}{t:Int}{ps keep:List Int}{n:Int}{K:Nat}{vi vo vt vs bF:Value}{xss:List (List Int)}{r:Option (List (List Int) × List Int)}(E:Nat)(hE:E≠c)(h:iQ w o c d b t ps keep n K vi vo vt vs)(hins:LL w bF xss)(hf:∀ l∈xss,∀ x∈l,Fits x)(hn1:Fits (n+1))
  (hfit:xss.map (fun l=>(l.length:Int))=bJ t ps) (hr:fT t ps keep xss=r):Calls Tryz.prog 74 #[.pointer (some ⟨b,0,none⟩),bF] w (PI w o c d E b t ps n K vi vo vt true r):=by
 have:=FW E hE h hins hf hn1
 rwa [decide_eq_true hfit,hr] at this
theorem PO {w:World}{o:Col}{c d b:Nat}{t:Int}{ps keep:List Int}{n:Int}{K:Nat}{vi vo vt vs bF:Value}{xss:List (List Int)}(h:iQ w o c d b t ps keep n K vi vo vt vs)(hins:LL w bF xss)(hf:∀ l∈xss,∀ x∈l,Fits x)(hn1:Fits (n+1))
  (hfit:¬ xss.map (fun l=>(l.length:Int))=bJ t ps):Calls Tryz.prog 74 #[.pointer (some ⟨b,0,none⟩),bF] w fun e w'=>e=.returned (.tuple #[.slice none 0 0,.int .i64 1])/\Below w.heap.size w w':=by
 have:=FW (c+1) (by omega) h hins hf hn1
 rwa [decide_eq_false hfit] at this
def Act (w:World)(o:Col)(c d b:Nat)(t:Int)(ps keep:List Int)(n:Int):Prop:=∃ K vi vo vt vs,iQ w o c d b t ps keep n K vi vo vt vs
theorem Act.turn {w w':World}{o o':Col}{C:Nat->Prop}{c d b:Nat}{t:Int}{ps keep:List Int}{n:Int}(h:Act w o c d b t ps keep n)(T:Turn o o' C w w')(hc:¬ C c)(hd:¬ C d):Act w' o' c d b t ps keep n:=by
 obtain ⟨K,vi,vo,vt,vs,h⟩:=h;exact ⟨K,vi,vo,vt,vs,h.turn T hc hd⟩
theorem Act.below {w w':World}{o:Col}{c d b:Nat}{t:Int}{ps keep:List Int}{n:Int}(h:Act w o c d b t ps keep n)(x:Nat)(hb:Below w.heap.size w w'):Act w' (ext o w.heap.size x) c d b t ps keep n:=h.turn (Turn.of_below o x hb) (fun h=>h) (fun h=>h)
theorem Act.drewN {w:World}{o:Col}{c d b:Nat}{t:Int}{ps keep:List Int}{n:Int}(h:Act w o c d b t ps keep n)(m:Nat):Act (w.drewN m) o c d b t ps keep n:=h.turn (Turn.jE o ⟨m,rfl⟩) (fun h=>h) (fun h=>h)
def XT (w:World)(o:Col)(c d:Nat)(t:Int)(ps:List Int)(e:Ending)(w':World):Prop :=
 ∃ b o',e=.returned (.tuple #[.pointer (some ⟨b,0,none⟩),.int .i64 0])/\Turn o o' (fun _=>False) w w'/\Act w' o' c d b t ps (eB t ps) 0
theorem UB {o1:Col}{c1:Nat}{w:World}{t:Int}{ao:Option Addr}{n cap:Nat}{ps:List Int}(o:Col)(c d:Nat)(hcd:c≠d)(hg:aC t ps)(hf:∀ x∈ps,Fits x)(h:Ints w o1 c1 (.slice ao n cap) ps):Calls Tryz.prog 13 #[.int .u8 t,.slice ao n cap] w (XT w o c d t ps):=by
 refine (XR o c d hcd hg hf h).mono ?_;rintro e w' ⟨b,K,vi,vo,vt,vs,o',h1,h2,h3⟩;exact ⟨b,o',h1,h2,K,vi,vo,vt,vs,h3⟩
def UC (w:World)(o:Col)(c d E b:Nat)(t:Int)(ps:List Int)(n:Int)(outs:List (List Int))(keep':List Int)(e:Ending)(w':World):Prop :=
 ∃ ov o',e=.returned (.tuple #[ov,.int .i64 0])/\Turn o o' (fun x=>x=c) w w'/\Act w' o' c d b t ps keep' (n+1)/\kX w' o' E ov outs
def PS (x:Int)(w:World)(e:Ending)(w':World):Prop:=e=.returned (.tuple #[.slice none 0 0,.int .i64 x])/\Below w.heap.size w w'
theorem PU {w:World}{o:Col}{c d b:Nat}{t:Int}{ps keep keep':List Int}{n:Int}{bF:Value}{xss outs:List (List Int)}(E:Nat)(hE:E≠c)(h:Act w o c d b t ps keep n)(hins:LL w bF xss)(hf:∀ l∈xss,∀ x∈l,Fits x)(hn1:Fits (n+1))
  (hfit:xss.map (fun l=>(l.length:Int))=bJ t ps) (hr:fT t ps keep xss=some (outs,keep')):Calls Tryz.prog 74 #[.pointer (some ⟨b,0,none⟩),bF] w (UC w o c d E b t ps n outs keep'):=by
 obtain ⟨K,vi,vo,vt,vs,h⟩:=h;refine (FY E hE h hins hf hn1 hfit hr).mono ?_;rintro e w' ⟨ov,vs',o',h1,h2,h3,h4⟩;exact ⟨ov,o',h1,h2,⟨K,vi,vo,vt,vs',h3⟩,h4⟩
theorem IY {w:World}{o:Col}{c d b:Nat}{t:Int}{ps keep:List Int}{n:Int}{bF:Value}{xss:List (List Int)}(h:Act w o c d b t ps keep n)(hins:LL w bF xss)(hf:∀ l∈xss,∀ x∈l,Fits x)(hn1:Fits (n+1))
  (hfit:xss.map (fun l=>(l.length:Int))=bJ t ps) (hr:fT t ps keep xss=none):Calls Tryz.prog 74 #[.pointer (some ⟨b,0,none⟩),bF] w (PS 70 w):=by
 obtain ⟨K,vi,vo,vt,vs,h⟩:=h;exact (FY (c+1) (by omega) h hins hf hn1 hfit hr).mono fun e w' h=>h
theorem PV {w:World}{o:Col}{c d b:Nat}{t:Int}{ps keep:List Int}{n:Int}{bF:Value}{xss:List (List Int)}(h:Act w o c d b t ps keep n)(hins:LL w bF xss)(hf:∀ l∈xss,∀ x∈l,Fits x)(hn1:Fits (n+1))
  (hfit:¬ xss.map (fun l=>(l.length:Int))=bJ t ps):Calls Tryz.prog 74 #[.pointer (some ⟨b,0,none⟩),bF] w (PS 1 w):=by
 obtain ⟨K,vi,vo,vt,vs,h⟩:=h;exact (PO h hins hf hn1 hfit).mono fun e w' h=>h
theorem Ml {w:World}{o:Col}{c d b:Nat}{t:Int}{ps keep:List Int}{n:Int}(h:Act w o c d b t ps keep n):Calls Tryz.prog 14 #[.pointer (some ⟨b,0,none⟩)] w (KP w (bJ t ps) (aV t ps)):=by
 obtain ⟨K,vi,vo,vt,vs,h⟩:=h;exact IW h
end Go.Proofs.YtepjkmnhmcjbkaaGreat
namespace Go.Proofs.YtepjkmnhmcjbkaaGreat
theorem FZ (n m:Nat)(l:List Int):(gu n m l).length=n:=by simp [gu]
theorem F3 (n m:Nat)(l:List Int)(i:Nat)(hi:i < n):(gu n m l)[i]?.getD []=(List.range m).map fun j=>l[j*n+i]?.getD 0:=by simp [gu,hi]
theorem Ea (n m:Nat)(l:List Int)(i:Nat)(hi:i < n):((gu n m l)[i]?.getD []).length=m:=by rw [F3 n m l i hi];simp
theorem Mq (n m:Nat)(l:List Int):(gu n m l).map (fun r=>(r.length:Int))=List.replicate n (m:Int):=by
 refine List.ext_getElem (by simp [gu]) fun i h1 h2=>?_;simp [gu]
open Go.RowKit
theorem UD {t:Int}{ps:List Int}(h:aC t ps):∀ x∈aV t ps,x<=64:=by
 unfold aC aZ bP at h;intro x hx;unfold aV at hx
 split at hx
 ·
  simp at hx;omega
 split at hx
 ·
  simp at hx;omega
 split at hx
 ·
  have:=(List.mem_replicate.1 hx).2;omega
 split at hx
 ·
  have:=(List.mem_replicate.1 hx).2;omega
 split at hx
 ·
  simp at hx
 ·
  simp at hx;omega
theorem nD {t:Int}{ps keep keep':List Int}{xss outs:List (List Int)}(hg:aC t ps)(hfit:xss.map (fun l=>(l.length:Int))=bJ t ps)(hr:fT t ps keep xss=some (outs,keep')):outs.map (fun l=>(l.length:Int))=aV t ps:=by
 unfold aC at hg
 rcases hg with ⟨rfl,_⟩ | ⟨rfl,hg⟩ | ⟨rfl,hg⟩ | ⟨rfl,hg⟩ | ⟨rfl,hg⟩ | ⟨rfl,hg⟩ | ⟨rfl,_⟩ | ⟨rfl,_⟩ | ⟨rfl,hg⟩ | ⟨rfl,_⟩ | ⟨rfl,hg⟩
 ·
  simp only [fT,if_true,Option.map_eq_some_iff] at hr;obtain ⟨y,-,e⟩:=hr;cases e;simp [aV]
 ·
  obtain ⟨_,h1,h2⟩:=hg;simp [fT] at hr;obtain ⟨rfl,-⟩:=hr;simp [aV];omega
 ·
  simp [fT] at hr;obtain ⟨rfl,-⟩:=hr;simp [aV]
 ·
  obtain ⟨_,⟨h1,h2⟩,⟨h3,h4⟩,h5⟩:=hg;simp [fT] at hr;obtain ⟨rfl,-⟩:=hr;have hx:xss.length=(hd ps).toNat:=by have:=congrArg List.length hfit;simpa [bJ] using this
  simp [aV,uY,hx];rw [Int.max_eq_left (by omega),Int.max_eq_left (by omega),Int.mul_comm]
 ·
  obtain ⟨_,⟨h1,h2⟩,⟨h3,h4⟩,h5⟩:=hg;simp [fT] at hr;obtain ⟨rfl,-⟩:=hr;rw [Mq];simp [aV];omega
 ·
  simp [fT] at hr;obtain ⟨y,-,rfl,-⟩:=hr;simp [aV]
 ·
  simp [fT] at hr;obtain ⟨y,-,rfl,-⟩:=hr;simp [aV]
 ·
  simp [fT] at hr;obtain ⟨-,rfl,-⟩:=hr;simp [aV]
 ·
  simp [fT] at hr;obtain ⟨rfl,-⟩:=hr;simp [aV]
 ·
  simp [fT] at hr;obtain ⟨-,rfl,-⟩:=hr;simp [aV]
 ·
  simp [fT] at hr;obtain ⟨rfl,-⟩:=hr;simp [aV]
theorem PW {t:Int}{ps keep keep':List Int}{xss outs:List (List Int)}(hg:aC t ps)(hfit:xss.map (fun l=>(l.length:Int))=bJ t ps)(hr:fT t ps keep xss=some (outs,keep'))(j:Nat):(outs[j]?.getD []).length<=64:=by
 by_cases h:j < outs.length
 ·
  have e:=nD hg hfit hr;have hm:((outs[j].length:Nat):Int)∈aV t ps:=by rw [<- e];exact List.mem_map.2 ⟨outs[j],List.getElem_mem h,rfl⟩
  have:=UD hg _ hm;simp [h];omega
 ·
  simp [show outs.length<=j by omega]
theorem IZ {t:Int}{ps keep keep':List Int}{xss outs:List (List Int)}(hg:aC t ps)(hfit:xss.map (fun l=>(l.length:Int))=bJ t ps)(hr:fT t ps keep xss=some (outs,keep')):outs.length<=64:=by
 have e:=congrArg List.length (nD hg hfit hr);have:=(tT hg).2;simp at e;omega
structure Mr where
 err:Int
 outs:List (List Int)
 keep:List Int
 n:Int
def iD (t:Int)(ps keep:List Int)(n:Int)(xss:List (List Int)):Mr :=
 if xss.map (fun l=>(l.length:Int))=bJ t ps then
  match fT t ps keep xss with
  | some (outs,keep')=>⟨0,outs,keep',n+1⟩
  | none=>⟨70,[],keep,n⟩
 else ⟨1,[],keep,n⟩
theorem PX {w:World}{o:Col}{c d b:Nat}{t:Int}{ps keep:List Int}{n:Int}{bF:Value}{xss:List (List Int)}(E:Nat)(hE:E≠c)(h:Act w o c d b t ps keep n)(hins:LL w bF xss)(hf:∀ l∈xss,∀ x∈l,Fits x)(hn1:Fits (n+1)) :
  Calls Tryz.prog 74 #[.pointer (some ⟨b,0,none⟩),bF] w fun e w'=>∃ gv o',e=.returned (.tuple #[gv,.int .i64 (iD t ps keep n xss).err])/\Turn o o' (fun x=>x=c) w w'/\Act w' o' c d b t ps (iD t ps keep n xss).keep (iD t ps keep n xss).n/\kX w' o' E gv (iD t ps keep n xss).outs:=by
 unfold iD
 by_cases hfit:xss.map (fun l=>(l.length:Int))=bJ t ps
 ·
  rw [if_pos hfit]
  rcases hr:fT t ps keep xss with _ | ⟨outs,keep'⟩
  ·
   refine (IY h hins hf hn1 hfit hr).mono ?_;rintro e w' ⟨rfl,hb⟩;exact ⟨_,_,rfl,(Turn.of_below o E hb).mono (fun _ h=>h.elim),h.below E hb,kX.nil _ _ _⟩
  ·
   refine (PU E hE h hins hf hn1 hfit hr).mono ?_;rintro e w' ⟨ov,o',rfl,h1,h2,h3⟩;exact ⟨ov,o',rfl,h1,h2,h3⟩
 ·
  rw [if_neg hfit];refine (PV h hins hf hn1 hfit).mono ?_;rintro e w' ⟨rfl,hb⟩;exact ⟨_,_,rfl,(Turn.of_below o E hb).mono (fun _ h=>h.elim),h.below E hb,kX.nil _ _ _⟩
theorem Ms {t:Int}{ps keep:List Int}{n:Int}{xss:List (List Int)}(hg:aC t ps):(iD t ps keep n xss).outs.length<=64/\∀ j:Nat,((iD t ps keep n xss).outs[j]?.getD []).length<=64:=by
 unfold iD
 by_cases hfit:xss.map (fun l=>(l.length:Int))=bJ t ps
 ·
  rw [if_pos hfit]
  rcases hr:fT t ps keep xss with _ | ⟨outs,keep'⟩
  ·
   exact ⟨Nat.zero_le _,fun j=>by simp⟩
  ·
   exact ⟨IZ hg hfit hr,fun j=>PW hg hfit hr j⟩
 ·
  rw [if_neg hfit];exact ⟨Nat.zero_le _,fun j=>by simp⟩
theorem Cq:∀ (xs ys:List Int) (acc:Int) {y:Int},Fits acc->mI acc xs ys=some y->Fits y
 | [],_,acc,y,h,e=>by simp [mI] at e;rw [<- e];exact h
 | _ :: _,[],acc,y,h,e=>by simp [mI] at e;rw [<- e];exact h
 | x :: xs,z :: ys,acc,y,h,e=>by
  rw [mI] at e
  split at e
  ·
   rename_i h1
   exact Cq xs ys _ h1.2 e
  ·
   cases e
theorem Cr:∀ (xs:List Int) (acc:Int) {y:Int},Fits acc->oH acc xs=some y->Fits y
 | [],acc,y,h,e=>by simp [oH] at e;rw [<- e];exact h
 | x :: xs,acc,y,h,e=>by
  rw [oH] at e
  split at e
  ·
   rename_i h1
   exact Cr xs _ h1 e
  ·
   cases e
theorem I4 {a b y:Int}(ha:Fits a)(h:jI a b=some y):Fits y:=by
 unfold jI at h
 split at h
 ·
  cases h
 ·
  split at h
  ·
   split at h
   ·
    rename_i h1
    rw [<- Option.some.inj h];exact h1
   ·
    cases h
  ·
   rename_i h0 h1
   rw [<- Option.some.inj h];unfold Fits at ha ⊢
   by_cases hb:b=1
   ·
    rw [hb,Int.tdiv_one];exact ha
   ·
    have h2:2<=b.natAbs:=by omega
    have h3:(a.tdiv b).natAbs=a.natAbs / b.natAbs:=Int.natAbs_tdiv a b;have h4:a.natAbs / b.natAbs<=a.natAbs / 2:=Nat.div_le_div_left h2 (by omega);omega
theorem tV {l:List Int}(h:∀ x∈l,Fits x)(k:Nat):Fits (l[k]?.getD 0):=by
 by_cases hk:k < l.length
 ·
  rw [List.getElem?_eq_getElem hk];exact h _ (List.getElem_mem hk)
 ·
  rw [List.getElem?_eq_none (by omega)];unfold Fits;decide
theorem F4 {l:List (List Int)}(h:∀ r∈l,∀ x∈r,Fits x)(k:Nat):∀ x∈l[k]?.getD [],Fits x:=by
 by_cases hk:k < l.length
 ·
  rw [List.getElem?_eq_getElem hk];exact h _ (List.getElem_mem hk)
 ·
  rw [List.getElem?_eq_none (by omega)];intro x hx;cases hx
theorem Ct {t:Int}{ps keep keep':List Int}{xss outs:List (List Int)}(_hp:∀ x∈ps,Fits x)(hk:∀ x∈keep,Fits x)(hx:∀ l∈xss,∀ x∈l,Fits x)(hr:fT t ps keep xss=some (outs,keep')):(∀ l∈outs,∀ x∈l,Fits x)/\∀ x∈keep',Fits x:=by
 have f0:Fits 0:=by unfold Fits;decide
 have hh:∀ k,Fits (hd (xss[k]?.getD [])):=fun k=>tV (F4 hx k) 0;have one:∀ y,Fits y->∀ l∈[[y]],∀ x∈l,Fits x:=fun y hy l hl x hx=>by
  rw [List.mem_singleton.1 hl] at hx;rw [List.mem_singleton.1 hx];exact hy
 unfold fT at hr
 split at hr
 ·
  obtain ⟨y,hy,e⟩:=Option.map_eq_some_iff.1 hr;cases e
  refine ⟨one y (Cq _ _ _ f0 hy),fun x hx=>?_⟩
  rcases List.mem_cons.1 (List.mem_of_mem_take hx) with rfl | hx
  ·
   exact hh 0
  ·
   exact hk x hx
 split at hr
 ·
  cases hr
  refine ⟨fun l hl x hx=>?_,hk⟩;rw [List.mem_singleton.1 hl] at hx
  rcases List.mem_cons.1 hx with rfl | hx
  ·
   exact hh 0
  ·
   rw [(List.mem_replicate.1 hx).2];exact f0
 split at hr
 ·
  cases hr
  exact ⟨one _ (hh 0),hk⟩
 split at hr
 ·
  cases hr
  refine ⟨fun l hl x hx'=>?_,hk⟩;rw [List.mem_singleton.1 hl] at hx';obtain ⟨j,_,hx'⟩:=List.mem_flatMap.1 hx';obtain ⟨r,hr,rfl⟩:=List.mem_map.1 hx';exact tV (hx r hr) j
 split at hr
 ·
  cases hr
  refine ⟨fun l hl x hx'=>?_,hk⟩;obtain ⟨i,_,rfl⟩:=List.mem_map.1 hl;obtain ⟨j,_,rfl⟩:=List.mem_map.1 hx';exact tV (F4 hx 0) _
 split at hr
 ·
  obtain ⟨y,hy,e⟩:=Option.map_eq_some_iff.1 hr;cases e
  exact ⟨one y (Cr _ _ f0 hy),hk⟩
 split at hr
 ·
  obtain ⟨y,hy,e⟩:=Option.map_eq_some_iff.1 hr;cases e
  exact ⟨one y (I4 (hh 0) hy),hk⟩
 split at hr
 ·
  split at hr
  ·
   rename_i h1
   cases hr
   refine ⟨one _ h1,fun x hx=>?_⟩;rw [List.mem_singleton.1 hx];exact h1
  ·
   cases hr
 split at hr
 ·
  cases hr
  refine ⟨fun l hl x hx'=>?_,hk⟩;rw [(List.mem_replicate.1 hl).2] at hx';rw [List.mem_singleton.1 hx'];exact hh 0
 split at hr
 ·
  split at hr
  ·
   rename_i h1
   cases hr
   refine ⟨one _ (tV hk 0),fun x hx=>?_⟩;rw [List.mem_singleton.1 hx];exact h1
  ·
   cases hr
 ·
  cases hr
  exact ⟨(fun l hl=>by cases hl),hk⟩
theorem KR (n:Nat)(x:Int):(List.replicate n x).sum=n*x:=by
 induction n with
 | zero=>simp
 | succ n ih=>rw [List.replicate_succ,List.sum_cons,ih,Int.natCast_succ,Int.add_mul];omega
theorem PY {t:Int}{ps:List Int}(h:aC t ps):(aV t ps).sum<=64:=by
 unfold aC aZ bP at h;unfold aV
 split
 ·
  simp;omega
 split
 ·
  simp;omega
 split
 ·
  rw [KR,show (((hd ps).toNat:Nat):Int)=hd ps by omega];omega
 split
 ·
  rw [KR];omega
 split
 ·
  simp
 ·
  simp
theorem F5:∀ l:List (List Int),((l.flatten.length:Nat):Int)=(l.map fun r=>(r.length:Int)).sum
 | []=>rfl
 | r :: l=>by
  have:=F5 l;rw [List.flatten_cons,List.length_append,List.map_cons,List.sum_cons,<- this];omega
theorem UE {t:Int}{ps keep:List Int}{n:Int}{xss:List (List Int)}(hg:aC t ps)(hp:∀ x∈ps,Fits x)(hk:∀ x∈keep,Fits x)(hx:∀ l∈xss,∀ x∈l,Fits x) :
  (∀ l∈(iD t ps keep n xss).outs,∀ x∈l,Fits x)/\(iD t ps keep n xss).outs.flatten.length<=64/\(∀ x∈(iD t ps keep n xss).keep,Fits x)/\n<=(iD t ps keep n xss).n/\(iD t ps keep n xss).n<=n+1:=by
 unfold iD
 by_cases hfit:xss.map (fun l=>(l.length:Int))=bJ t ps
 ·
  rw [if_pos hfit]
  rcases hr:fT t ps keep xss with _ | ⟨outs,keep'⟩
  ·
   exact ⟨fun l hl=>(by cases hl),Nat.zero_le _,hk,Int.le_refl _,by show n<=n+1;omega⟩
  ·
   have h1:=Ct hp hk hx hr;have h2:=F5 outs;have h3:=PY hg;rw [nD hg hfit hr] at h2;exact ⟨h1.1,by show outs.flatten.length<=64;omega,h1.2,by show n<=n+1;omega,Int.le_refl _⟩
 ·
  rw [if_neg hfit];exact ⟨fun l hl=>(by cases hl),Nat.zero_le _,hk,Int.le_refl _,by show n<=n+1;omega⟩
end Go.Proofs.YtepjkmnhmcjbkaaGreat
