import Derived.Test.YtpdlngonocancaaGreatSvmRunsZ3
import Derived.Laws.ResultCell
import Derived.Laws.Rows
import Derived.Test.YtpdlngonocancaaGreatSvmRunsZ2
set_option linter.unusedVariables false
set_option linter.unusedSimpArgs false
set_option maxRecDepth 100000
set_option maxHeartbeats 20000000
namespace Go.Proofs.YtpdlngonocancaaGreat
open Go.RowKit
theorem VI {o:Col}{c:Nat}(w:World)(ao:Option Addr)(n cap:Nat)(l:List Int)(h:Ints w o c (.slice ao n cap) l):Calls Tryz.prog 73 #[.int .u8 2,.slice ao n cap] w (Quiet (.bool (decide (aF 2 l))) w):=by
 have e:aF 2 l↔bS l 64:=by simp [aF]
 rw [show decide (aF 2 l)=decide (bS l 64) from decide_eq_decide.2 e];have H:=Lib.hid h;clear h e
 go_enter Tryz.func73,Tryz.ntmps73
 go_wp2_with fail
 refine (rP _ _ _ _ l 64 H.out).mono ?_;rintro e w' ⟨rfl,rfl⟩;go_wp2;go_ret
 exact ⟨rfl,0,rfl⟩
theorem VJ {o:Col}{c:Nat}(w:World)(ao:Option Addr)(n cap:Nat)(l:List Int)(h:Ints w o c (.slice ao n cap) l):Calls Tryz.prog 73 #[.int .u8 3,.slice ao n cap] w (Quiet (.bool (decide (aF 3 l))) w):=by
 have e:aF 3 l↔bS l 64:=by simp [aF]
 rw [show decide (aF 3 l)=decide (bS l 64) from decide_eq_decide.2 e];have H:=Lib.hid h;clear h e
 go_enter Tryz.func73,Tryz.ntmps73
 go_wp2_with fail
 refine (rP _ _ _ _ l 64 H.out).mono ?_;rintro e w' ⟨rfl,rfl⟩;go_wp2;go_ret
 exact ⟨rfl,0,rfl⟩
theorem QS {o:Col}{c:Nat}(w:World)(ao:Option Addr)(n cap:Nat)(l:List Int)(h:Ints w o c (.slice ao n cap) l):Calls Tryz.prog 73 #[.int .u8 11,.slice ao n cap] w (Quiet (.bool (decide (aF 11 l))) w):=by
 have e:aF 11 l↔bS l 64:=by simp [aF]
 rw [show decide (aF 11 l)=decide (bS l 64) from decide_eq_decide.2 e];have H:=Lib.hid h;clear h e
 go_enter Tryz.func73,Tryz.ntmps73
 go_wp2_with fail
 refine (rP _ _ _ _ l 64 H.out).mono ?_;rintro e w' ⟨rfl,rfl⟩;go_wp2;go_ret
 exact ⟨rfl,0,rfl⟩
theorem VK {o:Col}{c:Nat}(w:World)(ao:Option Addr)(n cap:Nat)(l:List Int)(h:Ints w o c (.slice ao n cap) l):Calls Tryz.prog 73 #[.int .u8 6,.slice ao n cap] w (Quiet (.bool (decide (aF 6 l))) w):=by
 have e:aF 6 l↔bS l 16:=by simp [aF]
 rw [show decide (aF 6 l)=decide (bS l 16) from decide_eq_decide.2 e];have H:=Lib.hid h;clear h e
 go_enter Tryz.func73,Tryz.ntmps73
 go_wp2_with fail
 refine (rP _ _ _ _ l 16 H.out).mono ?_;rintro e w' ⟨rfl,rfl⟩;go_wp2;go_ret
 exact ⟨rfl,0,rfl⟩
theorem VN {o:Col}{c:Nat}(w:World)(ao:Option Addr)(n cap:Nat)(l:List Int)(h:Ints w o c (.slice ao n cap) l):Calls Tryz.prog 73 #[.int .u8 9,.slice ao n cap] w (Quiet (.bool (decide (aF 9 l))) w):=by
 have e:aF 9 l↔bS l 16:=by simp [aF]
 rw [show decide (aF 9 l)=decide (bS l 16) from decide_eq_decide.2 e];have H:=Lib.hid h;clear h e
 go_enter Tryz.func73,Tryz.ntmps73
 go_wp2_with fail
 refine (rP _ _ _ _ l 16 H.out).mono ?_;rintro e w' ⟨rfl,rfl⟩;go_wp2;go_ret
 exact ⟨rfl,0,rfl⟩
theorem VO {o:Col}{c:Nat}(w:World)(ao:Option Addr)(n cap:Nat)(l:List Int)(h:Ints w o c (.slice ao n cap) l):Calls Tryz.prog 73 #[.int .u8 4,.slice ao n cap] w (Quiet (.bool (decide (aF 4 l))) w):=by
 have e:aF 4 l↔bD l:=by simp [aF]
 rw [show decide (aF 4 l)=decide (bD l) from decide_eq_decide.2 e];have H:=Lib.hid h;clear h e
 go_enter Tryz.func73,Tryz.ntmps73
 go_wp2_with fail
 refine (GH _ _ _ _ l H.out).mono ?_;rintro e w' ⟨rfl,m,rfl⟩;go_wp2;go_ret
 exact ⟨rfl,m,rfl⟩
theorem VR {o:Col}{c:Nat}(w:World)(ao:Option Addr)(n cap:Nat)(l:List Int)(h:Ints w o c (.slice ao n cap) l):Calls Tryz.prog 73 #[.int .u8 5,.slice ao n cap] w (Quiet (.bool (decide (aF 5 l))) w):=by
 have e:aF 5 l↔bD l:=by simp [aF]
 rw [show decide (aF 5 l)=decide (bD l) from decide_eq_decide.2 e];have H:=Lib.hid h;clear h e
 go_enter Tryz.func73,Tryz.ntmps73
 go_wp2_with fail
 refine (GH _ _ _ _ l H.out).mono ?_;rintro e w' ⟨rfl,m,rfl⟩;go_wp2;go_ret
 exact ⟨rfl,m,rfl⟩
theorem VS {o:Col}{c:Nat}(w:World)(ao:Option Addr)(n cap:Nat)(l:List Int)(h:Ints w o c (.slice ao n cap) l):Calls Tryz.prog 73 #[.int .u8 7,.slice ao n cap] w (Quiet (.bool (decide (aF 7 l))) w):=by
 have e:aF 7 l↔l.length=0:=by simp [aF]
 rw [show decide (aF 7 l)=decide (l.length=0) from decide_eq_decide.2 e];obtain rfl:=h.len;clear h e;generalize l.length=L at *
 by_cases hl:L=0
 ·
  subst hl;rw [decide_eq_true rfl]
  go_enter Tryz.func73,Tryz.ntmps73
  go_wp2;go_ret
  exact ⟨rfl,0,rfl⟩
 ·
  have hb:decide (L=0)=false:=decide_eq_false hl;have hb1:((L:Int) == 0)=false:=by simp;omega
  rw [hb]
  go_enter Tryz.func73,Tryz.ntmps73
  go_wp2;go_ret
  refine ⟨?_,0,rfl⟩
  first
   | rfl
   | (show Ending.returned (.bool (decide (L=0)))=_;rw [hb])
   | (show Ending.returned (.bool (L == 0))=_;simp [hl])
   | (show Ending.returned (.bool ((L:Int) == 0))=_;rw [hb1])
   | (show Ending.returned (.bool (decide ((L:Int)=0)))=_;rw [decide_eq_false (by omega)])
theorem VT {o:Col}{c:Nat}(w:World)(ao:Option Addr)(n cap:Nat)(l:List Int)(h:Ints w o c (.slice ao n cap) l):Calls Tryz.prog 73 #[.int .u8 8,.slice ao n cap] w (Quiet (.bool (decide (aF 8 l))) w):=by
 have e:aF 8 l↔l.length=0:=by simp [aF]
 rw [show decide (aF 8 l)=decide (l.length=0) from decide_eq_decide.2 e];obtain rfl:=h.len;clear h e;generalize l.length=L at *
 by_cases hl:L=0
 ·
  subst hl;rw [decide_eq_true rfl]
  go_enter Tryz.func73,Tryz.ntmps73
  go_wp2;go_ret
  exact ⟨rfl,0,rfl⟩
 ·
  have hb:decide (L=0)=false:=decide_eq_false hl;have hb1:((L:Int) == 0)=false:=by simp;omega
  rw [hb]
  go_enter Tryz.func73,Tryz.ntmps73
  go_wp2;go_ret
  refine ⟨?_,0,rfl⟩
  first
   | rfl
   | (show Ending.returned (.bool (decide (L=0)))=_;rw [hb])
   | (show Ending.returned (.bool (L == 0))=_;simp [hl])
   | (show Ending.returned (.bool ((L:Int) == 0))=_;rw [hb1])
   | (show Ending.returned (.bool (decide ((L:Int)=0)))=_;rw [decide_eq_false (by omega)])
theorem QT {o:Col}{c:Nat}(w:World)(ao:Option Addr)(n cap:Nat)(l:List Int)(h:Ints w o c (.slice ao n cap) l):Calls Tryz.prog 73 #[.int .u8 10,.slice ao n cap] w (Quiet (.bool (decide (aF 10 l))) w):=by
 have e:aF 10 l↔l.length=2:=by simp [aF]
 rw [show decide (aF 10 l)=decide (l.length=2) from decide_eq_decide.2 e];obtain rfl:=h.len;clear h e;generalize l.length=L at *
 by_cases hl:L=2
 ·
  subst hl;rw [decide_eq_true rfl]
  go_enter Tryz.func73,Tryz.ntmps73
  go_wp2;go_ret
  exact ⟨rfl,0,rfl⟩
 ·
  have hb:decide (L=2)=false:=decide_eq_false hl;have hb1:((L:Int) == 2)=false:=by simp;omega
  rw [hb]
  go_enter Tryz.func73,Tryz.ntmps73
  go_wp2;go_ret
  refine ⟨?_,0,rfl⟩
  first
   | rfl
   | (show Ending.returned (.bool (decide (L=2)))=_;rw [hb])
   | (show Ending.returned (.bool (L == 2))=_;simp [hl])
   | (show Ending.returned (.bool ((L:Int) == 2))=_;rw [hb1])
   | (show Ending.returned (.bool (decide ((L:Int)=2)))=_;rw [decide_eq_false (by omega)])
theorem VU {o:Col}{c:Nat}(w:World)(ao:Option Addr)(n cap:Nat)(l:List Int)(h:Ints w o c (.slice ao n cap) l):Calls Tryz.prog 73 #[.int .u8 1,.slice ao n cap] w (Quiet (.bool (decide (aF 1 l))) w):=by
 have e:aF 1 l↔1≤l.length∧l.length≤16:=by simp [aF]
 rw [show decide (aF 1 l)=decide (1≤l.length∧l.length≤16) from decide_eq_decide.2 e];obtain rfl:=h.len;clear h e
 by_cases h1:1≤l.length
 ·
  have h1i:(1:Int)≤l.length:=by omega
  by_cases h2:l.length≤16
  ·
   have h2i:(l.length:Int)≤16:=by omega
   rw [decide_eq_true ⟨h1,h2⟩]
   go_enter Tryz.func73,Tryz.ntmps73
   go_wp2;go_ret
   exact ⟨rfl,0,rfl⟩
  ·
   have h2i:¬ (l.length:Int)≤16:=by omega
   rw [decide_eq_false (fun h=>h2 h.2)]
   go_enter Tryz.func73,Tryz.ntmps73
   go_wp2;go_ret
   exact ⟨rfl,0,rfl⟩
 ·
  have h1i:¬ (1:Int)≤l.length:=by omega
  rw [decide_eq_false (fun h=>h1 h.1)]
  go_enter Tryz.func73,Tryz.ntmps73
  go_wp2;go_ret
  exact ⟨rfl,0,rfl⟩
theorem gK {o:Col}{c:Nat}(w:World)(t:Int)(ht:iI t)(ao:Option Addr)(n cap:Nat)(l:List Int)(h:Ints w o c (.slice ao n cap) l):Calls Tryz.prog 73 #[.int .u8 t,.slice ao n cap] w (Quiet (.bool (decide (aF t l))) w):=by
 rcases ht with rfl | rfl | rfl | rfl | rfl | rfl | rfl | rfl | rfl | rfl | rfl
 ·
  exact VU w ao n cap l h
 ·
  exact VI w ao n cap l h
 ·
  exact VJ w ao n cap l h
 ·
  exact VO w ao n cap l h
 ·
  exact VR w ao n cap l h
 ·
  exact VK w ao n cap l h
 ·
  exact VS w ao n cap l h
 ·
  exact VT w ao n cap l h
 ·
  exact VN w ao n cap l h
 ·
  exact QT w ao n cap l h
 ·
  exact QS w ao n cap l h
theorem VW (w:World)(t:Int)(v:Value)(h:t < 1∨11 < t):Calls Tryz.prog 54 #[.int .u8 t,v] w (fA w 60):=by
 by_cases h1:t < 1
 ·
  go_enter Tryz.func54,Tryz.ntmps54
  go_wp2
  go_ret3
  exact ⟨rfl,Below.refl _ _⟩
 ·
  have h2:11 < t:=by omega
  go_enter Tryz.func54,Tryz.ntmps54
  go_wp2
  go_ret3
  exact ⟨rfl,Below.refl _ _⟩
theorem VX {o:Col}{c:Nat}(w:World)(t:Int)(ht:iI t)(ao:Option Addr)(n cap:Nat)(l:List Int)(hg:¬ aF t l)(h:Ints w o c (.slice ao n cap) l):Calls Tryz.prog 54 #[.int .u8 t,.slice ao n cap] w (fA w 61):=by
 have h1:1≤t:=by unfold iI at ht;omega
 have h2:t≤11:=by unfold iI at ht;omega
 have hgd:=gK w t ht ao n cap l h;rw [decide_eq_false hg] at hgd;clear ht hg h
 go_enter Tryz.func54,Tryz.ntmps54
 go_wp2_with fail
 refine hgd.mono ?_;rintro e w' ⟨rfl,m,rfl⟩;clear hgd;go_wp2
 go_ret3
 exact ⟨rfl,fw (Below.refl _ _) m⟩
theorem aaV {o:Col}{c:Nat}(w:World)(ao:Option Addr)(n cap:Nat)(l:List Int)(hg:aF 1 l)(h:Ints w o c (.slice ao n cap) l):Calls Tryz.prog 54 #[.int .u8 1,.slice ao n cap] w (jf w 1 l):=by
 have hgd:=gK w 1 (by simp [iI]) _ _ _ _ h;rw [decide_eq_true hg] at hgd;clear hg h
 go_enter Tryz.func54,Tryz.ntmps54
 go_wp2_with fail
 refine hgd.mono ?_;rintro e w0 ⟨rfl,m,rfl⟩;clear hgd
 go_wp2_with fail
 refine (dh _ 1 1 (by omega)).mono ?_;rintro e w1 ⟨v1,rfl,ho1,hb1⟩;have qJ:=Lib.hid ho1;clear ho1
 go_wp2_with fail
 refine (dh _ 1 1 (by omega)).mono ?_;rintro e w2 ⟨v2,rfl,ho2,hb2⟩;have nQ:=Lib.hid ho2;clear ho2;go_wp2
 go_ret3
 obtain ⟨q1,q2,q3⟩:=iC (fw (Below.refl _ w) m) qJ.out hb1 (Below.refl _ _) nQ.out hb2;exact ⟨v1,v2,rfl,q1,q2,q3⟩
theorem aaW {o:Col}{c:Nat}(w:World)(ao:Option Addr)(n cap:Nat)(l:List Int)(hg:aF 8 l)(h:Ints w o c (.slice ao n cap) l):Calls Tryz.prog 54 #[.int .u8 8,.slice ao n cap] w (jf w 8 l):=by
 have hgd:=gK w 8 (by simp [iI]) _ _ _ _ h;rw [decide_eq_true hg] at hgd;clear hg h
 go_enter Tryz.func54,Tryz.ntmps54
 go_wp2_with fail
 refine hgd.mono ?_;rintro e w0 ⟨rfl,m,rfl⟩;clear hgd
 go_wp2_with fail
 refine (dh _ 1 1 (by omega)).mono ?_;rintro e w1 ⟨v1,rfl,ho1,hb1⟩;have qJ:=Lib.hid ho1;clear ho1
 go_wp2_with fail
 refine (dh _ 1 1 (by omega)).mono ?_;rintro e w2 ⟨v2,rfl,ho2,hb2⟩;have nQ:=Lib.hid ho2;clear ho2;go_wp2
 go_ret3
 obtain ⟨q1,q2,q3⟩:=iC (fw (Below.refl _ w) m) qJ.out hb1 (Below.refl _ _) nQ.out hb2;exact ⟨v1,v2,rfl,q1,q2,q3⟩
theorem aaX {o:Col}{c:Nat}(w:World)(ao:Option Addr)(n cap:Nat)(l:List Int)(hg:aF 7 l)(h:Ints w o c (.slice ao n cap) l):Calls Tryz.prog 54 #[.int .u8 7,.slice ao n cap] w (jf w 7 l):=by
 have hgd:=gK w 7 (by simp [iI]) _ _ _ _ h;rw [decide_eq_true hg] at hgd;clear hg h
 go_enter Tryz.func54,Tryz.ntmps54
 go_wp2_with fail
 refine hgd.mono ?_;rintro e w0 ⟨rfl,m,rfl⟩;clear hgd
 go_wp2_with fail
 refine (dh _ 2 1 (by omega)).mono ?_;rintro e w1 ⟨v1,rfl,ho1,hb1⟩;have qJ:=Lib.hid ho1;clear ho1
 go_wp2_with fail
 refine (dh _ 1 1 (by omega)).mono ?_;rintro e w2 ⟨v2,rfl,ho2,hb2⟩;have nQ:=Lib.hid ho2;clear ho2;go_wp2
 go_ret3
 obtain ⟨q1,q2,q3⟩:=iC (fw (Below.refl _ w) m) qJ.out hb1 (Below.refl _ _) nQ.out hb2;exact ⟨v1,v2,rfl,q1,q2,q3⟩
theorem aaY {o:Col}{c:Nat}(w:World)(ao:Option Addr)(n cap:Nat)(l:List Int)(hg:aF 3 l)(h:Ints w o c (.slice ao n cap) l):Calls Tryz.prog 54 #[.int .u8 3,.slice ao n cap] w (jf w 3 l):=by
 have hp:bS l 64:=by simpa [aF] using hg
 obtain ⟨hl,hx1,hx2⟩:=hp;obtain ⟨x,rfl⟩:∃ x,l=[x]:=by
  match l,hl with
  | [x],_=>exact ⟨x,rfl⟩
 simp only [hd,List.getElem?_cons_zero,Option.getD_some] at hx1 hx2;obtain rfl:=h.len;obtain ⟨b,off,rfl,-,hcap,-,-,hc⟩:=h.at (by simp);have c0:=hc 0 (by simp);simp at c0;have iK:(1:Int)≤cap:=by simp at hcap;omega
 clear hc;have hgd:=gK w 3 (by simp [iI]) _ _ _ _ h;rw [decide_eq_true hg] at hgd;clear hg h
 go_enter Tryz.func54,Tryz.ntmps54
 go_wp2_with fail
 refine hgd.mono ?_;rintro e w0 ⟨rfl,m,rfl⟩;clear hgd
 go_wp2_with fail
 refine (dh _ 1 x (by omega)).mono ?_;rintro e w1 ⟨v1,rfl,ho1,hb1⟩;have qJ:=Lib.hid ho1;clear ho1
 go_wp2_with fail
 refine (dh _ 1 1 (by omega)).mono ?_;rintro e w2 ⟨v2,rfl,ho2,hb2⟩;have nQ:=Lib.hid ho2;clear ho2;go_wp2
 go_ret3
 obtain ⟨q1,q2,q3⟩:=iC (fw (Below.refl _ w) m) qJ.out hb1 (Below.refl _ _) nQ.out hb2;exact ⟨v1,v2,rfl,q1,q2,q3⟩
theorem ZG {o:Col}{c:Nat}(w:World)(ao:Option Addr)(n cap:Nat)(l:List Int)(hg:aF 11 l)(h:Ints w o c (.slice ao n cap) l):Calls Tryz.prog 54 #[.int .u8 11,.slice ao n cap] w (jf w 11 l):=by
 have hp:bS l 64:=by simpa [aF] using hg
 obtain ⟨hl,hx1,hx2⟩:=hp;obtain ⟨x,rfl⟩:∃ x,l=[x]:=by
  match l,hl with
  | [x],_=>exact ⟨x,rfl⟩
 simp only [hd,List.getElem?_cons_zero,Option.getD_some] at hx1 hx2;obtain rfl:=h.len;obtain ⟨b,off,rfl,-,hcap,-,-,hc⟩:=h.at (by simp);have c0:=hc 0 (by simp);simp at c0;have iK:(1:Int)≤cap:=by simp at hcap;omega
 clear hc;have hgd:=gK w 11 (by simp [iI]) _ _ _ _ h;rw [decide_eq_true hg] at hgd;clear hg h
 go_enter Tryz.func54,Tryz.ntmps54
 go_wp2_with fail
 refine hgd.mono ?_;rintro e w0 ⟨rfl,m,rfl⟩;clear hgd
 go_wp2_with fail
 refine (dh _ 1 x (by omega)).mono ?_;rintro e w1 ⟨v1,rfl,ho1,hb1⟩;have qJ:=Lib.hid ho1;clear ho1;go_wp2
 go_ret3
 obtain ⟨q1,q3⟩:=zQ (fw (Below.refl _ w) m) qJ.out hb1;exact ⟨v1,.slice none 0 0,rfl,q1,World.ownsRow_nil _ _ _ _,q3⟩
theorem ZH {o:Col}{c:Nat}(w:World)(ao:Option Addr)(n cap:Nat)(l:List Int)(hg:aF 10 l)(h:Ints w o c (.slice ao n cap) l):Calls Tryz.prog 54 #[.int .u8 10,.slice ao n cap] w (jf w 10 l):=by
 have hgd:=gK w 10 (by simp [iI]) _ _ _ _ h;rw [decide_eq_true hg] at hgd;clear hg h
 go_enter Tryz.func54,Tryz.ntmps54
 go_wp2_with fail
 refine hgd.mono ?_;rintro e w0 ⟨rfl,m,rfl⟩;clear hgd
 go_wp2_with fail
 refine (dh _ 1 1 (by omega)).mono ?_;rintro e w1 ⟨v1,rfl,ho1,hb1⟩;have qJ:=Lib.hid ho1;clear ho1;go_wp2
 go_ret3
 obtain ⟨q1,q3⟩:=zQ (fw (Below.refl _ w) m) qJ.out hb1;exact ⟨.slice none 0 0,v1,rfl,World.ownsRow_nil _ _ _ _,q1,q3⟩
theorem aaZ {o:Col}{c:Nat}(w:World)(ao:Option Addr)(n cap:Nat)(l:List Int)(hg:aF 6 l)(h:Ints w o c (.slice ao n cap) l):Calls Tryz.prog 54 #[.int .u8 6,.slice ao n cap] w (jf w 6 l):=by
 have hp:bS l 16:=by simpa [aF] using hg
 obtain ⟨hl,hx1,hx2⟩:=hp;obtain ⟨x,rfl⟩:∃ x,l=[x]:=by
  match l,hl with
  | [x],_=>exact ⟨x,rfl⟩
 simp only [hd,List.getElem?_cons_zero,Option.getD_some] at hx1 hx2;obtain rfl:=h.len;obtain ⟨b,off,rfl,-,hcap,-,-,hc⟩:=h.at (by simp);have c0:=hc 0 (by simp);simp at c0;have iK:(1:Int)≤cap:=by simp at hcap;omega
 clear hc;have hgd:=gK w 6 (by simp [iI]) _ _ _ _ h;rw [decide_eq_true hg] at hgd;clear hg h
 go_enter Tryz.func54,Tryz.ntmps54
 go_wp2_with fail
 refine hgd.mono ?_;rintro e w0 ⟨rfl,m,rfl⟩;clear hgd;obtain ⟨u,rfl⟩:∃ u:Nat,x=u:=⟨x.toNat,by omega⟩
 go_wp2_with fail
 refine (dh _ u 1 (by omega)).mono ?_;rintro e w1 ⟨v1,rfl,ho1,hb1⟩;have qJ:=Lib.hid ho1;clear ho1
 go_wp2_with fail
 refine (dh _ 1 1 (by omega)).mono ?_;rintro e w2 ⟨v2,rfl,ho2,hb2⟩;have nQ:=Lib.hid ho2;clear ho2;go_wp2
 go_ret3
 obtain ⟨q1,q2,q3⟩:=iC (fw (Below.refl _ w) m) qJ.out hb1 (Below.refl _ _) nQ.out hb2;exact ⟨v1,v2,rfl,q1,q2,q3⟩
theorem aa0 {o:Col}{c:Nat}(w:World)(ao:Option Addr)(n cap:Nat)(l:List Int)(hg:aF 2 l)(h:Ints w o c (.slice ao n cap) l):Calls Tryz.prog 54 #[.int .u8 2,.slice ao n cap] w (jf w 2 l):=by
 have hp:bS l 64:=by simpa [aF] using hg
 obtain ⟨hl,hx1,hx2⟩:=hp;obtain ⟨x,rfl⟩:∃ x,l=[x]:=by
  match l,hl with
  | [x],_=>exact ⟨x,rfl⟩
 simp only [hd,List.getElem?_cons_zero,Option.getD_some] at hx1 hx2;obtain rfl:=h.len;obtain ⟨b,off,rfl,-,hcap,-,-,hc⟩:=h.at (by simp);have c0:=hc 0 (by simp);simp at c0;have iK:(1:Int)≤cap:=by simp at hcap;omega
 clear hc;have hgd:=gK w 2 (by simp [iI]) _ _ _ _ h;rw [decide_eq_true hg] at hgd;clear hg h
 go_enter Tryz.func54,Tryz.ntmps54
 go_wp2_with fail
 refine hgd.mono ?_;rintro e w0 ⟨rfl,m,rfl⟩;clear hgd
 go_wp2_with fail
 refine eP (fun w'=>w'.cell? ⟨b,off,none⟩=some (.int .i64 x)) [1,2,3] [0] 5 (by kernel_rfl) (by kernel_rfl) rfl c0 ?_;intro Q' hQ';simp only [pk];refine aA ?_;refine av ?_;refine aG (i:=0) (by kernel_rfl) ?_;simp only [pk]
 go_wp2_with fail
 refine (dh _ 1 1 (by omega)).mono ?_;rintro e w1 ⟨v1,rfl,ho1,hb1⟩;have qJ:=Lib.hid ho1;clear ho1;have hb1:Below w.heap.size w w1:=iY (n:=m+1) hb1;go_wp2;refine ⟨fun _ hS=>cell_later hb1 c0,?_⟩;refine bg (ks:=[4,5,6,7]) (fun _ _ hx h=>hx.cell h) (by kernel_rfl) ?_;simp only [pk]
 go_wp2_with fail
 refine (dh _ 1 x (by omega)).mono ?_;rintro e w2 ⟨v2,rfl,ho2,hb2⟩;have nQ:=Lib.hid ho2;clear ho2;go_wp2
 go_ret3
 obtain ⟨q1,q2,q3⟩:=iC (Below.refl _ w) qJ.out hb1 (Below.refl _ _) nQ.out hb2;exact ⟨v1,v2,rfl,q1,q2,q3⟩
theorem aa1 {o:Col}{c:Nat}(w:World)(ao:Option Addr)(n cap:Nat)(l:List Int)(hg:aF 9 l)(h:Ints w o c (.slice ao n cap) l):Calls Tryz.prog 54 #[.int .u8 9,.slice ao n cap] w (jf w 9 l):=by
 have hp:bS l 16:=by simpa [aF] using hg
 obtain ⟨hl,hx1,hx2⟩:=hp;obtain ⟨x,rfl⟩:∃ x,l=[x]:=by
  match l,hl with
  | [x],_=>exact ⟨x,rfl⟩
 simp only [hd,List.getElem?_cons_zero,Option.getD_some] at hx1 hx2;obtain rfl:=h.len;obtain ⟨b,off,rfl,-,hcap,-,-,hc⟩:=h.at (by simp);have c0:=hc 0 (by simp);simp at c0;have iK:(1:Int)≤cap:=by simp at hcap;omega
 clear hc;have hgd:=gK w 9 (by simp [iI]) _ _ _ _ h;rw [decide_eq_true hg] at hgd;clear hg h
 go_enter Tryz.func54,Tryz.ntmps54
 go_wp2_with fail
 refine hgd.mono ?_;rintro e w0 ⟨rfl,m,rfl⟩;clear hgd;obtain ⟨u,hu⟩:∃ u:Nat,x=u:=⟨x.toNat,by omega⟩
 subst hu
 go_wp2_with fail
 refine eP (fun w'=>w'.cell? ⟨b,off,none⟩=some (.int .i64 u)) [1,2,3] [0] 5 (by kernel_rfl) (by kernel_rfl) rfl c0 ?_;intro Q' hQ';simp only [pk];refine aA ?_;refine av ?_;refine aG (i:=0) (by kernel_rfl) ?_;simp only [pk]
 go_wp2_with fail
 refine (dh _ 1 1 (by omega)).mono ?_;rintro e w1 ⟨v1,rfl,ho1,hb1⟩;have qJ:=Lib.hid ho1;clear ho1;have hb1:Below w.heap.size w w1:=iY (n:=m+1) hb1;go_wp2;refine ⟨fun _ hS=>cell_later hb1 c0,?_⟩;refine bg (ks:=[4,5,6,7]) (fun _ _ hx h=>hx.cell h) (by kernel_rfl) ?_;simp only [pk]
 go_wp2_with fail
 refine (dh _ u 1 (by omega)).mono ?_;rintro e w2 ⟨v2,rfl,ho2,hb2⟩;have nQ:=Lib.hid ho2;clear ho2;go_wp2
 go_ret3
 obtain ⟨q1,q2,q3⟩:=iC (Below.refl _ w) qJ.out hb1 (Below.refl _ _) nQ.out hb2;exact ⟨v1,v2,rfl,q1,q2,q3⟩
theorem aa2 {o:Col}{c:Nat}(w:World)(ao:Option Addr)(n cap:Nat)(l:List Int)(hg:aF 4 l)(h:Ints w o c (.slice ao n cap) l):Calls Tryz.prog 54 #[.int .u8 4,.slice ao n cap] w (jf w 4 l):=by
 have hp:bD l:=by simpa [aF] using hg
 obtain ⟨hl,hx,hy,hxy⟩:=hp;obtain ⟨x,y,rfl⟩:∃ x y,l=[x,y]:=by
  match l,hl with
  | [x,y],_=>exact ⟨x,y,rfl⟩
 simp only [hd,hd1,List.getElem?_cons_zero,List.getElem?_cons_succ,Option.getD_some] at hx hy hxy;obtain rfl:=h.len;obtain ⟨b,off,rfl,-,hcap,-,-,hc⟩:=h.at (by simp);have c0:=hc 0 (by simp);have c1:=hc 1 (by simp);simp at c0 c1;have iK:(2:Int)≤cap:=by simp at hcap;omega
 clear hc;have hgd:=gK w 4 (by simp [iI]) _ _ _ _ h;rw [decide_eq_true hg] at hgd;clear hg h
 go_enter Tryz.func54,Tryz.ntmps54
 go_wp2_with fail
 refine hgd.mono ?_;rintro e w0 ⟨rfl,m,rfl⟩;clear hgd;obtain ⟨u,hu⟩:∃ u:Nat,x=u:=⟨x.toNat,by omega⟩
 obtain ⟨k,hk⟩:∃ k:Nat,y=k:=⟨y.toNat,by omega⟩
 subst hu hk;have hn0:(0:Int)≤(u:Int)*k:=Int.mul_nonneg (by omega) (by omega);have hw:wrap64 ((u:Int)*k)=(u:Int)*k:=IntWalk.wrap64_in _ (by omega);have hw2:IntKind.i64.wrap ((u:Int)*k)=(u:Int)*k:=IntWalk.i64_in _ (by omega)
 go_wp2_with fail
 refine eP (fun w'=>w'.cell? ⟨b,off,none⟩=some (.int .i64 u)∧w'.cell? ⟨b,off+1,none⟩=some (.int .i64 k)) [0,1,2,3,4,5,7,8,9,10,11,12,13] [6] 5 (by kernel_rfl) (by kernel_rfl) rfl ⟨c0,c1⟩ ?_;intro Q' hQ';simp only [pk];refine aA ?_;refine av ?_;refine aG (i:=6) (by kernel_rfl) ?_;simp only [pk]
 go_wp2_with fail
 refine (dh _ u k (by omega)).mono ?_;rintro e w1 ⟨v1,rfl,ho1,hb1⟩;have qJ:=Lib.hid ho1;clear ho1;have hb1:Below w.heap.size w w1:=iY (n:=m+1) hb1;go_wp2;refine ⟨fun _ hS=>⟨cell_later hb1 c0,cell_later hb1 c1⟩,?_⟩;refine bg (ks:=[14,15,16,17]) (fun _ _ hx h=>⟨hx.cell h.1,hx.cell h.2⟩) (by kernel_rfl) ?_;simp only [pk]
 go_wp2_with fail
 refine (dh _ 1 ((u:Int)*k) (by omega)).mono ?_;rintro e w2 ⟨v2,rfl,ho2,hb2⟩;have nQ:=Lib.hid ho2;clear ho2;go_wp2
 go_ret3
 obtain ⟨q1,q2,q3⟩:=iC (Below.refl _ w) qJ.out hb1 (Below.refl _ _) nQ.out hb2;exact ⟨v1,v2,rfl,q1,q2,q3⟩
theorem aa3 {o:Col}{c:Nat}(w:World)(ao:Option Addr)(n cap:Nat)(l:List Int)(hg:aF 5 l)(h:Ints w o c (.slice ao n cap) l):Calls Tryz.prog 54 #[.int .u8 5,.slice ao n cap] w (jf w 5 l):=by
 have hp:bD l:=by simpa [aF] using hg
 obtain ⟨hl,hx,hy,hxy⟩:=hp;obtain ⟨x,y,rfl⟩:∃ x y,l=[x,y]:=by
  match l,hl with
  | [x,y],_=>exact ⟨x,y,rfl⟩
 simp only [hd,hd1,List.getElem?_cons_zero,List.getElem?_cons_succ,Option.getD_some] at hx hy hxy;obtain rfl:=h.len;obtain ⟨b,off,rfl,-,hcap,-,-,hc⟩:=h.at (by simp);have c0:=hc 0 (by simp);have c1:=hc 1 (by simp);simp at c0 c1;have iK:(2:Int)≤cap:=by simp at hcap;omega
 clear hc;have hgd:=gK w 5 (by simp [iI]) _ _ _ _ h;rw [decide_eq_true hg] at hgd;clear hg h
 go_enter Tryz.func54,Tryz.ntmps54
 go_wp2_with fail
 refine hgd.mono ?_;rintro e w0 ⟨rfl,m,rfl⟩;clear hgd;obtain ⟨u,hu⟩:∃ u:Nat,x=u:=⟨x.toNat,by omega⟩
 obtain ⟨k,hk⟩:∃ k:Nat,y=k:=⟨y.toNat,by omega⟩
 subst hu hk;have hn0:(0:Int)≤(u:Int)*k:=Int.mul_nonneg (by omega) (by omega);have hw:wrap64 ((u:Int)*k)=(u:Int)*k:=IntWalk.wrap64_in _ (by omega);have hw2:IntKind.i64.wrap ((u:Int)*k)=(u:Int)*k:=IntWalk.i64_in _ (by omega)
 go_wp2_with fail
 refine eP (fun w'=>w'.cell? ⟨b,off,none⟩=some (.int .i64 u)∧w'.cell? ⟨b,off+1,none⟩=some (.int .i64 k)) [0,1,2,3,4,5,6,8,9,10,11,12,13] [7] 5 (by kernel_rfl) (by kernel_rfl) rfl ⟨c0,c1⟩ ?_;intro Q' hQ';simp only [pk];refine aA ?_;refine av ?_;refine aG (i:=7) (by kernel_rfl) ?_;simp only [pk]
 go_wp2_with fail
 refine (dh _ 1 ((u:Int)*k) (by omega)).mono ?_;rintro e w1 ⟨v1,rfl,ho1,hb1⟩;have qJ:=Lib.hid ho1;clear ho1;have hb1:Below w.heap.size w w1:=iY (n:=m+1) hb1;go_wp2;refine ⟨fun _ hS=>⟨cell_later hb1 c0,cell_later hb1 c1⟩,?_⟩;refine bg (ks:=[14,15,16,17]) (fun _ _ hx h=>⟨hx.cell h.1,hx.cell h.2⟩) (by kernel_rfl) ?_;simp only [pk]
 go_wp2_with fail
 refine (dh _ u k (by omega)).mono ?_;rintro e w2 ⟨v2,rfl,ho2,hb2⟩;have nQ:=Lib.hid ho2;clear ho2;go_wp2
 go_ret3
 obtain ⟨q1,q2,q3⟩:=iC (Below.refl _ w) qJ.out hb1 (Below.refl _ _) nQ.out hb2;exact ⟨v1,v2,rfl,q1,q2,q3⟩
theorem AY {o:Col}{c:Nat}(w:World)(t:Int)(ao:Option Addr)(n cap:Nat)(ps:List Int)(hg:aF t ps)(h:Ints w o c (.slice ao n cap) ps):Calls Tryz.prog 54 #[.int .u8 t,.slice ao n cap] w (jf w t ps):=by
 rcases lW hg with rfl | rfl | rfl | rfl | rfl | rfl | rfl | rfl | rfl | rfl | rfl
 ·
  exact aaV w ao n cap ps hg h
 ·
  exact aa0 w ao n cap ps hg h
 ·
  exact aaY w ao n cap ps hg h
 ·
  exact aa2 w ao n cap ps hg h
 ·
  exact aa3 w ao n cap ps hg h
 ·
  exact aaZ w ao n cap ps hg h
 ·
  exact aaX w ao n cap ps hg h
 ·
  exact aaW w ao n cap ps hg h
 ·
  exact aa1 w ao n cap ps hg h
 ·
  exact ZH w ao n cap ps hg h
 ·
  exact ZG w ao n cap ps hg h
theorem ZI {o:Col}{c:Nat}(w:World)(t:Int)(ao:Option Addr)(n cap:Nat)(ps:List Int)(hg:¬ aF t ps)(h:Ints w o c (.slice ao n cap) ps):Calls Tryz.prog 54 #[.int .u8 t,.slice ao n cap] w (fA w (zw t)):=by
 unfold zw
 by_cases ht:1≤t∧t≤11
 ·
  rw [if_pos ht];exact VX w t (by unfold iI;omega) ao n cap ps hg h
 ·
  rw [if_neg ht];exact VW w t _ (by omega)
theorem jD {P:Program}{fn:Func}{p u:Tmp}{ty:TypeId}(h:fn.results=#[.cell p ty,.tmp u])(tmps:Array Value)(w:World)(g:Nat)(t:TypeId)(cs:Array Value)(fr:Nat × Nat)(d:TypeDesc)
  (hp:tmps.getD p undef=.pointer (some ⟨g,0,none⟩)) (hg:w.heap[g]?=some (.cells cs t fr))
  (hu:P.underlying ty=some d) (hd:(match d with | .struct _ | .array _ _=>true | _=>false)=true) (hi:(P.info? ty).map (·.size)=some cs.size) :
  (results fn tmps).run P w=.ok (.tuple #[.agg cs,tmps.getD u undef]) w:=by
 rw [results_cell_tmp h,hp];simp [asAddr,run_loadVar_row w g t ty cs fr d hg hu hd hi,Result.andThen]
def xE (w:World)(t:Int)(ps:List Int)(e:Ending)(w':World):Prop :=
 ∃ vp vi vo vk,e=.returned (.tuple #[.agg #[.int .u8 t,vp,vi,vo,vk,.int .i64 0],.int .i64 0])∧w'.ownsRow w.heap.size 3 1 vp ps.length (aV ps)∧w'.ownsRow w.heap.size 3 1 vi (bT t ps).length (aV (bT t ps)) ∧
  w'.ownsRow w.heap.size 3 1 vo (bP t ps).length (aV (bP t ps))∧w'.ownsRow w.heap.size 3 1 vk (eT t ps).length (aV (eT t ps))∧Below w.heap.size w w'
def six (w:World)(g:Nat)(a b c d e f:Value):World:=(((((w.setCell ⟨g,0,none⟩ a).setCell ⟨g,1,none⟩ b).setCell ⟨g,2,none⟩ c).setCell ⟨g,3,none⟩ d).setCell ⟨g,4,none⟩ e).setCell ⟨g,5,none⟩ f
theorem lX {w0 w:World}{g:Nat}{a b c d e f:Value}{F:Nat→Prop}(h:aI F w0 w)(hg:F g):aI F w0 (six w g a b c d e f) :=
 (((((h.setCell (p:=⟨g,0,none⟩) (fun _=>hg) a).setCell (p:=⟨g,1,none⟩) (fun _=>hg) b).setCell (p:=⟨g,2,none⟩) (fun _=>hg) c).setCell (p:=⟨g,3,none⟩) (fun _=>hg) d).setCell (p:=⟨g,4,none⟩) (fun _=>hg) e).setCell (p:=⟨g,5,none⟩) (fun _=>hg) f
theorem qo {w w1 w2 W:World}{t:Int}{ps:List Int}{vi vo vp vk:Value}{a b c d e f:Value}(sw:w.heap.size+1≤w1.heap.size)(hb:Below w.heap.size w w1)(hb2:Below w1.heap.size w1 w2)(hW:Below w2.heap.size w2 W)
  (o1:w1.ownsRow (w.heap.size+1) 3 1 vi (bT t ps).length (aV (bT t ps))) (o2:w1.ownsRow (w.heap.size+1) 3 1 vo (bP t ps).length (aV (bP t ps)))
  (o3:w2.ownsRow w1.heap.size 3 1 vp ps.length (aV ps)) (o4:W.ownsRow w2.heap.size 3 1 vk (eT t ps).length (aV (eT t ps))) :
  xE w t ps (.returned (.tuple #[.agg #[.int .u8 t,vp,vi,vo,vk,.int .i64 0],.int .i64 0])) (six W w.heap.size a b c d e f):=by
 have s2:=hb2.size;have M1:aI (fun k=>k=w.heap.size) w1 (six W w.heap.size a b c d e f):=lX (aI.of_below (hb2.trans (hW.mono s2)) _) rfl;have M2:aI (fun k=>k=w.heap.size) w2 (six W w.heap.size a b c d e f):=lX (aI.of_below hW _) rfl;have M3:aI (fun k=>k=w.heap.size) W (six W w.heap.size a b c d e f):=lX (aI.refl _ _) rfl;have M0:aI (fun k=>k=w.heap.size) w (six W w.heap.size a b c d e f):=lX (aI.of_below (hb.trans ((hb2.trans (hW.mono s2)).mono hb.size)) _) rfl;exact ⟨vp,vi,vo,vk,rfl,bG (fD o3 M2 (fun k hk e=>by have:=(o3.lt k hk).1;omega)) (fun k hk=>by have:=(o3.lt k hk).1;omega),
  bG (fD o1 M1 (fun k hk e=>by have:=(o1.lt k hk).1;omega)) (fun k hk=>by have:=(o1.lt k hk).1;omega),
  bG (fD o2 M1 (fun k hk e=>by have:=(o2.lt k hk).1;omega)) (fun k hk=>by have:=(o2.lt k hk).1;omega),
  bG (fD o4 M3 (fun k hk e=>by have:=(o4.lt k hk).1;omega)) (fun k hk=>by have:=(o4.lt k hk).1;omega),
  M0.below (Nat.le_refl _) (fun k hk e=>by omega)⟩
theorem ML {o:Col}{c:Nat}(w:World)(t:Int)(ao:Option Addr)(n cap:Nat)(ps:List Int)(hg:aF t ps)(h:Ints w o c (.slice ao n cap) ps)(t1:¬ t=1)(t8:¬ t=8)(ZJ:¬ t=10):Calls Tryz.prog 20 #[.int .u8 t,.slice ao n cap] w (xE w t ps):=by
 have HH:=Lib.hid h;have HG:=Lib.hid hg;have hl:ps.length≤64:=by
  unfold aF bS bD at hg;omega
 clear h hg
 go_enter Tryz.func20,Tryz.ntmps20
 go_wp2_with fail
 refine (AY _ t ao n cap ps HG.out (HH.out.has.below (au w _))).mono ?_;rintro e w1 ⟨vi,vo,rfl,o1,o2,hb1⟩;have hB:=heap_alloc_new w (.cells #[.int .u8 0,.slice none 0 0,.slice none 0 0,.slice none 0 0,.slice none 0 0,.int .i64 0] 83);have hB1:=aT hB (aI.of_below hb1 (fun _=>False)) (fun h=>h);have hb:Below w.heap.size w w1:=(au w _).trans (hb1.mono (by simp));have ZK:=Lib.hid (HH.out.has.below hb);obtain ⟨ai,ci,rfl⟩:=aB o1;obtain ⟨a2,c2,rfl⟩:=aB o2;rw [World.size_alloc] at o1 o2;have O1:=Lib.hid o1;have O2:=Lib.hid o2;have HB1:=Lib.hid hB1;clear o1 o2 hB hB1
 go_wp2_with fail
 refine (iE _ ao n cap ps ZK.out (by omega)).mono ?_;rintro e w2 ⟨vp,rfl,o3,hb2⟩;obtain ⟨a3,c3,rfl⟩:=aB o3;have O3:=Lib.hid o3;clear o3;have HB2:=Lib.hid (aT HB1.out (aI.of_below hb2 (fun _=>False)) (fun h=>h));have hB3:=aK HB2.out (.cells #[.int .u8 t,.slice a3 ps.length c3,.slice ai (bT t ps).length ci,.slice a2 (bP t ps).length c2,.slice none 0 0,.int .i64 0] 83);have q0:=ah _ _ hB3 0 _ rfl;have q1:=ah _ _ hB3 1 _ rfl;have q2:=ah _ _ hB3 2 _ rfl;have q3:=ah _ _ hB3 3 _ rfl;have q4:=ah _ _ hB3 4 _ rfl;have q5:=ah _ _ hB3 5 _ rfl;have r0:=aj hB3 0;have r1:=aj hB3 1;have r2:=aj hB3 2;have r3:=aj hB3 3;have r4:=aj hB3 4;have r5:=aj hB3 5;have HB3:=Lib.hid hB3;clear hB3;go_wp2;have hK:=block_setCell (block_setCell (block_setCell (block_setCell (block_setCell (block_setCell HB3.out 0 (.int .u8 t)) 1 (.slice a3 ps.length c3)) 2 (.slice ai (bT t ps).length ci)) 3 (.slice a2 (bP t ps).length c2)) 4 (.slice none 0 0)) 5 (.int .i64 0);refine bodyPost_ret_by (jD rfl _ _ _ _ _ _ _ rfl hK Tryz.underlying83 rfl (by kernel_rfl)) rfl ?_;have s1:=hb1.size;have s2:=hb2.size;have sw:w.heap.size+1≤w1.heap.size:=by simpa using s1
 have hbw2:Below w.heap.size w w2:=hb.trans (hb2.mono hb.size);exact qo sw hb hb2 (au w2 _) O1.out O2.out O3.out (by rw [show eT t ps=[] by unfold eT;rw [if_neg t1,if_neg t8,if_neg ZJ]];exact World.ownsRow_nil _ _ _ _)
theorem ZL {o:Col}{c:Nat}(w:World)(ao:Option Addr)(n cap:Nat)(ps:List Int)(hg:aF 8 ps)(h:Ints w o c (.slice ao n cap) ps):Calls Tryz.prog 20 #[.int .u8 8,.slice ao n cap] w (xE w 8 ps):=by
 have HH:=Lib.hid h;have HG:=Lib.hid hg;have hl:ps.length≤64:=by
  simp [aF] at hg;simp [hg]
 clear h hg
 go_enter Tryz.func20,Tryz.ntmps20
 go_wp2_with fail
 refine (AY _ 8 ao n cap ps HG.out (HH.out.has.below (au w _))).mono ?_;rintro e w1 ⟨vi,vo,rfl,o1,o2,hb1⟩;have hB:=heap_alloc_new w (.cells #[.int .u8 0,.slice none 0 0,.slice none 0 0,.slice none 0 0,.slice none 0 0,.int .i64 0] 83);have hB1:=aT hB (aI.of_below hb1 (fun _=>False)) (fun h=>h);have hb:Below w.heap.size w w1:=(au w _).trans (hb1.mono (by simp));have ZK:=Lib.hid (HH.out.has.below hb);obtain ⟨ai,ci,rfl⟩:=aB o1;obtain ⟨a2,c2,rfl⟩:=aB o2;rw [World.size_alloc] at o1 o2;have O1:=Lib.hid o1;have O2:=Lib.hid o2;have HB1:=Lib.hid hB1;clear o1 o2 hB hB1
 go_wp2_with fail
 refine (iE _ ao n cap ps ZK.out (by omega)).mono ?_;rintro e w2 ⟨vp,rfl,o3,hb2⟩;obtain ⟨a3,c3,rfl⟩:=aB o3;have O3:=Lib.hid o3;clear o3;have HB2:=Lib.hid (aT HB1.out (aI.of_below hb2 (fun _=>False)) (fun h=>h));have hB3:=aK (aK HB2.out (.cells #[.int .u8 8,.slice a3 ps.length c3,.slice ai (bT 8 ps).length ci,.slice a2 (bP 8 ps).length c2,.slice (some ⟨w2.heap.size+1,0,none⟩) 1 1,.int .i64 0] 83)) (.cells #[.int .i64 0] 3);have q0:=ah _ _ hB3 0 _ rfl;have q1:=ah _ _ hB3 1 _ rfl;have q2:=ah _ _ hB3 2 _ rfl;have q3:=ah _ _ hB3 3 _ rfl;have q4:=ah _ _ hB3 4 _ rfl;have q5:=ah _ _ hB3 5 _ rfl;have r0:=aj hB3 0;have r1:=aj hB3 1;have r2:=aj hB3 2;have r3:=aj hB3 3;have r4:=aj hB3 4;have r5:=aj hB3 5;have HB3:=Lib.hid hB3;clear hB3;go_wp2;have hK:=block_setCell (block_setCell (block_setCell (block_setCell (block_setCell (block_setCell HB3.out 0 (.int .u8 8)) 1 (.slice a3 ps.length c3)) 2 (.slice ai (bT 8 ps).length ci)) 3 (.slice a2 (bP 8 ps).length c2)) 4 (.slice (some ⟨w2.heap.size+1,0,none⟩) 1 1)) 5 (.int .i64 0);refine bodyPost_ret_by (jD rfl _ _ _ _ _ _ _ rfl hK Tryz.underlying83 rfl (by kernel_rfl)) rfl ?_;have s1:=hb1.size;have s2:=hb2.size;have sw:w.heap.size+1≤w1.heap.size:=by simpa using s1
 have hlit:=bG (oZ (w2.alloc (.cells #[.int .u8 8,.slice a3 ps.length c3,.slice ai (bT 8 ps).length ci,.slice a2 (bP 8 ps).length c2,.slice (some ⟨w2.heap.size+1,0,none⟩) 1 1,.int .i64 0] 83)) [0] (by simp)) (base':=w2.heap.size) (fun k hk=>by have e:=Option.some.inj hk;simp at e;omega);rw [World.size_alloc] at hlit;exact qo sw hb hb2 ((au w2 _).alloc (by simp) _) O1.out O2.out O3.out hlit
theorem VY {o:Col}{c:Nat}(w:World)(ao:Option Addr)(n cap:Nat)(ps:List Int)(hg:aF 10 ps)(h:Ints w o c (.slice ao n cap) ps):Calls Tryz.prog 20 #[.int .u8 10,.slice ao n cap] w (xE w 10 ps):=by
 have hl2:ps.length=2:=by simpa [aF] using hg
 have hl:ps.length≤64:=by omega
 have hpi:(0:Int) < ps.length:=by omega
 obtain rfl:=h.len;obtain ⟨b,off,rfl,-,hcap,-,-,hc⟩:=h.at (by omega);have c0:=hc 0 (by omega);have iK:(ps.length:Int)≤cap:=by omega
 rw [Nat.add_zero] at c0;have hk0:eT 10 ps=[ps[0]?.getD 0]:=rfl;generalize ps[0]?.getD 0=x at *;have HK0:=Lib.hid hk0;have HG:=Lib.hid hg;have HH:=Lib.hid h;clear hc h hg hk0 hl2
 go_enter Tryz.func20,Tryz.ntmps20
 go_wp2_with fail
 refine (AY _ 10 _ _ _ ps HG.out (HH.out.has.below (au w _))).mono ?_;rintro e w1 ⟨vi,vo,rfl,o1,o2,hb1⟩;have hB:=heap_alloc_new w (.cells #[.int .u8 0,.slice none 0 0,.slice none 0 0,.slice none 0 0,.slice none 0 0,.int .i64 0] 83);have hB1:=aT hB (aI.of_below hb1 (fun _=>False)) (fun h=>h);have hb:Below w.heap.size w w1:=(au w _).trans (hb1.mono (by simp));have ZK:=Lib.hid (HH.out.has.below hb);obtain ⟨ai,ci,rfl⟩:=aB o1;obtain ⟨a2,c2,rfl⟩:=aB o2;rw [World.size_alloc] at o1 o2;have O1:=Lib.hid o1;have O2:=Lib.hid o2;have HB1:=Lib.hid hB1;clear o1 o2 hB hB1
 go_wp2_with fail
 refine (iE _ _ _ _ ps ZK.out (by omega)).mono ?_;rintro e w2 ⟨vp,rfl,o3,hb2⟩;obtain ⟨a3,c3,rfl⟩:=aB o3;have O3:=Lib.hid o3;clear o3;have HB2:=Lib.hid (aT HB1.out (aI.of_below hb2 (fun _=>False)) (fun h=>h));have c2x:=cell_later hb2 (cell_later hb c0);have c3x:=ca (o:=.cells #[.int .u8 10,.slice a3 ps.length c3,.slice ai (bT 10 ps).length ci,.slice a2 (bP 10 ps).length c2,.slice none 0 0,.int .i64 0] 83) c2x;have hB3:=aK (aK HB2.out (.cells #[.int .u8 10,.slice a3 ps.length c3,.slice ai (bT 10 ps).length ci,.slice a2 (bP 10 ps).length c2,.slice (some ⟨w2.heap.size+1,0,none⟩) 1 1,.int .i64 0] 83)) (.cells #[.int .i64 x] 3);have q0:=ah _ _ hB3 0 _ rfl;have q1:=ah _ _ hB3 1 _ rfl;have q2:=ah _ _ hB3 2 _ rfl;have q3:=ah _ _ hB3 3 _ rfl;have q4:=ah _ _ hB3 4 _ rfl;have q5:=ah _ _ hB3 5 _ rfl;have r0:=aj hB3 0;have r1:=aj hB3 1;have r2:=aj hB3 2;have r3:=aj hB3 3;have r4:=aj hB3 4;have r5:=aj hB3 5;have HB3:=Lib.hid hB3;clear hB3;go_wp2;have hK:=block_setCell (block_setCell (block_setCell (block_setCell (block_setCell (block_setCell HB3.out 0 (.int .u8 10)) 1 (.slice a3 ps.length c3)) 2 (.slice ai (bT 10 ps).length ci)) 3 (.slice a2 (bP 10 ps).length c2)) 4 (.slice (some ⟨w2.heap.size+1,0,none⟩) 1 1)) 5 (.int .i64 0);refine bodyPost_ret_by (jD rfl _ _ _ _ _ _ _ rfl hK Tryz.underlying83 rfl (by kernel_rfl)) rfl ?_;have s1:=hb1.size;have s2:=hb2.size;have sw:w.heap.size+1≤w1.heap.size:=by simpa using s1
 have hlit:=bG (oZ (w2.alloc (.cells #[.int .u8 10,.slice a3 ps.length c3,.slice ai (bT 10 ps).length ci,.slice a2 (bP 10 ps).length c2,.slice (some ⟨w2.heap.size+1,0,none⟩) 1 1,.int .i64 0] 83)) [x] (by simp)) (base':=w2.heap.size) (fun k hk=>by have e:=Option.some.inj hk;simp at e;omega);rw [World.size_alloc] at hlit;exact qo sw hb hb2 ((au w2 _).alloc (by simp) _) O1.out O2.out O3.out (by rw [HK0.out];exact hlit)
def vL (a b:Int):Option Int:=if Fits (a*b) then some (a*b) else none
theorem JM (n:Int):∃ q:Int,wrap64 n=n+q*18446744073709551616∧-9223372036854775808≤wrap64 n∧wrap64 n≤9223372036854775807:=by
 unfold wrap64;exact ⟨-((n+9223372036854775808) / 18446744073709551616),by omega,by omega,by omega⟩
theorem ED {p z:Int}(hp:∃ q:Int,p=z+q*18446744073709551616)(h:(p - z).natAbs < 18446744073709551616):p=z:=by
 obtain ⟨q,e⟩:=hp;omega
theorem JN {a b:Int}(fa:Fits a)(fb:Fits b)(h0:b≠0)(hm:¬ (b = -1∧a = -9223372036854775808)):wrap64 ((wrap64 (a*b)).tdiv b)=a↔Fits (a*b):=by
 unfold Fits at *
 constructor
 ·
  intro h;obtain ⟨q,e,p1,p2⟩:=JM (a*b);generalize wrap64 (a*b)=p at *;have hpd:p.tdiv b=a:=by
   by_cases hb:b = -1
   ·
    subst hb;have e1:p.tdiv (-1) = -p:=by simp
    rw [e1] at h ⊢
    by_cases hp:p = -9223372036854775808
    ·
     subst hp
     exfalso
     have:wrap64 (-(-9223372036854775808)) = -9223372036854775808:=by unfold wrap64;omega
     rw [this] at h;exact hm ⟨rfl,h.symm⟩
    ·
     rw [IntWalk.wrap64_in _ (by omega)] at h;exact h
   ·
    rw [wV ⟨p1,p2⟩ h0 hb] at h;exact h
  have hdm:=Int.mul_tdiv_add_tmod p b;rw [hpd] at hdm;have hlt:(p.tmod b).natAbs < b.natAbs:=by
   rw [Int.natAbs_tmod];exact Nat.mod_lt _ (by omega)
  have hpe:p=a*b:=ED ⟨q,e⟩ (by
   have e2:p - a*b=p.tmod b:=by rw [Int.mul_comm a b];omega
   rw [e2];omega)
  omega
 ·
  intro h;rw [IntWalk.wrap64_in _ h,Int.mul_tdiv_cancel _ h0];exact IntWalk.wrap64_in _ fa
theorem Dw (w:World)(a b:Int)(fa:Fits a)(fb:Fits b):Calls Tryz.prog 110 #[.int .i64 a,.int .i64 b] w fun e w'=>e=.returned (F8 (vL a b))∧w=w':=by
 by_cases ha:a=0
 ·
  subst ha;have e:vL 0 b=some 0:=by simp [vL,Fits]
  rw [e]
  go_enter Tryz.func110,Tryz.ntmps110
  go_wp2
  go_ret2
  exact ⟨rfl,rfl⟩
 by_cases hb:b=0
 ·
  subst hb;have e:vL a 0=some 0:=by simp [vL,Fits]
  rw [e]
  go_enter Tryz.func110,Tryz.ntmps110
  go_wp2
  go_ret2
  exact ⟨rfl,rfl⟩
 by_cases h1:a = -1∧b = -9223372036854775808
 ·
  obtain ⟨rfl,rfl⟩:=h1;have e:vL (-1) (-9223372036854775808)=none:=by decide
  rw [e];clear fa fb ha hb
  go_enter Tryz.func110,Tryz.ntmps110
  go_wp2
  go_ret2
  exact ⟨rfl,rfl⟩
 by_cases h2:b = -1∧a = -9223372036854775808
 ·
  obtain ⟨rfl,rfl⟩:=h2;have e:vL (-9223372036854775808) (-1)=none:=by decide
  rw [e];clear fa fb ha hb h1
  go_enter Tryz.func110,Tryz.ntmps110
  go_wp2
  go_ret2
  exact ⟨rfl,rfl⟩
 have hback:=JN fa fb hb h2;have hw:Fits (a*b)→wrap64 (a*b)=a*b:=fun h=>IntWalk.wrap64_in _ h
 obtain ⟨p,hp⟩:∃ p,vL a b=p:=⟨_,rfl⟩
 rw [hp];have HP:=Lib.hid hp;have HB:=Lib.hid hback;have HW:=Lib.hid hw;clear fa fb hp hback hw;have key:(wrap64 ((wrap64 (a*b)).tdiv b)=a∧wrap64 (a*b)=a*b∧p=some (a*b))∨(¬ wrap64 ((wrap64 (a*b)).tdiv b)=a∧p=none):=by
  by_cases hf:Fits (a*b)
  ·
   exact .inl ⟨HB.out.2 hf,HW.out hf,by rw [← HP.out,vL,if_pos hf]⟩
  ·
   exact .inr ⟨fun e=>hf (HB.out.1 e),by rw [← HP.out,vL,if_neg hf]⟩
 clear HP HB HW;have VZ:(a == 0)=false:=by simpa using ha
 have hB0:(b == 0)=false:=by simpa using hb
 obtain ⟨x,hA1⟩:∃ x,(a == -1)=x:=⟨_,rfl⟩
 obtain ⟨y,hB1⟩:∃ x,(b == -1)=x:=⟨_,rfl⟩
 obtain ⟨u,hAm⟩:∃ x,(a == -9223372036854775808)=x:=⟨_,rfl⟩
 obtain ⟨v,hBm⟩:∃ x,(b == -9223372036854775808)=x:=⟨_,rfl⟩
 have hc1:¬ (x=true∧v=true):=by
  rintro ⟨rfl,rfl⟩;exact h1 ⟨by simpa using hA1,by simpa using hBm⟩
 have hc2:¬ (y=true∧u=true):=by
  rintro ⟨rfl,rfl⟩;exact h2 ⟨by simpa using hB1,by simpa using hAm⟩
 clear h1 h2
 rcases key with ⟨hq,hw,rfl⟩ | ⟨hq,rfl⟩
 ·
  have hq':(wrap64 ((wrap64 (a*b)).tdiv b) != a)=false:=by simpa using hq
  have HW:=Lib.hid hw;clear hq hw;cases x <;> cases y <;> cases u <;> cases v <;> first
   | exact absurd ⟨rfl,rfl⟩ hc1
   | exact absurd ⟨rfl,rfl⟩ hc2
   | (clear hc1 hc2;go_enter Tryz.func110,Tryz.ntmps110;go_wp2;go_ret2;show Ending.returned (.tuple #[.int .i64 (wrap64 (a*b)),.bool true])=_∧_;rw [HW.out];exact ⟨rfl,rfl⟩)
 ·
  have hq':(wrap64 ((wrap64 (a*b)).tdiv b) != a)=true:=by simpa using hq
  clear hq;cases x <;> cases y <;> cases u <;> cases v <;> first
   | exact absurd ⟨rfl,rfl⟩ hc1
   | exact absurd ⟨rfl,rfl⟩ hc2
   | (clear hc1 hc2;go_enter Tryz.func110,Tryz.ntmps110;go_wp2;go_ret2;exact ⟨rfl,rfl⟩)
theorem sU (w:World)(a b:Int)(_ha:Fits a)(hb:Fits b)(h:Fits (a+b)):Calls Tryz.prog 109 #[.int .i64 a,.int .i64 b] w fun e w'=>e=.returned (.tuple #[.int .i64 (a+b),.bool true])∧w=w':=by
 unfold Fits at hb h
 by_cases h0:0 < b
 ·
  have h1:¬ b < 0:=by omega
  go_enter Tryz.func109,Tryz.ntmps109
  go_wp2
  go_ret2
  exact ⟨rfl,rfl⟩
 ·
  by_cases h1:b < 0
  ·
   go_enter Tryz.func109,Tryz.ntmps109
   go_wp2
   go_ret2
   exact ⟨rfl,rfl⟩
  ·
   go_enter Tryz.func109,Tryz.ntmps109
   go_wp2
   go_ret2
   exact ⟨rfl,rfl⟩
theorem vM (w:World)(a b:Int)(ha:Fits a)(hb:Fits b)(h:¬ Fits (a+b)):Calls Tryz.prog 109 #[.int .i64 a,.int .i64 b] w fun e w'=>e=.returned (.tuple #[.int .i64 0,.bool false])∧w=w':=by
 unfold Fits at ha hb h
 by_cases h0:0 < b
 ·
  have h1:9223372036854775807 - b < a:=by omega
  clear h
  go_enter Tryz.func109,Tryz.ntmps109
  go_wp2
  go_ret2
  exact ⟨rfl,rfl⟩
 ·
  have h1:b < 0:=by omega
  have h2:a < -9223372036854775808 - b:=by omega
  clear h
  go_enter Tryz.func109,Tryz.ntmps109
  go_wp2
  go_ret2
  exact ⟨rfl,rfl⟩
theorem MN (w:World)(a b:Int)(ha:Fits a)(hb:Fits b)(h:Fits (a*b)):Calls Tryz.prog 110 #[.int .i64 a,.int .i64 b] w fun e w'=>e=.returned (.tuple #[.int .i64 (a*b),.bool true])∧w=w':=by
 have:=Dw w a b ha hb
 rwa [show vL a b=some (a*b) by simp [vL,h]] at this
theorem QU (w:World)(a b:Int)(ha:Fits a)(hb:Fits b)(h:¬ Fits (a*b)):Calls Tryz.prog 110 #[.int .i64 a,.int .i64 b] w fun e w'=>e=.returned (.tuple #[.int .i64 0,.bool false])∧w=w':=by
 have:=Dw w a b ha hb
 rwa [show vL a b=none by simp [vL,h]] at this
theorem MO {o o':Col}{c c':Nat}(w:World)(ao bo:Option Addr)(n m cap cap':Nat)(xs ys:List Int)(hx:Ints w o c (.slice ao n cap) xs)(hy:Ints w o' c' (.slice bo m cap') ys)(hxy:xs.length=ys.length)(hn:xs.length≤17600000000000)(hfx:∀ x∈xs,Fits x)(PY:∀ x∈ys,Fits x) :
  Calls Tryz.prog 108 #[.slice ao n cap,.slice bo m cap'] w (Quiet (F8 (mE 0 xs ys)) w):=by
 obtain rfl:=hx.len;obtain rfl:=hy.len;have HX:=Lib.hid hx;have HY:=Lib.hid hy;have HXY:=Lib.hid hxy;have KT:=Lib.hid hfx;have HFY:=Lib.hid PY;have hni:(xs.length:Int)≤17600000000000:=by omega
 have f0:Fits 0:=by unfold Fits;omega
 rw [← hxy];clear hx hy hxy hfx PY
 go_enter Tryz.func108,Tryz.ntmps108
 go_wp2_with fail
 go_loopw [6,7] (fun s i wr=>∃ (k:Nat) (acc:Int) (q:Nat),k≤xs.length∧s=.int .i64 acc∧i=.int .i64 k∧Fits acc∧mE 0 xs ys=mE acc (xs.drop k) (ys.drop k)∧wr=w.drewN q) (fun _ i _=>xs.length - (intOf i).toNat)
 case atStart=>exact ⟨0,0,0,Nat.zero_le _,rfl,rfl,f0,by simp,rfl⟩
 case round =>
  obtain ⟨k,acc,q,hk,rfl,rfl,hfa,hd,hw⟩:=hrel;have HW:=Lib.hid hw;clear hw;have O0:=Lib.hid hfa;have HD:=Lib.hid hd;clear hfa hd
  by_cases hlt:k < xs.length
  ·
   have hlt2:k < ys.length:=by have:=HXY.out;omega
   have dG:(k:Int) < xs.length:=by omega
   obtain ⟨b1,f1,rfl,-,hc1,-,-,hcell1⟩:=dn.at HX.out (by rw [aD];omega);obtain ⟨b2,f2,rfl,-,hc2,-,-,hcell2⟩:=dn.at HY.out (by rw [aD];omega);have hx1:=hcell1 k (by rw [aD];omega);have hx2:=hcell2 k (by rw [aD];omega);rw [iy hlt] at hx1;rw [iy hlt2] at hx2;rw [List.getElem?_eq_getElem hlt,Option.getD_some] at hx1;rw [List.getElem?_eq_getElem hlt2,Option.getD_some] at hx2;replace hx1:wr.cell? ⟨b1,f1+k,none⟩=some (iv xs[k]):=(by rw [HW.out];exact hx1);replace hx2:wr.cell? ⟨b2,f2+k,none⟩=some (iv ys[k]):=(by rw [HW.out];exact hx2);have QV:(xs.length:Int)≤cap:=by omega
   have aa4:(xs.length:Int)≤cap':=by have:=HXY.out;omega
   have HS:=Lib.hid (CU (acc:=acc) hlt hlt2);have HFx:=Lib.hid (KT.out _ (List.getElem_mem hlt));have HFy:=Lib.hid (HFY.out _ (List.getElem_mem hlt2));clear hcell1 hcell2;generalize xs[k]=x at *;generalize ys[k]=y at *
   by_cases hf1:Fits (x*y)
   ·
    have Hf1:=Lib.hid hf1;clear hf1;go_wp2;go_quiet ((go_at_call 110;go_must (exact Calls.quiet_of_same ((MN _ x y HFx.out HFy.out Hf1.out).mono fun e w' ⟨h1,h2⟩=>⟨h1,h2.symm⟩))))
    go_wp2_with fail
    by_cases hf2:Fits (acc+x*y)
    ·
     refine (sU _ acc (x*y) O0.out Hf1.out hf2).mono ?_;rintro e w1 ⟨rfl,rfl⟩;have KU:=Lib.hid hf2;clear hf2;go_wp2;go_roundw
     case rel=>exact ⟨k+1,acc+x*y,q+_,by omega,rfl,by go_num,KU.out,by rw [HD.out,HS.out,if_pos ⟨Hf1.out,KU.out⟩],by rw [HW.out];exact World.drewN_drewN _ _ _⟩
     case measure=>simp [intOf];omega
    ·
     refine (vM _ acc (x*y) O0.out Hf1.out hf2).mono ?_;rintro e w1 ⟨rfl,rfl⟩;have KU:=Lib.hid hf2;clear hf2;go_wp2
     go_ret2
     refine ⟨?_,q+_,by rw [HW.out];exact World.drewN_drewN _ _ _⟩;rw [HD.out,HS.out,if_neg (fun h=>KU.out h.2)];rfl
   ·
    have Hf1:=Lib.hid hf1;clear hf1;go_wp2;go_quiet ((go_at_call 110;go_must (exact Calls.quiet_of_same ((QU _ x y HFx.out HFy.out Hf1.out).mono fun e w' ⟨h1,h2⟩=>⟨h1,h2.symm⟩))));go_wp2
    go_ret2
    refine ⟨?_,q+_,by rw [HW.out];exact World.drewN_drewN _ _ _⟩;rw [HD.out,HS.out,if_neg (fun h=>Hf1.out h.1)];rfl
  ·
   obtain rfl:k=xs.length:=by omega
   go_wp2
   go_ret2
   refine ⟨?_,q,HW.out⟩;rw [HD.out,List.drop_length,mE]
   ·
    rfl
   ·
    intro x xs' y ys' h;cases h
section
variable {o o':Col} {C:Nat→Prop} {w w' w2:World} {c d:Nat}
theorem dn.dS {v:Value}{vs:List Value}(h:dn w o c v vs)(ho:∀ k,k < w.heap.size→o k=c→o' k=d):dn w o' d v vs:=by
 rcases h with h | ⟨hp,b,off,cap,rfl,hl,hb,XZ,hcl⟩
 ·
  exact .inl h
 ·
  exact .inr ⟨hp,b,off,cap,rfl,hl,hb,ho b hb XZ,hcl⟩
def uV (w:World)(o:Col)(c:Nat)(v:Value)(xss:List (List Int)):Prop :=
 ∃ vs,vs.length=xss.length∧dn w o c v vs∧∀ k,k < xss.length→Ints w o c (vs[k]?.getD undef) (xss[k]?.getD [])
theorem uV.turn {v:Value}{xss:List (List Int)}(h:uV w o c v xss)(T:Turn o o' C w w')(hc:¬ C c):uV w' o' c v xss:=by
 obtain ⟨vs,h1,h2,h3⟩:=h;exact ⟨vs,h1,h2.turn T hc,fun k hk=>(h3 k hk).turn T hc⟩
theorem uV.dS {v:Value}{xss:List (List Int)}(h:uV w o c v xss)(ho:∀ k,k < w.heap.size→o k=c→o' k=d):uV w o' d v xss:=by
 obtain ⟨vs,h1,h2,h3⟩:=h;exact ⟨vs,h1,h2.dS ho,fun k hk=>(h3 k hk).dS ho⟩
theorem uV.ll {v:Value}{xss:List (List Int)}(h:uV w o c v xss):LL w v xss:=by
 obtain ⟨vs,h1,h2,h3⟩:=h;exact ⟨vs,h1,h2.has,fun k hk=>(h3 k hk).has⟩
theorem uV.nil (w:World)(o:Col)(c:Nat):uV w o c (.slice none 0 0) []:=⟨[],rfl,dn.nil _ _ _ _ _,fun k hk=>by simp at hk⟩
theorem uV.drewN {v:Value}{xss:List (List Int)}(h:uV w o c v xss)(m:Nat):uV (w.drewN m) o c v xss:=h.turn (Turn.Ac o ⟨m,rfl⟩) (fun h=>h)
def jG (w:World)(o:Col)(v:Value)(n:Nat)(vs:List Value)(xss:List (List Int)):Prop :=
 Own w o 1 42 1 v n vs∧xss.length=n∧∀ k,k < n→Ints w o 2 (vs[k]?.getD undef) (xss[k]?.getD [])
theorem jG.nil (w:World)(o:Col):jG w o (.slice none 0 0) 0 [] []:=⟨Own.nil _ _ _ _ _,rfl,fun k hk=>by omega⟩
theorem jG.turn {v:Value}{n:Nat}{vs:List Value}{xss:List (List Int)}(h:jG w o v n vs xss)(T:Turn o o' C w w')(h1:¬ C 1)(h2:¬ C 2):jG w' o' v n vs xss :=
 ⟨h.1.turn T h1,h.2.1,fun k hk=>(h.2.2 k hk).turn T h2⟩
theorem jG.app {v v' u:Value}{n:Nat}{vs:List Value}{xss:List (List Int)}{l:List Int}{tmp:Obj}(h:jG w o v n vs xss)(hu:Ints w o 2 u l)(k1:w2.ownsRow 0 42 1 v' (n+1) (vs ++ [u]))(k2:(w.alloc tmp).grownBy w2 v.ownBlock)
  (k4:v'.ownBlock=v.ownBlock∨v'.ownBlock=some (w.alloc tmp).heap.size):jG w2 (ext o w.heap.size 1) v' (n+1) (vs ++ [u]) (xss ++ [l])∧Turn o (ext o w.heap.size 1) (fun x=>x=1) w w2:=by
 obtain ⟨h1,h2,h3⟩:=h;have hl:=h1.len;have T:Turn o (ext o w.heap.size 1) (fun x=>x=1) w w2 :=
  Turn.gN o 1 (((aI.refl (fun b=>v.ownBlock=some b) w).alloc tmp).grown k2 (fun b hb _=>hb)) (fun b _ hb=>h1.2 b hb)
 refine ⟨⟨⟨k1,fun b hb=>?_⟩,by simp [h2],fun k hk=>?_⟩,T⟩
 ·
  rcases k4 with k4 | k4
  ·
   rw [k4] at hb;exact (bX (h1.1.lt b hb).2).trans (h1.2 b hb)
  ·
   rw [k4] at hb;have:=Option.some.inj hb;simp at this;exact aW (by omega)
 ·
  by_cases e:k < n
  ·
   rw [List.getElem?_append_left (by omega),List.getElem?_append_left (by omega)];exact (h3 k e).turn T (by decide)
  ·
   obtain rfl:k=n:=by omega
   rw [← hl,List.getElem?_concat_length,hl,← h2,List.getElem?_concat_length];exact hu.turn T (by decide)
theorem jG.llc {v:Value}{n:Nat}{vs:List Value}{xss:List (List Int)}(h:jG w o v n vs xss)(ho:∀ k,k < w.heap.size→o k=1∨o k=2→o' k=c):uV w o' c v xss:=by
 obtain ⟨h1,h2,h3⟩:=h;have hl:=h1.len;exact ⟨vs,by omega,h1.vals.dS (fun k hk e=>ho k hk (.inl e)),fun k hk=>(h3 k (by omega)).dS (fun k hk e=>ho k hk (.inr e))⟩
def EF (N:Nat):Col:=fun k=>if k < N then 0 else 2
end
theorem QW (ins:List (List Int))(j i:Nat)(h:i < ins.length):(vD ins j).take (i+1)=(vD ins j).take i ++ [(ins[i]?.getD [])[j]?.getD 0]:=by
 rw [List.take_succ_eq_append_getElem (by simpa [vD] using h)];simp [vD,h]
theorem JO (w:World)(n m:Nat)(ins:List (List Int))(bL:Value)(hn:n≤16)(hm:m≤64)(hl:ins.length=n)(hr:∀ l∈ins,l.length=m)(h:LL w bL ins) :
  Calls Tryz.prog 105 #[.int .i64 n,.int .i64 m,bL] w (Qi w (dz ins m)):=by
 obtain ⟨i0,hi,hz0,hz1,hz2⟩:=info_parts bJ;obtain ⟨ia,ic,rfl⟩:=h.slice;rw [hl] at h ⊢;have HI:=Lib.hid h;have HL:=Lib.hid hl;have HR:=Lib.hid hr;have hni:(n:Int)≤16:=by omega
 have Qc:(m:Int)≤64:=by omega
 clear h hl hr
 go_enter Tryz.func105,Tryz.ntmps105
 go_wp2_with fail
 go_loopw [7,8,9] (fun v j _ wr=>∃ (k:Nat) (q:Nat),k≤m∧j=.int .i64 k∧wr.ownsRow w.heap.size 3 1 v (dz ins k).length (aV (dz ins k))∧(dz ins k).length=q∧Below w.heap.size w wr) (fun _ j _ _=>m - (intOf j).toNat)
 case atStart=>exact ⟨0,0,Nat.zero_le _,rfl,by simpa [dz] using World.ownsRow_nil w w.heap.size 3 1,by simp [dz],Below.refl _ _⟩
 case round =>
  obtain ⟨k,q,hk,rfl,ho,hq,hb⟩:=hrel;obtain ⟨sv,cv,rfl⟩:=aB ho
  by_cases hlt:k < m
  ·
   have dG:(k:Int) < m:=by omega
   have HO:=Lib.hid ho;have HB:=Lib.hid hb;clear ho hb hq
   go_wp2_with fail
   go_loopw [7,9] (fun v i wr=>∃ (p:Nat),p≤n∧i=.int .i64 p∧wr.ownsRow w.heap.size 3 1 v (dz ins k ++ (vD ins k).take p).length (aV (dz ins k ++ (vD ins k).take p))∧Below w.heap.size w wr) (fun _ i _=>n - (intOf i).toNat)
   case atStart=>exact ⟨0,Nat.zero_le _,rfl,by simpa using HO.out,HB.out⟩
   case round =>
    clear HO HB;obtain ⟨p,hp,rfl,ho,hb⟩:=hrel;obtain ⟨sv,cv,rfl⟩:=aB ho;have hsz:=hb.size
    by_cases hpn:p < n
    ·
     have hpi:(p:Int) < n:=by omega
     obtain ⟨bi,oi,ie,hci,hrow⟩:=HI.out.at (by have:=HL.out;omega);subst ie;obtain ⟨a0,c0,hr0,hh0⟩:=hrow p (by have:=HL.out;omega);have hrl:(ins[p]?.getD []).length=m:=HR.out _ (by have:=HL.out;simp [show p < ins.length by omega]);rw [hrl] at hr0 hh0;obtain ⟨bd,ofd,rfl,-,hcd,-,-,AZ⟩:=dn.at hh0 (by rw [aD];omega);have hx1:=AZ k (by rw [aD];omega);rw [iy (by omega)] at hx1;have hr1:=cell_later hb hr0;have hx2:=cell_later hb hx1;have EG:(n:Int)≤ic:=by omega
     have ace:(m:Int)≤c0:=by omega
     have HST:=Lib.hid (QW ins k p (by have:=HL.out;omega));have ZM:(dz ins k ++ (vD ins k).take p).length≤1024:=by
      rw [List.length_append,uy,HL.out,List.length_take];have:k*n≤64*16:=Nat.mul_le_mul (by omega) hn;have:k*n+n≤64*16:=by
       have:(k+1)*n≤64*16:=Nat.mul_le_mul (by omega) hn;rw [Nat.add_mul] at this;omega
      omega
     clear hrow AZ hr0 hx1 hh0 hrl;generalize (ins[p]?.getD [])[k]?.getD 0=x at *;obtain ⟨L,hL⟩:∃ L,dz ins k ++ (vD ins k).take p=L:=⟨_,rfl⟩
     have wK:=Lib.hid hL;rw [hL] at ho ZM ⊢;clear hL
     go_wp2_with (at_builtin;refine aM ?_)
     refine bR ?_;refine aR rfl _ _ 42 rfl w.heap.size 3 i0 _ 1 8 Tryz.underlying42 hi hz0 hz1 hz2 rfl (.slice sv L.length cv) L.length _ rfl (ho.alloc (.cells #[.int .i64 x] 3)) (some ⟨wr.heap.size,0,none⟩) 1 1 [.int .i64 x] rfl rfl (fun h=>by cases h) (bA wr [.int .i64 x] 3) (by simp [Value.oneCell']) (by unfold maxLen;omega) (aZ (by omega)) (gX hsz _) ?_;intro v5 w5 k1 k20 _ _;have k2:(wr.alloc (.cells #[.int .i64 x] 3)).grownBy w5 (Value.slice sv L.length cv).ownBlock:=⟨k20.os,k20.tape,k20.output,k20.size,k20.block⟩;have hb5:=hb.trans (dW ho k2 hsz);have k3:w5.ownsRow w.heap.size 3 1 v5 (dz ins k ++ (vD ins k).take (p+1)).length (aV (dz ins k ++ (vD ins k).take (p+1))):=by
      rw [HST.out,← List.append_assoc,wK.out]
      simpa using k1
     clear k1 k20 k2 ho;go_wp2;go_roundw
     case rel=>exact ⟨p+1,by omega,by go_num,k3,hb5⟩
     case measure=>simp [intOf];omega
    ·
     obtain rfl:p=n:=by omega
     have hst:dz ins k ++ (vD ins k).take p=dz ins (k+1):=by
      rw [List.take_of_length_le (by simp [vD,HL.out]),dz,dz,List.range_succ,List.flatMap_append];simp
     rw [hst] at ho ⊢;clear hst;go_wp2;go_roundw
     case rel=>exact ⟨k+1,_,by omega,by go_num,ho,rfl,hb⟩
     case measure=>simp [intOf];omega
  ·
   obtain rfl:k=m:=by omega
   clear hq;go_wp2;go_ret
   exact ⟨_,rfl,ho,hb⟩
section
variable {o o':Col} {C:Nat→Prop} {w w' w2:World} {c d:Nat}
theorem Own.app {e n m:Nat}{v v':Value}{xs news:List Value}{tmp:Obj}(h:Own w o c e 1 v n xs)(k1:w2.ownsRow 0 e 1 v' (n+m) (xs ++ news))(k2:(w.alloc tmp).grownBy w2 v.ownBlock)
  (k4:v'.ownBlock=v.ownBlock∨v'.ownBlock=some (w.alloc tmp).heap.size):Own w2 (ext o w.heap.size c) c e 1 v' (n+m) (xs ++ news)∧Turn o (ext o w.heap.size c) (fun x=>x=c) w w2:=by
 have T:Turn o (ext o w.heap.size c) (fun x=>x=c) w w2 :=
  Turn.gN o c (((aI.refl (fun b=>v.ownBlock=some b) w).alloc tmp).grown k2 (fun b hb _=>hb)) (fun b _ hb=>h.2 b hb)
 refine ⟨⟨k1,fun b hb=>?_⟩,T⟩
 rcases k4 with k4 | k4
 ·
  rw [k4] at hb;exact (bX (h.1.lt b hb).2).trans (h.2 b hb)
 ·
  rw [k4] at hb;have:=Option.some.inj hb;simp at this;exact aW (by omega)
def O8 (o:Col):Col:=fun k=>if o k=3 then 2 else o k
theorem jG.O8 {v:Value}{n:Nat}{vs:List Value}{xss:List (List Int)}(h:jG w o v n vs xss):jG w (O8 o) v n vs xss :=
 ⟨⟨h.1.1,fun k hk=>by have:=h.1.2 k hk;simp [Proofs.YtpdlngonocancaaGreat.O8,this]⟩,h.2.1,fun k hk=>(h.2.2 k hk).dS (fun j _ e=>by simp [Proofs.YtpdlngonocancaaGreat.O8,e])⟩
theorem Kept.O8 {B:Nat}{w0:World}(h:Kept B o w0 w):Kept B (O8 o) w0 w:=⟨h.below,fun k hk=>by simp [Proofs.YtpdlngonocancaaGreat.O8,h.old k hk],h.size⟩
end
theorem GI {p:Nat}(h:p≤4611686018427387904):wrap64 (p:Int)=p:=IntWalk.wrap64_in _ (by omega)
theorem MP {q n p:Nat}(e:q*n=p)(h:p≤4611686018427387904):wrap64 ((q:Int)*n)=p:=by rw [← Int.natCast_mul,e];exact GI h
theorem MQ {q n p:Nat}(e:q+n=p)(h:p≤4611686018427387904):wrap64 ((q:Int)+n)=p:=by rw [← Int.natCast_add,e];exact GI h
theorem lY {w:World}{o:Col}{c n:Nat}(l:List Int)(t:TypeId)(hn:n=w.heap.size)(ho:o n=c)(k:Nat)(hk:k=l.length):Ints (w.alloc (.cells (aV l).toArray t)) o c (.slice (some ⟨n,0,none⟩) k k) l:=by
 subst hn hk
 by_cases hp:0 < l.length
 ·
  refine .inr ⟨by simpa using hp,w.heap.size,0,l.length,by simp,by simp,by simp,ho,fun k hk=>?_⟩;rw [Nat.zero_add];have hk':k < l.length:=by simpa using hk
  exact ah _ _ (heap_alloc_new w _) k _ (by simp [aV,hk'])
 ·
  obtain rfl:l=[]:=List.eq_nil_of_length_eq_zero (by omega);exact .inl ⟨rfl,_,_,rfl⟩
theorem mM {w:World}{o:Col}{c n:Nat}{v:Value}{l:List Int}(t:TypeId)(hn:n=w.heap.size)(ho:o n=c)(hv:Ints w o c v l):uV (w.alloc (.cells #[v] t)) o c (.slice (some ⟨n,0,none⟩) 1 1) [l]:=by
 subst hn;have T:Turn o o (fun _=>False) w (w.alloc (.cells #[v] t)):=⟨(aI.refl _ _).alloc _,fun _ _=>rfl⟩;refine ⟨[v],rfl,.inr ⟨by simp,w.heap.size,0,1,rfl,Nat.le_refl _,by simp,ho,fun k hk=>?_⟩,fun k hk=>?_⟩
 ·
  obtain rfl:k=0:=by simp at hk;omega
  exact ah _ _ (heap_alloc_new w _) 0 v rfl
 ·
  obtain rfl:k=0:=by simp at hk;omega
  exact hv.turn T (fun h=>h)
theorem GJ (w:World)(n m:Nat)(l:List Int)(lv:Value)(hn:n≤16)(hm:m≤64)(hl:l.length=n*m)(h:Has w lv (aV l)) :
  Calls Tryz.prog 106 #[.int .i64 n,.int .i64 m,lv] w fun e w'=>∃ ov,e=.returned ov∧uV w' (EF w.heap.size) 2 ov (fF n m l)∧Below w.heap.size w w':=by
 obtain ⟨i0,hi,hz0,hz1,hz2⟩:=info_parts bJ;obtain ⟨j0,ji,Un,jz1,Uo⟩:=info_parts je;obtain ⟨la,lc,rfl⟩:=h.slice;have h64:n*m≤16*64:=Nat.mul_le_mul hn hm;rw [aD] at h ⊢;have HI:=Lib.hid h;have HL:=Lib.hid hl;have hni:(n:Int)≤16:=by omega
 have Qc:(m:Int)≤64:=by omega
 have hlb:(l.length:Int)≤1024:=by omega
 clear h hl
 go_enter Tryz.func106,Tryz.ntmps106
 go_wp2_with fail
 go_loopw [7,8,9,10] (fun v i _ _ wr=>∃ (k:Nat) (o:Col) (vs:List Value),k≤n∧i=.int .i64 k∧jG wr o v k vs ((fF n m l).take k)∧Kept w.heap.size o w wr) (fun _ i _ _ _=>n - (intOf i).toNat)
 case atStart=>exact ⟨0,fun _=>0,[],Nat.zero_le _,rfl,by simpa using jG.nil w (fun _=>0),Kept.start w⟩
 case round =>
  obtain ⟨k,o,vs,hk,rfl,hG,hK⟩:=hrel;obtain ⟨sv,cv,rfl⟩:=hG.1.slice
  by_cases hlt:k < n
  ·
   have dG:(k:Int) < n:=by omega
   have HG:=Lib.hid hG;have HK:=Lib.hid hK;clear hG hK
   go_wp2_with fail
   go_loopw [9,10] (fun p j wq=>∃ (q:Nat) (o:Col),q≤m∧j=.int .i64 q∧Own wq o 3 3 1 p q (aV (((fF n m l)[k]?.getD []).take q))∧jG wq o (.slice sv k cv) k vs ((fF n m l).take k)∧Kept w.heap.size o w wq) (fun _ j _=>m - (intOf j).toNat)
   case atStart=>exact ⟨0,o,Nat.zero_le _,rfl,by simpa using Own.nil wr o 3 3 1,HG.out,HK.out⟩
   case round =>
    clear HG HK o;obtain ⟨q,o,hq,rfl,hp,hG,hK⟩:=hrel;obtain ⟨sp,cp,rfl⟩:=hp.slice
    by_cases hqm:q < m
    ·
     have hqi:(q:Int) < m:=by omega
     have hidx:q*n+k < l.length:=by
      rw [HL.out];have:q*n+n≤m*n:=by rw [← Nat.succ_mul];exact Nat.mul_le_mul_right n hqm
      rw [Nat.mul_comm n m];omega
     obtain ⟨bd,ofd,rfl,-,hcd,-,-,AZ⟩:=dn.at HI.out (by rw [aD];omega);have hx1:=AZ (q*n+k) (by rw [aD];omega);rw [iy hidx] at hx1;have hx2:=cell_later hK.below hx1;have ace:(l.length:Int)≤lc:=by omega
     have hST:((fF n m l)[k]?.getD []).take (q+1)=((fF n m l)[k]?.getD []).take q ++ [l[q*n+k]?.getD 0]:=by
      rw [Gn n m l k hlt,List.take_succ_eq_append_getElem (by simpa using hqm)];simp
     have HST:=Lib.hid hST;have HG:=Lib.hid hG;have HK:=Lib.hid hK;have HP:=Lib.hid hp;have hsz:=hK.size;clear AZ hx1 hST hG hK hp;generalize l[q*n+k]?.getD 0=x at *;obtain ⟨p,hp⟩:∃ p,q*n=p:=⟨_,rfl⟩
     obtain ⟨r,hr⟩:∃ r,p+k=r:=⟨_,rfl⟩
     have hqn:(r:Int) < l.length:=by omega
     have b1:p≤4611686018427387904:=by omega
     have b2:r≤4611686018427387904:=by omega
     have hw1:=MP hp b1;have hw2:=MQ hr b2;clear b1 b2;rw [hp,hr] at hx2;clear hp hidx hr
     go_wp2_with (at_builtin;refine aM ?_)
     refine bR ?_;clear hw1 hw2;have hown:=HP.out.1;refine aR rfl _ _ 42 rfl 0 3 i0 _ 1 8 Tryz.underlying42 hi hz0 hz1 hz2 rfl (.slice sp q cp) q _ rfl (hown.alloc (.cells #[.int .i64 x] 3)) (some ⟨wr.heap.size,0,none⟩) 1 1 [.int .i64 x] rfl rfl (fun h=>by cases h) (bA wr [.int .i64 x] 3) (by simp [Value.oneCell']) (by unfold maxLen;omega) (aZ (by omega)) (Nat.zero_le _) ?_;intro v5 w5 k1 k20 _ k4;have k2:(wr.alloc (.cells #[.int .i64 x] 3)).grownBy w5 (Value.slice sp q cp).ownBlock:=⟨k20.os,k20.tape,k20.output,k20.size,k20.block⟩;obtain ⟨P5,T5⟩:=HP.out.app k1 k2 k4;have MR:=Lib.hid (HG.out.turn T5 (by decide) (by decide));have zW:=Lib.hid (HK.out.turn T5 (by decide));have HP5:Hid (Own w5 (ext o wr.heap.size 3) 3 3 1 v5 (q+1) (aV (((fF n m l)[k]?.getD []).take (q+1)))):=Lib.hid (by rw [HST.out];simpa using P5);clear k1 k20 k2 k4 hown P5 T5 HG HK HP HST;go_wp2;go_roundw
     case rel=>exact ⟨q+1,_,by omega,by go_num,HP5.out,MR.out,zW.out⟩
     case measure=>simp [intOf];omega
    ·
     obtain rfl:q=m:=by omega
     have hfull:((fF n q l)[k]?.getD []).take q=(fF n q l)[k]?.getD []:=List.take_of_length_le (by rw [Eu n q l k hlt];exact Nat.le_refl _);rw [hfull] at hp;have hGu:=hG.O8;have hpu:Ints wr (O8 o) 2 (.slice sp q cp) ((fF n q l)[k]?.getD []):=hp.vals.dS (fun j _ e=>by simp [O8,e]);have HG:=Lib.hid (hGu.turn (Turn.of_below _ 4 (au wr (.cells #[.slice sp q cp] 42))) (fun h=>h) (fun h=>h));have HPU:=Lib.hid (hpu.turn (Turn.of_below _ 4 (au wr (.cells #[.slice sp q cp] 42))) (fun h=>h));have HK:=Lib.hid hK.O8;have HGU:=Lib.hid hGu;have wL:=Lib.hid hpu;have hsz:=hK.size;clear hfull hp hG hK hGu hpu
     go_wp2_with (at_builtin;refine aM ?_)
     refine bR ?_;have hown:=HGU.out.1.1;refine aR rfl _ _ 63 rfl 0 42 j0 _ 1 24 Tryz.underlying63 ji Un jz1 Uo rfl (.slice sv k cv) k _ rfl (hown.alloc (.cells #[.slice sp q cp] 42)) (some ⟨wr.heap.size,0,none⟩) 1 1 [.slice sp q cp] rfl rfl (fun h=>by cases h) (bA wr [.slice sp q cp] 42) (by simp [Value.oneCell']) (by unfold maxLen;omega) (aZ (by omega)) (Nat.zero_le _) ?_;intro v5 w5 k1 k20 _ k4;have k2:(wr.alloc (.cells #[.slice sp q cp] 42)).grownBy w5 (Value.slice sv k cv).ownBlock:=⟨k20.os,k20.tape,k20.output,k20.size,k20.block⟩;obtain ⟨G5,T5⟩:=HGU.out.app wL.out k1 k2 k4;have hst:(fF n q l).take (k+1)=(fF n q l).take k ++ [(fF n q l)[k]?.getD []]:=by
      have hk':k < (fF n q l).length:=by rw [Gm];exact hlt
      rw [List.take_succ_eq_append_getElem hk'];simp [hk']
     have MR:Hid (jG w5 (ext (O8 o) wr.heap.size 1) v5 (k+1) (vs ++ [.slice sp q cp]) ((fF n q l).take (k+1))):=Lib.hid (by rw [hst];exact G5);have zW:=Lib.hid (HK.out.turn T5 (by decide));clear k1 k20 k2 k4 hown G5 T5 HG HK HGU wL HPU hst;go_wp2;go_roundw
     case rel=>exact ⟨k+1,_,_,by omega,by go_num,MR.out,zW.out⟩
     case measure=>simp [intOf];omega
  ·
   obtain rfl:k=n:=by omega
   have hfull:(fF k m l).take k=fF k m l:=List.take_of_length_le (by rw [Gm];exact Nat.le_refl _);rw [hfull] at hG;have hL:uV wr (EF w.heap.size) 2 (.slice sv k cv) (fF k m l):=hG.llc (fun j _ e=>by
    have:¬ j < w.heap.size:=fun hj=>by have:=hK.old j hj;omega
    simp [EF,this])
   have hb:=hK.below;clear hfull hG hK;go_wp2;go_ret
   exact ⟨_,rfl,hL,hb⟩
end Go.Proofs.YtpdlngonocancaaGreat
namespace Go.Proofs.YtpdlngonocancaaGreat
section
variable {P:Program} {md:Region.Mode} {ops:Array Oper} {Q:Exit→Go.Act→World→Prop} {S:World→Prop}
theorem nD:∀ (r:List Nat) (listed:Array Bool),fO md ops listed→eX md ops (fun _=>true) r listed=true→fO md ops (fu listed r)
 | [],_,h,_=>h
 | i :: r,listed,h,hB=>by
  simp only [eX,Bool.and_eq_true] at hB;obtain ⟨⟨uZ,_⟩,hB'⟩:=hB;have lU:i∈Region.ready md ops listed:=by simpa using uZ
  exact nD r _ (eZ h lU) hB'
theorem qp {Q':Go.Act→Prop}{Q:Go.Act→Prop}(hq:∀ a,Q a→Q' a):∀ (l:List Oper) (a:Go.Act),dO P ops S Q l a→dO P ops S Q' l a
 | [],a,h=>hq a h
 | _ :: r,_,⟨v,hy,hk⟩=>⟨v,hy,qp hq r _ hk⟩
theorem jO {i:Nat}{K K0:Go.Act→World→Prop}{a:Go.Act}{w:World}(hi:i < ops.size)(hK:∀ a w,K0 a w→K a w)(h:wpList P ops (nR Q K0) (aX ops [i]) a w):wpOp P ops Q i K a w:=by
 have ho:ops[i]?=some ops[i]:=Array.getElem?_eq_getElem hi;rw [ja ho []] at h;have hw:wpOp P ops (nR Q K0) i (wpList P ops (nR Q K0) (aX ops [])) a w:=by unfold wpOp;simp only [ho];exact h
 exact wS (fun a' w' h'=>hK a' w' h') hw
def Yd (md:Region.Mode)(ops:Array Oper)(r1:List Nat)(k:Nat)(r2 M:List Nat):Bool :=
 Region.noSelect ops && ((r1 ++ r2).all fun i=>mY ops i || (List.range ops.size).all fun j=>iZ ops j || (r1 ++ r2).contains j || M.contains j || fV md ops ops.size j i) &&
 eX md ops (fun _=>true) r1 (Array.replicate ops.size false) && decide (Region.ready md ops (fu (Array.replicate ops.size false) r1)=[k]) &&
 eX md ops (fun _=>true) r2 ((fu (Array.replicate ops.size false) r1).setIfInBounds k true)
theorem oP {id:Nat}{l:List Oper}{a:Go.Act}{w:World}(S:World→Prop)(r1:List Nat)(k:Nat)(r2 M:List Nat)(n:Nat)(hm:P.follows .mixedOrders=true)
  (hB:Yd .any l.toArray r1 k r2 M=true) (hlen:r1.length+((r2.length+n)+1)=l.length) (hS:S w.drew)
  (h:∀ Q':Exit→Go.Act→World→Prop,(∀ a w,Q .normal a w→Q' .normal a w)→dO P l.toArray S (fun a'=>wpList P l.toArray (nR Q' fun a1 w1=>S w1∧dO P l.toArray S (fun a2=>dM P .any l.toArray Q' S (nS l.toArray (r1 ++ r2) M) n (fu ((fu (Array.replicate l.length false) r1).setIfInBounds k true) r2) a2 w1) (aX l.toArray r2) a1) (aX l.toArray [k]) a' w.drew) (aX l.toArray r1) a) :
  (Code.region id l.toArray true).wp P Q a w:=by
 refine wp_region_noPanic ?_;refine wp_region_any hm ?_;simp only [Yd,Bool.and_eq_true,List.all_eq_true,List.mem_range,Bool.or_eq_true,decide_eq_true_eq] at hB;obtain ⟨⟨⟨⟨hsel,hbe⟩,h1⟩,hk⟩,h2⟩:=hB;refine jU (S:=S) (B:=nS l.toArray (r1 ++ r2) M) _ _ _ _ ?_;have MS:∀ i∈(r1 ++ r2),mY l.toArray i=false→∀ j,j < l.toArray.size→iZ l.toArray j=true∨(r1 ++ r2).contains j=true∨M.contains j=true∨fV .any l.toArray l.toArray.size j i=true:=fun i hi hany j hj=>by
  rcases hbe i hi with h0 | h0
  ·
   rw [hany] at h0;cases h0
  rcases h0 j hj with ((h1 | h1) | h1) | h1
  ·
   exact .inl h1
  ·
   exact .inr (.inl h1)
  ·
   exact .inr (.inr (.inl h1))
  ·
   exact .inr (.inr (.inr h1))
 have hcl0:fO .any l.toArray (Array.replicate l.toArray.size false):=fun j oj _ hl=>by rw [getD_replicate_false] at hl;cases hl
 have V3:=nD r1 _ hcl0 h1;have hkr:k∈Region.ready .any l.toArray (fu (Array.replicate l.toArray.size false) r1):=by rw [hk];simp
 have Pn:=eZ V3 hkr;have hh:=h (NoPanic Q) (fun _ _ h=>NoPanic.normal h);have key:=fZ (P:=P) (md:=.any) (Q:=NoPanic Q) (S:=S) (reads:=r1 ++ r2) (M:=M) (n:=(r2.length+n)+1) hsel (fun c a a' w h=>h) MS r1 (Array.replicate l.toArray.size false) a { w with drawn:=w.drawn+1 } (fun i hi=>by simp [hi]) hcl0 h1 hS;rw [hlen] at key;have hk':Region.ready .any l.toArray (fu (Array.replicate l.toArray.size false) r1)=[k]:=hk;have go:dO P l.toArray S (fun a'=>dM P .any l.toArray (NoPanic Q) S (nS l.toArray (r1 ++ r2) M) (r2.length+n+1) (fu (Array.replicate l.toArray.size false) r1) a' { w with drawn:=w.drawn+1 }) (aX l.toArray r1) a:=by
  refine qp (fun a' ha'=>?_) _ _ hh;refine ⟨fun h0=>(by rw [h0] at hk';cases hk'),fun j hj=>?_⟩;rw [hk'] at hj;obtain rfl:j=k:=by simpa using hj
  refine jO (eO hkr) (fun a1 w1 h1'=>?_) ha';obtain ⟨hS1,hr2⟩:=h1';refine ⟨fun _ _=>hS1,?_⟩;exact fZ (P:=P) (md:=.any) (Q:=NoPanic Q) (S:=S) (reads:=r1 ++ r2) (M:=M) (n:=n) hsel (fun c a a' w h=>h) MS r2 _ a1 w1 (fun i hi=>by simp [hi]) Pn h2 hS1 (by simpa using hr2)
 have:=key go
 simpa using this
end
open Go.RowKit
theorem vO {fn:Func}{p u v:Tmp}{ty:TypeId}(h:fn.results=#[.cell p ty,.tmp u,.tmp v])(tmps:Array Value)(P:Program)(w:World) :
  (results fn tmps).run P w =
   ((asAddr (tmps.getD p undef)).run P w).andThen fun a w₁=>((loadVar ty a).run P w₁).andThen fun x w₂=>.ok (.tuple #[x,tmps.getD u undef,tmps.getD v undef]) w₂:=by
 simp only [results,h];simp [Sem.run_bind,Result.andThen]
theorem aJ {P:Program}{fn:Func}{p u v:Tmp}{ty:TypeId}(h:fn.results=#[.cell p ty,.tmp u,.tmp v])(tmps:Array Value)(w:World)(g:Nat)(t:TypeId)(cs:Array Value)(fr:Nat × Nat)(d:TypeDesc)
  (hp:tmps.getD p undef=.pointer (some ⟨g,0,none⟩)) (hg:w.heap[g]?=some (.cells cs t fr))
  (hu:P.underlying ty=some d) (hd:(match d with | .struct _ | .array _ _=>true | _=>false)=true) (hi:(P.info? ty).map (·.size)=some cs.size) :
  (results fn tmps).run P w=.ok (.tuple #[.agg cs,tmps.getD u undef,tmps.getD v undef]) w:=by
 rw [vO h,hp];simp [asAddr,run_loadVar_row w g t ty cs fr d hg hu hd hi,Result.andThen]
def dL (w:World)(o:Col)(c:Nat)(t:Int)(vp vi vo vk:Value)(n:Int)(r:Option (List (List Int) × List Int))(e:Ending)(w':World):Prop :=
 match r with
 | some (outs,keep')=>∃ ov Dx,e=.returned (.tuple #[.agg #[.int .u8 t,vp,vi,vo,Dx,.int .i64 n],ov,.int .i64 0])∧Ints w' (ext o w.heap.size c) c Dx keep'∧uV w' (ext o w.heap.size c) c ov outs∧Below w.heap.size w w'
 | none=>e=.returned (.tuple #[.agg #[.int .u8 t,vp,vi,vo,vk,.int .i64 n],.slice none 0 0,.int .i64 70])∧Below w.heap.size w w'
theorem jP {w W W':World}{o:Col}{c:Nat}{t n:Int}{vp vi vo vk ov:Value}{keep:List Int}{outs:List (List Int)}(hk:Ints w o c vk keep)(hb:Below w.heap.size w W)(hM:aI (fun k=>k=w.heap.size+1) W W')
  (ho:uV W (fun k=>if k < w.heap.size+2 then 0 else 2) 2 ov outs) :
  dL w o c t vp vi vo vk n (some (outs,keep)) (.returned (.tuple #[.agg #[.int .u8 t,vp,vi,vo,vk,.int .i64 n],ov,.int .i64 0])) W':=by
 have hB:Below w.heap.size w W':=hb.trans (hM.below hb.size (fun k hk e=>by omega));have T:Turn (fun k=>if k < w.heap.size+2 then 0 else 2) (fun k=>if k < w.heap.size+2 then 0 else 2) (fun x=>x=0) W W':=⟨hM.mono (fun k _ e=>by simp [e]),fun _ _=>rfl⟩;refine ⟨ov,vk,rfl,hk.turn (Turn.of_below o c hB) (fun h=>h),(ho.turn T (by decide)).dS (fun k hk e=>?_),hB⟩;have:¬ k < w.heap.size:=fun h=>by
  have:k < w.heap.size+2:=by omega
  simp [this] at e
 exact aW (by omega)
theorem QX (w:World)(o:Col)(c:Nat)(a1 a2 a3 a4:Option Addr)(n1 n2 n3 n4 c1 c2 c3 c4:Nat)(bL:Value)(n:Int)(keep:List Int)(hk:Ints w o c (.slice a4 n4 c4) keep) :
  Calls Tryz.prog 103 #[.agg #[.int .u8 11,.slice a1 n1 c1,.slice a2 n2 c2,.slice a3 n3 c3,.slice a4 n4 c4,.int .i64 n],bL] w (dL w o c 11 (.slice a1 n1 c1) (.slice a2 n2 c2) (.slice a3 n3 c3) (.slice a4 n4 c4) n (some ([],keep))):=by
 have HK:=Lib.hid hk;clear hk
 go_enter Tryz.func103,Tryz.ntmps103
 go_wp2;have hK:=heap_alloc_new (w.alloc (.cells #[.int .u8 11,.slice a1 n1 c1,.slice a2 n2 c2,.slice a3 n3 c3,.slice a4 n4 c4,.int .i64 n] 83)) (.cells #[.int .u8 11,.slice a1 n1 c1,.slice a2 n2 c2,.slice a3 n3 c3,.slice a4 n4 c4,.int .i64 n] 83);rw [World.size_alloc] at hK;refine bodyPost_ret_by (aJ rfl _ _ _ _ _ _ _ rfl hK Tryz.underlying83 rfl (by kernel_rfl)) rfl ?_;exact jP HK.out (Below.refl _ _) ((aI.refl _ _).alloc _ |>.alloc _) (uV.nil _ _ _)
abbrev Cq (w:World) (g:Nat) (a b c d e f:Value):Prop:=w.cell? ⟨g,0,none⟩=some a∧w.cell? ⟨g,1,none⟩=some b∧w.cell? ⟨g,2,none⟩=some c∧w.cell? ⟨g,3,none⟩=some d∧w.cell? ⟨g,4,none⟩=some e∧w.cell? ⟨g,5,none⟩=some f
theorem Cq.ext {w w':World}{g:Nat}{a b c d e f:Value}(h:Cq w g a b c d e f)(hx:Ext w w'):Cq w' g a b c d e f :=
 ⟨hx.cell h.1,hx.cell h.2.1,hx.cell h.2.2.1,hx.cell h.2.2.2.1,hx.cell h.2.2.2.2.1,hx.cell h.2.2.2.2.2⟩
theorem qw (w:World)(a b c d e f:Value)(t:TypeId):Cq (w.alloc (.cells #[a,b,c,d,e,f] t)) w.heap.size a b c d e f:=by
 have h:=heap_alloc_new w (.cells #[a,b,c,d,e,f] t);exact ⟨ah _ _ h 0 a rfl,ah _ _ h 1 b rfl,ah _ _ h 2 c rfl,ah _ _ h 3 d rfl,ah _ _ h 4 e rfl,ah _ _ h 5 f rfl⟩
theorem Cq.alloc {w:World}{g:Nat}{a b c d e f:Value}(h:Cq w g a b c d e f)(x:Obj):Cq (w.alloc x) g a b c d e f :=
 ⟨ca h.1,ca h.2.1,ca h.2.2.1,ca h.2.2.2.1,ca h.2.2.2.2.1,ca h.2.2.2.2.2⟩
theorem V4 (w:World)(o:Col)(c:Nat)(a1 a2 a3 a4:Option Addr)(n1 n2 n3 n4 c1 c2 c3 c4:Nat)(bL:Value)(n:Int)(l:List Int)(keep:List Int)(hk:Ints w o c (.slice a4 n4 c4) keep)(hins:LL w bL [l])(hl:1≤l.length) :
  Calls Tryz.prog 103 #[.agg #[.int .u8 3,.slice a1 n1 c1,.slice a2 n2 c2,.slice a3 n3 c3,.slice a4 n4 c4,.int .i64 n],bL] w (dL w o c 3 (.slice a1 n1 c1) (.slice a2 n2 c2) (.slice a3 n3 c3) (.slice a4 n4 c4) n (some ([[hd l]],keep))):=by
 have HK:=Lib.hid hk;obtain ⟨ia,ic,rfl⟩:=hins.slice;obtain ⟨bi,oi,rfl,hci,hrow⟩:=hins.at (by simp);obtain ⟨a0,c0,hr0,hh0⟩:=hrow 0 (by simp);simp only [List.length_cons,List.length_nil,List.getElem?_cons_zero,Option.getD_some,Nat.add_zero,Nat.zero_add] at hr0 hh0 hci ⊢;obtain ⟨b0,o0,rfl,-,hc0,-,-,hx0⟩:=dn.at hh0 (by rw [aD];omega);have hx1:=hx0 0 (by rw [aD];omega);rw [iy (by omega),Nat.add_zero] at hx1;have hx1:w.cell? ⟨b0,o0,none⟩=some (.int .i64 (hd l)):=hx1;have hl1:(1:Int)≤l.length:=by omega
 have hl0:0 < l.length:=by omega
 obtain ⟨x,hx⟩:∃ x,hd l=x:=⟨_,rfl⟩
 rw [hx] at hx1 ⊢;have EG:(1:Int)≤ic:=by omega
 have QY:(l.length:Int)≤c0:=by omega
 have S0:=(qw w (.int .u8 3) (.slice a1 n1 c1) (.slice a2 n2 c2) (.slice a3 n3 c3) (.slice a4 n4 c4) (.int .i64 n) 83).alloc (.cells #[.int .u8 0,.slice none 0 0,.slice none 0 0,.slice none 0 0,.slice none 0 0,.int .i64 0] 83);have r0:=ca (o:=.cells #[.int .u8 0,.slice none 0 0,.slice none 0 0,.slice none 0 0,.slice none 0 0,.int .i64 0] 83) (ca (o:=.cells #[.int .u8 3,.slice a1 n1 c1,.slice a2 n2 c2,.slice a3 n3 c3,.slice a4 n4 c4,.int .i64 n] 83) hr0);have r1:=ca (o:=.cells #[.int .u8 0,.slice none 0 0,.slice none 0 0,.slice none 0 0,.slice none 0 0,.int .i64 0] 83) (ca (o:=.cells #[.int .u8 3,.slice a1 n1 c1,.slice a2 n2 c2,.slice a3 n3 c3,.slice a4 n4 c4,.int .i64 n] 83) hx1);have H0:=Lib.hid hr0;have H1:=Lib.hid hx1;have HS:=Lib.hid (show Cq _ _ _ _ _ _ _ _∧_∧_ from ⟨S0,r0,r1⟩);clear hk hins hrow hh0 hx0 hr0 hx1 S0 r0 r1 hx;have hK:=heap_alloc_new (w.alloc (.cells #[.int .u8 3,.slice a1 n1 c1,.slice a2 n2 c2,.slice a3 n3 c3,.slice a4 n4 c4,.int .i64 n] 83)) (.cells #[.int .u8 3,.slice a1 n1 c1,.slice a2 n2 c2,.slice a3 n3 c3,.slice a4 n4 c4,.int .i64 n] 83);rw [World.size_alloc] at hK
 go_enter Tryz.func103,Tryz.ntmps103
 go_wp2_with fail
 refine eP (fun w'=>Cq w' w.heap.size (.int .u8 3) (.slice a1 n1 c1) (.slice a2 n2 c2) (.slice a3 n3 c3) (.slice a4 n4 c4) (.int .i64 n)∧w'.cell? ⟨bi,oi,none⟩=some (.slice (some ⟨b0,o0,none⟩) l.length c0)∧w'.cell? ⟨b0,o0,none⟩=some (.int .i64 x)) [0,1,2,3,4,5] [8] 5 (by kernel_rfl) (by kernel_rfl) rfl HS.out ?_;intro Q' hQ';simp only [pk];refine aA ?_;refine av ?_;refine iT (i:=6) (k:=8) (by kernel_rfl) ?_ ?_
 ·
  simp only [pk];go_wp2;refine ⟨fun _ hS=>⟨hS.1.alloc _,ca hS.2.1,ca hS.2.2⟩,?_⟩;refine iT (i:=7) (k:=8) (by kernel_rfl) ?_ ?_
  ·
   simp only [pk];go_wp2;refine ⟨fun _ hS=>⟨hS.1.alloc _,ca hS.2.1,ca hS.2.2⟩,?_⟩;refine aG (i:=8) (by kernel_rfl) ?_;simp only [pk];go_wp2;refine ⟨fun _ hS=>⟨((((qw w _ _ _ _ _ _ _).alloc _).alloc _).alloc _),ca (ca (ca (ca H0.out))),ca (ca (ca (ca H1.out)))⟩,?_⟩;refine bg (ks:=[9,10]) (fun _ _ hx h=>⟨h.1.ext hx,hx.cell h.2.1,hx.cell h.2.2⟩) (by kernel_rfl) ?_;simp only [pk];go_wp2;refine bodyPost_ret_by (aJ rfl _ _ _ _ _ _ _ rfl (aK (aK hK _) _) Tryz.underlying83 rfl (by kernel_rfl)) rfl ?_;exact jP HK.out (((((Below.refl _ _).alloc (by simp) _).alloc (by simp) _).alloc (by simp <;> omega) _).alloc (by simp <;> omega) _ |> fw <| 1) (aI.refl _ _) ((mM 42 (by simp) (by simp) (lY [x] 3 (by simp) (by simp) 1 rfl)).drewN 1)
  ·
   simp only [pk];go_wp2;refine ⟨fun _ hS=>⟨(((qw w _ _ _ _ _ _ _).alloc _).alloc _),ca (ca (ca H0.out)),ca (ca (ca H1.out))⟩,?_⟩;refine aG (i:=7) (by kernel_rfl) ?_;simp only [pk];go_wp2;refine ⟨fun _ hS=>⟨hS.1.alloc _,ca hS.2.1,ca hS.2.2⟩,?_⟩;refine bg (ks:=[9,10]) (fun _ _ hx h=>⟨h.1.ext hx,hx.cell h.2.1,hx.cell h.2.2⟩) (by kernel_rfl) ?_;simp only [pk];go_wp2;refine bodyPost_ret_by (aJ rfl _ _ _ _ _ _ _ rfl (aK (aK hK _) _) Tryz.underlying83 rfl (by kernel_rfl)) rfl ?_;exact jP HK.out (((((Below.refl _ _).alloc (by simp) _).alloc (by simp) _).alloc (by simp <;> omega) _).alloc (by simp <;> omega) _ |> fw <| 1) (aI.refl _ _) ((mM 42 (by simp) (by simp) (lY [x] 3 (by simp) (by simp) 1 rfl)).drewN 1)
 ·
  simp only [pk];go_wp2;refine ⟨fun _ hS=>⟨((qw w _ _ _ _ _ _ _).alloc _),ca (ca H0.out),ca (ca H1.out)⟩,?_⟩;refine aG (i:=6) (by kernel_rfl) ?_;simp only [pk];go_wp2;refine ⟨fun _ hS=>⟨hS.1.alloc _,ca hS.2.1,ca hS.2.2⟩,?_⟩;refine aG (i:=7) (by kernel_rfl) ?_;simp only [pk];go_wp2;refine ⟨fun _ hS=>⟨hS.1.alloc _,ca hS.2.1,ca hS.2.2⟩,?_⟩;refine bg (ks:=[9,10]) (fun _ _ hx h=>⟨h.1.ext hx,hx.cell h.2.1,hx.cell h.2.2⟩) (by kernel_rfl) ?_;simp only [pk];go_wp2;refine bodyPost_ret_by (aJ rfl _ _ _ _ _ _ _ rfl (aK (aK hK _) _) Tryz.underlying83 rfl (by kernel_rfl)) rfl ?_;exact jP HK.out (((((Below.refl _ _).alloc (by simp) _).alloc (by simp) _).alloc (by simp <;> omega) _).alloc (by simp <;> omega) _ |> fw <| 1) (aI.refl _ _) ((mM 42 (by simp) (by simp) (lY [x] 3 (by simp) (by simp) 1 rfl)).drewN 1)
theorem Cq.below {w w':World}{g:Nat}{a b c d e f:Value}(h:Cq w g a b c d e f)(hb:Below w.heap.size w w'):Cq w' g a b c d e f :=
 ⟨cell_later hb h.1,cell_later hb h.2.1,cell_later hb h.2.2.1,cell_later hb h.2.2.2.1,cell_later hb h.2.2.2.2.1,cell_later hb h.2.2.2.2.2⟩
theorem lZ {w:World}{B:Nat}{a b c d e f:Value}{p:Addr}{v:Value}(hp:w.cell? p=some v)(h:p.block≠B):(six w B a b c d e f).cell? p=some v :=
 ((lX (F:=fun k=>k=B) (aI.refl _ w) rfl:aI (fun k=>k=B) w (six w B a b c d e f)).cell (World.block_lt_of_cell? _ _ hp) h).trans hp
theorem Cq.six {w:World}{g B:Nat}{a b c d e f a' b' c' d' e' f':Value}(h:Cq w g a b c d e f)(hg:g≠B):Cq (six w B a' b' c' d' e' f') g a b c d e f :=
 ⟨lZ h.1 hg,lZ h.2.1 hg,lZ h.2.2.1 hg,lZ h.2.2.2.1 hg,lZ h.2.2.2.2.1 hg,lZ h.2.2.2.2.2 hg⟩
theorem gG {B:Nat}{w w':World}(h:Below B w w'):Below B w w'.drew:=⟨h.os,h.tape,h.output,h.size,h.block⟩
theorem EH {w:World}{N:Nat}{v:Value}{l:List Int}{o:Col}{c:Nat}(h:w.ownsRow N 3 1 v l.length (aV l))(ho:∀ k,N≤k→o k=c):Ints w o c v l :=
 (Own.made (fun _=>0) 2 h).vals.dS (fun k _ e=>ho k (by
  rcases Nat.lt_or_ge k N with h | h
  ·
   rw [bX h] at e;cases e
  ·
   exact h))
abbrev mO (N:Nat):Col:=fun k=>if k < N+2 then 0 else 2
theorem iF {N k:Nat}(h:N+2≤k):mO N k=2:=by simp [mO,show ¬ k < N+2 by omega]
theorem xG {w:World}{N M:Nat}{v:Value}{l:List Int}(h:w.ownsRow M 3 1 v l.length (aV l))(hM:N+2≤M):Ints w (mO N) 2 v l:=EH h (fun k hk=>iF (by omega))
theorem QZ (N:Nat)(w:World)(a b c d e f:Value):Turn (mO N) (mO N) (fun x=>x=0) w (six w (N+1) a b c d e f):=⟨lX (aI.refl _ _) (by simp),fun _ _=>rfl⟩
theorem MU {N:Nat}{w0 w:World}(h:Below N w0 w)(hs:N≤w.heap.size)(a b c d e f:Value):Below N w0 (six w (N+1) a b c d e f) :=
 h.trans ((lX (F:=fun k=>k=N+1) (aI.refl _ w) rfl:aI (fun k=>k=N+1) w (six w (N+1) a b c d e f)).below hs (fun k hk e=>by omega))
theorem La {w:World}{g B:Nat}{a b c d e f a' b' c' d' e' f' v u:Value}{p q:Addr}(h:Cq w g a b c d e f∧w.cell? p=some v∧w.cell? q=some u)(hg:g≠B)(hp:p.block≠B)(hq:q.block≠B) :
  Cq ((((((w.setCell ⟨B,0,none⟩ a').setCell ⟨B,1,none⟩ b').setCell ⟨B,2,none⟩ c').setCell ⟨B,3,none⟩ d').setCell ⟨B,4,none⟩ e').setCell ⟨B,5,none⟩ f') g a b c d e f ∧
   ((((((w.setCell ⟨B,0,none⟩ a').setCell ⟨B,1,none⟩ b').setCell ⟨B,2,none⟩ c').setCell ⟨B,3,none⟩ d').setCell ⟨B,4,none⟩ e').setCell ⟨B,5,none⟩ f').cell? p=some v ∧
   ((((((w.setCell ⟨B,0,none⟩ a').setCell ⟨B,1,none⟩ b').setCell ⟨B,2,none⟩ c').setCell ⟨B,3,none⟩ d').setCell ⟨B,4,none⟩ e').setCell ⟨B,5,none⟩ f').cell? q=some u :=
 ⟨h.1.six hg,lZ h.2.1 hp,lZ h.2.2 hq⟩
theorem kV {w0 w:World}{B:Nat}{a' b' c' d' e' f':Value}{F:Nat→Prop}(h:aI F w0 w)(hB:F B):aI F w0 ((((((w.setCell ⟨B,0,none⟩ a').setCell ⟨B,1,none⟩ b').setCell ⟨B,2,none⟩ c').setCell ⟨B,3,none⟩ d').setCell ⟨B,4,none⟩ e').setCell ⟨B,5,none⟩ f'):=lX h hB
theorem V5 (w:World)(o:Col)(c:Nat)(a1 a2 a3 a4:Option Addr)(n1 n2 n3 n4 c1 c2 c3 c4:Nat)(bL:Value)(n:Int)(u m:Nat)(keep:List Int)(xss:List (List Int))(hk:Ints w o c (.slice a4 n4 c4) keep)
  (hp:Has w (.slice a1 n1 c1) (aV [(u:Int),(m:Int)])) (hins:LL w bL xss) (hu:u≤16) (hm:m≤64) (hl:xss.length=u) (hr:∀ l∈xss,l.length=m) :
  Calls Tryz.prog 103 #[.agg #[.int .u8 4,.slice a1 n1 c1,.slice a2 n2 c2,.slice a3 n3 c3,.slice a4 n4 c4,.int .i64 n],bL] w (dL w o c 4 (.slice a1 n1 c1) (.slice a2 n2 c2) (.slice a3 n3 c3) (.slice a4 n4 c4) n (some ([dz xss m],keep))):=by
 obtain ⟨ia,ic,rfl⟩:=hins.slice;have HI:=Lib.hid hins;have HL:=Lib.hid hl;have HR:=Lib.hid hr;clear hins hl hr;have HK:=Lib.hid hk;obtain ⟨pb,po,rfl,hn1,hc1,-,-,hpc⟩:=dn.at hp (by simp);have hp0:=hpc 0 (by simp);have hp1:=hpc 1 (by simp);simp at hp0 hp1 hn1;subst hn1;have hpb:pb < w.heap.size:=World.block_lt_of_cell? _ _ hp0;have QV:(2:Int)≤c1:=by omega
 have hui:(u:Int)≤16:=by omega
 have Qc:(m:Int)≤64:=by omega
 have S0:=(qw w (.int .u8 4) (.slice (some ⟨pb,po,none⟩) 2 c1) (.slice a2 n2 c2) (.slice a3 n3 c3) (.slice a4 n4 c4) (.int .i64 n) 83).alloc (.cells #[.int .u8 0,.slice none 0 0,.slice none 0 0,.slice none 0 0,.slice none 0 0,.int .i64 0] 83);have hbW:∀ x:Obj,Below w.heap.size w ((w.alloc (.cells #[.int .u8 4,.slice (some ⟨pb,po,none⟩) 2 c1,.slice a2 n2 c2,.slice a3 n3 c3,.slice a4 n4 c4,.int .i64 n] 83)).alloc x):=fun x=>(au w _).alloc (by simp) _
 have dP:=Lib.hid hbW;have H0:=Lib.hid hp0;have H1:=Lib.hid hp1;have hB0:=heap_alloc_new (w.alloc (.cells #[.int .u8 4,.slice (some ⟨pb,po,none⟩) 2 c1,.slice a2 n2 c2,.slice a3 n3 c3,.slice a4 n4 c4,.int .i64 n] 83)) (.cells #[.int .u8 0,.slice none 0 0,.slice none 0 0,.slice none 0 0,.slice none 0 0,.int .i64 0] 83);rw [World.size_alloc] at hB0;have ZN:=heap_alloc_new (w.alloc (.cells #[.int .u8 4,.slice (some ⟨pb,po,none⟩) 2 c1,.slice a2 n2 c2,.slice a3 n3 c3,.slice a4 n4 c4,.int .i64 n] 83)) (.cells #[.int .u8 4,.slice (some ⟨pb,po,none⟩) 2 c1,.slice a2 n2 c2,.slice a3 n3 c3,.slice a4 n4 c4,.int .i64 n] 83);rw [World.size_alloc] at ZN;have HB0:=Lib.hid hB0;have HK0:=Lib.hid ZN;clear hk hpc hp0 hp1 hB0 ZN hbW hp;have HS:=Lib.hid S0;clear S0
 go_enter Tryz.func103,Tryz.ntmps103
 go_wp2_with fail
 refine eP (fun w'=>Cq w' w.heap.size (.int .u8 4) (.slice (some ⟨pb,po,none⟩) 2 c1) (.slice a2 n2 c2) (.slice a3 n3 c3) (.slice a4 n4 c4) (.int .i64 n)∧w'.cell? ⟨pb,po,none⟩=some (.int .i64 u)∧w'.cell? ⟨pb,po+1,none⟩=some (.int .i64 m)) [0,1,2,3,4,5,6,7,8,9] [10,12] 5 (by kernel_rfl) (by kernel_rfl) rfl ⟨HS.out,cell_later (gG (dP.out _)) H0.out,cell_later (gG (dP.out _)) H1.out⟩ ?_;intro Q' hQ';simp only [pk];refine aA ?_;refine av ?_;refine aG (i:=10) (by kernel_rfl) ?_;simp only [pk]
 go_wp2_with fail
 refine (JO _ u m xss _ hu hm HL.out HR.out (HI.out.below (gG (dP.out _)))).mono ?_;rintro e w3 ⟨v,rfl,ho,hb⟩;obtain ⟨sv,cv,rfl⟩:=aB ho;have hb3:Below w.heap.size w w3:=(dP.out _).trans ((iY (n:=1) hb).mono (dP.out _).size);have bf:=aT HB0.out (aI.of_below (iY (n:=1) hb) (fun _=>False)) (fun h=>h);have q0:=ah _ _ bf 0 _ rfl;have q1:=ah _ _ bf 1 _ rfl;have q2:=ah _ _ bf 2 _ rfl;have q3:=ah _ _ bf 3 _ rfl;have q4:=ah _ _ bf 4 _ rfl;have q5:=ah _ _ bf 5 _ rfl;have r0:=aj bf 0;have r1:=aj bf 1;have r2:=aj bf 2;have r3:=aj bf 3;have r4:=aj bf 4;have r5:=aj bf 5;have hs3:w.heap.size+2≤w3.heap.size:=by have:=hb.size;simpa using this
 have HB3:=Lib.hid hb;have nV:=Lib.hid hb3;have fU:=Lib.hid bf;have HO:=Lib.hid ho;clear hb hb3 bf ho;go_wp2;refine ⟨fun _ hS=>⟨hS.1.below HB3.out,cell_later nV.out H0.out,cell_later nV.out H1.out⟩,?_⟩;refine iT (i:=11) (k:=12) (by kernel_rfl) ?_ ?_
 ·
  simp only [pk];go_wp2;refine ⟨fun _ hS=>⟨hS.1.alloc _,ca hS.2.1,ca hS.2.2⟩,?_⟩;refine aG (i:=12) (by kernel_rfl) ?_;simp only [pk];have bf:=aK fU.out (.cells #[.slice sv (dz xss m).length cv] 42);clear q0 q1 q2 q3 q4 q5 r0 r1 r2 r3 r4 r5;have q0:=ah _ _ bf 0 _ rfl;have q1:=ah _ _ bf 1 _ rfl;have q2:=ah _ _ bf 2 _ rfl;have q3:=ah _ _ bf 3 _ rfl;have q4:=ah _ _ bf 4 _ rfl;have q5:=ah _ _ bf 5 _ rfl;have r0:=aj bf 0;have r1:=aj bf 1;have r2:=aj bf 2;have r3:=aj bf 3;have r4:=aj bf 4;have r5:=aj bf 5;have Dj:=Lib.hid bf;clear bf;go_wp2;refine ⟨fun _ hS=>La hS (by omega) (by show pb≠_;omega) (by show pb≠_;omega),?_⟩;refine bg (ks:=[13,14]) (fun _ _ hx h=>⟨h.1.ext hx,hx.cell h.2.1,hx.cell h.2.2⟩) (by kernel_rfl) ?_;simp only [pk];go_wp2;have bf:=Dj.out;have hK:=block_setCell (block_setCell (block_setCell (block_setCell (block_setCell (block_setCell bf 0 (.int .u8 4)) 1 (.slice (some ⟨pb,po,none⟩) 2 c1)) 2 (.slice a2 n2 c2)) 3 (.slice a3 n3 c3)) 4 (.slice a4 n4 c4)) 5 (.int .i64 n);refine bodyPost_ret_by (aJ rfl _ _ _ _ _ _ _ rfl hK Tryz.underlying83 rfl (by kernel_rfl)) rfl ?_;exact jP HK.out (nV.out.alloc (nV.out.size) _) (kV (aI.refl _ _) rfl) (mM 42 rfl (iF hs3) (xG HO.out (by simp)))
 ·
  simp only [pk];go_wp2;refine ⟨fun _ hS=>La hS (by omega) (by show pb≠_;omega) (by show pb≠_;omega),?_⟩;refine aG (i:=11) (by kernel_rfl) ?_;simp only [pk];go_wp2;refine ⟨fun _ hS=>⟨hS.1.alloc _,ca hS.2.1,ca hS.2.2⟩,?_⟩;refine bg (ks:=[13,14]) (fun _ _ hx h=>⟨h.1.ext hx,hx.cell h.2.1,hx.cell h.2.2⟩) (by kernel_rfl) ?_;simp only [pk];go_wp2;have bf:=fU.out;have hK:=block_setCell (block_setCell (block_setCell (block_setCell (block_setCell (block_setCell bf 0 (.int .u8 4)) 1 (.slice (some ⟨pb,po,none⟩) 2 c1)) 2 (.slice a2 n2 c2)) 3 (.slice a3 n3 c3)) 4 (.slice a4 n4 c4)) 5 (.int .i64 n);have hK2:=aK hK (.cells #[.slice sv (dz xss m).length cv] 42);refine bodyPost_ret_by (aJ rfl _ _ _ _ _ _ _ rfl hK2 Tryz.underlying83 rfl (by kernel_rfl)) rfl ?_;have hB6:Below w.heap.size w _:=MU nV.out nV.out.size (.int .u8 4) (.slice (some ⟨pb,po,none⟩) 2 c1) (.slice a2 n2 c2) (.slice a3 n3 c3) (.slice a4 n4 c4) (.int .i64 n);have hI6:=(xG HO.out (by simp)).turn (QZ w.heap.size w3 (.int .u8 4) (.slice (some ⟨pb,po,none⟩) 2 c1) (.slice a2 n2 c2) (.slice a3 n3 c3) (.slice a4 n4 c4) (.int .i64 n)) (by decide);exact jP HK.out (hB6.alloc hB6.size _) (aI.refl _ _) (mM 42 (by simp [six]) (iF hs3) hI6)
theorem V6 (w:World)(o:Col)(c:Nat)(a1 a2 a3 a4:Option Addr)(n1 n2 n3 n4 c1 c2 c3 c4:Nat)(bL:Value)(n:Int)(u m:Nat)(keep l:List Int)(hk:Ints w o c (.slice a4 n4 c4) keep)
  (hp:Has w (.slice a1 n1 c1) (aV [(u:Int),(m:Int)])) (hins:LL w bL [l]) (hu:u≤16) (hm:m≤64) (hl:l.length=u*m) :
  Calls Tryz.prog 103 #[.agg #[.int .u8 5,.slice a1 n1 c1,.slice a2 n2 c2,.slice a3 n3 c3,.slice a4 n4 c4,.int .i64 n],bL] w (dL w o c 5 (.slice a1 n1 c1) (.slice a2 n2 c2) (.slice a3 n3 c3) (.slice a4 n4 c4) n (some (fF u m l,keep))):=by
 obtain ⟨ia,ic,rfl⟩:=hins.slice;obtain ⟨bi,oi,rfl,hci,hrow⟩:=hins.at (by simp);obtain ⟨a0,c0,hr0,hh0⟩:=hrow 0 (by simp);simp only [List.length_cons,List.length_nil,List.getElem?_cons_zero,Option.getD_some,Nat.add_zero,Nat.zero_add] at hr0 hh0 hci ⊢;have EG:(1:Int)≤ic:=by omega
 have HH:=Lib.hid hh0;have I8:=Lib.hid hr0;have HL:=Lib.hid hl;clear hins hl hrow hh0 hr0 hci;have HK:=Lib.hid hk;obtain ⟨pb,po,rfl,hn1,hc1,-,-,hpc⟩:=dn.at hp (by simp);have hp0:=hpc 0 (by simp);have hp1:=hpc 1 (by simp);simp at hp0 hp1 hn1;subst hn1;have hpb:pb < w.heap.size:=World.block_lt_of_cell? _ _ hp0;have QV:(2:Int)≤c1:=by omega
 have hui:(u:Int)≤16:=by omega
 have Qc:(m:Int)≤64:=by omega
 have S0:=(qw w (.int .u8 5) (.slice (some ⟨pb,po,none⟩) 2 c1) (.slice a2 n2 c2) (.slice a3 n3 c3) (.slice a4 n4 c4) (.int .i64 n) 83).alloc (.cells #[.int .u8 0,.slice none 0 0,.slice none 0 0,.slice none 0 0,.slice none 0 0,.int .i64 0] 83);have hbW:∀ x:Obj,Below w.heap.size w ((w.alloc (.cells #[.int .u8 5,.slice (some ⟨pb,po,none⟩) 2 c1,.slice a2 n2 c2,.slice a3 n3 c3,.slice a4 n4 c4,.int .i64 n] 83)).alloc x):=fun x=>(au w _).alloc (by simp) _
 have dP:=Lib.hid hbW;have H0:=Lib.hid hp0;have H1:=Lib.hid hp1;have hB0:=heap_alloc_new (w.alloc (.cells #[.int .u8 5,.slice (some ⟨pb,po,none⟩) 2 c1,.slice a2 n2 c2,.slice a3 n3 c3,.slice a4 n4 c4,.int .i64 n] 83)) (.cells #[.int .u8 0,.slice none 0 0,.slice none 0 0,.slice none 0 0,.slice none 0 0,.int .i64 0] 83);rw [World.size_alloc] at hB0;have ZN:=heap_alloc_new (w.alloc (.cells #[.int .u8 5,.slice (some ⟨pb,po,none⟩) 2 c1,.slice a2 n2 c2,.slice a3 n3 c3,.slice a4 n4 c4,.int .i64 n] 83)) (.cells #[.int .u8 5,.slice (some ⟨pb,po,none⟩) 2 c1,.slice a2 n2 c2,.slice a3 n3 c3,.slice a4 n4 c4,.int .i64 n] 83);rw [World.size_alloc] at ZN;have HB0:=Lib.hid hB0;have HK0:=Lib.hid ZN;clear hk hpc hp0 hp1 hB0 ZN hbW hp;have HS:=Lib.hid S0;clear S0
 go_enter Tryz.func103,Tryz.ntmps103
 go_wp2_with fail
 refine eP (fun w'=>Cq w' w.heap.size (.int .u8 5) (.slice (some ⟨pb,po,none⟩) 2 c1) (.slice a2 n2 c2) (.slice a3 n3 c3) (.slice a4 n4 c4) (.int .i64 n)∧(w'.cell? ⟨pb,po,none⟩=some (.int .i64 u)∧w'.cell? ⟨pb,po+1,none⟩=some (.int .i64 m))∧w'.cell? ⟨bi,oi,none⟩=some (.slice a0 l.length c0)) [0,1,2,3,4,5,6,7,8,9,10,11] [12] 4 (by kernel_rfl) (by kernel_rfl) rfl ⟨HS.out,⟨cell_later (gG (dP.out _)) H0.out,cell_later (gG (dP.out _)) H1.out⟩,cell_later (gG (dP.out _)) I8.out⟩ ?_;intro Q' hQ';simp only [pk];refine aA ?_;refine av ?_;refine aG (i:=12) (by kernel_rfl) ?_;simp only [pk]
 go_wp2_with fail
 refine (GJ _ u m l _ hu hm HL.out (HH.out.below (gG (dP.out _)))).mono ?_;rintro e w3 ⟨v,rfl,ho,hb⟩;obtain ⟨sv,cv,rfl⟩:=ho.ll.slice;have hb3:Below w.heap.size w w3:=(dP.out _).trans ((iY (n:=1) hb).mono (dP.out _).size);have bf:=aT HB0.out (aI.of_below (iY (n:=1) hb) (fun _=>False)) (fun h=>h);have q0:=ah _ _ bf 0 _ rfl;have q1:=ah _ _ bf 1 _ rfl;have q2:=ah _ _ bf 2 _ rfl;have q3:=ah _ _ bf 3 _ rfl;have q4:=ah _ _ bf 4 _ rfl;have q5:=ah _ _ bf 5 _ rfl;have r0:=aj bf 0;have r1:=aj bf 1;have r2:=aj bf 2;have r3:=aj bf 3;have r4:=aj bf 4;have r5:=aj bf 5;have HB3:=Lib.hid hb;have nV:=Lib.hid hb3;have fU:=Lib.hid bf;have HO:Hid (uV w3 (mO w.heap.size) 2 (.slice sv (fF u m l).length cv) (fF u m l)):=Lib.hid (ho.dS (fun k _ e=>by
  unfold EF at e;show (if k < w.heap.size+2 then 0 else 2)=2
  simpa using e))
 clear hb hb3 bf ho;go_wp2;refine ⟨fun _ hS=>⟨hS.1.below HB3.out,⟨cell_later nV.out H0.out,cell_later nV.out H1.out⟩,cell_later nV.out I8.out⟩,?_⟩;refine bg (ks:=[13,14,15]) (fun _ _ hx h=>⟨h.1.ext hx,⟨hx.cell h.2.1.1,hx.cell h.2.1.2⟩,hx.cell h.2.2⟩) (by kernel_rfl) ?_;simp only [pk];go_wp2;have bf:=fU.out;have hK:=block_setCell (block_setCell (block_setCell (block_setCell (block_setCell (block_setCell bf 0 (.int .u8 5)) 1 (.slice (some ⟨pb,po,none⟩) 2 c1)) 2 (.slice a2 n2 c2)) 3 (.slice a3 n3 c3)) 4 (.slice a4 n4 c4)) 5 (.int .i64 n);refine bodyPost_ret_by (aJ rfl _ _ _ _ _ _ _ rfl hK Tryz.underlying83 rfl (by kernel_rfl)) rfl ?_;exact jP HK.out nV.out (kV (aI.refl _ _) rfl) HO.out
theorem Q0 (u:Nat)(x:Int)(h:1≤u):(aV (List.replicate u 0)).set 0 (iv x)=aV (x :: List.replicate (u - 1) 0):=by
 obtain ⟨k,rfl⟩:∃ k,u=k+1:=⟨u - 1,by omega⟩
 simp [aV,List.replicate_succ]
theorem V7 (w:World)(o:Col)(c:Nat)(a1 a2 a3 a4:Option Addr)(n1 n2 n3 n4 c1 c2 c3 c4:Nat)(bL:Value)(n x:Int)(u:Nat)(keep:List Int)(hk:Ints w o c (.slice a4 n4 c4) keep)
  (hp:Has w (.slice a1 n1 c1) (aV [(u:Int)])) (hins:LL w bL [[x]]) (hu:u≤64) (hu1:1≤u) :
  Calls Tryz.prog 103 #[.agg #[.int .u8 2,.slice a1 n1 c1,.slice a2 n2 c2,.slice a3 n3 c3,.slice a4 n4 c4,.int .i64 n],bL] w (dL w o c 2 (.slice a1 n1 c1) (.slice a2 n2 c2) (.slice a3 n3 c3) (.slice a4 n4 c4) n (some ([x :: List.replicate (u - 1) 0],keep))):=by
 obtain ⟨i0,hi,hz0,hz1,hz2⟩:=info_parts bJ;have HK:=Lib.hid hk;obtain ⟨ia,ic,rfl⟩:=hins.slice;obtain ⟨bi,oi,rfl,hci,hrow⟩:=hins.at (by simp);obtain ⟨a0,c0,hr0,hh0⟩:=hrow 0 (by simp);simp only [List.length_cons,List.length_nil,List.getElem?_cons_zero,Option.getD_some,Nat.add_zero,Nat.zero_add] at hr0 hh0 hci ⊢;obtain ⟨b0,o0,rfl,-,hc0,-,-,hx0⟩:=dn.at hh0 (by simp);have hx1:=hx0 0 (by simp);simp at hx1;obtain ⟨pb,po,rfl,hn1,hc1,-,-,hpc⟩:=dn.at hp (by simp);have hp0:=hpc 0 (by simp);simp at hp0 hn1;subst hn1;have EG:(1:Int)≤ic:=by omega
 have QY:(1:Int)≤c0:=by omega
 have QV:(1:Int)≤c1:=by omega
 have hui:(u:Int)≤64:=by omega
 have adG:(1:Int)≤u:=by omega
 have adH:(0:Int) < u:=by omega
 obtain ⟨A,hA⟩:∃ A,A=Obj.cells #[.int .u8 2,.slice (some ⟨pb,po,none⟩) 1 c1,.slice a2 n2 c2,.slice a3 n3 c3,.slice a4 n4 c4,.int .i64 n] 83:=⟨_,rfl⟩
 obtain ⟨B,hB⟩:∃ B,B=Obj.cells #[.int .u8 0,.slice none 0 0,.slice none 0 0,.slice none 0 0,.slice none 0 0,.int .i64 0] 83:=⟨_,rfl⟩
 have hbW:Below w.heap.size w ((w.alloc A).alloc B):=(au w _).alloc (by simp) _;have hB0:=heap_alloc_new (w.alloc A) B;have VZ:=aK (heap_alloc_new w A) B;rw [World.size_alloc] at hB0;obtain ⟨w3,hr,hown,hg⟩:=run_make_full (P:=Tryz.prog) ((w.alloc A).alloc B) ((w.alloc A).alloc B).heap.size 42 3 i0 _ 1 Tryz.underlying42 hi hz0 hz1 .i64 .i64 u (by rw [hz2];omega) (by unfold maxLen;omega) (Nat.le_refl _);rw [lu] at hown;have hb3:Below ((w.alloc A).alloc B).heap.size ((w.alloc A).alloc B) w3:=((aI.refl (fun _=>False) _).grown hg (fun k hk _=>by cases hk)).below (Nat.le_refl _) (fun _ _ h=>h);have hA3:=aT VZ (aI.of_below hb3 (fun _=>False)) (fun h=>h);have hB3:=aT hB0 (aI.of_below hb3 (fun _=>False)) (fun h=>h);have V8:Below w.heap.size w w3:=hbW.trans (hb3.mono hbW.size);have p2:=ca (o:=B) (ca (o:=A) hp0);have e0:=cell_later V8 hr0;have e1:=cell_later V8 hx1;have sz:((w.alloc A).alloc B).heap.size=w.heap.size+1+1:=by simp
 rw [sz] at hown hr hb3;subst hA;have s0:=ah _ _ hA3 0 (.int .u8 2) rfl;have s1:=ah _ _ hA3 1 (.slice (some ⟨pb,po,none⟩) 1 c1) rfl;have s2:=ah _ _ hA3 2 (.slice a2 n2 c2) rfl;have s3:=ah _ _ hA3 3 (.slice a3 n3 c3) rfl;have s4:=ah _ _ hA3 4 (.slice a4 n4 c4) rfl;have s5:=ah _ _ hA3 5 (.int .i64 n) rfl;subst hB;have fU:=Lib.hid hB3;have HOWN:=Lib.hid hown;have HB3:=Lib.hid hb3;have nV:=Lib.hid V8;obtain ⟨_,_,g,_,ge,gc,gf,_⟩:=bN hown (by simp;omega);cases ge
 have gc0:=gc 0 (iv 0) (by rw [List.getElem?_map,List.getElem?_replicate,if_pos (by omega)];rfl);have gf0:=gf 0;clear hk hins hrow hh0 hx0 hr0 hx1 hpc hp VZ hA3 hB0 hB3 hown hb3 V8 hbW sz gc gf hg;have bf:=aK (iB (a:=⟨w.heap.size+1+1,0,none⟩) fU.out (show w.heap.size+1≠w.heap.size+1+1 by omega) (.int .i64 x)) (.cells #[.slice (some ⟨w.heap.size+1+1,0,none⟩) u u] 42);have q0:=ah _ _ bf 0 _ rfl;have q1:=ah _ _ bf 1 _ rfl;have q2:=ah _ _ bf 2 _ rfl;have q3:=ah _ _ bf 3 _ rfl;have q4:=ah _ _ bf 4 _ rfl;have q5:=ah _ _ bf 5 _ rfl;have r0:=aj bf 0;have r1:=aj bf 1;have r2:=aj bf 2;have r3:=aj bf 3;have r4:=aj bf 4;have r5:=aj bf 5;have Cm:=Lib.hid bf;clear bf
 go_enter Tryz.func103,Tryz.ntmps103
 go_wp2;have bf:=Cm.out;have hK:=block_setCell (block_setCell (block_setCell (block_setCell (block_setCell (block_setCell bf 0 (.int .u8 2)) 1 (.slice (some ⟨pb,po,none⟩) 1 c1)) 2 (.slice a2 n2 c2)) 3 (.slice a3 n3 c3)) 4 (.slice a4 n4 c4)) 5 (.int .i64 n);refine bodyPost_ret_by (aJ rfl _ _ _ _ _ _ _ rfl hK Tryz.underlying83 rfl (by kernel_rfl)) rfl ?_;obtain ⟨hst,_⟩:=HOWN.out.stored 0 (iv x);rw [Q0 u x hu1] at hst;have hb6:Below w.heap.size w (w3.setCell ⟨w.heap.size+1+1,0,none⟩ (iv x)):=nV.out.setCell (by show w.heap.size≤w.heap.size+1+1;omega) _;have hlen:(x :: List.replicate (u - 1) 0).length=u:=by simp;omega
 have hI:Ints (w3.setCell ⟨w.heap.size+1+1,0,none⟩ (iv x)) (mO w.heap.size) 2 (.slice (some ⟨w.heap.size+1+1,0,none⟩) u u) (x :: List.replicate (u - 1) 0):=xG (M:=w.heap.size+1+1) (by rw [hlen];exact hst) (Nat.le_refl _);have hs3:w.heap.size+2≤w3.heap.size:=by simpa using HB3.out.size
 exact jP HK.out (hb6.alloc hb6.size _) (kV (aI.refl _ _) rfl) (mM 42 (by simp) (iF (by simpa using hs3)) hI)
theorem V9 (w:World)(o:Col)(c:Nat)(a1 a2 a3 a4:Option Addr)(n1 n2 n3 n4 c1 c2 c3 c4:Nat)(bL:Value)(n x:Int)(u:Nat)(keep:List Int)(hk:Ints w o c (.slice a4 n4 c4) keep)
  (hp:Has w (.slice a1 n1 c1) (aV [(u:Int)])) (hins:LL w bL [[x]]) (hu:u≤64) :
  Calls Tryz.prog 103 #[.agg #[.int .u8 9,.slice a1 n1 c1,.slice a2 n2 c2,.slice a3 n3 c3,.slice a4 n4 c4,.int .i64 n],bL] w (dL w o c 9 (.slice a1 n1 c1) (.slice a2 n2 c2) (.slice a3 n3 c3) (.slice a4 n4 c4) n (some (List.replicate u [x],keep))):=by
 obtain ⟨j0,ji,Un,jz1,Uo⟩:=info_parts je;have HK:=Lib.hid hk;obtain ⟨ia,ic,rfl⟩:=hins.slice;obtain ⟨bi,oi,rfl,hci,hrow⟩:=hins.at (by simp);obtain ⟨a0,c0,hr0,hh0⟩:=hrow 0 (by simp);simp only [List.length_cons,List.length_nil,List.getElem?_cons_zero,Option.getD_some,Nat.add_zero,Nat.zero_add] at hr0 hh0 hci ⊢;obtain ⟨b0,o0,rfl,-,hc0,-,-,hx0⟩:=dn.at hh0 (by simp);have hx1:=hx0 0 (by simp);simp at hx1;obtain ⟨pb,po,rfl,hn1,hc1,-,-,hpc⟩:=dn.at hp (by simp);have hp0:=hpc 0 (by simp);simp at hp0 hn1;subst hn1;have EG:(1:Int)≤ic:=by omega
 have QY:(1:Int)≤c0:=by omega
 have QV:(1:Int)≤c1:=by omega
 have hui:(u:Int)≤64:=by omega
 obtain ⟨A,hA⟩:∃ A,A=Obj.cells #[.int .u8 9,.slice (some ⟨pb,po,none⟩) 1 c1,.slice a2 n2 c2,.slice a3 n3 c3,.slice a4 n4 c4,.int .i64 n] 83:=⟨_,rfl⟩
 obtain ⟨B,hB⟩:∃ B,B=Obj.cells #[.int .u8 0,.slice none 0 0,.slice none 0 0,.slice none 0 0,.slice none 0 0,.int .i64 0] 83:=⟨_,rfl⟩
 have hbW:Below w.heap.size w ((w.alloc A).alloc B):=(au w _).alloc (by simp) _;have HB0:=Lib.hid (heap_alloc_new (w.alloc A) B);have MV:=Lib.hid (aK (heap_alloc_new w A) B);have HP0:=Lib.hid (ca (o:=B) (ca (o:=A) hp0));have I8:=Lib.hid (ca (o:=B) (ca (o:=A) hr0));have GK:=Lib.hid (ca (o:=B) (ca (o:=A) hx1));have dP:=Lib.hid hbW;obtain ⟨W,hW⟩:∃ W,W=(w.alloc A).alloc B:=⟨_,rfl⟩
 have hsz:W.heap.size=w.heap.size+1+1:=by rw [hW];simp
 rw [← hW] at HB0 MV HP0 I8 GK dP;rw [World.size_alloc] at HB0;subst hA hB;have HW:=Lib.hid hW;have Uq:=Lib.hid hsz;clear hk hins hrow hh0 hx0 hr0 hx1 hpc hp hp0 hbW hW hsz
 go_enter Tryz.func103,Tryz.ntmps103
 go_wp2_with fail
 rw [← HW.out]
 go_loopw [8,9] (fun v i wr=>∃ (k:Nat) (o1:Col) (vs:List Value),k≤u∧i=.int .i64 k∧jG wr o1 v k vs (List.replicate k [x])∧Kept W.heap.size o1 W wr) (fun _ i _=>u - (intOf i).toNat)
 case atStart=>exact ⟨0,fun _=>0,[],Nat.zero_le _,rfl,jG.nil W _,Kept.start W⟩
 case round =>
  obtain ⟨k,o1,vs,hk,rfl,hG,hK⟩:=hrel;obtain ⟨sv,cv,rfl⟩:=hG.1.slice;have p0:=cell_later hK.below HP0.out;have hA3:=aT MV.out (aI.of_below hK.below (fun _=>False)) (fun h=>h);have hB3:=aT HB0.out (aI.of_below hK.below (fun _=>False)) (fun h=>h);have s0:=ah _ _ hA3 0 (.int .u8 9) rfl;have s1:=ah _ _ hA3 1 (.slice (some ⟨pb,po,none⟩) 1 c1) rfl;have s2:=ah _ _ hA3 2 (.slice a2 n2 c2) rfl;have s3:=ah _ _ hA3 3 (.slice a3 n3 c3) rfl;have s4:=ah _ _ hA3 4 (.slice a4 n4 c4) rfl;have s5:=ah _ _ hA3 5 (.int .i64 n) rfl;have HG:=Lib.hid hG;have HKK:=Lib.hid hK;have HB3:=Lib.hid hB3
  by_cases hlt:k < u
  ·
   have dG:(k:Int) < u:=by omega
   have r0:=cell_later hK.below I8.out;have x1:=cell_later hK.below GK.out;have hI:=lY (w:=wr) (o:=ext o1 wr.heap.size 2) (c:=2) [x] 3 rfl (aW (Nat.le_refl _)) 1 rfl;have hG1:=hG.turn (Turn.of_below o1 2 (au wr (.cells #[.int .i64 x] 3))) (fun h=>h) (fun h=>h);have hK1:=hK.turn (Turn.of_below o1 2 (au wr (.cells #[.int .i64 x] 3))) (fun h=>h);have HI:=Lib.hid hI;have Q6:=Lib.hid hG1;have qP:=Lib.hid hK1;have hown:=hG1.1.1;have hnw:=bA (wr.alloc (.cells #[.int .i64 x] 3)) [.slice (some ⟨wr.heap.size,0,none⟩) 1 1] 42;rw [World.size_alloc] at hnw;clear hA3 hB3 hG hK hI hG1 hK1
   go_wp2_with (at_builtin;refine aM ?_)
   refine bR ?_;refine aR rfl _ _ 63 rfl 0 42 j0 _ 1 24 Tryz.underlying63 ji Un jz1 Uo rfl (.slice sv k cv) k _ rfl (hown.alloc (.cells #[.slice (some ⟨wr.heap.size,0,none⟩) 1 1] 42)) (some ⟨wr.heap.size+1,0,none⟩) 1 1 [.slice (some ⟨wr.heap.size,0,none⟩) 1 1] rfl rfl (fun h=>by cases h) hnw (by simp [Value.oneCell']) (by unfold maxLen;omega) (aZ (by omega)) (Nat.zero_le _) ?_;intro v5 w5 k1 k20 _ k4;have k2:((wr.alloc (.cells #[.int .i64 x] 3)).alloc (.cells #[.slice (some ⟨wr.heap.size,0,none⟩) 1 1] 42)).grownBy w5 (Value.slice sv k cv).ownBlock:=⟨k20.os,k20.tape,k20.output,k20.size,k20.block⟩;obtain ⟨G5,T5⟩:=Q6.out.app HI.out k1 k2 k4;have MR:=Lib.hid (show jG w5 _ v5 (k+1) _ (List.replicate (k+1) [x]) by rw [List.replicate_succ'];exact G5);have zW:=Lib.hid (qP.out.turn T5 (by decide));clear k1 k20 k2 k4 hnw hown G5 T5 HG HKK HB3 Q6 qP HI s0 s1 s2 s3 s4 s5 p0 r0 x1;go_wp2;go_roundw
   case rel=>exact ⟨k+1,_,_,by omega,by go_num,MR.out,zW.out⟩
   case measure=>simp [intOf];omega
  ·
   obtain rfl:k=u:=by omega
   have bf:=hB3;have q0:=ah _ _ bf 0 _ rfl;have q1:=ah _ _ bf 1 _ rfl;have q2:=ah _ _ bf 2 _ rfl;have q3:=ah _ _ bf 3 _ rfl;have q4:=ah _ _ bf 4 _ rfl;have q5:=ah _ _ bf 5 _ rfl;have r0:=aj bf 0;have r1:=aj bf 1;have r2:=aj bf 2;have r3:=aj bf 3;have r4:=aj bf 4;have r5:=aj bf 5;clear hA3 hB3 hG hK bf;go_wp2;have bf:=HB3.out;have hK:=block_setCell (block_setCell (block_setCell (block_setCell (block_setCell (block_setCell bf 0 (.int .u8 9)) 1 (.slice (some ⟨pb,po,none⟩) 1 c1)) 2 (.slice a2 n2 c2)) 3 (.slice a3 n3 c3)) 4 (.slice a4 n4 c4)) 5 (.int .i64 n);refine bodyPost_ret_by (aJ rfl _ _ _ _ _ _ _ rfl hK Tryz.underlying83 rfl (by kernel_rfl)) rfl ?_;have hL:uV wr (mO w.heap.size) 2 (.slice sv k cv) (List.replicate k [x]):=HG.out.llc (fun j hj e=>iF (by
    rcases Nat.lt_or_ge j W.heap.size with h | h
    ·
     have:=HKK.out.old j h;omega
    ·
     have:=Uq.out;omega))
   have:=Uq.out;exact jP HK.out (dP.out.trans (HKK.out.below.mono (by omega))) (kV (aI.refl _ _) rfl) hL
theorem Dy {w W W':World}{o:Col}{c:Nat}{t n:Int}{vp vi vo vk Dx ov:Value}{keep':List Int}{outs:List (List Int)}(hb:Below w.heap.size w W)(hM:aI (fun k=>k=w.heap.size+1) W W')
  (hk:Ints W (mO w.heap.size) 2 Dx keep') (ho:uV W (mO w.heap.size) 2 ov outs) :
  dL w o c t vp vi vo vk n (some (outs,keep')) (.returned (.tuple #[.agg #[.int .u8 t,vp,vi,vo,Dx,.int .i64 n],ov,.int .i64 0])) W':=by
 have hB:Below w.heap.size w W':=hb.trans (hM.below hb.size (fun k hk e=>by omega));have T:Turn (mO w.heap.size) (mO w.heap.size) (fun x=>x=0) W W':=⟨hM.mono (fun k _ e=>by simp [e]),fun _ _=>rfl⟩;have hc:∀ k,k < W'.heap.size→mO w.heap.size k=2→ext o w.heap.size c k=c:=fun k hk e=>by
  have:¬ k < w.heap.size:=fun h=>by
   have:k < w.heap.size+2:=by omega
   simp [this] at e
  exact aW (by omega)
 exact ⟨ov,Dx,rfl,(hk.turn T (by decide)).dS hc,(ho.turn T (by decide)).dS hc,hB⟩
theorem MW {w:World}{o:Col}{c n cap k:Nat}{sa:Option Addr}{l:List Int}(h:Ints w o c (.slice sa n cap) l)(hk:k≤l.length):Ints w o c (.slice sa k cap) (l.take k):=by
 by_cases hp:0 < k
 ·
  obtain ⟨g,off,rfl,hn,hc,hb,ho,hcl⟩:=h.at (by omega);have hl:(l.take k).length=k:=by rw [List.length_take];omega
  refine .inr ⟨by rw [aD,hl];exact hp,g,off,cap,by rw [aD,hl],by rw [aD,hl];omega,hb,ho,fun j hj=>?_⟩;rw [aD,hl] at hj;rw [hcl j (by omega),iy (by omega),List.getElem?_take_of_lt hj]
 ·
  obtain rfl:k=0:=by omega
  exact .inl ⟨by simp,_,_,rfl⟩
theorem GL (w:World)(o:Col)(c:Nat)(a1 a2 a3 a4:Option Addr)(n1 n2 n3 n4 c1 c2 c3 c4:Nat)(n x:Int)(ps keep:List Int)
  (hk:Has w (.slice a4 n4 c4) (aV keep)) (hp:Has w (.slice a1 n1 c1) (aV ps)) (hl:ps.length=keep.length+1) (Ra:ps.length≤16) (hfp:∀ z∈ps,Fits z) (Ep:∀ z∈keep,Fits z) (hx:Fits x) :
  Calls Tryz.prog 104 #[.agg #[.int .u8 1,.slice a1 n1 c1,.slice a2 n2 c2,.slice a3 n3 c3,.slice a4 n4 c4,.int .i64 n],.int .i64 x] w (dL w o c 1 (.slice a1 n1 c1) (.slice a2 n2 c2) (.slice a3 n3 c3) (.slice a4 n4 c4) n ((mE 0 ps (x :: keep)).map fun y=>([[y]],(x :: keep).take keep.length))):=by
 obtain ⟨i0,hi,hz0,hz1,hz2⟩:=info_parts bJ;obtain rfl:n1=ps.length:=by have:=hp.len;simpa using this
 obtain rfl:n4=keep.length:=by have:=hk.len;simpa using this
 obtain ⟨A,hA⟩:∃ A,A=Obj.cells #[.int .u8 1,.slice a1 ps.length c1,.slice a2 n2 c2,.slice a3 n3 c3,.slice a4 keep.length c4,.int .i64 n] 83:=⟨_,rfl⟩
 obtain ⟨B,hB⟩:∃ B,B=Obj.cells #[.int .u8 0,.slice none 0 0,.slice none 0 0,.slice none 0 0,.slice none 0 0,.int .i64 0] 83:=⟨_,rfl⟩
 have hbW:Below w.heap.size w ((w.alloc A).alloc B):=(au w _).alloc (by simp) _;have HB0:=Lib.hid (heap_alloc_new (w.alloc A) B);have MV:=Lib.hid (aK (heap_alloc_new w A) B);have HKW:=Lib.hid (hk.below hbW);have HPW:=Lib.hid (hp.below hbW);have dP:=Lib.hid hbW;obtain ⟨W,hW⟩:∃ W,W=(w.alloc A).alloc B:=⟨_,rfl⟩
 have hsz:W.heap.size=w.heap.size+1+1:=by rw [hW];simp
 rw [← hW] at HB0 MV HKW HPW dP;rw [World.size_alloc] at HB0;subst hA hB;have HW:=Lib.hid hW;have Uq:=Lib.hid hsz;have HL:=Lib.hid hl;have acf:=Lib.hid Ra;have HFP:=Lib.hid hfp;have HFK:=Lib.hid Ep;have HX:=Lib.hid hx;have hkl:(keep.length:Int)≤16:=by omega
 clear hk hp hbW hW hsz hl Ra hfp Ep hx
 go_enter Tryz.func104,Tryz.ntmps104
 go_wp2_with (at_builtin;refine aM ?_)
 rw [← HW.out];refine bR ?_;have hsz0:w.heap.size+1+1=W.heap.size:=Uq.out.symm;refine aR rfl _ _ 42 rfl W.heap.size 3 i0 _ 1 8 Tryz.underlying42 hi hz0 hz1 hz2 rfl (.slice none 0 0) 0 [] rfl (World.ownsRow_nil _ _ _ _) (some ⟨W.heap.size,0,none⟩) 1 1 [.int .i64 x] (by rw [← hsz0];rfl) rfl (fun h=>by cases h) (bA W [.int .i64 x] 3) (by simp [Value.oneCell']) (by unfold maxLen;omega) (aZ (by omega)) (by simp) ?_;intro v2 w2 g1 g20 _ g4;clear hsz0;have g2:(W.alloc (.cells #[.int .i64 x] 3)).grownBy w2 (Value.slice none 0 0).ownBlock:=⟨g20.os,g20.tape,g20.output,g20.size,g20.block⟩;have hb2:Below W.heap.size W w2:=dW (World.ownsRow_nil W W.heap.size 3 1) g2 (Nat.le_refl _);simp only [Nat.zero_add,List.nil_append] at g1;obtain ⟨s2,k2,rfl⟩:=aB g1;have hA2:=aT MV.out (aI.of_below hb2 (fun _=>False)) (fun h=>h);have t4:=ah _ _ hA2 4 (.slice a4 keep.length c4) rfl;obtain ⟨hnone,hnews⟩:=(HKW.out.below hb2).news;have lV:=Lib.hid hnone;have nu:=Lib.hid hnews;have HB2:=Lib.hid hb2;have sz2:=hb2.size;clear hnone hnews hA2 g20 g2 g4 hb2
 go_wp2_with (at_builtin;refine aM ?_)
 refine bR ?_;refine aR rfl _ _ 42 rfl W.heap.size 3 i0 _ 1 8 Tryz.underlying42 hi hz0 hz1 hz2 rfl (.slice s2 1 k2) 1 _ rfl g1 a4 keep.length c4 (aV keep) rfl (by simp) (by simpa using lV.out) nu.out (gT keep) (by unfold maxLen;omega) (aZ (by omega)) sz2 ?_;intro v3 w3 g1' g20 _ _;have hb3:Below W.heap.size W w3:=HB2.out.trans (((aI.refl (fun k=>(Value.slice s2 1 k2).ownBlock=some k) w2).grown g20 (fun k hk _=>hk)).below sz2 (fun k hk e=>by have:=(g1.lt k e).1;omega));have hown:w3.ownsRow W.heap.size 3 1 v3 (x :: keep).length (aV (x :: keep)):=by
  have e:1+keep.length=(x :: keep).length:=by simp;omega
  rw [← e];exact g1'
 obtain ⟨s3,k3,rfl⟩:=aB hown;have hA3:=aT MV.out (aI.of_below hb3 (fun _=>False)) (fun h=>h);have bf:=aT HB0.out (aI.of_below hb3 (fun _=>False)) (fun h=>h);have s0:=ah _ _ hA3 0 (.int .u8 1) rfl;have s1:=ah _ _ hA3 1 (.slice a1 ps.length c1) rfl;have s2':=ah _ _ hA3 2 (.slice a2 n2 c2) rfl;have s3':=ah _ _ hA3 3 (.slice a3 n3 c3) rfl;have s4:=ah _ _ hA3 4 (.slice a4 keep.length c4) rfl;have s5:=ah _ _ hA3 5 (.int .i64 n) rfl;have f4:=aj hA3 4;have q0:=ah _ _ bf 0 _ rfl;have q1:=ah _ _ bf 1 _ rfl;have q2:=ah _ _ bf 2 _ rfl;have q3:=ah _ _ bf 3 _ rfl;have q4:=ah _ _ bf 4 _ rfl;have q5:=ah _ _ bf 5 _ rfl;have r0:=aj bf 0;have r1:=aj bf 1;have r2:=aj bf 2;have r3:=aj bf 3;have r4:=aj bf 4;have r5:=aj bf 5;have hcap:(x :: keep).length≤k3:=(bN hown (by simp)).2.1;have iK:(keep.length:Int)+1≤k3:=by simp at hcap;omega
 have hlen1:((x :: keep).length:Int)=keep.length+1:=by simp
 have HOWN:=Lib.hid hown;have HB3:=Lib.hid hb3;have fU:=Lib.hid bf;have HA3:=Lib.hid hA3;have HP3:=Lib.hid (HPW.out.below hb3);have acg:Hid (∀ z∈x :: keep,Fits z):=Lib.hid (fun z hz=>by
  rcases List.mem_cons.1 hz with rfl | hz
  ·
   exact HX.out
  ·
   exact HFK.out z hz)
 clear g1 g1' g20 t4 hown hb3 bf hA3 hcap sz2
 go_wp2_with fail
 refine (MO w3 a1 s3 _ _ c1 k3 ps (x :: keep) HP3.out (Own.made (fun _=>0) 2 HOWN.out).vals (by have:=HL.out;simp;omega) (by have:=acf.out;omega) HFP.out acg.out).mono ?_;rintro e w4 ⟨rfl,q,rfl⟩
 rcases hd:mE 0 ps (x :: keep) with _ | y
 ·
  have HD:=Lib.hid hd;clear hd;have e0:F8 none=.tuple #[.int .i64 0,.bool false]:=rfl;rw [e0];clear e0;go_wp2;have bf:=fU.out;have hK:=block_setCell (block_setCell (block_setCell (block_setCell (block_setCell (block_setCell bf 0 (.int .u8 1)) 1 (.slice a1 ps.length c1)) 2 (.slice a2 n2 c2)) 3 (.slice a3 n3 c3)) 4 (.slice a4 keep.length c4)) 5 (.int .i64 n);refine bodyPost_ret_by (aJ rfl _ _ _ _ _ _ _ rfl hK Tryz.underlying83 rfl (by kernel_rfl)) rfl ?_
  rewrite [HD.out]
  exact ⟨rfl,((aI.of_below (dP.out.trans (HB3.out.mono dP.out.size)) (fun k=>k=w.heap.size+1)).trans (kV ((aI.refl (fun k=>k=w.heap.size+1) w3).drewN q) rfl) (fun _ _ h=>h) (fun _ _ h=>h)).below (Nat.le_refl _) (fun k hk e=>by omega)⟩
 ·
  have HD:=Lib.hid hd;clear hd;have e0:F8 (some y)=.tuple #[.int .i64 y,.bool true]:=rfl;rw [e0];clear e0 q0 q1 q2 q3 q4 q5 r0 r1 r2 r3 r4 r5;have hB4:(w3.drewN q).heap[w.heap.size+1]?=some _:=fU.out;have bf:=aK (aK (iB (a:=⟨w.heap.size,4,none⟩) hB4 (show w.heap.size+1≠w.heap.size by omega) (.slice s3 keep.length k3)) (.cells #[.int .i64 y] 3)) (.cells #[.slice (some ⟨w3.heap.size,0,none⟩) 1 1] 42);have q0:=ah _ _ bf 0 _ rfl;have q1:=ah _ _ bf 1 _ rfl;have q2:=ah _ _ bf 2 _ rfl;have q3:=ah _ _ bf 3 _ rfl;have q4:=ah _ _ bf 4 _ rfl;have q5:=ah _ _ bf 5 _ rfl;have r0:=aj bf 0;have r1:=aj bf 1;have r2:=aj bf 2;have r3:=aj bf 3;have r4:=aj bf 4;have r5:=aj bf 5;have Cm:=Lib.hid bf;clear bf hB4;go_wp2;have bf:=Cm.out;have hK:=block_setCell (block_setCell (block_setCell (block_setCell (block_setCell (block_setCell bf 0 (.int .u8 1)) 1 (.slice a1 ps.length c1)) 2 (.slice a2 n2 c2)) 3 (.slice a3 n3 c3)) 4 (.slice s3 keep.length k3)) 5 (.int .i64 n);refine bodyPost_ret_by (aJ rfl _ _ _ _ _ _ _ rfl hK Tryz.underlying83 rfl (by kernel_rfl)) rfl ?_
  rewrite [HD.out]
  have hsz:=Uq.out;have hs3:w.heap.size+2≤w3.heap.size:=by have:=HB3.out.size;omega
  have hM4:Turn (mO w.heap.size) (mO w.heap.size) (fun x=>x=0) w3 ((w3.drewN q).setCell ⟨w.heap.size,4,none⟩ (.slice s3 keep.length k3)):=⟨((aI.refl (fun k=>mO w.heap.size k=0) w3).drewN q).setCell (p:=⟨w.heap.size,4,none⟩) (fun _=>by simp) _,fun _ _=>rfl⟩;have hS:=((Own.made (fun _=>0) 2 HOWN.out).vals.dS (o':=mO w.heap.size) (d:=2) (fun k _ e=>iF (by
   rcases Nat.lt_or_ge k W.heap.size with h | h
   ·
    rw [bX h] at e;cases e
   ·
    omega)))
  have hS1:Ints w3 (mO w.heap.size) 2 (.slice s3 keep.length k3) ((x :: keep).take keep.length):=MW hS (Nat.le_succ _);have hS2:=hS1.turn hM4 (by decide);have hbw:Below w.heap.size w ((w3.drewN q).setCell ⟨w.heap.size,4,none⟩ (.slice s3 keep.length k3)):=(fw (dP.out.trans (HB3.out.mono dP.out.size)) q).setCell (Nat.le_refl _) _;have hI:=lY (w:=(w3.drewN q).setCell ⟨w.heap.size,4,none⟩ (.slice s3 keep.length k3)) (o:=mO w.heap.size) (c:=2) (n:=w3.heap.size) [y] 3 (by simp) (iF hs3) 1 rfl;have hL:=mM (n:=w3.heap.size+1) 42 (by simp) (iF (by omega)) hI;have Yc:Turn (mO w.heap.size) (mO w.heap.size) (fun _=>False) ((w3.drewN q).setCell ⟨w.heap.size,4,none⟩ (.slice s3 keep.length k3)) ((((w3.drewN q).setCell ⟨w.heap.size,4,none⟩ (.slice s3 keep.length k3)).alloc (.cells #[.int .i64 y] 3)).alloc (.cells #[.slice (some ⟨w3.heap.size,0,none⟩) 1 1] 42)):=⟨((aI.refl _ _).alloc _).alloc _,fun _ _=>rfl⟩;exact Dy ((hbw.alloc hbw.size _).alloc (Nat.le_trans hbw.size (by simp)) _) (kV (aI.refl _ _) rfl) (hS2.turn Yc (fun h=>h)) hL
theorem Lb (w:World)(B:Nat)(a' b' c' d' e' f':Value):((((((w.setCell ⟨B,0,none⟩ a').setCell ⟨B,1,none⟩ b').setCell ⟨B,2,none⟩ c').setCell ⟨B,3,none⟩ d').setCell ⟨B,4,none⟩ e').setCell ⟨B,5,none⟩ f').heap.size=w.heap.size:=by simp [dw]
theorem vP {w W:World}{o:Col}{c:Nat}{t n z:Int}{vp vi vo vk:Value}{keep:List Int}(hk:Ints w o c vk keep)(hb:Below w.heap.size w W)(hs:W.heap.size=w.heap.size+1+1) :
  dL w o c t vp vi vo vk n (some ([[z]],keep)) (.returned (.tuple #[.agg #[.int .u8 t,vp,vi,vo,vk,.int .i64 n],.slice (some ⟨w.heap.size+1+1+1,0,none⟩) 1 1,.int .i64 0])) ((W.alloc (.cells #[.int .i64 z] 3)).alloc (.cells #[.slice (some ⟨w.heap.size+1+1,0,none⟩) 1 1] 42)):=by
 refine jP hk ((hb.alloc hb.size _).alloc (Nat.le_trans hb.size (by simp)) _) (aI.refl _ _) (mM 42 (by simp [hs]) (iF (by omega)) (lY [z] 3 hs.symm (iF (by omega)) 1 rfl))
theorem A7 {w0 w:World}{N B:Nat}{a' b' c' d' e' f':Value}(h:Below N w0 w)(hB:N≤B):Below N w0 ((((((w.setCell ⟨B,0,none⟩ a').setCell ⟨B,1,none⟩ b').setCell ⟨B,2,none⟩ c').setCell ⟨B,3,none⟩ d').setCell ⟨B,4,none⟩ e').setCell ⟨B,5,none⟩ f') :=
 (((((h.setCell hB _).setCell hB _).setCell hB _).setCell hB _).setCell hB _).setCell hB _
theorem heap_drewN {w:World}{b:Nat}{x:Option Obj}(h:w.heap[b]?=x)(q:Nat):(w.drewN q).heap[b]?=x:=h
theorem Rb {x:Int}(fx:Fits x)(h:¬ x = -9223372036854775808):wrap64 (-x) = -x:=by
 unfold Fits at fx;exact IntWalk.wrap64_in _ (by omega)
theorem Rc {w:World}{bL:Value}{x y:Int}(h:LL w bL [[x],[y]]):∃ bi oi ic ba oa ca bb ob cb:Nat,bL=.slice (some ⟨bi,oi,none⟩) 2 ic∧(2:Int)≤ic∧(1:Int)≤ca∧(1:Int)≤cb∧w.cell? ⟨bi,oi,none⟩=some (.slice (some ⟨ba,oa,none⟩) 1 ca) ∧
  w.cell? ⟨bi,oi+1,none⟩=some (.slice (some ⟨bb,ob,none⟩) 1 cb)∧w.cell? ⟨ba,oa,none⟩=some (.int .i64 x)∧w.cell? ⟨bb,ob,none⟩=some (.int .i64 y):=by
 obtain ⟨ia,ic,rfl⟩:=h.slice;obtain ⟨bi,oi,rfl,hci,hrow⟩:=h.at (by simp);obtain ⟨aa,ca,hr0,hh0⟩:=hrow 0 (by simp);obtain ⟨ab,cb,hr1,hh1⟩:=hrow 1 (by simp);simp at hr0 hh0 hr1 hh1 hci;obtain ⟨ba,oa,rfl,-,hca,-,-,hx0⟩:=dn.at hh0 (by simp);obtain ⟨bb,ob,rfl,-,hcb,-,-,hx1⟩:=dn.at hh1 (by simp);have h0:=hx0 0 (by simp);have h1:=hx1 0 (by simp);simp at h0 h1;exact ⟨bi,oi,ic,ba,oa,ca,bb,ob,cb,rfl,by omega,by omega,by omega,hr0,hr1,h0,h1⟩
theorem Wd (w:World)(o:Col)(c:Nat)(a1 a2 a3 a4:Option Addr)(n1 n2 n3 n4 c1 c2 c3 c4:Nat)(bL:Value)(n x y:Int)(keep:List Int)(hk:Ints w o c (.slice a4 n4 c4) keep)(hins:LL w bL [[x],[y]])(fx:Fits x)(fy:Fits y) :
  Calls Tryz.prog 107 #[.agg #[.int .u8 7,.slice a1 n1 c1,.slice a2 n2 c2,.slice a3 n3 c3,.slice a4 n4 c4,.int .i64 n],bL] w (dL w o c 7 (.slice a1 n1 c1) (.slice a2 n2 c2) (.slice a3 n3 c3) (.slice a4 n4 c4) n ((jm x y).map fun z=>([[z]],keep))):=by
 have HK:=Lib.hid hk;obtain ⟨bi,oi,ic,ba,oa,ca',bb,ob,cb,rfl,hic,hca,hcb,h0,h1,h2,h3⟩:=Rc hins;obtain ⟨A,hA⟩:∃ A,A=Obj.cells #[.int .u8 7,.slice a1 n1 c1,.slice a2 n2 c2,.slice a3 n3 c3,.slice a4 n4 c4,.int .i64 n] 83:=⟨_,rfl⟩
 obtain ⟨B,hB⟩:∃ B,B=Obj.cells #[.int .u8 0,.slice none 0 0,.slice none 0 0,.slice none 0 0,.slice none 0 0,.int .i64 0] 83:=⟨_,rfl⟩
 have p0:=ca (o:=B) (ca (o:=A) h0);have p1:=ca (o:=B) (ca (o:=A) h1);have p2:=ca (o:=B) (ca (o:=A) h2);have p3:=ca (o:=B) (ca (o:=A) h3);subst hA hB;have hK:=heap_alloc_new (w.alloc (.cells #[.int .u8 7,.slice a1 n1 c1,.slice a2 n2 c2,.slice a3 n3 c3,.slice a4 n4 c4,.int .i64 n] 83)) (.cells #[.int .u8 7,.slice a1 n1 c1,.slice a2 n2 c2,.slice a3 n3 c3,.slice a4 n4 c4,.int .i64 n] 83);rw [World.size_alloc] at hK;have hB0:=heap_alloc_new (w.alloc (.cells #[.int .u8 7,.slice a1 n1 c1,.slice a2 n2 c2,.slice a3 n3 c3,.slice a4 n4 c4,.int .i64 n] 83)) (.cells #[.int .u8 0,.slice none 0 0,.slice none 0 0,.slice none 0 0,.slice none 0 0,.int .i64 0] 83);rw [World.size_alloc] at hB0;have HB0:=Lib.hid (heap_drewN hB0);clear hB0;have dP:=Lib.hid (show Below w.heap.size w ((w.alloc (.cells #[.int .u8 7,.slice a1 n1 c1,.slice a2 n2 c2,.slice a3 n3 c3,.slice a4 n4 c4,.int .i64 n] 83)).alloc (.cells #[.int .u8 0,.slice none 0 0,.slice none 0 0,.slice none 0 0,.slice none 0 0,.int .i64 0] 83)) from (au w _).alloc (by simp) _);clear hk hins h0 h1 h2 h3
 by_cases hy:y=0
 ·
  subst hy;have HP:Hid (Option.map (fun z=>([[z]],keep)) (jm x 0)=none):=Lib.hid rfl;have HKK:=Lib.hid hK;clear hK fx fy
  go_enter Tryz.func107,Tryz.ntmps107
  go_wp2;have hK:=HKK.out;refine bodyPost_ret_by (aJ rfl _ _ _ _ _ _ _ rfl hK Tryz.underlying83 rfl (by kernel_rfl)) rfl ?_
  rewrite [HP.out]
  exact ⟨rfl,fw (((Below.refl _ _).alloc (by simp) _).alloc (by simp) _) 0⟩
 ·
  by_cases hm:y = -1
  ·
   subst hm
   by_cases hx:x = -9223372036854775808
   ·
    subst hx;have HP:Hid (Option.map (fun z=>([[z]],keep)) (jm (-9223372036854775808) (-1))=none):=Lib.hid (by rw [show jm (-9223372036854775808) (-1)=none by decide];rfl);have HKK:=Lib.hid hK;clear hK fx fy hy
    go_enter Tryz.func107,Tryz.ntmps107
    go_wp2;have hK:=HKK.out;refine bodyPost_ret_by (aJ rfl _ _ _ _ _ _ _ rfl hK Tryz.underlying83 rfl (by kernel_rfl)) rfl ?_
    rewrite [HP.out]
    exact ⟨rfl,fw (((Below.refl _ _).alloc (by simp) _).alloc (by simp) _) 0⟩
   ·
    have hv:jm x (-1)=some (0 - x):=by
     have:Fits (0 - x):=by unfold Fits at fx ⊢;omega
     unfold jm;rw [if_neg (by decide),if_pos rfl,if_pos this]
    have HP:Hid (Option.map (fun z=>([[z]],keep)) (jm x (-1))=some ([[-x]],keep)):=Lib.hid (by rw [hv,Int.zero_sub];rfl);have hq:x.tdiv (-1) = -x:=by simp
    have hw:=Rb fx hx;have hb1:(x == -9223372036854775808)=false:=beq_eq_false_iff_ne.2 hx;have HKK:=Lib.hid hK;clear hK fy hy hv
    go_enter Tryz.func107,Tryz.ntmps107
    go_wp2;go_quiet (fail);go_wp2;have bf:=HB0.out nq;have hK:=block_setCell (block_setCell (block_setCell (block_setCell (block_setCell (block_setCell bf 0 (.int .u8 7)) 1 (.slice a1 n1 c1)) 2 (.slice a2 n2 c2)) 3 (.slice a3 n3 c3)) 4 (.slice a4 n4 c4)) 5 (.int .i64 n);have hK2:=aK (aK hK (.cells #[.int .i64 (-x)] 3)) (.cells #[.slice (some ⟨w.heap.size+1+1,0,none⟩) 1 1] 42);refine bodyPost_ret_by (aJ rfl _ _ _ _ _ _ _ rfl hK2 Tryz.underlying83 rfl (by kernel_rfl)) rfl ?_
    rewrite [HP.out]
    exact vP HK.out (A7 (fw dP.out nq) (Nat.le_succ w.heap.size)) ((Lb _ _ _ _ _ _ _ _).trans (by simp))
  ·
   have hv:jm x y=some (x.tdiv y):=by simp [jm,hy,hm]
   have HP:Hid (Option.map (fun z=>([[z]],keep)) (jm x y)=some ([[x.tdiv y]],keep)):=Lib.hid (by rw [hv];rfl);have hw:=wV fx hy hm;have hb0:(y == 0)=false:=beq_eq_false_iff_ne.2 hy;have hb1:(y == -1)=false:=beq_eq_false_iff_ne.2 hm;have HKK:=Lib.hid hK;clear hK hv
   by_cases hx:x = -9223372036854775808
   ·
    have hb2:(x == -9223372036854775808)=true:=beq_iff_eq.2 hx;clear hx fx
    go_enter Tryz.func107,Tryz.ntmps107
    go_wp2;go_quiet (fail);go_wp2;have bf:=HB0.out nq;have hK:=block_setCell (block_setCell (block_setCell (block_setCell (block_setCell (block_setCell bf 0 (.int .u8 7)) 1 (.slice a1 n1 c1)) 2 (.slice a2 n2 c2)) 3 (.slice a3 n3 c3)) 4 (.slice a4 n4 c4)) 5 (.int .i64 n);have hK2:=aK (aK hK (.cells #[.int .i64 (x.tdiv y)] 3)) (.cells #[.slice (some ⟨w.heap.size+1+1,0,none⟩) 1 1] 42);refine bodyPost_ret_by (aJ rfl _ _ _ _ _ _ _ rfl hK2 Tryz.underlying83 rfl (by kernel_rfl)) rfl ?_
    rewrite [HP.out]
    exact vP HK.out (A7 (fw dP.out nq) (Nat.le_succ w.heap.size)) ((Lb _ _ _ _ _ _ _ _).trans (by simp))
   ·
    have hb2:(x == -9223372036854775808)=false:=beq_eq_false_iff_ne.2 hx
    go_enter Tryz.func107,Tryz.ntmps107
    go_wp2;go_quiet (fail);go_wp2;have bf:=HB0.out nq;have hK:=block_setCell (block_setCell (block_setCell (block_setCell (block_setCell (block_setCell bf 0 (.int .u8 7)) 1 (.slice a1 n1 c1)) 2 (.slice a2 n2 c2)) 3 (.slice a3 n3 c3)) 4 (.slice a4 n4 c4)) 5 (.int .i64 n);have hK2:=aK (aK hK (.cells #[.int .i64 (x.tdiv y)] 3)) (.cells #[.slice (some ⟨w.heap.size+1+1,0,none⟩) 1 1] 42);refine bodyPost_ret_by (aJ rfl _ _ _ _ _ _ _ rfl hK2 Tryz.underlying83 rfl (by kernel_rfl)) rfl ?_
    rewrite [HP.out]
    exact vP HK.out (A7 (fw dP.out nq) (Nat.le_succ w.heap.size)) ((Lb _ _ _ _ _ _ _ _).trans (by simp))
theorem Dz {w X:World}{o:Col}{c:Nat}{t n z z':Int}{vp vi vo vk:Value}(hb:Below w.heap.size w X)(hs:X.heap.size=w.heap.size+1+1) :
  dL w o c t vp vi vo vk n (some ([[z]],[z'])) (.returned (.tuple #[.agg #[.int .u8 t,vp,vi,vo,.slice (some ⟨w.heap.size+1+1,0,none⟩) 1 1,.int .i64 n],.slice (some ⟨w.heap.size+1+1+1+1,0,none⟩) 1 1,.int .i64 0])) (((X.alloc (.cells #[.int .i64 z'] 3)).alloc (.cells #[.int .i64 z] 3)).alloc (.cells #[.slice (some ⟨w.heap.size+1+1+1,0,none⟩) 1 1] 42)):=by
 have hk:=lY (w:=X) (o:=mO w.heap.size) (c:=2) [z'] 3 hs.symm (iF (by omega)) 1 rfl;have hb1:Below w.heap.size w (X.alloc (.cells #[.int .i64 z'] 3)):=hb.alloc hb.size _;have hs1:(X.alloc (.cells #[.int .i64 z'] 3)).heap.size=w.heap.size+1+1+1:=by simp [hs]
 refine Dy ((hb1.alloc hb1.size _).alloc (Nat.le_trans hb1.size (by simp)) _) (aI.refl _ _) (hk.turn (⟨((aI.refl _ _).alloc _).alloc _,fun _ _=>rfl⟩:Turn (mO w.heap.size) (mO w.heap.size) (fun _=>False) _ _) (fun h=>h)) (mM 42 (by simp [hs]) (iF (by omega)) (lY [z] 3 hs1.symm (iF (by omega)) 1 rfl))
theorem Wh (w:World)(o:Col)(c:Nat)(a1 a2 a3 a4:Option Addr)(n1 n2 n3 n4 c1 c2 c3 c4:Nat)(bL:Value)(n x acc:Int)(hk:Ints w o c (.slice a4 n4 c4) [acc])(hins:LL w bL [[x]])(fx:Fits x)(fa:Fits acc) :
  Calls Tryz.prog 107 #[.agg #[.int .u8 8,.slice a1 n1 c1,.slice a2 n2 c2,.slice a3 n3 c3,.slice a4 n4 c4,.int .i64 n],bL] w (dL w o c 8 (.slice a1 n1 c1) (.slice a2 n2 c2) (.slice a3 n3 c3) (.slice a4 n4 c4) n (if Fits (acc+x) then some ([[acc+x]],[acc+x]) else none)):=by
 have HK:=Lib.hid hk;obtain ⟨b4,o4,rfl,Wi,hc4,-,-,hkc⟩:=dn.at hk (by simp);have k0:=hkc 0 (by simp);simp at k0 Wi;subst Wi;have ZO:(1:Int)≤c4:=by omega
 obtain ⟨ia,ic,rfl⟩:=hins.slice;obtain ⟨bi,oi,rfl,hci,hrow⟩:=hins.at (by simp);obtain ⟨a0,c0,hr0,hh0⟩:=hrow 0 (by simp);simp only [List.length_cons,List.length_nil,List.getElem?_cons_zero,Option.getD_some,Nat.add_zero,Nat.zero_add] at hr0 hh0 hci ⊢;obtain ⟨b0,o0,rfl,-,hc0,-,-,hx0⟩:=dn.at hh0 (by simp);have hx1:=hx0 0 (by simp);simp at hx1;have EG:(1:Int)≤ic:=by omega
 have QY:(1:Int)≤c0:=by omega
 obtain ⟨A,hA⟩:∃ A,A=Obj.cells #[.int .u8 8,.slice a1 n1 c1,.slice a2 n2 c2,.slice a3 n3 c3,.slice (some ⟨b4,o4,none⟩) 1 c4,.int .i64 n] 83:=⟨_,rfl⟩
 obtain ⟨B,hB⟩:∃ B,B=Obj.cells #[.int .u8 0,.slice none 0 0,.slice none 0 0,.slice none 0 0,.slice none 0 0,.int .i64 0] 83:=⟨_,rfl⟩
 have p0:=ca (o:=B) (ca (o:=A) hr0);have p1:=ca (o:=B) (ca (o:=A) hx1);have p2:=ca (o:=B) (ca (o:=A) k0);have HB0:=Lib.hid (heap_drewN (show ((w.alloc A).alloc B).heap[w.heap.size+1]?=some B by have:=heap_alloc_new (w.alloc A) B;rwa [World.size_alloc] at this));have dP:=Lib.hid (show Below w.heap.size w ((w.alloc A).alloc B) from (au w _).alloc (by simp) _);subst hA hB;have KT:=Lib.hid fx;have O0:=Lib.hid fa;clear hk hkc hins hrow hr0 hh0 hx0 hx1 k0 fx fa
 by_cases hf:Fits (acc+x)
 ·
  have HP:Hid ((if Fits (acc+x) then some ([[acc+x]],[acc+x]) else none)=some ([[acc+x]],[acc+x])):=Lib.hid (if_pos hf);have HF:=Lib.hid hf;clear hf
  go_enter Tryz.func107,Tryz.ntmps107
  go_wp2;go_quiet ((go_at_call 109;exact Calls.quiet_of_same ((sU _ acc x O0.out KT.out HF.out).mono fun e w' ⟨h1,h2⟩=>⟨h1,h2.symm⟩)));go_wp2;have bf:=iB (a:=⟨w.heap.size,4,none⟩) (HB0.out nq) (show w.heap.size+1≠w.heap.size by omega) (.slice (some ⟨w.heap.size+1+1,0,none⟩) 1 1);have hK:=block_setCell (block_setCell (block_setCell (block_setCell (block_setCell (block_setCell bf 0 (.int .u8 8)) 1 (.slice a1 n1 c1)) 2 (.slice a2 n2 c2)) 3 (.slice a3 n3 c3)) 4 (.slice (some ⟨w.heap.size+1+1,0,none⟩) 1 1)) 5 (.int .i64 n);have hK2:=aK (aK (aK hK (.cells #[.int .i64 (acc+x)] 3)) (.cells #[.int .i64 (acc+x)] 3)) (.cells #[.slice (some ⟨w.heap.size+1+1+1,0,none⟩) 1 1] 42);refine bodyPost_ret_by (aJ rfl _ _ _ _ _ _ _ rfl hK2 Tryz.underlying83 rfl (by kernel_rfl)) rfl ?_
  first | rewrite [HP.out] | skip
  exact Dz (A7 ((fw dP.out nq).setCell (Nat.le_refl _) _) (Nat.le_succ w.heap.size)) ((Lb _ _ _ _ _ _ _ _).trans (by simp [dw]))
 ·
  have HP:Hid ((if Fits (acc+x) then some ([[acc+x]],[acc+x]) else none)=none):=Lib.hid (if_neg hf);have HF:=Lib.hid hf;clear hf
  go_enter Tryz.func107,Tryz.ntmps107
  go_wp2;go_quiet ((go_at_call 109;exact Calls.quiet_of_same ((vM _ acc x O0.out KT.out HF.out).mono fun e w' ⟨h1,h2⟩=>⟨h1,h2.symm⟩)));go_wp2;have bf:=HB0.out nq;have hK:=block_setCell (block_setCell (block_setCell (block_setCell (block_setCell (block_setCell bf 0 (.int .u8 8)) 1 (.slice a1 n1 c1)) 2 (.slice a2 n2 c2)) 3 (.slice a3 n3 c3)) 4 (.slice (some ⟨b4,o4,none⟩) 1 c4)) 5 (.int .i64 n);refine bodyPost_ret_by (aJ rfl _ _ _ _ _ _ _ rfl hK Tryz.underlying83 rfl (by kernel_rfl)) rfl ?_
  first | rewrite [HP.out] | skip
  exact ⟨rfl,A7 (fw dP.out nq) (Nat.le_succ w.heap.size)⟩
theorem Rf (w:World)(o:Col)(c:Nat)(a1 a2 a3 a4:Option Addr)(n1 n2 n3 n4 c1 c2 c3 c4:Nat)(bL:Value)(n p x acc:Int)(hk:Ints w o c (.slice a4 n4 c4) [acc])(hp:Has w (.slice a1 n1 c1) (aV [p,x]))(fx:Fits x)(fa:Fits acc) :
  Calls Tryz.prog 107 #[.agg #[.int .u8 10,.slice a1 n1 c1,.slice a2 n2 c2,.slice a3 n3 c3,.slice a4 n4 c4,.int .i64 n],bL] w (dL w o c 10 (.slice a1 n1 c1) (.slice a2 n2 c2) (.slice a3 n3 c3) (.slice a4 n4 c4) n (if Fits (acc+x) then some ([[acc]],[acc+x]) else none)):=by
 have HK:=Lib.hid hk;obtain ⟨b4,o4,rfl,Wi,hc4,-,-,hkc⟩:=dn.at hk (by simp);have k0:=hkc 0 (by simp);simp at k0 Wi;subst Wi;have ZO:(1:Int)≤c4:=by omega
 obtain ⟨pb,po,rfl,hn1,hc1,-,-,hpc⟩:=dn.at hp (by simp);have hp1:=hpc 1 (by simp);simp at hp1 hn1;subst hn1;have QV:(2:Int)≤c1:=by omega
 obtain ⟨A,hA⟩:∃ A,A=Obj.cells #[.int .u8 10,.slice (some ⟨pb,po,none⟩) 2 c1,.slice a2 n2 c2,.slice a3 n3 c3,.slice (some ⟨b4,o4,none⟩) 1 c4,.int .i64 n] 83:=⟨_,rfl⟩
 obtain ⟨B,hB⟩:∃ B,B=Obj.cells #[.int .u8 0,.slice none 0 0,.slice none 0 0,.slice none 0 0,.slice none 0 0,.int .i64 0] 83:=⟨_,rfl⟩
 have p0:=ca (o:=B) (ca (o:=A) hp1);have p2:=ca (o:=B) (ca (o:=A) k0);subst hA hB;have KT:=Lib.hid fx;have O0:=Lib.hid fa;clear hk hkc hp hpc hp1 k0 fx fa
 by_cases hf:Fits (acc+x)
 ·
  have HP:Hid ((if Fits (acc+x) then some ([[acc]],[acc+x]) else none)=some ([[acc]],[acc+x])):=Lib.hid (if_pos hf);have HF:=Lib.hid hf;clear hf
  go_enter Tryz.func107,Tryz.ntmps107
  go_wp2_with fail
  refine (sU _ acc x O0.out KT.out HF.out).mono ?_;rintro e w1 ⟨rfl,rfl⟩;go_wp2;have hK:=heap_alloc_new (w.alloc (.cells #[.int .u8 10,.slice (some ⟨pb,po,none⟩) 2 c1,.slice a2 n2 c2,.slice a3 n3 c3,.slice (some ⟨w.heap.size+1+1,0,none⟩) 1 1,.int .i64 n] 83)) (.cells #[.int .u8 10,.slice (some ⟨pb,po,none⟩) 2 c1,.slice a2 n2 c2,.slice a3 n3 c3,.slice (some ⟨w.heap.size+1+1,0,none⟩) 1 1,.int .i64 n] 83);rw [World.size_alloc] at hK;have hK2:=aK (aK (aK hK (.cells #[.int .i64 (acc+x)] 3)) (.cells #[.int .i64 acc] 3)) (.cells #[.slice (some ⟨w.heap.size+1+1+1,0,none⟩) 1 1] 42);refine bodyPost_ret_by (aJ rfl _ _ _ _ _ _ _ rfl hK2 Tryz.underlying83 rfl (by kernel_rfl)) rfl ?_
  first | rewrite [HP.out] | skip
  exact Dz ((au w _).alloc (by simp) _) (by simp)
 ·
  have HP:Hid ((if Fits (acc+x) then some ([[acc]],[acc+x]) else none)=none):=Lib.hid (if_neg hf);have HF:=Lib.hid hf;clear hf
  go_enter Tryz.func107,Tryz.ntmps107
  go_wp2_with fail
  refine (vM _ acc x O0.out KT.out HF.out).mono ?_;rintro e w1 ⟨rfl,rfl⟩;go_wp2;have hK:=heap_alloc_new (w.alloc (.cells #[.int .u8 10,.slice (some ⟨pb,po,none⟩) 2 c1,.slice a2 n2 c2,.slice a3 n3 c3,.slice (some ⟨b4,o4,none⟩) 1 c4,.int .i64 n] 83)) (.cells #[.int .u8 10,.slice (some ⟨pb,po,none⟩) 2 c1,.slice a2 n2 c2,.slice a3 n3 c3,.slice (some ⟨b4,o4,none⟩) 1 c4,.int .i64 n] 83);rw [World.size_alloc] at hK;refine bodyPost_ret_by (aJ rfl _ _ _ _ _ _ _ rfl hK Tryz.underlying83 rfl (by kernel_rfl)) rfl ?_
  first | rewrite [HP.out] | skip
  exact ⟨rfl,(au w _).alloc (by simp) _⟩
theorem JQ {xss:List (List Int)}{k:Nat}(h:k < (firsts xss).length):(firsts xss)[k]=(xss[k]?.getD [])[0]?.getD 0:=by
 have hk:k < xss.length:=by simpa [firsts,vD] using h
 simp [firsts,vD,hk]
theorem A8 (xss:List (List Int)):(firsts xss).length=xss.length:=by simp [firsts,vD]
theorem Wj (w:World)(o:Col)(c:Nat)(a1 a2 a3 a4:Option Addr)(n1 n2 n3 n4 c1 c2 c3 c4:Nat)(bL:Value)(n:Int)(keep:List Int)(xss:List (List Int))(hk:Ints w o c (.slice a4 n4 c4) keep)(hins:LL w bL xss)(hr:∀ l∈xss,l.length=1)(hl:xss.length≤16)(hf:∀ l∈xss,∀ x∈l,Fits x) :
  Calls Tryz.prog 107 #[.agg #[.int .u8 6,.slice a1 n1 c1,.slice a2 n2 c2,.slice a3 n3 c3,.slice a4 n4 c4,.int .i64 n],bL] w (dL w o c 6 (.slice a1 n1 c1) (.slice a2 n2 c2) (.slice a3 n3 c3) (.slice a4 n4 c4) n ((nT 0 (firsts xss)).map fun y=>([[y]],keep))):=by
 have HK:=Lib.hid hk;obtain ⟨ia,ic,rfl⟩:=hins.slice;obtain ⟨A,hA⟩:∃ A,A=Obj.cells #[.int .u8 6,.slice a1 n1 c1,.slice a2 n2 c2,.slice a3 n3 c3,.slice a4 n4 c4,.int .i64 n] 83:=⟨_,rfl⟩
 obtain ⟨B,hB⟩:∃ B,B=Obj.cells #[.int .u8 0,.slice none 0 0,.slice none 0 0,.slice none 0 0,.slice none 0 0,.int .i64 0] 83:=⟨_,rfl⟩
 have HI:=Lib.hid (hins.below (show Below w.heap.size w ((w.alloc A).alloc B) from (au w _).alloc (by simp) _));subst hA hB;have HR:=Lib.hid hr;have HF:=Lib.hid hf;have XI:(xss.length:Int)≤16:=by omega
 have f0:Fits 0:=by unfold Fits;omega
 have hK:=heap_alloc_new (w.alloc (.cells #[.int .u8 6,.slice a1 n1 c1,.slice a2 n2 c2,.slice a3 n3 c3,.slice a4 n4 c4,.int .i64 n] 83)) (.cells #[.int .u8 6,.slice a1 n1 c1,.slice a2 n2 c2,.slice a3 n3 c3,.slice a4 n4 c4,.int .i64 n] 83);rw [World.size_alloc] at hK;have HKK:=Lib.hid hK;clear hk hins hr hf hK
 go_enter Tryz.func107,Tryz.ntmps107
 go_wp2_with fail
 go_loopw [7,8,9] (fun g s i wr=>wr=(w.alloc (.cells #[.int .u8 6,.slice a1 n1 c1,.slice a2 n2 c2,.slice a3 n3 c3,.slice a4 n4 c4,.int .i64 n] 83)).alloc (.cells #[.int .u8 0,.slice none 0 0,.slice none 0 0,.slice none 0 0,.slice none 0 0,.int .i64 0] 83)∧∃ (k:Nat) (acc:Int),k≤xss.length∧i=.int .i64 k∧((g=.bool true∧s=.int .i64 acc∧Fits acc∧nT 0 (firsts xss)=nT acc ((firsts xss).drop k))∨(g=.bool false∧s=.int .i64 0∧nT 0 (firsts xss)=none))) (fun _ _ i _=>xss.length - (intOf i).toNat)
 case atStart=>exact ⟨rfl,0,0,Nat.zero_le _,rfl,.inl ⟨rfl,rfl,f0,by simp⟩⟩
 case round =>
  obtain ⟨rfl,k,acc,hk,rfl,h⟩:=hrel
  rcases h with ⟨rfl,rfl,fa,hs⟩ | ⟨rfl,rfl,hs⟩
  ·
   have O0:=Lib.hid fa;have HS:=Lib.hid hs;clear fa hs
   by_cases hlt:k < xss.length
   ·
    have dG:(k:Int) < xss.length:=by omega
    obtain ⟨bi,oi,rfl,hci,hrow⟩:=HI.out.at (by omega);obtain ⟨a0,c0,hr0,hh0⟩:=hrow k hlt;have hm:(xss[k]?.getD [])∈xss:=by simp [hlt]
    have hrl:=HR.out _ hm;rw [hrl] at hr0 hh0;obtain ⟨b0,o0,rfl,-,hc0,-,-,hx0⟩:=dn.at hh0 (by rw [aD];omega);have hx1:=hx0 0 (by rw [aD];omega);rw [iy (by omega),Nat.add_zero] at hx1;have EG:(xss.length:Int)≤ic:=by omega
    have QY:(1:Int)≤c0:=by omega
    have hfl:k < (firsts xss).length:=by rw [A8];exact hlt
    have hst:=CV (acc:=acc) hfl;rw [JQ hfl] at hst;have hfx:=HF.out _ hm ((xss[k]?.getD [])[0]?.getD 0) (by
     have:0 < (xss[k]?.getD []).length:=by omega
     simp [this])
    have HST:=Lib.hid hst;have KT:=Lib.hid hfx;clear hst hfx hrow hh0 hx0 hm hrl hfl;generalize (xss[k]?.getD [])[0]?.getD 0=x at *
    go_wp2_with fail
    by_cases hf2:Fits (acc+x)
    ·
     refine (sU _ acc x O0.out KT.out hf2).mono ?_;rintro e w1 ⟨rfl,rfl⟩;have KU:=Lib.hid hf2;clear hf2;go_wp2;go_roundw
     case rel=>exact ⟨by first | rfl | trivial,k+1,acc+x,by omega,by go_num,.inl ⟨rfl,rfl,KU.out,by rw [HS.out,HST.out,if_pos KU.out]⟩⟩
     case measure=>simp [intOf];omega
    ·
     refine (vM _ acc x O0.out KT.out hf2).mono ?_;rintro e w1 ⟨rfl,rfl⟩;have KU:=Lib.hid hf2;clear hf2;go_wp2;go_roundw
     case rel=>exact ⟨by first | rfl | trivial,k+1,0,by omega,by go_num,.inr ⟨rfl,rfl,by rw [HS.out,HST.out,if_neg KU.out]⟩⟩
     case measure=>simp [intOf];omega
   ·
    obtain rfl:k=xss.length:=by omega
    have HP:Hid (Option.map (fun y=>([[y]],keep)) (nT 0 (firsts xss))=some ([[acc]],keep)):=Lib.hid (by
     rw [HS.out,List.drop_of_length_le (by rw [A8];exact Nat.le_refl _)];rfl)
    go_wp2;have hK2:=aK (aK HKK.out (.cells #[.int .i64 acc] 3)) (.cells #[.slice (some ⟨w.heap.size+1+1,0,none⟩) 1 1] 42);refine bodyPost_ret_by (aJ rfl _ _ _ _ _ _ _ rfl hK2 Tryz.underlying83 rfl (by kernel_rfl)) rfl ?_
    rewrite [HP.out]
    exact vP HK.out ((au w _).alloc (by simp) _) (by simp)
  ·
   have HP:Hid (Option.map (fun y=>([[y]],keep)) (nT 0 (firsts xss))=none):=Lib.hid (by rw [hs];rfl);clear hs
   by_cases hlt:k < xss.length
   ·
    have dG:(k:Int) < xss.length:=by omega
    go_wp2;refine bodyPost_ret_by (aJ rfl _ _ _ _ _ _ _ rfl HKK.out Tryz.underlying83 rfl (by kernel_rfl)) rfl ?_
    rewrite [HP.out]
    exact ⟨rfl,(au w _).alloc (by simp) _⟩
   ·
    obtain rfl:k=xss.length:=by omega
    go_wp2;refine bodyPost_ret_by (aJ rfl _ _ _ _ _ _ _ rfl HKK.out Tryz.underlying83 rfl (by kernel_rfl)) rfl ?_
    rewrite [HP.out]
    exact ⟨rfl,(au w _).alloc (by simp) _⟩
theorem pK {w W w3 w4:World}{o:Col}{c:Nat}{t n:Int}{vp vi vo vk Dx ov:Value}{keep':List Int}{outs:List (List Int)}(hbW:Below w.heap.size w W)(hWs:W.heap.size=w.heap.size+2)(hb3:Below W.heap.size W w3)
  (hk:Ints w3 (ext (ext o w.heap.size (c+1)) W.heap.size c) c Dx keep') (ho:uV w3 (ext (ext o w.heap.size (c+1)) W.heap.size c) c ov outs) (hM:aI (fun k=>k=w.heap.size+1) w3 w4) :
  dL w o c t vp vi vo vk n (some (outs,keep')) (.returned (.tuple #[.agg #[.int .u8 t,vp,vi,vo,Dx,.int .i64 n],ov,.int .i64 0])) w4:=by
 have hb:=hbW.trans (hb3.mono hbW.size);have hB:Below w.heap.size w w4:=hb.trans (hM.below hb.size (fun k hk e=>by omega));have T:Turn (ext (ext o w.heap.size (c+1)) W.heap.size c) (ext (ext o w.heap.size (c+1)) W.heap.size c) (fun x=>x=c+1) w3 w4:=⟨hM.mono (fun k _ e=>by
  subst e;rw [bX (by omega),aW (by omega)]),fun _ _=>rfl⟩
 have hc:∀ k,k < w4.heap.size→ext (ext o w.heap.size (c+1)) W.heap.size c k=c→ext o w.heap.size c k=c:=fun k _ e=>by
  by_cases h:k < w.heap.size
  ·
   rw [bX (by omega),bX h] at e;rw [bX h];exact e
  ·
   exact aW (by omega)
 exact ⟨ov,Dx,rfl,(hk.turn T (by omega)).dS hc,(ho.turn T (by omega)).dS hc,hB⟩
theorem kW {w W w3 w4:World}{o:Col}{c:Nat}{t n:Int}{vp vi vo vk:Value}(hbW:Below w.heap.size w W)(hb3:Below W.heap.size W w3)(hM:aI (fun k=>k=w.heap.size+1) w3 w4) :
  dL w o c t vp vi vo vk n none (.returned (.tuple #[.agg #[.int .u8 t,vp,vi,vo,vk,.int .i64 n],.slice none 0 0,.int .i64 70])) w4:=by
 have hb:=hbW.trans (hb3.mono hbW.size);exact ⟨rfl,hb.trans (hM.below hb.size (fun k hk e=>by omega))⟩
theorem GN (w:World)(o:Col)(c:Nat)(a1 a2 a3 a4:Option Addr)(n1 n2 n3 n4 c1 c2 c3 c4:Nat)(ia:Option Addr)(il ic:Nat)(n:Int)(r:Option (List (List Int) × List Int))
  (hc:∀ W,Below w.heap.size w W→Calls Tryz.prog 107 #[.agg #[.int .u8 6,.slice a1 n1 c1,.slice a2 n2 c2,.slice a3 n3 c3,.slice a4 n4 c4,.int .i64 n],.slice ia il ic] W (dL W (ext o w.heap.size (c+1)) c 6 (.slice a1 n1 c1) (.slice a2 n2 c2) (.slice a3 n3 c3) (.slice a4 n4 c4) n r)) :
  Calls Tryz.prog 103 #[.agg #[.int .u8 6,.slice a1 n1 c1,.slice a2 n2 c2,.slice a3 n3 c3,.slice a4 n4 c4,.int .i64 n],.slice ia il ic] w (dL w o c 6 (.slice a1 n1 c1) (.slice a2 n2 c2) (.slice a3 n3 c3) (.slice a4 n4 c4) n r):=by
 have HC:=Lib.hid hc;clear hc;obtain ⟨A,hA⟩:∃ A,A=Obj.cells #[.int .u8 6,.slice a1 n1 c1,.slice a2 n2 c2,.slice a3 n3 c3,.slice a4 n4 c4,.int .i64 n] 83:=⟨_,rfl⟩
 obtain ⟨B,hB⟩:∃ B,B=Obj.cells #[.int .u8 0,.slice none 0 0,.slice none 0 0,.slice none 0 0,.slice none 0 0,.int .i64 0] 83:=⟨_,rfl⟩
 have hbW:Below w.heap.size w ((w.alloc A).alloc B):=(au w _).alloc (by simp) _;have hB0:=heap_alloc_new (w.alloc A) B;rw [World.size_alloc] at hB0;subst hA hB;have dP:=Lib.hid hbW;have HB0:=Lib.hid hB0;clear hbW hB0
 rcases r with _ | ⟨outs,keep'⟩
 ·
  go_enter Tryz.func103,Tryz.ntmps103
  go_wp2_with fail
  refine (HC.out _ dP.out).mono ?_;rintro e w3 ⟨rfl,hb3⟩;have bf:=aT HB0.out (aI.of_below hb3 (fun _=>False)) (fun h=>h);have q0:=ah _ _ bf 0 _ rfl;have q1:=ah _ _ bf 1 _ rfl;have q2:=ah _ _ bf 2 _ rfl;have q3:=ah _ _ bf 3 _ rfl;have q4:=ah _ _ bf 4 _ rfl;have q5:=ah _ _ bf 5 _ rfl;have r0:=aj bf 0;have r1:=aj bf 1;have r2:=aj bf 2;have r3:=aj bf 3;have r4:=aj bf 4;have r5:=aj bf 5;have HB3:=Lib.hid hb3;have fU:=Lib.hid bf;clear hb3 bf;go_wp2;have bf:=fU.out;have hK:=block_setCell (block_setCell (block_setCell (block_setCell (block_setCell (block_setCell bf 0 (.int .u8 6)) 1 (.slice a1 n1 c1)) 2 (.slice a2 n2 c2)) 3 (.slice a3 n3 c3)) 4 (.slice a4 n4 c4)) 5 (.int .i64 n);refine bodyPost_ret_by (aJ rfl _ _ _ _ _ _ _ rfl hK Tryz.underlying83 rfl (by kernel_rfl)) rfl ?_;exact kW dP.out HB3.out (kV (aI.refl _ _) rfl)
 ·
  go_enter Tryz.func103,Tryz.ntmps103
  go_wp2_with fail
  refine (HC.out _ dP.out).mono ?_;rintro e w3 ⟨ov,Dx,rfl,hk',ho,hb3⟩;obtain ⟨ak,ck,rfl⟩:=hk'.slice;obtain ⟨ao,co,rfl⟩:=ho.ll.slice;have bf:=aT HB0.out (aI.of_below hb3 (fun _=>False)) (fun h=>h);have q0:=ah _ _ bf 0 _ rfl;have q1:=ah _ _ bf 1 _ rfl;have q2:=ah _ _ bf 2 _ rfl;have q3:=ah _ _ bf 3 _ rfl;have q4:=ah _ _ bf 4 _ rfl;have q5:=ah _ _ bf 5 _ rfl;have r0:=aj bf 0;have r1:=aj bf 1;have r2:=aj bf 2;have r3:=aj bf 3;have r4:=aj bf 4;have r5:=aj bf 5;have HB3:=Lib.hid hb3;have fU:=Lib.hid bf;have A9:=Lib.hid hk';have HO:=Lib.hid ho;clear hb3 bf hk' ho;go_wp2;have bf:=fU.out;have hK:=block_setCell (block_setCell (block_setCell (block_setCell (block_setCell (block_setCell bf 0 (.int .u8 6)) 1 (.slice a1 n1 c1)) 2 (.slice a2 n2 c2)) 3 (.slice a3 n3 c3)) 4 (.slice ak keep'.length ck)) 5 (.int .i64 n);refine bodyPost_ret_by (aJ rfl _ _ _ _ _ _ _ rfl hK Tryz.underlying83 rfl (by kernel_rfl)) rfl ?_;exact pK dP.out (by simp) HB3.out A9.out HO.out (kV (aI.refl _ _) rfl)
theorem GQ (w:World)(o:Col)(c:Nat)(a1 a2 a3 a4:Option Addr)(n1 n2 n3 n4 c1 c2 c3 c4:Nat)(ia:Option Addr)(il ic:Nat)(n:Int)(r:Option (List (List Int) × List Int))
  (hc:∀ W,Below w.heap.size w W→Calls Tryz.prog 107 #[.agg #[.int .u8 7,.slice a1 n1 c1,.slice a2 n2 c2,.slice a3 n3 c3,.slice a4 n4 c4,.int .i64 n],.slice ia il ic] W (dL W (ext o w.heap.size (c+1)) c 7 (.slice a1 n1 c1) (.slice a2 n2 c2) (.slice a3 n3 c3) (.slice a4 n4 c4) n r)) :
  Calls Tryz.prog 103 #[.agg #[.int .u8 7,.slice a1 n1 c1,.slice a2 n2 c2,.slice a3 n3 c3,.slice a4 n4 c4,.int .i64 n],.slice ia il ic] w (dL w o c 7 (.slice a1 n1 c1) (.slice a2 n2 c2) (.slice a3 n3 c3) (.slice a4 n4 c4) n r):=by
 have HC:=Lib.hid hc;clear hc;obtain ⟨A,hA⟩:∃ A,A=Obj.cells #[.int .u8 7,.slice a1 n1 c1,.slice a2 n2 c2,.slice a3 n3 c3,.slice a4 n4 c4,.int .i64 n] 83:=⟨_,rfl⟩
 obtain ⟨B,hB⟩:∃ B,B=Obj.cells #[.int .u8 0,.slice none 0 0,.slice none 0 0,.slice none 0 0,.slice none 0 0,.int .i64 0] 83:=⟨_,rfl⟩
 have hbW:Below w.heap.size w ((w.alloc A).alloc B):=(au w _).alloc (by simp) _;have hB0:=heap_alloc_new (w.alloc A) B;rw [World.size_alloc] at hB0;subst hA hB;have dP:=Lib.hid hbW;have HB0:=Lib.hid hB0;clear hbW hB0
 rcases r with _ | ⟨outs,keep'⟩
 ·
  go_enter Tryz.func103,Tryz.ntmps103
  go_wp2_with fail
  refine (HC.out _ dP.out).mono ?_;rintro e w3 ⟨rfl,hb3⟩;have bf:=aT HB0.out (aI.of_below hb3 (fun _=>False)) (fun h=>h);have q0:=ah _ _ bf 0 _ rfl;have q1:=ah _ _ bf 1 _ rfl;have q2:=ah _ _ bf 2 _ rfl;have q3:=ah _ _ bf 3 _ rfl;have q4:=ah _ _ bf 4 _ rfl;have q5:=ah _ _ bf 5 _ rfl;have r0:=aj bf 0;have r1:=aj bf 1;have r2:=aj bf 2;have r3:=aj bf 3;have r4:=aj bf 4;have r5:=aj bf 5;have HB3:=Lib.hid hb3;have fU:=Lib.hid bf;clear hb3 bf;go_wp2;have bf:=fU.out;have hK:=block_setCell (block_setCell (block_setCell (block_setCell (block_setCell (block_setCell bf 0 (.int .u8 7)) 1 (.slice a1 n1 c1)) 2 (.slice a2 n2 c2)) 3 (.slice a3 n3 c3)) 4 (.slice a4 n4 c4)) 5 (.int .i64 n);refine bodyPost_ret_by (aJ rfl _ _ _ _ _ _ _ rfl hK Tryz.underlying83 rfl (by kernel_rfl)) rfl ?_;exact kW dP.out HB3.out (kV (aI.refl _ _) rfl)
 ·
  go_enter Tryz.func103,Tryz.ntmps103
  go_wp2_with fail
  refine (HC.out _ dP.out).mono ?_;rintro e w3 ⟨ov,Dx,rfl,hk',ho,hb3⟩;obtain ⟨ak,ck,rfl⟩:=hk'.slice;obtain ⟨ao,co,rfl⟩:=ho.ll.slice;have bf:=aT HB0.out (aI.of_below hb3 (fun _=>False)) (fun h=>h);have q0:=ah _ _ bf 0 _ rfl;have q1:=ah _ _ bf 1 _ rfl;have q2:=ah _ _ bf 2 _ rfl;have q3:=ah _ _ bf 3 _ rfl;have q4:=ah _ _ bf 4 _ rfl;have q5:=ah _ _ bf 5 _ rfl;have r0:=aj bf 0;have r1:=aj bf 1;have r2:=aj bf 2;have r3:=aj bf 3;have r4:=aj bf 4;have r5:=aj bf 5;have HB3:=Lib.hid hb3;have fU:=Lib.hid bf;have A9:=Lib.hid hk';have HO:=Lib.hid ho;clear hb3 bf hk' ho;go_wp2;have bf:=fU.out;have hK:=block_setCell (block_setCell (block_setCell (block_setCell (block_setCell (block_setCell bf 0 (.int .u8 7)) 1 (.slice a1 n1 c1)) 2 (.slice a2 n2 c2)) 3 (.slice a3 n3 c3)) 4 (.slice ak keep'.length ck)) 5 (.int .i64 n);refine bodyPost_ret_by (aJ rfl _ _ _ _ _ _ _ rfl hK Tryz.underlying83 rfl (by kernel_rfl)) rfl ?_;exact pK dP.out (by simp) HB3.out A9.out HO.out (kV (aI.refl _ _) rfl)
theorem GU (w:World)(o:Col)(c:Nat)(a1 a2 a3 a4:Option Addr)(n1 n2 n3 n4 c1 c2 c3 c4:Nat)(ia:Option Addr)(il ic:Nat)(n:Int)(r:Option (List (List Int) × List Int))
  (hc:∀ W,Below w.heap.size w W→Calls Tryz.prog 107 #[.agg #[.int .u8 8,.slice a1 n1 c1,.slice a2 n2 c2,.slice a3 n3 c3,.slice a4 n4 c4,.int .i64 n],.slice ia il ic] W (dL W (ext o w.heap.size (c+1)) c 8 (.slice a1 n1 c1) (.slice a2 n2 c2) (.slice a3 n3 c3) (.slice a4 n4 c4) n r)) :
  Calls Tryz.prog 103 #[.agg #[.int .u8 8,.slice a1 n1 c1,.slice a2 n2 c2,.slice a3 n3 c3,.slice a4 n4 c4,.int .i64 n],.slice ia il ic] w (dL w o c 8 (.slice a1 n1 c1) (.slice a2 n2 c2) (.slice a3 n3 c3) (.slice a4 n4 c4) n r):=by
 have HC:=Lib.hid hc;clear hc;obtain ⟨A,hA⟩:∃ A,A=Obj.cells #[.int .u8 8,.slice a1 n1 c1,.slice a2 n2 c2,.slice a3 n3 c3,.slice a4 n4 c4,.int .i64 n] 83:=⟨_,rfl⟩
 obtain ⟨B,hB⟩:∃ B,B=Obj.cells #[.int .u8 0,.slice none 0 0,.slice none 0 0,.slice none 0 0,.slice none 0 0,.int .i64 0] 83:=⟨_,rfl⟩
 have hbW:Below w.heap.size w ((w.alloc A).alloc B):=(au w _).alloc (by simp) _;have hB0:=heap_alloc_new (w.alloc A) B;rw [World.size_alloc] at hB0;subst hA hB;have dP:=Lib.hid hbW;have HB0:=Lib.hid hB0;clear hbW hB0
 rcases r with _ | ⟨outs,keep'⟩
 ·
  go_enter Tryz.func103,Tryz.ntmps103
  go_wp2_with fail
  refine (HC.out _ dP.out).mono ?_;rintro e w3 ⟨rfl,hb3⟩;have bf:=aT HB0.out (aI.of_below hb3 (fun _=>False)) (fun h=>h);have q0:=ah _ _ bf 0 _ rfl;have q1:=ah _ _ bf 1 _ rfl;have q2:=ah _ _ bf 2 _ rfl;have q3:=ah _ _ bf 3 _ rfl;have q4:=ah _ _ bf 4 _ rfl;have q5:=ah _ _ bf 5 _ rfl;have r0:=aj bf 0;have r1:=aj bf 1;have r2:=aj bf 2;have r3:=aj bf 3;have r4:=aj bf 4;have r5:=aj bf 5;have HB3:=Lib.hid hb3;have fU:=Lib.hid bf;clear hb3 bf;go_wp2;have bf:=fU.out;have hK:=block_setCell (block_setCell (block_setCell (block_setCell (block_setCell (block_setCell bf 0 (.int .u8 8)) 1 (.slice a1 n1 c1)) 2 (.slice a2 n2 c2)) 3 (.slice a3 n3 c3)) 4 (.slice a4 n4 c4)) 5 (.int .i64 n);refine bodyPost_ret_by (aJ rfl _ _ _ _ _ _ _ rfl hK Tryz.underlying83 rfl (by kernel_rfl)) rfl ?_;exact kW dP.out HB3.out (kV (aI.refl _ _) rfl)
 ·
  go_enter Tryz.func103,Tryz.ntmps103
  go_wp2_with fail
  refine (HC.out _ dP.out).mono ?_;rintro e w3 ⟨ov,Dx,rfl,hk',ho,hb3⟩;obtain ⟨ak,ck,rfl⟩:=hk'.slice;obtain ⟨ao,co,rfl⟩:=ho.ll.slice;have bf:=aT HB0.out (aI.of_below hb3 (fun _=>False)) (fun h=>h);have q0:=ah _ _ bf 0 _ rfl;have q1:=ah _ _ bf 1 _ rfl;have q2:=ah _ _ bf 2 _ rfl;have q3:=ah _ _ bf 3 _ rfl;have q4:=ah _ _ bf 4 _ rfl;have q5:=ah _ _ bf 5 _ rfl;have r0:=aj bf 0;have r1:=aj bf 1;have r2:=aj bf 2;have r3:=aj bf 3;have r4:=aj bf 4;have r5:=aj bf 5;have HB3:=Lib.hid hb3;have fU:=Lib.hid bf;have A9:=Lib.hid hk';have HO:=Lib.hid ho;clear hb3 bf hk' ho;go_wp2;have bf:=fU.out;have hK:=block_setCell (block_setCell (block_setCell (block_setCell (block_setCell (block_setCell bf 0 (.int .u8 8)) 1 (.slice a1 n1 c1)) 2 (.slice a2 n2 c2)) 3 (.slice a3 n3 c3)) 4 (.slice ak keep'.length ck)) 5 (.int .i64 n);refine bodyPost_ret_by (aJ rfl _ _ _ _ _ _ _ rfl hK Tryz.underlying83 rfl (by kernel_rfl)) rfl ?_;exact pK dP.out (by simp) HB3.out A9.out HO.out (kV (aI.refl _ _) rfl)
theorem EI (w:World)(o:Col)(c:Nat)(a1 a2 a3 a4:Option Addr)(n1 n2 n3 n4 c1 c2 c3 c4:Nat)(ia:Option Addr)(il ic:Nat)(n:Int)(r:Option (List (List Int) × List Int))
  (hc:∀ W,Below w.heap.size w W→Calls Tryz.prog 107 #[.agg #[.int .u8 10,.slice a1 n1 c1,.slice a2 n2 c2,.slice a3 n3 c3,.slice a4 n4 c4,.int .i64 n],.slice ia il ic] W (dL W (ext o w.heap.size (c+1)) c 10 (.slice a1 n1 c1) (.slice a2 n2 c2) (.slice a3 n3 c3) (.slice a4 n4 c4) n r)) :
  Calls Tryz.prog 103 #[.agg #[.int .u8 10,.slice a1 n1 c1,.slice a2 n2 c2,.slice a3 n3 c3,.slice a4 n4 c4,.int .i64 n],.slice ia il ic] w (dL w o c 10 (.slice a1 n1 c1) (.slice a2 n2 c2) (.slice a3 n3 c3) (.slice a4 n4 c4) n r):=by
 have HC:=Lib.hid hc;clear hc;obtain ⟨A,hA⟩:∃ A,A=Obj.cells #[.int .u8 10,.slice a1 n1 c1,.slice a2 n2 c2,.slice a3 n3 c3,.slice a4 n4 c4,.int .i64 n] 83:=⟨_,rfl⟩
 obtain ⟨B,hB⟩:∃ B,B=Obj.cells #[.int .u8 0,.slice none 0 0,.slice none 0 0,.slice none 0 0,.slice none 0 0,.int .i64 0] 83:=⟨_,rfl⟩
 have hbW:Below w.heap.size w ((w.alloc A).alloc B):=(au w _).alloc (by simp) _;have hB0:=heap_alloc_new (w.alloc A) B;rw [World.size_alloc] at hB0;subst hA hB;have dP:=Lib.hid hbW;have HB0:=Lib.hid hB0;clear hbW hB0
 rcases r with _ | ⟨outs,keep'⟩
 ·
  go_enter Tryz.func103,Tryz.ntmps103
  go_wp2_with fail
  refine (HC.out _ dP.out).mono ?_;rintro e w3 ⟨rfl,hb3⟩;have bf:=aT HB0.out (aI.of_below hb3 (fun _=>False)) (fun h=>h);have q0:=ah _ _ bf 0 _ rfl;have q1:=ah _ _ bf 1 _ rfl;have q2:=ah _ _ bf 2 _ rfl;have q3:=ah _ _ bf 3 _ rfl;have q4:=ah _ _ bf 4 _ rfl;have q5:=ah _ _ bf 5 _ rfl;have r0:=aj bf 0;have r1:=aj bf 1;have r2:=aj bf 2;have r3:=aj bf 3;have r4:=aj bf 4;have r5:=aj bf 5;have HB3:=Lib.hid hb3;have fU:=Lib.hid bf;clear hb3 bf;go_wp2;have bf:=fU.out;have hK:=block_setCell (block_setCell (block_setCell (block_setCell (block_setCell (block_setCell bf 0 (.int .u8 10)) 1 (.slice a1 n1 c1)) 2 (.slice a2 n2 c2)) 3 (.slice a3 n3 c3)) 4 (.slice a4 n4 c4)) 5 (.int .i64 n);refine bodyPost_ret_by (aJ rfl _ _ _ _ _ _ _ rfl hK Tryz.underlying83 rfl (by kernel_rfl)) rfl ?_;exact kW dP.out HB3.out (kV (aI.refl _ _) rfl)
 ·
  go_enter Tryz.func103,Tryz.ntmps103
  go_wp2_with fail
  refine (HC.out _ dP.out).mono ?_;rintro e w3 ⟨ov,Dx,rfl,hk',ho,hb3⟩;obtain ⟨ak,ck,rfl⟩:=hk'.slice;obtain ⟨ao,co,rfl⟩:=ho.ll.slice;have bf:=aT HB0.out (aI.of_below hb3 (fun _=>False)) (fun h=>h);have q0:=ah _ _ bf 0 _ rfl;have q1:=ah _ _ bf 1 _ rfl;have q2:=ah _ _ bf 2 _ rfl;have q3:=ah _ _ bf 3 _ rfl;have q4:=ah _ _ bf 4 _ rfl;have q5:=ah _ _ bf 5 _ rfl;have r0:=aj bf 0;have r1:=aj bf 1;have r2:=aj bf 2;have r3:=aj bf 3;have r4:=aj bf 4;have r5:=aj bf 5;have HB3:=Lib.hid hb3;have fU:=Lib.hid bf;have A9:=Lib.hid hk';have HO:=Lib.hid ho;clear hb3 bf hk' ho;go_wp2;have bf:=fU.out;have hK:=block_setCell (block_setCell (block_setCell (block_setCell (block_setCell (block_setCell bf 0 (.int .u8 10)) 1 (.slice a1 n1 c1)) 2 (.slice a2 n2 c2)) 3 (.slice a3 n3 c3)) 4 (.slice ak keep'.length ck)) 5 (.int .i64 n);refine bodyPost_ret_by (aJ rfl _ _ _ _ _ _ _ rfl hK Tryz.underlying83 rfl (by kernel_rfl)) rfl ?_;exact pK dP.out (by simp) HB3.out A9.out HO.out (kV (aI.refl _ _) rfl)
end Go.Proofs.YtpdlngonocancaaGreat
