/- What is proved here: the contracts of the four rules, of rules and of why of layer 3. Conditions: the town is looked at; two of its mentions. -/
import Derived.Test.YtklconegomgjaaaGreatPeAlikeG
import Derived.Test.YtklconegomgjaaaGreatPeNumG
import Derived.DeepKeys
set_option linter.all false
set_option maxRecDepth 100000
set_option maxHeartbeats 16000000
namespace Go.Proofs.YtklconegomgjaaaGreat
section
open Go Go.RowKit Go.Shelf
theorem PeOk.sp {t:PeW} (h:PeOk t) {i:Nat} (hi:i<t.ments.length):t.ments[i].spell=(spOf t i:Int)∧spOf t i<t.ear.spells.length:=by
 have:=h.ment i hi
 unfold spOf
 rw[Zba hi]
 omega
theorem Zkg {W:World} {a3:Option Addr} {l:List PeM} (h:Zb5 W a3 l) {a b:Nat} (ha:a<l.length) (hb:b<l.length):∃p off,a3=some ⟨p,off,none⟩∧p<W.heap.size∧
  (W.cell? ⟨p,off+a*5,none⟩=some (.int .i64 l[a].spell)∧W.cell? ⟨p,off+a*5+1,none⟩=some (.int .i64 l[a].vill)∧W.cell? ⟨p,off+a*5+2,none⟩=some (.int .i64 l[a].lo)∧W.cell? ⟨p,off+a*5+3,none⟩=some (.int .i64 l[a].hi)∧W.cell? ⟨p,off+a*5+4,none⟩=some (.int .i64 l[a].par))∧
  (W.cell? ⟨p,off+b*5,none⟩=some (.int .i64 l[b].spell)∧W.cell? ⟨p,off+b*5+1,none⟩=some (.int .i64 l[b].vill)∧W.cell? ⟨p,off+b*5+2,none⟩=some (.int .i64 l[b].lo)∧W.cell? ⟨p,off+b*5+3,none⟩=some (.int .i64 l[b].hi)∧W.cell? ⟨p,off+b*5+4,none⟩=some (.int .i64 l[b].par)):=by
 obtain⟨p,off,e,h1,h2⟩:=h a ha
 obtain⟨p',off',e',h1',h2'⟩:=h b hb
 rw[e] at e'
 cases e'
 exact⟨p,off,e,h1,h2,h2'⟩
theorem Z0f (a1 a2 a3 a4:Option Addr) (k1 k2 k3 k4:Nat) (t:PeW) (bt bc bk but a b:Nat) (w:World) (hm:TownW w bt bc bk a1 a2 a3 a4 k1 k2 k3 k4 t but) (hv:PeOk t) (ha:a<t.ments.length) (hb:b<t.ments.length):
  Calls Tryz.prog 136 #[.pointer (some ⟨bt,0,none⟩),.int .i64 (a:Int),.int .i64 (b:Int)] w fun e w'=>e=.returned (.bool (!Zc0 t (2^spOf t a|||2^spOf t b)))∧Lrn bc bk w w'∧TownW w' bt bc bk a1 a2 a3 a4 k1 k2 k3 k4 t but:=by
 obtain⟨sa,sa2⟩:=hv.sp ha
 obtain⟨sb,sb2⟩:=hv.sp hb
 have hns:=hv.ear.ns
 have AL:=LH (fun(V:World) (hV:Below w.heap.size w V)=>Zpb a1 a2 a3 a4 k1 k2 k3 k4 t bt bc bk but (2^spOf t a|||2^spOf t b) V (hm.below hV) hv (Nat.or_lt_two_pow (Zuw sa2) (Zuw sb2)) (fun e=>by
  have:=Nat.two_pow_pos (spOf t a)
  have h2:2^spOf t a≤2^spOf t a|||2^spOf t b:=Nat.left_le_or
  omega))
 have hor:=Z85 (spOf t a) (by omega) (spOf t b) (by omega)
 have hwa:=Zhw (spOf t a) (by omega)
 have hwb:=Zhw (spOf t b) (by omega)
 obtain⟨p,off,hae,hp,⟨m0,-⟩,n0,-⟩:=Zkg hm.town.ments ha hb
 rw[sa] at m0
 rw[sb] at n0
 generalize Zc0 t (2^spOf t a|||2^spOf t b)=r at AL ⊢
 generalize spOf t a=x at hwa hor m0 AL sa2
 generalize spOf t b=y at hwb hor n0 AL sb2
 have hx64:(x:Int)<64:=by omega
 have hy64:(y:Int)<64:=by omega
 have haI:(a:Int)<(t.ments.length:Int):=by omega
 have hbI:(b:Int)<(t.ments.length:Int):=by omega
 have ha0:(0:Int)≤(a:Int):=by omega
 have hb0:(0:Int)≤(b:Int):=by omega
 obtain⟨-,-,-,-,y4,-,-,-,-,yz⟩:=hm.cells
 rw[hae] at y4
 have KE:=LH (fun(V:World) (hb:Zen w V)=>(show V.cell? ⟨bt,4,none⟩=some (.slice (some ⟨p,off,none⟩) t.ments.length k3)∧V.cell? ⟨p,off+a*5,none⟩=some (.int .i64 (x:Int))∧V.cell? ⟨p,off+b*5,none⟩=some (.int .i64 (y:Int))∧bt<V.heap.size∧p<V.heap.size from⟨hb.2 _ _ y4,hb.2 _ _ m0,hb.2 _ _ n0,Nat.lt_of_lt_of_le yz hb.1,Nat.lt_of_lt_of_le hp hb.1⟩))
 have hg0:Below w.heap.size w w.drew:=Zah (Below.refl _ _)
 have hk0:Zen w w.drew:=.of_below hg0
 have HK:=LH (hm.below hg0)
 clear hm hv sa sb y4 m0 n0 ha hb hns
 go_enter Tryz.func136,Tryz.ntmps136
 go_upto_region 1 with(fail)
 (focus go_region_held3 (fun V=>V.cell? ⟨bt,4,none⟩=some (.slice (some ⟨p,off,none⟩) t.ments.length k3)∧V.cell? ⟨p,off+a*5,none⟩=some (.int .i64 (x:Int))∧V.cell? ⟨p,off+b*5,none⟩=some (.int .i64 (y:Int))∧bt<V.heap.size∧p<V.heap.size) (first|exact KE.out _ hk1|exact KE.out _ hk0) (first
  |(go_at_call 137;refine(AL.out _ hg0).mono ?_;rintro e w2 ⟨rfl,hl2,ht2⟩;have hk1:=hk0.trans (hl2.keeps HK.out);dsimp only)))
 all_goals
  go_wp2
  go_ret
  exact⟨rfl,(Lrn.of_below hg0).trans hl2,ht2⟩
def Z4r (t:PeW) (a b:Nat):Bool:=decide ((Zal t a).vill≠(Zal t b).vill∧(Zal t a).vill≠-1∧(Zal t b).vill≠-1)
def Z50 (t:PeW) (a b:Nat):Bool:=decide (min (Zal t a).hi (Zal t b).hi<max (Zal t a).lo (Zal t b).lo)
def Z5d (t:PeW) (a b:Nat):Bool:=decide ((Zal t a).par=b∨(Zal t b).par=a)
theorem Zzi (a1 a2 a3 a4:Option Addr) (k1 k2 k3 k4:Nat) (t:PeW) (bt bc bk but a b:Nat) (w:World) (hm:TownW w bt bc bk a1 a2 a3 a4 k1 k2 k3 k4 t but) (ha:a<t.ments.length) (hb:b<t.ments.length):
  Calls Tryz.prog 138 #[.pointer (some ⟨bt,0,none⟩),.int .i64 (a:Int),.int .i64 (b:Int)] w fun e w'=>e=.returned (.bool (Z4r t a b))∧Below w.heap.size w w':=by
 obtain⟨p,off,hae,hp,⟨-,m0,-⟩,-,n0,-⟩:=Zkg hm.town.ments ha hb
 unfold Z4r
 rw[Zba ha,Zba hb]
 generalize t.ments[a].vill=x at *
 generalize t.ments[b].vill=y at *
 have haI:(a:Int)<(t.ments.length:Int):=by omega
 have hbI:(b:Int)<(t.ments.length:Int):=by omega
 have ha0:(0:Int)≤(a:Int):=by omega
 have hb0:(0:Int)≤(b:Int):=by omega
 obtain⟨-,-,-,-,y4,-,-,-,-,yz⟩:=hm.cells
 rw[hae] at y4
 clear hm ha hb
 by_cases h1:x=y
 ·have e1:(x != y)=false:=by simp[h1]
  go_enter Tryz.func138,Tryz.ntmps138
  go_upto_region 1 with(fail)
  go_quiet (fail)
  have hbd:Below w.heap.size w (w.drewN nq):=Zan (Below.refl _ _) _
  clear y4 m0 n0 yz hp
  go_wp2
  go_ret
  exact⟨Zaq (by simp[h1]),hbd⟩
 ·have e1:(x != y)=true:=by simpa using h1
  by_cases h2:x=-1
  ·have e2:(x != -1)=false:=by simp[h2]
   go_enter Tryz.func138,Tryz.ntmps138
   go_upto_region 1 with(fail)
   go_quiet (fail)
   have hbd:Below w.heap.size w (w.drewN nq):=Zan (Below.refl _ _) _
   clear y4 m0 n0 yz hp
   go_wp2
   go_ret
   exact⟨Zaq (by simp[h2]),hbd⟩
  ·have e2:(x != -1)=true:=by simpa using h2
   have e3:decide (x≠y∧x≠-1∧y≠-1)=(y != -1):=by rw[Bool.eq_iff_iff];simp[h1,h2]
   rw[e3]
   go_enter Tryz.func138,Tryz.ntmps138
   go_upto_region 1 with(fail)
   go_quiet (fail)
   have hbd:Below w.heap.size w (w.drewN nq):=Zan (Below.refl _ _) _
   clear y4 m0 n0 yz hp
   go_wp2
   go_ret
   exact⟨rfl,hbd⟩
theorem Zzq (a1 a2 a3 a4:Option Addr) (k1 k2 k3 k4:Nat) (t:PeW) (bt bc bk but a b:Nat) (w:World) (hm:TownW w bt bc bk a1 a2 a3 a4 k1 k2 k3 k4 t but) (ha:a<t.ments.length) (hb:b<t.ments.length):
  Calls Tryz.prog 140 #[.pointer (some ⟨bt,0,none⟩),.int .i64 (a:Int),.int .i64 (b:Int)] w fun e w'=>e=.returned (.bool (Z5d t a b))∧w'=w:=by
 obtain⟨p,off,hae,hp,⟨-,-,-,-,m0⟩,-,-,-,-,n0⟩:=Zkg hm.town.ments ha hb
 unfold Z5d
 rw[Zba ha,Zba hb]
 generalize t.ments[a].par=x at *
 generalize t.ments[b].par=y at *
 have haI:(a:Int)<(t.ments.length:Int):=by omega
 have hbI:(b:Int)<(t.ments.length:Int):=by omega
 have ha0:(0:Int)≤(a:Int):=by omega
 have hb0:(0:Int)≤(b:Int):=by omega
 obtain⟨-,-,-,-,y4,-,-,-,-,yz⟩:=hm.cells
 rw[hae] at y4
 clear hm ha hb
 by_cases h1:x=(b:Int)
 ·have e1:(x==(b:Int))=true:=by simp[h1]
  go_enter Tryz.func140,Tryz.ntmps140
  go_wp2
  go_ret
  exact⟨Zaq (by simp[h1]),rfl⟩
 ·have e1:(x==(b:Int))=false:=by simpa using h1
  have e3:decide (x=(b:Int)∨y=(a:Int))=(y==(a:Int)):=by rw[Bool.eq_iff_iff];simp[h1]
  rw[e3]
  go_enter Tryz.func140,Tryz.ntmps140
  go_wp2
  go_ret
  exact⟨rfl,rfl⟩
theorem Z0j (a1 a2 a3 a4:Option Addr) (k1 k2 k3 k4:Nat) (t:PeW) (bt bc bk but a b:Nat) (w:World) (hm:TownW w bt bc bk a1 a2 a3 a4 k1 k2 k3 k4 t but) (ha:a<t.ments.length) (hb:b<t.ments.length):
  Calls Tryz.prog 139 #[.pointer (some ⟨bt,0,none⟩),.int .i64 (a:Int),.int .i64 (b:Int)] w fun e w'=>e=.returned (.bool (Z50 t a b))∧Below w.heap.size w w':=by
 obtain⟨p,off,hae,hp,⟨-,-,m2,m3,-⟩,-,-,n2,n3,-⟩:=Zkg hm.town.ments ha hb
 unfold Z50
 rw[Zba ha,Zba hb]
 generalize t.ments[a].lo=x at *
 generalize t.ments[b].lo=y at *
 generalize t.ments[a].hi=u at *
 generalize t.ments[b].hi=v at *
 have haI:(a:Int)<(t.ments.length:Int):=by omega
 have hbI:(b:Int)<(t.ments.length:Int):=by omega
 have ha0:(0:Int)≤(a:Int):=by omega
 have hb0:(0:Int)≤(b:Int):=by omega
 obtain⟨-,-,-,-,y4,-,-,-,-,yz⟩:=hm.cells
 rw[hae] at y4
 clear hm ha hb
 go_enter Tryz.func139,Tryz.ntmps139
 go_upto_region 1 with(fail)
 (focus go_region)
 all_goals
  clear m2 m3 n2 n3 y4 yz hp
  go_wp2
  all_goals
   go_ret
   exact⟨Zaq (by rw[decide_eq_decide];omega),Zah (((Below.refl _ _).alloc (Nat.le_refl _) _).alloc (by simp) _)⟩
@[reducible] def Znp:Array Value:=#[.int .i64 1,.func (.func 136) #[] #[],.int .i64 2,.func (.func 138) #[] #[],.int .i64 3,.func (.func 139) #[] #[],.int .i64 4,.func (.func 140) #[] #[]]
theorem Z0d (w:World):Calls Tryz.prog 92 #[] w fun e w'=>e=.returned (.slice (some ⟨w.heap.size,0,none⟩) 4 4)∧w'=w.alloc (.cells Znp 171):=by
 go_enter Tryz.func92,Tryz.ntmps92
 go_wp2
 go_ret
 exact⟨rfl,rfl⟩
def Zoi (t:PeW) (a b:Nat):Nat→Bool
 |0=>!Zc0 t (2^spOf t a|||2^spOf t b)
 |1=>Z4r t a b
 |2=>Z50 t a b
 |_=>Z5d t a b
theorem Zic {rb:Nat→Bool} {k:Nat} (h:∀j,j<k→rb j=false) (e:rb k=false):∀j,j<k+1→rb j=false:=fun j hj=>by
 by_cases g:j<k
 ·exact h j g
 ·have e2:j=k:=by omega
  subst e2
  exact e
theorem Z2a (t:PeW) (a b:Nat):whyN t a b=if Zoi t a b 0=true then 1 else if Zoi t a b 1=true then 2 else if Zoi t a b 2=true then 3 else if Zoi t a b 3=true then 4 else 0:=by
 unfold whyN Zoi Z4r Z50 Z5d
 simp only[Bool.not_eq_true',decide_eq_true_eq]
theorem Zwf (a1 a2 a3 a4:Option Addr) (k1 k2 k3 k4:Nat) (t:PeW) (bt bc bk but a b:Nat) (w:World) (hm:TownW w bt bc bk a1 a2 a3 a4 k1 k2 k3 k4 t but) (hv:PeOk t) (ha:a<t.ments.length) (hb:b<t.ments.length):
  Calls Tryz.prog 42 #[.pointer (some ⟨bt,0,none⟩),.int .i64 (a:Int),.int .i64 (b:Int)] w fun e w'=>e=.returned (.int .i64 (whyN t a b))∧Lrn bc bk w w'∧TownW w' bt bc bk a1 a2 a3 a4 k1 k2 k3 k4 t but:=by
 have R1:=LH (fun(V:World) (h:TownW V bt bc bk a1 a2 a3 a4 k1 k2 k3 k4 t but)=>(show Calls Tryz.prog 136 #[.pointer (some ⟨bt,0,none⟩),.int .i64 (a:Int),.int .i64 (b:Int)] V fun e w'=>e=.returned (.bool (Zoi t a b 0))∧Lrn bc bk V w'∧TownW w' bt bc bk a1 a2 a3 a4 k1 k2 k3 k4 t but from Z0f a1 a2 a3 a4 k1 k2 k3 k4 t bt bc bk but a b V h hv ha hb))
 have R2:=LH (fun(V:World) (h:TownW V bt bc bk a1 a2 a3 a4 k1 k2 k3 k4 t but)=>(show Calls Tryz.prog 138 #[.pointer (some ⟨bt,0,none⟩),.int .i64 (a:Int),.int .i64 (b:Int)] V fun e w'=>e=.returned (.bool (Zoi t a b 1))∧Lrn bc bk V w'∧TownW w' bt bc bk a1 a2 a3 a4 k1 k2 k3 k4 t but from(Zzi a1 a2 a3 a4 k1 k2 k3 k4 t bt bc bk but a b V h ha hb).mono fun e w' ⟨h1,h2⟩=>⟨h1,.of_below h2,h.below h2⟩))
 have R3:=LH (fun(V:World) (h:TownW V bt bc bk a1 a2 a3 a4 k1 k2 k3 k4 t but)=>(show Calls Tryz.prog 139 #[.pointer (some ⟨bt,0,none⟩),.int .i64 (a:Int),.int .i64 (b:Int)] V fun e w'=>e=.returned (.bool (Zoi t a b 2))∧Lrn bc bk V w'∧TownW w' bt bc bk a1 a2 a3 a4 k1 k2 k3 k4 t but from(Z0j a1 a2 a3 a4 k1 k2 k3 k4 t bt bc bk but a b V h ha hb).mono fun e w' ⟨h1,h2⟩=>⟨h1,.of_below h2,h.below h2⟩))
 have R4:=LH (fun(V:World) (h:TownW V bt bc bk a1 a2 a3 a4 k1 k2 k3 k4 t but)=>(show Calls Tryz.prog 140 #[.pointer (some ⟨bt,0,none⟩),.int .i64 (a:Int),.int .i64 (b:Int)] V fun e w'=>e=.returned (.bool (Zoi t a b 3))∧Lrn bc bk V w'∧TownW w' bt bc bk a1 a2 a3 a4 k1 k2 k3 k4 t but from(Zzq a1 a2 a3 a4 k1 k2 k3 k4 t bt bc bk but a b V h ha hb).mono fun e w' ⟨h1,h2⟩=>⟨h1,by rw[h2];exact Lrn.refl _ _ _,by rw[h2];exact h⟩))
 have HW:=LH (Z2a t a b)
 generalize whyN t a b=r at HW ⊢
 generalize Zoi t a b=rb at R1 R2 R3 R4 HW
 clear hv ha hb
 go_enter Tryz.func42,Tryz.ntmps42
 go_wp2_with (go_at_call 92;go_must ((with_reducible refine(Z0d _).mono ?_);rintro e w2 ⟨rfl,hw2'⟩;have hw2:=LH hw2';clear hw2';dsimp only))
 have hb2:Below w.heap.size w w2:=by rw[hw2.out];exact(Below.refl _ _).alloc (Nat.le_refl _) _
 have hr2:w2.heap[w.heap.size]?=some (.cells Znp 171 (0,0)):=by rw[hw2.out];exact Zac _ _ rfl
 have hm2:=hm.below hb2
 have hL2:Lrn bc bk w w2:=.of_below hb2
 clear hw2 hm hb2
 go_loopw [11] (fun i wr=>∃k:Nat,k≤4∧i=.int .i64 (k:Int)∧Hid (∀j,j<k→rb j=false)∧wr.heap[w.heap.size]?=some (.cells Znp 171 (0,0))∧TownW wr bt bc bk a1 a2 a3 a4 k1 k2 k3 k4 t but∧Lrn bc bk w wr) (fun i _=>4-(intOf i).toNat)
 case atStart=>exact⟨0,by omega,rfl,LH (fun j h=>absurd h (Nat.not_lt_zero j)),hr2,hm2,hL2⟩
 case round=>
  clear hr2 hm2 hL2
  obtain⟨k,hk,rfl,HR,hr,hm,hL⟩:=hrel
  have HM:=LH hm
  have HL:=LH hL
  have rz:=lt_of_block hr
  have HRB:=LH hr
  have hk5:k=4∨k=0∨k=1∨k=2∨k=3:=by omega
  rcases hk5 with rfl|hk4
  ·clear hr hm hL
   have HE:Hid (r=0):=LH (by rw[HW.out,HR.out 0 (by omega),HR.out 1 (by omega),HR.out 2 (by omega),HR.out 3 (by omega)];rfl)
   go_wp2
   go_ret
   exact⟨by rw[HE.out];rfl,HL.out,HM.out⟩
  ·rcases hk4 with rfl|rfl|rfl|rfl
   ·have c0:=Zaa 0 hr rfl
    have c1:=Zaa 1 hr rfl
    simp only[List.getElem_toArray,List.getElem_cons_zero,List.getElem_cons_succ] at c0 c1
    clear hr hm hL
    have HWK:Hid (rb 0=true→r=1):=LH (fun e=>by rw[HW.out,e];rfl)
    generalize hbb:rb 0=bb at R1 HWK
    have HBB:=LH hbb
    clear hbb
    go_upto_region 4 with(fail)
    obtain⟨V,hV⟩:∃V:World,V=wr.alloc (.cells #[.int .i64 1,.func (.func 136) #[] #[]] 171):=⟨_,rfl⟩
    rw[←hV]
    have hbV:Below wr.heap.size wr V:=by rw[hV];exact(Below.refl _ _).alloc (Nat.le_refl _) _
    have hcV:V.heap[wr.heap.size]?=some (.cells #[.int .i64 1,.func (.func 136) #[] #[]] 171 (0,0)):=by rw[hV];exact Zac _ _ rfl
    have HMV:=LH (HM.out.below hbV)
    have HRV:=LH ((hbV.block _ rz).trans HRB.out)
    have HLV:=LH (HL.out.trans (.of_below hbV))
    have HCV:=LH hcV
    have v0:=Zaa 0 hcV rfl
    have v1:=Zaa 1 hcV rfl
    simp only[List.getElem_toArray,List.getElem_cons_zero,List.getElem_cons_succ] at v0 v1
    have vz:=lt_of_block hcV
    have NU:=LH (R1.out V HMV.out)
    clear hV hbV hcV c0 c1
    cases bb
    ·go_wp2_with (go_at_call 136;go_must ((with_reducible refine NU.out.mono ?_);rintro e w3 ⟨rfl,hl3,ht3⟩;dsimp only))
     go_roundw
     case rel=>exact⟨1,by omega,by go_num,LH (Zic HR.out HBB.out),hl3.cellsB HMV.out HRV.out,ht3,HLV.out.trans hl3⟩
     case measure=>simp[intOf]
    ·have HE:=LH (HWK.out rfl)
     go_upto_region 5 with(go_at_call 136;go_must ((with_reducible refine NU.out.mono ?_);rintro e w3 ⟨rfl,hl3,ht3⟩;dsimp only))
     have hc3:=hl3.cellsB HMV.out HCV.out
     have u0:=Zaa 0 hc3 rfl
     have uz:=lt_of_block hc3
     simp only[List.getElem_toArray,List.getElem_cons_zero] at u0
     clear hc3 v0 v1 vz
     go_wp2
     go_ret
     exact⟨by rw[HE.out];rfl,HLV.out.trans hl3,ht3⟩
   ·have c0:=Zaa 2 hr rfl
    have c1:=Zaa 3 hr rfl
    simp only[List.getElem_toArray,List.getElem_cons_zero,List.getElem_cons_succ] at c0 c1
    clear hr hm hL
    have HWK:Hid (rb 1=true→r=2):=LH (fun e=>by rw[HW.out,HR.out 0 (by omega),e];rfl)
    generalize hbb:rb 1=bb at R2 HWK
    have HBB:=LH hbb
    clear hbb
    go_upto_region 4 with(fail)
    obtain⟨V,hV⟩:∃V:World,V=wr.alloc (.cells #[.int .i64 2,.func (.func 138) #[] #[]] 171):=⟨_,rfl⟩
    rw[←hV]
    have hbV:Below wr.heap.size wr V:=by rw[hV];exact(Below.refl _ _).alloc (Nat.le_refl _) _
    have hcV:V.heap[wr.heap.size]?=some (.cells #[.int .i64 2,.func (.func 138) #[] #[]] 171 (0,0)):=by rw[hV];exact Zac _ _ rfl
    have HMV:=LH (HM.out.below hbV)
    have HRV:=LH ((hbV.block _ rz).trans HRB.out)
    have HLV:=LH (HL.out.trans (.of_below hbV))
    have HCV:=LH hcV
    have v0:=Zaa 0 hcV rfl
    have v1:=Zaa 1 hcV rfl
    simp only[List.getElem_toArray,List.getElem_cons_zero,List.getElem_cons_succ] at v0 v1
    have vz:=lt_of_block hcV
    have NU:=LH (R2.out V HMV.out)
    clear hV hbV hcV c0 c1
    cases bb
    ·go_wp2_with (go_at_call 138;go_must ((with_reducible refine NU.out.mono ?_);rintro e w3 ⟨rfl,hl3,ht3⟩;dsimp only))
     go_roundw
     case rel=>exact⟨2,by omega,by go_num,LH (Zic HR.out HBB.out),hl3.cellsB HMV.out HRV.out,ht3,HLV.out.trans hl3⟩
     case measure=>simp[intOf]
    ·have HE:=LH (HWK.out rfl)
     go_upto_region 5 with(go_at_call 138;go_must ((with_reducible refine NU.out.mono ?_);rintro e w3 ⟨rfl,hl3,ht3⟩;dsimp only))
     have hc3:=hl3.cellsB HMV.out HCV.out
     have u0:=Zaa 0 hc3 rfl
     have uz:=lt_of_block hc3
     simp only[List.getElem_toArray,List.getElem_cons_zero] at u0
     clear hc3 v0 v1 vz
     go_wp2
     go_ret
     exact⟨by rw[HE.out];rfl,HLV.out.trans hl3,ht3⟩
   ·have c0:=Zaa 4 hr rfl
    have c1:=Zaa 5 hr rfl
    simp only[List.getElem_toArray,List.getElem_cons_zero,List.getElem_cons_succ] at c0 c1
    clear hr hm hL
    have HWK:Hid (rb 2=true→r=3):=LH (fun e=>by rw[HW.out,HR.out 0 (by omega),HR.out 1 (by omega),e];rfl)
    generalize hbb:rb 2=bb at R3 HWK
    have HBB:=LH hbb
    clear hbb
    go_upto_region 4 with(fail)
    obtain⟨V,hV⟩:∃V:World,V=wr.alloc (.cells #[.int .i64 3,.func (.func 139) #[] #[]] 171):=⟨_,rfl⟩
    rw[←hV]
    have hbV:Below wr.heap.size wr V:=by rw[hV];exact(Below.refl _ _).alloc (Nat.le_refl _) _
    have hcV:V.heap[wr.heap.size]?=some (.cells #[.int .i64 3,.func (.func 139) #[] #[]] 171 (0,0)):=by rw[hV];exact Zac _ _ rfl
    have HMV:=LH (HM.out.below hbV)
    have HRV:=LH ((hbV.block _ rz).trans HRB.out)
    have HLV:=LH (HL.out.trans (.of_below hbV))
    have HCV:=LH hcV
    have v0:=Zaa 0 hcV rfl
    have v1:=Zaa 1 hcV rfl
    simp only[List.getElem_toArray,List.getElem_cons_zero,List.getElem_cons_succ] at v0 v1
    have vz:=lt_of_block hcV
    have NU:=LH (R3.out V HMV.out)
    clear hV hbV hcV c0 c1
    cases bb
    ·go_wp2_with (go_at_call 139;go_must ((with_reducible refine NU.out.mono ?_);rintro e w3 ⟨rfl,hl3,ht3⟩;dsimp only))
     go_roundw
     case rel=>exact⟨3,by omega,by go_num,LH (Zic HR.out HBB.out),hl3.cellsB HMV.out HRV.out,ht3,HLV.out.trans hl3⟩
     case measure=>simp[intOf]
    ·have HE:=LH (HWK.out rfl)
     go_upto_region 5 with(go_at_call 139;go_must ((with_reducible refine NU.out.mono ?_);rintro e w3 ⟨rfl,hl3,ht3⟩;dsimp only))
     have hc3:=hl3.cellsB HMV.out HCV.out
     have u0:=Zaa 0 hc3 rfl
     have uz:=lt_of_block hc3
     simp only[List.getElem_toArray,List.getElem_cons_zero] at u0
     clear hc3 v0 v1 vz
     go_wp2
     go_ret
     exact⟨by rw[HE.out];rfl,HLV.out.trans hl3,ht3⟩
   ·have c0:=Zaa 6 hr rfl
    have c1:=Zaa 7 hr rfl
    simp only[List.getElem_toArray,List.getElem_cons_zero,List.getElem_cons_succ] at c0 c1
    clear hr hm hL
    have HWK:Hid (rb 3=true→r=4):=LH (fun e=>by rw[HW.out,HR.out 0 (by omega),HR.out 1 (by omega),HR.out 2 (by omega),e];rfl)
    generalize hbb:rb 3=bb at R4 HWK
    have HBB:=LH hbb
    clear hbb
    go_upto_region 4 with(fail)
    obtain⟨V,hV⟩:∃V:World,V=wr.alloc (.cells #[.int .i64 4,.func (.func 140) #[] #[]] 171):=⟨_,rfl⟩
    rw[←hV]
    have hbV:Below wr.heap.size wr V:=by rw[hV];exact(Below.refl _ _).alloc (Nat.le_refl _) _
    have hcV:V.heap[wr.heap.size]?=some (.cells #[.int .i64 4,.func (.func 140) #[] #[]] 171 (0,0)):=by rw[hV];exact Zac _ _ rfl
    have HMV:=LH (HM.out.below hbV)
    have HRV:=LH ((hbV.block _ rz).trans HRB.out)
    have HLV:=LH (HL.out.trans (.of_below hbV))
    have HCV:=LH hcV
    have v0:=Zaa 0 hcV rfl
    have v1:=Zaa 1 hcV rfl
    simp only[List.getElem_toArray,List.getElem_cons_zero,List.getElem_cons_succ] at v0 v1
    have vz:=lt_of_block hcV
    have NU:=LH (R4.out V HMV.out)
    clear hV hbV hcV c0 c1
    cases bb
    ·go_wp2_with (go_at_call 140;go_must ((with_reducible refine NU.out.mono ?_);rintro e w3 ⟨rfl,hl3,ht3⟩;dsimp only))
     go_roundw
     case rel=>exact⟨4,by omega,by go_num,LH (Zic HR.out HBB.out),hl3.cellsB HMV.out HRV.out,ht3,HLV.out.trans hl3⟩
     case measure=>simp[intOf]
    ·have HE:=LH (HWK.out rfl)
     go_upto_region 5 with(go_at_call 140;go_must ((with_reducible refine NU.out.mono ?_);rintro e w3 ⟨rfl,hl3,ht3⟩;dsimp only))
     have hc3:=hl3.cellsB HMV.out HCV.out
     have u0:=Zaa 0 hc3 rfl
     have uz:=lt_of_block hc3
     simp only[List.getElem_toArray,List.getElem_cons_zero] at u0
     clear hc3 v0 v1 vz
     go_wp2
     go_ret
     exact⟨by rw[HE.out];rfl,HLV.out.trans hl3,ht3⟩
end
section
open Go Go.RowKit Go.Shelf
def Sml (x:Int):Prop:=-1000≤x∧x≤1000
theorem Z76 {n:Int} (h:Sml n):(Lit.int .i64 n).wf=true:=by
 unfold Lit.wf
 have e1:IntKind.min .i64=-9223372036854775808:=by decide
 have e2:IntKind.max .i64=9223372036854775807:=by decide
 simp only[e1,e2,Bool.and_eq_true,decide_eq_true_eq]
 have:=h.1
 have:=h.2
 omega
theorem Zeg (m:Nat) {x:Int} (hx:Sml x):Tryz.prog.keyLits (m+1) 3 [.int .i64 x]=some [.int .i64 x]:=by
 have h4:Tryz.prog.underlying 3=some (.int .i64):=by kernel_rfl
 unfold Program.keyLits
 simp only[h4,Z76 hx,and_self,if_true]
theorem Z38 (m:Nat) (x:Bool):Tryz.prog.keyLits (m+1) 4 [.bool x]=some [.bool x]:=by
 have h4:Tryz.prog.underlying 4=some .bool:=by kernel_rfl
 unfold Program.keyLits
 simp only[h4]
theorem Ztz (n:Nat) {a b:Int} (ha:Sml a) (hb:Sml b):Tryz.prog.keyLits (n+1+1) 36 [.int .i64 a,.int .i64 b]=some [.int .i64 a,.int .i64 b]:=by
 have h1:(match Tryz.prog.underlying 36 with|some (.struct fs)=>(fs.toList.map fun f=>(f.type,f.offset))==[(3,0),(3,1)]&&fs.all (fun f=>f.name != "_")|_=>false)=true:=by kernel_rfl
 have h5:Tryz.prog.cellsOf 3=1:=by kernel_rfl
 have h6:Tryz.prog.cellsOf 36=2:=by kernel_rfl
 cases hu:Tryz.prog.underlying 36 with
 |none=>rw[hu] at h1;cases h1
 |some kd=>
  rw[hu] at h1
  cases kd with
  |struct fs=>
   simp only[Bool.and_eq_true,beq_iff_eq] at h1
   obtain⟨g1,g2⟩:=h1
   unfold Program.keyLits
   rw[hu]
   obtain⟨L⟩:=fs
   simp only at g1 g2 ⊢
   match L,g1 with
   |[f0,f1],g1=>
    simp only[List.map_cons,List.map_nil,List.cons.injEq,Prod.mk.injEq,and_true] at g1
    obtain⟨⟨t0,o0⟩,t1,o1⟩:=g1
    simp only[h6,List.length_cons,List.length_nil,Nat.zero_add,Nat.reduceAdd,g2,and_self,if_true,List.mapM_cons,List.mapM_nil,t0,o0,t1,o1,h5,List.drop_zero,List.drop_succ_cons,List.take_succ_cons,List.take_zero,Zeg n ha,Zeg n hb]
    rfl
  |_=>simp at h1
theorem Zww (n:Nat) {a b:Int} (s:Bool) (ha:Sml a) (hb:Sml b):Tryz.prog.keyLits (n+1+1) 44 [.int .i64 a,.int .i64 b,.bool s]=some [.int .i64 a,.int .i64 b,.bool s]:=by
 have h1:(match Tryz.prog.underlying 44 with|some (.struct fs)=>(fs.toList.map fun f=>(f.type,f.offset))==[(3,0),(3,1),(4,2)]&&fs.all (fun f=>f.name != "_")|_=>false)=true:=by kernel_rfl
 have h5:Tryz.prog.cellsOf 3=1:=by kernel_rfl
 have h7:Tryz.prog.cellsOf 4=1:=by kernel_rfl
 have h6:Tryz.prog.cellsOf 44=3:=by kernel_rfl
 cases hu:Tryz.prog.underlying 44 with
 |none=>rw[hu] at h1;cases h1
 |some kd=>
  rw[hu] at h1
  cases kd with
  |struct fs=>
   simp only[Bool.and_eq_true,beq_iff_eq] at h1
   obtain⟨g1,g2⟩:=h1
   unfold Program.keyLits
   rw[hu]
   obtain⟨L⟩:=fs
   simp only at g1 g2 ⊢
   match L,g1 with
   |[f0,f1,f2],g1=>
    simp only[List.map_cons,List.map_nil,List.cons.injEq,Prod.mk.injEq,and_true] at g1
    obtain⟨⟨t0,o0⟩,⟨t1,o1⟩,t2,o2⟩:=g1
    simp only[h6,List.length_cons,List.length_nil,Nat.zero_add,Nat.reduceAdd,g2,and_self,if_true,List.mapM_cons,List.mapM_nil,t0,o0,t1,o1,t2,o2,h5,h7,List.drop_zero,List.drop_succ_cons,List.take_succ_cons,List.take_zero,Zeg n ha,Zeg n hb,Z38 n s]
    rfl
  |_=>simp at h1
theorem Z3j (n:Nat) {a b c d e f:Int} (ha:Sml a) (hb:Sml b) (hc:Sml c) (hd:Sml d) (he:Sml e) (hf:Sml f):Tryz.prog.keyLits (n+1+1) 109 [.int .i64 a,.int .i64 b,.int .i64 c,.int .i64 d,.int .i64 e,.int .i64 f]=some [.int .i64 a,.int .i64 b,.int .i64 c,.int .i64 d,.int .i64 e,.int .i64 f]:=by
 have h5:Tryz.prog.cellsOf 3=1:=by kernel_rfl
 have h8:Tryz.prog.cellsOf 109=6:=by kernel_rfl
 have h9:Tryz.prog.underlying 109=some (.array 6 3):=by kernel_rfl
 unfold Program.keyLits
 rw[h9]
 simp only[h8,h5,List.length_cons,List.length_nil,Nat.zero_add,Nat.reduceAdd,if_true]
 rw[show List.range 6=[0,1,2,3,4,5] from rfl]
 simp only[List.mapM_cons,List.mapM_nil,Nat.zero_mul,Nat.one_mul,Nat.reduceMul,List.drop_zero,List.drop_succ_cons,List.take_succ_cons,List.take_zero,Zeg n ha,Zeg n hb,Zeg n hc,Zeg n hd,Zeg n he,Zeg n hf]
 rfl
theorem Zmm {a b c d:Int} (ha:Sml a) (hb:Sml b) (hc:Sml c) (hd:Sml d) (w:World):
  (Op.equalIn 10000 36 (.agg #[.int .i64 a,.int .i64 b]) (.agg #[.int .i64 c,.int .i64 d])).run Tryz.prog w=.ok (decide (a=c∧b=d)) w:=by
 obtain⟨r,hr,hi⟩:=run_equalIn_deep (P:=Tryz.prog) 9998 2 36 (by kernel_rfl) w 2 2 (.agg #[.int .i64 a,.int .i64 b]) (.agg #[.int .i64 c,.int .i64 d]) _ _ (by kernel_rfl) (by kernel_rfl) (Ztz 0 ha hb) (Ztz 0 hc hd)
 have e:r=decide (a=c∧b=d):=by
  rw[Bool.eq_iff_iff,hi]
  simp only[List.cons.injEq,Lit.int.injEq,true_and,and_true,decide_eq_true_eq]
 rw[e] at hr
 exact hr
theorem Z82 {a b c d:Int} {s u:Bool} (ha:Sml a) (hb:Sml b) (hc:Sml c) (hd:Sml d) (w:World):
  (Op.equalIn 10000 44 (.agg #[.int .i64 a,.int .i64 b,.bool s]) (.agg #[.int .i64 c,.int .i64 d,.bool u])).run Tryz.prog w=.ok (decide (a=c∧b=d∧s=u)) w:=by
 obtain⟨r,hr,hi⟩:=run_equalIn_deep (P:=Tryz.prog) 9998 2 44 (by kernel_rfl) w 2 2 (.agg #[.int .i64 a,.int .i64 b,.bool s]) (.agg #[.int .i64 c,.int .i64 d,.bool u]) _ _ (by kernel_rfl) (by kernel_rfl) (Zww 0 s ha hb) (Zww 0 u hc hd)
 have e:r=decide (a=c∧b=d∧s=u):=by
  rw[Bool.eq_iff_iff,hi]
  simp only[List.cons.injEq,Lit.int.injEq,Lit.bool.injEq,true_and,and_true,decide_eq_true_eq]
 rw[e] at hr
 exact hr
theorem Zer {p:List Int} (h:PsOk p) (i:Nat):Sml (pAt p i):=by have:=h.at i;exact⟨by omega,by omega⟩
theorem Z9z {p q:List Int} (hp:PsOk p) (hq:PsOk q) (w:World):
  (Op.equalIn 10000 109 (psV p) (psV q)).run Tryz.prog w=.ok (decide (p=q)) w:=by
 obtain⟨r,hr,hi⟩:=run_equalIn_deep (P:=Tryz.prog) 9998 2 109 (by kernel_rfl) w 2 2 (psV p) (psV q) _ _ (by kernel_rfl) (by kernel_rfl) (Z3j 0 (Zer hp 0) (Zer hp 1) (Zer hp 2) (Zer hp 3) (Zer hp 4) (Zer hp 5)) (Z3j 0 (Zer hq 0) (Zer hq 1) (Zer hq 2) (Zer hq 3) (Zer hq 4) (Zer hq 5))
 have e:r=decide (p=q):=by
  rw[Bool.eq_iff_iff,hi,decide_eq_true_eq]
  constructor
  ·intro e
   refine Z1j hp.1 hq.1 ?_
   simp only[List.cons.injEq,Lit.int.injEq,true_and,and_true] at e
   obtain⟨e0,e1,e2,e3,e4,e5⟩:=e
   simp only[psV,e0,e1,e2,e3,e4,e5]
  ·rintro rfl;rfl
 rw[e] at hr
 exact hr
end
section
open Go Go.RowKit Go.Shelf
theorem Z34:∀c:Nat,c<16→∀i:Nat,i<4→(bits BinOp.and .i64 ((c:Int) / 2^i) 1==0)=!c.testBit i:=by decide +kernel
theorem Zux {t:PeW} {but:Nat} {q:List Int} {k:Nat} (hk:k<t.ties.length) (h:Zeu t but q k=true):Zeu t but q (k+1)=(but.testBit k||tieB t q t.ties[k]):=by
 unfold Zeu at *
 rw[List.range_succ,List.all_append,h,Bool.true_and]
 simp[List.getElem?_eq_getElem hk]
theorem Z3v {t:PeW} {but:Nat} {q:List Int} {k:Nat} (hk:k<t.ties.length) (h:Zeu t but q (k+1)=true):(but.testBit k||tieB t q t.ties[k])=true:=by
 unfold Zeu at h
 rw[List.range_succ,List.all_append,Bool.and_eq_true] at h
 have:=h.2
 simpa[List.getElem?_eq_getElem hk] using this
theorem Zy2 {t:PeW} {but:Nat} {q:List Int} {k:Nat} (hk:k<t.ties.length) (h:(but.testBit k||tieB t q t.ties[k])=false):Zhk t but q=false:=by
 unfold Zhk Zeu
 rw[List.all_eq_false]
 exact⟨k,List.mem_range.2 hk,by simpa[List.getElem?_eq_getElem hk] using h⟩
theorem Z1i (a1 a2 a3 a4:Option Addr) (k1 k2 k3 k4:Nat) (t:PeW) (bt bc bk but:Nat) (q:List Int) (w:World) (hm:TownW w bt bc bk a1 a2 a3 a4 k1 k2 k3 k4 t but) (hv:PeOk t) (hbut:but<16) (hq:PsOk q):
  Calls Tryz.prog 96 #[.pointer (some ⟨bt,0,none⟩),psV q] w fun e w'=>e=.returned (.bool (Zhk t but q))∧Below w.heap.size w w':=by
 have hnt:=hv.nt
 have hnm:=hv.nm
 have hlt:=hm.town.okt.len
 have hps:(w.alloc (.cells (Zat q) 109)).heap[w.heap.size]?=some (.cells (Zat q) 109 (0,0)):=Zac _ _ rfl
 have hb0:Below w.heap.size w (w.alloc (.cells (Zat q) 109)):=(Below.refl _ _).alloc (Nat.le_refl _) _
 obtain⟨X,hX⟩:∃X:World,X=w.alloc (.cells (Zat q) 109):=⟨_,rfl⟩
 rw[←hX] at hps hb0
 have HX:=LH hX
 clear hX
 have hmX:=hm.below hb0
 have HMX:=LH (fun(V:World) (h:Below X.heap.size X V)=>hmX.below h)
 have HPX:=LH (fun(V:World) (h:Below X.heap.size X V)=>(h.block _ (lt_of_block hps)).trans hps)
 have HPC:=LH (fun(V:World) (h:Below X.heap.size X V) (n:Nat) (hn:n<6)=>(show V.cell? ⟨w.heap.size,n,none⟩=some (.int .i64 (pAt q n)) from by
  have hc:=HPX.out V h
  obtain rfl|rfl|rfl|rfl|rfl|rfl:n=0∨n=1∨n=2∨n=3∨n=4∨n=5:=by omega
  all_goals first|exact Zaa 0 hc rfl|exact Zaa 1 hc rfl|exact Zaa 2 hc rfl|exact Zaa 3 hc rfl|exact Zaa 4 hc rfl|exact Zaa 5 hc rfl))
 have HB0:=LH hb0
 have HTE:=LH (fun k (hk:k<t.ties.length)=>hv.tie k hk)
 have y5:=hmX.cells.2.2.2.2.2.1
 have yz:=hmX.bt_lt
 clear hm hv hps hb0 hmX
 go_enter Tryz.func96,Tryz.ntmps96
 go_upto_region 1 with(fail)
 rw[←HX.out]
 go_wp2
 go_loopw [13] (fun i wr=>∃k:Nat,k≤t.ties.length∧i=.int .i64 (k:Int)∧Hid (Zeu t but q k=true)∧Below X.heap.size X wr) (fun i _=>t.ties.length-(intOf i).toNat)
 case atStart=>exact⟨0,by omega,rfl,LH rfl,Below.refl _ _⟩
 case round=>
  clear y5 yz
  obtain⟨k,hk,rfl,HR,hb⟩:=hrel
  by_cases hkt:k<t.ties.length
  ·have hmr:=HMX.out _ hb
   obtain⟨b',off,ea,hb',l0,l1,l2⟩:=hmr.town.ties k hkt
   have htk:=HTE.out k hkt
   have HN1:=LH (Zux hkt HR.out)
   have HN2:=LH (fun h=>Zy2 (but:=but) (q:=q) hkt h)
   generalize hx:t.ties[k]=x at l0 l1 l2 htk HN1 HN2
   obtain⟨xa,xb,xs⟩:=x
   simp only at l0 l1 l2 htk
   have HXE:=LH hx
   clear hx
   obtain⟨V,hV⟩:∃V:World,V=wr.alloc (.cells #[.int .i64 xa,.int .i64 xb,.bool xs] 44):=⟨_,rfl⟩
   have hbV:Below wr.heap.size wr V:=by rw[hV];exact(Below.refl _ _).alloc (Nat.le_refl _) _
   have hcV:V.heap[wr.heap.size]?=some (.cells #[.int .i64 xa,.int .i64 xb,.bool xs] 44 (0,0)):=by rw[hV];exact Zac _ _ rfl
   have HV:=LH hV
   have hQV:=hb.trans (hbV.mono hb.size)
   have HQV:=LH hQV
   have HCV:=LH hcV
   have hmV:=HMX.out _ hQV
   have HMV:=LH hmV
   have y5:=hmr.cells.2.2.2.2.2.1
   have yz:=hmr.bt_lt
   rw[ea] at y5
   clear hV hbV hmr hb hQV
   go_upto_region 4 with(fail)
   replace ea:=LH ea
   rw[show wr.alloc (.cells #[.int .i64 xa,.int .i64 xb,.bool xs] 44)=V from HV.out.symm]
   clear y5 yz l0 l1 l2 hb'
   go_cut [43] from 18 to 43 (fun v U=>∃c:Bool,v=.bool c∧Hid (c=true→Zeu t but q (k+1)=true)∧Below V.heap.size V U)
   case first=>
    have y5:=hmV.cells.2.2.2.2.2.1
    have y6:=hmV.cells.2.2.2.2.2.2.1
    have yz:=hmV.bt_lt
    rw[ea.out] at y5
    have v0:=Zaa 0 hcV rfl
    have v1:=Zaa 1 hcV rfl
    have v2:=Zaa 2 hcV rfl
    have vz:=lt_of_block hcV
    simp only[List.getElem_toArray,List.getElem_cons_zero,List.getElem_cons_succ] at v0 v1 v2
    have hkI:(k:Int)<(t.ties.length:Int):=by omega
    by_cases hk0:k=0
    ·have hkI0:¬(0:Int)<(k:Int):=by omega
     have hkN0:decide (0<k)=false:=by simp[hk0]
     clear hk0 hcV hmV y5 y6 yz
     go_quiet (fail)
     go_wp2
     go_meet
     case rel=>exact⟨false,rfl,LH (fun h=>by cases h),Zan (Below.refl _ _) _⟩
    ·obtain⟨k0,hk0'⟩:∃k0,k=k0+1:=⟨k-1,by omega⟩
     obtain⟨b2,o2,ea2,hb2,m0,m1,m2⟩:=hmV.town.ties k0 (by omega)
     have hty:=HTE.out k0 (by omega)
     have HP:=LH (Z3v (t:=t) (but:=but) (q:=q) (k:=k0) (by omega) (by rw[←hk0'];exact HR.out))
     generalize t.ties[k0]'(by omega)=y at m0 m1 m2 hty HP
     obtain⟨ya,yb,ys⟩:=y
     simp only at m0 m1 m2 hty
     rw[ea.out] at ea2
     cases ea2
     have HQ:=LH (fun W=>Z82 (s:=xs) (u:=ys) (a:=xa) (b:=xb) (c:=ya) (d:=yb) ⟨by omega,by omega⟩ ⟨by omega,by omega⟩ ⟨by omega,by omega⟩ ⟨by omega,by omega⟩ W)
     have hbi:=Z34 but hbut k0 (by omega)
     have hk64:(k0:Int)<64:=by omega
     have hkI0:(0:Int)<(k:Int):=by omega
     have hkI1:(k:Int)-1=(k0:Int):=by omega
     have hkN0:decide (0<k)=true:=by simp;omega
     have hkI2:(k0:Int)<(t.ties.length:Int):=by omega
     clear hcV hmV htk hty hk0 hk0'
     by_cases he:xa=ya∧xb=yb∧xs=ys
     ·have hq:=HQ.out
      rw[decide_eq_true he] at hq
      obtain⟨rfl,rfl,rfl⟩:=he
      have HF:Hid ((!but.testBit k0)=true→Zeu t but q (k+1)=true):=LH (fun h=>by
       have h1:=HP.out
       have h2:but.testBit k0=false:=by simpa using h
       rw[h2,Bool.false_or] at h1
       rw[HN1.out,h1,Bool.or_true])
      clear HQ
      generalize (!but.testBit k0)=bb at HF hbi
      go_quiet (fail)
      go_wp2
      go_meet
      case rel=>exact⟨bb,rfl,HF,Zan (Below.refl _ _) _⟩
     ·have hq:=HQ.out
      rw[decide_eq_false he] at hq
      clear HQ he
      go_quiet (fail)
      go_wp2
      go_meet
      case rel=>exact⟨false,rfl,LH (fun h=>by cases h),Zan (Below.refl _ _) _⟩
   case rest=>
    obtain⟨c,rfl,HC,hbU⟩:=hcut
    rename World=>U
    have hQU:=HQV.out.trans (hbU.mono HQV.out.size)
    have HQU:=LH hQU
    have hcU:=(hbU.block _ (lt_of_block HCV.out)).trans HCV.out
    have hmU:=HMX.out _ hQU
    have HB2:=LH (HB0.out.trans (hQU.mono HB0.out.size))
    cases c
    ·have y6:=hmU.cells.2.2.2.2.2.2.1
     have yz:=hmU.bt_lt
     have v0:=Zaa 0 hcU rfl
     have v1:=Zaa 1 hcU rfl
     have v2:=Zaa 2 hcU rfl
     have vz:=lt_of_block hcU
     simp only[List.getElem_toArray,List.getElem_cons_zero,List.getElem_cons_succ] at v0 v1 v2
     obtain⟨na,rfl⟩:∃n:Nat,xa=(n:Int):=⟨xa.toNat,by omega⟩
     obtain⟨nb,rfl⟩:∃n:Nat,xb=(n:Int):=⟨xb.toNat,by omega⟩
     have pa:=HPC.out U hQU na (by omega)
     have pb:=HPC.out U hQU nb (by omega)
     have pz:=lt_of_block (HPX.out U hQU)
     have hbi:=Z34 but hbut k (by omega)
     have hk64:(k:Int)<64:=by omega
     have na6:(na:Int)<6:=by omega
     have nb6:(nb:Int)<6:=by omega
     have HTB:Hid (tieB t q ⟨(na:Int),(nb:Int),xs⟩=(decide (pAt q na=pAt q nb)==xs)):=LH rfl
     clear hcU hmU hbU HC hQU htk
     generalize pAt q na=ua at pa HTB
     generalize pAt q nb=ub at pb HTB
     cases hbt:but.testBit k
     ·rw[hbt] at hbi HN1 HN2
      by_cases he:ua=ub
      ·have e1:(ua==ub)=true:=by simpa using he
       cases xs
       ·have HF:Hid (Zhk t but q=false):=LH (HN2.out (by rw[HTB.out];simp[he]))
        go_wp2
        go_quiet (fail)
        have hbd:=LH (Zan (Below.refl U.heap.size U) nq)
        clear v0 v1 v2 pa pb y6 yz vz pz
        go_wp2
        go_ret
        exact⟨by rw[HF.out];rfl,HB2.out.trans (hbd.out.mono HB2.out.size)⟩
       ·have HF:Hid (Zeu t but q (k+1)=true):=LH (by rw[HN1.out,HTB.out];simp[he])
        go_wp2
        go_quiet (fail)
        have hbd:=LH (Zan (Below.refl U.heap.size U) nq)
        clear v0 v1 v2 pa pb y6 yz vz pz
        go_wp2
        go_roundw
        case rel=>exact⟨k+1,by omega,by go_num,HF,HQU.out.trans (hbd.out.mono HQU.out.size)⟩
        case measure=>simp[intOf];omega
      ·have e1:(ua==ub)=false:=by simpa using he
       cases xs
       ·have HF:Hid (Zeu t but q (k+1)=true):=LH (by rw[HN1.out,HTB.out];simp[he])
        go_wp2
        go_quiet (fail)
        have hbd:=LH (Zan (Below.refl U.heap.size U) nq)
        clear v0 v1 v2 pa pb y6 yz vz pz
        go_wp2
        go_roundw
        case rel=>exact⟨k+1,by omega,by go_num,HF,HQU.out.trans (hbd.out.mono HQU.out.size)⟩
        case measure=>simp[intOf];omega
       ·have HF:Hid (Zhk t but q=false):=LH (HN2.out (by rw[HTB.out];simp[he]))
        go_wp2
        go_quiet (fail)
        have hbd:=LH (Zan (Below.refl U.heap.size U) nq)
        clear v0 v1 v2 pa pb y6 yz vz pz
        go_wp2
        go_ret
        exact⟨by rw[HF.out];rfl,HB2.out.trans (hbd.out.mono HB2.out.size)⟩
     ·rw[hbt] at hbi HN1
      simp only[Bool.not_true] at hbi
      have HF:Hid (Zeu t but q (k+1)=true):=LH (by rw[HN1.out];rfl)
      go_wp2
      go_quiet (fail)
      have hbd:=LH (Zan (Below.refl U.heap.size U) nq)
      clear v0 v1 v2 pa pb y6 yz vz pz
      go_wp2
      go_roundw
      case rel=>exact⟨k+1,by omega,by go_num,HF,HQU.out.trans (hbd.out.mono HQU.out.size)⟩
      case measure=>simp[intOf];omega
    ·have HF:=LH (HC.out rfl)
     clear hcU hmU
     go_wp2
     go_roundw
     case rel=>exact⟨k+1,by omega,by go_num,HF.out,hQU⟩
     case measure=>simp[intOf];omega
  ·obtain rfl:k=t.ties.length:=by omega
   have HE:Hid (Zhk t but q=true):=HR
   go_wp2
   go_ret
   exact⟨by rw[HE.out];rfl,HB0.out.trans (hb.mono HB0.out.size)⟩
end
end Go.Proofs.YtklconegomgjaaaGreat
