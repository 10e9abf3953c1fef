/- What is proved here: contracts of the program's Check of layer 7: its third closure, further ways. Conditions: the list lies in memory. -/
import Derived.Test.YtklconegomgjaaaGreatMoney4G
import Derived.Test.YtklconegomgjaaaGreatMidG
import Derived.Test.YtklconegomgjaaaGreatKeyG
set_option linter.all false
set_option maxRecDepth 100000
set_option maxHeartbeats 16000000
namespace Go.Proofs.YtklconegomgjaaaGreat
section
open Go Go.RowKit
theorem Zz5 (ac az aw ap:Option Addr) (cc cz cw cp:Nat) (m:MoList) (i B:Nat) (w:World) (hm:ListC w ac az aw ap cc cz cw cp m) (hi:i<m.words.length) (c0:w.cell? ⟨B,0,none⟩=some (.slice ac m.claimants.length cc)) (c1:w.cell? ⟨B,1,none⟩=some (.slice az m.sums.length cz)) (c2:w.cell? ⟨B,2,none⟩=some (.slice aw m.words.length cw))
  (says sum of back OF:Int) (came:Bool) (hs:inB says 0 3=true) (hs1:inB sum 0 (m.sums.length-1)=true) (hOF:OF=if 2≤says then (m.sums.length:Int) else m.claimants.length) (hs2:inB of 0 (OF-1)=false) :
  Calls Tryz.prog 157 #[.int .i64 i,.agg #[.int .i64 says,.int .i64 sum,.int .i64 of,.int .i64 back,.bool came],.pointer (some ⟨B,0,none⟩)] w fun e w'=>e=.returned (.int .i64 4)∧Below w.heap.size w w':=by
 have l1:=hm.okc.len
 have l2:=hm.okz.len
 have l3:=hm.okw.len
 have B0:=fun(a:Nat) (W:World) h=>Zay says 0 3 a W h
 rw[hs] at B0
 have B0:=LH B0
 have B1:=fun(a:Nat) (W:World) h=>Zay sum 0 (m.sums.length-1) a W h
 rw[hs1] at B1
 have B1:=LH B1
 have B2:=fun(a:Nat) (W:World) h=>Zay of 0 (OF-1) a W h
 rw[hs2] at B2
 skip
 have hB:=Zag c0
 have hQ0:=Below.refl (w.heap.size+1) (w.alloc (.cells #[.int .i64 says,.int .i64 sum,.int .i64 of,.int .i64 back,.bool came] 56))
 clear hs hs1 hs2
 by_cases h2:2≤says
 all_goals (first|rw[if_pos h2] at hOF|rw[if_neg h2] at hOF)
 all_goals
  subst hOF
  have B2:=LH B2
  go_enter Tryz.func157,Tryz.ntmps157
  go_wp2_with (first|(go_at_call 113;(with_reducible refine(B2.out _ _ ?_).mono ?_);(simp);rintro e w3 ⟨rfl,hb3⟩;have hQ3:=(hQ2.alloc (Zai hQ2) (.cells #[.int .i64 of] 3)).trans (hb3.mono (by have:=Zai hQ2;simp;omega));obtain⟨c03,c13,c23⟩:_∧_∧_:=⟨Zab (Zaf hQ3) c0,Zab (Zaf hQ3) c1,Zab (Zaf hQ3) c2⟩;have x03:=Zaj hQ3 0 _ rfl;have x13:=Zaj hQ3 1 _ rfl;have x23:=Zaj hQ3 2 _ rfl;have x33:=Zaj hQ3 3 _ rfl;have y13:=Zag c03;have y23:=Zag x03;dsimp only)|(go_at_call 113;(with_reducible refine(B1.out _ _ ?_).mono ?_);(simp);rintro e w2 ⟨rfl,hb2⟩;have hQ2:=(hQ1.alloc (Zai hQ1) (.cells #[.int .i64 sum] 3)).trans (hb2.mono (by have:=Zai hQ1;simp;omega));obtain⟨c02,c12,c22⟩:_∧_∧_:=⟨Zab (Zaf hQ2) c0,Zab (Zaf hQ2) c1,Zab (Zaf hQ2) c2⟩;have x02:=Zaj hQ2 0 _ rfl;have x12:=Zaj hQ2 1 _ rfl;have x22:=Zaj hQ2 2 _ rfl;have x32:=Zaj hQ2 3 _ rfl;have y12:=Zag c02;have y22:=Zag x02;dsimp only)|(go_at_call 113;(with_reducible refine(B0.out _ _ ?_).mono ?_);(simp);rintro e w1 ⟨rfl,hb1⟩;have hQ1:=(hQ0.alloc (Zai hQ0) (.cells #[.int .i64 says] 3)).trans (hb1.mono (by have:=Zai hQ0;simp));obtain⟨c01,c11,c21⟩:_∧_∧_:=⟨Zab (Zaf hQ1) c0,Zab (Zaf hQ1) c1,Zab (Zaf hQ1) c2⟩;have x01:=Zaj hQ1 0 _ rfl;have x11:=Zaj hQ1 1 _ rfl;have x21:=Zaj hQ1 2 _ rfl;have x31:=Zaj hQ1 3 _ rfl;have y11:=Zag c01;have y21:=Zag x01;dsimp only))
  go_ret
  exact⟨rfl,Zaf hQ3⟩
theorem Zsn (ac az aw ap:Option Addr) (cc cz cw cp:Nat) (m:MoList) (i B:Nat) (w:World) (hm:ListC w ac az aw ap cc cz cw cp m) (hi:i<m.words.length) (c0:w.cell? ⟨B,0,none⟩=some (.slice ac m.claimants.length cc)) (c1:w.cell? ⟨B,1,none⟩=some (.slice az m.sums.length cz)) (c2:w.cell? ⟨B,2,none⟩=some (.slice aw m.words.length cw))
  (says sum of back OF:Int) (came:Bool) (hs:inB says 0 3=true) (hs1:inB sum 0 (m.sums.length-1)=true) (hOF:OF=if 2≤says then (m.sums.length:Int) else m.claimants.length) (hs2:inB of 0 (OF-1)=true) (hs3:inB back (-1) (m.words.length-1)=false):
  Calls Tryz.prog 157 #[.int .i64 i,.agg #[.int .i64 says,.int .i64 sum,.int .i64 of,.int .i64 back,.bool came],.pointer (some ⟨B,0,none⟩)] w fun e w'=>e=.returned (.int .i64 4)∧Below w.heap.size w w':=by
 have l1:=hm.okc.len
 have l2:=hm.okz.len
 have l3:=hm.okw.len
 have B0:=fun(a:Nat) (W:World) h=>Zay says 0 3 a W h
 rw[hs] at B0
 have B0:=LH B0
 have B1:=fun(a:Nat) (W:World) h=>Zay sum 0 (m.sums.length-1) a W h
 rw[hs1] at B1
 have B1:=LH B1
 have B2:=fun(a:Nat) (W:World) h=>Zay of 0 (OF-1) a W h
 rw[hs2] at B2
 have B3:=fun(a:Nat) (W:World) h=>Zay back (-1) (m.words.length-1) a W h
 rw[hs3] at B3
 have B3:=LH B3
 have hB:=Zag c0
 have hQ0:=Below.refl (w.heap.size+1) (w.alloc (.cells #[.int .i64 says,.int .i64 sum,.int .i64 of,.int .i64 back,.bool came] 56))
 clear hs hs1 hs2
 by_cases h2:2≤says
 all_goals (first|rw[if_pos h2] at hOF|rw[if_neg h2] at hOF)
 all_goals
  subst hOF
  have B2:=LH B2
  go_enter Tryz.func157,Tryz.ntmps157
  go_wp2_with (first|(go_at_call 113;(with_reducible refine(B3.out _ _ ?_).mono ?_);(simp);rintro e w4 ⟨rfl,hb4⟩;have hQ4:=(hQ3.alloc (Zai hQ3) (.cells #[.int .i64 back] 3)).trans (hb4.mono (by have:=Zai hQ3;simp;omega));obtain⟨c04,c14,c24⟩:_∧_∧_:=⟨Zab (Zaf hQ4) c0,Zab (Zaf hQ4) c1,Zab (Zaf hQ4) c2⟩;have x04:=Zaj hQ4 0 _ rfl;have x14:=Zaj hQ4 1 _ rfl;have x24:=Zaj hQ4 2 _ rfl;have x34:=Zaj hQ4 3 _ rfl;have y14:=Zag c04;have y24:=Zag x04;dsimp only)|(go_at_call 113;(with_reducible refine(B2.out _ _ ?_).mono ?_);(simp);rintro e w3 ⟨rfl,hb3⟩;have hQ3:=(hQ2.alloc (Zai hQ2) (.cells #[.int .i64 of] 3)).trans (hb3.mono (by have:=Zai hQ2;simp;omega));obtain⟨c03,c13,c23⟩:_∧_∧_:=⟨Zab (Zaf hQ3) c0,Zab (Zaf hQ3) c1,Zab (Zaf hQ3) c2⟩;have x03:=Zaj hQ3 0 _ rfl;have x13:=Zaj hQ3 1 _ rfl;have x23:=Zaj hQ3 2 _ rfl;have x33:=Zaj hQ3 3 _ rfl;have y13:=Zag c03;have y23:=Zag x03;dsimp only)|(go_at_call 113;(with_reducible refine(B1.out _ _ ?_).mono ?_);(simp);rintro e w2 ⟨rfl,hb2⟩;have hQ2:=(hQ1.alloc (Zai hQ1) (.cells #[.int .i64 sum] 3)).trans (hb2.mono (by have:=Zai hQ1;simp;omega));obtain⟨c02,c12,c22⟩:_∧_∧_:=⟨Zab (Zaf hQ2) c0,Zab (Zaf hQ2) c1,Zab (Zaf hQ2) c2⟩;have x02:=Zaj hQ2 0 _ rfl;have x12:=Zaj hQ2 1 _ rfl;have x22:=Zaj hQ2 2 _ rfl;have x32:=Zaj hQ2 3 _ rfl;have y12:=Zag c02;have y22:=Zag x02;dsimp only)|(go_at_call 113;(with_reducible refine(B0.out _ _ ?_).mono ?_);(simp);rintro e w1 ⟨rfl,hb1⟩;have hQ1:=(hQ0.alloc (Zai hQ0) (.cells #[.int .i64 says] 3)).trans (hb1.mono (by have:=Zai hQ0;simp));obtain⟨c01,c11,c21⟩:_∧_∧_:=⟨Zab (Zaf hQ1) c0,Zab (Zaf hQ1) c1,Zab (Zaf hQ1) c2⟩;have x01:=Zaj hQ1 0 _ rfl;have x11:=Zaj hQ1 1 _ rfl;have x21:=Zaj hQ1 2 _ rfl;have x31:=Zaj hQ1 3 _ rfl;have y11:=Zag c01;have y21:=Zag x01;dsimp only))
  go_ret
  exact⟨rfl,Zaf hQ4⟩
end
section
open Go Go.RowKit
theorem Zv7 (ac az aw ap:Option Addr) (cc cz cw cp:Nat) (m:MoList) (i B:Nat) (w:World) (hm:ListC w ac az aw ap cc cz cw cp m) (hi:i<m.words.length) (c0:w.cell? ⟨B,0,none⟩=some (.slice ac m.claimants.length cc)) (c1:w.cell? ⟨B,1,none⟩=some (.slice az m.sums.length cz)) (c2:w.cell? ⟨B,2,none⟩=some (.slice aw m.words.length cw))
  (says sum of back OF:Int) (came:Bool) (hs:inB says 0 3=true) (hs1:inB sum 0 (m.sums.length-1)=true) (hOF:OF=if 2≤says then (m.sums.length:Int) else m.claimants.length) (hs2:inB of 0 (OF-1)=true) (hs3:inB back (-1) (m.words.length-1)=true):
  Calls Tryz.prog 157 #[.int .i64 i,.agg #[.int .i64 says,.int .i64 sum,.int .i64 of,.int .i64 back,.bool came],.pointer (some ⟨B,0,none⟩)] w fun e w'=>e=.returned (.int .i64 (if back=(i:Int)∨(2≤says∧of=sum) then 2 else 0))∧Below w.heap.size w w':=by
 have l1:=hm.okc.len
 have l2:=hm.okz.len
 have l3:=hm.okw.len
 have B0:=fun(a:Nat) (W:World) h=>Zay says 0 3 a W h
 rw[hs] at B0
 have B0:=LH B0
 have B1:=fun(a:Nat) (W:World) h=>Zay sum 0 (m.sums.length-1) a W h
 rw[hs1] at B1
 have B1:=LH B1
 have B2:=fun(a:Nat) (W:World) h=>Zay of 0 (OF-1) a W h
 rw[hs2] at B2
 have B3:=fun(a:Nat) (W:World) h=>Zay back (-1) (m.words.length-1) a W h
 rw[hs3] at B3
 have B3:=LH B3
 have hB:=Zag c0
 have hQ0:=Below.refl (w.heap.size+1) (w.alloc (.cells #[.int .i64 says,.int .i64 sum,.int .i64 of,.int .i64 back,.bool came] 56))
 clear hs hs1 hs2
 obtain⟨r,hr⟩:∃r:Int,r=if back=(i:Int)∨(2≤says∧of=sum) then (2:Int) else 0:=⟨_,rfl⟩
 rw[←hr]
 have HR:=LH hr
 clear hr
 by_cases h2:2≤says
 all_goals (first|rw[if_pos h2] at hOF|rw[if_neg h2] at hOF)
 all_goals by_cases hb:back=(i:Int)
 all_goals by_cases ho:of=sum
 all_goals have HX:=LH (show r=_ from by have h:=HR.out;simp only[hb,ho,h2,true_or,and_self,and_true,and_false,or_false,false_or,or_true,if_true,if_false,true_and,false_and] at h;exact h)
 all_goals (first|have hb2:=Zdv hb|have hb2:=Zc4 hb)
 all_goals (first|have ho2:=Zdv ho|have ho2:=Zc4 ho)
 all_goals
  clear HR hb ho
  subst hOF
  have B2:=LH B2
  go_enter Tryz.func157,Tryz.ntmps157
  go_wp2_with (first|(go_at_call 113;(with_reducible refine(B3.out _ _ ?_).mono ?_);(simp);rintro e w4 ⟨rfl,hb4⟩;have hQ4:=(hQ3.alloc (Zai hQ3) (.cells #[.int .i64 back] 3)).trans (hb4.mono (by have:=Zai hQ3;simp;omega));obtain⟨c04,c14,c24⟩:_∧_∧_:=⟨Zab (Zaf hQ4) c0,Zab (Zaf hQ4) c1,Zab (Zaf hQ4) c2⟩;have x04:=Zaj hQ4 0 _ rfl;have x14:=Zaj hQ4 1 _ rfl;have x24:=Zaj hQ4 2 _ rfl;have x34:=Zaj hQ4 3 _ rfl;have y14:=Zag c04;have y24:=Zag x04;dsimp only)|(go_at_call 113;(with_reducible refine(B2.out _ _ ?_).mono ?_);(simp);rintro e w3 ⟨rfl,hb3⟩;have hQ3:=(hQ2.alloc (Zai hQ2) (.cells #[.int .i64 of] 3)).trans (hb3.mono (by have:=Zai hQ2;simp;omega));obtain⟨c03,c13,c23⟩:_∧_∧_:=⟨Zab (Zaf hQ3) c0,Zab (Zaf hQ3) c1,Zab (Zaf hQ3) c2⟩;have x03:=Zaj hQ3 0 _ rfl;have x13:=Zaj hQ3 1 _ rfl;have x23:=Zaj hQ3 2 _ rfl;have x33:=Zaj hQ3 3 _ rfl;have y13:=Zag c03;have y23:=Zag x03;dsimp only)|(go_at_call 113;(with_reducible refine(B1.out _ _ ?_).mono ?_);(simp);rintro e w2 ⟨rfl,hb2⟩;have hQ2:=(hQ1.alloc (Zai hQ1) (.cells #[.int .i64 sum] 3)).trans (hb2.mono (by have:=Zai hQ1;simp;omega));obtain⟨c02,c12,c22⟩:_∧_∧_:=⟨Zab (Zaf hQ2) c0,Zab (Zaf hQ2) c1,Zab (Zaf hQ2) c2⟩;have x02:=Zaj hQ2 0 _ rfl;have x12:=Zaj hQ2 1 _ rfl;have x22:=Zaj hQ2 2 _ rfl;have x32:=Zaj hQ2 3 _ rfl;have y12:=Zag c02;have y22:=Zag x02;dsimp only)|(go_at_call 113;(with_reducible refine(B0.out _ _ ?_).mono ?_);(simp);rintro e w1 ⟨rfl,hb1⟩;have hQ1:=(hQ0.alloc (Zai hQ0) (.cells #[.int .i64 says] 3)).trans (hb1.mono (by have:=Zai hQ0;simp));obtain⟨c01,c11,c21⟩:_∧_∧_:=⟨Zab (Zaf hQ1) c0,Zab (Zaf hQ1) c1,Zab (Zaf hQ1) c2⟩;have x01:=Zaj hQ1 0 _ rfl;have x11:=Zaj hQ1 1 _ rfl;have x21:=Zaj hQ1 2 _ rfl;have x31:=Zaj hQ1 3 _ rfl;have y11:=Zag c01;have y21:=Zag x01;dsimp only))
  go_ret
  exact⟨Za7 HX.out.symm,Zaf hQ4⟩
end
section
open Go Go.RowKit
theorem Zuz (ac az aw ap:Option Addr) (cc cz cw cp:Nat) (m:MoList) (i B:Nat) (w:World) (hm:ListC w ac az aw ap cc cz cw cp m) (hi:i<m.words.length) (c0:w.cell? ⟨B,0,none⟩=some (.slice ac m.claimants.length cc)) (c1:w.cell? ⟨B,1,none⟩=some (.slice az m.sums.length cz)) (c2:w.cell? ⟨B,2,none⟩=some (.slice aw m.words.length cw)):
  Calls Tryz.prog 157 #[.int .i64 i,.agg #[.int .i64 m.words[i].says,.int .i64 m.words[i].sum,.int .i64 m.words[i].of,.int .i64 m.words[i].back,.bool m.words[i].came],.pointer (some ⟨B,0,none⟩)] w fun e w'=>e=.returned (.int .i64 (Zbv m i))∧Below w.heap.size w w':=by
 have HE:Zbv m i=Zgn m.claimants.length m.sums.length m.words.length i m.words[i]:=by unfold Zbv;rw[List.getElem?_eq_getElem hi]
 rw[HE]
 clear HE
 generalize m.words[i]=wd
 obtain⟨says,sum,of,back,came⟩:=wd
 unfold Zgn
 simp only
 cases h0:inB says 0 3
 ·simp only[Bool.false_eq_true,if_false]
  exact Zu0 ac az aw ap cc cz cw cp m i B w hm hi c0 c1 c2 says sum of back came h0
 ·simp only[if_true]
  cases h1:inB sum 0 (m.sums.length-1)
  ·simp only[Bool.false_and,Bool.false_eq_true,if_false]
   exact Zv8 ac az aw ap cc cz cw cp m i B w hm hi c0 c1 c2 says sum of back came h0 h1
  ·simp only[Bool.true_and]
   cases h2:inB of 0 ((if 2≤says then (m.sums.length:Int) else m.claimants.length)-1)
   ·simp only[Bool.false_and,Bool.false_eq_true,if_false]
    exact Zz5 ac az aw ap cc cz cw cp m i B w hm hi c0 c1 c2 says sum of back _ came h0 h1 rfl h2
   ·simp only[Bool.true_and]
    cases h3:inB back (-1) (m.words.length-1)
    ·simp only[Bool.false_eq_true,if_false]
     exact Zsn ac az aw ap cc cz cw cp m i B w hm hi c0 c1 c2 says sum of back _ came h0 h1 rfl h2 h3
    ·simp only[if_true]
     exact Zv7 ac az aw ap cc cz cw cp m i B w hm hi c0 c1 c2 says sum of back _ came h0 h1 rfl h2 h3
theorem Z0r (ac az aw ap:Option Addr) (cc cz cw cp:Nat) (m:MoList) (B:Nat) (w:World) (hm:ListC w ac az aw ap cc cz cw cp m) (c0:w.cell? ⟨B,0,none⟩=some (.slice ac m.claimants.length cc)) (c1:w.cell? ⟨B,1,none⟩=some (.slice az m.sums.length cz)) (c2:w.cell? ⟨B,2,none⟩=some (.slice aw m.words.length cw)):
  Calls Tryz.prog 156 #[.slice aw m.words.length cw,.int .i64 6,.func (.func 157) #[] #[.pointer (some ⟨B,0,none⟩)]] w fun e w'=>e=.returned (.tuple #[.int .i64 (Zcb m.words.length 6 (Zbv m)).1,.int .i64 (Zcb m.words.length 6 (Zbv m)).2])∧Below w.heap.size w w':=by
 have l1:=hm.okw.len
 obtain⟨r,hr⟩:∃r,r=Zcb m.words.length 6 (Zbv m):=⟨_,rfl⟩
 rw[←hr]
 have Hr:=LH hr
 clear hr
 by_cases hlong:6<m.words.length
 ·have hl2:(6:Int)<(m.words.length:Int):=by omega
  go_enter Tryz.func156,Tryz.ntmps156
  go_wp2
  go_ret2
  have:=Hr.out.trans (Zg4 hlong)
  subst this
  exact⟨rfl,by go_grown⟩
 ·have hl2:¬(6:Int)<(m.words.length:Int):=by omega
  go_enter Tryz.func156,Tryz.ntmps156
  go_wp2
  go_loopw [17] (fun i wr=>∃k:Nat,k≤m.words.length∧i=.int .i64 k∧Hid (∀j,j<k→Zbv m j=0)∧Below w.heap.size w wr) (fun i _=>m.words.length-(intOf i).toNat)
  case atStart=>exact⟨0,Nat.zero_le _,rfl,LH (fun j h=>absurd h (Nat.not_lt_zero j)),Below.refl _ _⟩
  case round=>
   obtain⟨k,hk,rfl,HZ,hbw⟩:=hrel
   by_cases hlt:k<m.words.length
   ·have K:=LH (fun(W:World) (h:Below w.heap.size w W)=>Zuz ac az aw ap cc cz cw cp m k B W (hm.mono h) hlt (Zab h c0) (Zab h c1) (Zab h c2))
    obtain⟨b,off,rfl,hb,e1,e2,e3,e4,e5⟩:=(hm.mono hbw).words k hlt
    have HE:=LH (fun(h:Zbv m k≠0)=>Hr.out.trans (Zik (by omega) hlt HZ.out h))
    have HN:=LH (fun(h:Zbv m k=0)=>show ∀j,j<k+1→Zbv m j=0 from fun j hj=>if hjk:j<k then HZ.out j hjk else (by have e:j=k:=(by omega);subst e;exact h))
    generalize Zbv m k=x at K HE HN
    generalize m.words[k]=s at K e1 e2 e3 e4 e5
    obtain⟨says,sum,of,back,came⟩:=s
    simp only at K e1 e2 e3 e4 e5
    by_cases hx:x=0
    ·have hx2:=Zdf hx
     replace HN:=LH (HN.out hx)
     subst hx
     clear HE
     go_wp2_with (go_at_call 157;go_must (refine(K.out _ (hbw.alloc hbw.size _)).mono ?_;rintro e w2 ⟨rfl,hb2⟩;have hbn:=(hbw.alloc hbw.size (.cells #[.int .i64 says,.int .i64 sum,.int .i64 of,.int .i64 back,.bool came] 56)).trans (hb2.mono (by have:=hbw.size;simp;omega));dsimp only))
     go_roundw
     case rel=>exact⟨k+1,by omega,by go_num,HN,hbn⟩
     case measure=>simp[intOf];omega
    ·have hx2:=Zcp hx
     replace HE:=LH (HE.out hx)
     clear HN hx
     go_wp2_with (go_at_call 157;go_must (refine(K.out _ (hbw.alloc hbw.size _)).mono ?_;rintro e w2 ⟨rfl,hb2⟩;have hbn:=(hbw.alloc hbw.size (.cells #[.int .i64 says,.int .i64 sum,.int .i64 of,.int .i64 back,.bool came] 56)).trans (hb2.mono (by have:=hbw.size;simp;omega));dsimp only))
     go_ret2
     have:=HE.out
     subst this
     exact⟨rfl,hbn⟩
   ·obtain rfl:k=m.words.length:=by omega
    go_wp2
    go_ret2
    have:=Hr.out.trans (Zkp (by omega) HZ.out)
    subst this
    exact⟨rfl,hbw⟩
end
section
open Go Go.RowKit
theorem Z3r (x:MoSum) (s:ByteArray) (p:Nat) (w:World) (h:w.cell? ⟨p,0,none⟩=some (.string s)):
  Calls Tryz.prog 155 #[.agg #[.string x.name,.int .i64 x.pence,.int .i64 x.for_],.pointer (some ⟨p,0,none⟩)] w fun e w'=>e=.returned (.bool (decide (x.name=s)))∧Below w.heap.size w w':=by
 obtain⟨name,pence,fo⟩:=x
 simp only
 have hp:=Zag h
 by_cases he:name=s
 ·have e2:=Z8i he
  go_enter Tryz.func155,Tryz.ntmps155
  go_wp2
  go_ret
  exact⟨Zaq (by simp[he]),by go_grown⟩
 ·have e2:=Z75 he
  go_enter Tryz.func155,Tryz.ntmps155
  go_wp2
  go_ret
  exact⟨Zaq (by simp[he]),by go_grown⟩
theorem Zgy.take {w:World} {a:Option Addr} {l:List MoSum} (h:Zgy w a l) (k:Nat):Zgy w a (l.take k):=fun i hi=>by
 have hi':i<l.length:=by simp at hi;omega
 obtain⟨b,off,e,hlt,h1,h2,h3⟩:=h i hi'
 exact⟨b,off,e,hlt,by rw[h1];simp,by rw[h2];simp,by rw[h3];simp⟩
theorem Zp4 (a:Option Addr) (l:List MoSum) (c:Nat) (s:ByteArray) (p:Nat) (w:World) (hl:l.length≤9223372036854775807) (hi':Zgy w a l) (h:w.cell? ⟨p,0,none⟩=some (.string s)):
  Calls Tryz.prog 179 #[.slice a l.length c,.func (.func 155) #[] #[.pointer (some ⟨p,0,none⟩)]] w fun e w'=>∃k:Int,e=.returned (.int .i64 k)∧Hid (decide (0≤k)=l.any fun x=>decide (x.name=s))∧Below w.heap.size w w':=by
 go_enter Tryz.func179,Tryz.ntmps179
 go_wp2
 go_loopw [8] (fun i wr=>∃k:Nat,k≤l.length∧i=.int .i64 k∧Hid (∀j (_:j<k) (h:j<l.length),decide (l[j].name=s)=false)∧Below w.heap.size w wr) (fun i _=>l.length-(intOf i).toNat)
 case atStart=>exact⟨0,Nat.zero_le _,rfl,LH (fun j h=>absurd h (Nat.not_lt_zero j)),Below.refl _ _⟩
 case round=>
  obtain⟨k,hk,rfl,HR,hbw⟩:=hrel
  by_cases hlt:k<l.length
  ·obtain⟨b,off,rfl,hb,hx1,hx2,hx3⟩:=hi'.mono hbw k hlt
   have B:=Z3r l[k] s p wr (Zab hbw h)
   have HT:=LH (fun(h:decide (l[k].name=s)=true)=>(Zo0 (f:=fun x:MoSum=>decide (x.name=s)) hlt h:l.any (fun x=>decide (x.name=s))=true))
   have HN:=LH (fun(h:decide (l[k].name=s)=false)=>show ∀j (_:j<k+1) (h:j<l.length),decide (l[j].name=s)=false from fun j hj hjl=>if hjk:j<k then HR.out j hjk hjl else (by have e:j=k:=(by omega);subst e;exact h))
   generalize decide (l[k].name=s)=br at B HT HN
   have B:=LH B
   cases br
   ·go_wp2_with (go_at_call 155;go_must (refine B.out.mono ?_;rintro e w2 ⟨rfl,hb2⟩;dsimp only))
    go_roundw
    case rel=>exact⟨k+1,by omega,by go_num,LH (HN.out (by trivial)),hbw.trans (hb2.mono hbw.size)⟩
    case measure=>simp[intOf];omega
   ·go_wp2_with (go_at_call 155;go_must (refine B.out.mono ?_;rintro e w2 ⟨rfl,hb2⟩;dsimp only))
    go_ret
    exact⟨_,rfl,LH (by rw[HT.out (by trivial)];simp),hbw.trans (hb2.mono hbw.size)⟩
  ·obtain rfl:k=l.length:=by omega
   go_wp2
   go_ret
   exact⟨_,rfl,LH (by rw[Zlc (f:=fun x:MoSum=>decide (x.name=s)) (fun j h=>HR.out j h h)];simp),hbw⟩
theorem Zma (a:Option Addr) (l:List MoSum) (c:Nat) (s:ByteArray) (p:Nat) (w:World) (hl:l.length≤9223372036854775807) (hi':Zgy w a l) (h:w.cell? ⟨p,0,none⟩=some (.string s)):
  Calls Tryz.prog 154 #[.slice a l.length c,.func (.func 155) #[] #[.pointer (some ⟨p,0,none⟩)]] w fun e w'=>e=.returned (.bool (l.any fun x=>decide (x.name=s)))∧Below w.heap.size w w':=by
 have I:=LH (Zp4 a l c s p w hl hi' h)
 obtain⟨r,hr⟩:∃r,r=l.any fun x=>decide (x.name=s):=⟨_,rfl⟩
 rw[←hr] at I ⊢
 clear hr
 go_enter Tryz.func154,Tryz.ntmps154
 cases r
 ·go_wp2_with (go_at_call 179;go_must (refine I.out.mono ?_;rintro e w2 ⟨k,rfl,hk,hb2⟩;have hk2:¬0≤k:=of_decide_eq_false hk.out;dsimp only))
  go_ret
  exact⟨rfl,hb2⟩
 ·go_wp2_with (go_at_call 179;go_must (refine I.out.mono ?_;rintro e w2 ⟨k,rfl,hk,hb2⟩;have hk2:0≤k:=of_decide_eq_true hk.out;dsimp only))
  go_ret
  exact⟨rfl,hb2⟩
end
section
open Go Go.RowKit
theorem Z0l (l:List MoSum) (s:ByteArray):hasS (l.map MoSum.name) s=l.any fun x=>decide (x.name=s):=by
 unfold hasS
 rw[List.any_map]
 rfl
theorem Z7y:∀n:Nat,n≤4→IntKind.i64.wrap (IntKind.i64.wrap (2^n)-1)=Zep n:=by decide
theorem Zvt (ac az aw ap:Option Addr) (cc cz cw cp:Nat) (m:MoList) (i B:Nat) (w:World) (hm:ListC w ac az aw ap cc cz cw cp m) (hn4:m.claimants.length≤4) (hi:i<m.sums.length) (c0:w.cell? ⟨B,0,none⟩=some (.slice ac m.claimants.length cc)) (c1:w.cell? ⟨B,1,none⟩=some (.slice az m.sums.length cz)):
  Calls Tryz.prog 153 #[.int .i64 i,.agg #[.string m.sums[i].name,.int .i64 m.sums[i].pence,.int .i64 m.sums[i].for_],.pointer (some ⟨B,0,none⟩)] w fun e w'=>e=.returned (.int .i64 (Zc2 m i))∧Below w.heap.size w w':=by
 have l1:=hm.okc.len
 have l2:=hm.okz.len
 have HE:Hid (Zc2 m i=if Zhg m.sums[i].name then (if ((m.sums.take i).any fun x=>decide (x.name=m.sums[i].name)) then 5 else (if inB m.sums[i].pence 1 99&&inB m.sums[i].for_ 1 (Zep m.claimants.length) then 0 else 7)) else 6):=by
  show _=_
  unfold Zc2 Zgr
  rw[List.getElem?_eq_getElem hi]
  simp only[Z0l]
  cases Zhg m.sums[i].name
  ·simp
  ·cases (m.sums.take i).any fun x=>decide (x.name=m.sums[i].name)<;>simp
 have hsz:=hm.zsize _ (List.getElem_mem hi)
 have hso:=hm.okz.1
 have hti:(m.sums.take i).length=i:=by rw[List.length_take];omega
 have K:Hid (∀(W:World) (p:Nat),Below w.heap.size w W→W.cell? ⟨p,0,none⟩=some (.string m.sums[i].name)→Calls Tryz.prog 154 #[.slice az i cz,.func (.func 155) #[] #[.pointer (some ⟨p,0,none⟩)]] W fun e w'=>e=.returned (.bool ((m.sums.take i).any fun x=>decide (x.name=m.sums[i].name)))∧Below W.heap.size W w'):=LH (fun W p h hp=>by
  have:=Zma az (m.sums.take i) cz m.sums[i].name p W (by omega) ((hm.mono h).sums.take i) hp
  rw[hti] at this
  exact this)
 obtain⟨b,off,rfl,hb,_⟩:=hm.sums i hi
 generalize Zc2 m i=r at HE ⊢
 generalize ((m.sums.take i).any fun x=>decide (x.name=m.sums[i].name))=hh at K HE
 generalize m.sums[i]=wd at K HE hsz ⊢
 obtain⟨name,pence,fo⟩:=wd
 simp only at K HE hsz ⊢
 have N:=LH (fun W=>Zg6 name W hsz)
 generalize Zhg name=nn at N HE
 have hQ:=Below.refl (w.heap.size+1) (w.alloc (.cells #[.string name,.int .i64 pence,.int .i64 fo] 62))
 have hB:=Zag c0
 have i9:(i:Int)≤m.sums.length:=by omega
 have i8:(i:Int)≤cz:=by omega
 cases nn
 ·go_enter Tryz.func153,Tryz.ntmps153
  go_wp2_with (go_at_call 29;go_must (refine(N.out _).mono ?_;rintro e w2 ⟨rfl,hb2⟩;dsimp only))
  go_ret
  exact⟨Za7 (by rw[HE.out];simp),Zaf (Zaz hQ hb2)⟩
 ·cases hh
  ·have B1:=fun(a:Nat) (W:World) h=>Zay pence 1 99 a W h
   have B2:=fun(a:Nat) (W:World) h=>Zay fo 1 (IntKind.i64.wrap (IntKind.i64.wrap (2^m.claimants.length)-1)) a W h
   have hA:inB fo 1 (IntKind.i64.wrap (IntKind.i64.wrap (2^m.claimants.length)-1))=inB fo 1 (Zep m.claimants.length):=by rw[Z7y m.claimants.length hn4]
   rw[hA] at B2
   clear hA
   obtain⟨fb,hfb⟩:∃fb,fb=inB fo 1 (Zep m.claimants.length):=⟨_,rfl⟩
   rw[←hfb] at B2 HE
   have B2:=LH B2
   clear hfb
   have KE:Hid (∀V,Below (w.heap.size+1) (w.alloc (.cells #[.string name,.int .i64 pence,.int .i64 fo] 62)) V→(fun V=>Below (w.heap.size+1) (w.alloc (.cells #[.string name,.int .i64 pence,.int .i64 fo] 62)) V∧V.cell? ⟨w.heap.size,1,none⟩=some (.int .i64 pence)∧V.cell? ⟨w.heap.size,2,none⟩=some (.int .i64 fo)∧V.cell? ⟨B,0,none⟩=some (.slice ac m.claimants.length cc)∧w.heap.size<V.heap.size∧B<V.heap.size) V):=LH (fun V h=>⟨h,Zaj h 1 _ rfl,Zaj h 2 _ rfl,Zab (Zaf h) c0,Zai h,Zag (Zab (Zaf h) c0)⟩)
   obtain⟨pb,hpb⟩:∃pb,pb=inB pence 1 99:=⟨_,rfl⟩
   rw[←hpb] at B1 HE
   have B1:=LH B1
   clear hpb
   cases pb
   all_goals
    go_enter Tryz.func153,Tryz.ntmps153
    go_wp2_with (first
     |(go_at_call 154;go_must (refine(K.out _ _ (Zaf hQ2) n0).mono ?_;rintro e w3 ⟨rfl,hb3⟩;have hQ3:=Zaz hQ2 hb3;dsimp only))
     |(go_at_call 29;go_must (refine(N.out _).mono ?_;rintro e w2 ⟨rfl,hb2⟩;have hQ2:=Zaz hQ hb2;have n0:=Zaj hQ2 0 _ rfl;have d1:=Zab (Zaf hQ2) c1;have hB2:=Zag d1;dsimp only)))
    clear n0 d1 hB2
    have hz3:w.heap.size+1≤w3.heap.size:=by have:=hQ3.size;simpa using this
   ·apply Zdh _ (Below (w.heap.size+1) (w.alloc (.cells #[.string name,.int .i64 pence,.int .i64 fo] 62)))
    ·refine wp_region_held_drew (S:=(fun V=>Below (w.heap.size+1) (w.alloc (.cells #[.string name,.int .i64 pence,.int .i64 fo] 62)) V∧V.cell? ⟨w.heap.size,1,none⟩=some (.int .i64 pence)∧V.cell? ⟨w.heap.size,2,none⟩=some (.int .i64 fo)∧V.cell? ⟨B,0,none⟩=some (.slice ac m.claimants.length cc)∧w.heap.size<V.heap.size∧B<V.heap.size)) (by kernel_rfl) (KE.out _ (Zah hQ3)) (fun hHeld=>?_)
     ((refine tkH 0 ?_;simp only[frT]);(refine tkH 1 ?_;simp only[frT]);(refine wpAnyH_ready (rs:=[2]) (by kernel_rfl) (by simp) ?_;refine AllReadyH.cons rfl (fun K hK=>?_) AllReadyH.nil;go_simp);refine hK.out _ _ (KE.out _ (Zah (hQ3.alloc hz3 _))) (fun hHeld=>?_);(try simp only[frT]);clear hK;(refine wpAnyH_ready (rs:=[3]) (by kernel_rfl) (by simp) ?_;refine AllReadyH.cons rfl (fun K hK=>?_) AllReadyH.nil;go_simp);(go_wp2_with (go_at_call 113;go_must (refine(B1.out _ _ ?_).mono ?_;(simp);rintro e w4 ⟨rfl,hb4⟩;dsimp only)));have hQ4:=(Zah (hQ3.alloc hz3 (.cells #[.int .i64 pence] 3))).trans (hb4.mono (by simp;omega));refine hK.out _ _ (KE.out _ hQ4) (fun hHeld=>?_);(try simp only[frT]);clear hK;(refine tkH 4 ?_;simp only[frT]))
     (refine skH 5 ?_;simp only[frT])
     (refine skH 6 ?_;simp only[frT])
     (refine skH 7 ?_;simp only[frT])
     (refine skH 8 ?_;simp only[frT])
     (refine skH 9 ?_;simp only[frT])
     (refine skH 10 ?_;simp only[frT])
     (refine skH 11 ?_;simp only[frT])
     (refine skH 12 ?_;simp only[frT])
     (refine skH 13 ?_;simp only[frT])
     (refine tkH 14 ?_;simp only[frT])
     (refine tkH 15 ?_;simp only[frT])
     exact wpAnyH_done (by kernel_rfl) ⟨rfl,hQ4⟩ _
    intro W hW
    go_wp2
    go_ret
    exact⟨Za7 (by rw[HE.out];simp),Zaf hW⟩
   ·refine wp_region_held_drew (S:=(fun V=>Below (w.heap.size+1) (w.alloc (.cells #[.string name,.int .i64 pence,.int .i64 fo] 62)) V∧V.cell? ⟨w.heap.size,1,none⟩=some (.int .i64 pence)∧V.cell? ⟨w.heap.size,2,none⟩=some (.int .i64 fo)∧V.cell? ⟨B,0,none⟩=some (.slice ac m.claimants.length cc)∧w.heap.size<V.heap.size∧B<V.heap.size)) (by kernel_rfl) (KE.out _ (Zah hQ3)) (fun hHeld=>?_)
    ((refine tkH 0 ?_;simp only[frT]);(refine tkH 1 ?_;simp only[frT]);(refine wpAnyH_ready (rs:=[2]) (by kernel_rfl) (by simp) ?_;refine AllReadyH.cons rfl (fun K hK=>?_) AllReadyH.nil;go_simp);refine hK.out _ _ (KE.out _ (Zah (hQ3.alloc hz3 _))) (fun hHeld=>?_);(try simp only[frT]);clear hK;(refine wpAnyH_ready (rs:=[3]) (by kernel_rfl) (by simp) ?_;refine AllReadyH.cons rfl (fun K hK=>?_) AllReadyH.nil;go_simp);(go_wp2_with (go_at_call 113;go_must (refine(B1.out _ _ ?_).mono ?_;(simp);rintro e w4 ⟨rfl,hb4⟩;dsimp only)));have hQ4:=(Zah (hQ3.alloc hz3 (.cells #[.int .i64 pence] 3))).trans (hb4.mono (by simp;omega));refine hK.out _ _ (KE.out _ hQ4) (fun hHeld=>?_);(try simp only[frT]);clear hK;(refine tkH 4 ?_;simp only[frT]))
    (refine tkH 5 ?_;simp only[frT])
    (refine tkH 6 ?_;simp only[frT])
    (refine tkH 7 ?_;simp only[frT])
    (refine tkH 8 ?_;simp only[frT])
    (refine tkH 9 ?_;simp only[frT])
    (refine tkH 10 ?_;simp only[frT])
    (refine tkH 11 ?_;simp only[frT])
    (refine wpAnyH_ready (rs:=[12]) (by kernel_rfl) (by simp) ?_;refine AllReadyH.cons rfl (fun K hK=>?_) AllReadyH.nil;go_simp)
    refine hK.out _ _ (KE.out _ (hQ4.alloc (by have:=hQ4.size;simpa using this) _)) (fun hHeld=>?_)
    (try simp only[frT])
    clear hK
    (refine wpAnyH_ready (rs:=[13]) (by kernel_rfl) (by simp) ?_;refine AllReadyH.cons rfl (fun K hK=>?_) AllReadyH.nil;go_simp)
    go_wp2_with (go_at_call 113;go_must (refine(B2.out _ _ ?_).mono ?_;(simp);rintro e w5 ⟨rfl,hb5⟩;dsimp only))
    have hQ5:=(hQ4.alloc (by have:=hQ4.size;simpa using this) (.cells #[.int .i64 fo] 3)).trans (hb5.mono (by have:=hQ4.size;simp at this ⊢;omega))
    refine hK.out _ _ (KE.out _ hQ5) (fun hHeld=>?_)
    (try simp only[frT])
    clear hK
    (refine tkH 14 ?_;simp only[frT])
    (refine tkH 15 ?_;simp only[frT])
    refine wpAnyH_done (by kernel_rfl) ?_ _
    cases fb
    ·go_wp2
     go_ret
     exact⟨Za7 (by rw[HE.out];simp),Zaf hQ5⟩
    ·go_wp2
     go_ret
     exact⟨Za7 (by rw[HE.out];simp),Zaf hQ5⟩
  ·go_enter Tryz.func153,Tryz.ntmps153
   go_wp2_with (first
    |(go_at_call 154;go_must (refine(K.out _ _ (Zaf hQ2) n0).mono ?_;rintro e w3 ⟨rfl,hb3⟩;dsimp only))
    |(go_at_call 29;go_must (refine(N.out _).mono ?_;rintro e w2 ⟨rfl,hb2⟩;have hQ2:=Zaz hQ hb2;have n0:=Zaj hQ2 0 _ rfl;have d1:=Zab (Zaf hQ2) c1;have hB2:=Zag d1;dsimp only)))
   go_ret
   exact⟨Za7 (by rw[HE.out];simp),Zaf (Zaz hQ2 hb3)⟩
end
section
open Go Go.RowKit
theorem Zzm (ac az aw ap:Option Addr) (cc cz cw cp:Nat) (m:MoList) (B:Nat) (w:World) (hm:ListC w ac az aw ap cc cz cw cp m) (hn4:m.claimants.length≤4) (c0:w.cell? ⟨B,0,none⟩=some (.slice ac m.claimants.length cc)) (c1:w.cell? ⟨B,1,none⟩=some (.slice az m.sums.length cz)):
  Calls Tryz.prog 152 #[.slice az m.sums.length cz,.int .i64 5,.func (.func 153) #[] #[.pointer (some ⟨B,0,none⟩)]] w fun e w'=>e=.returned (.tuple #[.int .i64 (Zcb m.sums.length 5 (Zc2 m)).1,.int .i64 (Zcb m.sums.length 5 (Zc2 m)).2])∧Below w.heap.size w w':=by
 have l1:=hm.okz.len
 obtain⟨r,hr⟩:∃r,r=Zcb m.sums.length 5 (Zc2 m):=⟨_,rfl⟩
 rw[←hr]
 have Hr:=LH hr
 clear hr
 by_cases hlong:5<m.sums.length
 ·have hl2:(5:Int)<(m.sums.length:Int):=by omega
  go_enter Tryz.func152,Tryz.ntmps152
  go_wp2
  go_ret2
  have:=Hr.out.trans (Zg4 hlong)
  subst this
  exact⟨rfl,by go_grown⟩
 ·have hl2:¬(5:Int)<(m.sums.length:Int):=by omega
  go_enter Tryz.func152,Tryz.ntmps152
  go_wp2
  go_loopw [17] (fun i wr=>∃k:Nat,k≤m.sums.length∧i=.int .i64 k∧Hid (∀j,j<k→Zc2 m j=0)∧Below w.heap.size w wr) (fun i _=>m.sums.length-(intOf i).toNat)
  case atStart=>exact⟨0,Nat.zero_le _,rfl,LH (fun j h=>absurd h (Nat.not_lt_zero j)),Below.refl _ _⟩
  case round=>
   obtain⟨k,hk,rfl,HZ,hbw⟩:=hrel
   by_cases hlt:k<m.sums.length
   ·have K:=LH (fun(W:World) (h:Below w.heap.size w W)=>Zvt ac az aw ap cc cz cw cp m k B W (hm.mono h) hn4 hlt (Zab h c0) (Zab h c1))
    obtain⟨b,off,rfl,hb,e1,e2,e3⟩:=(hm.mono hbw).sums k hlt
    have HE:=LH (fun(h:Zc2 m k≠0)=>Hr.out.trans (Zik (by omega) hlt HZ.out h))
    have HN:=LH (fun(h:Zc2 m k=0)=>show ∀j,j<k+1→Zc2 m j=0 from fun j hj=>if hjk:j<k then HZ.out j hjk else (by have e:j=k:=(by omega);subst e;exact h))
    generalize Zc2 m k=x at K HE HN
    generalize m.sums[k]=s at K e1 e2 e3
    obtain⟨name,pence,fo⟩:=s
    simp only at K e1 e2 e3
    by_cases hx:x=0
    ·have hx2:=Zdf hx
     replace HN:=LH (HN.out hx)
     subst hx
     clear HE
     go_wp2_with (go_at_call 153;go_must (refine(K.out _ (hbw.alloc hbw.size _)).mono ?_;rintro e w2 ⟨rfl,hb2⟩;have hbn:=(hbw.alloc hbw.size (.cells #[.string name,.int .i64 pence,.int .i64 fo] 62)).trans (hb2.mono (by have:=hbw.size;simp;omega));dsimp only))
     go_roundw
     case rel=>exact⟨k+1,by omega,by go_num,HN,hbn⟩
     case measure=>simp[intOf];omega
    ·have hx2:=Zcp hx
     replace HE:=LH (HE.out hx)
     clear HN hx
     go_wp2_with (go_at_call 153;go_must (refine(K.out _ (hbw.alloc hbw.size _)).mono ?_;rintro e w2 ⟨rfl,hb2⟩;have hbn:=(hbw.alloc hbw.size (.cells #[.string name,.int .i64 pence,.int .i64 fo] 62)).trans (hb2.mono (by have:=hbw.size;simp;omega));dsimp only))
     go_ret2
     have:=HE.out
     subst this
     exact⟨rfl,hbn⟩
   ·obtain rfl:k=m.sums.length:=by omega
    go_wp2
    go_ret2
    have:=Hr.out.trans (Zkp (by omega) HZ.out)
    subst this
    exact⟨rfl,hbw⟩
theorem Zjo (part:Int) (n most:Nat) (f:Nat→Int) (next:Int × Int × Int) (h:(Zcb n most f).2≠0):Zav part n most f next=(part,(Zcb n most f).1,(Zcb n most f).2):=by
 unfold Zav
 unfold Zcb at h ⊢
 by_cases hl:most<n
 ·rw[if_pos hl];simp[hl]
 ·rw[if_neg hl] at h ⊢
  rw[if_neg hl]
  cases hf:Zdn n f with
  |none=>rw[hf] at h;exact absurd rfl h
  |some i=>rfl
theorem Zj1 (part:Int) (n most:Nat) (f:Nat→Int) (next:Int × Int × Int) (h:(Zcb n most f).2=0):Zav part n most f next=next∧n≤most:=by
 unfold Zav
 unfold Zcb at h
 by_cases hl:most<n
 ·rw[if_pos hl] at h;simp at h
 ·rw[if_neg hl] at h ⊢
  cases hf:Zdn n f with
  |none=>exact⟨rfl,by omega⟩
  |some i=>
   rw[hf] at h
   have h2:=List.find?_some (p:=fun i=>f i != 0) hf
   simp at h2
   exact absurd h h2
theorem Z0n (ac az aw ap:Option Addr) (cc cz cw cp:Nat) (m:MoList) (w:World) (hm:ListC w ac az aw ap cc cz cw cp m):
  Calls Tryz.prog 112 #[(.agg #[.slice ac m.claimants.length cc,.slice az m.sums.length cz,.slice aw m.words.length cw,.slice ap m.paid.length cp])] w fun e w'=>e=.returned (.tuple #[.int .i64 (check m).1,.int .i64 (check m).2.1,.int .i64 (check m).2.2])∧Below w.heap.size w w':=by
 have HC:Hid (check m=Zav 1 m.claimants.length 4 (Zbk m) (Zav 2 m.sums.length 5 (Zc2 m) (Zav 3 m.words.length 6 (Zbv m) (Zav 4 m.paid.length 5 (Zbf m) (0,0,0))))):=rfl
 obtain⟨r,hr⟩:∃r,r=check m:=⟨_,rfl⟩
 rw[←hr]
 rw[←hr] at HC
 clear hr
 have hQ:=Below.refl (w.heap.size+1) (w.alloc (.cells #[.slice ac m.claimants.length cc,.slice az m.sums.length cz,.slice aw m.words.length cw,.slice ap m.paid.length cp] 54))
 obtain⟨c0,c1,c2,c3⟩:=Zax hQ
 have hbz:=Zai hQ
 have F1:=LH (fun(W:World) (h:Below (w.heap.size+1) (w.alloc (.cells #[.slice ac m.claimants.length cc,.slice az m.sums.length cz,.slice aw m.words.length cw,.slice ap m.paid.length cp] 54)) W)=>Zxz ac az aw ap cc cz cw cp m w.heap.size W (hm.mono (Zaf h)) (Zax h).1)
 have F2:=LH (fun(W:World) (h:Below (w.heap.size+1) (w.alloc (.cells #[.slice ac m.claimants.length cc,.slice az m.sums.length cz,.slice aw m.words.length cw,.slice ap m.paid.length cp] 54)) W) (h4:m.claimants.length≤4)=>Zzm ac az aw ap cc cz cw cp m w.heap.size W (hm.mono (Zaf h)) h4 (Zax h).1 (Zax h).2.1)
 have F3:=LH (fun(W:World) (h:Below (w.heap.size+1) (w.alloc (.cells #[.slice ac m.claimants.length cc,.slice az m.sums.length cz,.slice aw m.words.length cw,.slice ap m.paid.length cp] 54)) W)=>Z0r ac az aw ap cc cz cw cp m w.heap.size W (hm.mono (Zaf h)) (Zax h).1 (Zax h).2.1 (Zax h).2.2.1)
 have F4:=LH (fun(W:World) (h:Below (w.heap.size+1) (w.alloc (.cells #[.slice ac m.claimants.length cc,.slice az m.sums.length cz,.slice aw m.words.length cw,.slice ap m.paid.length cp] 54)) W)=>Zzt ac az aw ap cc cz cw cp m w.heap.size W (hm.mono (Zaf h)) (Zax h).1 (Zax h).2.1)
 have P1:=LH (Zjo 1 m.claimants.length 4 (Zbk m) (Zav 2 m.sums.length 5 (Zc2 m) (Zav 3 m.words.length 6 (Zbv m) (Zav 4 m.paid.length 5 (Zbf m) (0,0,0)))))
 have P2:=LH (Zjo 2 m.sums.length 5 (Zc2 m) (Zav 3 m.words.length 6 (Zbv m) (Zav 4 m.paid.length 5 (Zbf m) (0,0,0))))
 have P3:=LH (Zjo 3 m.words.length 6 (Zbv m) (Zav 4 m.paid.length 5 (Zbf m) (0,0,0)))
 have P4:=LH (Zjo 4 m.paid.length 5 (Zbf m) (0,0,0))
 have N1:=LH (Zj1 1 m.claimants.length 4 (Zbk m) (Zav 2 m.sums.length 5 (Zc2 m) (Zav 3 m.words.length 6 (Zbv m) (Zav 4 m.paid.length 5 (Zbf m) (0,0,0)))))
 have N2:=LH (Zj1 2 m.sums.length 5 (Zc2 m) (Zav 3 m.words.length 6 (Zbv m) (Zav 4 m.paid.length 5 (Zbf m) (0,0,0))))
 have N3:=LH (Zj1 3 m.words.length 6 (Zbv m) (Zav 4 m.paid.length 5 (Zbf m) (0,0,0)))
 have N4:=LH (Zj1 4 m.paid.length 5 (Zbf m) (0,0,0))
 generalize Zav 1 m.claimants.length 4 (Zbk m) (Zav 2 m.sums.length 5 (Zc2 m) (Zav 3 m.words.length 6 (Zbv m) (Zav 4 m.paid.length 5 (Zbf m) (0,0,0))))=r1 at *
 generalize Zav 2 m.sums.length 5 (Zc2 m) (Zav 3 m.words.length 6 (Zbv m) (Zav 4 m.paid.length 5 (Zbf m) (0,0,0)))=r2 at *
 generalize Zav 3 m.words.length 6 (Zbv m) (Zav 4 m.paid.length 5 (Zbf m) (0,0,0))=r3 at *
 generalize Zav 4 m.paid.length 5 (Zbf m) (0,0,0)=r4 at *
 generalize Zcb m.claimants.length 4 (Zbk m)=f1 at *
 generalize Zcb m.sums.length 5 (Zc2 m)=f2 at *
 generalize Zcb m.words.length 6 (Zbv m)=f3 at *
 generalize Zcb m.paid.length 5 (Zbf m)=f4 at *
 obtain⟨a1,x1⟩:=f1
 obtain⟨a2,x2⟩:=f2
 obtain⟨a3,x3⟩:=f3
 obtain⟨a4,x4⟩:=f4
 simp only at F1 F2 F3 F4 P1 P2 P3 P4 N1 N2 N3 N4
 go_enter Tryz.func112,Tryz.ntmps112
 by_cases h1:x1=0
 ·have k1:=Zdf h1
  have HC:=LH (HC.out.trans (N1.out h1).1)
  have hn4:=(N1.out h1).2
  clear h1
  by_cases h2:x2=0
  ·have k2:=Zdf h2
   have HC:=LH (HC.out.trans (N2.out h2).1)
   clear h2
   by_cases h3:x3=0
   ·have k3:=Zdf h3
    have HC:=LH (HC.out.trans (N3.out h3).1)
    clear h3
    by_cases h4:x4=0
    ·have k4:=Zdf h4
     have HR:=LH (HC.out.trans (N4.out h4).1)
     clear h4
     go_wp2_with (first|(go_at_call 158;go_must (refine(F4.out _ hQ4).mono ?_;rintro e w5 ⟨rfl,hb5⟩;have hQ5:=Zaz hQ4 hb5;dsimp only))|(go_at_call 156;go_must (refine(F3.out _ hQ3).mono ?_;rintro e w4 ⟨rfl,hb4⟩;have hQ4:=Zaz hQ3 hb4;obtain⟨g0,g1',g2',g3'⟩:=Zax hQ4;have hbz4:=Zai hQ4;dsimp only))|(go_at_call 152;go_must (refine(F2.out _ hQ2 hn4).mono ?_;rintro e w3 ⟨rfl,hb3⟩;have hQ3:=Zaz hQ2 hb3;obtain⟨e0,e1,e2,e3⟩:=Zax hQ3;have hbz3:=Zai hQ3;dsimp only))|(go_at_call 149;go_must (refine(F1.out _ hQ).mono ?_;rintro e w2 ⟨rfl,hb2⟩;have hQ2:=Zaz hQ hb2;obtain⟨d0,d1,d2,d3⟩:=Zax hQ2;have hbz2:=Zai hQ2;dsimp only)))
     go_ret3
     have hr:=HR.out
     subst hr
     exact⟨rfl,Zaf hQ5⟩
    ·have k4:=Zcp h4
     have HR:=LH (HC.out.trans (P4.out h4))
     clear h4
     go_wp2_with (first|(go_at_call 158;go_must (refine(F4.out _ hQ4).mono ?_;rintro e w5 ⟨rfl,hb5⟩;have hQ5:=Zaz hQ4 hb5;dsimp only))|(go_at_call 156;go_must (refine(F3.out _ hQ3).mono ?_;rintro e w4 ⟨rfl,hb4⟩;have hQ4:=Zaz hQ3 hb4;obtain⟨g0,g1',g2',g3'⟩:=Zax hQ4;have hbz4:=Zai hQ4;dsimp only))|(go_at_call 152;go_must (refine(F2.out _ hQ2 hn4).mono ?_;rintro e w3 ⟨rfl,hb3⟩;have hQ3:=Zaz hQ2 hb3;obtain⟨e0,e1,e2,e3⟩:=Zax hQ3;have hbz3:=Zai hQ3;dsimp only))|(go_at_call 149;go_must (refine(F1.out _ hQ).mono ?_;rintro e w2 ⟨rfl,hb2⟩;have hQ2:=Zaz hQ hb2;obtain⟨d0,d1,d2,d3⟩:=Zax hQ2;have hbz2:=Zai hQ2;dsimp only)))
     go_ret3
     have hr:=HR.out
     subst hr
     exact⟨rfl,Zaf hQ5⟩
   ·have k3:=Zcp h3
    have HR:=LH (HC.out.trans (P3.out h3))
    clear h3
    go_wp2_with (first|(go_at_call 156;go_must (refine(F3.out _ hQ3).mono ?_;rintro e w4 ⟨rfl,hb4⟩;have hQ4:=Zaz hQ3 hb4;obtain⟨g0,g1',g2',g3'⟩:=Zax hQ4;have hbz4:=Zai hQ4;dsimp only))|(go_at_call 152;go_must (refine(F2.out _ hQ2 hn4).mono ?_;rintro e w3 ⟨rfl,hb3⟩;have hQ3:=Zaz hQ2 hb3;obtain⟨e0,e1,e2,e3⟩:=Zax hQ3;have hbz3:=Zai hQ3;dsimp only))|(go_at_call 149;go_must (refine(F1.out _ hQ).mono ?_;rintro e w2 ⟨rfl,hb2⟩;have hQ2:=Zaz hQ hb2;obtain⟨d0,d1,d2,d3⟩:=Zax hQ2;have hbz2:=Zai hQ2;dsimp only)))
    go_ret3
    have hr:=HR.out
    subst hr
    exact⟨rfl,Zaf hQ4⟩
  ·have k2:=Zcp h2
   have HR:=LH (HC.out.trans (P2.out h2))
   clear h2
   go_wp2_with (first|(go_at_call 152;go_must (refine(F2.out _ hQ2 hn4).mono ?_;rintro e w3 ⟨rfl,hb3⟩;have hQ3:=Zaz hQ2 hb3;obtain⟨e0,e1,e2,e3⟩:=Zax hQ3;have hbz3:=Zai hQ3;dsimp only))|(go_at_call 149;go_must (refine(F1.out _ hQ).mono ?_;rintro e w2 ⟨rfl,hb2⟩;have hQ2:=Zaz hQ hb2;obtain⟨d0,d1,d2,d3⟩:=Zax hQ2;have hbz2:=Zai hQ2;dsimp only)))
   go_ret3
   have hr:=HR.out
   subst hr
   exact⟨rfl,Zaf hQ3⟩
 ·have k1:=Zcp h1
  have HR:=LH (HC.out.trans (P1.out h1))
  clear h1
  go_wp2_with (first|(go_at_call 149;go_must (refine(F1.out _ hQ).mono ?_;rintro e w2 ⟨rfl,hb2⟩;have hQ2:=Zaz hQ hb2;obtain⟨d0,d1,d2,d3⟩:=Zax hQ2;have hbz2:=Zai hQ2;dsimp only)))
  go_ret3
  have hr:=HR.out
  subst hr
  exact⟨rfl,Zaf hQ2⟩
end
section
theorem Zlv (m:MoList) (more:Nat) (i:Nat):∀k,k≤m.words.length→(Zb4 m more k).testBit i=(more.testBit i||(decide (i<k)&&match m.words[i]? with|some w=>w.came|none=>false))
 |0,_=>by simp[Zb4]
 |k+1,hk=>by
  have ih:=Zlv m more i k (by omega)
  have hk':k<m.words.length:=by omega
  cases hc:m.words[k].came
  ·rw[Zm5 m more k hk' hc,ih]
   by_cases hi:i=k
   ·subst hi
    simp[hk',hc]
   ·have:decide (i<k+1)=decide (i<k):=by rw[decide_eq_decide];omega
    rw[this]
  ·rw[Zl5 m more k hk' hc,Nat.testBit_or,ih,Nat.one_shiftLeft,Nat.testBit_two_pow]
   by_cases hi:i=k
   ·subst hi
    simp[hk',hc]
   ·have:decide (i<k+1)=decide (i<k):=by rw[decide_eq_decide];omega
    rw[this]
    have:decide (k=i)=false:=by simp;omega
    rw[this]
    simp
theorem Zfm (m:MoList) (more i:Nat) (h:i<m.words.length):(Zau m more).testBit i=(more.testBit i||m.words[i].came):=by
 unfold Zau
 rw[Zlv m more i _ (Nat.le_refl _)]
 simp[h]
theorem Zdz (m:MoList):Zam m (Zau m 0)=m:=by
 have h:m.words.mapIdx (Zg8 (Zau m 0))=m.words:=by
  apply List.ext_getElem (by simp)
  intro i h1 h2
  simp only[List.getElem_mapIdx]
  unfold Zg8
  rw[Zfm m 0 i h2]
  simp
 unfold Zam
 rw[h]
def Zde (m:MoList) (many:Int) (ns:List Int):Int:=if Zf4 m=0 then (if ns.any (fun n=>decide (n<0)||decide (many-1<n)) then 4 else if (Zao m).length=0 then 8 else 0) else Zf4 m
theorem Ze9 (m:MoList):Zde m 0 []=Za0 m:=by
 unfold Zde Za0 Zfx
 by_cases h:Zf4 m=0
 ·rw[if_pos h,if_pos h];simp
 ·rw[if_neg h,if_neg h]
theorem Zs0 (m:MoList) (n many:Int):Zde m many [n]=Zfx m (Zee m n many):=by
 unfold Zde Zfx Zee
 by_cases h:Zf4 m=0
 ·rw[if_pos h,if_pos h]
  by_cases h2:0≤n∧n≤many-1
  ·rw[if_pos (Zbx.2 h2)]
   have e1:decide (n<0)=false:=by simp;omega
   have e2:decide (many-1<n)=false:=by simp;omega
   simp[e1,e2]
  ·have e:inB n 0 (many-1)=false:=Z6v.2 (by omega)
   rw[e]
   have:(decide (n<0)||decide (many-1<n))=true:=by simp;omega
   simp[this]
 ·rw[if_neg h,if_neg h,if_neg h]
end
end Go.Proofs.YtklconegomgjaaaGreat
