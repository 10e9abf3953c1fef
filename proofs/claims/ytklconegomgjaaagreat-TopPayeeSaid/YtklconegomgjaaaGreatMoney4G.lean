/- What is proved here: contracts of the small helpers of the references (In, Inside, Has, Rising, Bit, Less, Fewer, Ints). Conditions: slices are of lengths that a machine can hold. -/
import Derived.Test.YtklconegomgjaaaGreatProg
import Derived.Test.YtklconegomgjaaaGreatMoFactsG
import Derived.Test.YtklconegomgjaaaGreatBeyondG
import Derived.Laws.RangeAny
import Derived.Test.YtklconegomgjaaaGreatInfoG
set_option linter.all false
set_option maxRecDepth 100000
set_option maxHeartbeats 16000000
namespace Go.Proofs.YtklconegomgjaaaGreat
section
open Go Go.RowKit
theorem Zd1 (n lo hi:Int) (w:World):Calls Tryz.prog 19 #[.int .i64 n,.int .i64 lo,.int .i64 hi] w fun e w'=>e=.returned (.bool (inB n lo hi))∧w'=w:=by
 have h:=@Zbx n lo hi
 have h2:=@Z6v n lo hi
 generalize inB n lo hi=c at h h2 ⊢
 go_enter Tryz.func19,Tryz.ntmps19
 cases c
 ·have h3:n<lo∨hi<n:=by simpa using h2
  clear h h2
  go_wp2
  all_goals (go_ret;simp<;>omega)
 ·have h3:lo≤n∧n≤hi:=by simpa using h
  obtain⟨h4,h5⟩:=h3
  clear h h2
  go_wp2
  all_goals (go_ret;simp)
theorem Zvj (a:Option Addr) (l:List Int) (c:Nat) (n:Int) (w:World) (hl:l.length≤9223372036854775807) (hi:Zaw w a l):
  Calls Tryz.prog 17 #[.slice a l.length c,.int .i64 n] w fun e w'=>e=.returned (.bool (hasB l n))∧w'=w:=by
 obtain⟨F,hF⟩:∃F:Nat→Bool,F=fun j=>hasB (l.take j) n:=⟨_,rfl⟩
 have F0:Hid (F 0=false):=by rw[hF];exact(rfl:hasB (l.take 0) n=false)
 have Fs:Hid (∀j (h:j<l.length),F (j+1)=(F j||(l[j]==n))):=by rw[hF];exact fun j h=>Z37 l j h n
 have Fe:Hid (F l.length=hasB l n):=by rw[hF];show hasB (l.take l.length) n=hasB l n;rw[List.take_length]
 clear hF
 go_enter Tryz.func17,Tryz.ntmps17
 go_wp2
 go_loop [5,6] (fun m i=>∃k:Nat,k≤l.length∧i=.int .i64 k∧m=.bool (F k)) (fun _ i=>l.length-(intOf i).toNat)
 case atStart=>exact⟨0,Nat.zero_le _,rfl,Zw4 F0.out.symm⟩
 case round=>
  obtain⟨k,hk,rfl,rfl⟩:=hrel
  by_cases hlt:k<l.length
  ·obtain⟨b,off,rfl,_,h1⟩:=hi k hlt
   have H:=LH (Fs.out k hlt)
   generalize F k=c0 at H ⊢
   generalize l[k]=x at H h1
   cases c0
   all_goals go_wp2
   all_goals go_round
   all_goals try (simp[intOf];omega;done)
   all_goals exact⟨k+1,by omega,by go_num,Zw4 (by rw[H.out];simp)⟩
  ·go_wp2
   go_ret
   exact⟨Zaq (by rw[←Fe.out];congr 1;omega),rfl⟩
theorem Z8x (n k:Int) (w:World) (hk:0≤k) (hk2:k≤1000) (h1:-9223372036854775808≤n) (h2:n≤9223372036854775807):
  Calls Tryz.prog 180 #[.int .i64 n,.int .i64 k] w fun e w'=>e=.returned (.bool (bitB n k.toNat))∧w'=w:=by
 obtain⟨r,hr⟩:∃r,r=bitB n k.toNat:=⟨_,rfl⟩
 rw[←hr]
 obtain⟨K,rfl⟩:=Int.eq_ofNat_of_zero_le hk
 have Hr:=LH hr
 clear hr
 go_enter Tryz.func180,Tryz.ntmps180
 go_wp2
 go_loop [0,5] (fun m i=>∃(j:Nat) (x:Int),j≤K∧i=.int .i64 j∧m=.int .i64 x∧-9223372036854775808≤x∧x≤9223372036854775807∧Hid (r=bitB x (K-j))) (fun _ i=>K-(intOf i).toNat)
 case atStart=>exact⟨0,n,Nat.zero_le _,rfl,rfl,h1,h2,LH (by simpa using Hr.out)⟩
 case round=>
  obtain⟨j,x,hj,rfl,rfl,hx1,hx2,HR⟩:=hrel
  by_cases hlt:j<K
  ·have hb:=Z8f x hx1 hx2
   go_wp2
   go_round
   case rel=>exact⟨j+1,x.tdiv 2,by omega,by go_num,rfl,hb.1,hb.2,LH (by rw[HR.out,show K-j=(K-(j+1))+1 from by omega,Z5b])⟩
   case measure=>simp[intOf];omega
  ·go_wp2
   go_ret
   exact⟨Zaq (by rw[HR.out,show K-j=0 from by omega,Z5l];exact(Bool.beq_eq_decide_eq _ _)),rfl⟩
theorem Zxn (a b:Option Addr) (l m:List Int) (c d:Nat) (w:World) (hl:l.length≤9223372036854775807) (hm:m.length≤9223372036854775807) (hi:Zaw w a l) (hj:Zaw w b m):
  Calls Tryz.prog 75 #[.slice a l.length c,.slice b m.length d] w fun e w'=>e=.returned (.bool (less l m))∧∃q,w'=w.drewN q:=by
 obtain⟨r,hr⟩:∃r,r=less l m:=⟨_,rfl⟩
 rw[←hr]
 have Hr:=LH hr
 clear hr
 go_enter Tryz.func75,Tryz.ntmps75
 go_wp2
 go_loopw [5] (fun i wr=>∃(k q:Nat),k≤l.length∧k≤m.length∧i=.int .i64 k∧wr=w.drewN q∧Hid (r=less (l.drop k) (m.drop k))) (fun i _=>l.length-(intOf i).toNat)
 case atStart=>exact⟨0,0,Nat.zero_le _,Nat.zero_le _,rfl,rfl,LH (by rw[Hr.out];rfl)⟩
 case round=>
  obtain⟨k,q,hk,hk2,rfl,rfl,HR⟩:=hrel
  by_cases h1:k<l.length
  ·by_cases h2:k<m.length
   ·obtain⟨b1,off1,rfl,_,g1⟩:=hi k h1
    obtain⟨b2,off2,rfl,_,g2⟩:=hj k h2
    have H:=LH (Z2j l m k h1 h2)
    generalize l[k]=x at H g1
    generalize m[k]=y at H g2
    by_cases hxy:x=y
    ·subst hxy
     have H:=LH (H.out.trans (if_pos rfl))
     go_wp2
     go_quiet (fail)
     go_wp2
     go_roundw
     case rel=>exact⟨k+1,q+nq,by omega,by omega,by go_num,by simp,LH (HR.out.trans H.out)⟩
     case measure=>simp[intOf];omega
    ·have hb:(x==y)=false:=by simpa using hxy
     have H:=LH (H.out.trans (if_neg hxy))
     have hd:((k:Int)==(m.length:Int))=false:=by simp;omega
     have hd2:((k:Int)==(l.length:Int))=false:=by simp;omega
     go_wp2
     go_quiet (fail)
     go_wp2
     go_quiet (fail)
     go_wp2
     go_ret
     exact⟨Zaq (by rw[HR.out,H.out]),_,by first|rfl|(simp;rfl)⟩
   ·have hd:decide ((k:Int)<(m.length:Int))=false:=by simp;omega
    have hd2:((k:Int)==(m.length:Int))=true:=by simp;omega
    go_wp2
    go_quiet (fail)
    go_wp2
    go_ret
    exact⟨Zaq (by rw[HR.out,Zxm _ _ _ (by omega)]),_,by first|rfl|(simp;rfl)⟩
  ·have hd0:decide ((k:Int)<(l.length:Int))=false:=by simp;omega
   by_cases h2:k<m.length
   ·have hd2:((k:Int)==(m.length:Int))=false:=by simp;omega
    have hd3:((k:Int)==(l.length:Int))=true:=by simp;omega
    go_wp2
    go_quiet (fail)
    go_wp2
    go_quiet (fail)
    go_wp2
    go_ret
    exact⟨Zaq (by rw[HR.out,Zyr _ _ _ (by omega) h2]),_,by first|rfl|(simp;rfl)⟩
   ·have hd2:((k:Int)==(m.length:Int))=true:=by simp;omega
    go_wp2
    go_quiet (fail)
    go_wp2
    go_ret
    exact⟨Zaq (by rw[HR.out,Zxm _ _ _ (by omega)]),_,by first|rfl|(simp;rfl)⟩
theorem Zwm (a b:Option Addr) (l m:List Int) (c d:Nat) (w:World) (hl:l.length≤9223372036854775807) (hm:m.length≤9223372036854775807) (hi:Zaw w a l) (hj:Zaw w b m):
  Calls Tryz.prog 28 #[.slice a l.length c,.slice b m.length d] w fun e w'=>e=.returned (.bool (Zoe l m))∧∃q,w'=w.drewN q:=by
 go_enter Tryz.func28,Tryz.ntmps28
 by_cases h:l.length=m.length
 ·have hd:=Zse h
  have h1:less l m=less l m:=rfl
  have H:Hid (Zoe l m=(!less l m&&!less m l)):=by show Zoe l m=_;simp[Zoe,h]
  have C1:=fun w' hi hj=>Zxn a b l m c d w' hl hm hi hj
  have C2:=fun w' hi hj=>Zxn b a m l d c w' hm hl hi hj
  generalize less l m=b1 at *
  generalize less m l=b2 at *
  have C1:=LH C1
  have C2:=LH C2
  clear h h1
  cases b1
  ·go_wp2_with fail
   refine(C1.out _ hi hj).mono ?_
   rintro e w' ⟨rfl,q,rfl⟩
   go_wp2_with fail
   refine(C2.out _ (fun i h=>by simpa using hj i h) (fun i h=>by simpa using hi i h)).mono ?_
   rintro e w' ⟨rfl,q2,rfl⟩
   go_wp2
   go_ret
   exact⟨Zaq (by rw[H.out];simp),q+q2,by simp⟩
  ·go_wp2_with fail
   refine(C1.out _ hi hj).mono ?_
   rintro e w' ⟨rfl,q,rfl⟩
   go_wp2
   go_ret
   exact⟨Zaq (by rw[H.out];simp),q,by simp⟩
 ·have hd:=Zoa h
  have H:Hid (Zoe l m=false):=by show Zoe l m=_;simp[Zoe,h]
  clear h
  go_wp2
  go_ret
  exact⟨Zaq H.out.symm,0,rfl⟩
end
section
open Go Go.RowKit Go.PlainAid
theorem Zzx (l:List ByteArray) (s:ByteArray) (k:Nat) (h:k<l.length):
  Zc7 (l.drop k) s k=if l[k]=s then (k:Int) else Zc7 (l.drop (k+1)) s (k+1):=by
 rw[List.drop_eq_getElem_cons h,Zc7]
theorem Z26 (a:Option Addr) (l:List ByteArray) (c:Nat) (s:ByteArray) (w:World) (hl:l.length≤9223372036854775807) (hi:Zgs w a l):
  Calls Tryz.prog 114 #[.slice a l.length c,.string s] w fun e w'=>e=.returned (.int .i64 (Z4k l s))∧w'=w:=by
 obtain⟨r,hr⟩:∃r,r=Z4k l s:=⟨_,rfl⟩
 rw[←hr]
 have Hr:=LH hr
 clear hr
 go_enter Tryz.func114,Tryz.ntmps114
 go_wp2
 go_loop [5] (fun i=>∃(k:Nat),k≤l.length∧i=.int .i64 k∧Hid (r=Zc7 (l.drop k) s k)) (fun i=>l.length-(intOf i).toNat)
 case atStart=>exact⟨0,Nat.zero_le _,rfl,LH (by rw[Hr.out];rfl)⟩
 case round=>
  obtain⟨k,hk,rfl,HR⟩:=hrel
  by_cases hlt:k<l.length
  ·obtain⟨b,off,rfl,_,h1⟩:=hi k hlt
   have H:=LH (Zzx l s k hlt)
   generalize l[k]=y at H h1
   have h0:((k:Int)==(l.length:Int))=false:=Zoa (by omega)
   by_cases hy:y=s
   ·have h2:=Z8i hy
    have H:=LH (H.out.trans (if_pos hy))
    clear hy
    go_wp2
    go_ret
    exact⟨Za7 (by rw[HR.out,H.out]),rfl⟩
   ·have h2:=Z75 hy
    have H:=LH (H.out.trans (if_neg hy))
    go_wp2
    go_round
    case rel=>exact⟨k+1,by omega,by go_num,LH (HR.out.trans H.out)⟩
    case measure=>simp[intOf];omega
  ·have h0:((k:Int)==(l.length:Int))=true:=Zse (by omega)
   go_wp2
   go_ret
   exact⟨Za7 (by rw[HR.out,List.drop_of_length_le (by omega)];rfl),rfl⟩
theorem Zsc (s:ByteArray) (k:Nat) (h:k<s.size):
  Zdd k (s.data.toList.drop k)=((low s[k]||(decide (0<k)&&late s[k]))&&Zdd (k+1) (s.data.toList.drop (k+1))):=by
 rw[List.drop_eq_getElem_cons (by simpa using h),Zdd]
 rfl
theorem Z9g (c:UInt8):low c=inB (c.toNat:Int) 97 122:=by simp only[low,inB];congr 1<;>simp<;>omega
theorem Z8b (c:UInt8):late c=((c.toNat:Int)==46||inB (c.toNat:Int) 48 57):=by
 simp only[late,inB];congr 1
 ·rw[Bool.eq_iff_iff];simp;omega
 ·congr 1<;>simp<;>omega
theorem Zv4 (s:ByteArray) (w:World) (hs:s.size≤9223372036854775807):
  Calls Tryz.prog 115 #[.string s] w fun e w'=>e=.returned (.bool (Zhg s))∧w'=w:=by
 obtain⟨r,hr⟩:∃r,r=Zhg s:=⟨_,rfl⟩
 rw[←hr]
 have Hr:=LH hr
 clear hr
 have hb:=get_bt s
 have C0:Hid (∀n w',Calls Tryz.prog 19 #[.int .i64 n,.int .i64 1,.int .i64 16] w' fun e w''=>e=.returned (.bool (inB n 1 16))∧w''=w'):=fun n w'=>Zd1 _ _ _ _
 have C1:Hid (∀n w',Calls Tryz.prog 19 #[.int .i64 n,.int .i64 48,.int .i64 57] w' fun e w''=>e=.returned (.bool (inB n 48 57))∧w''=w'):=fun n w'=>Zd1 _ _ _ _
 have C2:Hid (∀n w',Calls Tryz.prog 19 #[.int .i64 n,.int .i64 97,.int .i64 122] w' fun e w''=>e=.returned (.bool (inB n 97 122))∧w''=w'):=fun n w'=>Zd1 _ _ _ _
 go_enter Tryz.func115,Tryz.ntmps115
 go_wp2_with fail
 refine(C0.out _ _).mono ?_
 rintro e w' ⟨rfl,rfl⟩
 go_wp2_with fail
 go_loop [3,4] (fun m i=>∃(k:Nat) (f:Bool),k≤s.size∧i=.int .i64 k∧m=.bool f∧Hid (r=(f&&Zdd k (s.data.toList.drop k)))) (fun _ i=>s.size-(intOf i).toNat)
 case atStart=>exact⟨0,_,Nat.zero_le _,rfl,rfl,LH (by rw[Hr.out];unfold Zhg;congr 1;simp[inB];congr 1<;>simp<;>omega)⟩
 case round=>
  obtain⟨k,f,hk,rfl,rfl,HR⟩:=hrel
  by_cases hlt:k<s.size
  ·have H:=LH (Zsc s k hlt)
   have hbk:=hb k hlt
   have b0:=bt_nonneg s k
   have b1:=bt_le s k
   have D1:=C1.out (bt s k)
   have D2:=C2.out (bt s k)
   have HL:Hid (low s[k]=inB (bt s k) 97 122):=by rw[←hbk];exact Z9g _
   have HM:Hid (late s[k]=(bt s k==46||inB (bt s k) 48 57)):=by rw[←hbk];exact Z8b _
   generalize inB (bt s k) 97 122=cL at D2 HL
   generalize inB (bt s k) 48 57=cM at D1 HM
   have D1:=LH D1
   have D2:=LH D2
   have hz:(0<k)∨k=0:=by omega
   clear hb
   by_cases h46:bt s k=46
   all_goals (first|have h46b:=Zdv h46|have h46b:=Zc4 h46)
   all_goals clear h46
   all_goals cases f
   all_goals cases cL
   all_goals rcases hz with hz|rfl
   all_goals
    go_wp2_with (go_at_call 19;first|((with_reducible refine(D1.out _).mono ?_);rintro e w' ⟨rfl,rfl⟩)|((with_reducible refine(D2.out _).mono ?_);rintro e w' ⟨rfl,rfl⟩))
   all_goals go_round
   all_goals try (simp[intOf];omega;done)
   all_goals first|exact⟨k+1,_,by omega,by go_num,rfl,LH (by rw[HR.out,H.out,HL.out,HM.out,h46b];simp[hz])⟩|exact⟨1,_,by omega,by go_num,rfl,LH (by rw[HR.out,H.out,HL.out,HM.out,h46b];simp)⟩
  ·go_wp2
   go_ret
   exact⟨Zaq (by rw[HR.out,List.drop_of_length_le (by simp;omega)];simp[Zdd]),rfl⟩
theorem Z3f (l:List ByteArray) (s:ByteArray) (k:Nat):(Zc7 l s k<0↔hasS l s=false)∧(0≤Zc7 l s k↔hasS l s=true):=by
 induction l generalizing k with
 |nil=>simp[Zc7,hasS]
 |cons x xs ih=>
  have ih:=ih (k+1)
  simp only[hasS] at ih
  rw[Zc7,hasS,List.any_cons]
  by_cases h:x=s
  ·rw[if_pos h]
   simp[h]
  ·rw[if_neg h]
   simpa[h] using ih
theorem Z13 (s:ByteArray) (a:Option Addr) (l:List ByteArray) (c:Nat) (w:World) (hs:s.size≤9223372036854775807) (hl:l.length≤9223372036854775807) (hi:Zgs w a l):
  Calls Tryz.prog 63 #[.string s,.slice a l.length c] w fun e w'=>e=.returned (.int .i64 (Zgr s l))∧w'=w:=by
 have D1:=Zv4 s w hs
 have hw:=Z3f l s 0
 have D2:=Z26 a l c s w hl hi
 unfold Z4k at D2
 have HF:Hid (Zgr s l=if Zhg s then (if hasS l s then 5 else 0) else 6):=rfl
 generalize Zgr s l=r at HF ⊢
 generalize Zc7 l s 0=x at hw D2
 generalize Zhg s=b1 at D1 HF
 generalize hasS l s=b2 at hw HF
 have D1:=LH D1
 have D2:=LH D2
 obtain⟨hw1,hw2⟩:=hw
 go_enter Tryz.func63,Tryz.ntmps63
 cases b2
 ·have hx:x<0:=hw1.2 rfl
  clear hw1 hw2
  cases b1
  all_goals go_wp2_with (first|(go_at_call 114;refine D2.out.mono ?_;rintro e w' ⟨rfl,rfl⟩)|(go_at_call 115;refine D1.out.mono ?_;rintro e w' ⟨rfl,rfl⟩))
  all_goals go_ret
  all_goals exact⟨Za7 (by rw[HF.out];simp),rfl⟩
 ·have hx:0≤x:=hw2.2 rfl
  clear hw1 hw2
  cases b1
  all_goals go_wp2_with (first|(go_at_call 114;refine D2.out.mono ?_;rintro e w' ⟨rfl,rfl⟩)|(go_at_call 115;refine D1.out.mono ?_;rintro e w' ⟨rfl,rfl⟩))
  all_goals go_ret
  all_goals exact⟨Za7 (by rw[HF.out];simp),rfl⟩
end
section
open Go Go.RowKit
theorem Z19 (s:ByteArray) (k:Nat) (h:k<s.size):
  ((low s[k]||(decide (0<k)&&late s[k]))=true∧(Utf8.decode s k).2=1∧((97≤(Utf8.decode s k).1∧(Utf8.decode s k).1≤122)∨(0<k∧(Utf8.decode s k).1=46)∨(0<k∧48≤(Utf8.decode s k).1∧(Utf8.decode s k).1≤57))) ∨
  ((low s[k]||(decide (0<k)&&late s[k]))=false∧((Utf8.decode s k).1<97∨122<(Utf8.decode s k).1)∧(k=0∨((Utf8.decode s k).1≠46∧((Utf8.decode s k).1<48∨57<(Utf8.decode s k).1)))):=by
 by_cases ha:(s[k]'h).toNat<128
 ·rw[decode_ascii s k h ha]
  simp only[low,late]
  generalize (s[k]'h).toNat=c
  cases hg:(decide (97≤c)&&decide (c≤122)||decide (0<k)&&(c==46||decide (48≤c)&&decide (c≤57)))
  ·right
   simp at hg
   refine⟨by trivial,?_,?_⟩<;>omega
  ·left
   simp at hg
   refine⟨by trivial,by trivial,?_⟩
   omega
 ·have hh:=Zvh s k h (by omega)
  right
  refine⟨?_,by omega,by omega⟩
  simp only[low,late]
  generalize (s[k]'h).toNat=c at ha
  simp
  omega
theorem Zdr (w:World) (s:ByteArray) (p:Nat):Below w.heap.size w (w.iter s p):=(Below.refl _ _).alloc (Nat.le_refl _) (.stringIter s p)
theorem Zg6 (s:ByteArray) (w:World) (hs:s.size≤9223372036854775807):
  Calls Tryz.prog 29 #[.string s] w fun e w'=>e=.returned (.bool (Zhg s))∧Below w.heap.size w w':=by
 have HN:Hid (Zhg s=(decide (1≤s.size)&&decide (s.size≤16)&&Zdd 0 s.data.toList)):=rfl
 generalize Zhg s=r at HN ⊢
 go_enter Tryz.func29,Tryz.ntmps29
 go_wp2
 go_loopw [3] (fun x w'=>∃pos:Nat,pos≤s.size∧w'=w.iter s pos∧Hid (Zdd 0 s.data.toList=Zdd pos (s.data.toList.drop pos))) (fun _ w'=>s.size-w'.iterPos w.heap.size)
 case atStart=>exact⟨0,Nat.zero_le _,rfl,rfl⟩
 case round=>
  obtain⟨pos,hpl,rfl,HP⟩:=hrel
  by_cases hp:pos<s.size
  ·have hnx:=fun ty=>run_next_any (P:=Tryz.prog) w s pos ty hp
   have hw:=Z19 s pos hp
   have hd:=LH (Zsc s pos hp)
   generalize (low s[pos]||(decide (0<pos)&&late s[pos]))=g at hw hd
   generalize (Utf8.decode s pos).1=R at hnx hw
   generalize (Utf8.decode s pos).2=W at hnx hw
   rcases hw with⟨rfl,rfl,hw⟩|⟨rfl,hw,hw2⟩
   ·have HP2:=LH (show Zdd 0 s.data.toList=Zdd (pos+1) (s.data.toList.drop (pos+1)) by rw[HP.out,hd.out];simp)
    rcases hw with⟨a1,a2⟩|⟨a1,a2⟩|⟨a1,a2,a3⟩
    ·go_wp2
     exact⟨⟨pos+1,by omega,rfl,HP2⟩,by simp;omega⟩
    ·subst a2
     have e0:((pos:Int)==0)=false:=Zc4 (by omega)
     go_wp2
     exact⟨⟨pos+1,by omega,rfl,HP2⟩,by simp;omega⟩
    ·have e0:((pos:Int)==0)=false:=Zc4 (by omega)
     have e1:((R:Int) != 46)=true:=Zcp (by omega)
     have e2:¬(R:Int)<48:=by omega
     have e3:¬(57:Int)<(R:Int):=by omega
     go_wp2
     exact⟨⟨pos+1,by omega,rfl,HP2⟩,by simp;omega⟩
   ·have HB:=LH (show r=false by rw[HN.out,HP.out,hd.out];simp)
    rcases hw with a1|a1
    ·rcases hw2 with rfl|⟨b1,b2⟩
     ·go_wp2
      go_ret
      exact⟨Zaq HB.out.symm,Zdr _ _ _⟩
     ·have e1:((R:Int) != 46)=true:=Zcp (by omega)
      by_cases hz:pos=0
      ·subst hz
       go_wp2
       go_ret
       exact⟨Zaq HB.out.symm,Zdr _ _ _⟩
      ·have e0:((pos:Int)==0)=false:=Zc4 (by omega)
       rcases b2 with b2|b2
       ·go_wp2
        go_ret
        exact⟨Zaq HB.out.symm,Zdr _ _ _⟩
       ·have e2:¬(R:Int)<48:=by omega
        have e3:(57:Int)<(R:Int):=by omega
        go_wp2
        go_ret
        exact⟨Zaq HB.out.symm,Zdr _ _ _⟩
    ·have e4:¬(R:Int)≤122:=by omega
     have e5:(97:Int)≤(R:Int):=by omega
     rcases hw2 with rfl|⟨b1,b2⟩
     ·go_wp2
      go_ret
      exact⟨Zaq HB.out.symm,Zdr _ _ _⟩
     ·have e1:((R:Int) != 46)=true:=Zcp (by omega)
      by_cases hz:pos=0
      ·subst hz
       go_wp2
       go_ret
       exact⟨Zaq HB.out.symm,Zdr _ _ _⟩
      ·have e0:((pos:Int)==0)=false:=Zc4 (by omega)
       rcases b2 with b2|b2
       ·omega
       ·have e2:¬(R:Int)<48:=by omega
        have e3:(57:Int)<(R:Int):=by omega
        go_wp2
        go_ret
        exact⟨Zaq HB.out.symm,Zdr _ _ _⟩
  ·obtain rfl:pos=s.size:=by omega
   have hnx:=fun ty=>run_next_end (P:=Tryz.prog) w s s.size ty hp
   have HP2:=LH (show r=(decide (1≤s.size)&&decide (s.size≤16)) by rw[HN.out,HP.out,List.drop_of_length_le (by simp)];simp[Zdd])
   have B:=LH (fun(W:World) (a:Nat) (h:W.cell? ⟨a,0,none⟩=some (.int .i64 s.size))=>Zi7 (some ⟨a,0,none⟩) [(s.size:Int)] 1 1 16 W (by simp) (fun i hi=>by have e:i=0:=(by simp at hi;omega);subst e;exact⟨a,0,rfl,Zag h,by simpa using h⟩))
   go_wp2_with fail
   refine(B.out _ _ ?_).mono ?_
   ·exact Zaa 0 (Ze3 _ _) rfl
   ·rintro e w2 ⟨rfl,hb⟩
    dsimp only
    go_wp2
    go_ret
    exact⟨Zaq (by rw[HP2.out];simp only[List.any_cons,List.any_nil,Bool.or_false,outB,Bool.not_or];congr 1<;>(rw[←decide_not];congr 1;apply propext;omega)),((Zdr w s s.size).alloc (by simp[World.iter]) _).trans (hb.mono (by simp[World.iter];omega))⟩
end
section
open Go Go.RowKit
theorem Zz4 (a:Option Addr) (l:List ByteArray) (c:Nat) (s:ByteArray) (w:World) (hl:l.length≤9223372036854775807) (hi:Zgs w a l):
  Calls Tryz.prog 178 #[.slice a l.length c,.string s] w fun e w'=>∃k:Int,e=.returned (.int .i64 k)∧Hid (decide (0≤k)=hasS l s)∧w'=w:=by
 go_enter Tryz.func178,Tryz.ntmps178
 go_wp2
 go_loop [8] (fun i=>∃k:Nat,k≤l.length∧i=.int .i64 k∧Hid (∀j (_:j<k) (h:j<l.length),decide (l[j]=s)=false)) (fun i=>l.length-(intOf i).toNat)
 case atStart=>exact⟨0,Nat.zero_le _,rfl,LH (fun j h=>absurd h (Nat.not_lt_zero j))⟩
 case round=>
  obtain⟨k,hk,rfl,HR⟩:=hrel
  by_cases hlt:k<l.length
  ·obtain⟨b,off,rfl,hb,hx⟩:=hi k hlt
   have HT:=LH (fun(h:decide (l[k]=s)=true)=>(Zo0 hlt h:l.any (fun x=>decide (x=s))=true))
   have HN:=LH (fun(h:decide (l[k]=s)=false)=>show ∀j (_:j<k+1) (h:j<l.length),decide (l[j]=s)=false from fun j hj hjl=>if hjk:j<k then HR.out j hjk hjl else (by have e:j=k:=(by omega);subst e;exact h))
   generalize l[k]=x at hx HT HN
   by_cases he:x=s
   ·replace HT:=LH (HT.out (decide_eq_true he))
    have he2:=Zwl s x
    subst he
    clear HN
    go_wp2
    go_ret
    exact⟨_,rfl,LH (by show _=l.any _;rw[HT.out];simp),rfl⟩
   ·replace HN:=LH (HN.out (decide_eq_false he))
    have he2:(s.toList==x.toList)=false:=(Zwl s x).trans (decide_eq_false (fun e=>he e.symm))
    clear HT
    go_wp2
    go_round
    case rel=>exact⟨k+1,by omega,by go_num,HN⟩
    case measure=>simp[intOf];omega
  ·obtain rfl:k=l.length:=by omega
   go_wp2
   go_ret
   exact⟨_,rfl,LH (by show _=l.any _;rw[Zlc (fun j h=>HR.out j h h)];simp),rfl⟩
theorem Zqu (a:Option Addr) (l:List ByteArray) (c:Nat) (s:ByteArray) (w:World) (hl:l.length≤9223372036854775807) (hi:Zgs w a l):
  Calls Tryz.prog 151 #[.slice a l.length c,.string s] w fun e w'=>e=.returned (.bool (hasS l s))∧w'=w:=by
 have I:=LH (Zz4 a l c s w hl hi)
 generalize hasS l s=r at I ⊢
 cases r
 ·go_enter Tryz.func151,Tryz.ntmps151
  go_wp2_with (go_at_call 178;go_must (refine I.out.mono ?_;rintro e w2 ⟨k,rfl,hk,hw2⟩;obtain rfl:=hw2.symm;have hk2:¬0≤k:=of_decide_eq_false hk.out;dsimp only))
  go_ret
  exact⟨rfl,rfl⟩
 ·go_enter Tryz.func151,Tryz.ntmps151
  go_wp2_with (go_at_call 178;go_must (refine I.out.mono ?_;rintro e w2 ⟨k,rfl,hk,hw2⟩;obtain rfl:=hw2.symm;have hk2:0≤k:=of_decide_eq_true hk.out;dsimp only))
  go_ret
  exact⟨rfl,rfl⟩
end
section
open Go Go.RowKit
theorem Zug (ac az aw ap:Option Addr) (cc cz cw cp:Nat) (m:MoList) (i B:Nat) (w:World) (hm:ListC w ac az aw ap cc cz cw cp m) (hi:i<m.claimants.length) (c0:w.cell? ⟨B,0,none⟩=some (.slice ac m.claimants.length cc)):
  Calls Tryz.prog 150 #[.int .i64 i,.string m.claimants[i],.pointer (some ⟨B,0,none⟩)] w fun e w'=>e=.returned (.int .i64 (Zbk m i))∧Below w.heap.size w w':=by
 have l1:=hm.okc.len
 have HE:Hid (Zbk m i=if Zhg m.claimants[i] then (if hasS (m.claimants.take i) m.claimants[i] then 5 else 0) else 6):=by show Zbk m i=_;unfold Zbk;rw[List.getElem?_eq_getElem hi];rfl
 have hsz:=hm.csize _ (List.getElem_mem hi)
 obtain⟨b,off,rfl,hb,_⟩:=hm.claimants i hi
 have hso:=hm.okc.1
 have N:=LH (Zg6 m.claimants[i] w hsz)
 have hti:(m.claimants.take i).length=i:=by rw[List.length_take];omega
 have K:=LH (fun(W:World) (h:Below w.heap.size w W)=>(show Calls Tryz.prog 151 #[.slice (some ⟨b,off,none⟩) i cc,.string m.claimants[i]] W fun e w'=>e=.returned (.bool (hasS (m.claimants.take i) m.claimants[i]))∧w'=W from by
  have:=Zqu (some ⟨b,off,none⟩) (m.claimants.take i) cc m.claimants[i] W (by omega) (fun j hj=>by
   have hj2:j<m.claimants.length:=by omega
   obtain⟨b',off',e',hb',hc'⟩:=(hm.mono h).claimants j hj2
   exact⟨b',off',e',hb',by rw[List.getElem_take];exact hc'⟩)
  rw[hti] at this
  exact this))
 generalize Zbk m i=r at HE ⊢
 generalize hasS (m.claimants.take i) m.claimants[i]=h at K HE
 generalize m.claimants[i]=s at N K HE hsz
 generalize Zhg s=n at N HE
 have hB:=Zag c0
 cases n
 ·go_enter Tryz.func150,Tryz.ntmps150
  go_wp2_with (go_at_call 29;go_must (refine N.out.mono ?_;rintro e w2 ⟨rfl,hb2⟩;dsimp only))
  go_ret
  exact⟨Za7 (by rw[HE.out];simp),hb2⟩
 ·cases h
  all_goals
   go_enter Tryz.func150,Tryz.ntmps150
   go_wp2_with (first
    |(go_at_call 151;go_must (refine(K.out _ hb2).mono ?_;rintro e w3 ⟨rfl,hw3⟩;obtain rfl:=hw3.symm;dsimp only))
    |(go_at_call 29;go_must (refine N.out.mono ?_;rintro e w2 ⟨rfl,hb2⟩;have c2:=Zab hb2 c0;have hB2:=Zag c2;dsimp only)))
   go_ret
   exact⟨Za7 (by rw[HE.out];simp),hb2⟩
theorem Zxz (ac az aw ap:Option Addr) (cc cz cw cp:Nat) (m:MoList) (B:Nat) (w:World) (hm:ListC w ac az aw ap cc cz cw cp m) (c0:w.cell? ⟨B,0,none⟩=some (.slice ac m.claimants.length cc)):
  Calls Tryz.prog 149 #[.slice ac m.claimants.length cc,.int .i64 4,.func (.func 150) #[] #[.pointer (some ⟨B,0,none⟩)]] w fun e w'=>e=.returned (.tuple #[.int .i64 (Zcb m.claimants.length 4 (Zbk m)).1,.int .i64 (Zcb m.claimants.length 4 (Zbk m)).2])∧Below w.heap.size w w':=by
 have l1:=hm.okc.len
 have HR:Hid (Zcb m.claimants.length 4 (Zbk m)=Zcb m.claimants.length 4 (Zbk m)):=rfl
 obtain⟨r,hr⟩:∃r,r=Zcb m.claimants.length 4 (Zbk m):=⟨_,rfl⟩
 rw[←hr]
 have Hr:=LH hr
 clear hr HR
 by_cases hlong:4<m.claimants.length
 ·have hl2:(4:Int)<(m.claimants.length:Int):=by omega
  go_enter Tryz.func149,Tryz.ntmps149
  go_wp2
  go_ret2
  have:=Hr.out.trans (Zg4 hlong)
  subst this
  exact⟨rfl,by go_grown⟩
 ·have hl2:¬(4:Int)<(m.claimants.length:Int):=by omega
  go_enter Tryz.func149,Tryz.ntmps149
  go_wp2
  go_loopw [17] (fun i wr=>∃k:Nat,k≤m.claimants.length∧i=.int .i64 k∧Hid (∀j,j<k→Zbk m j=0)∧Below w.heap.size w wr) (fun i _=>m.claimants.length-(intOf i).toNat)
  case atStart=>exact⟨0,Nat.zero_le _,rfl,LH (fun j h=>absurd h (Nat.not_lt_zero j)),Below.refl _ _⟩
  case round=>
   obtain⟨k,hk,rfl,HZ,hbw⟩:=hrel
   by_cases hlt:k<m.claimants.length
   ·have K:=LH (Zug ac az aw ap cc cz cw cp m k B wr (hm.mono hbw) hlt (Zab hbw c0))
    obtain⟨b,off,rfl,hb,hc⟩:=(hm.mono hbw).claimants k hlt
    have HE:=LH (fun(h:Zbk m k≠0)=>Hr.out.trans (Zik (by omega) hlt HZ.out h))
    have HN:=LH (fun(h:Zbk m k=0)=>show ∀j,j<k+1→Zbk m j=0 from fun j hj=>if hjk:j<k then HZ.out j hjk else (by have e:j=k:=(by omega);subst e;exact h))
    generalize Zbk m k=x at K HE HN
    generalize m.claimants[k]=s at K hc
    by_cases hx:x=0
    ·have hx2:=Zdf hx
     replace HN:=LH (HN.out hx)
     subst hx
     clear HE
     go_wp2_with (go_at_call 150;go_must (refine K.out.mono ?_;rintro e w2 ⟨rfl,hb2⟩;dsimp only))
     go_roundw
     case rel=>exact⟨k+1,by omega,by go_num,HN,hbw.trans (hb2.mono hbw.size)⟩
     case measure=>simp[intOf];omega
    ·have hx2:=Zcp hx
     replace HE:=LH (HE.out hx)
     clear HN hx
     go_wp2_with (go_at_call 150;go_must (refine K.out.mono ?_;rintro e w2 ⟨rfl,hb2⟩;dsimp only))
     go_ret2
     have:=HE.out
     subst this
     exact⟨rfl,hbw.trans (hb2.mono hbw.size)⟩
   ·obtain rfl:k=m.claimants.length:=by omega
    go_wp2
    go_ret2
    have:=Hr.out.trans (Zkp (by omega) HZ.out)
    subst this
    exact⟨rfl,hbw⟩
end
section
open Go Go.RowKit
theorem Zvw (ac az aw ap:Option Addr) (cc cz cw cp:Nat) (m:MoList) (i B:Nat) (w:World) (hm:ListC w ac az aw ap cc cz cw cp m) (hi:i<m.paid.length) (c0:w.cell? ⟨B,0,none⟩=some (.slice ac m.claimants.length cc)) (c1:w.cell? ⟨B,1,none⟩=some (.slice az m.sums.length cz)):
  Calls Tryz.prog 159 #[.int .i64 i,.agg #[.int .i64 m.paid[i].sum,.int .i64 m.paid[i].claimant],.pointer (some ⟨B,0,none⟩)] w fun e w'=>e=.returned (.int .i64 (Zbf m i))∧Below w.heap.size w w':=by
 have l1:=hm.okc.len
 have l2:=hm.okz.len
 have HE:Hid (Zbf m i=if inB m.paid[i].sum 0 (m.sums.length-1)&&inB m.paid[i].claimant 0 (m.claimants.length-1) then 0 else 4):=by show Zbf m i=_;simp[Zbf,hi]
 generalize Zbf m i=r at HE ⊢
 generalize m.paid[i]=x at HE ⊢
 obtain⟨su,cl⟩:=x
 simp only at HE ⊢
 have B1:=fun(a:Nat) (W:World) h=>Zay su 0 (m.sums.length-1) a W h
 have B2:=fun(a:Nat) (W:World) h=>Zay cl 0 (m.claimants.length-1) a W h
 generalize inB su 0 (m.sums.length-1)=b1 at B1 HE
 generalize inB cl 0 (m.claimants.length-1)=b2 at B2 HE
 have B1:=LH B1
 have B2:=LH B2
 have hB:=Zag c0
 cases b1
 ·go_enter Tryz.func159,Tryz.ntmps159
  go_wp2_with (go_at_call 113;go_must (refine(B1.out _ _ ?_).mono ?_;(simp);rintro e w2 ⟨rfl,hb2⟩;dsimp only))
  go_ret
  exact⟨Za7 (by rw[HE.out];simp),(((Below.refl _ w).alloc (Nat.le_refl _) _).alloc (by simp) _).trans (hb2.mono (by simp;omega))⟩
 ·cases b2
  all_goals
   go_enter Tryz.func159,Tryz.ntmps159
   go_wp2_with (first
    |(go_at_call 113;(with_reducible refine(B2.out _ _ ?_).mono ?_);(simp);rintro e w3 ⟨rfl,hb3⟩;dsimp only)
    |(go_at_call 113;go_must (refine(B1.out _ _ ?_).mono ?_;(simp);rintro e w2 ⟨rfl,hb2⟩;have hbw:=(((Below.refl _ w).alloc (Nat.le_refl _) (.cells #[.int .i64 su,.int .i64 cl] 182)).alloc (by simp) (.cells #[.int .i64 su] 3)).trans (hb2.mono (by simp;omega));have d0:=Zab hbw c0;have d1:=Zab hbw c1;have hB2:=Zag d0;have s1:w2.cell? ⟨w.heap.size,1,none⟩=some (.int .i64 cl):=(hb2.cell (p:=⟨w.heap.size,1,none⟩) (by simp;omega)).trans (by simp);have hs2:=Zag s1;dsimp only)))
   go_ret
   exact⟨Za7 (by rw[HE.out];simp),(hbw.alloc hbw.size _).trans (hb3.mono (by have:=hbw.size;simp;omega))⟩
end
section
open Go Go.RowKit
theorem Zzt (ac az aw ap:Option Addr) (cc cz cw cp:Nat) (m:MoList) (B:Nat) (w:World) (hm:ListC w ac az aw ap cc cz cw cp m) (c0:w.cell? ⟨B,0,none⟩=some (.slice ac m.claimants.length cc)) (c1:w.cell? ⟨B,1,none⟩=some (.slice az m.sums.length cz)):
  Calls Tryz.prog 158 #[.slice ap m.paid.length cp,.int .i64 5,.func (.func 159) #[] #[.pointer (some ⟨B,0,none⟩)]] w fun e w'=>e=.returned (.tuple #[.int .i64 (Zcb m.paid.length 5 (Zbf m)).1,.int .i64 (Zcb m.paid.length 5 (Zbf m)).2])∧Below w.heap.size w w':=by
 have l1:=hm.okp.len
 obtain⟨r,hr⟩:∃r,r=Zcb m.paid.length 5 (Zbf m):=⟨_,rfl⟩
 rw[←hr]
 have Hr:=LH hr
 clear hr
 by_cases hlong:5<m.paid.length
 ·have hl2:(5:Int)<(m.paid.length:Int):=by omega
  go_enter Tryz.func158,Tryz.ntmps158
  go_wp2
  go_ret2
  have:=Hr.out.trans (Zg4 hlong)
  subst this
  exact⟨rfl,by go_grown⟩
 ·have hl2:¬(5:Int)<(m.paid.length:Int):=by omega
  go_enter Tryz.func158,Tryz.ntmps158
  go_wp2
  go_loopw [17] (fun i wr=>∃k:Nat,k≤m.paid.length∧i=.int .i64 k∧Hid (∀j,j<k→Zbf m j=0)∧Below w.heap.size w wr) (fun i _=>m.paid.length-(intOf i).toNat)
  case atStart=>exact⟨0,Nat.zero_le _,rfl,LH (fun j h=>absurd h (Nat.not_lt_zero j)),Below.refl _ _⟩
  case round=>
   obtain⟨k,hk,rfl,HZ,hbw⟩:=hrel
   by_cases hlt:k<m.paid.length
   ·have K:=LH (fun(W:World) (h:Below w.heap.size w W)=>Zvw ac az aw ap cc cz cw cp m k B W (hm.mono h) hlt (Zab h c0) (Zab h c1))
    obtain⟨b,off,rfl,hb,hc,hc2⟩:=(hm.mono hbw).paid k hlt
    have HE:=LH (fun(h:Zbf m k≠0)=>Hr.out.trans (Zik (by omega) hlt HZ.out h))
    have HN:=LH (fun(h:Zbf m k=0)=>show ∀j,j<k+1→Zbf m j=0 from fun j hj=>if hjk:j<k then HZ.out j hjk else (by have e:j=k:=(by omega);subst e;exact h))
    generalize Zbf m k=x at K HE HN
    generalize m.paid[k]=s at K hc hc2
    obtain⟨su,cl⟩:=s
    simp only at K hc hc2
    by_cases hx:x=0
    ·have hx2:=Zdf hx
     replace HN:=LH (HN.out hx)
     subst hx
     clear HE
     go_wp2_with (go_at_call 159;go_must (refine(K.out _ (hbw.alloc hbw.size _)).mono ?_;rintro e w2 ⟨rfl,hb2⟩;have hbn:=(hbw.alloc hbw.size (.cells #[.int .i64 su,.int .i64 cl] 182)).trans (hb2.mono (by have:=hbw.size;simp;omega));dsimp only))
     go_roundw
     case rel=>exact⟨k+1,by omega,by go_num,HN,hbn⟩
     case measure=>simp[intOf];omega
    ·have hx2:=Zcp hx
     replace HE:=LH (HE.out hx)
     clear HN hx
     go_wp2_with (go_at_call 159;go_must (refine(K.out _ (hbw.alloc hbw.size _)).mono ?_;rintro e w2 ⟨rfl,hb2⟩;have hbn:=(hbw.alloc hbw.size (.cells #[.int .i64 su,.int .i64 cl] 182)).trans (hb2.mono (by have:=hbw.size;simp;omega));dsimp only))
     go_ret2
     have:=HE.out
     subst this
     exact⟨rfl,hbn⟩
   ·obtain rfl:k=m.paid.length:=by omega
    go_wp2
    go_ret2
    have:=Hr.out.trans (Zkp (by omega) HZ.out)
    subst this
    exact⟨rfl,hbw⟩
end
section
open Go Go.RowKit
theorem Zu0 (ac az aw ap:Option Addr) (cc cz cw cp:Nat) (m:MoList) (i B:Nat) (w:World) (hm:ListC w ac az aw ap cc cz cw cp m) (hi:i<m.words.length) (c0:w.cell? ⟨B,0,none⟩=some (.slice ac m.claimants.length cc)) (c1:w.cell? ⟨B,1,none⟩=some (.slice az m.sums.length cz)) (c2:w.cell? ⟨B,2,none⟩=some (.slice aw m.words.length cw))
  (says sum of back:Int) (came:Bool) (hs:inB says 0 3=false):
  Calls Tryz.prog 157 #[.int .i64 i,.agg #[.int .i64 says,.int .i64 sum,.int .i64 of,.int .i64 back,.bool came],.pointer (some ⟨B,0,none⟩)] w fun e w'=>e=.returned (.int .i64 7)∧Below w.heap.size w w':=by
 have B0:=fun(a:Nat) (W:World) h=>Zay says 0 3 a W h
 rw[hs] at B0
 have B0:=LH B0
 have hB:=Zag c0
 have hQ0:=Below.refl (w.heap.size+1) (w.alloc (.cells #[.int .i64 says,.int .i64 sum,.int .i64 of,.int .i64 back,.bool came] 56))
 clear hs
 by_cases h2:2≤says
 all_goals
  go_enter Tryz.func157,Tryz.ntmps157
  go_wp2_with ((go_at_call 113;go_must ((with_reducible refine(B0.out _ _ ?_).mono ?_);(simp);rintro e w1 ⟨rfl,hb1⟩;have hQ1:=(hQ0.alloc (Zai hQ0) (.cells #[.int .i64 says] 3)).trans (hb1.mono (by have:=Zai hQ0;simp));obtain⟨c01,c11,c21⟩:_∧_∧_:=⟨Zab (Zaf hQ1) c0,Zab (Zaf hQ1) c1,Zab (Zaf hQ1) c2⟩;have x01:=Zaj hQ1 0 _ rfl;have x11:=Zaj hQ1 1 _ rfl;have x21:=Zaj hQ1 2 _ rfl;have x31:=Zaj hQ1 3 _ rfl;have y11:=Zag c01;have y21:=Zag x01;dsimp only)))
  go_ret
  exact⟨rfl,Zaf hQ1⟩
theorem Zv8 (ac az aw ap:Option Addr) (cc cz cw cp:Nat) (m:MoList) (i B:Nat) (w:World) (hm:ListC w ac az aw ap cc cz cw cp m) (hi:i<m.words.length) (c0:w.cell? ⟨B,0,none⟩=some (.slice ac m.claimants.length cc)) (c1:w.cell? ⟨B,1,none⟩=some (.slice az m.sums.length cz)) (c2:w.cell? ⟨B,2,none⟩=some (.slice aw m.words.length cw))
  (says sum of back:Int) (came:Bool) (hs:inB says 0 3=true) (hs1:inB sum 0 (m.sums.length-1)=false):
  Calls Tryz.prog 157 #[.int .i64 i,.agg #[.int .i64 says,.int .i64 sum,.int .i64 of,.int .i64 back,.bool came],.pointer (some ⟨B,0,none⟩)] w fun e w'=>e=.returned (.int .i64 4)∧Below w.heap.size w w':=by
 have l2:=hm.okz.len
 have B0:=fun(a:Nat) (W:World) h=>Zay says 0 3 a W h
 rw[hs] at B0
 have B0:=LH B0
 have B1:=fun(a:Nat) (W:World) h=>Zay sum 0 (m.sums.length-1) a W h
 rw[hs1] at B1
 have B1:=LH B1
 have hB:=Zag c0
 have hQ0:=Below.refl (w.heap.size+1) (w.alloc (.cells #[.int .i64 says,.int .i64 sum,.int .i64 of,.int .i64 back,.bool came] 56))
 clear hs hs1
 by_cases h2:2≤says
 all_goals
  go_enter Tryz.func157,Tryz.ntmps157
  go_wp2_with (first|(go_at_call 113;(with_reducible refine(B1.out _ _ ?_).mono ?_);(simp);rintro e w2 ⟨rfl,hb2⟩;have hQ2:=(hQ1.alloc (Zai hQ1) (.cells #[.int .i64 sum] 3)).trans (hb2.mono (by have:=Zai hQ1;simp;omega));obtain⟨c02,c12,c22⟩:_∧_∧_:=⟨Zab (Zaf hQ2) c0,Zab (Zaf hQ2) c1,Zab (Zaf hQ2) c2⟩;have x02:=Zaj hQ2 0 _ rfl;have x12:=Zaj hQ2 1 _ rfl;have x22:=Zaj hQ2 2 _ rfl;have x32:=Zaj hQ2 3 _ rfl;have y12:=Zag c02;have y22:=Zag x02;dsimp only)|(go_at_call 113;(with_reducible refine(B0.out _ _ ?_).mono ?_);(simp);rintro e w1 ⟨rfl,hb1⟩;have hQ1:=(hQ0.alloc (Zai hQ0) (.cells #[.int .i64 says] 3)).trans (hb1.mono (by have:=Zai hQ0;simp));obtain⟨c01,c11,c21⟩:_∧_∧_:=⟨Zab (Zaf hQ1) c0,Zab (Zaf hQ1) c1,Zab (Zaf hQ1) c2⟩;have x01:=Zaj hQ1 0 _ rfl;have x11:=Zaj hQ1 1 _ rfl;have x21:=Zaj hQ1 2 _ rfl;have x31:=Zaj hQ1 3 _ rfl;have y11:=Zag c01;have y21:=Zag x01;dsimp only))
  go_ret
  exact⟨rfl,Zaf hQ2⟩
end
end Go.Proofs.YtklconegomgjaaaGreat
