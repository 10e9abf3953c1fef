/- What is proved here: the contract of Can of the reference of layer 3, no tie left out: persons that it lets pass keep all rules. Conditions: the town can be looked at; persons of all mentions, numbered in order. -/
import Derived.Test.YtklconegomgjaaaGreatPyIG
import Derived.Test.YtklconegomgjaaaGreatPyJ
import Derived.Test.YtklconegomgjaaaGreatRef1CG
import Derived.Test.YtklconegomgjaaaGreatRef7LG
import Derived.Test.YtklconegomgjaaaGreatPeWhoG
import Derived.Test.YtklconegomgjaaaGreatMidG
set_option linter.all false
set_option maxRecDepth 100000
set_option maxHeartbeats 16000000
namespace Go.Proofs.YtklconegomgjaaaGreat
section
open Go Go.RowKit Go.Shelf
theorem Zw5 {t:PeW} {p:List Int} {n:Nat} (hlen:p.length=t.ments.length) (h:NamX t (ofP p (n:Int) p.length)):
  ((∃g,∀i,i<t.ments.length→pAt p i=(n:Int)→g∈Zck t.ear (spOf t i))∨(∀i j,i<t.ments.length→j<t.ments.length→pAt p i=(n:Int)→pAt p j=(n:Int)→i=j))∧
  ∀i j,i<t.ments.length→j<t.ments.length→pAt p i=(n:Int)→pAt p j=(n:Int)→(Zal t i).vill≠-1→(Zal t j).vill≠-1→(Zal t i).vill=(Zal t j).vill:=by
 have hin:∀i,i<t.ments.length→pAt p i=(n:Int)→∃a,∃ha:a<(ofP p (n:Int) p.length).length,(ofP p (n:Int) p.length)[a]=(i:Int):=fun i hi hp=>
  List.getElem_of_mem (Zv1.2 ⟨i,rfl,by rw[hlen];exact hi,hp⟩)
 refine⟨?_,fun i j hi hj h1 h2 v1 v2=>?_⟩
 ·rcases h.com with h1|⟨g,hg⟩
  ·refine .inr fun i j hi hj h2 h3=>?_
   obtain⟨a,ha,ea⟩:=hin i hi h2
   obtain⟨b,hb,eb⟩:=hin j hj h3
   have e:a=b:=by omega
   subst e
   omega
  ·refine .inl ⟨g,fun i hi h2=>?_⟩
   obtain⟨a,ha,ea⟩:=hin i hi h2
   have:=hg a ha
   rwa [ea,Int.toNat_natCast] at this
 ·obtain⟨a,ha,ea⟩:=hin i hi h1
  obtain⟨b,hb,eb⟩:=hin j hj h2
  have:=h.vill a b ha hb
  rw[ea,eb,Int.toNat_natCast,Int.toNat_natCast] at this
  exact this v1 v2
theorem Z9n {t:PeW} {p:List Int} {m:Nat} (hlen:p.length=t.ments.length) (hr:rgB 0 p=true) (hcm:∀i,i<t.ments.length→pAt p i<m) (hN:∀who,who<m→NamX t (ofP p ((who:Nat):Int) p.length)) (hT:∀i (hi:i<t.ties.length),tieB t p t.ties[i]=true) (hK:Zm8 t p t.ments.length) (hY:(Zbr t p).isSome=true):FitX t p:=by
 refine⟨hlen,hr,fun n hn=>?_,fun n hn=>?_,hT,fun i hi hp=>hK i hi hp,hY⟩
 ·by_cases e:n<m
  ·exact(Zw5 hlen (hN n e)).1
  ·exact .inr fun i j hi _ h1 _=>by have:=hcm i hi;omega
 ·by_cases e:n<m
  ·exact(Zw5 hlen (hN n e)).2
  ·exact fun i j hi _ h1 _=>by have:=hcm i hi;omega
def Z83 (t:PeW) (p:List Int) (w:World) (e:Ending) (w':World):Prop:=∃r,e=.returned (.bool r)∧Hid (r=true→FitX t p)∧Below w.heap.size w w'
theorem Z5z (a1 a2 a3 a4:Option Addr) (k1 k2 k3 k4:Nat) (t:PeW) (a:Option Addr) (p:List Int) (k:Nat) (w:World) (hm:TownC w a1 a2 a3 a4 k1 k2 k3 k4 t) (hv:PeOk t) (ho:SlOk a p.length k) (hi:Zaw w a p) (hlen:p.length=t.ments.length) (hr:rgB 0 p=true):
  Calls Tryz.prog 47 #[(.agg #[.int .i64 t.ear.sounds,.slice a1 t.ear.alphas.length k1,.slice a2 t.ear.spells.length k2,.int .i64 t.vills,.slice a3 t.ments.length k3,.slice a4 t.ties.length k4]),.slice a p.length k,.slice none 0 0] w (Z83 t p w):=by
 have l1:=hm.book.oka.len
 have l2:=hm.book.oks.len
 have l3:=hm.okm.len
 have l4:=hm.okt.len
 have ll:=ho.len
 have h6:=hv.nm
 have h4:=hv.nt
 have hp6:p.length≤6:=by omega
 have hq:=Z8y hr hp6
 obtain⟨Y,hY⟩:∃Y:World,Y=(w.alloc (.cells #[.int .i64 t.ear.sounds,.slice a1 t.ear.alphas.length k1,.slice a2 t.ear.spells.length k2,.int .i64 t.vills,.slice a3 t.ments.length k3,.slice a4 t.ties.length k4] 29)):=⟨_,rfl⟩
 have hbY:Below w.heap.size w Y:=by rw[hY];exact(Below.refl _ _).alloc (Nat.le_refl _) _
 have hB1:Y.heap[w.heap.size]?=some (.cells #[.int .i64 t.ear.sounds,.slice a1 t.ear.alphas.length k1,.slice a2 t.ear.spells.length k2,.int .i64 t.vills,.slice a3 t.ments.length k3,.slice a4 t.ties.length k4] 29 (0,0)):=by rw[hY];exact Zac _ _ rfl
 have HY:=LH hY
 clear hY
 have HM:=LH (hm.mono hbY)
 have HI:=LH (hi.mono hbY)
 have HBY:=LH hbY
 have HV:=LH hv
 have HLN:=LH hlen
 have HQ:=LH hq
 have HO:=LH ho
 have HRG:=LH hr
 obtain⟨m,hmc⟩:∃m:Nat,cntP p p.length=(m:Int):=⟨(cntP p p.length).toNat,by have:=(Zh2 hq p.length).1;omega⟩
 have hm6:m≤6:=by have:=(Zh2 hq p.length).2.1;omega
 have HCM:Hid (∀i,i<t.ments.length→pAt p i<m):=LH (fun i h=>by have:=(Zh2 hq p.length).2.2 i (by omega);omega)
 have CN:Hid (∀W,Below Y.heap.size Y W→Calls Tryz.prog 97 #[.slice a p.length k] W fun e w'=>e=.returned (.int .i64 (m:Int))∧w'=W):=LH (fun W h=>by
  rw[←hmc]
  exact Zkx a p k W HO.out (HI.out.mono h) HQ.out)
 clear hm hi hbY hv hlen hq ho hmc hr
 have KE:Hid (∀V,Below Y.heap.size Y V→(V.cell? ⟨w.heap.size,0,none⟩=some (.int .i64 t.ear.sounds)∧V.cell? ⟨w.heap.size,1,none⟩=some (.slice a1 t.ear.alphas.length k1)∧V.cell? ⟨w.heap.size,2,none⟩=some (.slice a2 t.ear.spells.length k2)∧V.cell? ⟨w.heap.size,3,none⟩=some (.int .i64 t.vills)∧V.cell? ⟨w.heap.size,4,none⟩=some (.slice a3 t.ments.length k3)∧V.cell? ⟨w.heap.size,5,none⟩=some (.slice a4 t.ties.length k4)∧w.heap.size<V.heap.size)):=LH (fun V h=>by
  have q1:=(h.block _ (lt_of_block hB1)).trans hB1
  exact⟨Zaa 0 q1 rfl,Zaa 1 q1 rfl,Zaa 2 q1 rfl,Zaa 3 q1 rfl,Zaa 4 q1 rfl,Zaa 5 q1 rfl,lt_of_block q1⟩)
 clear hB1
 have SR:Hid (∀U,Below Y.heap.size Y U→(fun U=>Below Y.heap.size Y U∧U.cell? ⟨w.heap.size,0,none⟩=some (.int .i64 t.ear.sounds)∧U.cell? ⟨w.heap.size,1,none⟩=some (.slice a1 t.ear.alphas.length k1)∧U.cell? ⟨w.heap.size,2,none⟩=some (.slice a2 t.ear.spells.length k2)∧U.cell? ⟨w.heap.size,3,none⟩=some (.int .i64 t.vills)∧U.cell? ⟨w.heap.size,4,none⟩=some (.slice a3 t.ments.length k3)∧U.cell? ⟨w.heap.size,5,none⟩=some (.slice a4 t.ties.length k4)∧w.heap.size<U.heap.size) U):=LH (fun U h=>⟨h,KE.out _ h⟩)
 have HS:Hid (∀(i:Int) (W:World),Calls Tryz.prog 17 #[.slice none 0 0,.int .i64 i] W fun e w'=>e=.returned (.bool false)∧w'=W):=LH (fun i W=>(Zvj none [] 0 i W (by simp) (Zaw.nil _ _)).mono fun e w' h=>by simpa[hasB] using h)
 go_enter Tryz.func47,Tryz.ntmps47
 go_upto_region 1 with(fail)
 rw[←HY.out]
 go_upto_region 2 with(fail)
 go_loopw [7] (fun i V=>∃n:Nat,n≤m∧i=.int .i64 n∧Hid (∀who,who<n→NamX t (ofP p ((who:Nat):Int) p.length))∧Below Y.heap.size Y V) (fun i _=>m-(intOf i).toNat)
 case atStart=>exact⟨0,Nat.zero_le _,rfl,LH (fun j h=>absurd h (Nat.not_lt_zero j)),Below.refl _ _⟩
 case round=>
  rename World=>V
  obtain⟨n,hn,rfl,HN,hbV⟩:=hrel
  by_cases hlt:n<m
  ·have HN2:=LH (fun(h:NamX t (ofP p (n:Int) p.length))=>show ∀who,who<n+1→NamX t (ofP p ((who:Nat):Int) p.length) from fun who hw=>if g:who<n then HN.out who g else (by have e:who=n:=(by omega);subst e;exact h))
   obtain⟨L,hL⟩:∃L,L=ofP p (n:Int) p.length:=⟨_,rfl⟩
   rw[←hL] at HN2
   have hL6:L.length≤6:=by rw[hL];exact Nat.le_trans (Z3w _ _ _) hp6
   have HLB:∀j (hj:j<L.length),0≤L[j]∧L[j]<t.ments.length:=fun j hj=>by
    have h1:L[j]∈ofP p (n:Int) p.length:=by rw[←hL];exact List.getElem_mem hj
    obtain⟨i,e,h2,_⟩:=Zv1.1 h1
    rw[HLN.out] at h2
    omega
   have OF:Hid (∀W,Below Y.heap.size Y W→Calls Tryz.prog 99 #[.slice a p.length k,.int .i64 (n:Int)] W fun e w'=>∃v,e=.returned v∧Zbm W.heap.size w' v L∧Below W.heap.size W w'):=LH (fun W h=>by
    rw[hL]
    exact Z2b a p k (n:Int) W HO.out hp6 (HI.out.mono h))
   have NM:=LH (fun(al:Option Addr) (cl:Nat) (W:World) (h:Below Y.heap.size Y W) (hol:SlOk al L.length cl) (hil:Zaw W al L)=>Zzl a1 a2 a3 a4 k1 k2 k3 k4 t al L cl W (HM.out.mono h) HV.out hol hil hL6 HLB)
   clear hL HLB
   go_upto_region 4 with(go_at_call 97;go_must ((with_reducible refine(CN.out _ hbV).mono ?_);rintro e w' ⟨rfl,hw9⟩;obtain rfl:=hw9.symm;dsimp only))
   have hg0:Below Y.heap.size Y V.drew:=Zah hbV
   go_region_held3 (fun U=>Below Y.heap.size Y U∧U.cell? ⟨w.heap.size,0,none⟩=some (.int .i64 t.ear.sounds)∧U.cell? ⟨w.heap.size,1,none⟩=some (.slice a1 t.ear.alphas.length k1)∧U.cell? ⟨w.heap.size,2,none⟩=some (.slice a2 t.ear.spells.length k2)∧U.cell? ⟨w.heap.size,3,none⟩=some (.int .i64 t.vills)∧U.cell? ⟨w.heap.size,4,none⟩=some (.slice a3 t.ments.length k3)∧U.cell? ⟨w.heap.size,5,none⟩=some (.slice a4 t.ties.length k4)∧w.heap.size<U.heap.size) (first|exact SR.out _ hg0|exact SR.out _ hg1|exact SR.out _ hg2) (first
    |(go_at_call 98;(have hx:=hil);(with_reducible refine(NM.out al cl _ hg1 hol hil).mono ?_);rintro e w6 ⟨r,rfl,HR,hgt⟩;have hg2:=hg1.trans (hgt.mono hg1.size);dsimp only)
    |(go_at_call 99;(with_reducible refine(OF.out _ hg0).mono ?_);rintro e w5 ⟨v,rfl,⟨al,cl,rfl,hol,hil,-⟩,hgs⟩;have hg1:=hg0.trans (hgs.mono hg0.size);dsimp only))
   cases r
   ·go_wp2
    go_ret
    exact⟨false,rfl,LH (fun h=>by cases h),HBY.out.trans (hg2.mono HBY.out.size)⟩
   ·replace HN2:=LH (HN2.out (HR.out rfl))
    go_wp2
    go_roundw
    case rel=>exact⟨n+1,by omega,by go_num,HN2,hg2⟩
    case measure=>simp[intOf];omega
  ·obtain rfl:n=m:=by omega
   clear hlt hn
   go_upto_region 7 with(go_at_call 97;go_must ((with_reducible refine(CN.out _ hbV).mono ?_);rintro e w' ⟨rfl,hw9⟩;obtain rfl:=hw9.symm;dsimp only))
   go_loopw [8] (fun i U=>∃j:Nat,j≤t.ties.length∧i=.int .i64 j∧Hid (∀i (hi:i<t.ties.length),i<j→tieB t p t.ties[i]=true)∧Below Y.heap.size Y U) (fun i _=>t.ties.length-(intOf i).toNat)
   case atStart=>exact⟨0,Nat.zero_le _,rfl,LH (fun i _ h=>absurd h (Nat.not_lt_zero i)),hbV⟩
   case round=>
    clear hbV
    rename World=>U
    obtain⟨j,hj,rfl,HT,hbU⟩:=hrel
    obtain⟨q0,q1,q2,q3,q4,q5,qz⟩:=KE.out _ hbU
    by_cases hlt:j<t.ties.length
    ·obtain⟨b',off,hae,hb',d0,d1,d2⟩:=(HM.out.mono hbU).ties j hlt
     have htv:=HV.out.tie j hlt
     have TD:=fun(W:World) (h:Below Y.heap.size Y W)=>Z3o t t.ties[j] a p k W HO.out (HI.out.mono h) ⟨htv.1,by rw[HLN.out];exact htv.2.1⟩ ⟨htv.2.2.1,by rw[HLN.out];exact htv.2.2.2⟩
     have HT2:=LH (fun(h:tieB t p t.ties[j]=true)=>show ∀i (hi:i<t.ties.length),i<j+1→tieB t p t.ties[i]=true from fun i hi hij=>if g:i<j then HT.out i hi g else (by have e:i=j:=(by omega);subst e;exact h))
     clear htv
     generalize tieB t p t.ties[j]=r at TD HT2
     generalize t.ties[j]=x at TD d0 d1 d2
     obtain⟨xa,xb,xs⟩:=x
     simp only at TD d0 d1 d2
     replace TD:=LH (TD _ hbU)
     subst hae
     cases r
     ·go_wp2_with (first
       |(go_at_call 17;(with_reducible refine(HS.out _ _).mono ?_);rintro e w' ⟨rfl,hw9⟩;obtain rfl:=hw9.symm;dsimp only)
       |(go_at_call 100;(with_reducible refine TD.out.mono ?_);rintro e w5 ⟨rfl,hb5⟩;dsimp only))
      go_ret
      exact⟨false,rfl,LH (fun h=>by cases h),HBY.out.trans ((hbU.trans (hb5.mono hbU.size)).mono HBY.out.size)⟩
     ·replace HT2:=LH (HT2.out rfl)
      go_wp2_with (first
       |(go_at_call 17;(with_reducible refine(HS.out _ _).mono ?_);rintro e w' ⟨rfl,hw9⟩;obtain rfl:=hw9.symm;dsimp only)
       |(go_at_call 100;(with_reducible refine TD.out.mono ?_);rintro e w5 ⟨rfl,hb5⟩;dsimp only))
      go_roundw
      case rel=>exact⟨j+1,by omega,by go_num,HT2,hbU.trans (hb5.mono hbU.size)⟩
      case measure=>simp[intOf];omega
    ·obtain rfl:j=t.ties.length:=by omega
     have KN:=LH (Z6j a1 a2 a3 a4 k1 k2 k3 k4 t a p k U (HM.out.mono hbU) HV.out HO.out (HI.out.mono hbU) HLN.out)
     have YR:=LH (fun(W:World) (h:Below Y.heap.size Y W)=>Zxu a1 a2 a3 a4 k1 k2 k3 k4 t a p k W (HM.out.mono h) HV.out HO.out (HI.out.mono h) HLN.out HQ.out)
     have HF:=LH (fun h1 h2=>Z9n HLN.out HRG.out HCM.out HN.out (fun i hi=>HT.out i hi hi) h1 h2)
     by_cases hK:Zm8 t p t.ments.length
     ·have HK:=LH hK
      clear hK
      have KN2:Hid (Calls Tryz.prog 101 #[(.agg #[.int .i64 t.ear.sounds,.slice a1 t.ear.alphas.length k1,.slice a2 t.ear.spells.length k2,.int .i64 t.vills,.slice a3 t.ments.length k3,.slice a4 t.ties.length k4]),.slice a p.length k] U fun e w'=>e=.returned (.bool true)∧Below U.heap.size U w'):=LH (KN.out.mono fun e w' ⟨r,he,hr,hb⟩=>⟨by rw[he,hr.out.2 HK.out],hb⟩)
      go_wp2_with (first
       |(go_at_call 101;(with_reducible refine KN2.out.mono ?_);rintro e w5 ⟨rfl,hb5⟩;have hY5:=hbU.trans (hb5.mono hbU.size);obtain⟨g0,g1,g2,g3,g4,g5,gz⟩:=KE.out _ hY5;dsimp only)
       |(go_at_call 103;(with_reducible refine(YR.out _ hY5).mono ?_);rintro e w6 ⟨ay,ly,cy,rfl,hoy,hfy,hyy,hb6⟩;dsimp only)
       |(go_at_call 102;(have hfy2:=hfy);(with_reducible refine(Zpt ay ly cy _ hoy hfy).mono ?_);rintro e w7 ⟨rfl,hb7⟩;dsimp only))
      go_ret
      exact⟨_,rfl,LH (fun h=>HF.out HK.out (hyy.out (by simpa using h))),HBY.out.trans ((hY5.trans ((hb6.trans (hb7.mono hb6.size)).mono hY5.size)).mono HBY.out.size)⟩
     ·have HK:=LH hK
      clear hK
      have KN2:Hid (Calls Tryz.prog 101 #[(.agg #[.int .i64 t.ear.sounds,.slice a1 t.ear.alphas.length k1,.slice a2 t.ear.spells.length k2,.int .i64 t.vills,.slice a3 t.ments.length k3,.slice a4 t.ties.length k4]),.slice a p.length k] U fun e w'=>e=.returned (.bool false)∧Below U.heap.size U w'):=LH (KN.out.mono fun e w' ⟨r,he,hr,hb⟩=>⟨by rw[he];cases r with
       |false=>rfl
       |true=>exact absurd (hr.out.1 rfl) HK.out,hb⟩)
      go_wp2_with (go_at_call 101;go_must ((with_reducible refine KN2.out.mono ?_);rintro e w5 ⟨rfl,hb5⟩;dsimp only))
      go_ret
      exact⟨false,rfl,LH (fun h=>by cases h),HBY.out.trans ((hbU.trans (hb5.mono hbU.size)).mono HBY.out.size)⟩
end
section
open Go Go.RowKit Go.Shelf
def Ze1 (l:List Int):List (List Int):=(List.range (Zdm 0 l+1)).map fun(j:Nat)=>l++[(j:Int)]
def Zbe:Nat→List (List Int)
 |0=>[[]]
 |i+1=>(Zbe i).flatMap Ze1
theorem Zqe:∀(l:List Int) (m:Nat) (x:Int),rgB m (l++[x])=(rgB m l&&decide (0≤x∧x≤Zdm m l))
 |[],m,x=>by
  show(decide (0≤x∧x≤m)&&true)=(true&&decide (0≤x∧x≤m))
  rw[Bool.and_true,Bool.true_and]
 |y::l,m,x=>by
  show(decide (0≤y∧y≤m)&&rgB _ (l++[x]))=_
  rw[Zqe l,rgB,Zdm,Bool.and_assoc]
theorem Zps:∀(l:List Int) (m:Nat) (x:Int),Zdm m (l++[x])=max (Zdm m l) (x.toNat+1)
 |[],m,x=>rfl
 |y::l,m,x=>by
  show Zdm _ (l++[x])=_
  rw[Zps l,Zdm]
theorem Zsp {l r:List Int}:∀k,k≤l.length→cntP (l++r) k=cntP l k
 |0,_=>rfl
 |k+1,h=>by rw[cntP,cntP,Zsp k (by omega),Zqq (by omega)]
theorem Z7a:∀(l:List Int),rgB 0 l=true→cntP l l.length=(Zdm 0 l:Int)
 |l,h=>by
  rcases List.eq_nil_or_concat l with rfl|⟨g,x,rfl⟩
  ·rfl
  ·rw[List.concat_eq_append] at h ⊢
   rw[Zqe,Bool.and_eq_true,decide_eq_true_eq] at h
   have ih:=Z7a g h.1
   rw[List.length_append,List.length_singleton,cntP,Zsp _ (Nat.le_refl _),ih,Zps,Zqb]
   omega
 termination_by l=>l.length
 decreasing_by simp_all
theorem Zij:∀(i:Nat),∀l∈Zbe i,l.length=i∧rgB 0 l=true
 |0,l,h=>by
  have:l=[]:=by simpa[Zbe] using h
  subst this
  exact⟨rfl,rfl⟩
 |i+1,l,h=>by
  obtain⟨g,hg,hl⟩:=List.mem_flatMap.1 h
  obtain⟨j,hj,rfl⟩:=List.mem_map.1 hl
  have ih:=Zij i g hg
  have hj:=List.mem_range.1 hj
  refine⟨by simp[ih.1],?_⟩
  rw[Zqe,ih.2,Bool.true_and,decide_eq_true_eq]
  omega
theorem Zgv:∀(i:Nat),i≤6→(Zbe i).length≤7^i
 |0,_=>by simp[Zbe]
 |i+1,h=>by
  rw[Zbe]
  have h1:=Zlj Ze1 7 (Zbe i) (fun l hl=>by
   have hm:=Zij i l hl
   have:=Zmi l 0 hm.2
   unfold Ze1
   rw[List.length_map,List.length_range]
   omega)
  have:(Zbe i).length*7≤7^i*7:=Nat.mul_le_mul_right 7 (Zgv i (by omega))
  rw[Nat.pow_succ]
  omega
theorem Zvy (M:Nat) (hM:M≤6) (w:World):
  Calls Tryz.prog 46 #[.int .i64 (M:Int)] w fun e w'=>∃v,e=.returned v∧Zyu w' v (Zbe M)∧Below w.heap.size w w':=by
 go_enter Tryz.func46,Tryz.ntmps46
 go_wp2
 go_loopw [3,4] (fun o i wr=>∃(k c:Nat) (a:Option Addr),k≤M∧i=.int .i64 k∧o=.slice a (Zbe k).length c∧SlOk a (Zbe k).length c∧Zob wr a (Zbe k)∧Below w.heap.size w wr) (fun _ i _=>M-(intOf i).toNat)
 case atStart=>
  refine⟨0,1,some ⟨w.heap.size,0,none⟩,Nat.zero_le _,rfl,rfl,⟨by simp[Zbe],by omega,fun h=>by cases h⟩,?_,by go_grown⟩
  intro i hi
  simp[Zbe] at hi
  subst hi
  exact⟨w.heap.size,0,none,0,rfl,by simp,by simp[Zbe],⟨by simp[Zbe],by omega,fun _=>rfl⟩,Zaw.nil _ _⟩
 case round=>
  obtain⟨k,c,a,hk,rfl,rfl,hso,hrc,hbw⟩:=hrel
  by_cases hlt:k<M
  ·have hmem':=LH (Zij k)
   have hmany:(Zbe k).length≤117649:=Nat.le_trans (Zgv k (by omega)) (Nat.le_trans (Nat.pow_le_pow_right (by omega) (show k≤6 by omega)) (by decide))
   have hmany2:((Zbe k).flatMap Ze1).length≤117649:=Nat.le_trans (Zgv (k+1) (by omega)) (Nat.le_trans (Nat.pow_le_pow_right (by omega) (show k+1≤6 by omega)) (by decide))
   have hnext:Hid (Zbe (k+1)=(Zbe k).flatMap Ze1):=LH rfl
   generalize Zbe k=L at hmem' hmany hmany2 hnext hrc hso ⊢
   generalize hL':Zbe (k+1)=L' at hnext
   have HL':=LH hL'
   clear hL'
   obtain⟨W0,hW0⟩:∃W0:World,W0=wr:=⟨_,rfl⟩
   subst hW0
   go_wp2
   go_loopw [5,6] (fun v i wr=>∃(j:Nat),j≤L.length∧i=.int .i64 j∧OwnRows wr W0.heap.size 57 v ((L.take j).flatMap Ze1)∧Below W0.heap.size W0 wr) (fun _ i _=>L.length-(intOf i).toNat)
   case atStart=>exact⟨0,Nat.zero_le _,rfl,OwnRows.nil _ _ _,Below.refl _ _⟩
   case round=>
    obtain⟨j,hj,rfl,hown,hbw1⟩:=hrel
    obtain⟨wa,hwa⟩:∃wa:World,wa=wr:=⟨_,rfl⟩
    subst hwa
    by_cases hjl:j<L.length
    ·obtain⟨l,hl⟩:∃l,L[j]=l:=⟨_,rfl⟩
     have hmem:l∈L:=by rw[←hl];exact List.getElem_mem hjl
     obtain⟨b,off,a',c',rfl,hbl0,hcell0,hsl,hints0⟩:=hrc.push_mono (Below.refl _ _) hjl hl
     have hll:Hid (l.length=k∧rgB 0 l=true):=LH (hmem'.out l hmem)
     have hl6:l.length≤6:=by have:=hll.out.1;omega
     have hre:Zdm 0 l≤6:=by have:=Zmi l 0 hll.out.2;omega
     have htk:=LH (Z15 Ze1 L j hjl)
     have hcnt:=Zon Ze1 L (j+1)
     rw[htk.out,hl] at hcnt
     rw[hl] at htk
     simp only[List.length_append] at hcnt
     have hstep:Hid (Ze1 l=(List.range (Zdm 0 l+1)).map fun(j:Nat)=>l++[(j:Int)]):=LH rfl
     have hsl0:(Ze1 l).length=Zdm 0 l+1:=by rw[hstep.out];simp
     have CN:=LH (fun(W:World) (h:Zaw W a' l)=>show Calls Tryz.prog 97 #[.slice a' l.length c'] W fun e w'=>e=.returned (.int .i64 (Zdm 0 l:Int))∧w'=W from by
      have:=Zkx a' l c' W hsl h (Z8y hll.out.2 hl6)
      rw[Z7a l hll.out.2] at this
      exact this)
     clear hl
     generalize hN:(L.take j).flatMap Ze1=N at *
     clear hN
     generalize Zdm 0 l=R at *
     go_wp2
     go_loopw [5,7] (fun v n wr2=>∃(m:Nat),m≤R+1∧n=.int .i64 ((m:Int))∧OwnRows wr2 W0.heap.size 57 v (N++(List.range m).map fun(j:Nat)=>l++[(j:Int)])∧Below W0.heap.size W0 wr2) (fun _ n _=>R+1-(intOf n).toNat)
     case atStart=>exact⟨0,by omega,rfl,by simpa using hown,hbw1⟩
     case round=>
      obtain⟨m,hm2,rfl,hown2,hbw3⟩:=hrel
      have hc2:wr.cell? ⟨b,off+j,none⟩=some (.slice a' l.length c'):=Zab hbw3 hcell0
      have hi2:Zaw wr a' l:=hints0.mono hbw3
      have hb2:b<wr.heap.size:=Zag hc2
      by_cases hml:m≤R
      ·obtain⟨vs,hvs1,hvs2⟩:=hown2
       have hW0:W0.heap.size≤wr.heap.size:=hbw3.size
       have hNm:((List.range m).map fun(j:Nat)=>l++[(j:Int)]).length=m:=by simp
       have hNn:(N++(List.range m).map fun(j:Nat)=>l++[(j:Int)]).length≤120000:=by rw[List.length_append,hNm];omega
       have hrm:=LH (Zn9 (fun(j:Nat)=>l++[(j:Int)]) m)
       generalize hN2:(N++(List.range m).map fun(j:Nat)=>l++[(j:Int)])=N2 at *
       have HN2:=LH hN2
       clear hN2 hNm
       have hmR:(m:Int)≤(R:Int):=by omega
       go_wp2_with (first
        |(at_builtin;(refine Zbs (.tmp 29) (.tmp 39) Z64 rfl rfl rfl rfl W0.heap.size N2.length 1 vs [.slice (some ⟨g,0,none⟩) (l.length+1) cap] ((Zc6 hvs1 hb2').alloc _) (Za2.one _ _ _ rfl) (by omega) (by decide) (by simp;omega) ?_);intro v3 w3 ho3 hg3 hv3;(obtain⟨_,hti,hts,htb,htl⟩:=Zp1 ho2 (l:=l++[(m:Int)]) (by simp));(have hp:=OwnRows.push (w:=wr) (w1:=w2) (t:=l++[(m:Int)]) hvs1 hvs2 hb2' hti (by simpa using hts) (fun ad e=>by cases e;exact⟨htb,htl⟩) (by simpa using ho3) hg3 hv3);(have hb3:=Zdw (hbw3.trans (hb2'.mono hW0)) (Nat.le_refl _) (Nat.le_refl _) (Zc6 hvs1 hb2') hg3);clear ho3 hg3 hv3;simp only[frT])
        |(at_builtin;(refine Zbs (.tmp 35) (.tmp 37) Zh3 rfl rfl rfl rfl wr.heap.size l.length 1 (l.map (Value.int .i64)) [.int .i64 ((m:Int))] (ho1.alloc _) (Za2.one _ _ _ rfl) (by omega) (by decide) (by simp;omega) ?_);(intro v2 w2 ho2 hg2 _);(obtain⟨g,cap,rfl⟩:=Z5n ho2);(have hb2':=Zdw hb1 (Nat.le_refl _) (Nat.le_refl _) ho1 hg2);have hz2:=hb2'.size;clear hg2;simp only[frT])
        |(at_builtin;(refine Zbs (.tmp 30) (.tmp 34) Zh3 rfl rfl rfl rfl wr.heap.size 0 l.length [] (l.map (Value.int .i64)) (World.ownsRow_made wr #[] 0 (Nat.le_refl _) (by decide) rfl) ?g1 (by omega) (by decide) (by simp) ?_);(case g1=>exact Za2.ints hsl.2.2 (hi2.mono (by go_grown)));intro v1 w1 ho1 hg1 _;simp only[Nat.zero_add,List.nil_append] at ho1;have hb1:=Zm7 hg1;have hz1:=hb1.size;clear hg1;simp only[frT])
        |(go_at_call 97;(with_reducible refine(CN.out _ hi2).mono ?_);rintro e w' ⟨rfl,hw9⟩;obtain rfl:=hw9.symm;dsimp only))
       go_roundw
       case rel=>exact⟨m+1,by omega,by go_num,by rw[hrm.out,←List.append_assoc,HN2.out];exact hp,hb3⟩
       case measure=>simp[intOf];omega
      ·have hm3:m=R+1:=by omega
       have hmR:¬(m:Int)≤(R:Int):=by omega
       have HM3:=LH hm3
       clear hm3 hml
       go_wp2_with (go_at_call 97;go_must ((with_reducible refine(CN.out _ hi2).mono ?_);rintro e w' ⟨rfl,hw9⟩;obtain rfl:=hw9.symm;dsimp only))
       go_roundw
       case rel=>exact⟨j+1,by omega,by go_num,by rw[htk.out,hstep.out,←HM3.out];exact hown2,hbw3⟩
       case measure=>simp[intOf];omega
    ·have hjL:j=L.length:=by omega
     rw[hjL,List.take_length,←hnext.out,←HL'.out] at hown
     obtain⟨a3,c3,rfl,hs3,hr3⟩:=hown.rows
     go_wp2
     go_roundw
     case rel=>exact⟨k+1,c3,a3,by omega,by go_num,rfl,hs3,hr3,hbw.trans (hbw1.mono hbw.size)⟩
     case measure=>simp[intOf];omega
  ·obtain rfl:k=M:=by omega
   go_wp2
   go_ret
   exact⟨_,rfl,⟨a,c,rfl,hso,hrc⟩,hbw⟩
def Zo7 (t:PeW) (w:World) (e:Ending) (w':World):Prop:=∃a n c,e=.returned (.slice a n c)∧Hid (n≠0→Za6 t 0≠[])∧n≤1000000∧Below w.heap.size w w'
theorem Zu7 (a1 a2 a3 a4:Option Addr) (k1 k2 k3 k4:Nat) (t:PeW) (w:World) (hm:TownC w a1 a2 a3 a4 k1 k2 k3 k4 t) (hv:PeOk t):
  Calls Tryz.prog 11 #[(.agg #[.int .i64 t.ear.sounds,.slice a1 t.ear.alphas.length k1,.slice a2 t.ear.spells.length k2,.int .i64 t.vills,.slice a3 t.ments.length k3,.slice a4 t.ties.length k4]),.slice none 0 0] w (Zo7 t w):=by
 have l1:=hm.book.oka.len
 have l2:=hm.book.oks.len
 have l3:=hm.okm.len
 have l4:=hm.okt.len
 have h6:=hv.nm
 obtain⟨Y,hY⟩:∃Y:World,Y=(w.alloc (.cells #[.int .i64 t.ear.sounds,.slice a1 t.ear.alphas.length k1,.slice a2 t.ear.spells.length k2,.int .i64 t.vills,.slice a3 t.ments.length k3,.slice a4 t.ties.length k4] 29)):=⟨_,rfl⟩
 have hbY:Below w.heap.size w Y:=by rw[hY];exact(Below.refl _ _).alloc (Nat.le_refl _) _
 have hB1:Y.heap[w.heap.size]?=some (.cells #[.int .i64 t.ear.sounds,.slice a1 t.ear.alphas.length k1,.slice a2 t.ear.spells.length k2,.int .i64 t.vills,.slice a3 t.ments.length k3,.slice a4 t.ties.length k4] 29 (0,0)):=by rw[hY];exact Zac _ _ rfl
 have HY:=LH hY
 clear hY
 have HM:=LH (hm.mono hbY)
 have HBY:=LH hbY
 have HV:=LH hv
 have GR:=LH (fun W=>Zvy t.ments.length (by omega) W)
 have HGM:=LH (Zij t.ments.length)
 have hgm:(Zbe t.ments.length).length≤117649:=Nat.le_trans (Zgv _ (by omega)) (Nat.le_trans (Nat.pow_le_pow_right (by omega) h6) (by decide))
 clear hm hbY hv
 have KE:Hid (∀V,Below Y.heap.size Y V→(V.cell? ⟨w.heap.size,0,none⟩=some (.int .i64 t.ear.sounds)∧V.cell? ⟨w.heap.size,1,none⟩=some (.slice a1 t.ear.alphas.length k1)∧V.cell? ⟨w.heap.size,2,none⟩=some (.slice a2 t.ear.spells.length k2)∧V.cell? ⟨w.heap.size,3,none⟩=some (.int .i64 t.vills)∧V.cell? ⟨w.heap.size,4,none⟩=some (.slice a3 t.ments.length k3)∧V.cell? ⟨w.heap.size,5,none⟩=some (.slice a4 t.ties.length k4)∧w.heap.size<V.heap.size)):=LH (fun V h=>by
  have q1:=(h.block _ (lt_of_block hB1)).trans hB1
  exact⟨Zaa 0 q1 rfl,Zaa 1 q1 rfl,Zaa 2 q1 rfl,Zaa 3 q1 rfl,Zaa 4 q1 rfl,Zaa 5 q1 rfl,lt_of_block q1⟩)
 clear hB1
 have hq:=KE.out _ (Below.refl _ Y)
 generalize Zbe t.ments.length=G at GR HGM hgm
 go_enter Tryz.func11,Tryz.ntmps11
 go_upto_region 1 with(fail)
 rw[←HY.out]
 go_upto_region 4 with(go_at_call 46;go_must ((with_reducible refine(GR.out _).mono ?_);rintro e w1 ⟨v,rfl,⟨ag,cg,rfl,hog,hrg⟩,hb1⟩;dsimp only))
 clear hq
 have hgl:=hog.len
 go_loopw [6,7] (fun o i V=>∃(j n:Nat) (xs:List Value),j≤G.length∧n≤j∧i=.int .i64 j∧V.ownsRow w1.heap.size 57 1 o n xs∧Hid (n≠0→Za6 t 0≠[])∧Below w1.heap.size w1 V) (fun _ i _=>G.length-(intOf i).toNat)
 case atStart=>exact⟨0,0,[],Nat.zero_le _,Nat.zero_le _,rfl,World.ownsRow_nil _ _ _ _,LH (fun h=>absurd rfl h),Below.refl _ _⟩
 case round=>
  rename World=>V
  obtain⟨j,n,xs,hj,hnj,rfl,hown,HF,hbV⟩:=hrel
  have hbY2:=hb1.trans (hbV.mono hb1.size)
  by_cases hlt:j<G.length
  ·obtain⟨l,hl⟩:∃l,G[j]=l:=⟨_,rfl⟩
   have hmem:l∈G:=by rw[←hl];exact List.getElem_mem hlt
   obtain⟨b,off,a',c',hae,hbl0,hcell0,hsl,hints0⟩:=hrg.push_mono hbV hlt hl
   have HG2:=LH (HGM.out l hmem)
   have CA:=LH (fun(W:World) (h:Below Y.heap.size Y W) (hi:Zaw W a' l)=>Z5z a1 a2 a3 a4 k1 k2 k3 k4 t a' l c' W (HM.out.mono h) HV.out hsl hi HG2.out.1 HG2.out.2)
   have hl9:=hsl.len
   clear hl hmem
   subst hae
   have SR:Hid (∀U,Below V.heap.size V U→(fun U=>Below V.heap.size V U∧U.cell? ⟨w.heap.size,0,none⟩=some (.int .i64 t.ear.sounds)∧U.cell? ⟨w.heap.size,1,none⟩=some (.slice a1 t.ear.alphas.length k1)∧U.cell? ⟨w.heap.size,2,none⟩=some (.slice a2 t.ear.spells.length k2)∧U.cell? ⟨w.heap.size,3,none⟩=some (.int .i64 t.vills)∧U.cell? ⟨w.heap.size,4,none⟩=some (.slice a3 t.ments.length k3)∧U.cell? ⟨w.heap.size,5,none⟩=some (.slice a4 t.ties.length k4)∧U.cell? ⟨b,off+j,none⟩=some (.slice a' l.length c')∧w.heap.size<U.heap.size∧b<U.heap.size) U):=LH (fun U h=>by
    obtain⟨q0,q1,q2,q3,q4,q5,q6⟩:=KE.out _ (hbY2.trans (h.mono hbY2.size))
    exact⟨h,q0,q1,q2,q3,q4,q5,Zab h hcell0,q6,Nat.lt_of_lt_of_le hbl0 h.size⟩)
   go_upto_region 6 with(fail)
   have hg0:Below V.heap.size V V.drew:=Zah (Below.refl _ _)
   have hgY:=hbY2.trans (hg0.mono hbY2.size)
   have hiD:=hints0.mono hg0
   clear hcell0 hbl0
   go_region_held3 (fun U=>Below V.heap.size V U∧U.cell? ⟨w.heap.size,0,none⟩=some (.int .i64 t.ear.sounds)∧U.cell? ⟨w.heap.size,1,none⟩=some (.slice a1 t.ear.alphas.length k1)∧U.cell? ⟨w.heap.size,2,none⟩=some (.slice a2 t.ear.spells.length k2)∧U.cell? ⟨w.heap.size,3,none⟩=some (.int .i64 t.vills)∧U.cell? ⟨w.heap.size,4,none⟩=some (.slice a3 t.ments.length k3)∧U.cell? ⟨w.heap.size,5,none⟩=some (.slice a4 t.ties.length k4)∧U.cell? ⟨b,off+j,none⟩=some (.slice a' l.length c')∧w.heap.size<U.heap.size∧b<U.heap.size) (first|exact SR.out _ hg0|exact SR.out _ hg1) (first
    |(go_at_call 47;(with_reducible refine(CA.out _ hgY hiD).mono ?_);rintro e w5 ⟨r,rfl,HR,hgs⟩;have hg1:=hg0.trans (hgs.mono hg0.size);dsimp only))
   have hownW:=Zc6 hown hg1
   have hb1W:=hbV.trans (hg1.mono hbV.size)
   have hbYW:=hbY2.trans (hg1.mono hbY2.size)
   have hzY:=hb1W.size
   obtain⟨-,-,-,-,-,-,-,q6,-,q7⟩:=SR.out _ hg1
   cases r
   ·go_wp2
    go_roundw
    case rel=>exact⟨j+1,n,xs,by omega,by omega,by go_num,hownW,HF,hb1W⟩
    case measure=>simp[intOf];omega
   ·have HF2:Hid (n+1≠0→Za6 t 0≠[]):=LH (fun _=>List.ne_nil_of_mem (Z5p (HR.out rfl) HV.out))
    have hw1:=hb1.size
    go_wp2_with (at_builtin;go_must (refine Zbs (.tmp 25) (.tmp 30) Z64 rfl rfl rfl rfl w1.heap.size n 1 xs [.slice a' l.length c'] (hownW.alloc _) (Za2.one _ _ _ rfl) (by omega) (by decide) (by simp;omega) ?_;intro v2 w2 ho2 hg2 _;(have hb2:=Zdw hb1W (Nat.le_refl _) (Nat.le_refl _) hownW hg2);clear hg2;simp only[frT]))
    go_roundw
    case rel=>exact⟨j+1,n+1,_,by omega,by omega,by go_num,ho2,HF2,hb2⟩
    case measure=>simp[intOf];omega
  ·obtain rfl:j=G.length:=by omega
   have hR:=HBY.out.trans (hbY2.mono HBY.out.size)
   rcases hown.2 with⟨rfl,h0⟩|⟨g,cap,cur,rfl,_⟩
   ·have hn0:n=0:=h0
    subst hn0
    go_wp2
    go_ret
    exact⟨none,0,0,rfl,HF,by omega,hR⟩
   ·go_wp2
    go_ret
    exact⟨_,n,cap,rfl,HF,by omega,hR⟩
end
section
open Go Go.RowKit
theorem Zr2:ElemInfo Tryz.prog 50 62 (.agg #[.string ⟨#[]⟩,.int .i64 0,.int .i64 0]) 3 32:=⟨by kernel_rfl,by kernel_rfl,rfl,by decide⟩
def Zga (x:MoPaid):List Value:=[.int .i64 x.sum,.int .i64 x.claimant]
def Zb3 (x:MoSum):List Value:=[.string x.name,.int .i64 x.pence,.int .i64 x.for_]
theorem Zql (x:MoPaid):(Zga x).length=2:=rfl
theorem Zlr (x:MoSum):(Zb3 x).length=3:=rfl
theorem Zq2 (x:MoPaid):∀u∈Zga x,u.oneCell'=true:=by
 intro u hu;simp[Zga] at hu;rcases hu with rfl|rfl<;>rfl
theorem Ztn (x:MoSum):∀u∈Zb3 x,u.oneCell'=true:=by
 intro u hu;simp[Zb3] at hu;rcases hu with rfl|rfl|rfl<;>rfl
theorem Z1w {w:World} {a:Option Addr} {l:List MoPaid}:Zru w a l↔Zhp Zga 2 w a l:=by
 constructor
 ·intro h i hi
  obtain⟨b,off,e,hb,h0,h1⟩:=h i hi
  refine⟨b,off,e,hb,fun r u hr hu=>?_⟩
  have hr':r=0∨r=1:=by omega
  rcases hr' with rfl|rfl<;>(simp[Zga] at hu;subst hu;assumption)
 ·intro h i hi
  obtain⟨b,off,e,hb,hc⟩:=h i hi
  exact⟨b,off,e,hb,hc 0 _ (by omega) rfl,hc 1 _ (by omega) rfl⟩
theorem Zwk {w:World} {a:Option Addr} {l:List MoSum}:Zgy w a l↔Zhp Zb3 3 w a l:=by
 constructor
 ·intro h i hi
  obtain⟨b,off,e,hb,h0,h1,h2⟩:=h i hi
  refine⟨b,off,e,hb,fun r u hr hu=>?_⟩
  have hr':r=0∨r=1∨r=2:=by omega
  rcases hr' with rfl|rfl|rfl<;>(simp[Zb3] at hu;subst hu;assumption)
 ·intro h i hi
  obtain⟨b,off,e,hb,hc⟩:=h i hi
  exact⟨b,off,e,hb,hc 0 _ (by omega) rfl,hc 1 _ (by omega) rfl,hc 2 _ (by omega) rfl⟩
theorem Za2.paid {w:World} {a:Option Addr} {l:List MoPaid} {c:Nat} (hn:a=none→c=0) (h:Zru w a l):Za2 w (.slice a l.length c) l.length 2 (Zbg Zga l):=
 Za2.flat Zql (by decide) Zq2 hn (Z1w.1 h)
theorem Za2.sums {w:World} {a:Option Addr} {l:List MoSum} {c:Nat} (hn:a=none→c=0) (h:Zgy w a l):Za2 w (.slice a l.length c) l.length 3 (Zbg Zb3 l):=
 Za2.flat Zlr (by decide) Ztn hn (Zwk.1 h)
theorem Zmn {w:World} {base:Nat} {e:TypeId} {v:Value} {k:Nat} {l:List MoSum} (h:w.ownsRow base e 3 v k (Zbg Zb3 l)):k=l.length∧∃a c,v=.slice a l.length c∧SlOk a l.length c∧Zgy w a l:=by
 obtain⟨h1,a,c,h2,h3,h4⟩:=Zjn Zlr (by decide) h
 exact⟨h1,a,c,h2,h3,Zwk.2 h4⟩
theorem Za2.sum (W:World) (s:ByteArray) (a b:Int) (t:TypeId):Za2 (W.alloc (.cells #[.string s,.int .i64 a,.int .i64 b] t)) (.slice (some ⟨W.heap.size,0,none⟩) 1 1) 1 3 [.string s,.int .i64 a,.int .i64 b]:=by
 refine⟨rfl,by simp[Value.oneCell'],.inr ⟨_,_,rfl,fun j u hj=>?_⟩⟩
 rw[Addr.add_lit,Nat.zero_add]
 refine Zaa j (heap_alloc_new _ _) ?_
 rw[←hj]
 simp
end
end Go.Proofs.YtklconegomgjaaaGreat
