/- What is proved here: plain facts: payments that were right, sums that are held, words to wait for, by bits as by lists. No program. No condition. -/
import Derived.Test.YtklconegomgjaaaGreatLook16G
import Derived.Test.YtklconegomgjaaaGreatBeyondG
import Derived.Test.YtklconegomgjaaaGreatMidG
import Derived.Test.YtklconegomgjaaaGreatMoFactsG
set_option linter.all false
set_option maxRecDepth 100000
set_option maxHeartbeats 16000000
namespace Go.Proofs.YtklconegomgjaaaGreat
section
def Zcj (m:MoList) (but:Nat):Nat→Nat
 |0=>0
 |k+1=>if but.testBit k then Zcj m but k else Zcj m but k|||(1 <<< (match m.paid[k]? with|some p=>p.sum.toNat|none=>0))
theorem Zhy (m:MoList) (but k:Nat) (h:but.testBit k=true):Zcj m but (k+1)=Zcj m but k:=by rw[Zcj,if_pos h]
theorem Zi8 (m:MoList) (but k:Nat) (hk:k<m.paid.length) (h:but.testBit k=false):Zcj m but (k+1)=Zcj m but k|||(1 <<< m.paid[k].sum.toNat):=by
 rw[Zcj,if_neg (by simp[h]),List.getElem?_eq_getElem hk]
theorem Zna (m:MoList) (hv:Valid m) (but:Nat):∀k,k≤m.paid.length→Zcj m but k<32
 |0,_=>by show 0<32;omega
 |k+1,h=>by
  have ih:=Zna m hv but k (by omega)
  cases hb:but.testBit k with
  |true=>rw[Zhy m but k hb];exact ih
  |false=>
   rw[Zi8 m but k (by omega) hb]
   have:=(hv.paid k (by omega)).1
   have hz:=hv.nz
   exact Nat.or_lt_two_pow (n:=5) ih (by rw[Nat.one_shiftLeft];exact Nat.pow_lt_pow_right (by omega) (by omega))
theorem Zlm (m:MoList) (hv:Valid m) (but:Nat) (s:Int) (hs:0≤s):∀k,k≤m.paid.length→(Zcj m but k).testBit s.toNat=!((List.range k).all fun j=>Zw7 m (Zas but m.paid.length) s j)
 |0,_=>by simp[Zcj]
 |k+1,h=>by
  have ih:=Zlm m hv but s hs k (by omega)
  rw[List.range_succ,List.all_append,Bool.not_and,←ih]
  simp only[List.all_cons,List.all_nil,Bool.and_true]
  rw[Z36 (by omega),Zti _ _ _ (by omega)]
  cases hb:but.testBit k with
  |true=>rw[Zhy m but k hb];simp
  |false=>
   rw[Zi8 m but k (by omega) hb,Nat.testBit_or,Nat.one_shiftLeft,Nat.testBit_two_pow]
   congr 1
   have:=(hv.paid k (by omega)).1
   simp only[Bool.false_or]
   rw[Bool.eq_iff_iff]
   simp
   omega
def Zgt (m:MoList) (t:List Int) (but i:Nat):Bool:=but.testBit i||match m.paid[i]? with|some p=>decide (t[p.sum.toNat]?.getD 0=p.claimant)&&!(Zcj m but i).testBit p.sum.toNat|none=>true
theorem Zmw (m:MoList) (hv:Valid m) (t:List Int) (but i:Nat) (h:i<m.paid.length):Zgt m t but i=Zjb m t (Zas but m.paid.length) i:=by
 rw[Zos h,Zti _ _ _ h]
 unfold Zgt
 rw[List.getElem?_eq_getElem h]
 simp only
 rw[Zlm m hv but _ (hv.paid i h).1.1 i (by omega),Bool.not_not]
def Ziz (m:MoList) (t:List Int) (but:Nat):Bool:=right m t (Zas but m.paid.length)
theorem Z04 {m:MoList} (hv:Valid m) {t:List Int} {but i:Nat} (h:i<m.paid.length) (h1:but.testBit i=false) (h2:(Zcj m but i).testBit m.paid[i].sum.toNat=true∨t[m.paid[i].sum.toNat]?.getD 0≠m.paid[i].claimant):Ziz m t but=false:=by
 refine Zvb h ?_
 rw[←Zmw m hv t but i h]
 unfold Zgt
 rw[List.getElem?_eq_getElem h,h1]
 rcases h2 with h2|h2
 ·simp[h2]
 ·simp[h2]
theorem Z29 {m:MoList} (hv:Valid m) {t:List Int} {but i:Nat} (h:i<m.paid.length) (h1:but.testBit i=true∨((Zcj m but i).testBit m.paid[i].sum.toNat=false∧t[m.paid[i].sum.toNat]?.getD 0=m.paid[i].claimant)):Zgt m t but i=true:=by
 unfold Zgt
 rw[List.getElem?_eq_getElem h]
 rcases h1 with h1|⟨h1,h2⟩
 ·simp[h1]
 ·simp[h1,h2]
theorem Zze {m:MoList} (hv:Valid m) {t:List Int} {but:Nat} (h:∀i,i<m.paid.length→Zgt m t but i=true):Ziz m t but=true:=
 Zow fun i hi=>by rw[←Zmw m hv t but i hi];exact h i hi
theorem Zqa (m:MoList) (h:0<(Zao m).length) (l:List Int) (hl:∀i,i<m.paid.length→(i:Int)∈l):Zdl m (Zao m) l=true:=by
 unfold Zdl
 refine Z8j (i:=0) h ?_
 refine Zow fun i hi=>Zrm hi ?_
 rw[Zj2]
 exact hl i hi
theorem Z09 {n:Nat} {l:List Int} (h:incr n l) (hl:l.length=n):∀i,i<n→(i:Int)∈l:=by
 induction n generalizing l with
 |zero=>intro i hi;omega
 |succ n ih=>
  rcases Zjp l with rfl|⟨l',x,rfl⟩
  ·simp at hl
  ·obtain⟨h3,h4,h5⟩:=Zki.1 h
   have hl':l'.length=n:=by simpa using hl
   have hi':incr n l':=⟨h3.1,fun y hy=>⟨(h3.2 y hy).1,by have:=h4 y hy;omega⟩⟩
   intro i hi
   by_cases e:i<n
   ·have:=ih hi' hl' i e
    simp[this]
   ·have hx:x=(n:Int):=by
     by_cases h0:n=0
     ·subst h0;omega
     ·have h1:=ih hi' hl' (n-1) (by omega)
      have:=h4 _ h1
      omega
    have:i=n:=by omega
    subst this
    simp[hx]
theorem Zu4 (m:MoList) (h0:Za0 m=0):Zhq (fun l=>incr m.paid.length l∧Zdl m (Zao m) l=true) (Zd8 m).1:=by
 have hw:=Zec h0
 have hp5:=hw.1.np
 obtain⟨s1,s2⟩:=Zfg (Zdl m (Zao m)) m.paid.length m.paid.length 0
 unfold Zd8
 rw[if_pos h0]
 simp only
 have hall:∀l,incr m.paid.length l→l.length=m.paid.length→Zdl m (Zao m) l=true:=fun l h1 h2=>Zqa m hw.2 l (Z09 h1 h2)
 cases hs:Zb0 (Zdl m (Zao m)) (m.paid.length:Int) 0 m.paid.length with
 |some l=>
  have h:=s1 l hs
  refine⟨⟨h.1.1,h.1.2.2.2⟩,fun x ⟨x1,x2⟩=>?_⟩
  have hxl:=Zml x1
  by_cases e:x.length<m.paid.length
  ·exact h.2 x ⟨x1,by omega,by omega,x2⟩
  ·refine .inr ?_
   have:=h.1.2.2.1
   unfold Zbo
   rw[if_neg (by show ¬l.length=x.length;omega)]
   show decide (l.length<x.length)=true
   simp;omega
 |none=>
  have hn:=s2 hs
  have hc:=Zva m.paid.length hp5
  have hsort:=Zhb (m.paid.length:Int) m.paid.length
  have hmem:=Zdb (m.paid.length:Int) m.paid.length
  generalize Zce (m.paid.length:Int) m.paid.length=L at hc hsort hmem
  cases L with
  |nil=>simp at hc
  |cons a L=>
   obtain⟨a1,a2⟩:=(hmem a).1 (by simp)
   refine⟨⟨a2,hall a a2 a1⟩,fun x ⟨x1,x2⟩=>?_⟩
   show x=a∨Zbo a x=true
   have hxl:=Zml x1
   by_cases e:x.length<m.paid.length
   ·rw[hn x x1 (by omega) (by omega)] at x2;cases x2
   ·have hx:x∈a::L:=(hmem x).2 ⟨by omega,x1⟩
    rcases List.mem_cons.1 hx with e2|h2
    ·exact .inl e2
    ·refine .inr ?_
     unfold Zbo
     rw[if_pos (by omega)]
     exact(List.pairwise_cons.1 hsort).1 x h2
theorem Zvg {m:MoList} (h0:Za0 m=0) {best:List Int} {found:Bool} (h:Zf3 m.paid.length (fun s=>Zdl m (Zao m) (Zas s m.paid.length)) (2^m.paid.length) best found):best=(Zd8 m).1:=by
 have hw:=Zu4 m h0
 have hiff:∀l,(∃s,s<2^m.paid.length∧Zdl m (Zao m) (Zas s m.paid.length)=true∧l=Zas s m.paid.length)↔(incr m.paid.length l∧Zdl m (Zao m) l=true):=fun l=>by
  constructor
  ·rintro⟨s,_,h2,rfl⟩;exact⟨Zj4 _ _,h2⟩
  ·rintro⟨h1,h2⟩;exact⟨Zd0 l,Zjw l _ h1.2,by rw[Zez h1];exact h2,(Zez h1).symm⟩
 cases found with
 |true=>exact Znb (Znd hiff (h.2 rfl)) hw
 |false=>
  have:=(h.1 rfl).2 (Zd0 (Zd8 m).1) (Zjw _ _ hw.1.1.2)
  simp only at this
  rw[Zez hw.1.1,hw.1.2] at this
  cases this
theorem Zqc (m:MoList) (s:Nat):Zam m (Zau m s)=Zb1 m (Zas s m.words.length):=by
 unfold Zam Zb1
 congr 1
 apply List.ext_getElem
 ·rw[List.length_mapIdx];exact(Zpc _ _).symm
 ·intro i h1 h2
  have hi:i<m.words.length:=by simpa using h1
  rw[List.getElem_mapIdx]
  unfold Zg8
  rw[Zfm m s i hi]
  suffices g:∀(l:List Int) (ws:List MoWord) (hw:i<ws.length) (hl:∀x∈l,0≤x∧x<ws.length),(Zss ws l)[i]?=some {ws[i] with came:=(decide ((i:Int)∈l)||ws[i].came)} from by
   have:=g (Zas s m.words.length) m.words hi (fun x hx=>by have:=(Zfp _ _ _).1 hx;omega)
   have e:decide ((i:Int)∈Zas s m.words.length)=s.testBit i:=by
    rw[Bool.eq_iff_iff,decide_eq_true_eq,Zfp]
    constructor
    ·rintro⟨_,_,h⟩;simpa using h
    ·intro h;exact⟨by omega,by omega,by simpa using h⟩
   rw[e] at this
   have h2':i<(Zss m.words (Zas s m.words.length)).length:=by rw[Zpc];exact hi
   rw[List.getElem?_eq_getElem h2'] at this
   exact(Option.some.inj this).symm
  intro l
  induction l with
  |nil=>intro ws hw _;show ws[i]?=_;simp[hw]
  |cons x l ih=>
   intro ws hw hl
   show(Zss (Zg3 ws x.toNat) l)[i]?=_
   have hlen:=Zmq ws x.toNat
   have hx:=hl x (by simp)
   have hxn:x.toNat<ws.length:=by omega
   rw[ih (Zg3 ws x.toNat) (by omega) (fun y hy=>by rw[hlen];exact hl y (by simp[hy]))]
   simp only[Zyi ws _ hxn,List.getElem_set]
   by_cases e:x.toNat=i
   ·subst e
    have:((x.toNat:Nat):Int)=x:=by omega
    simp[this]
   ·have h3:¬(i:Int)=x:=by omega
    simp[h3,e]
end
section
theorem Zxd (m:MoList) (x:Int):x∈Zbn m↔0≤x∧∃h:x.toNat<m.words.length,m.words[x.toNat].came=false:=by
 unfold Zbn
 rw[List.mem_map]
 constructor
 ·rintro⟨i,hi,rfl⟩
  obtain⟨h1,h2⟩:=List.mem_filter.1 hi
  simp at h1
  rw[List.getElem?_eq_getElem h1] at h2
  exact⟨by omega,by simpa using h1,by simpa using h2⟩
 ·rintro⟨h1,h2,h3⟩
  refine⟨x.toNat,List.mem_filter.2 ⟨by simpa using h2,?_⟩,by omega⟩
  rw[List.getElem?_eq_getElem h2]
  simp[h3]
theorem Z1x (m:MoList):incr m.words.length (Zbn m):=by
 refine⟨?_,fun x hx=>Z7j m x hx⟩
 unfold Zbn
 rw[List.pairwise_map]
 refine List.Pairwise.filter _ ?_
 exact(List.pairwise_lt_range (n:=_)).imp (fun h=>by omega)
theorem Z3g {l:List Int} (h:l.Pairwise (fun a b=>a<b)) (i j:Nat) (hij:i<j) (hj:j<l.length):l[i]'(by omega)<l[j]:=by
 rw[List.pairwise_iff_getElem] at h
 exact h i j (by omega) hj hij
theorem Zvv {l:List Int} {x:Int} (hx:0≤x∧x<l.length):l[x.toNat]?.getD 0=l[x.toNat]'(by omega):=by rw[List.getElem?_eq_getElem (by omega)];rfl
theorem Zvx {l:List Int} (h:l.Pairwise (fun a b=>a<b)) {x y:Int} (hx:0≤x∧x<l.length) (hy:0≤y∧y<l.length) (hxy:x<y):l[x.toNat]?.getD 0<l[y.toNat]?.getD 0:=by
 rw[Zvv hx,Zvv hy]
 exact Z3g h _ _ (by omega) (by omega)
theorem Zpe {late:List Int} (h:late.Pairwise (fun a b=>a<b)):∀(a b:List Int),(∀x∈a,0≤x∧x<late.length)→(∀x∈b,0≤x∧x<late.length)→less (Zgg late a) (Zgg late b)=less a b
 |[],[],_,_=>rfl
 |_::_,[],_,_=>rfl
 |[],_::_,_,_=>rfl
 |x::a,y::b,ha,hb=>by
  have hx:=ha x (by simp)
  have hy:=hb y (by simp)
  have ih:=Zpe h a b (fun z hz=>ha z (by simp[hz])) (fun z hz=>hb z (by simp[hz]))
  show less (late[x.toNat]?.getD 0::Zgg late a) (late[y.toNat]?.getD 0::Zgg late b)=_
  simp only[less]
  rw[ih]
  by_cases e:x=y
  ·subst e;rw[if_pos rfl,if_pos rfl]
  ·rw[if_neg e]
   by_cases l:x<y
   ·have:=Zvx h hx hy l
    rw[if_neg (by omega)]
    simp[this,l]
   ·have:=Zvx h hy hx (by omega)
    rw[if_neg (by omega)]
    simp;omega
theorem Zui {late:List Int} (h:late.Pairwise (fun a b=>a<b)) (a b:List Int) (ha:∀x∈a,0≤x∧x<late.length) (hb:∀x∈b,0≤x∧x<late.length):Zbo (Zgg late a) (Zgg late b)=Zbo a b:=by
 unfold Zbo
 rw[Ztq,Ztq,Zpe h a b ha hb]
theorem Z0v {late:List Int} {n:Int} (h:incr n late) {c:List Int} (hc:incr late.length c):incr n (Zgg late c)∧∀x∈Zgg late c,x∈late:=by
 refine⟨⟨?_,Z47 h.2 hc.2⟩,?_⟩
 ·unfold Zgg
  rw[List.pairwise_map]
  refine hc.1.imp_of_mem ?_
  intro a b ha hb hab
  exact Zvx h.1 (hc.2 a ha) (hc.2 b hb) hab
 ·intro x hx
  unfold Zgg at hx
  obtain⟨i,hi,rfl⟩:=List.mem_map.1 hx
  rw[Zvv (hc.2 i hi)]
  exact List.getElem_mem _
theorem Zxe {late:List Int} (h:late.Pairwise (fun a b=>a<b)) {l:List Int} (hl:l.Pairwise (fun a b=>a<b)) (hm:∀x∈l,x∈late):∃c,incr late.length c∧l=Zgg late c:=by
 refine⟨l.map fun x=>((late.idxOf x:Nat):Int),⟨?_,fun y hy=>?_⟩,?_⟩
 ·rw[List.pairwise_map]
  refine hl.imp_of_mem ?_
  intro a b ha hb hab
  have h1:=List.idxOf_lt_length_of_mem (hm a ha)
  have h2:=List.idxOf_lt_length_of_mem (hm b hb)
  have e1:late[late.idxOf a]=a:=List.getElem_idxOf h1
  have e2:late[late.idxOf b]=b:=List.getElem_idxOf h2
  have:¬late.idxOf b≤late.idxOf a:=fun hle=>by
   rcases Nat.lt_or_eq_of_le hle with h3|h3
   ·have:=Z3g h _ _ h3 h1
    omega
   ·have:late[late.idxOf b]=late[late.idxOf a]:=by congr 1
    omega
  omega
 ·obtain⟨x,hx,rfl⟩:=List.mem_map.1 hy
  have:=List.idxOf_lt_length_of_mem (hm x hx)
  omega
 ·unfold Zgg
  rw[List.map_map]
  symm
  have:∀x∈l,((fun i:Int=>late[i.toNat]?.getD 0) ∘ fun x=>((late.idxOf x:Nat):Int)) x=id x:=fun x hx=>by
   have h1:=List.idxOf_lt_length_of_mem (hm x hx)
   simp only[Function.comp,Int.toNat_natCast,id]
   rw[List.getElem?_eq_getElem h1,List.getElem_idxOf h1];rfl
  rw[List.map_congr_left this,List.map_id]
def Z78 (m:MoList) (l:List Int):Prop:=incr m.words.length l∧(∀x∈l,x∈Zbn m)∧Zfd m l=true
theorem Z20 (m:MoList) (h0:Za0 m=0):((Zd4 m).2=0∧Zhq (Z78 m) (Zd4 m).1)∨((Zd4 m).2=9∧(Zd4 m).1=[]∧∀l,¬Z78 m l):=by
 have hlate:=Z1x m
 unfold Zd4
 rw[if_pos h0]
 obtain⟨s1,s2⟩:=Zfg (fun c=>Zfd m (Zgg (Zbn m) c)) (Zbn m).length ((Zbn m).length+1) 0
 cases hs:Zb0 (fun c=>Zfd m (Zgg (Zbn m) c)) ((Zbn m).length:Int) 0 ((Zbn m).length+1) with
 |some c=>
  refine .inl ⟨rfl,?_⟩
  have h:=s1 c hs
  obtain⟨⟨h1,_,_,h4⟩,h5⟩:=h
  have hp:=Z0v hlate h1
  refine⟨⟨hp.1,hp.2,h4⟩,fun x ⟨x1,x2,x3⟩=>?_⟩
  obtain⟨d,d1,rfl⟩:=Zxe hlate.1 x1.1 x2
  rcases h5 d ⟨d1,by omega,by have:=Zml d1;omega,x3⟩ with e|h
  ·exact .inl (by rw[e])
  ·exact .inr (by rw[Zui hlate.1 _ _ h1.2 d1.2];exact h)
 |none=>
  refine .inr ⟨rfl,rfl,fun l ⟨x1,x2,x3⟩=>?_⟩
  obtain⟨d,d1,rfl⟩:=Zxe hlate.1 x1.1 x2
  have:=s2 hs d d1 (by omega) (by have:=Zml d1;omega)
  rw[this] at x3
  cases x3
def Zkq (m:MoList) (s:Nat):Bool:=(s &&& Zau m 0==0)&&Zfd m (Zas s m.words.length)
theorem Z6o (a b n:Nat) (ha:a<2^n):(a &&& b==0)=true↔∀i,i<n→a.testBit i=true→b.testBit i=false:=by
 rw[beq_iff_eq]
 constructor
 ·intro h i _ h1
  have:=congrArg (fun x=>x.testBit i) h
  simp only[Nat.testBit_and,h1,Bool.true_and,Nat.zero_testBit] at this
  exact this
 ·intro h
  apply Nat.eq_of_testBit_eq
  intro i
  rw[Nat.testBit_and,Nat.zero_testBit]
  cases h1:a.testBit i with
  |false=>rfl
  |true=>
   have hi:i<n:=Classical.byContradiction fun hn=>by
    have:=Nat.testBit_lt_two_pow (Nat.lt_of_lt_of_le ha (Nat.pow_le_pow_right (by omega) (Nat.le_of_not_lt hn)))
    rw[this] at h1;cases h1
   simp[h i hi h1]
theorem Ztc (m:MoList) (s:Nat) (hs:s<2^m.words.length):(s &&& Zau m 0==0)=true↔∀x∈Zas s m.words.length,x∈Zbn m:=by
 rw[Z6o _ _ _ hs]
 constructor
 ·intro h x hx
  obtain⟨h1,h2,h3⟩:=(Zfp _ _ _).1 hx
  have hi:x.toNat<m.words.length:=by omega
  have:=h _ hi h3
  rw[Zfm m 0 _ hi] at this
  exact(Zxd m x).2 ⟨h1,hi,by simpa using this⟩
 ·intro h i hi h1
  obtain⟨_,g2,g3⟩:=(Zxd m (i:Int)).1 (h i ((Zfp _ _ _).2 ⟨by omega,by omega,by simpa using h1⟩))
  rw[Zfm m 0 i hi]
  simpa using g3
theorem Z0i {m:MoList} (h0:Za0 m=0) {best:List Int} {found:Bool} (h:Zf3 m.words.length (Zkq m) (2^m.words.length) best found):(found=true∧(Zd4 m).2=0∧best=(Zd4 m).1)∨(found=false∧(Zd4 m).2=9∧(Zd4 m).1=[]):=by
 have hiff:∀l,(∃s,s<2^m.words.length∧Zkq m s=true∧l=Zas s m.words.length)↔Z78 m l:=fun l=>by
  constructor
  ·rintro⟨s,h1,h2,rfl⟩
   unfold Zkq at h2
   rw[Bool.and_eq_true] at h2
   exact⟨Zj4 _ _,(Ztc m s h1).1 h2.1,h2.2⟩
  ·rintro⟨h1,h2,h3⟩
   have hlt:=Zjw l _ h1.2
   refine⟨Zd0 l,hlt,?_,(Zez h1).symm⟩
   unfold Zkq
   rw[Bool.and_eq_true]
   exact⟨(Ztc m _ hlt).2 (by rw[Zez h1];exact h2),by rw[Zez h1];exact h3⟩
 rcases Z20 m h0 with⟨w1,w2⟩|⟨w1,w2,w3⟩
 ·left
  cases found with
  |true=>exact⟨rfl,w1,Znb (Znd hiff (h.2 rfl)) w2⟩
  |false=>
   obtain⟨s,s1,s2,_⟩:=(hiff _).2 w2.1
   rw[(h.1 rfl).2 s s1] at s2
   cases s2
 ·right
  cases found with
  |true=>exact absurd ((hiff _).1 (h.2 rfl).1) (w3 _)
  |false=>exact⟨rfl,w1,w2⟩
end
section
open Go Go.RowKit
theorem Zyv (ac az aw ap:Option Addr) (cc cz cw cp:Nat) (m:MoList) (c bm but:Nat) (t:List Int) (t0 t1 t2 t3 t4:Int) (hT:pad 5 t=[t0,t1,t2,t3,t4]) (ht:t.length=m.sums.length) (w:World) (hm:LookC w bm ac az aw ap cc cz cw cp m c) (hv:Valid m) (hbut:but<64):
  Calls Tryz.prog 111 #[.pointer (some ⟨bm,0,none⟩),.agg #[.int .i64 t0,.int .i64 t1,.int .i64 t2,.int .i64 t3,.int .i64 t4],.int .i64 (but:Int)] w fun e w'=>e=.returned (.bool (Ziz m t but))∧Below w.heap.size w w':=by
 have HT:=LH hT
 clear hT
 have HL:=LH ht
 clear ht
 have l4:=hm.lst.okp.len
 have v4:=hv.np
 have vz:=hv.nz
 have c3:=hm.c3
 have hB:=Zag c3
 have hW0:=Below.refl (w.heap.size+1) (w.alloc (.cells #[.int .i64 t0,.int .i64 t1,.int .i64 t2,.int .i64 t3,.int .i64 t4] 183))
 go_enter Tryz.func111,Tryz.ntmps111
 go_wp2
 go_loopw [7,16] (fun s i wr=>∃k:Nat,k≤m.paid.length∧i=.int .i64 k∧s=.int .i64 ((Zcj m but k:Nat):Int)∧Hid (∀j,j<k→Zgt m t but j=true)∧Below (w.heap.size+1) (w.alloc (.cells #[.int .i64 t0,.int .i64 t1,.int .i64 t2,.int .i64 t3,.int .i64 t4] 183)) wr) (fun _ i _=>m.paid.length-(intOf i).toNat)
 case atStart=>exact⟨0,Nat.zero_le _,rfl,rfl,LH (fun j h=>absurd h (Nat.not_lt_zero j)),hW0⟩
 case round=>
  clear hW0
  obtain⟨k,hk,rfl,rfl,HR,hbr⟩:=hrel
  have hbw:=Zaf hbr
  have hbz:=Zai hbr
  have d3:=Zab hbw c3
  have hBd:=Zag d3
  clear c3 hB
  by_cases hlt:k<m.paid.length
  ·obtain⟨b,off,rfl,hb0,z1,z2⟩:=(hm.lst.mono hbw).paid k hlt
   have hpv:=hv.paid k hlt
   have HS:=LH (Zna m hv but k (by omega))
   have A0:=LH (Zhy m but k)
   have A1:=LH (Zi8 m but k hlt)
   have A2:=LH (Z04 hv (t:=t) (but:=but) hlt)
   have A3:=LH (Z29 hv (t:=t) (but:=but) hlt)
   have HB:=Zkv but hbut k (by omega)
   generalize hps:m.paid[k].sum=ps at z1 hpv A1 A2 A3
   generalize hpc:m.paid[k].claimant=pc at z2 hpv A2 A3
   clear hps hpc
   obtain⟨⟨hp0,hp1⟩,hp2,hp3⟩:=hpv
   obtain⟨p,rfl⟩:=Int.eq_ofNat_of_zero_le hp0
   have hp5:p<5:=by omega
   have hp5i:(p:Int)<5:=by omega
   simp only[Int.toNat_natCast] at A1 A2 A3
   have y1:=Zkd hbr HT.out p hp5
   have hg:=Zfw 5 t p (by rw[HL.out];omega)
   rw[hg] at y1
   clear hg
   generalize t[p]?.getD 0=y at y1 A2 A3
   generalize hpb:Zcj m but k=pb at HS A0 A1 A2 A3
   clear hpb
   generalize hbk:but.testBit k=bk at HB A0 A1 A2 A3
   clear hbk
   cases bk
   ·have HP:=Zkv pb (Nat.lt_trans HS.out (by decide)) p (by omega)
    have HO:=LH (Z65 pb (Nat.lt_trans HS.out (by decide)) p (by omega))
    generalize pb.testBit p=bp at HP A2 A3
    cases bp
    ·by_cases hy:y=pc
     ·have g:=Zdf hy
      have A4:=LH (A3.out (.inr ⟨rfl,hy⟩))
      clear A2 A3 hy
      go_wp2
      go_quiet (fail)
      go_wp2
      go_roundw
      case rel=>exact⟨k+1,by omega,by go_num,Z88 (HO.out.trans (by rw[A1.out trivial])),LH (fun j hj=>by by_cases e:j<k;exact HR.out j e;obtain rfl:j=k:=(by omega);exact A4.out),Zan (hbr.alloc hbz _) _⟩
      case measure=>simp[intOf];omega
     ·have g:=Zcp hy
      have A4:=LH (A2.out rfl (.inr hy))
      clear A2 A3 hy
      go_wp2
      go_quiet (fail)
      go_wp2
      go_ret
      exact⟨Zaq A4.out.symm,Zan (hbw.alloc hbw.size _) _⟩
    ·have A4:=LH (A2.out rfl (.inl rfl))
     clear A2 A3
     go_wp2
     go_quiet (fail)
     go_wp2
     go_ret
     exact⟨Zaq A4.out.symm,Zan (hbw.alloc hbw.size _) _⟩
   ·have A4:=LH (A3.out (.inl rfl))
    go_wp2
    go_roundw
    case rel=>exact⟨k+1,by omega,by go_num,by rw[A0.out rfl],LH (fun j hj=>by by_cases e:j<k;exact HR.out j e;obtain rfl:j=k:=(by omega);exact A4.out),hbr.alloc hbz _⟩
    case measure=>simp[intOf];omega
  ·obtain rfl:k=m.paid.length:=by omega
   go_wp2
   go_ret
   exact⟨Zaq (Zze hv HR.out).symm,hbw⟩
end
section
open Go Go.RowKit
theorem Ztu:∀n:Nat,n≤6→wrap64 (2^n)=((2^n:Nat):Int):=by decide +kernel
theorem Zk4:∀n:Nat,n≤6→2^n≤64:=by decide +kernel
theorem Zr5 (n F:Nat) (hn:n≤6) (caps:Array Value) (so:Nat→Bool) (w:World) (row:Option Nat) (hrow:∀r,row=some r→r<w.heap.size) (I:World→Prop) (hI:∀A A',I A→Below A.heap.size A A'→I A') (h0:I w)
  (hCF:∀(xs:Array Value) (W:World),(callFunc F xs).run Tryz.prog W=.ok (.enter F xs) W) (hF:∀(s:Nat) (W:World),s<2^n→w.heap.size≤W.heap.size→I W→Calls Tryz.prog F (#[.int .i64 (s:Int)]++caps) W fun e W'=>e=.returned (.bool (so s))∧W.grownBy W' row∧I W'):
  Calls Tryz.prog 105 #[.int .i64 (n:Int),.func (.func F) #[] caps] w fun e w'=>∃v best found,e=.returned (.tuple #[v,.bool found])∧Zbm w.heap.size w' v best∧Hid (Zf3 n so (2^n) best found)∧w.grownBy w' row∧I w':=by
 have hp:=Ztu n hn
 have hp64:=Zk4 n hn
 have NU:=LH (fun(s:Nat) (hs:s<64) (W:World)=>Zks s n hs hn W)
 generalize hNN:2^n=N at hp hp64 hF ⊢
 replace hF:=LH hF
 replace hI:=LH hI
 replace hrow:=LH hrow
 clear hNN
 go_enter Tryz.func105,Tryz.ntmps105
 go_wp2
 rw[hp]
 clear hp
 go_loopw [4,5,10] (fun v f i wr=>∃(k:Nat) (best:List Int) (found:Bool),k≤N∧i=.int .i64 k∧f=.bool found∧Zbm w.heap.size wr v best∧Hid (Zf3 n so k best found)∧w.grownBy wr row∧I wr) (fun _ _ i _=>N-(intOf i).toNat)
 case atStart=>exact⟨0,[],false,Nat.zero_le _,rfl,rfl,⟨none,0,rfl,⟨by simp,by omega,fun _=>rfl⟩,Zaw.nil _ _,fun _ h=>by cases h⟩,LH (Zoo n so),World.grownBy.refl _ _,h0⟩
 case round=>
  obtain⟨k,best,found,hk,rfl,rfl,⟨ab,cb,rfl,hsb,hib,hlb0⟩,HFO,hG,hJ⟩:=hrel
  have hbl:=hsb.len
  by_cases hlt:k<N
  ·have HK1:=LH (fun(e:found=true) (h:Zbo best (Zas k n)=true)=>(Zpd (e▸HFO.out) (.inr h):Zf3 n so (k+1) best true))
   have HK2:=LH (fun(h:so k=false)=>Zws HFO.out h)
   have HK3:=LH (fun(h:so k=true) (hf:found=true→Zbo best (Zas k n)=false)=>Zsm HFO.out h hf)
   replace NU:=fun W=>NU.out k (by omega) W
   have C:=fun W h h2=>hF.out k W hlt h h2
   generalize Zas k n=l at HK1 HK3 NU
   generalize so k=sk at HK2 HK3 C
   replace NU:=LH NU
   replace C:=LH C
   have hkN:(k:Int)<64:=by omega
   cases found
   ·replace HK3:=LH (fun h=>HK3.out h (fun e=>by cases e))
    cases sk
    ·go_wp2_with (first|(go_at_call 62;go_must (refine(NU.out _).mono ?_;rintro e w2 ⟨v2,rfl,⟨a2,c2,rfl,ho2,hi2,hn2⟩,hb2⟩;dsimp only))|((with_reducible refine(C.out _ (Nat.le_trans hG.size hb2.size) (hI.out _ _ hJ hb2)).mono ?_);rintro e w3 ⟨rfl,hg3,hJ3⟩;dsimp only))
     (go_roundw;case rel=>exact⟨k+1,best,_,by omega,by go_num,rfl,Zbm.grown (Zbm.mono ⟨ab,cb,rfl,hsb,hib,hlb0⟩ hb2) hg3 hrow.out,LH (HK2.out rfl),(hG.trans (Zeh row hb2)).trans hg3,hJ3⟩)
     (case measure=>simp[intOf];omega)
    ·replace HK3:=LH (HK3.out rfl)
     go_wp2_with (first|(go_at_call 62;go_must (refine(NU.out _).mono ?_;rintro e w2 ⟨v2,rfl,⟨a2,c2,rfl,ho2,hi2,hn2⟩,hb2⟩;dsimp only))|((with_reducible refine(C.out _ (Nat.le_trans hG.size hb2.size) (hI.out _ _ hJ hb2)).mono ?_);rintro e w3 ⟨rfl,hg3,hJ3⟩;dsimp only))
     (go_roundw;case rel=>exact⟨k+1,l,true,by omega,by go_num,rfl,Zbm.grown ⟨a2,c2,rfl,ho2,hi2,fun ad e=>Nat.le_trans hG.size (hn2 ad e)⟩ hg3 hrow.out,LH HK3.out,(hG.trans (Zeh row hb2)).trans hg3,hJ3⟩)
     (case measure=>simp[intOf];omega)
   ·by_cases h1:best.length<l.length
    ·have hK:=LH (HK1.out rfl (by unfold Zbo;rw[if_neg (by omega)];simpa using h1))
     go_wp2_with (go_at_call 62;go_must (refine(NU.out _).mono ?_;rintro e w2 ⟨v2,rfl,⟨a2,c2,rfl,ho2,hi2,hn2⟩,hb2⟩;dsimp only))
     go_roundw
     case rel=>exact⟨k+1,best,true,by omega,by go_num,rfl,Zbm.mono ⟨ab,cb,rfl,hsb,hib,hlb0⟩ hb2,hK,hG.trans (Zeh row hb2),hI.out _ _ hJ hb2⟩
     (case measure=>simp[intOf];omega)
    ·by_cases h2:l.length=best.length
     ·have g2:=Zse h2
      have hle:=LH h2
      replace HK1:=LH (fun h=>HK1.out rfl h)
      replace HK3:=LH (fun h e=>HK3.out h (fun _=>e))
      have hfw:Zbo best l=less best l:=by unfold Zbo;rw[if_pos h2.symm]
      rw[hfw] at HK1 HK3
      clear hfw h2
      obtain⟨lb,hlb1⟩:∃lb,less best l=lb:=⟨_,rfl⟩
      rw[hlb1] at HK1 HK3
      have hlb:=LH hlb1
      clear hlb1
      cases lb
      ·replace HK3:=LH (fun h=>HK3.out h rfl)
       cases sk
       ·go_wp2_with (first|(go_at_call 62;go_must (refine(NU.out _).mono ?_;rintro e w2 ⟨v2,rfl,⟨a2,c2,rfl,ho2,hi2,hn2⟩,hb2⟩;dsimp only))|(go_at_call 71;go_must (refine(Zia a2 ab l best c2 cb w2 hle.out hbl hi2 (hib.mono hb2)).mono ?_;rintro e w4 ⟨q,rfl,hq,hw4⟩;obtain rfl:=hw4.symm;have hq:=hq.out.trans hlb.out;simp only[decide_eq_true_eq,decide_eq_false_iff_not] at hq;dsimp only))|((with_reducible refine(C.out _ (Nat.le_trans hG.size hb2.size) (hI.out _ _ hJ hb2)).mono ?_);rintro e w3 ⟨rfl,hg3,hJ3⟩;dsimp only))
        (go_roundw;case rel=>exact⟨k+1,best,_,by omega,by go_num,rfl,Zbm.grown (Zbm.mono ⟨ab,cb,rfl,hsb,hib,hlb0⟩ hb2) hg3 hrow.out,LH (HK2.out rfl),(hG.trans (Zeh row hb2)).trans hg3,hJ3⟩)
        (case measure=>simp[intOf];omega)
       ·replace HK3:=LH (HK3.out rfl)
        go_wp2_with (first|(go_at_call 62;go_must (refine(NU.out _).mono ?_;rintro e w2 ⟨v2,rfl,⟨a2,c2,rfl,ho2,hi2,hn2⟩,hb2⟩;dsimp only))|(go_at_call 71;go_must (refine(Zia a2 ab l best c2 cb w2 hle.out hbl hi2 (hib.mono hb2)).mono ?_;rintro e w4 ⟨q,rfl,hq,hw4⟩;obtain rfl:=hw4.symm;have hq:=hq.out.trans hlb.out;simp only[decide_eq_true_eq,decide_eq_false_iff_not] at hq;dsimp only))|((with_reducible refine(C.out _ (Nat.le_trans hG.size hb2.size) (hI.out _ _ hJ hb2)).mono ?_);rintro e w3 ⟨rfl,hg3,hJ3⟩;dsimp only))
        (go_roundw;case rel=>exact⟨k+1,l,true,by omega,by go_num,rfl,Zbm.grown ⟨a2,c2,rfl,ho2,hi2,fun ad e=>Nat.le_trans hG.size (hn2 ad e)⟩ hg3 hrow.out,LH HK3.out,(hG.trans (Zeh row hb2)).trans hg3,hJ3⟩)
        (case measure=>simp[intOf];omega)
      ·have hK:=LH (HK1.out rfl)
       go_wp2_with (first|(go_at_call 62;go_must (refine(NU.out _).mono ?_;rintro e w2 ⟨v2,rfl,⟨a2,c2,rfl,ho2,hi2,hn2⟩,hb2⟩;dsimp only))|(go_at_call 71;go_must (refine(Zia a2 ab l best c2 cb w2 hle.out hbl hi2 (hib.mono hb2)).mono ?_;rintro e w4 ⟨q,rfl,hq,hw4⟩;obtain rfl:=hw4.symm;have hq:=hq.out.trans hlb.out;simp only[decide_eq_true_eq,decide_eq_false_iff_not] at hq;dsimp only)))
       go_roundw
       case rel=>exact⟨k+1,best,true,by omega,by go_num,rfl,Zbm.mono ⟨ab,cb,rfl,hsb,hib,hlb0⟩ hb2,hK,hG.trans (Zeh row hb2),hI.out _ _ hJ hb2⟩
       (case measure=>simp[intOf];omega)
     ·have g2:=Zoa h2
      replace HK3:=LH (fun h=>HK3.out h (fun _=>by unfold Zbo;rw[if_neg (by omega)];simpa using h1))
      cases sk
      ·go_wp2_with (first|(go_at_call 62;go_must (refine(NU.out _).mono ?_;rintro e w2 ⟨v2,rfl,⟨a2,c2,rfl,ho2,hi2,hn2⟩,hb2⟩;dsimp only))|((with_reducible refine(C.out _ (Nat.le_trans hG.size hb2.size) (hI.out _ _ hJ hb2)).mono ?_);rintro e w3 ⟨rfl,hg3,hJ3⟩;dsimp only))
       (go_roundw;case rel=>exact⟨k+1,best,_,by omega,by go_num,rfl,Zbm.grown (Zbm.mono ⟨ab,cb,rfl,hsb,hib,hlb0⟩ hb2) hg3 hrow.out,LH (HK2.out rfl),(hG.trans (Zeh row hb2)).trans hg3,hJ3⟩)
       (case measure=>simp[intOf];omega)
      ·replace HK3:=LH (HK3.out rfl)
       go_wp2_with (first|(go_at_call 62;go_must (refine(NU.out _).mono ?_;rintro e w2 ⟨v2,rfl,⟨a2,c2,rfl,ho2,hi2,hn2⟩,hb2⟩;dsimp only))|((with_reducible refine(C.out _ (Nat.le_trans hG.size hb2.size) (hI.out _ _ hJ hb2)).mono ?_);rintro e w3 ⟨rfl,hg3,hJ3⟩;dsimp only))
       (go_roundw;case rel=>exact⟨k+1,l,true,by omega,by go_num,rfl,Zbm.grown ⟨a2,c2,rfl,ho2,hi2,fun ad e=>Nat.le_trans hG.size (hn2 ad e)⟩ hg3 hrow.out,LH HK3.out,(hG.trans (Zeh row hb2)).trans hg3,hJ3⟩)
       (case measure=>simp[intOf];omega)
  ·obtain rfl:k=N:=by omega
   go_wp2
   go_ret2
   exact⟨_,best,found,rfl,⟨ab,cb,rfl,hsb,hib,hlb0⟩,HFO,hG,hJ⟩
theorem Znq (n F:Nat) (hn:n≤6) (caps:Array Value) (so:Nat→Bool) (w:World) (hCF:∀(xs:Array Value) (W:World),(callFunc F xs).run Tryz.prog W=.ok (.enter F xs) W) (hF:∀(s:Nat) (W:World),s<2^n→Below w.heap.size w W→Calls Tryz.prog F (#[.int .i64 (s:Int)]++caps) W fun e W'=>e=.returned (.bool (so s))∧Below W.heap.size W W'):
  Calls Tryz.prog 105 #[.int .i64 (n:Int),.func (.func F) #[] caps] w fun e w'=>∃v best found,e=.returned (.tuple #[v,.bool found])∧Ze7 w' v best∧Hid (Zf3 n so (2^n) best found)∧Below w.heap.size w w':=
 (Zr5 n F hn caps so w none (fun _ h=>by cases h) (fun W=>Below w.heap.size w W) (fun A A' h h2=>h.trans (h2.mono h.size)) (Below.refl _ _) hCF
  (fun s W hs _ hW=>(hF s W hs hW).mono fun e W' h=>⟨h.1,Zeh none h.2,hW.trans (h.2.mono hW.size)⟩)).mono fun e w' ⟨v,best,found,h1,h2,h3,_,h5⟩=>⟨v,best,found,h1,h2.val,h3,h5⟩
end
section
open Go Go.RowKit
theorem Zvc (ac az aw ap:Option Addr) (cc cz cw cp:Nat) (m:MoList) (bm bo p c but:Nat) (E:List Int) (T:List (List Int)) (w:World) (hm:ListC w ac az aw ap cc cz cw cp m) (hv:Valid m) (hbut:but<64) (hl:∀t∈T,t.length=m.sums.length)
  (hp:w.cell? ⟨p,0,none⟩=some (.pointer (some ⟨bm,0,none⟩))) (hL:LBlk w bm ac az aw ap cc cz cw cp m c bo E) (hM:MapV w Tryz.prog 183 bo (ents m T)):
  Calls Tryz.prog 110 #[.int .i64 (but:Int),.pointer (some ⟨p,0,none⟩)] w fun e w'=>e=.returned (.bool (T.any fun t=>Ziz m t but))∧Below w.heap.size w w':=by
 have vz:=hv.nz
 have R:=LH (fun(t:List Int) (t0 t1 t2 t3 t4:Int) (hT:pad 5 t=[t0,t1,t2,t3,t4]) (ht:t.length=m.sums.length) (V:World) (hb:Below w.heap.size w V)=>Zyv ac az aw ap cc cz cw cp m c bm but t t0 t1 t2 t3 t4 hT ht V ((hL.look hm).mono hb) hv hbut)
 have hcm:=hL.cells.2.2.2.2.2
 have hpl:=Zag hp
 have hbm:=hL.lt
 have HL:=LH hl
 clear hl
 clear hL
 obtain⟨r,hr⟩:∃r,r=T.any fun t=>Ziz m t but:=⟨_,rfl⟩
 rw[←hr]
 have HR:=LH hr
 clear hr
 go_enter Tryz.func110,Tryz.ntmps110
 go_wp2_with (at_range;refine Zei rfl (.tmp 8) _ rfl _ _ rfl bo _ rfl hM ?_;intro o' hrg;go_frame)
 have hW:=(Below.refl _ w).alloc (Nat.le_refl _) o'
 have hrw:w.heap.size<(w.alloc o').heap.size:=by simp
 generalize (w.alloc o')=W at hrg hW hrw
 go_loopw [10] (fun _ wr=>∃(pre rem:List (List Int)),Hid (∀t∈pre,Ziz m t but=false)∧(pre++rem).Perm T∧RngV wr Tryz.prog 183 bo w.heap.size (ents m T) (rem.map fun t=>(five (pad 5 t),four m t))∧Below w.heap.size w wr) (fun _ wr=>wr.rangeLeft bo w.heap.size)
 case atStart=>exact⟨[],T,LH (by simp),by simp,hrg,hW⟩
 case round=>
  obtain⟨pre,rem,hpre,hperm,hrg1,hB⟩:=hrel
  have hz:=hB.size
  go_wp2_with (at_next;refine Zex rfl (.tmp 9) rfl _ (fun t=>five (pad 5 t)) (fun t=>four m t) bo w.heap.size _ rem rfl hrg1 ?_ ?_)
  ·intro h0
   subst h0
   rw[List.append_nil] at hperm
   have hE:Hid (r=false):=LH (by
    rw[HR.out,List.any_eq_false]
    intro t ht
    rw[hpre.out t (hperm.mem_iff.2 ht)]
    simp)
   clear hperm
   go_wp2
   go_ret
   exact⟨Zaq hE.out.symm,hB⟩
  ·intro x rem' w3 hp3 hrg3 hg3 hs3 hen
   have hperm3:=(List.Perm.append_left pre hp3).symm.trans hperm
   have hxT:x∈T:=hperm3.mem_iff.1 (by simp)
   have hxl:=HL.out x hxT
   have hB3:Below w.heap.size w w3:=hB.grown hg3 hz (fun k e=>by have:=Option.some.inj e;omega)
   have hz3:=hB3.size
   have hP4:=LH (show((pre++[x])++rem').Perm T from by simpa using hperm3)
   have hLR:=LH (show rem.length=rem'.length+1 from by simpa using hp3.length_eq)
   have hml:=LH hrg1.left_eq
   have hpx:=Zfz 5 x (by omega)
   obtain⟨x0,x1,x2,x3,x4,hx5⟩:∃x0 x1 x2 x3 x4:Int,pad 5 x=[x0,x1,x2,x3,x4]:=⟨_,_,_,_,_,Zu6 hpx⟩
   have hxf:five (pad 5 x)=.agg #[.int .i64 x0,.int .i64 x1,.int .i64 x2,.int .i64 x3,.int .i64 x4]:=by rw[hx5];rfl
   rw[hxf] at hen ⊢
   have RX:=LH (fun V h=>R.out x x0 x1 x2 x3 x4 hx5 hxl V h)
   have hAny:Hid (Ziz m x but=true→r=true):=LH (fun h=>by rw[HR.out,List.any_eq_true];exact⟨x,hxT,h⟩)
   have hp4:=Zab hB3 hp
   have hpl4:=Zag hp4
   have hB4:=hB3.alloc hz3 (.cells #[.int .i64 x0,.int .i64 x1,.int .i64 x2,.int .i64 x3,.int .i64 x4] 183)
   have hrg4:=hrg3.same (Below.heap_alloc w3 (.cells #[.int .i64 x0,.int .i64 x1,.int .i64 x2,.int .i64 x3,.int .i64 x4] 183) _ hrg3.map.lt) (Below.heap_alloc w3 (.cells #[.int .i64 x0,.int .i64 x1,.int .i64 x2,.int .i64 x3,.int .i64 x4] 183) _ hrg3.lt)
   clear hperm hperm3 hp3 hxT hxl hrg1 hpx hx5 hxf hrg3 hs3
   obtain⟨b,hb⟩:∃b,Ziz m x but=b:=⟨_,rfl⟩
   rw[hb] at RX hAny
   have HB:=LH hb
   clear hb
   cases b
   ·go_wp2_with (first
     |(refine Zdk rfl (.tmp 9) rfl _ w.heap.size rfl hen ?_;go_frame)
     |(go_at_call 111;go_must (refine(RX.out _ hB4).mono ?_;rintro e w5 ⟨rfl,hb5⟩;dsimp only)))
    have hz4:=hB4.size
    have hrg5:=hrg4.below hb5 hrg4.map.lt hrg4.lt
    go_roundw
    case rel=>exact⟨pre++[x],rem',LH (fun t ht=>by rcases List.mem_append.1 ht with h|h;exact hpre.out t h;simp at h;subst h;exact HB.out),hP4.out,hrg5,hB4.trans (hb5.mono hz4)⟩
    case measure=>
     rw[hrg5.left_eq,hml.out]
     have:=hLR.out
     simp
     omega
   ·go_wp2_with (first
     |(refine Zdk rfl (.tmp 9) rfl _ w.heap.size rfl hen ?_;go_frame)
     |(go_at_call 111;go_must (refine(RX.out _ hB4).mono ?_;rintro e w5 ⟨rfl,hb5⟩;dsimp only)))
    have hz4:=hB4.size
    go_ret
    exact⟨Zaq (hAny.out trivial).symm,hB4.trans (hb5.mono hz4)⟩
theorem Z1m (m:MoList):Za0 m≠0→Zd8 m=([],Za0 m):=fun h=>if_neg h
theorem Zy3 (m:MoList) (h:Za0 m=0):(Zd8 m).2=0:=by unfold Zd8;rw[if_pos h]
theorem Z5q (xs:Array Value) (W:World):(callFunc 110 xs).run Tryz.prog W=.ok (.enter 110 xs) W:=by kernel_rfl
theorem Zyy (ac az aw ap:Option Addr) (cc cz cw cp:Nat) (m:MoList) (w:World) (hm:ListC w ac az aw ap cc cz cw cp m):
  Calls Tryz.prog 54 #[(.agg #[.slice ac m.claimants.length cc,.slice az m.sums.length cz,.slice aw m.words.length cw,.slice ap m.paid.length cp])] w fun e w'=>∃v,e=.returned (.tuple #[v,.int .i64 (Zd8 m).2])∧Ze7 w' v (Zd8 m).1∧Below w.heap.size w w':=by
 have HV:=LH (fun h:Za0 m=0=>Zec h)
 have HZ:=LH (Zy3 m)
 have HE:=LH (Z1m m)
 have HF:=LH (fun(h:Za0 m=0) (best:List Int) (found:Bool) (hf:Zf3 m.paid.length (fun s=>(Zao m).any fun t=>Ziz m t s) (2^m.paid.length) best found)=>(Zvg h hf:best=(Zd8 m).1))
 have hQ:=Below.refl (w.heap.size+1) (w.alloc (.cells #[.slice ac m.claimants.length cc,.slice az m.sums.length cz,.slice aw m.words.length cw,.slice ap m.paid.length cp] 54))
 obtain⟨c0,c1,c2,c3⟩:=Zax hQ
 have hbz:=Zai hQ
 have C:=Zgw ac az aw ap cc cz cw cp m 0 none [] 0 (w.alloc (.cells #[.slice ac m.claimants.length cc,.slice az m.sums.length cz,.slice aw m.words.length cw,.slice ap m.paid.length cp] 54)) (hm.mono (Zaf hQ)) (by decide) (by decide) (by decide) (Zaw.nil _ _)
 rw[Ze9] at C
 have HN:=LH (Zdz m)
 replace C:=LH C
 generalize Zd8 m=r at HE HZ HF ⊢
 generalize Za0 m=er at C HE HV HZ HF
 by_cases he:er=0
 ·have g1:=Zdf he
  obtain⟨hv,hpos⟩:=HV.out he
  replace HF:=LH (HF.out he)
  have hr2:=LH (HZ.out he)
  have HX:=LH he
  have hp5:=hv.np
  have hpl:(m.paid.length:Int)≤5:=by omega
  clear he
  have F:=LH (fun(bm bo p:Nat) (E:List Int) (V:World) (hb:Below w.heap.size w V) (hp:V.cell? ⟨p,0,none⟩=some (.pointer (some ⟨bm,0,none⟩))) (hL:LBlk V bm ac az aw ap cc cz cw cp m (Zau m 0) bo E) (hM:MapV V Tryz.prog 183 bo (ents m (Zao m)))=>
   Znq m.paid.length 110 (by omega) #[.pointer (some ⟨p,0,none⟩)] (fun s=>(Zao m).any fun t=>Ziz m t s) V Z5q (fun s W hs hW=>by
    have h64:=Zk4 m.paid.length (by omega)
    exact Zvc ac az aw ap cc cz cw cp m bm bo p (Zau m 0) s E (Zao m) W (hm.mono (hb.trans (hW.mono hb.size))) hv (by omega) (Zcw m) (Zab hW hp) (hL.same (hW.block _ hL.lt)) (hM.below hW hM.lt)))
  go_enter Tryz.func54,Tryz.ntmps54
  go_wp2_with (first
   |(go_at_call 105;go_must (refine(F.out bm bo _ _ _ (Zaf hQ3) hpc hL3 hM3).mono ?_;rintro e w4 ⟨v4,best,found,rfl,hv4,hf4,hb4⟩;dsimp only))
   |(go_at_call 60;go_must (refine C.out.mono ?_;rintro e w2 ⟨v2,rfl,h2,hb2,_⟩;obtain⟨bm,bo,rfl,hLW⟩:=h2 HX.out;have hL:=hLW.blk;have hM:=hLW.map;rw[HN.out] at hL hM;have hQ2:=Zaz hQ hb2;have hz2:=hQ2.size;have hz2:w.heap.size+1≤w2.heap.size:=by {simpa using hz2};have hQ3:=hQ2.alloc hz2 (.cells #[.pointer (some ⟨bm,0,none⟩)] 120);have hL3:=hL.same (heap_alloc_old _ (.cells #[.pointer (some ⟨bm,0,none⟩)] 120) hL.lt);have hM3:=hM.same (heap_alloc_old _ (.cells #[.pointer (some ⟨bm,0,none⟩)] 120) hM.lt);have hpc:=Zaj (Below.refl _ (w2.alloc (.cells #[.pointer (some ⟨bm,0,none⟩)] 120))) 0 _ rfl;obtain⟨d0,d1,d2,d3⟩:=Zax hQ2;have hbz2:=Zai hQ2;dsimp only)))
  have hQ4:=Zaz hQ3 hb4
  go_ret2
  exact⟨v4,by rw[hr2.out];rfl,by rw[←HF.out best found hf4.out];exact hv4,Zaf hQ4⟩
 ·have g1:=Zcp he
  have HE:=LH (HE.out he)
  have HX:=LH he
  clear he
  go_enter Tryz.func54,Tryz.ntmps54
  go_wp2_with (go_at_call 60;go_must (refine C.out.mono ?_;rintro e w2 ⟨v2,rfl,h2,hb2,h3⟩;obtain rfl:=h3 HX.out;have hQ2:=Zaz hQ hb2;have hz2:=hQ2.size;dsimp only))
  go_ret2
  rw[HE.out]
  exact⟨_,rfl,⟨none,0,rfl,⟨by simp,by omega,fun _=>rfl⟩,Zaw.nil _ _⟩,Zaf (hQ2.alloc (by simpa using hz2) _)⟩
end
end Go.Proofs.YtklconegomgjaaaGreat
