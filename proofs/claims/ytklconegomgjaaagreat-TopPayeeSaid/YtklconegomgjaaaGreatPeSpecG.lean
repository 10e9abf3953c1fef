/- What is proved here: plain facts: the first of the fewest numbers that do, sought among lists or among sets. No program. No condition. -/
import Derived.Test.YtklconegomgjaaaGreatMidG
set_option linter.all false
set_option maxRecDepth 100000
set_option maxHeartbeats 16000000
namespace Go.Proofs.YtklconegomgjaaaGreat
section

end
section
structure EaL where
 letter:Int
 sounds:Int
 silent:Bool
structure EaA where
 name:ByteArray
 letters:List EaL
structure EaS where
 alpha:Int
 text:ByteArray
structure EaB where
 sounds:Int
 alphas:List EaA
 spells:List EaS
def noL:EaL:=⟨0,0,false⟩
def Zcy (b:EaB) (s:EaS):List EaL:=(b.alphas[s.alpha.toNat]?.map EaA.letters).getD []
def Zeo (b:EaB) (i:Nat):EaS:=b.spells[i]?.getD ⟨0,⟨#[]⟩⟩
def Zfy (c:Int):Nat→List EaL→Int
 |_,[]=>-1
 |k,x::l=>if x.letter=c then (k:Int) else Zfy c (k+1) l
def idxL (l:List EaL) (c:Int):Int:=Zfy c 0 l
def letL (l:List EaL) (c:Int):EaL:=l[(idxL l c).toNat]?.getD noL
def Zf8 (c:UInt8):Int:=(c.toNat:Int)
def Zem (b:EaB) (s:EaS):List EaL:=s.text.data.toList.map fun c=>letL (Zcy b s) (Zf8 c)
structure EaValid (b:EaB):Prop where
 sounds:1≤b.sounds∧b.sounds≤4
 na:1≤b.alphas.length∧b.alphas.length≤3
 name:∀i (hi:i<b.alphas.length),Zhg b.alphas[i].name=true∧∀j (hj:j<i),b.alphas[j].name≠b.alphas[i].name
 nl:∀i (hi:i<b.alphas.length),1≤b.alphas[i].letters.length∧b.alphas[i].letters.length≤6
 letter:∀i (hi:i<b.alphas.length) k (hk:k<b.alphas[i].letters.length),97≤b.alphas[i].letters[k].letter∧b.alphas[i].letters[k].letter≤122∧(∀j (hj:j<k),b.alphas[i].letters[j].letter≠b.alphas[i].letters[k].letter)∧0≤b.alphas[i].letters[k].sounds∧b.alphas[i].letters[k].sounds<2^b.sounds.toNat∧(b.alphas[i].letters[k].sounds=0→b.alphas[i].letters[k].silent=true)
 ns:b.spells.length≤5
 spell:∀i (hi:i<b.spells.length),0≤b.spells[i].alpha∧b.spells[i].alpha<b.alphas.length∧1≤b.spells[i].text.size∧b.spells[i].text.size≤5∧∀j (hj:j<b.spells[i].text.size),0≤idxL (Zcy b b.spells[i]) (Zf8 b.spells[i].text[j])
def Zhf (S:Nat):Nat→List (List Int)
 |0=>[[]]
 |m+1=>(List.range S).flatMap fun(n:Nat)=>(Zhf S m).map fun l=>(n:Int)::l
def Zhh (S:Nat):Nat→List (List Int)
 |0=>[]
 |m+1=>Zhh S m++Zhf S m
def Zkh (S:Nat):List (List Int):=Zhh S 6
def Zcn (S:Nat):List EaL→List Int→List (List Int)
 |[],h=>[h]
 |x::xs,h=>(if x.silent=true then Zcn S xs h else [])++(List.range S).flatMap fun n=>if bitB x.sounds n=true then Zcn S xs (h++[(n:Int)]) else []
def Zck (b:EaB) (i:Nat):List (List Int):=Zcn b.sounds.toNat (Zem b (Zeo b i)) []
def allB (b:EaB) (set:Nat) (h:List Int):Bool:=(List.range b.spells.length).all fun i=>!set.testBit i||(Zck b i).contains h
def comN (b:EaB) (set:Nat):List (List Int):=(Zkh b.sounds.toNat).filter fun h=>allB b set h
def Zdi (p:Nat→Bool):Nat→Nat
 |0=>0
 |k+1=>Zdi p k|||(if p k=true then 2^k else 0)
def ofN (b:EaB) (h:List Int):Nat:=Zdi (fun i=>(Zck b i).contains h) b.spells.length
theorem Zcx (p:Nat→Bool):∀k i,(Zdi p k).testBit i=(decide (i<k)&&p i)
 |0,i=>by simp[Zdi]
 |k+1,i=>by
  rw[Zdi,Nat.testBit_or,Zcx p k i]
  by_cases e:i=k
  ·subst e
   cases p i<;>simp[Nat.testBit_two_pow_self]
  ·have h1:decide (i<k+1)=decide (i<k):=decide_eq_decide.2 (by omega)
   have h2:(if p k=true then 2^k else 0).testBit i=false:=by
    split
    ·rw[Nat.testBit_two_pow];exact decide_eq_false (fun h=>e h.symm)
    ·simp
   rw[h1,h2,Bool.or_false]
theorem Zgf (p:Nat→Bool) (k:Nat):Zdi p k<2^k:=Nat.lt_pow_two_of_testBit _ fun i hi=>by
 rw[Zcx]
 have:decide (i<k)=false:=decide_eq_false (by omega)
 rw[this];rfl
theorem Zd9 (S:Nat):∀(m:Nat) (l:List Int),l∈Zhf S m↔l.length=m∧∀x∈l,0≤x∧x<S
 |0,l=>by
  rw[Zhf,List.mem_singleton]
  constructor
  ·rintro rfl;simp
  ·rintro⟨h,_⟩;exact List.length_eq_zero_iff.1 h
 |m+1,l=>by
  rw[Zhf,List.mem_flatMap]
  constructor
  ·rintro⟨n,hn,h⟩
   obtain⟨k,hk,rfl⟩:=List.mem_map.1 h
   obtain⟨h1,h2⟩:=(Zd9 S m k).1 hk
   have:=List.mem_range.1 hn
   refine⟨by simp[h1],fun x hx=>?_⟩
   rcases List.mem_cons.1 hx with rfl|hx
   ·omega
   ·exact h2 x hx
  ·rintro⟨h1,h2⟩
   match l,h1 with
   |x::k,h1=>
    have hx:=h2 x (by simp)
    refine⟨x.toNat,List.mem_range.2 (by omega),List.mem_map.2 ⟨k,(Zd9 S m k).2 ⟨by simpa using h1,fun y hy=>h2 y (by simp[hy])⟩,?_⟩⟩
    rw[show((x.toNat:Nat):Int)=x by omega]
theorem Zke (S:Nat):∀m:Nat,(Zhf S m).Pairwise (fun a b=>less a b=true)
 |0=>by simp[Zhf]
 |m+1=>by
  rw[Zhf,List.flatMap_def,List.pairwise_flatten]
  constructor
  ·intro L hL
   obtain⟨n,_,rfl⟩:=List.mem_map.1 hL
   rw[List.pairwise_map]
   exact(Zke S m).imp fun h=>by simpa[less] using h
  ·rw[List.pairwise_map]
   refine List.Pairwise.imp ?_ (List.pairwise_lt_range (n:=S))
   intro a c hac x hx y hy
   obtain⟨x',_,rfl⟩:=List.mem_map.1 hx
   obtain⟨y',_,rfl⟩:=List.mem_map.1 hy
   have:((a:Int))≠(c:Int):=by omega
   simp[less,this]
   omega
theorem Zjc (S:Nat):∀(m:Nat) (l:List Int),l∈Zhh S m↔l.length<m∧∀x∈l,0≤x∧x<S
 |0,l=>by simp[Zhh]
 |m+1,l=>by
  rw[Zhh,List.mem_append,Zjc S m l,Zd9 S m l]
  constructor
  ·rintro(⟨h1,h2⟩|⟨h1,h2⟩)
   ·exact⟨by omega,h2⟩
   ·exact⟨by omega,h2⟩
  ·rintro⟨h1,h2⟩
   by_cases e:l.length=m
   ·exact .inr ⟨e,h2⟩
   ·exact .inl ⟨by omega,h2⟩
theorem Zi2 (S:Nat):∀m:Nat,(Zhh S m).Pairwise (fun a b=>Zbo a b=true)
 |0=>by simp[Zhh]
 |m+1=>by
  rw[Zhh,List.pairwise_append]
  refine⟨Zi2 S m,?_,fun a ha c hc=>?_⟩
  ·refine List.Pairwise.imp_of_mem ?_ (Zke S m)
   intro a c ha hc h
   have h1:=((Zd9 S m a).1 ha).1
   have h2:=((Zd9 S m c).1 hc).1
   unfold Zbo
   rw[if_pos (by omega)]
   exact h
  ·have h1:=((Zjc S m a).1 ha).1
   have h2:=((Zd9 S m c).1 hc).1
   unfold Zbo
   rw[if_neg (by omega)]
   exact decide_eq_true (by omega)
theorem Zl4 {S:Nat} {l:List Int}:l∈Zkh S↔l.length≤5∧∀x∈l,0≤x∧x<S:=by
 unfold Zkh
 rw[Zjc]
 constructor
 ·rintro⟨h1,h2⟩;exact⟨by omega,h2⟩
 ·rintro⟨h1,h2⟩;exact⟨by omega,h2⟩
theorem Zns (b:EaB) (set:Nat):(comN b set).Pairwise (fun a b=>Zbo a b=true):=(Zi2 _ 6).filter _
theorem Zmg {b:EaB} {set:Nat} {h:List Int}:h∈comN b set↔(h.length≤5∧∀x∈h,0≤x∧x<b.sounds.toNat)∧∀i,i<b.spells.length→set.testBit i=true→h∈Zck b i:=by
 unfold comN allB
 rw[List.mem_filter,Zl4,List.all_eq_true]
 constructor
 ·rintro⟨h1,h2⟩
  refine⟨h1,fun i hi hb=>?_⟩
  have:=h2 i (List.mem_range.2 hi)
  rw[hb] at this
  simpa using this
 ·rintro⟨h1,h2⟩
  refine⟨h1,fun i hi=>?_⟩
  cases hb:set.testBit i
  ·rfl
  ·simpa using h2 i (List.mem_range.1 hi) hb
theorem Zn3 (S:Nat):∀(ls:List EaL) (h l:List Int),l∈Zcn S ls h→(∀x∈h,0≤x∧x<(S:Int))→l.length≤h.length+ls.length∧∀x∈l,0≤x∧x<(S:Int)
 |[],h,l,hl,ho=>by
  rw[Zcn,List.mem_singleton] at hl
  subst hl
  exact⟨by simp,ho⟩
 |x::xs,h,l,hl,ho=>by
  rw[Zcn,List.mem_append,List.mem_flatMap] at hl
  rcases hl with hl|⟨n,hn,hl⟩
  ·split at hl
   ·have:=Zn3 S xs h l hl ho
    exact⟨by simp;omega,this.2⟩
   ·cases hl
  ·split at hl
   ·have hn':=List.mem_range.1 hn
    have:=Zn3 S xs (h++[(n:Int)]) l hl (fun y hy=>by
     rcases List.mem_append.1 hy with hy|hy
     ·exact ho y hy
     ·have:y=(n:Int):=by simpa using hy
      subst this
      omega)
    refine⟨?_,this.2⟩
    have h1:=this.1
    simp at h1 ⊢
    omega
   ·cases hl
theorem Zi4 (b:EaB) (s:EaS):(Zem b s).length=s.text.size:=by
 unfold Zem
 rw[List.length_map]
 simp
theorem Zdt {b:EaB} {i:Nat} (hi:i<b.spells.length):Zeo b i=b.spells[i]:=by unfold Zeo;rw[List.getElem?_eq_getElem hi];rfl
theorem Zh1 {b:EaB} (hv:EaValid b) {i:Nat} (hi:i<b.spells.length) {h:List Int} (hh:h∈Zck b i):h.length≤5∧∀x∈h,0≤x∧x<(b.sounds.toNat:Int):=by
 have:=Zn3 _ _ _ _ hh (by simp)
 have h5:=(hv.spell i hi).2.2.2.1
 rw[Zi4,Zdt hi] at this
 exact⟨by have:=this.1;simp at this;omega,this.2⟩
theorem Zpq (c:Int):∀(k:Nat) (l:List EaL),Zfy c k l=-1∨∃j,∃h:j<l.length,Zfy c k l=(k+j:Nat)∧l[j].letter=c∧∀i (hi:i<j),l[i].letter≠c
 |k,[]=>.inl rfl
 |k,x::l=>by
  rw[Zfy]
  by_cases e:x.letter=c
  ·rw[if_pos e]
   exact .inr ⟨0,by simp,by simp,by simpa using e,fun i hi=>absurd hi (Nat.not_lt_zero i)⟩
  ·rw[if_neg e]
   rcases Zpq c (k+1) l with h|⟨j,hj,h1,h2,h3⟩
   ·exact .inl h
   ·refine .inr ⟨j+1,by simp;omega,by rw[h1];congr 1;omega,by simpa using h2,fun i hi=>?_⟩
    match i with
    |0=>simpa using e
    |i+1=>simpa using h3 i (by omega)
theorem Z31 (l:List EaL) (c:Int):idxL l c=-1∨∃j,∃h:j<l.length,idxL l c=(j:Int)∧l[j].letter=c∧∀i (hi:i<j),l[i].letter≠c:=by
 rcases Zpq c 0 l with h|⟨j,hj,h1,h2⟩
 ·exact .inl h
 ·exact .inr ⟨j,hj,by simpa[idxL] using h1,h2⟩
theorem Zo8 (c:Int):∀(l:List EaL) (k j:Nat) (h:j<l.length),l[j].letter=c→(∀i (hi:i<j),l[i].letter≠c)→Zfy c k l=((k+j:Nat):Int)
 |x::l,k,0,_,h1,_=>by
  rw[Zfy,if_pos (by simpa using h1)]
  rfl
 |x::l,k,j+1,h,h1,h2=>by
  rw[Zfy,if_neg (by simpa using h2 0 (by omega)),Zo8 c l (k+1) j (by simpa using h) (by simpa using h1) (fun i hi=>by simpa using h2 (i+1) (by omega))]
  congr 1
  omega
theorem Zpi (c:Int):∀(l:List EaL) (k:Nat),(∀i (hi:i<l.length),l[i].letter≠c)→Zfy c k l=-1
 |[],_,_=>rfl
 |x::l,k,h=>by
  rw[Zfy,if_neg (show ¬x.letter=c from h 0 (Nat.succ_pos _)),Zpi c l (k+1) (fun i hi=>h (i+1) (Nat.succ_lt_succ hi))]
theorem Z4g {l:List EaL} {c:Int} {j:Nat} (h:j<l.length) (h1:l[j].letter=c) (h2:∀i (hi:i<j),l[i].letter≠c):idxL l c=(j:Int):=by
 have:=Zo8 c l 0 j h h1 h2
 simpa[idxL] using this
theorem Zv6 {l:List EaL} {c:Int} (h:∀i (hi:i<l.length),l[i].letter≠c):idxL l c=-1:=Zpi c l 0 h
theorem Z6x {b:EaB} (hv:EaValid b) {i:Nat} (hi:i<b.spells.length):∀x∈Zem b b.spells[i],0≤x.sounds∧x.sounds<2^b.sounds.toNat∧(x.sounds=0→x.silent=true):=by
 intro x hx
 obtain⟨c,hc,rfl⟩:=List.mem_map.1 hx
 obtain⟨h1,h2,h3,h4,h5⟩:=hv.spell i hi
 obtain⟨j,hj,rfl⟩:=List.getElem_of_mem hc
 have hj':j<b.spells[i].text.size:=by simpa using hj
 have h6:=h5 j hj'
 have hal:Zcy b b.spells[i]=(b.alphas[b.spells[i].alpha.toNat]'(by omega)).letters:=by unfold Zcy;rw[List.getElem?_eq_getElem (by omega)];rfl
 rcases Z31 (Zcy b b.spells[i]) (Zf8 b.spells[i].text[j]) with h|⟨k,hk,h7,_⟩
 ·omega
 ·have h8:letL (Zcy b b.spells[i]) (Zf8 (b.spells[i].text.data.toList[j]'hj))=(Zcy b b.spells[i])[k]:=by
   unfold letL
   rw[show b.spells[i].text.data.toList[j]'hj=b.spells[i].text[j] from by simp[ByteArray.getElem_eq_getElem_data],h7,Int.toNat_natCast,List.getElem?_eq_getElem hk]
   rfl
  rw[h8]
  have h9:=hv.letter b.spells[i].alpha.toNat (by omega) k (by rw[hal] at hk;exact hk)
  have h10:(Zcy b b.spells[i])[k]=(b.alphas[b.spells[i].alpha.toNat]'(by omega)).letters[k]'(by rw[hal] at hk;exact hk):=by simp only[hal]
  rw[h10]
  exact⟨h9.2.2.2.1,h9.2.2.2.2.1,h9.2.2.2.2.2⟩
theorem Z5k:∀S:Nat,S≤4→∀s:Nat,s<2^S→s≠0→∃n,n<S∧s.testBit n=true:=by decide
theorem Zoz (S:Nat) (hS:S≤4):∀(ls:List EaL) (h:List Int),(∀x∈ls,0≤x.sounds∧x.sounds<2^S∧(x.sounds=0→x.silent=true))→∃l,l∈Zcn S ls h
 |[],h,_=>⟨h,by simp[Zcn]⟩
 |x::xs,h,hx=>by
  have hr:=fun k=>Zoz S hS xs k (fun y hy=>hx y (by simp[hy]))
  obtain⟨h1,h2,h3⟩:=hx x (by simp)
  rw[Zcn]
  by_cases e:x.silent=true
  ·obtain⟨l,hl⟩:=hr h
   exact⟨l,List.mem_append_left _ (by rw[if_pos e];exact hl)⟩
  ·have hne:x.sounds≠0:=fun h=>e (h3 h)
   have h2':x.sounds.toNat<2^S:=by
    have:((2:Int)^S)=((2^S:Nat):Int):=by simp
    omega
   obtain⟨n,hn,hb⟩:=Z5k S hS x.sounds.toNat h2' (by omega)
   obtain⟨l,hl⟩:=hr (h++[(n:Int)])
   refine⟨l,List.mem_append_right _ (List.mem_flatMap.2 ⟨n,List.mem_range.2 hn,?_⟩)⟩
   rw[if_pos (show bitB x.sounds n=true from hb)]
   exact hl
theorem Zy0 {b:EaB} (hv:EaValid b) {i:Nat} (hi:i<b.spells.length):∃l,l∈Zck b i:=by
 unfold Zck
 rw[Zdt hi]
 exact Zoz _ (by have:=hv.sounds;omega) _ _ (Z6x hv hi)
theorem Zwb {L M:List (List Int)} (hs:L.Pairwise (fun a b=>Zbo a b=true)) (hp:∀x,x∈M↔x∈L) {x:List Int} (hx:x∈M) (hl:∀y∈M,Zbo y x=false):L.headD []=x:=by
 match L,hs with
 |[],_=>exact absurd ((hp x).1 hx) (by simp)
 |y::L,hs=>
  rw[List.headD_cons]
  rcases List.mem_cons.1 ((hp x).1 hx) with e|h
  ·exact e.symm
  ·have h1:=(List.pairwise_cons.1 hs).1 x h
   have h2:=hl y ((hp y).2 (by simp))
   rw[h1] at h2
   cases h2
theorem Zdg {α:Type} [DecidableEq α]:∀(l m:List α),l.Nodup→(∀x∈l,x∈m)→l.length≤m.length
 |[],_,_,_=>by simp
 |a::l,m,hn,h=>by
  obtain⟨h1,h2⟩:=List.nodup_cons.1 hn
  have ha:=h a (by simp)
  have:=Zdg l (m.erase a) h2 (fun x hx=>(List.mem_erase_of_ne (fun e=>by subst e;exact h1 hx)).2 (h x (by simp[hx])))
  rw[List.length_erase_of_mem ha] at this
  have:=List.length_pos_of_mem ha
  simp
  omega
theorem Zt1 {L:List (List Int)} (hs:L.Pairwise (fun a b=>Zbo a b=true)):L.Nodup:=hs.imp fun h e=>by subst e;rw[Zh6] at h;cases h
theorem Z6m {α:Type} [DecidableEq α] {l m:List α} (h1:l.Nodup) (h2:m.Nodup) (h:∀x,x∈l↔x∈m):l.length=m.length:=
 Nat.le_antisymm (Zdg _ _ h1 fun x hx=>(h x).1 hx) (Zdg _ _ h2 fun x hx=>(h x).2 hx)
theorem Z33 (b:EaB) (h:List Int) (i:Nat):(ofN b h).testBit i=(decide (i<b.spells.length)&&(Zck b i).contains h):=Zcx _ _ _
theorem Z9e {b:EaB} (hv:EaValid b) (h:List Int):ofN b h<32:=by
 have h1:=Zgf (fun i=>(Zck b i).contains h) b.spells.length
 have h2:=Nat.pow_le_pow_right (n:=2) (by omega) hv.ns
 unfold ofN
 omega
theorem Z7u {b:EaB} {h:List Int} {set:Nat} (hset:set<2^b.spells.length):(ofN b h &&& set==set)=allB b set h:=by
 rw[Bool.eq_iff_iff]
 unfold allB
 rw[List.all_eq_true,beq_iff_eq]
 constructor
 ·intro e i hi
  cases hb:set.testBit i
  ·rfl
  ·have:(ofN b h &&& set).testBit i=true:=by rw[e];exact hb
   rw[Nat.testBit_and,Z33,hb] at this
   simp at this
   simpa using this.2
 ·intro hall
  apply Nat.eq_of_testBit_eq
  intro i
  rw[Nat.testBit_and,Z33]
  cases hb:set.testBit i
  ·simp
  ·have hi:i<b.spells.length:=by
    apply Classical.byContradiction
    intro hn
    have:=Nat.testBit_lt_two_pow (x:=set) (i:=i) (Nat.lt_of_lt_of_le hset (Nat.pow_le_pow_right (by omega) (by omega)))
    rw[hb] at this
    cases this
   have:=hall i (List.mem_range.2 hi)
   rw[hb] at this
   simp at this ⊢
   exact⟨hi,this⟩
theorem Z9x {b:EaB} (hv:EaValid b) {E:List (List Int)} (hE:∀h,h∈E↔∃i,i<b.spells.length∧h∈Zck b i) {set:Nat} (hset:set<2^b.spells.length) (h0:set≠0) (h:List Int):h∈E.filter (fun h=>ofN b h &&& set==set)↔h∈comN b set:=by
 rw[List.mem_filter,Zmg,Z7u hset]
 unfold allB
 rw[List.all_eq_true]
 have hone:∃i,i<b.spells.length∧set.testBit i=true:=by
  apply Classical.byContradiction
  intro hn
  apply h0
  apply Nat.eq_of_testBit_eq
  intro i
  rw[Nat.zero_testBit]
  cases hb:set.testBit i
  ·rfl
  ·by_cases hi:i<b.spells.length
   ·exact absurd ⟨i,hi,hb⟩ hn
   ·have:=Nat.testBit_lt_two_pow (x:=set) (i:=i) (Nat.lt_of_lt_of_le hset (Nat.pow_le_pow_right (by omega) (by omega)))
    rw[hb] at this
    cases this
 have hq:(∀i∈List.range b.spells.length,(!set.testBit i||(Zck b i).contains h)=true)↔∀i,i<b.spells.length→set.testBit i=true→h∈Zck b i:=by
  constructor
  ·intro g i hi hb
   have:=g i (List.mem_range.2 hi)
   rw[hb] at this
   simpa using this
  ·intro g i hi
   cases hb:set.testBit i
   ·rfl
   ·simpa using g i (List.mem_range.1 hi) hb
 rw[hq]
 constructor
 ·rintro⟨h1,h2⟩
  obtain⟨i,hi,hh⟩:=(hE h).1 h1
  exact⟨Zh1 hv hi hh,h2⟩
 ·rintro⟨_,h2⟩
  obtain⟨i,hi,hb⟩:=hone
  exact⟨(hE h).2 ⟨i,hi,h2 i hi hb⟩,h2⟩
def Zpu:EaB:=⟨3,[⟨ "roman".toUTF8,[⟨97,1,false⟩,⟨101,3,false⟩,⟨107,4,false⟩,⟨104,0,true⟩]⟩,⟨ "abjad".toUTF8,[⟨107,4,false⟩,⟨121,2,true⟩,⟨110,1,false⟩]⟩],[⟨0,"ke".toUTF8⟩,⟨1,"ky".toUTF8⟩,⟨0,"hka".toUTF8⟩,⟨1,"kn".toUTF8⟩]⟩
end
section
def Zh5 (h:List Int):Nat:=h.foldl (fun n x=>n*5+x.toNat+1) 0
theorem Ze0 (h:List Int) (x:Int):Zh5 (h++[x])=Zh5 h*5+x.toNat+1:=by
 unfold Zh5
 rw[List.foldl_append]
 rfl
theorem Znf:Zh5 []=0:=rfl
def DigB (h:List Int):Prop:=∀x∈h,0≤x∧x<4
theorem DigB.snoc {h:List Int} {x:Int} (d:DigB (h++[x])):DigB h∧0≤x∧x<4:=
 ⟨fun y hy=>d y (List.mem_append_left _ hy),d x (by simp)⟩
theorem Zwn:∀(k:Nat) (h:List Int),h.length≤k→DigB h→Zh5 h<5^k
 |k,h,hl,hd=>by
  rcases List.eq_nil_or_concat h with rfl|⟨g,x,rfl⟩
  ·exact Nat.pow_pos (by decide)
  ·simp only[List.concat_eq_append] at hl hd ⊢
   obtain⟨d1,d2,d3⟩:=hd.snoc
   cases k with
   |zero=>simp at hl
   |succ k=>
    have:=Zwn k g (by simpa using hl) d1
    rw[Ze0,Nat.pow_succ]
    omega
 termination_by k=>k
theorem Ztp:∀(n:Nat) (g h:List Int),g.length≤n→DigB g→DigB h→Zh5 g=Zh5 h→g=h
 |n,g,h,hn,dg,dh,e=>by
  rcases List.eq_nil_or_concat g with rfl|⟨g',x,rfl⟩
  ·rcases List.eq_nil_or_concat h with rfl|⟨h',y,rfl⟩
   ·rfl
   ·rw[List.concat_eq_append,Ze0] at e
    simp[Znf] at e
  ·rcases List.eq_nil_or_concat h with rfl|⟨h',y,rfl⟩
   ·rw[List.concat_eq_append,Ze0] at e
    simp[Znf] at e
   ·simp only[List.concat_eq_append] at hn dg dh e ⊢
    obtain⟨d1,d2,d3⟩:=dg.snoc
    obtain⟨d4,d5,d6⟩:=dh.snoc
    rw[Ze0,Ze0] at e
    have e1:Zh5 g'=Zh5 h':=by omega
    have e2:x=y:=by omega
    cases n with
    |zero=>simp at hn
    |succ n=>rw[Ztp n g' h' (by simpa using hn) d1 d4 e1,e2]
 termination_by n=>n
theorem Zio (S:Nat) (x:EaL):∀(ls:List EaL) (h:List Int),Zcn S (ls++[x]) h=(Zcn S ls h).flatMap (fun g=>Zcn S [x] g)
 |[],h=>by simp[Zcn]
 |y::ls,h=>by
  show Zcn S (y::(ls++[x])) h=_
  rw[Zcn,Zcn,List.flatMap_append]
  congr 1
  ·split
   ·exact Zio S x ls h
   ·rfl
  ·rw[List.flatMap_assoc]
   congr 1
   funext n
   split
   ·exact Zio S x ls _
   ·rfl
theorem Zth {S:Nat} {x:EaL} {g h:List Int}:h∈Zcn S [x] g↔(x.silent=true∧h=g)∨∃n,n<S∧bitB x.sounds n=true∧h=g++[(n:Int)]:=by
 simp only[Zcn,List.mem_append,List.mem_flatMap,List.mem_range]
 constructor
 ·rintro(h1|⟨n,hn,h1⟩)
  ·split at h1
   ·next hs=>exact .inl ⟨hs,by simpa using h1⟩
   ·cases h1
  ·split at h1
   ·next hb=>exact .inr ⟨n,hn,hb,by simpa using h1⟩
   ·cases h1
 ·rintro(⟨hs,rfl⟩|⟨n,hn,hb,rfl⟩)
  ·left;rw[if_pos hs];simp
  ·exact .inr ⟨n,hn,by rw[if_pos hb];simp⟩
theorem Zn6 {S:Nat} (hS:S≤4):∀(ls:List EaL) (g h:List Int),h∈Zcn S ls g→DigB g→DigB h∧h.length≤g.length+ls.length
 |[],g,h,hh,hg=>by
  simp[Zcn] at hh
  subst hh
  exact⟨hg,by simp⟩
 |x::ls,g,h,hh,hg=>by
  simp only[Zcn,List.mem_append,List.mem_flatMap,List.mem_range] at hh
  rcases hh with h1|⟨n,hn,h1⟩
  ·split at h1
   ·have:=Zn6 hS ls g h h1 hg
    exact⟨this.1,by have:=this.2;simp;omega⟩
   ·cases h1
  ·split at h1
   ·have hd:DigB (g++[(n:Int)]):=fun y hy=>by
     rcases List.mem_append.1 hy with hy|hy
     ·exact hg y hy
     ·simp at hy;omega
    have:=Zn6 hS ls _ h h1 hd
    exact⟨this.1,by have:=this.2;simp at this ⊢;omega⟩
   ·cases h1
def Zfk (S:Nat) (ls:List EaL) (f:Nat→Bool):Prop:=∀c,f c=true→∃h,h∈Zcn S ls []∧Zh5 h=c
theorem Zfk.lt {S:Nat} {ls:List EaL} {f:Nat→Bool} (hS:S≤4) (m:Zfk S ls f) {c:Nat} (h:f c=true):c<5^ls.length:=by
 obtain⟨g,hg,rfl⟩:=m c h
 have:=Zn6 hS ls [] g hg (fun x hx=>by cases hx)
 exact Zwn _ _ (by simpa using this.2) this.1
theorem Zzp (S:Nat):Zfk S [] (fun c=>c==0):=fun c hc=>⟨[],by simp[Zcn],by rw[Znf];exact(eq_of_beq hc).symm⟩
theorem Zr9 {S:Nat} {ls:List EaL} {x:EaL} {f:Nat→Bool} {c:Nat} (m:Zfk S ls f) (h:f c=true) (hs:x.silent=true):∃g,g∈Zcn S (ls++[x]) []∧Zh5 g=c:=by
 obtain⟨g,hg,e⟩:=m c h
 exact⟨g,by rw[Zio];exact List.mem_flatMap.2 ⟨g,hg,Zth.2 (.inl ⟨hs,rfl⟩)⟩,e⟩
theorem Zun {S:Nat} {ls:List EaL} {x:EaL} {f:Nat→Bool} {c n:Nat} (m:Zfk S ls f) (h:f c=true) (hn:n<S) (hb:bitB x.sounds n=true):∃g,g∈Zcn S (ls++[x]) []∧Zh5 g=c*5+n+1:=by
 obtain⟨g,hg,e⟩:=m c h
 refine⟨g++[(n:Int)],by rw[Zio];exact List.mem_flatMap.2 ⟨g,hg,Zth.2 (.inr ⟨n,hn,hb,rfl⟩)⟩,?_⟩
 rw[Ze0,e]
 simp
theorem Z2s {S:Nat} {ls:List EaL} {c:Nat} (h:∃g,g∈Zcn S ls []∧Zh5 g=c):Zfk S ls (fun i=>decide (i=c)):=fun i hi=>by
 obtain rfl:i=c:=by simpa using hi
 exact h
end
section
structure PeM where
 spell:Int
 vill:Int
 lo:Int
 hi:Int
 par:Int
structure PeT where
 a:Int
 b:Int
 same:Bool
structure PeW where
 ear:EaB
 vills:Int
 ments:List PeM
 ties:List PeT
def noM:PeM:=⟨0,-1,0,0,-1⟩
def Zal (t:PeW) (i:Nat):PeM:=t.ments[i]?.getD noM
theorem Zba {t:PeW} {i:Nat} (hi:i<t.ments.length):Zal t i=t.ments[i]:=by unfold Zal;rw[List.getElem?_eq_getElem hi];rfl
def Zbc (t:PeW) (at_:Int) (x:PeM):Int:=
 if (inB x.spell 0 ((t.ear.spells.length:Int)-1)&&inB x.vill (-1) (t.vills-1)&&inB x.par (-1) ((t.ments.length:Int)-1))=true then
  if (inB x.lo 0 199&&inB x.hi 0 199)=true then (if x.lo≤x.hi∧x.par≠at_ then 0 else 2) else 7
 else 4
structure PeValid (t:PeW):Prop where
 ear:EaValid t.ear
 vills:1≤t.vills∧t.vills≤4
 nm:t.ments.length≤5
 ment:∀i (hi:i<t.ments.length),Zbc t i t.ments[i]=0
 nt:t.ties.length≤4
 tie:∀i (hi:i<t.ties.length),0≤t.ties[i].a∧t.ties[i].a<t.ments.length∧0≤t.ties[i].b∧t.ties[i].b<t.ments.length∧t.ties[i].a≠t.ties[i].b
structure PeOk (t:PeW):Prop where
 ear:EaValid t.ear
 nm:t.ments.length≤6
 ment:∀i (hi:i<t.ments.length),0≤t.ments[i].spell∧t.ments[i].spell<t.ear.spells.length∧-1≤t.ments[i].vill∧t.ments[i].vill≤3∧-1≤t.ments[i].par∧t.ments[i].par<t.ments.length∧0≤t.ments[i].lo∧t.ments[i].lo≤t.ments[i].hi∧t.ments[i].hi≤199∧t.ments[i].par≠i
 nt:t.ties.length≤4
 tie:∀i (hi:i<t.ties.length),0≤t.ties[i].a∧t.ties[i].a<t.ments.length∧0≤t.ties[i].b∧t.ties[i].b<t.ments.length
theorem Zip {t:PeW} {at_:Int} {x:PeM} (h:Zbc t at_ x=0):0≤x.spell∧x.spell<t.ear.spells.length∧-1≤x.vill∧x.vill<t.vills∧-1≤x.par∧x.par<t.ments.length∧0≤x.lo∧x.lo≤x.hi∧x.hi≤199∧x.par≠at_:=by
 unfold Zbc at h
 split at h
 ·next h1=>
  split at h
  ·next h2=>
   split at h
   ·next h3=>
    simp only[Bool.and_eq_true,Zbx] at h1 h2
    omega
   ·cases h
  ·cases h
 ·cases h
theorem PeValid.ok {t:PeW} (h:PeValid t):PeOk t:=by
 have hv:=h.vills
 have hn:=h.nm
 refine⟨h.ear,by omega,fun i hi=>?_,h.nt,fun i hi=>?_⟩
 ·have:=Zip (h.ment i hi)
  omega
 ·have:=h.tie i hi
  omega
def Zis (t:PeW) (x:PeM):PeW:={t with ments:=t.ments++[x]}
theorem PeValid.with {t:PeW} (h:PeValid t) {x:PeM} (hx:Zbc t t.ments.length x=0):PeOk (Zis t x):=by
 have hv:=h.vills
 have hn:=h.nm
 refine⟨h.ear,by simp[Zis];omega,fun i hi=>?_,h.nt,fun i hi=>?_⟩
 ·by_cases e:i<t.ments.length
  ·have:=Zip (h.ment i e)
   have hg:(Zis t x).ments[i]=t.ments[i]:=List.getElem_append_left e
   rw[hg]
   simp only[Zis,List.length_append,List.length_singleton]
   omega
  ·have:=Zip hx
   have hi':i<t.ments.length+1:=by simpa[Zis] using hi
   have hg:(Zis t x).ments[i]=x:=by
    simp only[Zis]
    rw[List.getElem_append_right (by omega)]
    simp
   rw[hg]
   simp only[Zis,List.length_append,List.length_singleton]
   omega
 ·have h1:=h.tie i hi
  show 0≤t.ties[i].a∧t.ties[i].a<((t.ments++[x]).length:Nat)∧0≤t.ties[i].b∧t.ties[i].b<((t.ments++[x]).length:Nat)
  simp only[List.length_append,List.length_singleton]
  omega
def Zc0 (t:PeW) (set:Nat):Bool:=!(comN t.ear set).isEmpty
def spOf (t:PeW) (i:Nat):Nat:=(Zal t i).spell.toNat
def whyN (t:PeW) (a b:Nat):Int:=
 if Zc0 t (2^spOf t a|||2^spOf t b)=false then 1
 else if (Zal t a).vill≠(Zal t b).vill∧(Zal t a).vill≠-1∧(Zal t b).vill≠-1 then 2
 else if min (Zal t a).hi (Zal t b).hi<max (Zal t a).lo (Zal t b).lo then 3
 else if (Zal t a).par=b∨(Zal t b).par=a then 4 else 0
def pAt (p:List Int) (i:Nat):Int:=p[i]?.getD 0
def tieB (t:PeW) (p:List Int) (x:PeT):Bool:=decide (pAt p x.a.toNat=pAt p x.b.toNat)==x.same
def Zeu (t:PeW) (but:Nat) (p:List Int) (k:Nat):Bool:=(List.range k).all fun i=>but.testBit i||(match t.ties[i]? with|some x=>tieB t p x|none=>true)
def Zhk (t:PeW) (but:Nat) (p:List Int):Bool:=Zeu t but p t.ties.length
def Zco (t:PeW) (p:List Int) (n:Nat):Nat→Nat
 |0=>0
 |k+1=>if pAt p k=(n:Int) then Zco t p n k|||2^spOf t k else Zco t p n k
def Zqr (t:PeW) (p:List Int) (k:Nat):Bool:=(List.range k).all fun n=>Zco t p n t.ments.length==0||Zc0 t (Zco t p n t.ments.length)
def Zev (t:PeW) (p:List Int):Bool:=Zqr t p 6
def noOf:List Int:=[0,0,0,0,0,0]
def Zbp (t:PeW) (p:List Int):Nat→Option (List Int)
 |0=>some noOf
 |k+1=>match Zbp t p k with
  |none=>none
  |some f=>if (Zal t k).par=-1 then some f else if pAt p k=pAt p (Zal t k).par.toNat∨((f[(pAt p k).toNat]?.getD 0)≠0∧(f[(pAt p k).toNat]?.getD 0)≠pAt p (Zal t k).par.toNat+1) then none else some (f.set (pAt p k).toNat (pAt p (Zal t k).par.toNat+1))
def Zb2 (t:PeW) (p:List Int):Bool:=(Zbp t p t.ments.length).isSome
def sp0:Int × Int:=(0,0)
def bAt (b:List (Int × Int)) (i:Nat):Int × Int:=b[i]?.getD sp0
def Zmk:List (Int × Int):=[(0,199),(0,199),(0,199),(0,199),(0,199),(0,199)]
def Zbd (t:PeW) (p:List Int):Nat→List (Int × Int)
 |0=>Zmk
 |k+1=>(Zbd t p k).set (pAt p k).toNat (max (bAt (Zbd t p k) (pAt p k).toNat).1 (Zal t k).lo,min (bAt (Zbd t p k) (pAt p k).toNat).2 (Zal t k).hi)
def Zum (x y:Int × Int):Int × Int:=(max x.1 (y.1-60),min x.2 (y.2-15))
def Zhm (x y:Int × Int):Int × Int:=(max y.1 (x.1+15),min y.2 (x.2+60))
def fewB (b:List (Int × Int)) (par ch:Nat):List (Int × Int) × Bool:=
 ((b.set par (Zum (bAt b par) (bAt b ch))).set ch (Zhm (bAt b par) (bAt b ch)),decide (Zum (bAt b par) (bAt b ch)≠bAt b par)||decide (Zhm (bAt b par) (bAt b ch)≠bAt b ch))
def Za4 (t:PeW) (p:List Int) (b:List (Int × Int)):Nat→List (Int × Int) × Bool
 |0=>(b,false)
 |k+1=>if (Zal t k).par=-1 then Za4 t p b k else ((fewB (Za4 t p b k).1 (pAt p (Zal t k).par.toNat).toNat (pAt p k).toNat).1,(Za4 t p b k).2||(fewB (Za4 t p b k).1 (pAt p (Zal t k).par.toNat).toNat (pAt p k).toNat).2)
def Zet (b:List (Int × Int)):Bool:=b.any fun s=>decide (s.2<s.1)
def Zhc (t:PeW) (p:List Int):Nat→List (Int × Int)→Option (List (Int × Int))
 |0,_=>none
 |f+1,b=>if Zet (Za4 t p b t.ments.length).1=true then none else if (Za4 t p b t.ments.length).2=true then Zhc t p f (Za4 t p b t.ments.length).1 else some (Za4 t p b t.ments.length).1
def Zbr (t:PeW) (p:List Int):Option (List (Int × Int)):=Zhc t p 1300 (Zbd t p t.ments.length)
def Ziv (t:PeW) (pre:List Int) (n:Nat):Bool:=(List.range pre.length).all fun k=>!decide (pAt pre k=(n:Int))||whyN t k pre.length==0
def Zbi (t:PeW):Nat→List Int→Nat→List (List Int × Nat)
 |0,pre,many=>if ((Zbr t pre).isSome&&Zb2 t pre)=true then [(pre,many)] else []
 |k+1,pre,many=>(List.range (many+1)).flatMap fun n=>if Ziv t pre n=true then Zbi t k (pre++[(n:Int)]) (max many (n+1)) else []
def Zb7 (t:PeW):List (List Int × Nat):=Zbi t t.ments.length [] 0
def Zfh (t:PeW) (but:Nat) (x:List Int × Nat):Bool:=Zev t x.1&&Zhk t but x.1
def Za6 (t:PeW) (but:Nat):List (List Int × Nat):=(Zb7 t).filter (Zfh t but)
def Zj5 (some all:Nat):Int:=if some=all then 1 else if some=0 then 2 else 0
def Zp7 (t:PeW) (a b:Nat):Nat:=((Za6 t 0).filter fun x=>pAt x.1 a==pAt x.1 b).length
def Zdu:List (Int × Int)→Int × Int
 |[]=>sp0
 |x::l=>l.foldl (fun s y=>(min s.1 y.1,max s.2 y.2)) x
def Zkl (t:PeW):Int × Int:=Zdu ((Za6 t 0).map fun x=>((x.2:Int),(x.2:Int)))
def Z5f (t:PeW) (m:Nat):Int × Int:=Zdu ((Za6 t 0).map fun x=>bAt ((Zbr t x.1).getD []) (pAt x.1 m).toNat)
def Zd3 (n:Nat) (l:List (List Int × Nat)):Nat:=Zdi (fun i=>l.any fun x=>pAt x.1 i==pAt x.1 n) n
def whoN (t:PeW) (x:PeM):List Int:=Zas (Zd3 t.ments.length (Za6 (Zis t x) 0)) t.ments.length
def Zbb (k:Nat):PeW:=⟨Zpu,2,[⟨0,0,100,110,-1⟩,⟨1,-1,105,120,-1⟩,⟨2,1,100,130,-1⟩,⟨3,-1,130,140,0⟩],[⟨0,1,true⟩,⟨0,1,false⟩].take k⟩
theorem Zc8:Za6 (Zbb 0) 0=[([0,0,1,1],2),([0,0,1,2],3),([0,1,2,2],3),([0,1,2,3],4)]:=by decide +kernel
theorem Zcr:Za6 (Zbb 1) 0=[([0,0,1,1],2),([0,0,1,2],3)]:=by decide +kernel
theorem Zjr:Za6 (Zbb 2) 0=[]:=by decide +kernel
theorem Zu9:Z5f (Zbb 1) 0=(105,110):=by decide +kernel
theorem Zk3:whyN (Zbb 0) 0 2=2∧whyN (Zbb 0) 0 3=3∧whyN (Zbb 0) 1 2=1:=by decide +kernel
theorem Zsi:Za6 (Zbb 2) 1≠[]:=by decide +kernel
theorem Zyd:whoN (Zbb 0) ⟨0,1,120,120,-1⟩=[1,2]:=by decide +kernel
end
end Go.Proofs.YtklconegomgjaaaGreat
