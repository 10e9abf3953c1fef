/- What is proved here: plain Lean functions for the answers of layer 7, as the reference has them. No program. No condition. -/
import Derived.Test.YtklconegomgjaaaGreatMoFactsG
import Derived.Test.YtklconegomgjaaaGreatProg
set_option linter.all false
set_option maxRecDepth 100000
set_option maxHeartbeats 16000000
namespace Go.Proofs.YtklconegomgjaaaGreat
section
def Zfx (m:MoList) (e:Int):Int:=if e=0 then (if (Zao m).length=0 then 8 else 0) else e
def Zee (m:MoList) (n below:Int):Int:=if Zf4 m=0 then (if inB n 0 (below-1) then 0 else 4) else Zf4 m
def Za0 (m:MoList):Int:=Zfx m (Zf4 m)
def Zd6 (m:MoList) (sum:Int):Int:=Zfx m (Zee m sum m.sums.length)
def Zh0 (m:MoList) (c:Int):Int:=Zfx m (Zee m c m.claimants.length)
def Zjl (m:MoList):List Int × Int × Int:=if Za0 m=0 then ((Zao m).headD [],((Zao m).length:Int),0) else ([],0,Za0 m)
def Zek (m:MoList) (sum:Int):List Int × Int:=if Zd6 m sum=0 then (whom m.claimants.length (Zao m) sum.toNat,0) else ([],Zd6 m sum)
def Ze6 (m:MoList) (sum:Int):Int × Int:=
 if Zd6 m sum=0 then (if 1<(whom m.claimants.length (Zao m) sum.toNat).length then (0,9) else ((whom m.claimants.length (Zao m) sum.toNat).headD 0,0)) else (0,Zd6 m sum)
def Zft (m:MoList):List Int × Int:=if Za0 m=0 then (Zel m (Zao m),0) else ([],Za0 m)
theorem Zfl {m:MoList} {e:Int} (h:Zfx m e=0):e=0∧0<(Zao m).length:=by
 unfold Zfx at h
 by_cases he:e=0
 ·rw[if_pos he] at h
  by_cases hl:(Zao m).length=0
  ·rw[if_pos hl] at h;simp at h
  ·exact⟨he,by omega⟩
 ·rw[if_neg he] at h;exact absurd h he
theorem Zkm {m:MoList} {n below:Int} (h:Zee m n below=0):Zf4 m=0∧0≤n∧n<below:=by
 unfold Zee at h
 by_cases he:Zf4 m=0
 ·rw[if_pos he] at h
  by_cases hl:inB n 0 (below-1)=true
  ·have:=Zbx.1 hl
   exact⟨he,by omega,by omega⟩
  ·rw[if_neg hl] at h;simp at h
 ·rw[if_neg he] at h;exact absurd h he
theorem Zec {m:MoList} (h:Za0 m=0):Valid m∧0<(Zao m).length:=⟨Zmh (Zfl h).1,(Zfl h).2⟩
theorem Zrx {m:MoList} {s:Int} (h:Zd6 m s=0):Valid m∧0<(Zao m).length∧0≤s∧s<m.sums.length:=by
 have h1:=Zfl h
 have h2:=Zkm h1.1
 exact⟨Zmh h2.1,h1.2,h2.2⟩
theorem Zcw (m:MoList):∀t∈Zao m,t.length=m.sums.length:=Zhv m m.sums.length
theorem Zgh (m:MoList):∀t∈Zao m,∀x∈t,0≤x∧x<m.claimants.length:=Zvo m m.sums.length
theorem Z6h (m:MoList) (hn:0<(Zao m).length) (s:Nat) (hs:s<m.sums.length):0<(whom m.claimants.length (Zao m) s).length:=by
 obtain⟨t,ht⟩:∃t,t∈Zao m:=⟨_,List.getElem_mem hn⟩
 have hl:=Zcw m t ht
 have hs':s<t.length:=by omega
 have hb:=Zgh m t ht t[s] (List.getElem_mem hs')
 unfold whom
 rw[List.length_map]
 apply List.length_pos_of_mem (a:=t[s].toNat)
 rw[List.mem_filter]
 refine⟨by simp;omega,?_⟩
 rw[List.any_eq_true]
 refine⟨t,ht,?_⟩
 simp[hs']
 omega
end
section
def Zda (m:MoList) (i:Nat):Int:=match m.sums[i]? with|some s=>s.pence|none=>0
def Zb6 (m:MoList) (t:List Int) (c:Int):Nat→Int
 |0=>0
 |j+1=>Zb6 m t c j+(if t[j]?.getD 0=c then Zda m j else 0)
def Zg0 (m:MoList) (t:List Int) (c:Int):Int:=Zb6 m t c t.length
theorem Zxc (m:MoList) (hv:Valid m) (t:List Int) (c:Int):∀j,0≤Zb6 m t c j∧Zb6 m t c j≤99*j
 |0=>⟨Int.le_refl _,by simp[Zb6]⟩
 |j+1=>by
  have h:=Zxc m hv t c j
  have hp:0≤Zda m j∧Zda m j≤99:=by
   unfold Zda
   by_cases hj:j<m.sums.length
   ·rw[List.getElem?_eq_getElem hj]
    have:=(hv.sums j hj).1
    exact⟨by simp only;omega,this.2⟩
   ·rw[List.getElem?_eq_none (by omega)]
    exact⟨Int.le_refl _,by decide⟩
  rw[Zb6]
  split<;>omega
def Zkf (m:MoList) (all:List (List Int)) (c:Int):Nat→Int × Int
 |0=>(Zg0 m (all.headD []) c,Zg0 m (all.headD []) c)
 |j+1=>(min (Zkf m all c j).1 (Zg0 m (all[j+1]?.getD []) c),max (Zkf m all c j).2 (Zg0 m (all[j+1]?.getD []) c))
def Zll (m:MoList) (c:Int):(Int × Int) × Int:=if Zh0 m c=0 then (Zkf m (Zao m) c ((Zao m).length-1),0) else ((0,0),Zh0 m c)
theorem Z02 {m:MoList} {s:Int} (h:Zh0 m s=0):Valid m∧0<(Zao m).length∧0≤s∧s<m.claimants.length:=by
 have h1:=Zfl h
 have h2:=Zkm h1.1
 exact⟨Zmh h2.1,h1.2,h2.2⟩
def Zcl (m:MoList) (held:List Int):Nat→Int × Int
 |0=>(0,0)
 |j+1=>if Zxr m j then Zcl m held j else
   ((Zcl m held j).1+(if hasB held j then 0 else Zda m j),(Zcl m held j).2+Zda m j)
def Zlo (m:MoList):Int × Int × Int:=if (Zft m).2=0 then ((Zcl m (Zft m).1 m.sums.length).1,(Zcl m (Zft m).1 m.sums.length).2,0) else (0,0,(Zft m).2)
theorem Zq8 (m:MoList) (hv:Valid m) (j:Nat):0≤Zda m j∧Zda m j≤99:=by
 unfold Zda
 by_cases hj:j<m.sums.length
 ·rw[List.getElem?_eq_getElem hj]
  have:=(hv.sums j hj).1
  exact⟨by simp only;omega,this.2⟩
 ·rw[List.getElem?_eq_none (by omega)]
  exact⟨Int.le_refl _,by decide⟩
theorem Zrp (m:MoList) (hv:Valid m) (held:List Int):∀j,(0≤(Zcl m held j).1∧(Zcl m held j).1≤99*j)∧0≤(Zcl m held j).2∧(Zcl m held j).2≤99*j
 |0=>by simp[Zcl]
 |j+1=>by
  have h:=Zrp m hv held j
  have hp:=Zq8 m hv j
  rw[Zcl]
  split
  ·omega
  ·simp only
   split<;>omega
end
section
def Zw7 (m:MoList) (but:List Int) (s:Int) (k:Nat):Bool:=hasB but k||match m.paid[k]? with|some q=>decide (q.sum≠s)|none=>true
theorem Z36 {m:MoList} {but:List Int} {s:Int} {k:Nat} (h:k<m.paid.length):Zw7 m but s k=(hasB but k||decide (m.paid[k].sum≠s)):=by
 unfold Zw7;rw[List.getElem?_eq_getElem h]
theorem Zos {m:MoList} {t but:List Int} {i:Nat} (h:i<m.paid.length):
  Zjb m t but i=(hasB but i||(decide (t[m.paid[i].sum.toNat]?.getD 0=m.paid[i].claimant)&&(List.range i).all fun k=>Zw7 m but m.paid[i].sum k)):=by
 unfold Zjb;rw[List.getElem?_eq_getElem h];rfl
theorem Zrm {m:MoList} {t but:List Int} {i:Nat} (h:i<m.paid.length) (hb:hasB but i=true):Zjb m t but i=true:=by
 rw[Zos h,hb];rfl
theorem Zvb {m:MoList} {t but:List Int} {i:Nat} (h:i<m.paid.length) (h2:Zjb m t but i=false):right m t but=false:=by
 unfold right
 rw[List.all_eq_false]
 exact⟨i,by simpa using h,by simp[h2]⟩
theorem Zow {m:MoList} {t but:List Int} (h2:∀i,i<m.paid.length→Zjb m t but i=true):right m t but=true:=by
 unfold right
 rw[List.all_eq_true]
 intro i hi
 exact h2 i (by simpa using hi)
def Zd8 (m:MoList):List Int × Int:=
 if Za0 m=0 then ((Zb0 (Zdl m (Zao m)) m.paid.length 0 m.paid.length).getD ((Zce m.paid.length m.paid.length).headD []),0) else ([],Za0 m)
end
section
theorem Zmq (ws:List MoWord) (i:Nat):(Zg3 ws i).length=ws.length:=by
 unfold Zg3
 cases h:ws[i]?<;>simp
def Zss (ws:List MoWord) (l:List Int):List MoWord:=l.foldl (fun ws i=>Zg3 ws i.toNat) ws
theorem Zpc (ws:List MoWord) (l:List Int):(Zss ws l).length=ws.length:=by
 induction l generalizing ws with
 |nil=>rfl
 |cons x l ih=>show(Zss (Zg3 ws x.toNat) l).length=_;rw[ih,Zmq]
theorem Zyi (ws:List MoWord) (i:Nat) (h:i<ws.length):Zg3 ws i=ws.set i {ws[i] with came:=true}:=by
 unfold Zg3;rw[List.getElem?_eq_getElem h]
end
section
theorem Ztm {m:MoList} {l:List Int} (h:(Zao (Zb1 m l)).length=0):Zfd m l=false:=by
 unfold Zfd
 have:Zao (Zb1 m l)=[]:=List.eq_nil_of_length_eq_zero h
 simp[this]
theorem Zrs {m:MoList} {l:List Int} (h:(Zao (Zb1 m l)).length≠0):Zfd m l=decide ((Zel (Zb1 m l) (Zao (Zb1 m l))).length=0):=by
 unfold Zfd
 show(!(Zao (Zb1 m l)).isEmpty&&(Zel (Zb1 m l) (Zao (Zb1 m l))).isEmpty)=_
 generalize Zel (Zb1 m l) (Zao (Zb1 m l))=U
 generalize Zao (Zb1 m l)=T at h ⊢
 cases T with
 |nil=>exact absurd rfl h
 |cons t ts=>cases U<;>rfl
end
section
def Zgg (late c:List Int):List Int:=c.map fun i=>late[i.toNat]?.getD 0
def Zd4 (m:MoList):List Int × Int:=
 if Za0 m=0 then (match Zb0 (fun c=>Zfd m (Zgg (Zbn m) c)) (Zbn m).length 0 ((Zbn m).length+1) with|some c=>(Zgg (Zbn m) c,0)|none=>([],9)) else ([],Za0 m)
theorem Z7j (m:MoList):∀x∈Zbn m,0≤x∧x<m.words.length:=by
 intro x hx
 unfold Zbn at hx
 obtain⟨i,hi,rfl⟩:=List.mem_map.1 hx
 have:=(List.mem_filter.1 hi).1
 simp at this
 omega
theorem Ztq (late c:List Int):(Zgg late c).length=c.length:=by unfold Zgg;simp
theorem Z47 {late c:List Int} {n:Int} (hl:∀x∈late,0≤x∧x<n) (hc:∀x∈c,0≤x∧x<late.length):∀x∈Zgg late c,0≤x∧x<n:=by
 intro x hx
 unfold Zgg at hx
 obtain⟨i,hi,rfl⟩:=List.mem_map.1 hx
 have h:=hc i hi
 have h2:i.toNat<late.length:=by omega
 rw[List.getElem?_eq_getElem h2]
 exact hl _ (List.getElem_mem h2)
end
section
def Zg8 (c:Nat) (i:Nat) (w:MoWord):MoWord:={w with came:=c.testBit i}
def Zam (m:MoList) (c:Nat):MoList:={m with words:=m.words.mapIdx (Zg8 c)}
theorem Zch (m:MoList) (c:Nat):(Zam m c).words.length=m.words.length:=by simp[Zam]
theorem Zgp (m:MoList) (c i:Nat) (h:i<m.words.length):(Zam m c).words[i]?=some (Zg8 c i m.words[i]):=by
 simp[Zam,h]
def Zl2 (m:MoList) (c at_:Nat) (j:Nat):Bool:=(List.range j).all fun i=>match m.words[i]? with|some w=>!(decide (w.back=(at_:Int))&&c.testBit i)|none=>true
theorem Zvp (m:MoList) (c at_ j:Nat) (h:j<m.words.length):Zl2 m c at_ (j+1)=(Zl2 m c at_ j&&!(decide (m.words[j].back=(at_:Int))&&c.testBit j)):=by
 unfold Zl2
 rw[List.range_succ,List.all_append]
 simp[h]
theorem Zsa (n:Nat) (p q:Nat→Bool) (h:∀i,i<n→p i=q i):(List.range n).all p=(List.range n).all q:=by
 rw[Bool.eq_iff_iff]
 simp only[List.all_eq_true,List.mem_range]
 exact⟨fun H i hi=>(h i hi)▸H i hi,fun H i hi=>(h i hi).symm▸H i hi⟩
theorem Z71 {α:Type} (l:List α) (p:α→Bool):l.all p=(List.range l.length).all fun i=>match l[i]? with|some x=>p x|none=>true:=by
 rw[Bool.eq_iff_iff]
 simp only[List.all_eq_true,List.mem_range]
 constructor
 ·intro H i hi
  rw[List.getElem?_eq_getElem hi]
  exact H _ (List.getElem_mem hi)
 ·intro H x hx
  obtain⟨i,hi,rfl⟩:=List.getElem_of_mem hx
  have:=H i hi
  rwa [List.getElem?_eq_getElem hi] at this
theorem Zvk (m:MoList) (c at_:Nat) (h:at_<m.words.length):Zfj (Zam m c) at_=(c.testBit at_&&Zl2 m c at_ m.words.length):=by
 unfold Zfj
 rw[Zgp m c at_ h]
 simp only[Zg8]
 congr 1
 rw[Z71,Zch]
 unfold Zl2
 apply Zsa
 intro i hi
 rw[Zgp m c i hi,List.getElem?_eq_getElem hi]
 show(!(c.testBit i&&decide (m.words[i].back=(at_:Int))))=_
 rw[Bool.and_comm]
def Zfi (w:MoWord):Int:=if 2≤w.says then max w.sum w.of else w.sum
def Zm3 (w:MoWord) (T:List Int):Int:=if 2≤w.says then T[w.of.toNat]?.getD 0 else w.of
def Zqp (says a b:Int):Bool:=if says=0∨says=2 then decide (a=b) else !decide (a=b)
def soAt (w:MoWord) (T:List Int):Bool:=Zqp w.says (T[w.sum.toNat]?.getD 0) (Zm3 w T)
def Zhd (m:MoList) (T:List Int) (s:Nat) (i:Nat):Bool:=match m.words[i]? with|some w=>!(decide (Zfi w=(s:Int))&&Zfj m i&&!soAt w T)|none=>true
def Zl0 (m:MoList) (T:List Int) (s:Nat) (j:Nat):Bool:=(List.range j).all fun i=>Zhd m T s i
theorem Zve (m:MoList) (T:List Int) (s j:Nat):Zl0 m T s (j+1)=(Zl0 m T s j&&Zhd m T s j):=by
 unfold Zl0
 rw[List.range_succ,List.all_append]
 simp
def Zlg (m:MoList) (T:List Int) (s:Nat):Bool:=Zl0 m T s m.words.length
def pad (n:Nat) (t:List Int):List Int:=t++List.replicate (n-t.length) 0
theorem Zfz (n:Nat) (t:List Int) (h:t.length≤n):(pad n t).length=n:=by simp[pad];omega
theorem Zfw (n:Nat) (t:List Int) (i:Nat) (h:i<t.length):(pad n t)[i]?=t[i]?:=by unfold pad;rw[List.getElem?_append_left h]
theorem Z08 (n:Nat) (t:List Int) (x:Int) (h:t.length<n):(pad n t).set t.length x=pad n (t++[x]):=by
 unfold pad
 rw[List.set_append_right _ _ (Nat.le_refl _),show n-t.length=(n-(t.length+1))+1 from by omega,Nat.sub_self,List.replicate_succ,List.set_cons_zero]
 simp
theorem Zto (n:Nat) (t:List Int) (x:Int) (h:t.length<n):(pad n (t++[x])).set t.length 0=pad n t:=by
 unfold pad
 rw[List.append_assoc,List.set_append_right _ _ (Nat.le_refl _),Nat.sub_self]
 simp only[List.singleton_append,List.set_cons_zero,List.length_append,List.length_singleton]
 rw[show n-t.length=(n-(t.length+1))+1 from by omega,List.replicate_succ]
theorem Z21 (n:Nat) (s t:List Int) (h:s.length=t.length) (e:pad n s=pad n t):s=t:=by
 unfold pad at e
 exact(List.append_inj e h).1
theorem Z9u {c s n i:Nat} {w:MoWord} (hv:ValidWord c s n i w) (t:List Int) (N:Nat):so w t=(decide ((t.length:Int)≤Zfi w)||soAt w (pad N t)):=by
 have h1:=hv.says
 have h2:=hv.sum
 unfold so Zfi soAt Zm3 Zqp
 by_cases hs:2≤w.says
 ·have h3:=hv.of2 hs
  simp only[if_pos hs]
  by_cases ha:(t.length:Int)≤w.sum
  ·rw[if_pos ha]
   have:decide ((t.length:Int)≤max w.sum w.of)=true:=by simp;omega
   simp[this]
  ·rw[if_neg ha,if_neg (show ¬w.says=0 from by omega),if_neg (show ¬w.says=1 from by omega)]
   have e1:(pad N t)[w.sum.toNat]?=t[w.sum.toNat]?:=Zfw _ _ _ (by omega)
   by_cases hb:(t.length:Int)≤w.of
   ·have:decide ((t.length:Int)≤max w.sum w.of)=true:=by simp;omega
    rw[this]
    simp[hb]
   ·have e2:(pad N t)[w.of.toNat]?=t[w.of.toNat]?:=Zfw _ _ _ (by omega)
    have:decide ((t.length:Int)≤max w.sum w.of)=false:=by simp;omega
    rw[this,e1,e2]
    have hb2:decide ((t.length:Int)≤w.of)=false:=by simpa using hb
    by_cases h4:w.says=2
    ·rw[if_pos h4,if_pos (Or.inr h4),hb2]
    ·rw[if_neg h4,if_neg (show ¬(w.says=0∨w.says=2) from by omega),hb2]
     simp
 ·simp only[if_neg hs]
  by_cases ha:(t.length:Int)≤w.sum
  ·rw[if_pos ha];simp[ha]
  ·rw[if_neg ha]
   have e1:(pad N t)[w.sum.toNat]?=t[w.sum.toNat]?:=Zfw _ _ _ (by omega)
   have:decide ((t.length:Int)≤w.sum)=false:=by simpa using ha
   rw[this,e1]
   by_cases h4:w.says=0
   ·rw[if_pos h4,if_pos (Or.inl h4)];simp
   ·rw[if_neg h4,if_pos (show w.says=1 from by omega),if_neg (show ¬(w.says=0∨w.says=2) from by omega)]
    simp
def w_lt (w:MoWord) (n:Nat):Prop:=w.sum<n∧(2≤w.says→w.of<n)
theorem Zol {α β:Type} {l:List α} {f g:α→List β} (h:∀x∈l,f x=g x):l.flatMap f=l.flatMap g:=by
 induction l with
 |nil=>rfl
 |cons a l ih=>simp only[List.flatMap_cons];rw[h a (by simp),ih fun x hx=>h x (by simp[hx])]
theorem Ztg (m:MoList) (hv:Valid m) (t:List Int) (x:Int) (N:Nat) (ht:t.length<N) (h:Ze5 m t=true):Ze5 m (t++[x])=Zlg m (pad N (t++[x])) t.length:=by
 unfold Ze5 at h ⊢
 rw[List.all_eq_true] at h
 unfold Zlg Zl0
 apply Zsa
 intro i hi
 have hw:=hv.words i hi
 have hi2:=h i (by simpa using hi)
 unfold Zhd
 simp only[List.getElem?_eq_getElem hi] at hi2 ⊢
 cases hc:Zfj m i
 ·simp
 ·rw[hc] at hi2
  simp only[Bool.not_true,Bool.false_or,Bool.and_true] at hi2 ⊢
  rw[Z9u hw (t++[x]) N]
  rw[Z9u hw t N] at hi2
  simp only[List.length_append,List.length_singleton]
  by_cases h1:Zfi m.words[i]=(t.length:Int)
  ·have e1:decide (((t.length+1:Nat):Int)≤Zfi m.words[i])=false:=by simp;omega
   rw[e1]
   simp[h1]
  ·by_cases h2:(t.length:Int)<Zfi m.words[i]
   ·have e1:decide (((t.length+1:Nat):Int)≤Zfi m.words[i])=true:=by simp;omega
    rw[e1]
    simp[h1]
   ·have e1:decide (((t.length+1:Nat):Int)≤Zfi m.words[i])=false:=by simp;omega
    have e2:decide ((t.length:Int)≤Zfi m.words[i])=false:=by simp;omega
    rw[e2] at hi2
    rw[e1]
    simp only[h1,Bool.false_or,decide_false,Bool.false_and,Bool.not_false] at hi2 ⊢
    rw[←hi2]
    have hsum:=hw.sum
    have hlt:w_lt m.words[i] t.length:=by
     unfold w_lt
     unfold Zfi at h1 h2
     by_cases hs:2≤m.words[i].says
     ·rw[if_pos hs] at h1 h2
      have:=hw.of2 hs
      omega
     ·rw[if_neg hs] at h1 h2
      omega
    unfold soAt Zm3
    have g:∀j:Nat,j<t.length→(pad N (t++[x]))[j]?=(pad N t)[j]?:=fun j hj=>by
     rw[Zfw _ _ _ hj,Zfw _ _ _ (by simp;omega),List.getElem?_append_left hj]
    rw[g _ (by have:=hlt.1;omega)]
    by_cases hs:2≤m.words[i].says
    ·rw[if_pos hs,if_pos hs,g _ (by have:=hlt.2 hs;have:=(hw.of2 hs).1;omega)]
    ·rw[if_neg hs,if_neg hs]
def dfs (m:MoList):Nat→List Int→List (List Int)
 |0,t=>[t]
 |k+1,t=>((List.range m.claimants.length).filter fun c=>fine m t.length t c).flatMap fun(c:Nat)=>dfs m k (t++[(c:Int)])
theorem Z22 (m:MoList) (k:Nat):∀(i:Nat) (L:List (List Int)),(∀t∈L,t.length=i)→(∀t,Zbq m i t=Zbq m i t)→
  ∀(j:Nat),L.flatMap (dfs m k)=(match k with|0=>L|k+1=>(L.flatMap (Zbq m i)).flatMap (dfs m k)):=by
 intro i L hL _ _
 cases k with
 |zero=>simp[dfs]
 |succ k=>
  simp only
  rw[List.flatMap_assoc]
  apply Zol
  intro t ht
  rw[dfs,hL t ht]
  unfold Zbq
  rw[List.flatMap_map]
theorem Zy7 (m:MoList) (k:Nat):∀i,(Za8 m i).flatMap (dfs m k)=Za8 m (i+k):=by
 induction k with
 |zero=>intro i;simp[dfs]
 |succ k ih=>
  intro i
  have h:=Z22 m (k+1) i (Za8 m i) (fun t ht=>Zhv m i t ht) (fun _=>rfl) 0
  rw[h]
  show(((Za8 m i).flatMap (Zbq m i)).flatMap (dfs m k))=_
  have e:(Za8 m i).flatMap (Zbq m i)=Za8 m (i+1):=rfl
  rw[e,ih (i+1)]
  congr 1
  omega
theorem Z2h (m:MoList):Zao m=dfs m m.sums.length []:=by
 have h:=Zy7 m m.sums.length 0
 simp only[Za8,List.flatMap_cons,List.flatMap_nil,List.append_nil,Nat.zero_add] at h
 exact h.symm
end
section
open Go Go.RowKit
def Zgy (w:World) (a:Option Addr) (l:List MoSum):Prop:=
 ∀i (_:i<l.length),∃b off,a=some ⟨b,off,none⟩∧b<w.heap.size∧w.cell? ⟨b,off+i*3,none⟩=some (.string l[i].name)∧w.cell? ⟨b,off+i*3+1,none⟩=some (.int .i64 l[i].pence)∧
  w.cell? ⟨b,off+i*3+2,none⟩=some (.int .i64 l[i].for_)
def Ziy (w:World) (a:Option Addr) (l:List MoWord):Prop:=
 ∀i (_:i<l.length),∃b off,a=some ⟨b,off,none⟩∧b<w.heap.size∧w.cell? ⟨b,off+i*5,none⟩=some (.int .i64 l[i].says)∧w.cell? ⟨b,off+i*5+1,none⟩=some (.int .i64 l[i].sum)∧
  w.cell? ⟨b,off+i*5+2,none⟩=some (.int .i64 l[i].of)∧w.cell? ⟨b,off+i*5+3,none⟩=some (.int .i64 l[i].back)∧w.cell? ⟨b,off+i*5+4,none⟩=some (.bool l[i].came)
def Zru (w:World) (a:Option Addr) (l:List MoPaid):Prop:=
 ∀i (_:i<l.length),∃b off,a=some ⟨b,off,none⟩∧b<w.heap.size∧w.cell? ⟨b,off+i*2,none⟩=some (.int .i64 l[i].sum)∧w.cell? ⟨b,off+i*2+1,none⟩=some (.int .i64 l[i].claimant)
theorem Zgy.mono {w W:World} {a:Option Addr} {l:List MoSum} (h:Zgy w a l) (hb:Below w.heap.size w W):Zgy W a l:=fun i hi=>by
 obtain⟨b,off,e,hlt,h1,h2,h3⟩:=h i hi
 exact⟨b,off,e,Nat.lt_of_lt_of_le hlt hb.size,Zab hb h1,Zab hb h2,Zab hb h3⟩
theorem Ziy.mono {w W:World} {a:Option Addr} {l:List MoWord} (h:Ziy w a l) (hb:Below w.heap.size w W):Ziy W a l:=fun i hi=>by
 obtain⟨b,off,e,hlt,h1,h2,h3,h4,h5⟩:=h i hi
 exact⟨b,off,e,Nat.lt_of_lt_of_le hlt hb.size,Zab hb h1,Zab hb h2,Zab hb h3,Zab hb h4,Zab hb h5⟩
theorem Zru.mono {w W:World} {a:Option Addr} {l:List MoPaid} (h:Zru w a l) (hb:Below w.heap.size w W):Zru W a l:=fun i hi=>by
 obtain⟨b,off,e,hlt,h1,h2⟩:=h i hi
 exact⟨b,off,e,Nat.lt_of_lt_of_le hlt hb.size,Zab hb h1,Zab hb h2⟩
structure ListC (w:World) (ac az aw ap:Option Addr) (cc cz cw cp:Nat) (m:MoList):Prop where
 okc:SlOk ac m.claimants.length cc
 okz:SlOk az m.sums.length cz
 okw:SlOk aw m.words.length cw
 okp:SlOk ap m.paid.length cp
 claimants:Zgs w ac m.claimants
 sums:Zgy w az m.sums
 words:Ziy w aw m.words
 paid:Zru w ap m.paid
 csize:∀s∈m.claimants,s.size≤9223372036854775807
 zsize:∀s∈m.sums,s.name.size≤9223372036854775807
theorem ListC.mono {w W:World} {ac az aw ap:Option Addr} {cc cz cw cp:Nat} {m:MoList} (h:ListC w ac az aw ap cc cz cw cp m) (hb:Below w.heap.size w W):ListC W ac az aw ap cc cz cw cp m:=
 ⟨h.okc,h.okz,h.okw,h.okp,h.claimants.mono hb,h.sums.mono hb,h.words.mono hb,h.paid.mono hb,h.csize,h.zsize⟩
@[reducible] def Z9k (ac az aw ap:Option Addr) (cc cz cw cp:Nat) (m:MoList):Value:=
 .agg #[.slice ac m.claimants.length cc,.slice az m.sums.length cz,.slice aw m.words.length cw,.slice ap m.paid.length cp]
end
section
open Go Go.RowKit
structure ElemInfo (P:Program) (t e:TypeId) (z:Value) (size bytes:Nat):Prop where
 und:P.underlying t=some (.slice e)
 info:(P.info? e).map (fun i=>(i.zero,i.size,i.bytes))=some (some z,size,bytes)
 zsz:z.cells.size=size
 pos:0<size
def Za2 (w:World) (y:Value) (m size:Nat) (news:List Value):Prop:=
 news.length=m*size∧(∀u∈news,u.oneCell'=true)∧
 ((y=.slice none 0 0∧m=0)∨∃ad c,y=.slice (some ad) m c∧∀j u,news[j]?=some u→w.cell? (ad.add j)=some u)
theorem Za2.one (w:World) (u:Value) (t:TypeId) (h:u.oneCell'=true):Za2 (w.alloc (.cells #[u] t)) (.slice (some ⟨w.heap.size,0,none⟩) 1 1) 1 1 [u]:=
 ⟨rfl,by simpa using h,.inr ⟨_,_,rfl,cell_one_new _ _ _⟩⟩
theorem Za2.below {w W:World} {y:Value} {m size:Nat} {news:List Value} (h:Za2 w y m size news) (hb:Below w.heap.size w W):Za2 W y m size news:=by
 obtain⟨h1,h2,h3⟩:=h
 refine⟨h1,h2,?_⟩
 rcases h3 with h3|⟨ad,c,e,hc⟩
 ·exact .inl h3
 ·refine .inr ⟨ad,c,e,fun j u hj=>?_⟩
  have h:=hc j u hj
  exact(hb.cell (p:=ad.add j) (Zag h)).trans h
theorem Za2.ints {w:World} {a:Option Addr} {l:List Int} {c:Nat} (hn:a=none→c=0) (h:Zaw w a l):Za2 w (.slice a l.length c) l.length 1 (l.map (Value.int .i64)):=by
 refine⟨by simp,by intro u hu;obtain⟨x,_,rfl⟩:=List.mem_map.1 hu;rfl,?_⟩
 cases a with
 |none=>
  have:l.length=0:=by
   by_cases h0:0<l.length
   ·obtain⟨b,off,e,_⟩:=h 0 h0
    cases e
   ·omega
  left
  rw[hn rfl,this]
  exact⟨rfl,rfl⟩
 |some ad=>
  refine .inr ⟨ad,c,rfl,fun j u hj=>?_⟩
  rw[List.getElem?_map] at hj
  obtain⟨x,hx,rfl⟩:=Option.map_eq_some_iff.1 hj
  obtain⟨hlt,rfl⟩:=List.getElem?_eq_some_iff.1 hx
  obtain⟨b,off,e,_,hc⟩:=h j hlt
  cases e
  rw[Addr.add_lit]
  exact hc
theorem Zbs {P:Program} {w:World} {ops:Array Oper} {rest:List Oper} {o:Oper} {a:Act} {Q:Exit→Act→World→Prop} (s x:Operand) {t e:TypeId} {z:Value} {size bytes:Nat}
  (hE:ElemInfo P t e z size bytes) (hgd:o.guard=none) (ho:o.op=.call {callee:=.builtin .append,args:=#[s,x],argTypes:=#[t,t]})
  {v y:Value} (hs:a.eval s=v) (hx:a.eval x=y)
  (base n m:Nat) (xs news:List Value) (hown:w.ownsRow base e size v n xs) (hsrc:Za2 w y m size news)
  (hnm:n+m≤1000000) (hbt:bytes≤1000000) (hbase:base≤w.heap.size)
  (h:∀v' w',w'.ownsRow base e size v' (n+m) (xs++news)→w.grownBy w' v.ownBlock→(v'.ownBlock=v.ownBlock∨v'.ownBlock=some w.heap.size)→wpList P ops Q rest (a.put o.dst v') w'):
  wpList P ops Q (o::rest) a w:=by
 obtain⟨i,hi,hz,hsz,hby⟩:=info_parts hE.info
 obtain⟨h1,h2,h3⟩:=hsrc
 rcases h3 with⟨rfl,rfl⟩|⟨ad,c,rfl,hc⟩
 ·have hn:news=[]:=List.eq_nil_of_length_eq_zero (by simpa using h1)
  subst hn
  refine wpList_append_own_none hgd s x t ho base e i size hE.und hi v n xs hs hown hx ?_
  exact h v w (by simpa using hown) ⟨rfl,rfl,rfl,Nat.le_refl _,fun _ _ _=>rfl⟩ (.inl rfl)
 ·have hm:maxLen=9223372036854775807:=rfl
  have hb:(n+m)*bytes≤1000000*1000000:=Nat.mul_le_mul hnm hbt
  exact wpList_append_own_at w hgd s x t ho base e i z size bytes hE.und hi hz hsz hby hE.zsz hE.pos v n xs hs hown ad m c news hx h1 hc h2 (by omega) (by omega) hbase
   fun v' w' h2 h3 _ h5=>h v' w' h2 h3 h5
theorem Zm7 {w w1:World} {o:Obj} {n c:Nat} (hg:(w.alloc o).grownBy w1 (Value.ownBlock (.slice (some ⟨w.heap.size,0,none⟩) n c))):Below w.heap.size w w1:=
 ((Below.refl w.heap.size w).alloc (Nat.le_refl _) o).grown hg (by simp) (fun k e=>by
  have:w.heap.size=k:=by simpa[Value.ownBlock] using e
  omega)
theorem Zdw {B base:Nat} {w w1 w2:World} {o:Obj} {e:TypeId} {size n:Nat} {v:Value} {xs:List Value} (h:Below B w w1) (hB:B≤w.heap.size) (hb:B≤base) (ho:w1.ownsRow base e size v n xs) (hg:(w1.alloc o).grownBy w2 v.ownBlock):Below B w w2:=
 have h1:=h.size
 (h.alloc (by omega) o).grown hg (by simp;omega) (fun k e=>Nat.le_trans hb (ho.lt k e).1)
theorem Zc6 {w W:World} {base:Nat} {e:TypeId} {size n:Nat} {v:Value} {xs:List Value} (h:w.ownsRow base e size v n xs) (hb:Below w.heap.size w W):W.ownsRow base e size v n xs:=
 h.kept (row:=none) ⟨hb.os,hb.tape,hb.output,hb.size,fun k hk _=>hb.block k hk⟩ (by cases v.ownBlock<;>simp)
theorem Z5n {W:World} {base:Nat} {e:TypeId} {size:Nat} {v:Value} {k:Nat} {xs:List Value} (h:W.ownsRow base e size v (k+1) xs):∃g cap,v=.slice (some ⟨g,0,none⟩) (k+1) cap:=by
 rcases h.2 with⟨_,h0⟩|⟨g,cap,_,rfl,_⟩
 ·omega
 ·exact⟨g,cap,rfl⟩
def OwnRows (w:World) (base:Nat) (e:TypeId) (v:Value) (L:List (List Int)):Prop:=
 ∃vs:List Value,w.ownsRow base e 1 v L.length vs∧∀i (_:i<L.length),∃a c,vs[i]?=some (.slice a L[i].length c)∧SlOk a L[i].length c∧
  Zaw w a L[i]∧∀ad,a=some ad→ad.block<w.heap.size∧some ad.block≠v.ownBlock
theorem OwnRows.nil (w:World) (base:Nat) (e:TypeId):OwnRows w base e (.slice none 0 0) []:=⟨[],World.ownsRow_nil _ _ _ _,fun i hi=>absurd hi (Nat.not_lt_zero i)⟩
theorem Zaw.grown {w W:World} {a:Option Addr} {l:List Int} {row:Option Nat} (h:Zaw w a l) (hg:w.grownBy W row) (hne:∀ad,a=some ad→some ad.block≠row):Zaw W a l:=fun i hi=>by
 obtain⟨b,off,e,hlt,hc⟩:=h i hi
 exact⟨b,off,e,Nat.lt_of_lt_of_le hlt hg.size,hg.cell (a:=⟨b,off+i,none⟩) hc (show some b≠row from hne _ e)⟩
theorem Zng {w:World} {base:Nat} {e:TypeId} {size n:Nat} {v:Value} {xs:List Value} (h:w.ownsRow base e size v n xs):∀k,v.ownBlock=some k→k<w.heap.size:=fun k hk=>(h.lt k hk).2
theorem OwnRows.kept {w W:World} {base:Nat} {e:TypeId} {v:Value} {L:List (List Int)} (h:OwnRows w base e v L) (hb:Below w.heap.size w W):OwnRows W base e v L:=by
 obtain⟨vs,h1,h2⟩:=h
 have hg:w.grownBy W none:=⟨hb.os,hb.tape,hb.output,hb.size,fun k hk _=>hb.block k hk⟩
 refine⟨vs,h1.kept hg ?_,fun i hi=>?_⟩
 ·cases hv:v.ownBlock<;>simp
 ·obtain⟨a,c,e1,e2,e5,e6⟩:=h2 i hi
  exact⟨a,c,e1,e2,e5.mono hb,fun ad ead=>⟨Nat.lt_of_lt_of_le (e6 ad ead).1 hb.size,(e6 ad ead).2⟩⟩
theorem OwnRows.push {w w1 w2:World} {base:Nat} {e:TypeId} {v v':Value} {L:List (List Int)} {vs:List Value} {a:Option Addr} {t:List Int} {c:Nat} {tmp:Obj}
  (hvs:w.ownsRow base e 1 v L.length vs)
  (h2:∀i (_:i<L.length),∃a c,vs[i]?=some (.slice a L[i].length c)∧SlOk a L[i].length c∧Zaw w a L[i]∧∀ad,a=some ad→ad.block<w.heap.size∧some ad.block≠v.ownBlock)
  (hb:Below w.heap.size w w1) (ht:Zaw w1 a t) (hc:SlOk a t.length c) (hnew:∀ad,a=some ad→w.heap.size≤ad.block∧ad.block<w1.heap.size)
  (hown:w2.ownsRow base e 1 v' (L.length+1) (vs++[.slice a t.length c])) (hg:(w1.alloc tmp).grownBy w2 v.ownBlock) (hv:v'.ownBlock=v.ownBlock∨v'.ownBlock=some (w1.alloc tmp).heap.size):
  OwnRows w2 base e v' (L++[t]):=by
 have hvl:=Zng hvs
 have hb1:Below w.heap.size w (w1.alloc tmp):=hb.alloc hb.size _
 have hlen:vs.length=L.length:=by simpa using hvs.1
 refine⟨_,by simpa using hown,fun i hi=>?_⟩
 have hsz:=hb1.size
 by_cases h:i<L.length
 ·obtain⟨a',c',e1,e2,e5,e6⟩:=h2 i h
  refine⟨a',c',?_,?_,?_,?_⟩
  ·rw[List.getElem?_append_left (by omega),List.getElem_append_left h]
   exact e1
  ·rw[List.getElem_append_left h];exact e2
  ·rw[List.getElem_append_left h]
   exact(e5.mono hb1).grown hg fun ad ead=>(e6 ad ead).2
  ·intro ad ead
   have e7:=e6 ad ead
   have:=hg.size
   simp at hsz this
   refine⟨by omega,?_⟩
   rcases hv with hv|hv
   ·rw[hv];exact e7.2
   ·rw[hv]
    intro e'
    simp at e'
    omega
 ·have hi':i=L.length:=by simp at hi;omega
  subst hi'
  refine⟨a,c,?_,?_,?_,?_⟩
  ·rw[List.getElem?_append_right (by omega)]
   simp[hlen]
  ·simpa using hc
  ·simp
   refine(ht.mono ((Below.refl _ _).alloc (Nat.le_refl _) _)).grown hg fun ad ead e'=>?_
   have:=hvl _ e'.symm
   have:=(hnew ad ead).1
   omega
  ·intro ad ead
   have h1:=hnew ad ead
   have:=hg.size
   simp at this
   refine⟨by omega,fun e'=>?_⟩
   rcases hv with hv|hv
   ·have:=hvl _ (hv▸e'.symm)
    omega
   ·rw[hv] at e'
    simp at e'
    omega
theorem OwnRows.rows {w:World} {base:Nat} {e:TypeId} {v:Value} {L:List (List Int)} (h:OwnRows w base e v L):Zyu w v L:=by
 obtain⟨vs,h1,h2⟩:=h
 have hm:maxLen=9223372036854775807:=rfl
 rcases h1.2 with⟨rfl,h0⟩|⟨g,cap,cur,rfl,_,hg,h3,h4,h5,h6⟩
 ·have:L=[]:=List.eq_nil_of_length_eq_zero h0
  subst this
  exact⟨none,0,rfl,⟨Nat.le_refl _,by omega,fun _=>rfl⟩,Zob.nil _ _⟩
 ·refine⟨some ⟨g,0,none⟩,cap,rfl,⟨h3,by omega,fun h=>by cases h⟩,fun i hi=>?_⟩
  obtain⟨a,c,e1,e2,e5,_⟩:=h2 i hi
  refine⟨g,0,a,c,rfl,(Array.getElem?_eq_some_iff.1 hg).1,?_,e2,e5⟩
  have:=h1.cells (g:=g) rfl i _ e1
  simpa[Addr.add_lit] using this
end
section
open Go Go.RowKit
theorem Zr1 {w:World} {base:Nat} {e:TypeId} {v:Value} {n:Nat} {l:List Int} (h:w.ownsRow base e 1 v n (l.map (Value.int .i64))):Ze7 w v l:=by
 have hl:=h.1
 rcases h.2 with⟨rfl,h0⟩|⟨g,cap,cur,rfl,_⟩
 ·have:l=[]:=List.eq_nil_of_length_eq_zero (by simp at hl;omega)
  subst this
  exact⟨none,0,rfl,⟨Nat.le_refl _,by omega,fun _=>rfl⟩,Zaw.nil _ _⟩
 ·obtain⟨h1,h2,h3,_⟩:=Zp1 h rfl
  subst h1
  exact⟨_,_,rfl,h3,h2⟩
theorem Zh8 (p:Nat→Bool) (n:Nat):((List.range (n+1)).filter p).map (fun(c:Nat)=>(c:Int))=((List.range n).filter p).map (fun(c:Nat)=>(c:Int))++(if p n then [(n:Int)] else []):=by
 rw[List.range_succ,List.filter_append,List.map_append]
 congr 1
 cases h:p n<;>simp[h]
theorem Zkr (p:Nat→Bool) (n:Nat):(((List.range n).filter p).map (fun(c:Nat)=>(c:Int))).length≤n:=by
 have:=List.length_filter_le p (List.range n)
 simpa using this
end
section
open Go Go.RowKit
theorem Zh3:ElemInfo Tryz.prog 57 3 (.int .i64 0) 1 8:=⟨by kernel_rfl,by kernel_rfl,rfl,by decide⟩
theorem Z64:ElemInfo Tryz.prog 47 57 (.slice none 0 0) 1 24:=⟨by kernel_rfl,by kernel_rfl,rfl,by decide⟩
theorem Z99:ElemInfo Tryz.prog 49 9 (.string ⟨#[]⟩) 1 16:=⟨by kernel_rfl,by kernel_rfl,rfl,by decide⟩
end
end Go.Proofs.YtklconegomgjaaaGreat
