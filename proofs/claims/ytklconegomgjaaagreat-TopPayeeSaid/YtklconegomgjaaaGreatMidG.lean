/- What is proved here: plain facts: the first of the shortest lists of numbers that are so, however it is sought. No program. No condition. -/
import Derived.Test.YtklconegomgjaaaGreatMoFactsG
import Derived.Test.YtklconegomgjaaaGreatInfoG
import Derived.OneCell
import Derived.Laws.ResultCell
import Derived.Laws.EntriesVeiled
import Derived.Deep.RegionHeld3
import Derived.Deep.RegionWith
import Derived.RangeFuncCalls
set_option linter.all false
set_option maxRecDepth 100000
set_option maxHeartbeats 16000000
namespace Go.Proofs.YtklconegomgjaaaGreat
section
theorem Zog (t:List Int) (c d:Int) (h:c<d):less (t++[c]) (t++[d])=true:=by
 induction t with
 |nil=>simp[less,Int.ne_of_lt h,h]
 |cons x t ih=>simp only[List.cons_append,less,if_true];exact ih
theorem Zn2:∀(s t:List Int) (c d:Int),s.length=t.length→less s t=true→less (s++[c]) (t++[d])=true
 |[],[],_,_,_,h=>by simp[less] at h
 |x::s,y::t,c,d,hl,h=>by
  simp only[List.cons_append,less] at h ⊢
  by_cases e:x=y
  ·subst e
   simp only[if_true] at h ⊢
   exact Zn2 s t c d (by simpa using hl) h
  ·rw[if_neg e] at h ⊢
   exact h
def Zas (s n:Nat):List Int:=((List.range n).filter fun i=>s.testBit i).map fun(i:Nat)=>(i:Int)
def incr (n:Int) (l:List Int):Prop:=l.Pairwise (fun a b=>a<b)∧∀x∈l,0≤x∧x<n
theorem Zjp (l:List Int):l=[]∨∃l' x,l=l'++[x]:=by
 rcases List.eq_nil_or_concat l with h|⟨l',x,h⟩
 ·exact .inl h
 ·exact .inr ⟨l',x,by rw[h,List.concat_eq_append]⟩
theorem Z6u (n:Int):incr n []:=⟨List.Pairwise.nil,by simp⟩
theorem Zki {n:Int} {l:List Int} {x:Int}:incr n (l++[x])↔incr n l∧(∀y∈l,y<x)∧0≤x∧x<n:=by
 unfold incr
 rw[List.pairwise_append]
 constructor
 ·rintro⟨⟨h1,_,h3⟩,h4⟩
  exact⟨⟨h1,fun y hy=>h4 y (by simp[hy])⟩,fun y hy=>h3 y hy x (by simp),h4 x (by simp)⟩
 ·rintro⟨⟨h1,h2⟩,h3,h4⟩
  refine⟨⟨h1,by simp,fun a ha b hb=>by simp at hb;subst hb;exact h3 a ha⟩,fun y hy=>?_⟩
  rcases List.mem_append.1 hy with hy|hy
  ·exact h2 y hy
  ·simp at hy;subst hy;exact h4
theorem Z4q {l:List Int} (h:l.Pairwise (fun a b=>a<b)) (y:Int) (hy:y∈l):y≤l.getLast?.getD 0:=by
 rcases Zjp l with rfl|⟨l',x,rfl⟩
 ·simp at hy
 ·rw[List.getLast?_append]
  simp only[List.getLast?_singleton,Option.some_or,Option.getD_some]
  rcases List.mem_append.1 hy with hy|hy
  ·rw[List.pairwise_append] at h
   exact Int.le_of_lt (h.2.2 y hy x (by simp))
  ·simp at hy;omega
theorem Zwc {l:List Int} (h:0<l.length):l.getLast?.getD 0∈l:=by
 rcases Zjp l with rfl|⟨l',x,rfl⟩
 ·simp at h
 ·rw[List.getLast?_append];simp
theorem Zdb (n:Int) (k:Nat):∀l,l∈Zce n k↔l.length=k∧incr n l:=by
 induction k with
 |zero=>
  intro l
  simp only[Zce,List.mem_singleton,List.length_eq_zero_iff]
  exact⟨fun h=>⟨h,h▸Z6u n⟩,fun h=>h.1⟩
 |succ k ih=>
  intro l
  rw[Zce,List.mem_flatMap]
  constructor
  ·rintro⟨l',hl',hs⟩
   obtain⟨h1,h2⟩:=(ih l').1 hl'
   unfold Zgk at hs
   obtain⟨j,hj,rfl⟩:=List.mem_map.1 hs
   have hj':=List.mem_range.1 hj
   refine⟨by simp[h1],Zki.2 ⟨h2,?_,?_⟩⟩
   ·intro y hy
    have:=Z4q h2.1 y hy
    have hk:k≠0:=fun e=>by subst e;rw[List.eq_nil_of_length_eq_zero h1] at hy;simp at hy
    simp only[beq_iff_eq,hk,if_false]
    omega
   ·by_cases hk:k=0
    ·subst hk
     simp at hj' ⊢
     omega
    ·simp only[beq_iff_eq,hk,if_false] at hj' ⊢
     have:=h2.2 _ (Zwc (l:=l') (by omega))
     omega
  ·rintro⟨h1,h2⟩
   rcases Zjp l with rfl|⟨l',x,rfl⟩
   ·simp at h1
   ·obtain⟨h3,h4,h5⟩:=Zki.1 h2
    have hl':l'.length=k:=by simpa using h1
    refine⟨l',(ih l').2 ⟨hl',h3⟩,?_⟩
    unfold Zgk
    by_cases hk:k=0
    ·subst hk
     refine List.mem_map.2 ⟨x.toNat,?_,?_⟩
     ·simp;omega
     ·have:(x.toNat:Int)=x:=by omega
      simp[this]
    ·have hlast:=h4 _ (Zwc (l:=l') (by omega))
     refine List.mem_map.2 ⟨(x-(l'.getLast?.getD 0+1)).toNat,?_,?_⟩
     ·simp only[beq_iff_eq,hk,if_false,List.mem_range];omega
     ·have:l'.getLast?.getD 0+1+((x-(l'.getLast?.getD 0+1)).toNat:Int)=x:=by omega
      simp only[beq_iff_eq,hk,if_false,this]
theorem Ztw (t:List Int) (c d:Int):less (t++[c]) (t++[d])=decide (c<d):=by
 induction t with
 |nil=>
  simp only[List.nil_append,less]
  by_cases e:c=d
  ·subst e;simp
  ·rw[if_neg e]
 |cons x t ih=>simp only[List.cons_append,less,if_true];exact ih
theorem Zhb (n:Int) (k:Nat):(Zce n k).Pairwise (fun a b=>less a b=true):=by
 induction k with
 |zero=>simp[Zce]
 |succ k ih=>
  rw[Zce,List.pairwise_flatMap]
  refine⟨fun t _=>?_,ih.imp_of_mem ?_⟩
  ·unfold Zgk
   rw[List.pairwise_map]
   refine(List.pairwise_lt_range (n:=_)).imp ?_
   intro a b h
   rw[Ztw]
   simp;omega
  ·intro a b ha hb hab x hx y hy
   unfold Zgk at hx hy
   obtain⟨i,_,rfl⟩:=List.mem_map.1 hx
   obtain⟨j,_,rfl⟩:=List.mem_map.1 hy
   exact Zn2 a b _ _ (by rw[((Zdb n k a).1 ha).1,((Zdb n k b).1 hb).1]) hab
def Zhq (P:List Int→Prop) (l:List Int):Prop:=P l∧∀k,P k→k=l∨Zbo l k=true
theorem Zt4 {a b:List Int} (h:Zbo a b=true):Zbo b a=false:=by
 unfold Zbo at h ⊢
 by_cases e:a.length=b.length
 ·rw[if_pos e] at h;rw[if_pos e.symm];exact Zlb _ _ h
 ·rw[if_neg e] at h;rw[if_neg (fun h=>e h.symm)]
  simp at h ⊢;omega
theorem Zh6 (a:List Int):Zbo a a=false:=by unfold Zbo;rw[if_pos rfl];exact Ze4 a
theorem Zn0 {a b c:List Int} (h:Zbo a b=true) (k:Zbo b c=true):Zbo a c=true:=by
 unfold Zbo at h k ⊢
 by_cases e:a.length=b.length
 ·rw[if_pos e] at h
  by_cases f:b.length=c.length
  ·rw[if_pos f] at k;rw[if_pos (e.trans f)];exact Zky _ _ _ h k
  ·rw[if_neg f] at k;rw[if_neg (by omega)];simp at k ⊢;omega
 ·rw[if_neg e] at h
  simp at h
  by_cases f:b.length=c.length
  ·rw[if_pos f] at k;rw[if_neg (by omega)];simp;omega
  ·rw[if_neg f] at k;simp at k;rw[if_neg (by omega)];simp;omega
theorem Zny {a b:List Int} (h:Zbo a b=false) (h2:Zbo b a=false):a=b:=by
 unfold Zbo at h h2
 by_cases e:a.length=b.length
 ·rw[if_pos e] at h;rw[if_pos e.symm] at h2;exact Zim _ _ e h h2
 ·rw[if_neg e] at h;rw[if_neg (fun h=>e h.symm)] at h2
  simp at h h2;omega
theorem Znb {P:List Int→Prop} {a b:List Int} (h:Zhq P a) (k:Zhq P b):a=b:=by
 rcases h.2 b k.1 with e|h1
 ·exact e.symm
 ·rcases k.2 a h.1 with e|h2
  ·exact e
  ·rw[Zt4 h1] at h2;cases h2
theorem Znd {P Q:List Int→Prop} (h:∀l,P l↔Q l) {l:List Int} (k:Zhq P l):Zhq Q l:=⟨(h l).1 k.1,fun x hx=>k.2 x ((h x).2 hx)⟩
theorem Zpm {so:List Int→Bool}:∀{L:List (List Int)},L.Pairwise (fun a b=>less a b=true)→∀{l},L.find? so=some l→l∈L∧so l=true∧∀k∈L,so k=true→k=l∨less l k=true
 |[],_,l,h=>by simp at h
 |a::L,hs,l,h=>by
  rw[List.pairwise_cons] at hs
  cases ha:so a with
  |true=>
   rw[List.find?_cons_of_pos ha] at h
   cases h
   refine⟨by simp,ha,fun k hk _=>?_⟩
   rcases List.mem_cons.1 hk with e|hk
   ·exact .inl e
   ·exact .inr (hs.1 k hk)
  |false=>
   rw[List.find?_cons_of_neg (by simp[ha])] at h
   obtain⟨h1,h2,h3⟩:=Zpm hs.2 h
   refine⟨by simp[h1],h2,fun k hk hso=>?_⟩
   rcases List.mem_cons.1 hk with e|hk
   ·subst e;rw[ha] at hso;cases hso
   ·exact h3 k hk hso
theorem Z7f {so:List Int→Bool} {L:List (List Int)} (h:L.find? so=none):∀k∈L,so k=false:=by
 rw[List.find?_eq_none] at h
 intro k hk
 have:=h k hk
 simpa using this
theorem Zfg (so:List Int→Bool) (n:Int):∀(f k:Nat),(∀l,Zb0 so n k f=some l→Zhq (fun l=>incr n l∧k≤l.length∧l.length<k+f∧so l=true) l)∧(Zb0 so n k f=none→∀l,incr n l→k≤l.length→l.length<k+f→so l=false)
 |0,k=>⟨fun l h=>by simp[Zb0] at h,fun _ l _ h1 h2=>by omega⟩
 |f+1,k=>by
  cases hc:(Zce n k).find? so with
  |some l0=>
   rw[Zu5 hc]
   refine⟨fun l h=>?_,fun h=>by cases h⟩
   cases h
   obtain⟨h1,h2,h3⟩:=Zpm (Zhb n k) hc
   obtain⟨h4,h5⟩:=(Zdb n k l0).1 h1
   refine⟨⟨h5,by omega,by omega,h2⟩,fun x hx=>?_⟩
   obtain⟨g1,g2,g3,g4⟩:=hx
   by_cases e:x.length=k
   ·rcases h3 x ((Zdb n k x).2 ⟨e,g1⟩) g4 with h|h
    ·exact .inl h
    ·refine .inr ?_
     unfold Zbo
     rw[if_pos (by omega)]
     exact h
   ·refine .inr ?_
    unfold Zbo
    rw[if_neg (by omega)]
    simp;omega
  |none=>
   rw[Zt8 hc]
   have hno:=Z7f hc
   obtain⟨i1,i2⟩:=Zfg so n f (k+1)
   have hk:∀l,incr n l→l.length=k→so l=false:=fun l h1 h2=>hno l ((Zdb n k l).2 ⟨h2,h1⟩)
   refine⟨fun l h=>?_,fun h l h1 h2 h3=>?_⟩
   ·have:=i1 l h
    obtain⟨⟨g1,g2,g3,g4⟩,g5⟩:=this
    refine⟨⟨g1,by omega,by omega,g4⟩,fun x ⟨x1,x2,x3,x4⟩=>?_⟩
    by_cases e:x.length=k
    ·rw[hk x x1 e] at x4;cases x4
    ·exact g5 x ⟨x1,by omega,by omega,x4⟩
   ·by_cases e:l.length=k
    ·exact hk l h1 e
    ·exact i2 h l h1 (by omega) (by omega)
theorem Zml {n:Nat} {l:List Int} (h:incr n l):l.length≤n:=by
 induction n generalizing l with
 |zero=>
  cases l with
  |nil=>simp
  |cons a l=>have:=h.2 a (by simp);omega
 |succ n ih=>
  rcases Zjp l with rfl|⟨l',x,rfl⟩
  ·simp
  ·obtain⟨h3,h4,h5⟩:=Zki.1 h
   have:=ih (l:=l') ⟨h3.1,fun y hy=>⟨(h3.2 y hy).1,by have:=h4 y hy;omega⟩⟩
   simp;omega
theorem Zj4 (s n:Nat):incr n (Zas s n):=by
 unfold Zas incr
 refine⟨?_,fun x hx=>?_⟩
 ·rw[List.pairwise_map]
  refine List.Pairwise.filter _ ?_
  exact(List.pairwise_lt_range (n:=n)).imp (fun h=>by omega)
 ·obtain⟨i,hi,rfl⟩:=List.mem_map.1 hx
  have:=(List.mem_filter.1 hi).1
  simp at this
  omega
theorem Zfp (s n:Nat) (x:Int):x∈Zas s n↔0≤x∧x<n∧s.testBit x.toNat=true:=by
 unfold Zas
 rw[List.mem_map]
 constructor
 ·rintro⟨i,hi,rfl⟩
  obtain⟨h1,h2⟩:=List.mem_filter.1 hi
  simp at h1
  exact⟨by omega,by omega,by simpa using h2⟩
 ·rintro⟨h1,h2,h3⟩
  exact⟨x.toNat,List.mem_filter.2 ⟨by simp;omega,h3⟩,by omega⟩
theorem Zwv:∀{a b:List Int},a.Pairwise (fun x y=>x<y)→b.Pairwise (fun x y=>x<y)→(∀x,x∈a↔x∈b)→a=b
 |[],[],_,_,_=>rfl
 |[],y::ys,_,_,h=>by have:=(h y).2 (by simp);simp at this
 |x::xs,[],_,_,h=>by have:=(h x).1 (by simp);simp at this
 |x::xs,y::ys,ha,hb,h=>by
  rw[List.pairwise_cons] at ha hb
  have e:x=y:=by
   have h1:=(h x).1 (by simp)
   have h2:=(h y).2 (by simp)
   rcases List.mem_cons.1 h1 with e|h1
   ·exact e
   ·rcases List.mem_cons.1 h2 with e|h2
    ·exact e.symm
    ·have:=ha.1 y h2;have:=hb.1 x h1;omega
  subst e
  rw[Zwv ha.2 hb.2 (fun z=>?_)]
  constructor
  ·intro hz
   rcases List.mem_cons.1 ((h z).1 (by simp[hz])) with e|h1
   ·subst e;have:=ha.1 z hz;omega
   ·exact h1
  ·intro hz
   rcases List.mem_cons.1 ((h z).2 (by simp[hz])) with e|h1
   ·subst e;have:=hb.1 z hz;omega
   ·exact h1
def Zd0 (l:List Int):Nat:=l.foldl (fun s x=>s|||(1 <<< x.toNat)) 0
theorem Zko (l:List Int) (k:Nat) (hl:∀x∈l,0≤x):(Zd0 l).testBit k=decide ((k:Int)∈l):=by
 unfold Zd0
 suffices h:∀(l:List Int) (s:Nat),(∀x∈l,0≤x)→(l.foldl (fun s x=>s|||(1 <<< x.toNat)) s).testBit k=(s.testBit k||decide ((k:Int)∈l)) from by
  have:=h l 0 hl;simpa using this
 intro l
 induction l with
 |nil=>intro s _;simp
 |cons a l ih=>
  intro s h
  rw[List.foldl_cons,ih _ (fun x hx=>h x (by simp[hx])),Nat.testBit_or,Nat.one_shiftLeft,Nat.testBit_two_pow,Bool.or_assoc]
  congr 1
  have ha:=h a (by simp)
  rw[Bool.eq_iff_iff]
  simp only[Bool.or_eq_true,decide_eq_true_eq,List.mem_cons]
  constructor
  ·rintro(h|h)
   ·exact .inl (by omega)
   ·exact .inr h
  ·rintro(h|h)
   ·exact .inl (by omega)
   ·exact .inr h
theorem Zjw (l:List Int) (n:Nat) (hl:∀x∈l,0≤x∧x<n):Zd0 l<2^n:=by
 unfold Zd0
 suffices h:∀(l:List Int) (s:Nat),s<2^n→(∀x∈l,0≤x∧x<n)→l.foldl (fun s x=>s|||(1 <<< x.toNat)) s<2^n from h l 0 (Nat.two_pow_pos n) hl
 intro l
 induction l with
 |nil=>intro s hs _;exact hs
 |cons a l ih=>
  intro s hs h
  rw[List.foldl_cons]
  refine ih _ (Nat.or_lt_two_pow hs ?_) (fun x hx=>h x (by simp[hx]))
  rw[Nat.one_shiftLeft]
  have:=h a (by simp)
  exact Nat.pow_lt_pow_right (by omega) (by omega)
theorem Zez {l:List Int} {n:Nat} (h:incr n l):Zas (Zd0 l) n=l:=by
 refine Zwv (Zj4 _ n).1 h.1 (fun x=>?_)
 rw[Zfp]
 constructor
 ·rintro⟨h1,h2,h3⟩
  rw[Zko l _ (fun x hx=>(h.2 x hx).1)] at h3
  have e:((x.toNat:Nat):Int)=x:=by omega
  rw[e] at h3
  simpa using h3
 ·intro hx
  have:=h.2 x hx
  refine⟨this.1,this.2,?_⟩
  rw[Zko l _ (fun x hx=>(h.2 x hx).1)]
  have e:((x.toNat:Nat):Int)=x:=by omega
  rw[e]
  simpa using hx
def Zf3 (n:Nat) (so:Nat→Bool) (k:Nat) (best:List Int) (found:Bool):Prop:=
 (found=false→best=[]∧∀s,s<k→so s=false)∧(found=true→Zhq (fun l=>∃s,s<k∧so s=true∧l=Zas s n) best)
theorem Zoo (n:Nat) (so:Nat→Bool):Zf3 n so 0 [] false:=⟨fun _=>⟨rfl,fun s h=>by omega⟩,fun h=>by cases h⟩
theorem Zpd {n k:Nat} {so:Nat→Bool} {best:List Int} (h:Zf3 n so k best true) (hf:Zas k n=best∨Zbo best (Zas k n)=true):Zf3 n so (k+1) best true:=by
 refine⟨(fun h=>by cases h),fun _=>?_⟩
 obtain⟨⟨s,h1,h2,h3⟩,h4⟩:=h.2 rfl
 refine⟨⟨s,by omega,h2,h3⟩,fun x ⟨t,t1,t2,t3⟩=>?_⟩
 by_cases e:t<k
 ·exact h4 x ⟨t,e,t2,t3⟩
 ·have:t=k:=by omega
  subst this
  rw[t3]
  exact hf
theorem Zws {n k:Nat} {so:Nat→Bool} {best:List Int} {found:Bool} (h:Zf3 n so k best found) (hs:so k=false):Zf3 n so (k+1) best found:=by
 refine⟨fun e=>⟨(h.1 e).1,fun s hs'=>?_⟩,fun e=>?_⟩
 ·by_cases e2:s<k
  ·exact(h.1 e).2 s e2
  ·have:s=k:=by omega
   subst this
   exact hs
 ·obtain⟨⟨s,h1,h2,h3⟩,h4⟩:=h.2 e
  refine⟨⟨s,by omega,h2,h3⟩,fun x ⟨t,t1,t2,t3⟩=>?_⟩
  by_cases e:t<k
  ·exact h4 x ⟨t,e,t2,t3⟩
  ·have:t=k:=by omega
   subst this
   rw[hs] at t2;cases t2
theorem Zsm {n k:Nat} {so:Nat→Bool} {best:List Int} {found:Bool} (h:Zf3 n so k best found) (hs:so k=true) (hf:found=true→Zbo best (Zas k n)=false):Zf3 n so (k+1) (Zas k n) true:=by
 refine⟨(fun e=>by cases e),fun _=>⟨⟨k,by omega,hs,rfl⟩,fun x ⟨t,t1,t2,t3⟩=>?_⟩⟩
 by_cases e:t<k
 ·cases found with
  |false=>rw[(h.1 rfl).2 t e] at t2;cases t2
  |true=>
   have h1:=hf rfl
   rcases(h.2 rfl).2 x ⟨t,e,t2,t3⟩ with e2|h2
   ·cases h3:Zbo (Zas k n) best with
    |true=>rw[e2];exact .inr h3
    |false=>rw[e2];exact .inl (Zny h1 h3)
   ·cases h3:Zbo (Zas k n) best with
    |true=>exact .inr (Zn0 h3 h2)
    |false=>rw[←Zny h1 h3];exact .inr h2
 ·have:t=k:=by omega
  subst this
  exact .inl t3
theorem Zti (s n:Nat) (i:Nat) (h:i<n):hasB (Zas s n) i=s.testBit i:=by
 rw[Bool.eq_iff_iff,Zj2,Zfp]
 constructor
 ·rintro⟨_,_,h⟩;simpa using h
 ·intro h2;exact⟨by omega,by omega,by simpa using h2⟩
end
section
open Go Go.RowKit
def Zbm (B:Nat) (w:World) (v:Value) (l:List Int):Prop:=∃a c,v=.slice a l.length c∧SlOk a l.length c∧Zaw w a l∧∀ad,a=some ad→B≤ad.block
theorem Zbm.val {B:Nat} {w:World} {v:Value} {l:List Int} (h:Zbm B w v l):Ze7 w v l:=by
 obtain⟨a,c,e,h1,h2,_⟩:=h;exact⟨a,c,e,h1,h2⟩
theorem Zbm.mono {B:Nat} {w W:World} {v:Value} {l:List Int} (h:Zbm B w v l) (hb:Below w.heap.size w W):Zbm B W v l:=by
 obtain⟨a,c,e,h1,h2,h3⟩:=h;exact⟨a,c,e,h1,h2.mono hb,h3⟩
theorem Zbm.grown {B:Nat} {w W:World} {v:Value} {l:List Int} {row:Option Nat} (h:Zbm B w v l) (hg:w.grownBy W row) (hr:∀r,row=some r→r<B):Zbm B W v l:=by
 obtain⟨a,c,e,h1,h2,h3⟩:=h
 refine⟨a,c,e,h1,h2.grown hg (fun ad ea e=>?_),h3⟩
 have:=hr _ e.symm
 have:=h3 ad ea
 omega
theorem Zm9 {w:World} {base:Nat} {e:TypeId} {v:Value} {n:Nat} {l:List Int} (h:w.ownsRow base e 1 v n (l.map (Value.int .i64))):Zbm base w v l:=by
 have hl:=h.1
 rcases h.2 with⟨rfl,h0⟩|⟨g,cap,cur,rfl,_⟩
 ·have:l=[]:=List.eq_nil_of_length_eq_zero (by simp at hl;omega)
  subst this
  exact⟨none,0,rfl,⟨Nat.le_refl _,by omega,fun _=>rfl⟩,Zaw.nil _ _,fun _ h=>by cases h⟩
 ·obtain⟨h1,h2,h3,h4,_⟩:=Zp1 h rfl
  subst h1
  exact⟨_,_,rfl,h3,h2,fun ad e=>by cases e;exact h4⟩
theorem Zkv:∀c:Nat,c<64→∀k:Nat,k<7→(bits BinOp.and IntKind.i64 ((c:Int) / 2^k) 1==1)=c.testBit k:=by decide +kernel
end
section
open Go Go.RowKit
theorem Zks (s n:Nat) (hs:s<64) (hn:n≤6) (w:World):
  Calls Tryz.prog 62 #[.int .i64 (s:Int),.int .i64 (n:Int)] w fun e w'=>∃v,e=.returned v∧Zbm w.heap.size w' v (Zas s n)∧Below w.heap.size w w':=by
 obtain⟨p,hp⟩:∃p:Nat→Bool,p=fun i=>s.testBit i:=⟨_,rfl⟩
 have hW:Hid (Zas s n=((List.range n).filter p).map (fun(c:Nat)=>(c:Int))):=by rw[hp];exact(rfl:Zas s n=_)
 generalize Zas s n=r at hW ⊢
 have HP:=LH hp
 clear hp
 go_enter Tryz.func62,Tryz.ntmps62
 go_wp2
 go_loopw [4,7] (fun o i wr=>∃(c:Nat),c≤n∧i=.int .i64 c∧wr.ownsRow w.heap.size 3 1 o (((List.range c).filter p).map (fun(c:Nat)=>(c:Int))).length ((((List.range c).filter p).map (fun(c:Nat)=>(c:Int))).map (Value.int .i64))∧Below w.heap.size w wr) (fun _ i _=>n-(intOf i).toNat)
 case atStart=>exact⟨0,Nat.zero_le _,rfl,World.ownsRow_nil _ _ _ _,Below.refl _ _⟩
 case round=>
  obtain⟨c,hc,rfl,hown,hB⟩:=hrel
  have hB1:=hB.size
  by_cases hlt:c<n
  ·have hst:=LH (Zh8 p c)
   have hkl:=Zkr p c
   generalize hL:((List.range c).filter p).map (fun(c:Nat)=>(c:Int))=L at hown hst hkl
   clear hL
   have hb:=Zkv s hs c (by omega)
   have hpc:p c=s.testBit c:=by rw[HP.out]
   rw[←hpc] at hb
   clear hpc
   generalize p c=bp at hst hb
   have hc64:(c:Int)<64:=by omega
   cases bp
   ·go_wp2
    go_roundw
    case rel=>exact⟨c+1,by omega,by go_num,by rw[hst.out];simpa using hown,hB⟩
    case measure=>simp[intOf];omega
   ·go_wp2_with (at_builtin;go_must (refine Zbs (.tmp 15) (.tmp 17) Zh3 rfl rfl rfl rfl w.heap.size L.length 1 (L.map (Value.int .i64)) [.int .i64 (c:Int)] (hown.alloc _) (Za2.one _ _ _ rfl) (by omega) (by decide) (by simp;omega) ?_;intro v2 w2 ho2 hg2 _;(have hb2:=Zdw hB (Nat.le_refl _) (Nat.le_refl _) hown hg2);clear hg2;simp only[frT]))
    go_roundw
    case rel=>exact⟨c+1,by omega,by go_num,by rw[hst.out];simpa using ho2,hb2⟩
    case measure=>simp[intOf];omega
  ·obtain rfl:c=n:=by omega
   go_wp2
   go_ret
   rw[hW.out]
   exact⟨_,rfl,Zm9 hown,hB⟩
theorem Zlz (s n:Nat) (hs:s<64) (hn:n≤6) (w:World):
  Calls Tryz.prog 62 #[.int .i64 (s:Int),.int .i64 (n:Int)] w fun e w'=>∃v,e=.returned v∧Ze7 w' v (Zas s n)∧Below w.heap.size w w':=
 (Zks s n hs hn w).mono fun e w' ⟨v,h1,h2,h3⟩=>⟨v,h1,h2.val,h3⟩
end
section
open Go Go.RowKit
theorem Zaa {w:World} {b:Nat} {cs:Array Value} {t:TypeId} (j:Nat) {v:Value} (h:w.heap[b]?=some (.cells cs t (0,0))) (hj:cs[j]?=some v):w.cell? ⟨b,j,none⟩=some v:=by
 simp only[World.cell?,h];simpa using hj
theorem Zad {w:World} {b:Nat} {cs:Array Value} {t:TypeId} (j:Nat) (h:w.heap[b]?=some (.cells cs t (0,0))):w.frozen? ⟨b,j,none⟩=false:=by simp[World.frozen?,h]
theorem Zak {w:World} {b:Nat} {cs:Array Value} {t:TypeId} (j:Nat) (u:Value) (h:w.heap[b]?=some (.cells cs t (0,0))):(w.setCell ⟨b,j,none⟩ u).heap[b]?=some (.cells (cs.setIfInBounds j u) t (0,0)):=by
 have hlt:=lt_of_block h
 have h':w.heap[b]=.cells cs t (0,0):=by simpa[Array.getElem?_eq_getElem hlt] using h
 show(w.heap.modify b _)[b]?=_
 rw[Array.getElem?_eq_getElem (by simpa using hlt),Array.getElem_modify_self,h']
 rfl
theorem Ze3 (w:World) (o:Obj):(w.alloc o).heap[w.heap.size]?=some o:=heap_alloc_new w o
theorem Zhr {B b:Nat} {w W:World} {o:Obj} (hb:Below B w W) (hlt:b<B) (h:w.heap[b]?=some o):W.heap[b]?=some o:=(hb.block b hlt).trans h
theorem Zbh {fn:Func} {p:Tmp} {ty:TypeId} (h:fn.results=#[.cell p ty]) (tmps:Array Value) (P:Program) (w:World):
  (results fn tmps).run P w=((asAddr (tmps.getD p undef)).run P w).andThen fun a w₁=>((loadVar ty a).run P w₁):=by
 simp only[results,h]
 simp[Sem.run_bind,Result.andThen]
end
section
open Go Go.RowKit
structure LookC (w:World) (bm:Nat) (ac az aw ap:Option Addr) (cc cz cw cp:Nat) (m:MoList) (c:Nat):Prop where
 lst:ListC w ac az aw ap cc cz cw cp m
 c0:w.cell? ⟨bm,0,none⟩=some (.slice ac m.claimants.length cc)
 c1:w.cell? ⟨bm,1,none⟩=some (.slice az m.sums.length cz)
 c2:w.cell? ⟨bm,2,none⟩=some (.slice aw m.words.length cw)
 c3:w.cell? ⟨bm,3,none⟩=some (.slice ap m.paid.length cp)
 c4:w.cell? ⟨bm,4,none⟩=some (.int .i64 (c:Int))
theorem LookC.mono {w W:World} {bm:Nat} {ac az aw ap:Option Addr} {cc cz cw cp:Nat} {m:MoList} {c:Nat} (h:LookC w bm ac az aw ap cc cz cw cp m c) (hb:Below w.heap.size w W):LookC W bm ac az aw ap cc cz cw cp m c:=
 ⟨h.lst.mono hb,Zab hb h.c0,Zab hb h.c1,Zab hb h.c2,Zab hb h.c3,Zab hb h.c4⟩
theorem Zzc {m:MoList} {c at_ k:Nat} (h:k<m.words.length) (h1:m.words[k].back=(at_:Int)) (h2:c.testBit k=true):Zl2 m c at_ m.words.length=false:=by
 unfold Zl2
 rw[List.all_eq_false]
 exact⟨k,by simpa using h,by simp[List.getElem?_eq_getElem h,h1,h2]⟩
theorem Zv3 (ac az aw ap:Option Addr) (cc cz cw cp:Nat) (m:MoList) (c at_ bm:Nat) (w:World) (hm:LookC w bm ac az aw ap cc cz cw cp m c) (hv:Valid m) (hat:at_<m.words.length) (hc:c<64):
  Calls Tryz.prog 182 #[.pointer (some ⟨bm,0,none⟩),.int .i64 (at_:Int)] w fun e w'=>e=.returned (.bool (Zfj (Zam m c) at_))∧Below w.heap.size w w':=by
 have l3:=hm.lst.okw.len
 have v3:=hv.nw
 have HE:=LH (Zvk m c at_ hat)
 generalize Zfj (Zam m c) at_=r at HE ⊢
 have c2:=hm.c2
 have c4:=hm.c4
 have hB:=Zag c2
 go_enter Tryz.func182,Tryz.ntmps182
 go_wp2
 go_loopw [13] (fun i wr=>∃k:Nat,k≤m.words.length∧i=.int .i64 k∧Hid (Zl2 m c at_ k=true)∧Below w.heap.size w wr) (fun i _=>m.words.length-(intOf i).toNat)
 case atStart=>exact⟨0,Nat.zero_le _,rfl,LH rfl,Below.refl _ _⟩
 case round=>
  obtain⟨k,hk,rfl,HB,hbw⟩:=hrel
  have d2:=Zab hbw c2
  have d4:=Zab hbw c4
  have hB2:=Zag d2
  clear c2 c4 hB
  by_cases hlt:k<m.words.length
  ·obtain⟨b,off,rfl,hb,h1,h2,h3,h4,h5⟩:=(hm.lst.mono hbw).words k hlt
   have HK:=LH (Zkv c hc k (by omega))
   have HS:=LH (Zvp m c at_ k hlt)
   have HH:=LH (Zzc (m:=m) (c:=c) (at_:=at_) hlt)
   go_wp2
   ·go_ret
    exact⟨Zaq (by rw[HE.out,HH.out (by assumption) (by rw[←HK.out];assumption)];simp),hbw.alloc hbw.size _⟩
   ·go_roundw
    case rel=>exact⟨k+1,by omega,by go_num,LH (by rw[HS.out,HB.out,←HK.out];have h:(bits BinOp.and IntKind.i64 ((c:Int) / 2^k) 1==1)=false:=(by assumption);rw[h];simp),hbw.alloc hbw.size _⟩
    case measure=>simp[intOf];omega
   ·go_roundw
    case rel=>exact⟨k+1,by omega,by go_num,LH (by rw[HS.out,HB.out];have h:¬m.words[k].back=(at_:Int):=(by assumption);simp[h]),hbw.alloc hbw.size _⟩
    case measure=>simp[intOf];omega
  ·obtain rfl:k=m.words.length:=by omega
   have HK:=LH (Zkv c hc at_ (by omega))
   go_wp2
   go_ret
   exact⟨Zaq (by rw[HE.out,HB.out,←HK.out];simp),hbw⟩
end
section
open Go Go.RowKit
theorem Z5r (a b:Int) (w:World):Calls Tryz.prog 183 #[.int .i64 a,.int .i64 b] w fun e w'=>e=.returned (.bool (decide (a=b)))∧w=w':=by
 go_enter Tryz.func183,Tryz.ntmps183
 go_wp2
 go_ret
 exact⟨rfl,rfl⟩
theorem Z6f (a b:Int) (w:World):Calls Tryz.prog 184 #[.int .i64 a,.int .i64 b] w fun e w'=>e=.returned (.bool (!decide (a=b)))∧w=w':=by
 go_enter Tryz.func184,Tryz.ntmps184
 go_wp2
 go_ret
 exact⟨rfl,rfl⟩
theorem Zt9 (w:World):Calls Tryz.prog 181 #[] w fun e w'=>e=.returned (.agg #[.func (.func 183) #[] #[],.func (.func 184) #[] #[],.func (.func 183) #[] #[],.func (.func 184) #[] #[]])∧Below w.heap.size w w':=by
 go_enter Tryz.func181,Tryz.ntmps181
 go_wp2
 (try simp only[Exit.inBlock,Exit.then])
 refine bodyPost_ret (v:=.agg #[.func (.func 183) #[] #[],.func (.func 184) #[] #[],.func (.func 183) #[] #[],.func (.func 184) #[] #[]]) ?_ rfl ⟨rfl,?_⟩
 ·rw[Zbh rfl]
  go_simp
 ·go_goals
  go_grown
end
section
open Go Go.RowKit
def Z1k (A:Act) (S:World→Prop):Exit→Act→World→Prop
 |.normal,a,w=>a=A∧S w
 |_,_,_=>False
theorem Zdh {P:Program} {C:Code} {Q:Exit→Act→World→Prop} {a:Act} {w:World} (A:Act) (S:World→Prop) (h:C.wp P (Z1k A S) a w) (h2:∀W,S W→Q .normal A W):C.wp P Q a w:=
 Code.wp_mono (fun e a' w' h'=>by
  cases e with
  |normal=>obtain⟨rfl,h3⟩:=h';exact h2 _ h3
  |ret=>exact h'.elim
  |exit id=>exact h'.elim
  |goto t=>exact h'.elim
  |panic c=>exact h'.elim
  |outgrown=>exact h'.elim) h
theorem Zfr {F:Fence} {n:Nat} {P:Program} {C:Code} {Q:Exit→Act→World→Prop} {a:Act} {w:World} (A:Act) (S:World→Prop) (h:C.wpIn F n P (Z1k A S) a w) (h2:∀W,S W→Q .normal A W):C.wpIn F n P Q a w:=
 wpIn_mono h (fun e a' w' h'=>by
  cases e with
  |normal=>obtain⟨rfl,h3⟩:=h';exact h2 _ h3
  |ret=>exact h'.elim
  |exit id=>exact h'.elim
  |goto t=>exact h'.elim
  |panic c=>exact h'.elim
  |outgrown=>exact h'.elim)
theorem Zah {B:Nat} {w W:World} (h:Below B w W):Below B w W.drew:=⟨h.os,h.tape,h.output,h.size,h.block⟩
theorem Zaz {w W W':World} {o:Obj} (h:Below (w.heap.size+1) (w.alloc o) W) (h2:Below W.heap.size W W'):Below (w.heap.size+1) (w.alloc o) W':=
 h.trans (h2.mono (by have:=h.size;simpa using this))
end
end Go.Proofs.YtklconegomgjaaaGreat
