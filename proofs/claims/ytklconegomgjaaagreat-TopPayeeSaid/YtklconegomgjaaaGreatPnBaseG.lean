/- What is proved here: plain facts for TopNamed: mentions whose spellings never are alike are never of one person; in a town of which only spellings are told they can be of one person just if they are not. No program. No condition. -/
import Derived.Test.YtklconegomgjaaaGreatPeSpecG
import Derived.Test.YtklconegomgjaaaGreatMoFactsG
import Derived.RangeFuncOwn
import Derived.Test.YtklconegomgjaaaGreatKeyG
import Derived.Maps.OwnOps
import Derived.Test.YtklconegomgjaaaGreatMidG
set_option linter.all false
set_option maxRecDepth 100000
set_option maxHeartbeats 16000000
namespace Go.Proofs.YtklconegomgjaaaGreat
section
theorem Z86 {b:EaB} (hv:EaValid b) {i j:Nat} (hi:i<b.spells.length) (hj:j<b.spells.length) {h:List Int}:h∈comN b (2^i|||2^j)↔h∈Zck b i∧h∈Zck b j:=by
 rw[Zmg]
 have ht:∀k,(2^i|||2^j).testBit k=true↔k=i∨k=j:=fun k=>by
  rw[Nat.testBit_or,Nat.testBit_two_pow,Nat.testBit_two_pow]
  simp
  constructor
  ·rintro(h|h)
   ·exact .inl h.symm
   ·exact .inr h.symm
  ·rintro(h|h)
   ·exact .inl h.symm
   ·exact .inr h.symm
 constructor
 ·rintro⟨_,g⟩
  exact⟨g i hi ((ht i).2 (.inl rfl)),g j hj ((ht j).2 (.inr rfl))⟩
 ·rintro⟨g1,g2⟩
  refine⟨Zh1 hv hi g1,fun k _ hb=>?_⟩
  rcases(ht k).1 hb with rfl|rfl
  ·exact g1
  ·exact g2
theorem Z3i {α:Type} {l:List α}:l≠[]↔∃x,x∈l:=by
 cases l with
 |nil=>simp
 |cons a l=>simp
theorem Zr8 {t:PeW} {set:Nat}:Zc0 t set=true↔∃h,h∈comN t.ear set:=by
 rw[←Z3i]
 unfold Zc0
 cases comN t.ear set<;>simp
theorem Z51 {t:PeW} (h:PeOk t) {i:Nat} (hi:i<t.ments.length):spOf t i<t.ear.spells.length:=by
 have:=h.ment i hi
 unfold spOf
 rw[Zba hi]
 omega
theorem Zqq {s r:List Int} {i:Nat} (h:i<s.length):pAt (s++r) i=pAt s i:=by unfold pAt;rw[List.getElem?_append_left h]
def rgB:Nat→List Int→Bool
 |_,[]=>true
 |m,x::l=>decide (0≤x∧x≤m)&&rgB (max m (x.toNat+1)) l
def Zdm:Nat→List Int→Nat
 |m,[]=>m
 |m,x::l=>Zdm (max m (x.toNat+1)) l
theorem Zmp (t:PeW):∀(s pre:List Int) (many:Nat),rgB many s=true→(∀j,j<s.length→∀i,i<pre.length+j→pAt (pre++s) i=pAt (pre++s) (pre.length+j)→whyN t i (pre.length+j)=0)→(Zbr t (pre++s)).isSome=true→Zb2 t (pre++s)=true→(pre++s,Zdm many s)∈Zbi t s.length pre many
 |[],pre,many,_,_,hy,hf=>by
  rw[List.append_nil] at hy hf ⊢
  rw[List.length_nil,Zbi,hy,hf]
  simp[Zdm]
 |x::s,pre,many,hr,hp,hy,hf=>by
  rw[rgB,Bool.and_eq_true,decide_eq_true_eq] at hr
  obtain⟨⟨h1,h2⟩,h3⟩:=hr
  obtain⟨n,rfl⟩:∃n:Nat,x=n:=⟨x.toNat,by omega⟩
  rw[Int.toNat_natCast] at h3
  rw[show pre++((n:Int)::s)=(pre++[(n:Int)])++s by simp] at hp hy hf ⊢
  rw[List.length_cons,Zbi,List.mem_flatMap]
  refine⟨n,List.mem_range.2 (by omega),?_⟩
  have hfit:Ziv t pre n=true:=by
   unfold Ziv
   rw[List.all_eq_true]
   intro i hi
   have hi:=List.mem_range.1 hi
   by_cases e:pAt pre i=(n:Int)
   ·have:=hp 0 (by simp) i (by simpa using hi) (by
     rw[List.append_assoc,Zqq hi,e]
     unfold pAt
     simp)
    simp at this
    simp[this]
   ·simp[e]
  rw[if_pos hfit]
  have ih:=Zmp t s (pre++[(n:Int)]) (max many (n+1)) h3 (fun j hj i hi he=>by
   simp only[List.length_append,List.length_singleton] at hi he ⊢
   have:=hp (j+1) (by simpa using hj) i (by omega)
   rw[show pre.length+(j+1)=pre.length+1+j by omega] at this
   exact this he) hy hf
  rw[show Zdm many ((n:Int)::s)=Zdm (max many (n+1)) s by rw[Zdm,Int.toNat_natCast]]
  exact ih
theorem Z00 {t:PeW} {p:List Int} (hl:p.length=t.ments.length) (hr:rgB 0 p=true) (hp:∀j,j<p.length→∀i,i<j→pAt p i=pAt p j→whyN t i j=0) (hy:(Zbr t p).isSome=true) (hf:Zb2 t p=true):(p,Zdm 0 p)∈Zb7 t:=by
 unfold Zb7
 rw[←hl]
 have:=Zmp t p [] 0 hr (fun j hj i hi he=>by
  simp only[List.length_nil,Nat.zero_add,List.nil_append] at hi he ⊢
  exact hp j hj i hi he) hy hf
 simpa using this
theorem Zmu {t:PeW} {p:List Int} {n:Nat}:∀k,(∀i,i<k→pAt p i≠(n:Int))→Zco t p n k=0
 |0,_=>rfl
 |k+1,h=>by
  rw[Zco,if_neg (h k (by omega))]
  exact Zmu k fun i hi=>h i (by omega)
theorem Zxa {t:PeW} {p:List Int} (h:∀n,n<6→Zco t p n t.ments.length=0∨Zc0 t (Zco t p n t.ments.length)=true):Zev t p=true:=by
 unfold Zev Zqr
 rw[List.all_eq_true]
 intro n hn
 rcases h n (List.mem_range.1 hn) with h|h<;>simp[h]
end
section
theorem Zo2 {t:PeW} {p q:List Int} (h:∀i,pAt p i=pAt q i):∀k,Zbd t p k=Zbd t q k
 |0=>rfl
 |k+1=>by rw[Zbd,Zbd,Zo2 h k,h]
theorem Zpo {t:PeW} {p q:List Int} (h:∀i,pAt p i=pAt q i) (b:List (Int × Int)):∀k,Za4 t p b k=Za4 t q b k
 |0=>rfl
 |k+1=>by rw[Za4,Za4,Zpo h b k,h,h]
theorem Zpr {t:PeW} {p q:List Int} (h:∀i,pAt p i=pAt q i):∀f b,Zhc t p f b=Zhc t q f b
 |0,_=>rfl
 |f+1,b=>by rw[Zhc,Zhc,Zpo h,Zpr h f]
theorem Zpv {t:PeW} {p q:List Int} (h:∀i,pAt p i=pAt q i):Zbr t p=Zbr t q:=by
 unfold Zbr
 rw[Zo2 h,Zpr h]
theorem Zlk {t:PeW} {p q:List Int} (h:∀i,pAt p i=pAt q i):∀k,Zbp t p k=Zbp t q k
 |0=>rfl
 |k+1=>by simp only[Zbp,Zlk h k,h]
theorem Zq5 {t:PeW} {p q:List Int} (h:∀i,pAt p i=pAt q i):Zb2 t p=Zb2 t q:=by unfold Zb2;rw[Zlk h]
theorem Zo4 {t:PeW} {p q:List Int} (h:∀i,pAt p i=pAt q i) (n:Nat):∀k,Zco t p n k=Zco t q n k
 |0=>rfl
 |k+1=>by rw[Zco,Zco,Zo4 h n k,h]
theorem Zx0 {t:PeW} {p q:List Int} (h:∀i,pAt p i=pAt q i):Zev t p=Zev t q:=by unfold Zev Zqr;simp only[Zo4 h]
theorem Z05 {t:PeW} {p q:List Int} (but:Nat) (h:∀i,pAt p i=pAt q i):Zhk t but p=Zhk t but q:=by unfold Zhk Zeu tieB;simp only[h]
end
section
def padP (p:List Int):List Int:=p++List.replicate (6-p.length) 0
theorem Zwi {p:List Int} (h:p.length≤6):(padP p).length=6:=by unfold padP;rw[List.length_append,List.length_replicate];omega
theorem Zdq (p:List Int) (i:Nat):pAt (padP p) i=pAt p i:=by
 unfold pAt padP
 by_cases h:i<p.length
 ·rw[List.getElem?_append_left h]
 ·rw[List.getElem?_append_right (by omega),List.getElem?_eq_none (by omega:p.length≤i)]
  by_cases g:i-p.length<6-p.length
  ·rw[List.getElem?_replicate,if_pos g];rfl
  ·rw[List.getElem?_replicate,if_neg g]
theorem Z44 {p q:List Int} (h:p.length=q.length) (e:∀i,pAt p i=pAt q i):p=q:=by
 refine List.ext_getElem h fun i h1 h2=>?_
 have:=e i
 unfold pAt at this
 rwa [List.getElem?_eq_getElem h1,List.getElem?_eq_getElem h2,Option.getD_some,Option.getD_some] at this
theorem Z5y {p:List Int} {x:Int} {i:Nat} (h:i<p.length):pAt (p++[x]) i=pAt p i:=Zqq h
theorem Zqb (p:List Int) (x:Int):pAt (p++[x]) p.length=x:=by unfold pAt;simp
theorem Zwg (p:List Int) (i:Nat):pAt (p++[0]) i=pAt p i:=by
 unfold pAt
 by_cases h:i<p.length
 ·rw[List.getElem?_append_left h]
 ·rw[List.getElem?_append_right (by omega),List.getElem?_eq_none (by omega:p.length≤i)]
  by_cases g:i-p.length=0
  ·rw[g];rfl
  ·rw[List.getElem?_eq_none (by simp;omega)]
theorem Zs6 (p:List Int) (x y:Int) (i:Nat):pAt ((padP (p++[x])).set p.length y) i=pAt (p++[y]) i:=by
 have hl:p.length<(padP (p++[x])).length:=by unfold padP;simp
 unfold pAt
 rw[List.getElem?_set]
 by_cases e:p.length=i
 ·subst e
  rw[if_pos rfl,if_pos hl]
  simp
 ·rw[if_neg e]
  have h1:=Zdq (p++[x]) i
  unfold pAt at h1
  rw[h1]
  by_cases g:i<p.length
  ·rw[List.getElem?_append_left g,List.getElem?_append_left g]
  ·rw[List.getElem?_eq_none (by simp;omega),List.getElem?_eq_none (by simp;omega)]
def Za5 (t:PeW) (k:Nat) (pre:List Int) (many n:Nat):List (List Int × Nat):=(List.range n).flatMap fun n=>if Ziv t pre n=true then Zbi t k (pre++[(n:Int)]) (max many (n+1)) else []
theorem Zg9 (t:PeW) (k:Nat) (pre:List Int) (many:Nat):Zbi t (k+1) pre many=Za5 t k pre many (many+1):=rfl
theorem Zew (t:PeW) (k:Nat) (pre:List Int) (many n:Nat):Za5 t k pre many (n+1)=Za5 t k pre many n++if Ziv t pre n=true then Zbi t k (pre++[(n:Int)]) (max many (n+1)) else []:=by
 unfold Za5;rw[List.range_succ,List.flatMap_append];simp
theorem Zn4 {t:PeW} {k:Nat} {pre:List Int} {many n:Nat} (h:Ziv t pre n=false):Za5 t k pre many (n+1)=Za5 t k pre many n:=by
 rw[Zew,if_neg (by rw[h];decide),List.append_nil]
theorem Zly {t:PeW} {k:Nat} {pre:List Int} {many n:Nat} (h:Ziv t pre n=true):Za5 t k pre many (n+1)=Za5 t k pre many n++Zbi t k (pre++[(n:Int)]) (max many (n+1)):=by
 rw[Zew,if_pos h]
theorem Zln {t:PeW} {k:Nat} {pre:List Int} {many:Nat}:∀d n,Za5 t k pre many n <+: Za5 t k pre many (n+d)
 |0,n=>List.prefix_refl _
 |d+1,n=>by
  rw[←Nat.add_assoc,Zew]
  exact(Zln d n).trans (List.prefix_append _ _)
theorem Zuj {t:PeW} {k:Nat} {pre:List Int} {many n:Nat} (h:n≤many+1):Za5 t k pre many n <+: Zbi t (k+1) pre many:=by
 rw[Zg9]
 obtain⟨d,hd⟩:∃d,many+1=n+d:=⟨many+1-n,by omega⟩
 rw[hd]
 exact Zln d n
def Zlx (t:PeW) (pre:List Int) (n k:Nat):Bool:=(List.range k).all fun k=>!decide (pAt pre k=(n:Int))||whyN t k pre.length==0
theorem Z5m (t:PeW) (pre:List Int) (n:Nat):Zlx t pre n pre.length=Ziv t pre n:=rfl
theorem Z2n (t:PeW) (pre:List Int) (n:Nat):Zlx t pre n 0=true:=rfl
theorem Z3n (t:PeW) (pre:List Int) (n k:Nat):Zlx t pre n (k+1)=(Zlx t pre n k&&(!decide (pAt pre k=(n:Int))||whyN t k pre.length==0)):=by
 unfold Zlx;rw[List.range_succ,List.all_append];simp
theorem Z5a {t:PeW} {pre:List Int} {n k:Nat} (hk:k<pre.length) (h1:pAt pre k=(n:Int)) (h2:whyN t k pre.length≠0):Ziv t pre n=false:=by
 unfold Ziv
 rw[List.all_eq_false]
 refine⟨k,List.mem_range.2 hk,?_⟩
 simp[h1,h2]
theorem Zli {t:PeW}:∀(k:Nat) (pre:List Int) (many:Nat) (x:List Int × Nat),x∈Zbi t k pre many→∃s,x.1=pre++s∧s.length=k∧x.2=Zdm many s∧∀y∈s,0≤y∧y<x.2
 |0,pre,many,x,hx=>by
  rw[Zbi] at hx
  split at hx
  ·have:x=(pre,many):=by simpa using hx
   subst this
   exact⟨[],by simp,rfl,rfl,fun y hy=>by cases hy⟩
  ·cases hx
 |k+1,pre,many,x,hx=>by
  rw[Zbi,List.mem_flatMap] at hx
  obtain⟨n,hn,hx⟩:=hx
  split at hx
  ·obtain⟨s,h1,h2,h3,h4⟩:=Zli k _ _ x hx
   refine⟨(n:Int)::s,by rw[h1];simp,by simp[h2],by rw[h3];simp[Zdm],fun y hy=>?_⟩
   have hge:∀(s:List Int) (m:Nat),m≤Zdm m s:=by
    intro s
    induction s with
    |nil=>intro m;exact Nat.le_refl _
    |cons a s ih=>intro m;rw[Zdm];exact Nat.le_trans (by omega) (ih _)
   rcases List.mem_cons.1 hy with rfl|hy
   ·have:=hge s (max many (n+1))
    rw[h3]
    omega
   ·exact h4 y hy
  ·cases hx
theorem Zmi:∀(s:List Int) (m:Nat),rgB m s=true→Zdm m s≤m+s.length
 |[],m,_=>by simp[Zdm]
 |x::s,m,h=>by
  rw[rgB,Bool.and_eq_true,decide_eq_true_eq] at h
  rw[Zdm,List.length_cons]
  have:=Zmi s _ h.2
  omega
theorem Zk6 {t:PeW}:∀(k:Nat) (pre:List Int) (many:Nat) (x:List Int × Nat),x∈Zbi t k pre many→∃s,x.1=pre++s∧rgB many s=true∧s.length=k∧x.2=Zdm many s
 |0,pre,many,x,hx=>by
  rw[Zbi] at hx
  split at hx
  ·have:x=(pre,many):=by simpa using hx
   subst this
   exact⟨[],by simp,rfl,rfl,rfl⟩
  ·cases hx
 |k+1,pre,many,x,hx=>by
  rw[Zbi,List.mem_flatMap] at hx
  obtain⟨n,hn,hx⟩:=hx
  have hn:=List.mem_range.1 hn
  split at hx
  ·obtain⟨s,h1,h2,h3,h4⟩:=Zk6 k _ _ x hx
   refine⟨(n:Int)::s,by rw[h1];simp,?_,by simp[h3],by rw[h4];simp[Zdm]⟩
   rw[rgB,Bool.and_eq_true,decide_eq_true_eq,Int.toNat_natCast]
   exact⟨by omega,h2⟩
  ·cases hx
structure TruOk (t:PeW) (x:List Int × Nat):Prop where
 len:x.1.length=t.ments.length
 many:x.2≤t.ments.length
 at_:∀i,0≤pAt x.1 i∧(i<t.ments.length→pAt x.1 i<x.2)
 zero:(∀i,pAt x.1 i=0)→x.2≤1
theorem Zfc {t:PeW} {x:List Int × Nat} (hx:x∈Zb7 t):TruOk t x:=by
 obtain⟨s,h1,h2,h3,h4⟩:=Zk6 _ _ _ x hx
 obtain⟨s',g1,g2,g3,g4⟩:=Zli _ _ _ x hx
 rw[List.nil_append] at h1 g1
 have hl:=Zmi _ _ h2
 have hbnd:∀i,i<x.1.length→0≤pAt x.1 i∧pAt x.1 i<x.2:=fun i hi=>by
  unfold pAt
  rw[List.getElem?_eq_getElem hi,Option.getD_some]
  exact g4 _ (by rw[←g1];exact List.getElem_mem hi)
 refine⟨by rw[h1,h3],by rw[h4];omega,fun i=>?_,fun hz=>?_⟩
 ·by_cases hi:i<x.1.length
  ·exact⟨(hbnd i hi).1,fun _=>(hbnd i hi).2⟩
  ·have:pAt x.1 i=0:=by unfold pAt;rw[List.getElem?_eq_none (by omega)];rfl
   rw[this]
   exact⟨Int.le_refl _,fun h=>absurd h (by rw[h1,h3] at hi;exact hi)⟩
 ·rw[h4]
  have key:∀(s:List Int) (m:Nat),m≤1→(∀y∈s,y=0)→Zdm m s≤1:=by
   intro s
   induction s with
   |nil=>intro m h _;exact h
   |cons a s ih=>
    intro m h hy
    rw[Zdm]
    refine ih _ ?_ fun y h=>hy y (List.mem_cons_of_mem _ h)
    rw[hy a (List.mem_cons_self ..)]
    simp
    omega
  refine key s 0 (by omega) fun y hy=>?_
  rw[←h1] at hy
  obtain⟨i,hi,rfl⟩:=List.getElem_of_mem hy
  have:=hz i
  unfold pAt at this
  rwa [List.getElem?_eq_getElem hi,Option.getD_some] at this
theorem Zkn {t:PeW}:∀(k:Nat) (pre:List Int) (many:Nat),((Zbi t k pre many).map Prod.fst).Nodup
 |0,pre,many=>by
  rw[Zbi]
  split<;>simp
 |k+1,pre,many=>by
  rw[Zg9]
  have key:∀n,((Za5 t k pre many n).map Prod.fst).Nodup∧∀x∈Za5 t k pre many n,pAt x.1 pre.length<n:=by
   intro n
   induction n with
   |zero=>exact⟨by simp[Za5],fun x hx=>by simp[Za5] at hx⟩
   |succ n ih=>
    obtain⟨ih1,ih2⟩:=ih
    cases hf:Ziv t pre n
    ·rw[Zn4 hf]
     exact⟨ih1,fun x hx=>by have:=ih2 x hx;omega⟩
    ·rw[Zly hf]
     have hat:∀x∈Zbi t k (pre++[(n:Int)]) (max many (n+1)),pAt x.1 pre.length=(n:Int):=fun x hx=>by
      obtain⟨s,h1,_⟩:=Zk6 _ _ _ x hx
      rw[h1]
      unfold pAt
      simp
     refine⟨?_,fun x hx=>?_⟩
     ·rw[List.map_append,List.nodup_append]
      refine⟨ih1,Zkn k _ _,fun a ha b hb e=>?_⟩
      obtain⟨x,hx,rfl⟩:=List.mem_map.1 ha
      obtain⟨y,hy,rfl⟩:=List.mem_map.1 hb
      have h1:=ih2 x hx
      have h2:=hat y hy
      rw[e] at h1
      omega
     ·rcases List.mem_append.1 hx with hx|hx
      ·have:=ih2 x hx;omega
      ·have:=hat x hx;omega
  exact(key _).1
theorem Zsu {t:PeW} {pre:List (List Int × Nat)} {x y:List Int × Nat} (h:pre++[x] <+: Zb7 t) (hy:y∈pre):¬∀i,pAt x.1 i=pAt y.1 i:=by
 intro he
 have hn:((Zb7 t).map Prod.fst).Nodup:=Zkn _ _ _
 have hx1:x∈Zb7 t:=h.subset (by simp)
 have hy1:y∈Zb7 t:=h.subset (by simp[hy])
 have e:=Z44 (by rw[(Zfc hx1).len,(Zfc hy1).len]) he
 obtain⟨r,hr⟩:=h
 rw[←hr,List.map_append,List.map_append,List.append_assoc,List.nodup_append] at hn
 refine hn.2.2 y.1 (List.mem_map.2 ⟨y,hy,rfl⟩) x.1 (by simp) e.symm
end
section
open Go Go.RowKit
def Zen (w W:World):Prop:=w.heap.size≤W.heap.size∧∀a v,w.cell? a=some v→W.cell? a=some v
theorem Zen.refl (w:World):Zen w w:=⟨Nat.le_refl _,fun _ _ h=>h⟩
theorem Zen.trans {a b c:World} (h:Zen a b) (k:Zen b c):Zen a c:=⟨Nat.le_trans h.1 k.1,fun x v e=>k.2 x v (h.2 x v e)⟩
theorem Zen.of_below {w W:World} (h:Below w.heap.size w W):Zen w W:=⟨h.size,fun a v e=>(h.cell (p:=a) (Zag e)).trans e⟩
theorem Zen.of_grown {w W:World} {b:Nat} {es:Array MapEntry} {c:Nat} (h:w.grownBy W (some b)) (hb:w.heap[b]?=some (.map es c)):Zen w W:=
 ⟨h.size,fun a v e=>h.cell e (fun he=>by cases he;simp[World.cell?,hb] at e)⟩
theorem Zgs.keep {w W:World} {a:Option Addr} {l:List ByteArray} (h:Zgs w a l) (hb:Zen w W):Zgs W a l:=fun i hi=>by
 obtain⟨b,off,e,hlt,h1⟩:=h i hi
 exact⟨b,off,e,Nat.lt_of_lt_of_le hlt hb.1,hb.2 _ _ h1⟩
theorem Zaw.keep {w W:World} {a:Option Addr} {l:List Int} (h:Zaw w a l) (hb:Zen w W):Zaw W a l:=fun i hi=>by
 obtain⟨b,off,e,hlt,h1⟩:=h i hi
 exact⟨b,off,e,Nat.lt_of_lt_of_le hlt hb.1,hb.2 _ _ h1⟩
theorem Ze7.keep {w W:World} {v:Value} {l:List Int} (h:Ze7 w v l) (hb:Zen w W):Ze7 W v l:=by
 obtain⟨a,c,e,h1,h3⟩:=h;exact⟨a,c,e,h1,h3.keep hb⟩
end
section
open Go Go.RowKit
def Za1 (w:World) (a:Option Addr) (l:List EaL):Prop:=
 ∀i (_:i<l.length),∃b off,a=some ⟨b,off,none⟩∧b<w.heap.size∧w.cell? ⟨b,off+i*3,none⟩=some (.int .u8 l[i].letter)∧w.cell? ⟨b,off+i*3+1,none⟩=some (.int .i64 l[i].sounds)∧w.cell? ⟨b,off+i*3+2,none⟩=some (.bool l[i].silent)
theorem Za1.keep {w W:World} {a:Option Addr} {l:List EaL} (h:Za1 w a l) (hb:Zen w W):Za1 W a l:=fun i hi=>by
 obtain⟨b,off,e,hlt,h0,h1,h2⟩:=h i hi
 exact⟨b,off,e,Nat.lt_of_lt_of_le hlt hb.1,hb.2 _ _ h0,hb.2 _ _ h1,hb.2 _ _ h2⟩
theorem Za1.mono {w W:World} {a:Option Addr} {l:List EaL} (h:Za1 w a l) (hb:Below w.heap.size w W):Za1 W a l:=h.keep (.of_below hb)
theorem Za1.take {w:World} {a:Option Addr} {l:List EaL} (h:Za1 w a l) (k:Nat):Za1 w a (l.take k):=fun i hi=>by
 rw[List.length_take] at hi
 have hg:(l.take k)[i]'(by rw[List.length_take];omega)=l[i]'(by omega):=List.getElem_take ..
 rw[hg]
 exact h i (by omega)
def Zcf (w:World) (a:Option Addr) (l:List EaA):Prop:=
 ∀i (_:i<l.length),∃b off,a=some ⟨b,off,none⟩∧b<w.heap.size∧w.cell? ⟨b,off+i*2,none⟩=some (.string l[i].name)∧∃al cl,w.cell? ⟨b,off+i*2+1,none⟩=some (.slice al l[i].letters.length cl)∧SlOk al l[i].letters.length cl∧Za1 w al l[i].letters
theorem Zcf.keep {w W:World} {a:Option Addr} {l:List EaA} (h:Zcf w a l) (hb:Zen w W):Zcf W a l:=fun i hi=>by
 obtain⟨b,off,e,hlt,h0,al,cl,h1,h2,h3⟩:=h i hi
 exact⟨b,off,e,Nat.lt_of_lt_of_le hlt hb.1,hb.2 _ _ h0,al,cl,hb.2 _ _ h1,h2,h3.keep hb⟩
theorem Zcf.mono {w W:World} {a:Option Addr} {l:List EaA} (h:Zcf w a l) (hb:Below w.heap.size w W):Zcf W a l:=h.keep (.of_below hb)
theorem Zcf.take {w:World} {a:Option Addr} {l:List EaA} (h:Zcf w a l) (k:Nat):Zcf w a (l.take k):=fun i hi=>by
 rw[List.length_take] at hi
 have hg:(l.take k)[i]'(by rw[List.length_take];omega)=l[i]'(by omega):=List.getElem_take ..
 rw[hg]
 exact h i (by omega)
def Zd2 (w:World) (a:Option Addr) (l:List EaS):Prop:=
 ∀i (_:i<l.length),∃b off,a=some ⟨b,off,none⟩∧b<w.heap.size∧w.cell? ⟨b,off+i*2,none⟩=some (.int .i64 l[i].alpha)∧w.cell? ⟨b,off+i*2+1,none⟩=some (.string l[i].text)
theorem Zd2.keep {w W:World} {a:Option Addr} {l:List EaS} (h:Zd2 w a l) (hb:Zen w W):Zd2 W a l:=fun i hi=>by
 obtain⟨b,off,e,hlt,h0,h1⟩:=h i hi
 exact⟨b,off,e,Nat.lt_of_lt_of_le hlt hb.1,hb.2 _ _ h0,hb.2 _ _ h1⟩
theorem Zd2.mono {w W:World} {a:Option Addr} {l:List EaS} (h:Zd2 w a l) (hb:Below w.heap.size w W):Zd2 W a l:=h.keep (.of_below hb)
structure BookC (w:World) (a1 a2:Option Addr) (k1 k2:Nat) (b:EaB):Prop where
 oka:SlOk a1 b.alphas.length k1
 oks:SlOk a2 b.spells.length k2
 alphas:Zcf w a1 b.alphas
 spells:Zd2 w a2 b.spells
 nsize:∀x∈b.alphas,x.name.size≤9223372036854775807
 tsize:∀x∈b.spells,x.text.size≤9223372036854775807
variable {w W:World} {a1 a2:Option Addr} {k1 k2:Nat} {b:EaB}
theorem BookC.keep (k:BookC w a1 a2 k1 k2 b) (hb:Zen w W):BookC W a1 a2 k1 k2 b:=⟨k.oka,k.oks,k.alphas.keep hb,k.spells.keep hb,k.nsize,k.tsize⟩
theorem BookC.mono (k:BookC w a1 a2 k1 k2 b) (hb:Below w.heap.size w W):BookC W a1 a2 k1 k2 b:=k.keep (.of_below hb)
@[reducible] def hrd (h:List Int) (i:Nat):Int:=h[i]?.getD 0
@[reducible] def Zb8 (h:List Int):Value:=.agg #[.int .i64 (h.length:Int),.int .i64 (hrd h 0),.int .i64 (hrd h 1),.int .i64 (hrd h 2),.int .i64 (hrd h 3),.int .i64 (hrd h 4)]
@[reducible] def Zar (h:List Int):Array Value:=#[.int .i64 (h.length:Int),.int .i64 (hrd h 0),.int .i64 (hrd h 1),.int .i64 (hrd h 2),.int .i64 (hrd h 3),.int .i64 (hrd h 4)]
end
section
open Go Go.RowKit
def Zb5 (w:World) (a:Option Addr) (l:List PeM):Prop:=
 ∀i (_:i<l.length),∃b off,a=some ⟨b,off,none⟩∧b<w.heap.size∧w.cell? ⟨b,off+i*5,none⟩=some (.int .i64 l[i].spell)∧w.cell? ⟨b,off+i*5+1,none⟩=some (.int .i64 l[i].vill)∧w.cell? ⟨b,off+i*5+2,none⟩=some (.int .i64 l[i].lo)∧w.cell? ⟨b,off+i*5+3,none⟩=some (.int .i64 l[i].hi)∧w.cell? ⟨b,off+i*5+4,none⟩=some (.int .i64 l[i].par)
theorem Zb5.keep {w W:World} {a:Option Addr} {l:List PeM} (h:Zb5 w a l) (hb:Zen w W):Zb5 W a l:=fun i hi=>by
 obtain⟨b,off,e,hlt,h0,h1,h2,h3,h4⟩:=h i hi
 exact⟨b,off,e,Nat.lt_of_lt_of_le hlt hb.1,hb.2 _ _ h0,hb.2 _ _ h1,hb.2 _ _ h2,hb.2 _ _ h3,hb.2 _ _ h4⟩
theorem Zb5.mono {w W:World} {a:Option Addr} {l:List PeM} (h:Zb5 w a l) (hb:Below w.heap.size w W):Zb5 W a l:=h.keep (.of_below hb)
theorem Zb5.nil (w:World) (a:Option Addr):Zb5 w a []:=fun i hi=>absurd hi (Nat.not_lt_zero i)
def Zby (w:World) (a:Option Addr) (l:List PeT):Prop:=
 ∀i (_:i<l.length),∃b off,a=some ⟨b,off,none⟩∧b<w.heap.size∧w.cell? ⟨b,off+i*3,none⟩=some (.int .i64 l[i].a)∧w.cell? ⟨b,off+i*3+1,none⟩=some (.int .i64 l[i].b)∧w.cell? ⟨b,off+i*3+2,none⟩=some (.bool l[i].same)
theorem Zby.keep {w W:World} {a:Option Addr} {l:List PeT} (h:Zby w a l) (hb:Zen w W):Zby W a l:=fun i hi=>by
 obtain⟨b,off,e,hlt,h0,h1,h2⟩:=h i hi
 exact⟨b,off,e,Nat.lt_of_lt_of_le hlt hb.1,hb.2 _ _ h0,hb.2 _ _ h1,hb.2 _ _ h2⟩
theorem Zby.mono {w W:World} {a:Option Addr} {l:List PeT} (h:Zby w a l) (hb:Below w.heap.size w W):Zby W a l:=h.keep (.of_below hb)
theorem Zby.nil (w:World) (a:Option Addr):Zby w a []:=fun i hi=>absurd hi (Nat.not_lt_zero i)
@[reducible] def Zqv (x:PeM):Value:=.agg #[.int .i64 x.spell,.int .i64 x.vill,.int .i64 x.lo,.int .i64 x.hi,.int .i64 x.par]
@[reducible] def Z62 (x:PeT):Value:=.agg #[.int .i64 x.a,.int .i64 x.b,.bool x.same]
structure TownC (w:World) (a1 a2 a3 a4:Option Addr) (k1 k2 k3 k4:Nat) (t:PeW):Prop where
 book:BookC w a1 a2 k1 k2 t.ear
 okm:SlOk a3 t.ments.length k3
 okt:SlOk a4 t.ties.length k4
 ments:Zb5 w a3 t.ments
 ties:Zby w a4 t.ties
variable {w W:World} {a1 a2 a3 a4:Option Addr} {k1 k2 k3 k4:Nat} {t:PeW}
theorem TownC.keep (k:TownC w a1 a2 a3 a4 k1 k2 k3 k4 t) (hb:Zen w W):TownC W a1 a2 a3 a4 k1 k2 k3 k4 t:=⟨k.book.keep hb,k.okm,k.okt,k.ments.keep hb,k.ties.keep hb⟩
theorem TownC.mono (k:TownC w a1 a2 a3 a4 k1 k2 k3 k4 t) (hb:Below w.heap.size w W):TownC W a1 a2 a3 a4 k1 k2 k3 k4 t:=k.keep (.of_below hb)
end
section
open Go Go.RowKit Go.ChangeMaps Go.MapKept
open Go.Maps (Keyed)
variable {P:Program} {k:TypeId} {w:World} {b r:Nat} {T rem:List (Value × Value)}
theorem MapV.lookup {t e:TypeId} (h:MapV w P k b T) (K:Keyed P k) (ht:P.underlying t=some (.map k e)) {key zero:Value} {kl:Lit} (hkey:keyOf P k key=some kl) (hz:(zeroValue e).run P w=.ok zero w):
  ((∀p∈T,p.1≠key)∧(Instr.lookup t (.map (some b)) key true).run P w=.ok (.tuple #[zero,.bool false]) w)∨∃v,(key,v)∈T∧(Instr.lookup t (.map (some b)) key true).run P w=.ok (.tuple #[v,.bool true]) w:=by
 obtain⟨es,clock,hb,hst,hk,rfl⟩:=h
 rcases K.find w hkey es.toList hk with⟨h1,h2⟩|⟨j,e0,h1,h2,h3⟩
 ·left
  refine⟨fun p hp=>?_,?_⟩
  ·obtain⟨e1,he1,rfl⟩:=List.mem_map.1 hp
   exact h2 e1 he1
  ·simp[Instr.lookup,run_underlying ht,MapKept.run_getObj_map hb,K.check w _ hkey,h1,hz,Result.andThen]
 ·right
  refine⟨e0.val,List.mem_map.2 ⟨e0,List.mem_of_getElem? h2,by rw[h3]⟩,?_⟩
  simp[Instr.lookup,run_underlying ht,MapKept.run_getObj_map hb,K.check w _ hkey,h1,Result.andThen]
theorem MapV.lookup_no {t e:TypeId} (h:MapV w P k b T) (K:Keyed P k) (ht:P.underlying t=some (.map k e)) {key zero:Value} {kl:Lit} (hkey:keyOf P k key=some kl) (hz:(zeroValue e).run P w=.ok zero w) (hn:∀p∈T,p.1≠key):
  (Instr.lookup t (.map (some b)) key true).run P w=.ok (.tuple #[zero,.bool false]) w:=by
 rcases h.lookup K ht hkey hz with⟨_,h1⟩|⟨v,h1,_⟩
 ·exact h1
 ·exact absurd rfl (hn _ h1)
theorem MapV.lookup_yes {t e:TypeId} (h:MapV w P k b T) (K:Keyed P k) (ht:P.underlying t=some (.map k e)) {key zero v:Value} {kl:Lit} (hkey:keyOf P k key=some kl) (hz:(zeroValue e).run P w=.ok zero w) (hn:∃p∈T,p.1=key) (hv:∀v',(key,v')∈T→v'=v):
  (Instr.lookup t (.map (some b)) key true).run P w=.ok (.tuple #[v,.bool true]) w:=by
 rcases h.lookup K ht hkey hz with⟨h1,_⟩|⟨v',h1,h2⟩
 ·obtain⟨p,hp,he⟩:=hn
  exact absurd he (h1 p hp)
 ·rw[hv v' h1] at h2;exact h2
end
section
open Go Go.RowKit
theorem Zac (w:World) (o:Obj) {n:Nat} (h:n=w.heap.size):(w.alloc o).heap[n]?=some o:=by subst h;exact heap_alloc_new w o
theorem Zdo {X V V':World} (h:Below X.heap.size X V) (h2:Below V.heap.size V V'):Below X.heap.size X V':=h.trans (h2.mono h.size)
theorem Zte {A B C:World} {bo:Nat} (h:A.grownBy B (some bo)) (k:B.grownBy C (some bo)):A.grownBy C (some bo):=h.andThen k (fun j e=>.inr (by simpa using e))
theorem Zrc {w A A':World} {row:Option Nat} {B:Nat} (h:w.grownBy A row) (hb:Below B A A') (hB:w.heap.size≤B):w.grownBy A' row:=
 ⟨hb.os.trans h.os,hb.tape.trans h.tape,hb.output.trans h.output,Nat.le_trans h.size hb.size,fun i hi hr=>(hb.block i (by omega)).trans (h.block i hi hr)⟩
end
end Go.Proofs.YtklconegomgjaaaGreat
