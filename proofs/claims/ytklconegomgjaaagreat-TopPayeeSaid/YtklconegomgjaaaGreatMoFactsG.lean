/- What is proved here: readings of Go slices in the model's memory (lists of ints, of strings, of lists of ints), that they last while memory only grows, and small closing lemmas. No condition. -/
import Derived.WalkKit
import Derived.WalkSpells
import Derived.WalkLawsBesides
import Derived.Lib.Hide
import Derived.Deep.QuietTactic
import Derived.BigQuiet
import Derived.Handy
import Derived.OrdersHeld
import Derived.PlainAid
import Derived.Maps.AppendAt
import Derived.Laws.AppendOwnNone
import Derived.Test.YtklconegomgjaaaGreatProg
set_option linter.all false
set_option maxRecDepth 100000
set_option maxHeartbeats 16000000
namespace Go.Proofs.YtklconegomgjaaaGreat
section
open Go Go.RowKit
theorem LH {p:Prop} (h:p):Hid p:=h
theorem frT:(∀(a:Act) (d:Nat) (v:Value),Act.put a (some d) v={a with tmps:=a.tmps.setIfInBounds d v})∧(∀(a:Act) (v:Value),Act.put a none v=a)∧(∀{α:Type} (l:List α) (i:Nat) (x:α),l.toArray.setIfInBounds i x=(l.set i x).toArray)∧(∀{α:Type} (y x:α) (l:List α) (n:Nat),(y::l).set (n+1) x=y::l.set n x)∧(∀{α:Type} (y x:α) (l:List α),(y::l).set 0 x=x::l)∧(∀{α:Type} (l:List α) (i:Nat) (h:i<l.toArray.size),l.toArray[i]=l[i]'(by simpa using h))∧(∀{α:Type} (y:α) (l:List α) (n:Nat) (h:n+1<(y::l).length),(y::l)[n+1]=l[n]'(by simpa using h))∧(∀{α:Type} (y:α) (l:List α) (h:0<(y::l).length),(y::l)[0]=y):=
 ⟨fun _ _ _=>rfl,fun _ _=>rfl,fun _ _ _=>List.setIfInBounds_toArray ..,fun _ _ _ _=>rfl,fun _ _ _=>rfl,fun _ _ _=>rfl,fun _ _ _ _=>rfl,fun _ _ _=>rfl⟩
section
variable {P:Program} {ops:Array Oper} {Q:Exit→Act→World→Prop} {md:Region.Mode} {S:World→Prop}
theorem tkH (i:Nat) {oi:Oper} {v:Value} {g:Nat} {listed:Array Bool} {a:Act} {w:World} (h:wpAnyH P md ops Q S g (listed.setIfInBounds i true) (a.put oi.dst v) w) (hi:ops[i]?=some oi:=by rfl) (hb:(Region.noSelect ops&&Region.free md ops listed i&&(Region.ready md ops listed).contains i&&Region.wanted oi (yielded ops a.tmps))=true:=by kernel_rfl)
  (hQ:∀c a w,Q (.panic c) (a.put oi.dst v) w→Q (.panic c) a w:=by exact fun _ _ _ h=>h) (hy:∀w,S w→(execOp a.eval oi).run P w=.ok (.value v) w:=by (intro w h;(try dsimp only at h);go_simp;first|done|with_reducible rfl)) (hS:S w:=by assumption):wpAnyH P md ops Q S (g+1) listed a w:=by
 simp only[Bool.and_eq_true] at hb
 exact wpAnyH_take hi hb.1.1.1 hb.1.1.2 hb.1.2 hQ (.inl ⟨hb.2,hy⟩) hS h
theorem tkA (i:Nat) {oi:Oper} {v:Value} {g:Nat} {listed:Array Bool} {a:Act} {w:World} (h:wpAny P md ops Q g (listed.setIfInBounds i true) (a.put oi.dst v) w) (hi:ops[i]?=some oi:=by rfl) (hb:(Region.noSelect ops&&Region.free md ops listed i&&(Region.ready md ops listed).contains i&&Region.wanted oi (yielded ops a.tmps))=true:=by kernel_rfl)
  (hQ:∀c a w,Q (.panic c) (a.put oi.dst v) w→Q (.panic c) a w:=by exact fun _ _ _ h=>h) (hy:∀w,(execOp a.eval oi).run P w=.ok (.value v) w:=by (intro w;go_simp;first|done|with_reducible rfl)):wpAny P md ops Q (g+1) listed a w:=by
 simp only[Bool.and_eq_true] at hb
 exact wpAny_take hi hb.1.1.1 hb.1.1.2 hb.1.2 hQ (.inl ⟨hb.2,hy⟩) h
theorem skA (i:Nat) {oi:Oper} {g:Nat} {listed:Array Bool} {a:Act} {w:World} (h:wpAny P md ops Q g (listed.setIfInBounds i true) (a.put oi.dst undef) w) (hi:ops[i]?=some oi:=by rfl) (hb:(Region.noSelect ops&&Region.free md ops listed i&&(Region.ready md ops listed).contains i&&!Region.wanted oi (yielded ops a.tmps))=true:=by kernel_rfl)
  (hQ:∀c a w,Q (.panic c) (a.put oi.dst undef) w→Q (.panic c) a w:=by exact fun _ _ _ h=>h):wpAny P md ops Q (g+1) listed a w:=by
 simp only[Bool.and_eq_true,Bool.not_eq_true'] at hb
 exact wpAny_take hi hb.1.1.1 hb.1.1.2 hb.1.2 hQ (.inr ⟨hb.2,rfl⟩) h
theorem skH (i:Nat) {oi:Oper} {g:Nat} {listed:Array Bool} {a:Act} {w:World} (h:wpAnyH P md ops Q S g (listed.setIfInBounds i true) (a.put oi.dst undef) w) (hi:ops[i]?=some oi:=by rfl) (hb:(Region.noSelect ops&&Region.free md ops listed i&&(Region.ready md ops listed).contains i&&!Region.wanted oi (yielded ops a.tmps))=true:=by kernel_rfl)
  (hQ:∀c a w,Q (.panic c) (a.put oi.dst undef) w→Q (.panic c) a w:=by exact fun _ _ _ h=>h) (hS:S w:=by assumption):wpAnyH P md ops Q S (g+1) listed a w:=by
 simp only[Bool.and_eq_true,Bool.not_eq_true'] at hb
 exact wpAnyH_take hi hb.1.1.1 hb.1.1.2 hb.1.2 hQ (.inr ⟨hb.2,rfl⟩) hS h
end
theorem Zaq {a b:Bool} (h:a=b):Ending.returned (.bool a)=.returned (.bool b):=by rw[h]
theorem Za7 {k:IntKind} {a b:Int} (h:a=b):Ending.returned (.int k a)=.returned (.int k b):=by rw[h]
theorem Zw4 {a b:Bool} (h:a=b):Value.bool a=.bool b:=by rw[h]
theorem Z88 {k:IntKind} {a b:Int} (h:a=b):Value.int k a=.int k b:=by rw[h]
theorem Zse {a b:Nat} (h:a=b):((a:Int)==(b:Int))=true:=by simp[h]
theorem Zoa {a b:Nat} (h:a≠b):((a:Int)==(b:Int))=false:=by simp;omega
theorem Qaa {a b:Nat} (h:a≠b):((a:Int) != (b:Int))=true:=by simp;omega
theorem Z98 {a b:Nat} (h:a=b):((a:Int) != (b:Int))=false:=by simp[h]
theorem Zdv {a b:Int} (h:a=b):(a==b)=true:=by simp[h]
theorem Zc4 {a b:Int} (h:a≠b):(a==b)=false:=by simp;omega
theorem Zcp {a b:Int} (h:a≠b):(a != b)=true:=by simp;omega
theorem Zdf {a b:Int} (h:a=b):(a != b)=false:=by simp[h]
theorem Zwl (x y:ByteArray):(x.toList==y.toList)=decide (x=y):=by
 rw[Bool.eq_iff_iff]
 simp only[beq_iff_eq,decide_eq_true_eq]
 constructor
 ·intro h
  rw[ByteArray.toList_eq,ByteArray.toList_eq] at h
  obtain⟨⟨a⟩⟩:=x
  obtain⟨⟨b⟩⟩:=y
  simp at h
  rw[h]
 ·rintro rfl
  rfl
theorem Z8i {x y:ByteArray} (h:x=y):(x.toList==y.toList)=true:=by rw[Zwl];simp[h]
theorem Z75 {x y:ByteArray} (h:x≠y):(x.toList==y.toList)=false:=by rw[Zwl];simp[h]
theorem Zvh (s:ByteArray) (pos:Nat) (h:pos<s.size) (ha:128≤(s[pos]'h).toNat):128≤(Utf8.decode s pos).1:=by
 have e:s.get! (pos+0)=s[pos]'h:=by
  show s.get! pos=_
  simp[ByteArray.get!,getElem!_pos,h]
  rfl
 simp only[Utf8.decode,e,Utf8.runeError]
 rw[if_neg (by omega)]
 repeat' split
 all_goals first|(simp only[ge_iff_le];omega)|(rename_i hh;simp only[Bool.and_eq_true,decide_eq_true_eq,ge_iff_le] at hh;simp only;omega)|(simp only;omega)
theorem Zkw (w:World) (q:Nat) (a:Addr):(w.drewN q).cell? a=w.cell? a:=by simp
theorem Zan {B:Nat} {w w':World} (h:Below B w w') (q:Nat):Below B w (w'.drewN q):=⟨h.os,h.tape,h.output,h.size,h.block⟩
theorem Zd7 (B:Nat) (w:World) (q:Nat):Below B w (w.drewN q):=Zan (Below.refl B w) q
def SlOk (a:Option Addr) (n c:Nat):Prop:=n≤c∧c≤9223372036854775807∧(a=none→c=0)
theorem SlOk.len {a:Option Addr} {n c:Nat} (h:SlOk a n c):n≤9223372036854775807:=Nat.le_trans h.1 h.2.1
def Zaw (w:World) (a:Option Addr) (l:List Int):Prop:=
 ∀i (_:i<l.length),∃b off,a=some ⟨b,off,none⟩∧b<w.heap.size∧w.cell? ⟨b,off+i,none⟩=some (.int .i64 l[i])
def Zgs (w:World) (a:Option Addr) (l:List ByteArray):Prop:=
 ∀i (_:i<l.length),∃b off,a=some ⟨b,off,none⟩∧b<w.heap.size∧w.cell? ⟨b,off+i,none⟩=some (.string l[i])
def Zob (w:World) (a:Option Addr) (L:List (List Int)):Prop:=
 ∀i (_:i<L.length),∃b off a' c',a=some ⟨b,off,none⟩∧b<w.heap.size∧w.cell? ⟨b,off+i,none⟩=some (.slice a' L[i].length c')∧SlOk a' L[i].length c'∧Zaw w a' L[i]
theorem Zag {w:World} {a:Addr} {v:Value} (h:w.cell? a=some v):a.block<w.heap.size:=World.block_lt_of_cell? w a h
theorem Zab {w W:World} (hb:Below w.heap.size w W) {b off:Nat} {v:Value} (h:w.cell? ⟨b,off,none⟩=some v):W.cell? ⟨b,off,none⟩=some v:=
 (hb.cell (p:=⟨b,off,none⟩) (Zag h)).trans h
theorem Zaw.mono {w W:World} {a:Option Addr} {l:List Int} (h:Zaw w a l) (hb:Below w.heap.size w W):Zaw W a l:=fun i hi=>by
 obtain⟨b,off,e,hlt,hc⟩:=h i hi
 exact⟨b,off,e,Nat.lt_of_lt_of_le hlt hb.size,Zab hb hc⟩
theorem Zgs.mono {w W:World} {a:Option Addr} {l:List ByteArray} (h:Zgs w a l) (hb:Below w.heap.size w W):Zgs W a l:=fun i hi=>by
 obtain⟨b,off,e,hlt,hc⟩:=h i hi
 exact⟨b,off,e,Nat.lt_of_lt_of_le hlt hb.size,Zab hb hc⟩
theorem Zob.mono {w W:World} {a:Option Addr} {L:List (List Int)} (h:Zob w a L) (hb:Below w.heap.size w W):Zob W a L:=fun i hi=>by
 obtain⟨b,off,a',c',e,hlt,hc,h1,h3⟩:=h i hi
 exact⟨b,off,a',c',e,Nat.lt_of_lt_of_le hlt hb.size,Zab hb hc,h1,h3.mono hb⟩
theorem Zaw.nil (w:World) (a:Option Addr):Zaw w a []:=fun i hi=>absurd hi (Nat.not_lt_zero i)
theorem Zgs.nil (w:World) (a:Option Addr):Zgs w a []:=fun i hi=>absurd hi (Nat.not_lt_zero i)
theorem Zob.nil (w:World) (a:Option Addr):Zob w a []:=fun i hi=>absurd hi (Nat.not_lt_zero i)
theorem Zgs.take {w:World} {a:Option Addr} {l:List ByteArray} (h:Zgs w a l) (k:Nat):Zgs w a (l.take k):=fun i hi=>by
 have hi':i<l.length:=by simp at hi;omega
 obtain⟨b,off,e,hlt,hc⟩:=h i hi'
 exact⟨b,off,e,hlt,by rw[hc];simp⟩
def Ze7 (w:World) (v:Value) (l:List Int):Prop:=∃a c,v=.slice a l.length c∧SlOk a l.length c∧Zaw w a l
def Zyu (w:World) (v:Value) (L:List (List Int)):Prop:=∃a c,v=.slice a L.length c∧SlOk a L.length c∧Zob w a L
theorem Ze7.mono {w W:World} {v:Value} {l:List Int} (h:Ze7 w v l) (hb:Below w.heap.size w W):Ze7 W v l:=by
 obtain⟨a,c,e,h1,h3⟩:=h;exact⟨a,c,e,h1,h3.mono hb⟩
theorem Zyu.mono {w W:World} {v:Value} {L:List (List Int)} (h:Zyu w v L) (hb:Below w.heap.size w W):Zyu W v L:=by
 obtain⟨a,c,e,h1,h3⟩:=h;exact⟨a,c,e,h1,h3.mono hb⟩
theorem Zp1 {w:World} {base:Nat} {e:TypeId} {g cap n:Nat} {l:List Int} {xs:List Value} (h:w.ownsRow base e 1 (.slice (some ⟨g,0,none⟩) n cap) n xs) (hx:xs=l.map (Value.int .i64)):
  n=l.length∧Zaw w (some ⟨g,0,none⟩) l∧SlOk (some ⟨g,0,none⟩) l.length cap∧base≤g∧g<w.heap.size:=by
 subst hx
 have hn:n=l.length:=by have:=h.1;simp at this;omega
 subst hn
 have hm:maxLen=9223372036854775807:=rfl
 rcases h.2 with⟨hv,_⟩|⟨g',cap',cur,hv,hb,hg,h1,h2,h3,h4⟩
 ·cases hv
 ·cases hv
  refine⟨rfl,fun i hi=>⟨g,0,rfl,(Array.getElem?_eq_some_iff.1 hg).1,?_⟩,⟨h1,by omega,fun h=>by cases h⟩,hb,(Array.getElem?_eq_some_iff.1 hg).1⟩
  have:=h.cells (g:=g) rfl i (.int .i64 l[i]) (by simp[hi])
  simpa[Addr.add_lit] using this
theorem Zaj {w W:World} {cs:Array Value} {t:TypeId} (h:Below (w.heap.size+1) (w.alloc (.cells cs t)) W) (j:Nat) (v:Value) (hj:cs[j]?=some v):W.cell? ⟨w.heap.size,j,none⟩=some v:=by
 rw[h.cell (p:=⟨w.heap.size,j,none⟩) (by simp)]
 simp only[World.cell?,heap_alloc_new]
 simpa using hj
theorem Zaf {w W:World} {o:Obj} (h:Below (w.heap.size+1) (w.alloc o) W):Below w.heap.size w W:=
 ((Below.refl _ w).alloc (Nat.le_refl _) o).trans (h.mono (by omega))
theorem Zai {w W:World} {o:Obj} (h:Below (w.heap.size+1) (w.alloc o) W):w.heap.size<W.heap.size:=by
 have:=h.size
 simp at this
 omega
theorem Zax {w W:World} {v0 v1 v2 v3:Value} {t:TypeId} (h:Below (w.heap.size+1) (w.alloc (.cells #[v0,v1,v2,v3] t)) W):
  W.cell? ⟨w.heap.size,0,none⟩=some v0∧W.cell? ⟨w.heap.size,1,none⟩=some v1∧W.cell? ⟨w.heap.size,2,none⟩=some v2∧W.cell? ⟨w.heap.size,3,none⟩=some v3:=
 ⟨Zaj h 0 _ rfl,Zaj h 1 _ rfl,Zaj h 2 _ rfl,Zaj h 3 _ rfl⟩
theorem Z4w {w:World} {base:Nat} {e:TypeId} {v:Value} {n:Nat} {l:List ByteArray} (h:w.ownsRow base e 1 v n (l.map Value.string)):
  n=l.length∧∃a c,v=.slice a l.length c∧SlOk a l.length c∧Zgs w a l:=by
 have hn:l.length=n:=by simpa using h.1
 subst hn
 refine⟨rfl,?_⟩
 rcases h.2 with⟨rfl,h0⟩|⟨g,cap,cur,rfl,_,hg,h1,h2,h3,h4⟩
 ·have:l=[]:=List.eq_nil_of_length_eq_zero h0
  subst this
  exact⟨none,0,rfl,⟨Nat.le_refl _,by omega,fun _=>rfl⟩,Zgs.nil _ _⟩
 ·have hm:maxLen=9223372036854775807:=rfl
  refine⟨some ⟨g,0,none⟩,cap,rfl,⟨h1,by omega,fun h=>by cases h⟩,fun i hi=>⟨g,0,rfl,(Array.getElem?_eq_some_iff.1 hg).1,?_⟩⟩
  have:=h.cells (g:=g) rfl i (.string l[i]) (by simp[hi])
  simpa[Addr.add_lit] using this
end
section
def inB (n lo hi:Int):Bool:=decide (lo≤n)&&decide (n≤hi)
theorem Zbx {n lo hi:Int}:inB n lo hi=true↔lo≤n∧n≤hi:=by simp[inB]
theorem Z6v {n lo hi:Int}:inB n lo hi=false↔n<lo∨hi<n:=by
 cases h:inB n lo hi
 ·have:¬(lo≤n∧n≤hi):=fun h'=>by rw[Zbx.2 h'] at h;cases h
  simp;omega
 ·have:=Zbx.1 h
  simp;omega
def hasB (l:List Int) (n:Int):Bool:=l.any (·==n)
theorem Zj2 {l:List Int} {n:Int}:hasB l n=true↔n∈l:=by
 simp[hasB]
theorem Z37 (l:List Int) (k:Nat) (h:k<l.length) (n:Int):hasB (l.take (k+1)) n=(hasB (l.take k) n||(l[k]==n)):=by
 unfold hasB
 rw[List.take_succ_eq_append_getElem h,List.any_append]
 simp
def less:List Int→List Int→Bool
 |_,[]=>false
 |[],_::_=>true
 |x::xs,y::ys=>if x=y then less xs ys else decide (x<y)
theorem Z2j (a b:List Int) (k:Nat) (ha:k<a.length) (hb:k<b.length):
  less (a.drop k) (b.drop k)=if a[k]=b[k] then less (a.drop (k+1)) (b.drop (k+1)) else decide (a[k]<b[k]):=by
 rw[List.drop_eq_getElem_cons ha,List.drop_eq_getElem_cons hb,less]
theorem Zxm (a b:List Int) (k:Nat) (hb:b.length≤k):less (a.drop k) (b.drop k)=false:=by
 rw[List.drop_of_length_le hb];cases a.drop k<;>rfl
theorem Zyr (a b:List Int) (k:Nat) (ha:a.length≤k) (hb:k<b.length):less (a.drop k) (b.drop k)=true:=by
 rw[List.drop_of_length_le ha,List.drop_eq_getElem_cons hb];rfl
theorem Ze4 (a:List Int):less a a=false:=by
 induction a with
 |nil=>rfl
 |cons x xs ih=>simp[less,ih]
theorem Zim:∀(a b:List Int),a.length=b.length→less a b=false→less b a=false→a=b
 |[],[],_,_,_=>rfl
 |x::xs,y::ys,hl,h1,h2=>by
  simp only[less] at h1 h2
  by_cases e:x=y
  ·subst e
   simp only[if_true] at h1 h2
   rw[Zim xs ys (by simpa using hl) h1 h2]
  ·rw[if_neg e] at h1
   rw[if_neg (fun h=>e h.symm)] at h2
   simp at h1 h2
   omega
theorem Zlb:∀(a b:List Int),less a b=true→less b a=false
 |[],[],h=>by simp[less] at h
 |[],y::ys,_=>rfl
 |x::xs,[],h=>by simp[less] at h
 |x::xs,y::ys,h=>by
  simp only[less] at h ⊢
  by_cases e:x=y
  ·subst e
   simp only[if_true] at h ⊢
   exact Zlb xs ys h
  ·rw[if_neg e] at h
   rw[if_neg (fun h=>e h.symm)]
   simp at h ⊢
   omega
theorem Zky:∀(a b c:List Int),less a b=true→less b c=true→less a c=true
 |[],[],_,h,_=>by simp[less] at h
 |x::xs,[],_,h,_=>by simp[less] at h
 |_,y::ys,[],_,h=>by simp[less] at h
 |[],y::ys,z::zs,_,_=>rfl
 |x::xs,y::ys,z::zs,h,k=>by
  simp only[less] at h k ⊢
  by_cases e:x=y
  ·subst e
   simp only[if_true] at h
   by_cases f:x=z
   ·subst f
    simp only[if_true] at k ⊢
    exact Zky xs ys zs h k
   ·rw[if_neg f] at k ⊢
    exact k
  ·rw[if_neg e] at h
   simp at h
   by_cases f:y=z
   ·subst f
    rw[if_neg e]
    simpa using h
   ·rw[if_neg f] at k
    simp at k
    rw[if_neg (by omega)]
    simp
    omega
def Zoe (a b:List Int):Bool:=decide (a.length=b.length)&&!less a b&&!less b a
theorem Zrn {a b:List Int}:Zoe a b=true↔a=b:=by
 constructor
 ·intro h
  simp[Zoe] at h
  exact Zim a b h.1.1 h.1.2 h.2
 ·rintro rfl
  simp[Zoe,Ze4]
def Zbo (a b:List Int):Bool:=if a.length=b.length then less a b else decide (a.length<b.length)
def bitB (n:Int) (k:Nat):Bool:=n.toNat.testBit k
theorem Z5l (n:Int):bitB n 0=decide (n.tmod 2=1):=by
 unfold bitB
 rw[Nat.testBit_zero]
 by_cases h:0≤n
 ·obtain⟨m,rfl⟩:=Int.eq_ofNat_of_zero_le h
  simp only[Int.toNat_natCast]
  have:((m:Int).tmod 2)=((m % 2:Nat):Int):=by rw[Int.tmod_eq_emod_of_nonneg (by omega)];omega
  rw[this]
  by_cases h:m % 2=1<;>simp[h]<;>omega
 ·have h0:n.toNat=0:=by omega
  rw[h0]
  have:n.tmod 2≤0:=by
   have:=Int.tmod_nonneg 2 (a:=-n) (by omega)
   rw[Int.neg_tmod] at this
   omega
  simp
  omega
theorem Z5b (n:Int) (k:Nat):bitB n (k+1)=bitB (n.tdiv 2) k:=by
 unfold bitB
 by_cases h:0≤n
 ·obtain⟨m,rfl⟩:=Int.eq_ofNat_of_zero_le h
  have:((m:Int).tdiv 2)=((m / 2:Nat):Int):=by rw[Int.tdiv_eq_ediv_of_nonneg (by omega)];omega
  rw[this]
  simp only[Int.toNat_natCast,Nat.testBit_succ]
 ·have h0:n.toNat=0:=by omega
  have h1:(n.tdiv 2).toNat=0:=by
   have:n.tdiv 2≤0:=by
    have:=Int.tdiv_nonneg (a:=-n) (b:=2) (by omega) (by omega)
    rw[Int.neg_tdiv] at this
    omega
   omega
  rw[h0,h1]
  simp
theorem Z8f (x:Int) (h1:-9223372036854775808≤x) (h2:x≤9223372036854775807):-9223372036854775808≤x.tdiv 2∧x.tdiv 2≤9223372036854775807:=by
 by_cases h:0≤x
 ·rw[Int.tdiv_eq_ediv_of_nonneg h]
  omega
 ·have:=Int.neg_tdiv x 2
  rw[Int.tdiv_eq_ediv_of_nonneg (show 0≤-x by omega)] at this
  omega
def Zc7 (l:List ByteArray) (s:ByteArray) (k:Nat):Int:=
 match l with
 |[]=>-1
 |x::xs=>if x=s then k else Zc7 xs s (k+1)
def Z4k (l:List ByteArray) (s:ByteArray):Int:=Zc7 l s 0
def low (c:UInt8):Bool:=decide (97≤c.toNat)&&decide (c.toNat≤122)
def late (c:UInt8):Bool:=c.toNat==46||(decide (48≤c.toNat)&&decide (c.toNat≤57))
def Zdd (k:Nat):List UInt8→Bool
 |[]=>true
 |c::cs=>(low c||(decide (0<k)&&late c))&&Zdd (k+1) cs
def Zhg (s:ByteArray):Bool:=decide (1≤s.size)&&decide (s.size≤16)&&Zdd 0 s.data.toList
def hasS (l:List ByteArray) (s:ByteArray):Bool:=l.any fun x=>decide (x=s)
def Zgr (s:ByteArray) (before:List ByteArray):Int:=if Zhg s then (if hasS before s then 5 else 0) else 6
def Zgk (below:Int) (first:Bool) (l:List Int):List (List Int):=
 let least:Int:=if first then 0 else l.getLast?.getD 0+1
 (List.range (below-least).toNat).map fun(j:Nat)=>l++[least+(j:Int)]
def Zce (below:Int):Nat→List (List Int)
 |0=>[[]]
 |i+1=>(Zce below i).flatMap (Zgk below (i==0))
end
section
open Go Go.RowKit
def cmpI (x y:Int):Int:=if x<y then -1 else if y<x then 1 else 0
theorem Z14 (x:Int) (w:World):
  Calls Tryz.prog 161 #[.int .i64 x] w fun e w'=>e=.returned (.bool false)∧w'=w:=by
 go_enter Tryz.func161,Tryz.ntmps161
 go_wp2
 go_ret
 exact⟨Zaq (by simp),rfl⟩
theorem Zov (x y:Int) (w:World):
  Calls Tryz.prog 118 #[.int .i64 x,.int .i64 y] w fun e w'=>e=.returned (.int .i64 (cmpI x y))∧w'=w:=by
 have HN:=Lib.hid (fun(x:Int) (W:World)=>Z14 x W)
 have HE:Hid (cmpI x y=if x<y then -1 else if y<x then 1 else 0):=rfl
 generalize cmpI x y=r at HE ⊢
 by_cases a1:x<y
 ·go_enter Tryz.func118,Tryz.ntmps118
  go_wp2_with (go_at_call 161;refine(HN.out _ _).mono ?_;rintro e w2 ⟨rfl,rfl⟩;dsimp only)
  go_ret
  exact⟨Za7 (by rw[HE.out,if_pos a1]),rfl⟩
 ·by_cases a2:y<x
  all_goals
   go_enter Tryz.func118,Tryz.ntmps118
   go_wp2_with (go_at_call 161;refine(HN.out _ _).mono ?_;rintro e w2 ⟨rfl,rfl⟩;dsimp only)
   go_ret
   exact⟨Za7 (by have:=HE.out;split at this<;>(try split at this)<;>omega),rfl⟩
theorem Z2y (l1 l2:List Int) (j:Nat) (h1:j<l1.length) (h2:j<l2.length):
  less (l1.drop j) (l2.drop j)=if l1[j]=l2[j] then less (l1.drop (j+1)) (l2.drop (j+1)) else decide (l1[j]<l2[j]):=by
 rw[List.drop_eq_getElem_cons h1,List.drop_eq_getElem_cons h2]
 simp only[less]
theorem Z1c (a1 a2:Option Addr) (l1 l2:List Int) (c1 c2:Nat) (w:World) (hl:l1.length=l2.length) (hl5:l2.length≤9223372036854775807) (h1:Zaw w a1 l1) (h2:Zaw w a2 l2):
  Calls Tryz.prog 71 #[.slice a1 l1.length c1,.slice a2 l2.length c2] w fun e w'=>∃k:Int,e=.returned (.int .i64 k)∧Hid (decide (k<0)=less l1 l2)∧w'=w:=by
 have HC:=Lib.hid (fun(x y:Int) (W:World)=>Zov x y W)
 obtain⟨r,hr⟩:∃r,r=less l1 l2:=⟨_,rfl⟩
 rw[←hr]
 have h00:Hid (less (l1.drop 0) (l2.drop 0)=r):=hr.symm
 clear hr
 go_enter Tryz.func71,Tryz.ntmps71
 go_wp2
 go_loop [11] (fun i=>∃k:Nat,i=.int .i64 k∧k≤l1.length∧Hid (less (l1.drop k) (l2.drop k)=r)) (fun i=>l1.length-(intOf i).toNat)
 case atStart=>exact⟨0,rfl,by omega,h00⟩
 case round=>
  obtain⟨k,rfl,hk,hr⟩:=hrel
  by_cases hlt:k<l1.length
  ·obtain⟨b1,o1,rfl,hb1,hc1⟩:=h1 k hlt
   obtain⟨b2,o2,rfl,hb2,hc2⟩:=h2 k (by omega)
   have hlt2:k<l2.length:=by omega
   have hst:=Lib.hid ((Z2y l1 l2 k hlt hlt2).symm.trans hr.out)
   generalize hx:l1[k]=x at hc1 hst
   generalize hy:l2[k]=y at hc2 hst
   clear hx hy
   have HK:Hid (cmpI x y=if x<y then -1 else if y<x then 1 else 0):=rfl
   have HC:=fun W=>HC.out x y W
   generalize cmpI x y=q at HC HK
   have HC:=Lib.hid HC
   by_cases hq:q=0
   ·have g1:=Zdf hq
    go_wp2_with (go_at_call 118;refine(HC.out _).mono ?_;rintro e w2 ⟨rfl,rfl⟩;dsimp only)
    go_round
    case rel=>exact⟨k+1,by go_num,by omega,Lib.hid (by rw[←hst.out];have:=HK.out;have e:x=y:=(by split at this<;>(try split at this)<;>omega);rw[if_pos e])⟩
    case measure=>simp[intOf];omega
   ·have g1:=Zcp hq
    go_wp2_with (go_at_call 118;refine(HC.out _).mono ?_;rintro e w2 ⟨rfl,rfl⟩;dsimp only)
    go_ret
    refine⟨_,rfl,Lib.hid ?_,rfl⟩
    rw[←hst.out]
    have:=HK.out
    have e:x≠y:=by intro e;subst e;simp at this;exact hq this
    rw[if_neg e,decide_eq_decide]
    split at this<;>(try split at this)<;>omega
  ·obtain rfl:k=l1.length:=by omega
   go_wp2
   go_ret
   refine⟨_,rfl,Lib.hid ?_,rfl⟩
   rw[←hr.out,List.drop_length,hl,List.drop_length]
   simp[less]
theorem Zia (a1 a2:Option Addr) (l1 l2:List Int) (c1 c2:Nat) (w:World) (hl:l1.length=l2.length) (hl5:l2.length≤9223372036854775807) (h1:Zaw w a1 l1) (h2:Zaw w a2 l2):
  Calls Tryz.prog 71 #[.slice a1 l1.length c1,.slice a2 l2.length c2] w fun e w'=>∃k:Int,e=.returned (.int .i64 k)∧Hid (decide (0<k)=less l2 l1)∧w'=w:=by
 have HC:=Lib.hid (fun(x y:Int) (W:World)=>Zov x y W)
 obtain⟨r,hr⟩:∃r,r=less l2 l1:=⟨_,rfl⟩
 rw[←hr]
 have h00:Hid (less (l2.drop 0) (l1.drop 0)=r):=hr.symm
 clear hr
 go_enter Tryz.func71,Tryz.ntmps71
 go_wp2
 go_loop [11] (fun i=>∃k:Nat,i=.int .i64 k∧k≤l1.length∧Hid (less (l2.drop k) (l1.drop k)=r)) (fun i=>l1.length-(intOf i).toNat)
 case atStart=>exact⟨0,rfl,by omega,h00⟩
 case round=>
  obtain⟨k,rfl,hk,hr⟩:=hrel
  by_cases hlt:k<l1.length
  ·obtain⟨b1,o1,rfl,hb1,hc1⟩:=h1 k hlt
   obtain⟨b2,o2,rfl,hb2,hc2⟩:=h2 k (by omega)
   have hlt2:k<l2.length:=by omega
   have hst:=Lib.hid ((Z2y l2 l1 k hlt2 hlt).symm.trans hr.out)
   generalize hx:l1[k]=x at hc1 hst
   generalize hy:l2[k]=y at hc2 hst
   clear hx hy
   have HK:Hid (cmpI x y=if x<y then -1 else if y<x then 1 else 0):=rfl
   have HC:=fun W=>HC.out x y W
   generalize cmpI x y=q at HC HK
   have HC:=Lib.hid HC
   by_cases hq:q=0
   ·have g1:=Zdf hq
    go_wp2_with (go_at_call 118;refine(HC.out _).mono ?_;rintro e w2 ⟨rfl,rfl⟩;dsimp only)
    go_round
    case rel=>exact⟨k+1,by go_num,by omega,Lib.hid (by rw[←hst.out];have:=HK.out;have e:y=x:=(by split at this<;>(try split at this)<;>omega);rw[if_pos e])⟩
    case measure=>simp[intOf];omega
   ·have g1:=Zcp hq
    go_wp2_with (go_at_call 118;refine(HC.out _).mono ?_;rintro e w2 ⟨rfl,rfl⟩;dsimp only)
    go_ret
    refine⟨_,rfl,Lib.hid ?_,rfl⟩
    rw[←hst.out]
    have:=HK.out
    have e:y≠x:=by intro e;subst e;simp at this;exact hq this
    rw[if_neg e,decide_eq_decide]
    split at this<;>(try split at this)<;>omega
  ·obtain rfl:k=l1.length:=by omega
   go_wp2
   go_ret
   refine⟨_,rfl,Lib.hid ?_,rfl⟩
   rw[←hr.out,List.drop_length,hl,List.drop_length]
   simp[less]
end
section
def Zdn (n:Nat) (f:Nat→Int):Option Nat:=(List.range n).find? fun i=>f i != 0
theorem Zj9 {n:Nat} {f:Nat→Int} (h:∀i,i<n→f i=0):Zdn n f=none:=by
 unfold Zdn
 rw[List.find?_eq_none]
 intro i hi
 simp at hi
 simp[h i hi]
theorem Zq0 {n k:Nat} {f:Nat→Int} (hk:k<n) (h:∀i,i<k→f i=0) (hf:f k≠0):Zdn n f=some k:=by
 unfold Zdn
 rw[List.find?_eq_some_iff_append]
 refine⟨by simpa using hf,List.range k,(List.range' (k+1) (n-k-1)),?_,?_⟩
 ·rw[List.range_eq_range',List.range_eq_range',←List.range'_succ,show n=k+(n-k-1+1) from by omega,←List.range'_append]
  congr 2<;>omega
 ·intro i hi
  simp at hi
  simp[h i hi]
theorem Zp0 {n:Nat} {f:Nat→Int} (h:Zdn n f=none):∀i,i<n→f i=0:=by
 intro i hi
 unfold Zdn at h
 rw[List.find?_eq_none] at h
 have:=h i (by simpa using hi)
 simpa using this
def Zep (n:Nat):Int:=2^n-1
def Zav (part:Int) (len most:Nat) (f:Nat→Int) (next:Int × Int × Int):Int × Int × Int:=
 if most<len then (part,0,3) else match Zdn len f with|some i=>(part,i,f i)|none=>next
theorem Zfn {part:Int} {len most:Nat} {f:Nat→Int} {next:Int × Int × Int} (h:len≤most) (h0:∀i,i<len→f i=0):Zav part len most f next=next:=by
 unfold Zav;rw[if_neg (by omega),Zj9 h0]
def Zcb (n most:Nat) (f:Nat→Int):Int × Int:=if most<n then (0,3) else match Zdn n f with|some i=>((i:Int),f i)|none=>(0,0)
theorem Zg4 {n most:Nat} {f:Nat→Int} (h:most<n):Zcb n most f=(0,3):=if_pos h
theorem Zik {n most k:Nat} {f:Nat→Int} (h:n≤most) (hk:k<n) (h0:∀i,i<k→f i=0) (hf:f k≠0):Zcb n most f=((k:Int),f k):=by
 unfold Zcb;rw[if_neg (by omega),Zq0 hk h0 hf]
theorem Zkp {n most:Nat} {f:Nat→Int} (h:n≤most) (h0:∀i,i<n→f i=0):Zcb n most f=(0,0):=by
 unfold Zcb;rw[if_neg (by omega),Zj9 h0]
theorem Zed {part:Int} {len most:Nat} {f:Nat→Int} {next:Int × Int × Int} (h:(Zav part len most f next).2.2=0):len≤most∧(∀i,i<len→f i=0)∧next.2.2=0:=by
 unfold Zav at h
 by_cases hl:most<len
 ·rw[if_pos hl] at h;simp at h
 ·rw[if_neg hl] at h
  cases hf:Zdn len f with
  |none=>rw[hf] at h;exact⟨by omega,Zp0 hf,h⟩
  |some i=>
   rw[hf] at h
   have hi:i∈List.range len∧(f i != 0)=true:=by
    unfold Zdn at hf
    have h2:=List.find?_some (p:=fun i=>f i != 0) hf
    exact⟨List.mem_of_find?_eq_some hf,h2⟩
   simp at h
   simp[h] at hi
def Zne (so:List Int→Bool) (below:Int) (k:Nat):Option (List Int):=(Zce below k).find? so
def Zb0 (so:List Int→Bool) (below:Int) (k:Nat):Nat→Option (List Int)
 |0=>none
 |fuel+1=>match Zne so below k with|some l=>some l|none=>Zb0 so below (k+1) fuel
theorem Z8j {α:Type} {so:α→Bool} {L:List α} {i:Nat} (hi:i<L.length) (h:so L[i]=true):L.any so=true:=by
 rw[List.any_eq_true];exact⟨_,List.getElem_mem hi,h⟩
theorem Zt8 {so:List Int→Bool} {n:Int} {k f:Nat} (h:(Zce n k).find? so=none):Zb0 so n k (f+1)=Zb0 so n (k+1) f:=by
 rw[Zb0,Zne,h]
theorem Zu5 {so:List Int→Bool} {n:Int} {k f:Nat} {l:List Int} (h:(Zce n k).find? so=some l):Zb0 so n k (f+1)=some l:=by
 rw[Zb0,Zne,h]
theorem Zva (n:Nat) (h:n≤5):0<(Zce n n).length:=by
 rcases n with _|_|_|_|_|_|n
 ·decide
 ·decide
 ·decide
 ·decide
 ·decide
 ·decide
 ·omega
end
section
structure MoSum where
 name:ByteArray
 pence:Int
 for_:Int
structure MoWord where
 says:Int
 sum:Int
 of:Int
 back:Int
 came:Bool
structure MoPaid where
 sum:Int
 claimant:Int
structure MoList where
 claimants:List ByteArray
 sums:List MoSum
 words:List MoWord
 paid:List MoPaid
def Zbk (m:MoList) (i:Nat):Int:=match m.claimants[i]? with|some s=>Zgr s (m.claimants.take i)|none=>0
def Zc2 (m:MoList) (i:Nat):Int:=match m.sums[i]? with
 |some s=>if Zgr s.name ((m.sums.take i).map MoSum.name)=0 then (if inB s.pence 1 99&&inB s.for_ 1 (Zep m.claimants.length) then 0 else 7) else Zgr s.name ((m.sums.take i).map MoSum.name)
 |none=>0
def Zgn (claimants sums words:Nat) (i:Nat) (w:MoWord):Int:=
 if inB w.says 0 3 then
  (if inB w.sum 0 (sums-1)&&inB w.of 0 ((if 2≤w.says then (sums:Int) else claimants)-1)&&inB w.back (-1) (words-1) then
   (if w.back=i∨(2≤w.says∧w.of=w.sum) then 2 else 0) else 4) else 7
def Zbv (m:MoList) (i:Nat):Int:=match m.words[i]? with|some w=>Zgn m.claimants.length m.sums.length m.words.length i w|none=>0
def Zbf (m:MoList) (i:Nat):Int:=match m.paid[i]? with|some p=>if inB p.sum 0 (m.sums.length-1)&&inB p.claimant 0 (m.claimants.length-1) then 0 else 4|none=>0
def check (m:MoList):Int × Int × Int:=
 Zav 1 m.claimants.length 4 (Zbk m) (Zav 2 m.sums.length 5 (Zc2 m) (Zav 3 m.words.length 6 (Zbv m) (Zav 4 m.paid.length 5 (Zbf m) (0,0,0))))
def Zf4 (m:MoList):Int:=(check m).2.2
def Zfj (m:MoList) (i:Nat):Bool:=match m.words[i]? with
 |some w=>w.came&&m.words.all fun x=>!(x.came&&decide (x.back=(i:Int)))
 |none=>false
def so (w:MoWord) (t:List Int):Bool:=
 if (t.length:Int)≤w.sum then true
 else if w.says=0 then decide (t[w.sum.toNat]?.getD 0=w.of)
 else if w.says=1 then decide (t[w.sum.toNat]?.getD 0≠w.of)
 else if w.says=2 then decide ((t.length:Int)≤w.of)||decide (t[w.sum.toNat]?.getD 0=t[w.of.toNat]?.getD 0)
 else decide ((t.length:Int)≤w.of)||decide (t[w.sum.toNat]?.getD 0≠t[w.of.toNat]?.getD 0)
def Ze5 (m:MoList) (t:List Int):Bool:=(List.range m.words.length).all fun i=>!Zfj m i||match m.words[i]? with|some w=>so w t|none=>true
def fine (m:MoList) (i:Nat) (t:List Int) (c:Nat):Bool:=bitB (match m.sums[i]? with|some s=>s.for_|none=>0) c&&Ze5 m (t++[(c:Int)])
def Zbq (m:MoList) (i:Nat) (t:List Int):List (List Int):=
 ((List.range m.claimants.length).filter fun c=>fine m i t c).map fun(c:Nat)=>t++[(c:Int)]
def Za8 (m:MoList):Nat→List (List Int)
 |0=>[[]]
 |i+1=>(Za8 m i).flatMap (Zbq m i)
def Zao (m:MoList):List (List Int):=Za8 m m.sums.length
def whom (n:Nat) (all:List (List Int)) (sum:Nat):List Int:=
 ((List.range n).filter fun(c:Nat)=>all.any fun t=>decide (t[sum]?.getD 0=(c:Int))).map fun(c:Nat)=>(c:Int)
def Zel (m:MoList) (all:List (List Int)):List Int:=
 ((List.range m.sums.length).filter fun i=>decide (1<(whom m.claimants.length all i).length)).map fun(i:Nat)=>(i:Int)
def Zg3 (ws:List MoWord) (i:Nat):List MoWord:=match ws[i]? with|some w=>ws.set i {w with came:=true}|none=>ws
def Zb1 (m:MoList) (l:List Int):MoList:={m with words:=l.foldl (fun ws i=>Zg3 ws i.toNat) m.words}
def Zbn (m:MoList):List Int:=((List.range m.words.length).filter fun i=>match m.words[i]? with|some w=>!w.came|none=>false).map fun(i:Nat)=>(i:Int)
def Zfd (m:MoList) (l:List Int):Bool:=let more:=Zb1 m l;!(Zao more).isEmpty&&(Zel more (Zao more)).isEmpty
def due (m:MoList) (t:List Int) (c:Int):Int:=((List.range t.length).map fun i=>if t[i]?.getD 0=c then (match m.sums[i]? with|some s=>s.pence|none=>0) else 0).sum
def Zxr (m:MoList) (sum:Int):Bool:=m.paid.any fun p=>decide (p.sum=sum)
def Zjb (m:MoList) (t but:List Int) (i:Nat):Bool:=hasB but i||match m.paid[i]? with
 |some p=>decide (t[p.sum.toNat]?.getD 0=p.claimant)&&(List.range i).all fun k=>hasB but k||match m.paid[k]? with|some q=>decide (q.sum≠p.sum)|none=>true
 |none=>true
def right (m:MoList) (t but:List Int):Bool:=(List.range m.paid.length).all fun i=>Zjb m t but i
def Zdl (m:MoList) (all:List (List Int)) (but:List Int):Bool:=all.any fun t=>right m t but
end
section
structure ValidWord (claimants sums words:Nat) (i:Nat) (x:MoWord):Prop where
 says:0≤x.says∧x.says≤3
 sum:0≤x.sum∧x.sum<sums
 of1:x.says<2→0≤x.of∧x.of<claimants
 of2:2≤x.says→0≤x.of∧x.of<sums∧x.of≠x.sum
 back:-1≤x.back∧x.back<words∧x.back≠i
structure Valid (m:MoList):Prop where
 nc:m.claimants.length≤4
 nz:m.sums.length≤5
 nw:m.words.length≤6
 np:m.paid.length≤5
 sums:∀i (_:i<m.sums.length),(1≤m.sums[i].pence∧m.sums[i].pence≤99)∧1≤m.sums[i].for_∧m.sums[i].for_≤Zep m.claimants.length
 words:∀i (_:i<m.words.length),ValidWord m.claimants.length m.sums.length m.words.length i m.words[i]
 paid:∀i (_:i<m.paid.length),(0≤m.paid[i].sum∧m.paid[i].sum<m.sums.length)∧0≤m.paid[i].claimant∧m.paid[i].claimant<m.claimants.length
 names:∀i (_:i<m.claimants.length),Zbk m i=0
 snames:∀i (_:i<m.sums.length),Zc2 m i=0
theorem Zr7 {c s n i:Nat} {x:MoWord} (h:Zgn c s n i x=0):ValidWord c s n i x:=by
 unfold Zgn at h
 by_cases h1:inB x.says 0 3=true
 ·rw[if_pos h1] at h
  by_cases h2:(inB x.sum 0 (s-1)&&inB x.of 0 ((if 2≤x.says then (s:Int) else c)-1)&&inB x.back (-1) (n-1))=true
  ·rw[if_pos h2] at h
   simp only[Bool.and_eq_true,Zbx] at h2
   rw[Zbx] at h1
   by_cases h3:x.back=i∨(2≤x.says∧x.of=x.sum)
   ·rw[if_pos h3] at h;simp at h
   ·rw[not_or] at h3
    obtain⟨⟨h4,h5⟩,h6⟩:=h2
    refine⟨h1,by omega,fun hs=>?_,fun hs=>?_,by omega⟩
    ·rw[if_neg (by omega)] at h5;omega
    ·rw[if_pos hs] at h5;have:=h3.2;omega
  ·rw[if_neg h2] at h;simp at h
 ·rw[if_neg h1] at h;simp at h
theorem Zmh {m:MoList} (h:Zf4 m=0):Valid m:=by
 unfold Zf4 check at h
 obtain⟨a1,a2,h⟩:=Zed h
 obtain⟨b1,b2,h⟩:=Zed h
 obtain⟨c1,c2,h⟩:=Zed h
 obtain⟨d1,d2,_⟩:=Zed h
 refine⟨a1,b1,c1,d1,fun i hi=>?_,fun i hi=>?_,fun i hi=>?_,a2,b2⟩
 ·have e:=b2 i hi
  simp only[Zc2,List.getElem?_eq_getElem hi] at e
  by_cases h1:Zgr m.sums[i].name ((m.sums.take i).map MoSum.name)=0
  ·rw[if_pos h1] at e
   by_cases h2:(inB m.sums[i].pence 1 99&&inB m.sums[i].for_ 1 (Zep m.claimants.length))=true
   ·simp only[Bool.and_eq_true,Zbx] at h2
    exact h2
   ·rw[if_neg h2] at e;simp at e
  ·rw[if_neg h1] at e;exact absurd e h1
 ·have e:=c2 i hi
  simp only[Zbv,List.getElem?_eq_getElem hi] at e
  exact Zr7 e
 ·have e:=d2 i hi
  simp only[Zbf,List.getElem?_eq_getElem hi] at e
  by_cases h2:(inB m.paid[i].sum 0 (m.sums.length-1)&&inB m.paid[i].claimant 0 (m.claimants.length-1))=true
  ·simp only[Bool.and_eq_true,Zbx] at h2
   omega
  ·rw[if_neg h2] at e;simp at e
theorem Zqd (m:MoList) (i:Nat) (t:List Int):∀u∈Zbq m i t,u.length=t.length+1:=by
 intro u hu
 unfold Zbq at hu
 obtain⟨c,_,rfl⟩:=List.mem_map.1 hu
 simp
theorem Zhv (m:MoList) (i:Nat):∀t∈Za8 m i,t.length=i:=by
 induction i with
 |zero=>intro t ht;simp[Za8] at ht;simp[ht]
 |succ i ih=>
  intro t ht
  rw[Za8] at ht
  obtain⟨l,hl,ht⟩:=List.mem_flatMap.1 ht
  rw[Zqd _ _ _ t ht,ih l hl]
theorem Zof (m:MoList) (i:Nat) (t:List Int):(Zbq m i t).length≤m.claimants.length:=by
 unfold Zbq
 rw[List.length_map]
 exact Nat.le_trans (List.length_filter_le _ _) (by simp)
theorem Zxi {α β:Type} (f:α→List β) (n:Nat):∀(l:List α),(∀x∈l,(f x).length≤n)→(l.flatMap f).length≤l.length*n
 |[],_=>by simp
 |x::xs,h=>by
  have h1:=h x (by simp)
  have h2:=Zxi f n xs (fun y hy=>h y (by simp[hy]))
  simp only[List.flatMap_cons,List.length_append,List.length_cons,Nat.add_mul]
  omega
theorem Zp2 (m:MoList) (hc:m.claimants.length≤4) (i:Nat):(Za8 m i).length≤4^i:=by
 induction i with
 |zero=>simp[Za8]
 |succ i ih=>
  rw[Za8]
  have h:=Zxi (Zbq m i) 4 (Za8 m i) (fun l _=>Nat.le_trans (Zof m i l) hc)
  have:(Za8 m i).length*4≤4^i*4:=Nat.mul_le_mul_right 4 ih
  rw[Nat.pow_succ]
  omega
theorem Zja (m:MoList) (hc:m.claimants.length≤4) (i:Nat) (hi:i≤5):(Za8 m i).length≤1024:=
 Nat.le_trans (Zp2 m hc i) (Nat.le_trans (Nat.pow_le_pow_right (by omega) hi) (by decide))
theorem Zvo (m:MoList) (i:Nat):∀t∈Za8 m i,∀x∈t,0≤x∧x<m.claimants.length:=by
 induction i with
 |zero=>intro t ht;simp[Za8] at ht;simp[ht]
 |succ i ih=>
  intro t ht x hx
  rw[Za8] at ht
  obtain⟨l,hl,ht⟩:=List.mem_flatMap.1 ht
  unfold Zbq at ht
  obtain⟨c,hc,rfl⟩:=List.mem_map.1 ht
  rcases List.mem_append.1 hx with hx|hx
  ·exact ih l hl x hx
  ·have:=(List.mem_filter.1 hc).1
   simp at hx this
   omega
end
end Go.Proofs.YtklconegomgjaaaGreat
