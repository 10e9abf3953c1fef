/- What is proved here: 'm[k] op= v' on a map that is known as the list of its entries: the entry is found or made, then stored; a look-up without ok. Over any program. -/
import Derived.Test.YtklconegomgjaaaGreatPnBaseG
import Derived.WideKeyEntry
import Derived.Test.YtklconegomgjaaaGreatBeyondG
import Derived.Test.YtklconegomgjaaaGreatMoney4G
import Derived.Test.YtklconegomgjaaaGreatMidG
import Derived.BigQuiet
import Derived.Deep.DeepCutAuto
import Derived.Shelf.RegionOpen
import Derived.Laws.EntriesVeiled
set_option linter.all false
set_option maxRecDepth 100000
set_option maxHeartbeats 16000000
namespace Go.Proofs.YtklconegomgjaaaGreat
section
open Go Go.RowKit Go.ChangeMaps Go.MapKept
open Go.Maps (Keyed)
variable {P:Program} {k:TypeId} {w:World} {b r:Nat} {T rem:List (Value × Value)}
def Zoq (w:World) (b j st:Nat):Prop:=∃es clock e0,w.heap[b]?=some (.map es clock)∧es[j]?=some e0∧e0.born=st
theorem Zoq.same {w':World} {j st:Nat} (h:Zoq w b j st) (he:w'.heap[b]?=w.heap[b]?):Zoq w' b j st:=by
 obtain⟨es,clock,e0,hb,h2⟩:=h
 exact⟨es,clock,e0,he.trans hb,h2⟩
theorem MapV.get {t e:TypeId} (h:MapV w P k b T) (K:Keyed P k) (ht:P.underlying t=some (.map k e)) {key zero:Value} {kl:Lit} (hkey:keyOf P k key=some kl) (hz:(zeroValue e).run P w=.ok zero w):
  ((∀p∈T,p.1≠key)∧(Instr.lookup t (.map (some b)) key false).run P w=.ok zero w)∨∃(j:Nat) (v:Value),T[j]?=some (key,v)∧(Instr.lookup t (.map (some b)) key false).run P w=.ok v w:=by
 obtain⟨es,clock,hb,hst,hk,rfl⟩:=h
 rcases K.find w hkey es.toList hk with⟨h1,h2⟩|⟨j,e0,h1,h2,h3⟩
 ·left
  refine⟨fun p hp=>?_,?_⟩
  ·obtain⟨e1,he1,rfl⟩:=List.mem_map.1 hp
   exact h2 e1 he1
  ·simp[Instr.lookup,run_underlying ht,MapKept.run_getObj_map hb,K.check w _ hkey,h1,hz,Result.andThen]
 ·right
  refine⟨j,e0.val,by rw[List.getElem?_map,h2];simp[h3],?_⟩
  simp[Instr.lookup,run_underlying ht,MapKept.run_getObj_map hb,K.check w _ hkey,h1,Result.andThen]
theorem Zef (w:World) (b:Nat) (o:Obj):w.grownBy (setBlock w b o) (some b):=⟨rfl,rfl,rfl,by simp[setBlock],fun i _ hi=>by
 simp only[setBlock]
 rw[Array.getElem?_setIfInBounds]
 rw[if_neg (fun e=>hi (by rw[e]))]⟩
theorem MapV.entry {t e:TypeId} (h:MapV w P k b T) (K:Keyed P k) (ht:P.underlying t=some (.map k e)) {key zero:Value} {kl:Lit} (hkey:keyOf P k key=some kl) (hz:∀u:World,(zeroValue e).run P u=.ok zero u):
  (∃(j:Nat) (v0:Value) (st:Nat) (w':World),T[j]?=some (key,v0)∧(Instr.mapEntry t (.map (some b)) key).run P w=.ok (.tuple #[v0,.int .i64 ((st:Nat):Int)]) w'∧MapV w' P k b T∧Zoq w' b j st∧w.grownBy w' (some b)∧w'.heap.size=w.heap.size) ∨
  ((∀p∈T,p.1≠key)∧∃(st:Nat) (w':World),(Instr.mapEntry t (.map (some b)) key).run P w=.ok (.tuple #[zero,.int .i64 ((st:Nat):Int)]) w'∧MapV w' P k b (T++[(key,zero)])∧Zoq w' b T.length st∧w.grownBy w' (some b)∧w'.heap.size=w.heap.size):=by
 obtain⟨es,clock,hb,hst,hk,rfl⟩:=h
 rcases K.find w hkey es.toList hk with⟨h1,h2⟩|⟨j,e0,h1,h2,h3⟩
 ·right
  refine⟨fun p hp=>?_,clock,setBlock w b (.map (es.push ⟨key,zero,clock⟩) (clock+1)),?_,⟨es.push ⟨key,zero,clock⟩,clock+1,heap_setBlock_same hb _,stamped_push hst h2,?_,by simp⟩,⟨es.push ⟨key,zero,clock⟩,clock+1,⟨key,zero,clock⟩,heap_setBlock_same hb _,by simp,rfl⟩,Zef _ _ _,by simp[setBlock]⟩
  ·obtain⟨e1,he1,rfl⟩:=List.mem_map.1 hp
   exact h2 e1 he1
  ·simp[Instr.mapEntry,run_underlying ht,MapKept.run_getObj_map hb,K.check w false hkey,h1,hz,MapKept.run_setObj_map _ hb,Result.andThen,setBlock,goInt]
  ·intro x hx
   simp only[Array.toList_push,List.mem_append,List.mem_singleton] at hx
   rcases hx with hx|rfl
   ·exact hk x hx
   ·exact⟨kl,hkey⟩
 ·left
  have hj:es[j]?=some e0:=by simpa using h2
  have hsame:es.modify j (fun e=>{e with key:=key})=es:=by
   apply Array.ext'
   rw[Array.toList_modify,modify_eq_set _ _ _ _ h2]
   have:({e0 with key:=key}:MapEntry)=e0:=by rw[←h3]
   rw[this]
   exact WideElems.set_self _ _ _ h2
  refine⟨j,e0.val,e0.born,setBlock w b (.map es clock),by rw[List.getElem?_map,h2];simp[h3],?_,⟨es,clock,heap_setBlock_same hb _,hst,hk,rfl⟩,⟨es,clock,e0,heap_setBlock_same hb _,hj,rfl⟩,Zef _ _ _,by simp[setBlock]⟩
  simp[Instr.mapEntry,run_underlying ht,MapKept.run_getObj_map hb,K.check w false hkey,h1,hj,h3,K.stays w hkey,hsame,MapKept.run_setObj_map _ hb,Result.andThen,setBlock,goInt]
theorem MapV.entryStore {t:TypeId} {j st:Nat} (h:MapV w P k b T) (hs:Zoq w b j st) {key v0 val:Value} (hj:T[j]?=some (key,v0)):
  ∃w',(Instr.entryStore t (.map (some b)) (.int .i64 ((st:Nat):Int)) val).run P w=.ok () w'∧MapV w' P k b (T.set j (key,val))∧w.grownBy w' (some b)∧w'.heap.size=w.heap.size:=by
 obtain⟨es,clock,hb,hst,hk,rfl⟩:=h
 obtain⟨es2,clock2,e0,hb2,he,rfl⟩:=hs
 rw[hb] at hb2
 simp only[Option.some.injEq,Obj.map.injEq] at hb2
 obtain⟨rfl,rfl⟩:=hb2
 have hst2:=(stamped_iff es clock).1 hst
 have hel:es.toList[j]?=some e0:=by simpa using he
 rw[List.getElem?_map,hel] at hj
 simp only[Option.map_some,Option.some.injEq,Prod.mk.injEq] at hj
 obtain⟨rfl,rfl⟩:=hj
 have hidx:es.findIdx? (fun e=>((e.born:Nat):Int)==((e0.born:Nat):Int))=some j:=by
  rw[WideElems.findIdx_arr]
  exact WideElems.findIdx_born hst2.2.1 hel
 refine⟨setBlock w b (.map (es.modify j fun e=>{e with val:=val}) clock),?_,⟨es.modify j fun e=>{e with val:=val},clock,heap_setBlock_same hb _,stamped_modify hst j _ (fun e _=>rfl) (fun e _ _=>rfl),?_,?_⟩,Zef _ _ _,by simp[setBlock]⟩
 ·simp[Instr.entryStore,MapKept.run_getObj_map hb,asInt,asIntOf,hidx,MapKept.run_setObj_map _ hb,Result.andThen,setBlock]
 ·intro x hx
  rcases MapFrom.mem_modify hx with h|⟨e,h1,rfl⟩
  ·exact hk x h
  ·have:e∈es.toList:=List.mem_of_getElem? (by simpa using h1)
   exact hk e this
 ·rw[Array.toList_modify,modify_eq_set _ _ _ _ hel,List.map_set]
end
section
open Go Go.RowKit
theorem Zoc (x lo hi:Int) (a:Nat) (w:World) (h:w.cell? ⟨a,0,none⟩=some (.int .i64 x)):
  Calls Tryz.prog 76 #[.int .i64 lo,.int .i64 hi,.slice (some ⟨a,0,none⟩) 1 1] w fun e w'=>e=.returned (.bool (!inB x lo hi))∧Below w.heap.size w w':=by
 have:=Zi7 (some ⟨a,0,none⟩) [x] 1 lo hi w (by simp) (fun i hi=>by have e:i=0:=(by simp at hi;omega);subst e;exact⟨a,0,rfl,Zag h,by simpa using h⟩)
 simpa[Zvl] using this
end
section
open Go Go.RowKit
theorem Z1t (x:EaL) (c:Int) (p:Nat) (w:World) (h:w.cell? ⟨p,0,none⟩=some (.int .u8 c)):
  Calls Tryz.prog 163 #[.agg #[.int .u8 x.letter,.int .i64 x.sounds,.bool x.silent],.pointer (some ⟨p,0,none⟩)] w fun e w'=>e=.returned (.bool (decide (x.letter=c)))∧Below w.heap.size w w':=by
 obtain⟨letter,sounds,silent⟩:=x
 simp only
 have hp:=Zag h
 by_cases he:letter=c
 ·have e2:=Zdv he
  go_enter Tryz.func163,Tryz.ntmps163
  go_wp2
  go_ret
  exact⟨Zaq (by simp[he]),by go_grown⟩
 ·have e2:=Zc4 he
  go_enter Tryz.func163,Tryz.ntmps163
  go_wp2
  go_ret
  exact⟨Zaq (by simp[he]),by go_grown⟩
theorem Z1r (a:Option Addr) (l:List EaL) (k:Nat) (c:Int) (p:Nat) (w:World) (hl:l.length≤9223372036854775807) (hi':Za1 w a l) (h:w.cell? ⟨p,0,none⟩=some (.int .u8 c)):
  Calls Tryz.prog 162 #[.slice a l.length k,.func (.func 163) #[] #[.pointer (some ⟨p,0,none⟩)]] w fun e w'=>e=.returned (.int .i64 (idxL l c))∧Below w.heap.size w w':=by
 obtain⟨r,hr⟩:∃r,r=idxL l c:=⟨_,rfl⟩
 rw[←hr]
 have HR:=LH hr
 clear hr
 go_enter Tryz.func162,Tryz.ntmps162
 go_wp2
 go_loopw [8] (fun i wr=>∃k:Nat,k≤l.length∧i=.int .i64 k∧Hid (∀j (_:j<k) (h:j<l.length),l[j].letter≠c)∧Below w.heap.size w wr) (fun i _=>l.length-(intOf i).toNat)
 case atStart=>exact⟨0,Nat.zero_le _,rfl,LH (fun j h=>absurd h (Nat.not_lt_zero j)),Below.refl _ _⟩
 case round=>
  obtain⟨k,hk,rfl,HN,hbw⟩:=hrel
  by_cases hlt:k<l.length
  ·obtain⟨b,off,rfl,hb,hx1,hx2,hx3⟩:=hi'.mono hbw k hlt
   have B:=Z1t l[k] c p wr (Zab hbw h)
   have HT:=LH (fun(h:l[k].letter=c)=>HR.out.trans (Z4g hlt h (fun i hi=>HN.out i hi (by omega))))
   have HN2:=LH (fun(h:l[k].letter≠c)=>show ∀j (_:j<k+1) (h:j<l.length),l[j].letter≠c from fun j hj hjl=>if hjk:j<k then HN.out j hjk hjl else (by have e:j=k:=(by omega);subst e;exact h))
   have B:=LH B
   generalize l[k]=x at B HT HN2 hx1 hx2 hx3
   obtain⟨xl,xs,xi⟩:=x
   simp only at B HT HN2 hx1 hx2 hx3
   by_cases he:xl=c
   ·replace HT:=LH (HT.out he)
    have B2:=LH (show Calls Tryz.prog 163 #[.agg #[.int .u8 xl,.int .i64 xs,.bool xi],.pointer (some ⟨p,0,none⟩)] wr fun e w'=>e=.returned (.bool true)∧Below wr.heap.size wr w' from by have:=B.out;rwa [decide_eq_true he] at this)
    clear B HN2 he
    go_wp2_with (go_at_call 163;go_must (refine B2.out.mono ?_;rintro e w2 ⟨rfl,hb2⟩;dsimp only))
    go_ret
    exact⟨Za7 HT.out.symm,hbw.trans (hb2.mono hbw.size)⟩
   ·replace HN2:=LH (HN2.out he)
    have B2:=LH (show Calls Tryz.prog 163 #[.agg #[.int .u8 xl,.int .i64 xs,.bool xi],.pointer (some ⟨p,0,none⟩)] wr fun e w'=>e=.returned (.bool false)∧Below wr.heap.size wr w' from by have:=B.out;rwa [decide_eq_false he] at this)
    clear B HT he
    go_wp2_with (go_at_call 163;go_must (refine B2.out.mono ?_;rintro e w2 ⟨rfl,hb2⟩;dsimp only))
    go_roundw
    case rel=>exact⟨k+1,by omega,by go_num,HN2,hbw.trans (hb2.mono hbw.size)⟩
    case measure=>simp[intOf];omega
  ·obtain rfl:k=l.length:=by omega
   go_wp2
   go_ret
   exact⟨Za7 (HR.out.trans (Zv6 (fun i hi=>HN.out i hi hi))).symm,hbw⟩
theorem Zle (a:Option Addr) (l:List EaL) (k:Nat) (c:Int) (w:World) (hl:l.length≤9223372036854775807) (hi:Za1 w a l):
  Calls Tryz.prog 121 #[.slice a l.length k,.int .u8 c] w fun e w'=>e=.returned (.int .i64 (idxL l c))∧Below w.heap.size w w':=by
 have I:=LH (fun(W:World) (p:Nat) (hb:Below w.heap.size w W) h=>Z1r a l k c p W hl (hi.mono hb) h)
 go_enter Tryz.func121,Tryz.ntmps121
 go_wp2_with (go_at_call 162;go_must (refine(I.out _ _ ?_ ?_).mono ?_;(exact(Below.refl _ _).alloc (Nat.le_refl _) _);(simp);rintro e w2 ⟨rfl,hb2⟩;dsimp only))
 go_ret
 exact⟨rfl,((Below.refl _ w).alloc (Nat.le_refl _) _).trans (hb2.mono (by simp))⟩
end
section
open Go Go.RowKit Go.Shelf
theorem Zjs (P:Program) (w:World) (a:Addr) (m:Mode) (fn:Fn) (first captured:Array Value):(store a (.func fn first captured) m).run P w=stored P w a (.func fn first captured) m:=run_store P w a _ m rfl
attribute [local go_sem] Zjs
theorem Znx (x lo hi:Int) (hx:lo≤x∧x≤hi) (a:Nat) (w:World) (h:w.cell? ⟨a,0,none⟩=some (.int .i64 x)):
  Calls Tryz.prog 76 #[.int .i64 lo,.int .i64 hi,.slice (some ⟨a,0,none⟩) 1 1] w fun e w'=>e=.returned (.bool false)∧Below w.heap.size w w':=by
 have:=Zoc x lo hi a w h
 rwa [Zbx.2 hx] at this
structure LetOk (S:Nat) (l:List EaL) (i:Nat):Prop where
 lt:i<l.length
 letter:97≤l[i].letter∧l[i].letter≤122
 new:∀j (_:j<i),l[j].letter≠l[i].letter
 sounds:0≤l[i].sounds∧l[i].sounds<2^S
 some:l[i].sounds=0→l[i].silent=true
theorem Zxt (a:Option Addr) (l:List EaL) (k S i:Nat) (w:World) (hl:l.length≤9223372036854775807) (hi:Za1 w a l) (hx:LetOk S l i):
  Calls Tryz.prog 166 #[.slice a l.length k,.int .i64 (i:Int)] w fun e w'=>e=.returned (.bool false)∧Below w.heap.size w w':=by
 have hlt:=hx.lt
 have h1:=hx.letter
 obtain⟨b,off,rfl,hb,c0,_⟩:=hi i hlt
 generalize l[i].letter=x at h1 c0
 have B:=LH (fun(a:Nat) (W:World) h=>Znx x 97 122 h1 a W h)
 go_enter Tryz.func166,Tryz.ntmps166
 go_wp2_with (go_at_call 76;go_must (refine(B.out _ _ ?_).mono ?_;(simp);rintro e w2 ⟨rfl,hb2⟩;dsimp only))
 go_ret
 exact⟨rfl,((Below.refl _ w).alloc (Nat.le_refl _) _).trans (hb2.mono (by simp))⟩
theorem Zzy (a:Option Addr) (l:List EaL) (k S i:Nat) (w:World) (ho:SlOk a l.length k) (hi:Za1 w a l) (hx:LetOk S l i):
  Calls Tryz.prog 167 #[.slice a l.length k,.int .i64 (i:Int)] w fun e w'=>e=.returned (.bool false)∧Below w.heap.size w w':=by
 have hlt:=hx.lt
 have hl:=ho.len
 have hso:=ho.1
 have h1:=hx.letter
 have hti:(l.take i).length=i:=by rw[List.length_take];omega
 have hno:idxL (l.take i) l[i].letter=-1:=Zv6 (fun j hj=>by
  rw[List.length_take] at hj
  rw[List.getElem_take]
  exact hx.new j (by omega))
 obtain⟨b,off,rfl,hb,c0,_⟩:=hi i hlt
 have K:=LH (fun(W:World) (h:Below w.heap.size w W)=>(show Calls Tryz.prog 121 #[.slice (some ⟨b,off,none⟩) i k,.int .u8 l[i].letter] W fun e w'=>e=.returned (.int .i64 (-1))∧Below W.heap.size W w' from by
  have:=Zle (some ⟨b,off,none⟩) (l.take i) k l[i].letter W (by omega) ((hi.mono h).take i)
  rw[hti,hno] at this
  exact this))
 clear hno hti
 have hik:(i:Int)≤(k:Int):=by omega
 have hi0:(0:Int)≤(i:Int):=by omega
 have hil:(i:Int)<(l.length:Int):=by omega
 generalize l[i].letter=x at h1 c0 K
 have KE:Hid (∀V,Below w.heap.size w V→(Below w.heap.size w V∧V.cell? ⟨b,off+i*3,none⟩=some (.int .u8 x)∧b<V.heap.size)):=LH (fun V h=>⟨h,Zab h c0,Nat.lt_of_lt_of_le hb h.size⟩)
 go_enter Tryz.func167,Tryz.ntmps167
 go_upto_region 1 with(fail)
 have hg0:Below w.heap.size w w.drew:=Zah (Below.refl _ _)
 have hs0:=hg0.size
 go_region_held3 (fun V=>Below w.heap.size w V∧V.cell? ⟨b,off+i*3,none⟩=some (.int .u8 x)∧b<V.heap.size) (first|exact KE.out _ hg0|exact KE.out _ hg1) (first
   |(go_at_call 121;refine(K.out _ hg0).mono ?_;rintro e w2 ⟨rfl,hgs⟩;have hg1:=hg0.trans (hgs.mono hs0);dsimp only))
 go_wp2
 go_ret
 exact⟨rfl,hg1⟩
theorem Z28:∀S:Nat,S≤4→IntKind.i64.wrap (IntKind.i64.wrap (2^S)-1)=((2^S-1:Nat):Int):=by decide +kernel
theorem Zyo (a:Option Addr) (l:List EaL) (k S i p:Nat) (w:World) (hl:l.length≤9223372036854775807) (hi:Za1 w a l) (hx:LetOk S l i) (hS:S≤4) (cp:w.cell? ⟨p,0,none⟩=some (.int .i64 (S:Int))):
  Calls Tryz.prog 168 #[.slice a l.length k,.int .i64 (i:Int),.pointer (some ⟨p,0,none⟩)] w fun e w'=>e=.returned (.bool false)∧Below w.heap.size w w':=by
 have hlt:=hx.lt
 have h1:=hx.sounds
 obtain⟨b,off,rfl,hb,_,c0,_⟩:=hi i hlt
 generalize l[i].sounds=x at h1 c0
 have hpw:=Z28 S hS
 have hS64:(S:Int)<64:=by omega
 have hz:=Nat.two_pow_pos S
 have e1:((2:Int)^S)=((2^S:Nat):Int):=by simp
 rw[e1] at h1
 have B:=LH (fun(a:Nat) (W:World) h=>Znx x 0 ((2^S-1:Nat):Int) (by omega) a W h)
 clear e1 h1
 generalize ((2^S-1:Nat):Int)=M at B hpw
 have KE:Hid (∀V,Below w.heap.size w V→(Below w.heap.size w V∧V.cell? ⟨p,0,none⟩=some (.int .i64 (S:Int))∧V.cell? ⟨b,off+i*3+1,none⟩=some (.int .i64 x)∧b<V.heap.size∧p<V.heap.size)):=LH (fun V h=>⟨h,Zab h cp,Zab h c0,Nat.lt_of_lt_of_le hb h.size,Nat.lt_of_lt_of_le (Zag cp) h.size⟩)
 have hp:=Zag cp
 go_enter Tryz.func168,Tryz.ntmps168
 go_upto_region 1 with(fail)
 apply Zdh _ (fun V=>Below w.heap.size w V)
 ·focus go_region_with (go_at_call 76;((with_reducible refine(B.out _ _ ?_).mono ?_);(simp);rintro e w2 ⟨rfl,hb2⟩;dsimp only))
  all_goals exact⟨rfl,(Zah ((Below.refl _ w).alloc (Nat.le_refl _) _)).trans (hb2.mono (by simp))⟩
 intro V hV
 go_wp2
 go_ret
 exact⟨rfl,hV⟩
theorem Zys (a:Option Addr) (l:List EaL) (k S i:Nat) (w:World) (hl:l.length≤9223372036854775807) (hi:Za1 w a l) (hx:LetOk S l i):
  Calls Tryz.prog 169 #[.slice a l.length k,.int .i64 (i:Int)] w fun e w'=>e=.returned (.bool false)∧Below w.heap.size w w':=by
 have hlt:=hx.lt
 have h1:=hx.some
 obtain⟨b,off,rfl,hb,_,c0,c1⟩:=hi i hlt
 generalize l[i].sounds=x at h1 c0
 generalize l[i].silent=y at h1 c1
 by_cases hz:x=0
 ·have e2:=Zdv hz
  have:=h1 hz
  subst this
  subst hz
  go_enter Tryz.func169,Tryz.ntmps169
  go_wp2
  go_ret
  exact⟨rfl,Below.refl _ _⟩
 ·have e2:=Zc4 hz
  clear h1
  go_enter Tryz.func169,Tryz.ntmps169
  go_wp2
  go_ret
  exact⟨rfl,Below.refl _ _⟩
@[reducible] def Zk2 (p:Nat):Array Value:=#[.int .i64 6,.func (.func 166) #[] #[],.int .i64 5,.func (.func 167) #[] #[],.int .i64 7,.func (.func 168) #[] #[.pointer (some ⟨p,0,none⟩)],.int .i64 2,.func (.func 169) #[] #[]]
theorem Zyc (S:Int) (w:World):Calls Tryz.prog 132 #[.int .i64 S] w fun e w'=>e=.returned (.slice (some ⟨w.heap.size+1,0,none⟩) 4 4)∧w'=(w.alloc (.cells #[.int .i64 S] 3)).alloc (.cells (Zk2 w.heap.size) 209):=by
 go_enter Tryz.func132,Tryz.ntmps132
 go_wp2
 go_ret
 exact⟨by simp,rfl⟩
end
section
open Go Go.RowKit Go.Shelf
attribute [local go_sem] Zjs
@[reducible] def Z68:Nat→Nat
 |0=>166
 |1=>167
 |2=>168
 |_=>169
@[reducible] def Zxo (p:Nat):Nat→Array Value
 |2=>#[.pointer (some ⟨p,0,none⟩)]
 |_=>#[]
theorem Z01 (a:Option Addr) (l:List EaL) (k S i p n:Nat) (hn:n<4) (w:World) (ho:SlOk a l.length k) (hi:Za1 w a l) (hx:LetOk S l i) (hS:S≤4) (cp:w.cell? ⟨p,0,none⟩=some (.int .i64 (S:Int))):
  Calls Tryz.prog (Z68 n) (#[.slice a l.length k,.int .i64 (i:Int)]++Zxo p n) w fun e w'=>e=.returned (.bool false)∧Below w.heap.size w w':=by
 obtain rfl|rfl|rfl|rfl:n=0∨n=1∨n=2∨n=3:=by omega
 ·exact Zxt a l k S i w ho.len hi hx
 ·exact Zzy a l k S i w ho hi hx
 ·exact Zyo a l k S i p w ho.len hi hx hS cp
 ·exact Zys a l k S i w ho.len hi hx
theorem Zzj (al:Option Addr) (l:List EaL) (cl i B A S:Nat) (x:EaL) (w:World) (ho:SlOk al l.length cl) (hi:Za1 w al l) (hx:LetOk S l i) (hS:S≤4) (cB:w.cell? ⟨B,0,none⟩=some (.int .i64 (S:Int))) (cA:w.cell? ⟨A,1,none⟩=some (.slice al l.length cl)):
  Calls Tryz.prog 131 #[.int .i64 (i:Int),.agg #[.int .u8 x.letter,.int .i64 x.sounds,.bool x.silent],.pointer (some ⟨B,0,none⟩),.pointer (some ⟨A,0,none⟩)] w fun e w'=>e=.returned (.int .i64 0)∧Below w.heap.size w w':=by
 obtain⟨xl,xs,xi⟩:=x
 simp only
 have zB:=Zag cB
 have FS:=LH (fun W:World=>Zyc (S:Int) W)
 have HI:=LH hi
 have HX:=LH hx
 have CA:=LH cA
 clear hi hx cA
 go_enter Tryz.func131,Tryz.ntmps131
 go_upto_region 2 with(go_at_call 132;go_must ((with_reducible refine(FS.out _).mono ?_);rintro e w2 ⟨rfl,rfl⟩;dsimp only))
 obtain⟨Y,hY⟩:∃Y:World,Y=((w.alloc (.cells #[.int .u8 xl,.int .i64 xs,.bool xi] 137)).alloc (.cells #[.int .i64 (S:Int)] 3)).alloc (.cells (Zk2 (w.heap.size+1)) 209):=⟨_,rfl⟩
 have hF0:Y.heap[w.heap.size+1+1]?=some (.cells (Zk2 (w.heap.size+1)) 209 (0,0)):=by rw[hY];exact Zac _ _ (by simp)
 have hp0:Y.cell? ⟨w.heap.size+1,0,none⟩=some (.int .i64 (S:Int)):=by rw[hY];exact Zaa 0 ((heap_alloc_old _ _ (by simp)).trans (Zac _ _ (by simp))) rfl
 have hbY:Below w.heap.size w Y:=by rw[hY];exact(((Below.refl _ w).alloc (Nat.le_refl _) _).alloc (by simp) _).alloc (by simp;omega) _
 rw[←hY]
 clear hY
 go_loopw [13] (fun i wr=>∃k:Nat,k≤4∧i=.int .i64 k∧Below Y.heap.size Y wr) (fun i _=>4-(intOf i).toNat)
 case atStart=>exact⟨0,Nat.zero_le _,rfl,Below.refl _ _⟩
 case round=>
  obtain⟨k,hk,rfl,hb⟩:=hrel
  have hbz:=hb.size
  have zF0:=lt_of_block hF0
  have hF:=(hb.block _ zF0).trans hF0
  have zF:=lt_of_block hF
  have hbw:=hbY.trans (hb.mono hbY.size)
  by_cases hlt:k<4
  ·have FK:=fun(V:World) (hV:Below Y.heap.size Y V)=>Z01 al l cl S i (w.heap.size+1) k hlt V ho (HI.out.mono (hbY.trans (hV.mono hbY.size))) HX.out hS (Zab hV hp0)
   have KA:Hid (∀V,Below Y.heap.size Y V→V.cell? ⟨A,1,none⟩=some (.slice al l.length cl)∧A<V.heap.size):=LH (fun V hV=>⟨Zab (hbY.trans (hV.mono hbY.size)) CA.out,Nat.lt_of_lt_of_le (Zag CA.out) (hbY.trans (hV.mono hbY.size)).size⟩)
   obtain⟨ca,caz⟩:=KA.out _ hb
   have c0:=Zaa 0 hF rfl
   have c1:=Zaa 1 hF rfl
   have c2:=Zaa 2 hF rfl
   have c3:=Zaa 3 hF rfl
   have c4:=Zaa 4 hF rfl
   have c5:=Zaa 5 hF rfl
   have c6:=Zaa 6 hF rfl
   have c7:=Zaa 7 hF rfl
   simp only[List.getElem_toArray,List.getElem_cons_zero,List.getElem_cons_succ] at c0 c1 c2 c3 c4 c5 c6 c7
   obtain rfl|rfl|rfl|rfl:k=0∨k=1∨k=2∨k=3:=by omega
   all_goals
    simp only[Z68,Zxo,List.append_toArray,List.append_nil,List.cons_append,List.nil_append] at FK
    replace FK:=LH FK
    replace hF:=LH hF
    go_wp2_with ((with_reducible refine(FK.out _ (hb.alloc hbz _)).mono ?_);rintro e w5 ⟨rfl,hb5'⟩;have hb5:=(hb.alloc hbz _).trans (hb5'.mono (by simp;omega));dsimp only)
    go_roundw
    case rel=>first|exact⟨1,by omega,by go_num,hb5⟩|exact⟨2,by omega,by go_num,hb5⟩|exact⟨3,by omega,by go_num,hb5⟩|exact⟨4,by omega,by go_num,hb5⟩
    case measure=>simp[intOf]
  ·obtain rfl:k=4:=by omega
   go_wp2
   go_ret
   exact⟨rfl,hbw⟩
theorem Zzg (a:Option Addr) (l:List EaL) (c F:Nat) (caps:Array Value) (w:World) (hl:l.length≤9223372036854775807) (hi:Za1 w a l)
  (hCF:∀(xs:Array Value) (W:World),(callFunc F xs).run Tryz.prog W=.ok (.enter F xs) W)
  (hK:∀(k:Nat) (h:k<l.length) (W:World),Below w.heap.size w W→Calls Tryz.prog F (#[.int .i64 (k:Int),.agg #[.int .u8 l[k].letter,.int .i64 l[k].sounds,.bool l[k].silent]]++caps) W fun e W'=>e=.returned (.int .i64 0)∧Below W.heap.size W W'):
  Calls Tryz.prog 130 #[.slice a l.length c,.func (.func F) #[] caps] w fun e w'=>e=.returned (.tuple #[.int .i64 0,.int .i64 0])∧Below w.heap.size w w':=by
 replace hK:=LH hK
 go_enter Tryz.func130,Tryz.ntmps130
 go_wp2
 go_loopw [11] (fun i wr=>∃k:Nat,k≤l.length∧i=.int .i64 k∧Below w.heap.size w wr) (fun i _=>l.length-(intOf i).toNat)
 case atStart=>exact⟨0,Nat.zero_le _,rfl,Below.refl _ _⟩
 case round=>
  obtain⟨k,hk,rfl,hbw⟩:=hrel
  by_cases hlt:k<l.length
  ·have K:=LH (fun(W:World) (h:Below w.heap.size w W)=>hK.out k hlt W h)
   obtain⟨b,off,rfl,hb,h1,h2,h3⟩:=(hi.mono hbw) k hlt
   generalize l[k]=x at K h1 h2 h3
   obtain⟨xl,xs,xi⟩:=x
   simp only at K h1 h2 h3
   go_wp2_with ((with_reducible refine(K.out _ (hbw.alloc hbw.size _)).mono ?_);rintro e w2 ⟨rfl,hb2⟩;have hbn:=(hbw.alloc hbw.size (.cells #[.int .u8 xl,.int .i64 xs,.bool xi] 137)).trans (hb2.mono (by have:=hbw.size;simp;omega));dsimp only)
   go_roundw
   case rel=>exact⟨k+1,by omega,by go_num,hbn⟩
   case measure=>simp[intOf];omega
  ·obtain rfl:k=l.length:=by omega
   go_wp2
   go_ret2
   exact⟨rfl,hbw⟩
theorem Z0o (x:EaA) (al:Option Addr) (cl:Nat) (s:ByteArray) (p:Nat) (w:World) (h:w.cell? ⟨p,0,none⟩=some (.string s)):
  Calls Tryz.prog 129 #[.agg #[.string x.name,.slice al x.letters.length cl],.pointer (some ⟨p,0,none⟩)] w fun e w'=>e=.returned (.bool (decide (x.name=s)))∧Below w.heap.size w w':=by
 obtain⟨name,letters⟩:=x
 simp only
 generalize letters.length=n
 have hp:=Zag h
 by_cases he:name=s
 ·have e2:=Z8i he
  go_enter Tryz.func129,Tryz.ntmps129
  go_wp2
  go_ret
  exact⟨Zaq (by simp[he]),by go_grown⟩
 ·have e2:=Z75 he
  go_enter Tryz.func129,Tryz.ntmps129
  go_wp2
  go_ret
  exact⟨Zaq (by simp[he]),by go_grown⟩
theorem Z1a (a:Option Addr) (l:List EaA) (c:Nat) (s:ByteArray) (p:Nat) (w:World) (hl:l.length≤9223372036854775807) (hi':Zcf w a l) (h:w.cell? ⟨p,0,none⟩=some (.string s)) (hn:∀j (h:j<l.length),l[j].name≠s):
  Calls Tryz.prog 165 #[.slice a l.length c,.func (.func 129) #[] #[.pointer (some ⟨p,0,none⟩)]] w fun e w'=>e=.returned (.int .i64 (-1))∧Below w.heap.size w w':=by
 replace hn:=LH hn
 go_enter Tryz.func165,Tryz.ntmps165
 go_wp2
 go_loopw [8] (fun i wr=>∃k:Nat,k≤l.length∧i=.int .i64 k∧Below w.heap.size w wr) (fun i _=>l.length-(intOf i).toNat)
 case atStart=>exact⟨0,Nat.zero_le _,rfl,Below.refl _ _⟩
 case round=>
  obtain⟨k,hk,rfl,hbw⟩:=hrel
  by_cases hlt:k<l.length
  ·obtain⟨b,off,rfl,hb,hx1,al,cl,hx2,_⟩:=hi'.mono hbw k hlt
   have B:=Z0o l[k] al cl s p wr (Zab hbw h)
   rw[decide_eq_false (hn.out k hlt)] at B
   generalize l[k]=x at B hx1 hx2
   obtain⟨xn,xl⟩:=x
   simp only at B hx1 hx2
   generalize xl.length=n at B hx2
   replace B:=LH B
   go_wp2_with (go_at_call 129;go_must (refine B.out.mono ?_;rintro e w2 ⟨rfl,hb2⟩;dsimp only))
   go_roundw
   case rel=>exact⟨k+1,by omega,by go_num,hbw.trans (hb2.mono hbw.size)⟩
   case measure=>simp[intOf];omega
  ·obtain rfl:k=l.length:=by omega
   go_wp2
   go_ret
   exact⟨rfl,hbw⟩
theorem Zz0 (a:Option Addr) (l:List EaA) (c:Nat) (s:ByteArray) (p:Nat) (w:World) (hl:l.length≤9223372036854775807) (hi':Zcf w a l) (h:w.cell? ⟨p,0,none⟩=some (.string s)) (hn:∀j (h:j<l.length),l[j].name≠s):
  Calls Tryz.prog 128 #[.slice a l.length c,.func (.func 129) #[] #[.pointer (some ⟨p,0,none⟩)]] w fun e w'=>e=.returned (.bool false)∧Below w.heap.size w w':=by
 have I:=LH (Z1a a l c s p w hl hi' h hn)
 go_enter Tryz.func128,Tryz.ntmps128
 go_wp2_with (go_at_call 165;go_must (refine I.out.mono ?_;rintro e w2 ⟨rfl,hb2⟩;dsimp only))
 go_ret
 exact⟨rfl,hb2⟩
end
end Go.Proofs.YtklconegomgjaaaGreat
