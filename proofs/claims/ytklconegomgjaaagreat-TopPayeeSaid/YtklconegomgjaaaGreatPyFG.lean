/- What is proved here: marks in memory (a slice of 3125 bools). No condition. -/
import Derived.Test.YtklconegomgjaaaGreatPeSpecG
import Derived.Test.YtklconegomgjaaaGreatErEG
import Derived.Test.YtklconegomgjaaaGreatEaCanG
import Derived.Test.YtklconegomgjaaaGreatPyNG
import Derived.Test.YtklconegomgjaaaGreatMidG
import Derived.Test.YtklconegomgjaaaGreatOnlyG
import Derived.Test.YtklconegomgjaaaGreatPeYearLG
set_option linter.all false
set_option maxRecDepth 100000
set_option maxHeartbeats 16000000
namespace Go.Proofs.YtklconegomgjaaaGreat
section
open Go Go.RowKit Go.Shelf
theorem Z25:ElemInfo Tryz.prog 218 4 (.bool false) 1 1:=⟨by kernel_rfl,by kernel_rfl,rfl,by decide⟩
def Zdj (W:World) (g:Nat) (f:Nat→Bool):Prop:=∃cs:Array Value,W.heap[g]?=some (.cells cs 4 (0,0))∧cs.size=3125∧∀c,c<3125→cs[c]?=some (.bool (f c))
section
variable {W W':World} {g:Nat} {f:Nat→Bool}
theorem Zdj.lt (h:Zdj W g f):g<W.heap.size:=by
 obtain⟨cs,h1,-,-⟩:=h
 exact lt_of_block h1
theorem Zdj.cell (h:Zdj W g f) {c:Nat} (hc:c<3125):W.cell? ⟨g,c,none⟩=some (.bool (f c)):=by
 obtain⟨cs,h1,-,h3⟩:=h
 exact Zaa c h1 (h3 c hc)
theorem Zdj.free (h:Zdj W g f) (c:Nat):W.frozen? ⟨g,c,none⟩=false:=by
 obtain⟨cs,h1,-,-⟩:=h
 exact Zad c h1
theorem Zdj.same (h:Zdj W g f) (hs:W'.heap[g]?=W.heap[g]?):Zdj W' g f:=by
 obtain⟨cs,h1,h2,h3⟩:=h
 exact⟨cs,hs.trans h1,h2,h3⟩
theorem Zdj.mono (h:Zdj W g f) (hb:Below W.heap.size W W'):Zdj W' g f:=h.same (hb.block _ h.lt)
theorem Zdj.set (h:Zdj W g f) (c:Nat) (b:Bool):Zdj (W.setCell ⟨g,c,none⟩ (.bool b)) g (fun i=>if i=c then b else f i):=by
 obtain⟨cs,h1,h2,h3⟩:=h
 refine⟨_,Zak c (.bool b) h1,by simpa using h2,fun i hi=>?_⟩
 by_cases e:i=c
 ·subst e
  simp[Array.getElem?_setIfInBounds_self,h2,hi]
 ·rw[Array.getElem?_setIfInBounds_ne (Ne.symm e)];show cs[i]?=some (.bool (if i=c then b else f i));rw[if_neg e]
  exact h3 i hi
theorem Zdj.congr {f':Nat→Bool} (h:Zdj W g f) (e:∀c,c<3125→f c=f' c):Zdj W g f':=by
 obtain⟨cs,h1,h2,h3⟩:=h
 exact⟨cs,h1,h2,fun c hc=>by rw[←e c hc];exact h3 c hc⟩
end
theorem Zop (V:World):(Instr.makeSlice 218 (.int .i64 3125) (.int .i64 3125)).run Tryz.prog V=.ok (.slice (some ⟨V.heap.size,0,none⟩) 3125 3125) (V.alloc (.cells (madeCells #[.bool false] 3125) 4)):=by
 obtain⟨i,hi,hz,hsz,hby⟩:=info_parts Z25.info
 have:=run_makeSlice (P:=Tryz.prog) (w:=V) 218 4 i _ Z25.und hi hz .i64 .i64 3125 3125 (by omega) (Int.le_refl _) (by rw[hsz];decide) (by rw[hby];decide) (by decide)
 rw[hsz] at this
 exact this
theorem Znu (V:World):Zdj (V.alloc (.cells (madeCells #[.bool false] 3125) 4)) V.heap.size (fun _=>false):=by
 exact⟨_,Zac _ _ rfl,size_madeCells _ _,fun c hc=>by simp[madeCells,hc,Nat.mod_one]⟩
theorem Z6r {b:EaB} {i j:Nat} (hi:i<b.spells.length) (hj:j<b.spells[i].text.size):(Zem b (Zeo b i)).take (j+1)=(Zem b (Zeo b i)).take j++[letN b i j]:=by
 have hl:j<(Zem b (Zeo b i)).length:=by rw[Zdt hi,Zi4];exact hj
 rw[List.take_succ_eq_append_getElem hl]
 congr 2
 unfold letN
 rw[List.getElem?_eq_getElem hl]
 rfl
theorem Z7l {b:EaB} {i:Nat} (hi:i<b.spells.length):(Zem b (Zeo b i)).take b.spells[i].text.size=Zem b (Zeo b i):=by
 rw[List.take_of_length_le]
 rw[Zdt hi,Zi4]
 exact Nat.le_refl _
end
section
open Go Go.RowKit Go.Shelf
attribute [local go_sem] Zfo Zfs
theorem Zno {p:List Int} {i:Nat} (h:i<p.length):pAt p i=p[i]:=by unfold pAt;rw[List.getElem?_eq_getElem h];rfl
theorem Zx5 (g:Nat) (f:Nat→Bool) (w:World) (hm:Zdj w g f):Calls Tryz.prog 144 #[.slice (some ⟨g,0,none⟩) 3125 3125] w fun e w'=>∃r:Int,e=.returned (.int .i64 r)∧Hid (0≤r→∃c,f c=true)∧w'=w:=by
 go_enter Tryz.func144,Tryz.ntmps144
 go_wp2
 go_loop [3] (fun i=>∃n:Nat,n≤3125∧i=.int .i64 n) (fun i=>3125-(intOf i).toNat)
 case atStart=>exact⟨0,Nat.zero_le _,rfl⟩
 case round=>
  obtain⟨n,hn,rfl⟩:=hrel
  by_cases hlt:n<3125
  ·have c0:=hm.cell hlt
   have cz:=hm.lt
   by_cases hf:f n=true
   ·rw[hf] at c0
    have HF:=LH hf
    clear hf
    go_wp2
    go_ret
    exact⟨n,rfl,LH (fun _=>⟨n,HF.out⟩),rfl⟩
   ·have hf:f n=false:=by simpa using hf
    rw[hf] at c0
    clear hf
    go_wp2
    go_round
    case rel=>exact⟨n+1,by omega,by go_num⟩
    case measure=>simp[intOf];omega
  ·obtain rfl:n=3125:=by omega
   go_wp2
   go_ret
   exact⟨-1,rfl,LH (fun h=>absurd h (by decide)),rfl⟩
def ofP (p:List Int) (who:Int) (k:Nat):List Int:=((List.range k).filter fun i=>decide (pAt p i=who)).map fun(c:Nat)=>(c:Int)
theorem Zv1 {p:List Int} {who:Int} {k:Nat} {x:Int}:x∈ofP p who k↔∃i:Nat,x=(i:Int)∧i<k∧pAt p i=who:=by
 unfold ofP
 rw[List.mem_map]
 constructor
 ·rintro⟨i,h,rfl⟩
  rw[List.mem_filter,List.mem_range,decide_eq_true_eq] at h
  exact⟨i,rfl,h⟩
 ·rintro⟨i,rfl,h⟩
  exact⟨i,List.mem_filter.2 ⟨List.mem_range.2 h.1,by simpa using h.2⟩,rfl⟩
theorem Z3w (p:List Int) (who:Int) (k:Nat):(ofP p who k).length≤k:=Zkr _ _
theorem Z2b (a:Option Addr) (p:List Int) (k:Nat) (who:Int) (w:World) (hl:SlOk a p.length k) (hp:p.length≤6) (hi:Zaw w a p):
  Calls Tryz.prog 99 #[.slice a p.length k,.int .i64 who] w fun e w'=>∃v,e=.returned v∧Zbm w.heap.size w' v (ofP p who p.length)∧Below w.heap.size w w':=by
 have ll:=hl.len
 obtain⟨q,hq⟩:∃q:Nat→Bool,q=fun i=>decide (pAt p i=who):=⟨_,rfl⟩
 have hW:Hid (ofP p who p.length=((List.range p.length).filter q).map (fun(c:Nat)=>(c:Int))):=by rw[hq];exact(rfl:ofP p who p.length=_)
 generalize ofP p who p.length=r at hW ⊢
 have HP:=LH hq
 clear hq
 go_enter Tryz.func99,Tryz.ntmps99
 go_wp2
 go_loopw [5,6] (fun o i wr=>∃(c:Nat),c≤p.length∧i=.int .i64 c∧wr.ownsRow w.heap.size 3 1 o (((List.range c).filter q).map (fun(c:Nat)=>(c:Int))).length ((((List.range c).filter q).map (fun(c:Nat)=>(c:Int))).map (Value.int .i64))∧Below w.heap.size w wr) (fun _ i _=>p.length-(intOf i).toNat)
 case atStart=>exact⟨0,Nat.zero_le _,rfl,World.ownsRow_nil _ _ _ _,Below.refl _ _⟩
 case round=>
  obtain⟨c,hc,rfl,hown,hB⟩:=hrel
  have hB1:=hB.size
  by_cases hlt:c<p.length
  ·have hst:=LH (Zh8 q c)
   have hkl:=Zkr q c
   generalize hL:((List.range c).filter q).map (fun(c:Nat)=>(c:Int))=L at hown hst hkl
   clear hL
   obtain⟨b,off,hae,hb,c0⟩:=(hi.mono hB) c hlt
   have hpc:q c=decide (p[c]=who):=by rw[HP.out,←Zno hlt]
   generalize p[c]=x at hpc c0
   subst hae
   by_cases he:x=who
   ·have e1:=Zdv he
    rw[decide_eq_true he] at hpc
    rw[hpc] at hst
    clear hpc he
    go_wp2_with (at_builtin;go_must (refine Zbs (.tmp 19) (.tmp 21) Zh3 rfl rfl rfl rfl w.heap.size L.length 1 (L.map (Value.int .i64)) [.int .i64 (c:Int)] (hown.alloc _) (Za2.one _ _ _ rfl) (by omega) (by decide) (by simp;omega) ?_;intro v2 w2 ho2 hg2 _;(have hb2:=Zdw hB (Nat.le_refl _) (Nat.le_refl _) hown hg2);clear hg2;simp only[frT]))
    go_roundw
    case rel=>exact⟨c+1,by omega,by go_num,by rw[hst.out];simpa using ho2,hb2⟩
    case measure=>simp[intOf];omega
   ·have e1:=Zc4 he
    rw[decide_eq_false he] at hpc
    rw[hpc] at hst
    clear hpc he
    go_wp2
    go_roundw
    case rel=>exact⟨c+1,by omega,by go_num,by rw[hst.out];simpa using hown,hB⟩
    case measure=>simp[intOf];omega
  ·obtain rfl:c=p.length:=by omega
   go_wp2
   go_ret
   rw[hW.out]
   exact⟨_,rfl,Zm9 hown,hB⟩
def cntP (p:List Int):Nat→Int
 |0=>0
 |k+1=>max (cntP p k) (pAt p k+1)
theorem Zh2 {p:List Int} (h:∀i,0≤pAt p i∧pAt p i<6):∀k,0≤cntP p k∧cntP p k≤6∧∀i,i<k→pAt p i<cntP p k
 |0=>⟨by simp[cntP],by simp[cntP],fun i h=>absurd h (Nat.not_lt_zero i)⟩
 |k+1=>by
  have h1:=Zh2 h k
  have h2:=h k
  rw[cntP]
  refine⟨by omega,by omega,fun i hi=>?_⟩
  by_cases e:i=k
  ·subst e;omega
  ·have:=h1.2.2 i (by omega)
   omega
theorem Zkx (a:Option Addr) (p:List Int) (k:Nat) (w:World) (hl:SlOk a p.length k) (hi:Zaw w a p) (hb6:∀i,0≤pAt p i∧pAt p i<6):
  Calls Tryz.prog 97 #[.slice a p.length k] w fun e w'=>e=.returned (.int .i64 (cntP p p.length))∧w'=w:=by
 have ll:=hl.len
 have HC:=LH (Zh2 hb6)
 obtain⟨r,hr⟩:∃r,r=cntP p p.length:=⟨_,rfl⟩
 rw[←hr]
 have HR:=LH hr
 clear hr
 go_enter Tryz.func97,Tryz.ntmps97
 go_wp2
 go_loop [3,4] (fun m i=>∃n:Nat,n≤p.length∧i=.int .i64 n∧m=.int .i64 (cntP p n)) (fun _ i=>p.length-(intOf i).toNat)
 case atStart=>exact⟨0,Nat.zero_le _,rfl,rfl⟩
 case round=>
  obtain⟨n,hn,rfl,rfl⟩:=hrel
  by_cases hlt:n<p.length
  ·obtain⟨b,off,hae,hb,c0⟩:=hi n hlt
   have hx:=hb6 n
   have hst:cntP p (n+1)=max (cntP p n) (p[n]+1):=by rw[cntP,Zno hlt]
   rw[Zno hlt] at hx
   generalize p[n]=x at hst hx c0
   have hc:=(HC.out n).2.1
   have hc0:=(HC.out n).1
   generalize cntP p n=m at hst hc hc0
   subst hae
   have HST:=LH hst
   clear hst
   go_wp2
   go_round
   case rel=>exact⟨n+1,by omega,by go_num,by rw[HST.out]⟩
   case measure=>simp[intOf];omega
  ·obtain rfl:n=p.length:=by omega
   go_wp2
   go_ret
   exact⟨Za7 HR.out.symm,rfl⟩
theorem Z3o (t:PeW) (x:PeT) (a:Option Addr) (p:List Int) (k:Nat) (w:World) (hl:SlOk a p.length k) (hi:Zaw w a p) (h1:0≤x.a∧x.a<p.length) (h2:0≤x.b∧x.b<p.length):
  Calls Tryz.prog 100 #[.agg #[.int .i64 x.a,.int .i64 x.b,.bool x.same],.slice a p.length k] w fun e w'=>e=.returned (.bool (tieB t p x))∧Below w.heap.size w w':=by
 have ll:=hl.len
 obtain⟨xa,xb,xs⟩:=x
 obtain⟨na,rfl⟩:∃n:Nat,xa=(n:Int):=⟨xa.toNat,by simp only at h1;omega⟩
 obtain⟨nb,rfl⟩:∃n:Nat,xb=(n:Int):=⟨xb.toNat,by simp only at h2;omega⟩
 have g1:na<p.length:=by simp only at h1;omega
 have g2:nb<p.length:=by simp only at h2;omega
 have hT:tieB t p ⟨na,nb,xs⟩=(decide (p[na]=p[nb])==xs):=by unfold tieB;simp only[Int.toNat_natCast,Zno g1,Zno g2]
 obtain⟨r,hr⟩:∃r,r=tieB t p ⟨na,nb,xs⟩:=⟨_,rfl⟩
 rw[←hr]
 rw[hT] at hr
 clear hT
 obtain⟨Y,hY⟩:∃Y:World,Y=w.alloc (.cells #[.int .i64 (na:Int),.int .i64 (nb:Int),.bool xs] 44):=⟨_,rfl⟩
 have hbY:Below w.heap.size w Y:=by rw[hY];exact(Below.refl _ _).alloc (Nat.le_refl _) _
 have hB:Y.heap[w.heap.size]?=some (.cells #[.int .i64 (na:Int),.int .i64 (nb:Int),.bool xs] 44 (0,0)):=by rw[hY];exact Zac _ _ rfl
 have HY:=LH hY
 clear hY
 obtain⟨b,off,hae,hb,c0⟩:=(hi.mono hbY) na g1
 obtain⟨b',off',hae',hb',c1⟩:=(hi.mono hbY) nb g2
 generalize p[na]=x at c0 hr
 generalize p[nb]=y at c1 hr
 have HR:=LH hr
 clear hr
 subst hae
 cases hae'
 have y0:=Zaa 0 hB rfl
 have y1:=Zaa 1 hB rfl
 have y2:=Zaa 2 hB rfl
 have yz:=lt_of_block hB
 simp only[List.getElem_toArray,List.getElem_cons_zero,List.getElem_cons_succ] at y0 y1 y2
 have HBY:=LH hbY
 clear hB h1 h2 hi hbY
 go_enter Tryz.func100,Tryz.ntmps100
 go_upto_region 1 with(fail)
 rw[←HY.out]
 by_cases he:x=y
 ·have e1:=Zdv he
  have HE:=LH he
  clear he
  go_quiet (fail)
  go_wp2
  go_ret
  exact⟨Zaq (by rw[HR.out,decide_eq_true HE.out];cases xs<;>rfl),Zan HBY.out nq⟩
 ·have e1:=Zc4 he
  have HE:=LH he
  clear he
  go_quiet (fail)
  go_wp2
  go_ret
  exact⟨Zaq (by rw[HR.out,decide_eq_false HE.out];cases xs<;>rfl),Zan HBY.out nq⟩
end
section
open Go Go.RowKit Go.Shelf
structure StI (Y U:World) (g g2 p8:Nat) (f:Nat→Bool) (x:EaL):Prop where
 q:Below Y.heap.size Y U
 out:Zdj U g f
 let_:U.heap[p8]?=some (.cells #[.int .u8 x.letter,.int .i64 x.sounds,.bool x.silent] 137 (0,0))
 ge:Y.heap.size≤g∧g<g2∧p8<g2∧Y.heap.size≤g2
theorem StI.set {Y U:World} {g g2 p8:Nat} {f:Nat→Bool} {x:EaL} (h:StI Y U g g2 p8 f x) (c:Nat) (v:Value):StI Y (U.setCell ⟨g2,c,none⟩ v) g g2 p8 f x:=by
 obtain⟨h1,h2,h3,h4⟩:=h
 exact⟨h1.setCell h4.2.2.2 _,h2.same (Zae (by omega)),(Zae (by omega)).trans h3,h4⟩
theorem StI.on {Y U U':World} {g g2 p8:Nat} {f:Nat→Bool} {x:EaL} (h:StI Y U g g2 p8 f x) (hz:g2<U.heap.size) (hb:Below U.heap.size U U'):StI Y U' g g2 p8 f x:=by
 obtain⟨h1,h2,h3,h4⟩:=h
 exact⟨h1.trans (hb.mono h1.size),h2.same (hb.block _ (by omega)),(hb.block _ (by omega)).trans h3,h4⟩
def Z1q (S:Nat) (ls:List EaL) (w:World) (e:Ending) (w':World):Prop:=∃g f,e=.returned (.slice (some ⟨g,0,none⟩) 3125 3125)∧Zdj w' g f∧Hid (Zfk S ls f)∧w.heap.size≤g∧Below w.heap.size w w'
theorem Ztj (a1 a2:Option Addr) (k1 k2:Nat) (b:EaB) (i':Nat) (w:World) (hm:BookC w a1 a2 k1 k2 b) (hv:EaValid b) (hi:i'<b.spells.length):
  Calls Tryz.prog 174 #[(.agg #[.int .i64 b.sounds,.slice a1 b.alphas.length k1,.slice a2 b.spells.length k2]),.agg #[.int .i64 b.spells[i'].alpha,.string b.spells[i'].text]] w (Z1q b.sounds.toNat (Zem b (Zeo b i')) w):=by
 have l1:=hm.oka.len
 have la:=hm.oka.1
 have hspell:=hv.spell i' hi
 obtain⟨S,hS⟩:∃S:Nat,b.sounds=(S:Int):=⟨b.sounds.toNat,by have:=hv.sounds;omega⟩
 have hS4:S≤4:=by have:=hv.sounds;omega
 rw[show b.sounds.toNat=S from by omega]
 obtain⟨Y,hY⟩:∃Y:World,Y=(w.alloc (.cells #[.int .i64 b.sounds,.slice a1 b.alphas.length k1,.slice a2 b.spells.length k2] 25)).alloc (.cells #[.int .i64 b.spells[i'].alpha,.string b.spells[i'].text] 134):=⟨_,rfl⟩
 have hbY:Below w.heap.size w Y:=by rw[hY];exact((Below.refl _ _).alloc (Nat.le_refl _) _).alloc (by simp) _
 have hB1:Y.heap[w.heap.size]?=some (.cells #[.int .i64 b.sounds,.slice a1 b.alphas.length k1,.slice a2 b.spells.length k2] 25 (0,0)):=by rw[hY];exact(heap_alloc_old _ _ (by simp)).trans (Zac _ _ rfl)
 have hB2:Y.heap[w.heap.size+1]?=some (.cells #[.int .i64 b.spells[i'].alpha,.string b.spells[i'].text] 134 (0,0)):=by rw[hY];exact Zac _ _ (by simp)
 rw[hS] at hB1
 have HY:=LH hY
 clear hY
 have HA:=LH (hm.mono hbY).alphas
 have HBY:=LH hbY
 have HSP:=LH hspell
 have HLT:=LH (fun(n:Nat) (hn:n<b.spells[i'].text.size)=>Zwu hv hi hn)
 have HTK:=LH (fun(n:Nat) (hn:n<b.spells[i'].text.size)=>Z6r hi hn)
 have HOK:=LH (fun(n:Nat) (hn:n<b.spells[i'].text.size)=>Z2x hv hi hn)
 have HAL:=LH (Z7l hi)
 have hsz5:b.spells[i'].text.size≤5:=hspell.2.2.2.1
 have HS:=LH hS
 clear hm hbY hv hspell hS
 obtain⟨ls,hls⟩:∃ls,ls=Zem b (Zeo b i'):=⟨_,rfl⟩
 rw[←hls] at HTK HAL ⊢
 clear hls
 have KE:Hid (∀V,Below Y.heap.size Y V→(V.cell? ⟨w.heap.size,0,none⟩=some (.int .i64 (S:Int))∧V.cell? ⟨w.heap.size,1,none⟩=some (.slice a1 b.alphas.length k1)∧V.cell? ⟨w.heap.size+1,0,none⟩=some (.int .i64 b.spells[i'].alpha)∧V.cell? ⟨w.heap.size+1,1,none⟩=some (.string b.spells[i'].text)∧w.heap.size<V.heap.size∧w.heap.size+1<V.heap.size)):=LH (fun V h=>by
  have q1:=(h.block _ (lt_of_block hB1)).trans hB1
  have q2:=(h.block _ (lt_of_block hB2)).trans hB2
  exact⟨Zaa 0 q1 rfl,Zaa 1 q1 rfl,Zaa 0 q2 rfl,Zaa 1 q2 rfl,lt_of_block q1,lt_of_block q2⟩)
 clear hB1 hB2
 have hmk:=Zop
 go_enter Tryz.func174,Tryz.ntmps174
 go_upto_region 1 with(fail)
 rw[←HY.out]
 go_upto_region 2 with(fail)
 obtain⟨Z,hZ⟩:∃Z:World,Z=Y.alloc (.cells (madeCells #[.bool false] 3125) 4):=⟨_,rfl⟩
 rw[←hZ]
 have hbZ:Below Y.heap.size Y Z:=by rw[hZ];exact(Below.refl _ _).alloc (Nat.le_refl _) _
 have hMZ:Zdj Z Y.heap.size (fun _=>false):=by rw[hZ];exact Znu Y
 clear hZ
 have z0:=hMZ.cell (c:=0) (by decide)
 have zf:=hMZ.free 0
 have zz:=hMZ.lt
 go_upto_region 4 with(fail)
 have hb0:=hbZ.setCell (p:=⟨Y.heap.size,0,none⟩) (Nat.le_refl _) (.bool true)
 have hM0:=(hMZ.set 0 true).congr (f':=fun c=>c==0) (fun c _=>by by_cases e:c=0<;>simp[e])
 obtain⟨X,hX⟩:∃X:World,X=Z.setCell ⟨Y.heap.size,0,none⟩ (.bool true):=⟨_,rfl⟩
 rw[←hX] at hb0 hM0 ⊢
 clear hX hbZ hMZ z0 zf zz
 go_loopw [5,6] (fun o i V=>∃(n g:Nat) (f:Nat→Bool),n≤b.spells[i'].text.size∧i=.int .i64 n∧o=.slice (some ⟨g,0,none⟩) 3125 3125∧Zdj V g f∧Hid (Zfk S (ls.take n) f)∧Y.heap.size≤g∧Below Y.heap.size Y V) (fun _ i _=>b.spells[i'].text.size-(intOf i).toNat)
 case atStart=>exact⟨0,_,_,Nat.zero_le _,rfl,rfl,hM0,LH (Zzp S),Nat.le_refl _,hb0⟩
 case round=>
  clear hb0 hM0
  rename World=>V
  obtain⟨n,g,f,hn,rfl,rfl,hMV,HMX,hgY,hbV⟩:=hrel
  obtain⟨x0,x1,y0,y1,xz,yz⟩:=KE.out _ hbV
  by_cases hlt:n<b.spells[i'].text.size
  ·obtain⟨A,k,hla⟩:=HLT.out n hlt
   have htk:=HTK.out n hlt
   have hok:=HOK.out n hlt
   have hA:=hla.alt
   have hAe:=LH hla.alpha
   have hk:=hla.klt
   obtain⟨b',off,hee,hb',d0,al,cl,d1,d2,d3⟩:=(HA.out.mono hbV) A hA
   obtain⟨bl,ol,hel,hbl,c0,c1,c2⟩:=d3 k hk
   have hll:=d2.len
   have hcl:=d2.1
   have IX:=fun(W:World) (h:Below V.heap.size V W)=>Znt (b.alphas[A]).name al (b.alphas[A]).letters cl (Zf8 b.spells[i'].text[n]) W hll (d3.mono h)
   rw[hla.idx] at IX
   unfold Zf8 at IX
   rw[←hla.is] at c0 c1 c2
   generalize letN b i' n=x at htk hok c0 c1 c2
   rw[hAe.out] at y0
   have hAi:(A:Int)<(b.alphas.length:Int):=by omega
   subst hee
   subst hel
   generalize (b.alphas[A]).name=nm at IX d0
   generalize (b.alphas[A]).letters.length=NL at IX d1 hk hcl
   go_upto_region 7 with(fail)
   obtain⟨X7,hX7⟩:∃X7:World,X7=V.alloc (.cells #[.string nm,.slice (some ⟨bl,ol,none⟩) NL cl] 130):=⟨_,rfl⟩
   rw[←hX7]
   have hb7:Below V.heap.size V X7:=by rw[hX7];exact(Below.refl _ _).alloc (Nat.le_refl _) _
   have h7:X7.heap[V.heap.size]?=some (.cells #[.string nm,.slice (some ⟨bl,ol,none⟩) NL cl] 130 (0,0)):=by rw[hX7];exact Zac _ _ rfl
   clear hX7
   obtain⟨p7,hp7⟩:∃p,p=V.heap.size:=⟨_,rfl⟩
   rw[←hp7] at h7 ⊢
   replace hp7:=LH hp7
   have SF:Hid (∀W,Below X7.heap.size X7 W→(fun W=>Below X7.heap.size X7 W∧W.cell? ⟨p7,0,none⟩=some (.string nm)∧W.cell? ⟨p7,1,none⟩=some (.slice (some ⟨bl,ol,none⟩) NL cl)∧W.cell? ⟨w.heap.size+1,1,none⟩=some (.string b.spells[i'].text)∧W.cell? ⟨bl,ol+k*3,none⟩=some (.int .u8 x.letter)∧W.cell? ⟨bl,ol+k*3+1,none⟩=some (.int .i64 x.sounds)∧W.cell? ⟨bl,ol+k*3+2,none⟩=some (.bool x.silent)∧p7<W.heap.size∧w.heap.size+1<W.heap.size∧bl<W.heap.size) W):=LH (fun W h=>by
    have q7:=(h.block _ (lt_of_block h7)).trans h7
    have hVW:=hb7.trans (h.mono hb7.size)
    obtain⟨-,-,-,q1,-,q2⟩:=KE.out _ (hbV.trans (hVW.mono hbV.size))
    exact⟨h,Zaa 0 q7 rfl,Zaa 1 q7 rfl,q1,Zab hVW c0,Zab hVW c1,Zab hVW c2,lt_of_block q7,q2,Nat.lt_of_lt_of_le hbl hVW.size⟩)
   have hkc:(k:Int)<(NL:Int):=by omega
   replace IX:=LH IX
   go_cut [8] from 28 to 37 (fun v W=>∃p8,v=.pointer (some ⟨p8,0,none⟩)∧X7.heap.size≤p8∧Below X7.heap.size X7 W∧W.heap[p8]?=some (.cells #[.int .u8 x.letter,.int .i64 x.sounds,.bool x.silent] 137 (0,0)))
   case first=>
    have hV0:=Zah (Below.refl X7.heap.size X7)
    clear x0 x1 y0 y1 xz yz c0 c1 c2 d0 d1 d2 d3 hb' hbl
    refine Zgq ?_
    refine Zcq (fun W=>Below X7.heap.size X7 W∧W.cell? ⟨p7,0,none⟩=some (.string nm)∧W.cell? ⟨p7,1,none⟩=some (.slice (some ⟨bl,ol,none⟩) NL cl)∧W.cell? ⟨w.heap.size+1,1,none⟩=some (.string b.spells[i'].text)∧W.cell? ⟨bl,ol+k*3,none⟩=some (.int .u8 x.letter)∧W.cell? ⟨bl,ol+k*3+1,none⟩=some (.int .i64 x.sounds)∧W.cell? ⟨bl,ol+k*3+2,none⟩=some (.bool x.silent)∧p7<W.heap.size∧w.heap.size+1<W.heap.size∧bl<W.heap.size) 11 (by kernel_rfl) (SF.out X7.drew hV0) (fun hHeld=>?_)
    (refine tkZ 0 ?_;simp only[frT])
    (refine tkZ 1 ?_;simp only[frT])
    (refine tkZ 2 ?_;simp only[frT])
    (refine tkZ 3 ?_;simp only[frT])
    (refine tkZ 4 ?_;simp only[frT])
    (refine tkZ 5 ?_;simp only[frT])
    (refine tkZ 6 ?_;simp only[frT])
    refine Zap (rs:=[7,10]) (by kernel_rfl) (by simp) (AllZ.cons rfl (fun K hK=>?_) (AllZ.cons rfl (fun K hK=>?_) AllZ.nil))
    ·go_simp
     have hV1:=hb7.trans (hV0.mono hb7.size)
     refine(IX.out _ hV1).mono ?_
     rintro e V1 ⟨rfl,hb1⟩
     dsimp only
     have hB1:=hV0.trans (hb1.mono hV0.size)
     have hHeld2:=SF.out _ hB1
     refine hK.out _ _ (fun _=>hHeld2) ?_
     (try simp only[frT])
     clear hK
     (refine tkZ 8 ?_;simp only[frT])
     (refine tkZ 9 ?_;simp only[frT])
     refine Zap (rs:=[10]) (by kernel_rfl) (by simp) (AllZ.cons rfl (fun K hK=>?_) AllZ.nil)
     go_simp
     refine hK.out _ _ (fun _=>SF.out _ (hB1.alloc hB1.size _)) ?_
     (try simp only[frT])
     clear hK
     have k0:(V1.alloc (.cells #[.int .u8 0,.int .i64 0,.bool false] 137)).heap[V1.heap.size]?=some (.cells #[.int .u8 0,.int .i64 0,.bool false] 137 (0,0)):=Zac _ _ rfl
     obtain⟨V2,hV2⟩:∃V2:World,V2=V1.alloc (.cells #[.int .u8 0,.int .i64 0,.bool false] 137):=⟨_,rfl⟩
     rw[←hV2] at k0 ⊢
     have hB2:Below X7.heap.size X7 V2:=by rw[hV2];exact hB1.alloc hB1.size _
     have hz1:=hB1.size
     clear hV2
     have c0':=Zaa 0 k0 rfl
     have c1':=Zaa 1 k0 rfl
     have c2':=Zaa 2 k0 rfl
     have f0':=Zad 0 k0
     have f1':=Zad 1 k0
     have f2':=Zad 2 k0
     have zz':=lt_of_block k0
     refine Zap (rs:=[11]) (by kernel_rfl) (by simp) (AllZ.cons rfl (fun K hK=>?_) AllZ.nil)
     (go_simp;refine hK.out _ _ (fun h=>absurd rfl h) ?_;(try simp only[frT]);clear hK;refine Zc3 (by kernel_rfl) ?_ _)
     dsimp only[Zl9]
     go_wp2
     go_meet
     case rel=>exact⟨V1.heap.size,rfl,hz1,((hB2.setCell hz1 _).setCell hz1 _).setCell hz1 _,Zak 2 _ (Zak 1 _ (Zak 0 _ k0))⟩
    ·have hBa:=hV0.alloc hV0.size (.cells #[.int .u8 0,.int .i64 0,.bool false] 137)
     go_simp
     refine hK.out _ _ (fun _=>SF.out _ hBa) ?_
     (try simp only[frT])
     clear hK
     refine Zap (rs:=[7]) (by kernel_rfl) (by simp) (AllZ.cons rfl (fun K hK=>?_) AllZ.nil)
     go_simp
     have hV1:=hb7.trans (hBa.mono hb7.size)
     refine(IX.out _ hV1).mono ?_
     rintro e V1 ⟨rfl,hb1⟩
     dsimp only
     have hB1:=hBa.trans (hb1.mono hBa.size)
     have hHeld2:=SF.out _ hB1
     refine hK.out _ _ (fun _=>hHeld2) ?_
     (try simp only[frT])
     clear hK
     (refine tkZ 8 ?_;simp only[frT])
     (refine tkZ 9 ?_;simp only[frT])
     have k0:V1.heap[X7.heap.size]?=some (.cells #[.int .u8 0,.int .i64 0,.bool false] 137 (0,0)):=(hb1.block _ (by simp[Zbt])).trans (Zac _ _ (by simp[Zbt]))
     have c0':=Zaa 0 k0 rfl
     have c1':=Zaa 1 k0 rfl
     have c2':=Zaa 2 k0 rfl
     have f0':=Zad 0 k0
     have f1':=Zad 1 k0
     have f2':=Zad 2 k0
     have zz':=lt_of_block k0
     have hz1:=Nat.le_refl X7.heap.size
     refine Zap (rs:=[11]) (by kernel_rfl) (by simp) (AllZ.cons rfl (fun K hK=>?_) AllZ.nil)
     (go_simp;refine hK.out _ _ (fun h=>absurd rfl h) ?_;(try simp only[frT]);clear hK;refine Zc3 (by kernel_rfl) ?_ _)
     dsimp only[Zl9]
     go_wp2
     go_meet
     case rel=>exact⟨X7.heap.size,rfl,hz1,((hB1.setCell hz1 _).setCell hz1 _).setCell hz1 _,Zak 2 _ (Zak 1 _ (Zak 0 _ k0))⟩
   case rest=>
    obtain⟨p8,rfl,hp8,hbW,h8⟩:=hcut
    rename World=>W
    have hbVW:Below V.heap.size V W:=hb7.trans (hbW.mono hb7.size)
    have hMW:Zdj W g f:=hMV.mono hbVW
    have hzp:=lt_of_block h8
    have hgz:=hMW.lt
    have hbYW:=hbV.trans (hbVW.mono hbV.size)
    have hzY:=hbYW.size
    clear x0 x1 y0 y1 xz yz c0 c1 c2 d0 d1 d2 d3 hb' hbl IX SF hb7 h7 hp7 hbW hp8 hMV hbVW hla hA hAe hk hll hcl hAi hkc
    go_upto_region 10 with(fail)
    obtain⟨U0,hU0⟩:∃U0:World,U0=W.alloc (.cells (madeCells #[.bool false] 3125) 4):=⟨_,rfl⟩
    rw[←hU0]
    have hb0':Below W.heap.size W U0:=by rw[hU0];exact(Below.refl _ _).alloc (Nat.le_refl _) _
    have hN0:Zdj U0 W.heap.size (fun _=>false):=by rw[hU0];exact Znu W
    have HS0:Hid (StI Y U0 g W.heap.size p8 f x):=LH ⟨hbYW.trans (hb0'.mono hbYW.size),hMW.mono hb0',(hb0'.block _ hzp).trans h8,hgY,hgz,hzp,hzY⟩
    clear hU0 hb0' h8 hMW hbYW
    have HX:=LH (show ∀c,f c=true→(x.silent=true→∃h,h∈Zcn S (ls.take (n+1)) []∧Zh5 h=c)∧∀m,m<S→bitB x.sounds m=true→(∃h,h∈Zcn S (ls.take (n+1)) []∧Zh5 h=c*5+m+1)∧c*5+m+1<3125 from fun c hc=>by
     rw[htk]
     refine⟨fun hs=>Zr9 HMX.out hc hs,fun m hm hb=>?_⟩
     have h1:=Zun HMX.out hc hm hb
     refine⟨h1,?_⟩
     have h2:=(Z2s (show ∃h,h∈Zcn S (ls.take n++[x]) []∧Zh5 h=c*5+m+1 from h1)).lt hS4 (c:=c*5+m+1) (by simp)
     have h3:(ls.take n++[x]).length≤5:=by simp;omega
     exact Nat.lt_of_lt_of_le h2 (Nat.le_trans (Nat.pow_le_pow_right (by decide) h3) (by decide)))
    have hxs:=hok
    clear hok htk
    obtain⟨g2,hg2⟩:∃p,p=W.heap.size:=⟨_,rfl⟩
    rw[←hg2] at hN0 HS0 ⊢
    clear hg2 hgz hzp hzY
    obtain⟨xl,xs,xi⟩:=x
    simp only at HX hxs
    have BT:=LH (fun(k:Nat) (hk:k<S) (W:World)=>show Calls Tryz.prog 180 #[.int .i64 xs,.int .i64 (k:Int)] W fun e w'=>e=.returned (.bool (bitB xs k))∧w'=W from Z8x xs (k:Int) W (by omega) (by omega) (by omega) (by omega))
    go_loopw [10] (fun c U=>∃(m:Nat) (f2:Nat→Bool),m≤3125∧c=.int .i64 m∧Zdj U g2 f2∧Hid (Zfk S (ls.take (n+1)) f2)∧Hid (StI Y U g g2 p8 f ⟨xl,xs,xi⟩)) (fun c _=>3125-(intOf c).toNat)
    case atStart=>exact⟨0,_,by omega,rfl,hN0,LH (fun c h=>by cases h),HS0⟩
    case round=>
     clear hN0 HS0
     rename World=>U
     obtain⟨c,f2,hc,rfl,hN,HM2,HS2⟩:=hrel
     by_cases hc5:c<3125
     ·have o0:=HS2.out.out.cell hc5
      have o1:=HS2.out.out.lt
      by_cases hfc:f c=true
      ·rw[hfc] at o0
       replace HX:=LH (HX.out c hfc)
       replace hfc:=LH hfc
       have e0:=hN.cell hc5
       have e1:=hN.free c
       have e2:=hN.lt
       have hl:=HS2.out.let_
       have l2:=Zaa 2 hl rfl
       have lz:=lt_of_block hl
       clear hl
       go_upto_region 13 with(fail)
       go_cut [57] from 39 to 58 (fun _ W=>W=U.setCell ⟨g2,c,none⟩ (.bool (f2 c||xi)))
       case first=>
        cases h2:f2 c
        all_goals
         have H2:=LH h2
         rw[h2] at e0
         clear h2
         go_wp2
         go_meet
         case rel=>rw[H2.out];rfl
       case rest=>
        have hN1:=hN.set c (f2 c||xi)
        have HS1:=LH (HS2.out.set c (.bool (f2 c||xi)))
        rw[←hcut] at hN1 HS1
        have HM1:Hid (Zfk S (ls.take (n+1)) (fun i=>if i=c then (f2 c||xi) else f2 i)):=LH (fun i hi=>by
         simp only at hi
         split at hi
         ·next e=>
          subst e
          rcases Bool.or_eq_true_iff.1 hi with h|h
          ·exact HM2.out _ h
          ·exact HX.out.1 h
         ·exact HM2.out _ hi)
        clear hcut hN HS2 HM2 o0 o1 e0 e1 e2 l2 lz
        rename World=>U1
        generalize (fun i=>if i=c then (f2 c||xi) else f2 i)=f1 at hN1 HM1
        go_upto_region 15 with(fail)
        go_loopw [11] (fun i U=>∃(m:Nat) (f3:Nat→Bool),m≤S∧i=.int .i64 m∧Zdj U g2 f3∧Hid (Zfk S (ls.take (n+1)) f3)∧Hid (StI Y U g g2 p8 f ⟨xl,xs,xi⟩)) (fun i _=>S-(intOf i).toNat)
        case atStart=>exact⟨0,_,Nat.zero_le _,rfl,hN1,HM1,HS1⟩
        case round=>
         clear hN1 HM1 HS1
         rename World=>U2
         obtain⟨m,f3,hm,rfl,hN,HM3,HS3⟩:=hrel
         obtain⟨x0,-,-,-,xz,-⟩:=KE.out _ HS3.out.q
         by_cases hmS:m<S
         ·have hl:=HS3.out.let_
          have l1:=Zaa 1 hl rfl
          have lz:=lt_of_block hl
          clear hl
          have BT1:=LH (BT.out m hmS)
          have HX1:=LH (HX.out.2 m hmS)
          generalize bitB xs m=bb at BT1 HX1
          cases bb
          ·clear HX1
           go_wp2_with (go_at_call 180;go_must ((with_reducible refine(BT1.out _).mono ?_);rintro e w' ⟨rfl,hw9⟩;obtain rfl:=hw9.symm;dsimp only))
           go_roundw
           case rel=>exact⟨m+1,f3,by omega,by go_num,hN,HM3,HS3⟩
           case measure=>simp[intOf];omega
          ·replace HX1:=LH (HX1.out rfl)
           have h31:=HX1.out.2
           have n0:=hN.cell h31
           have n1:=hN.free (c*5+m+1)
           have n2:=hN.lt
           have HM4:Hid (Zfk S (ls.take (n+1)) (fun i=>if i=c*5+m+1 then true else f3 i)):=LH (fun i hi=>by
            simp only at hi
            split at hi
            ·next e=>
             subst e
             exact HX1.out.1
            ·exact HM3.out _ hi)
           go_wp2_with (go_at_call 180;go_must ((with_reducible refine(BT1.out _).mono ?_);rintro e w' ⟨rfl,hw9⟩;obtain rfl:=hw9.symm;dsimp only))
           go_roundw
           case rel=>exact⟨m+1,_,by omega,by go_num,hN.set (c*5+m+1) true,HM4,LH (HS3.out.set _ _)⟩
           case measure=>simp[intOf];omega
         ·obtain rfl:m=S:=by omega
          go_wp2
          go_roundw
          case rel=>exact⟨c+1,f3,by omega,by go_num,hN,HM3,HS3⟩
          case measure=>simp[intOf];omega
      ·have hfc:f c=false:=by simpa using hfc
       rw[hfc] at o0
       clear hfc
       go_wp2
       go_roundw
       case rel=>exact⟨c+1,f2,by omega,by go_num,hN,HM2,HS2⟩
       case measure=>simp[intOf];omega
     ·obtain rfl:c=3125:=by omega
      go_wp2
      go_roundw
      case rel=>exact⟨n+1,g2,f2,by omega,by go_num,rfl,hN,HM2,HS2.out.ge.2.2.2,HS2.out.q⟩
      case measure=>simp[intOf];omega
  ·have HF:Hid (Zfk S ls f):=LH (by have:=HMX.out;rw[show n=b.spells[i'].text.size by omega,HAL.out] at this;exact this)
   have hni:¬(n:Int)<(b.spells[i'].text.size:Int):=by omega
   go_wp2
   go_ret
   exact⟨g,f,rfl,hMV,HF,Nat.le_trans HBY.out.size hgY,HBY.out.trans (hbV.mono HBY.out.size)⟩
end
section
open Go Go.RowKit Go.Shelf
def ShX (b:EaB) (l:List Int) (n:Nat) (f:Nat→Bool):Prop:=∀c,f c=true→0<n∧∃h,Zh5 h=c∧∀j (hj:j<l.length),j<n→h∈Zck b l[j].toNat
theorem Zw1 {b:EaB} (hv:EaValid b) {i:Nat} (hi:i<b.spells.length) {h:List Int} (hh:h∈Zck b i):DigB h:=fun x hx=>by
 have h1:=(Zh1 hv hi hh).2 x hx
 have h2:=hv.sounds
 omega
theorem ShX.next {b:EaB} {l:List Int} {n:Nat} {f f1 f2:Nat→Bool} (s:ShX b l n f) (hv:EaValid b) (hl:∀j (hj:j<l.length),l[j].toNat<b.spells.length) (hn:n<l.length)
  (m:Zfk b.sounds.toNat (Zem b (Zeo b l[n].toNat)) f1) (h2:∀c,f2 c=true→f1 c=true∧(n=0∨f c=true)):ShX b l (n+1) f2:=fun c hc=>by
 refine⟨Nat.succ_pos _,?_⟩
 obtain⟨q1,q2⟩:=h2 c hc
 obtain⟨g,hg,e⟩:=m c q1
 rcases q2 with rfl|q2
 ·exact⟨g,e,fun j hj hj1=>by
   have ej:j=0:=by omega
   subst ej
   exact hg⟩
 ·obtain⟨h0,h,e2,hh⟩:=s c q2
  have d1:=Zw1 hv (hl n hn) hg
  have d2:=Zw1 hv (hl 0 (by omega)) (hh 0 (by omega) h0)
  obtain rfl:=Ztp _ g h (Nat.le_refl _) d1 d2 (e.trans e2.symm)
  refine⟨g,e,fun j hj hj1=>?_⟩
  by_cases ej:j=n
  ·subst ej;exact hg
  ·exact hh j hj (by omega)
def Z0w (b:EaB) (l:List Int) (w:World) (e:Ending) (w':World):Prop:=∃g f,e=.returned (.slice (some ⟨g,0,none⟩) 3125 3125)∧Zdj w' g f∧Hid (ShX b l l.length f)∧Below w.heap.size w w'
def Zp9 (n m:Nat) (f1 f:Nat→Bool):Nat→Bool:=fun i=>if i<m then f1 i&&(decide (n=0)||f i) else f1 i
theorem Zx9 {n m:Nat} {f1 f:Nat→Bool} (v:Bool) (hv:v=(f1 m&&(decide (n=0)||f m))):(fun i=>if i=m then v else Zp9 n m f1 f i)=Zp9 n (m+1) f1 f:=by
 funext i
 unfold Zp9
 by_cases e:i=m
 ·subst e
  rw[if_pos rfl,if_pos (by omega),hv]
 ·rw[if_neg e]
  by_cases g:i<m
  ·rw[if_pos g,if_pos (by omega)]
  ·rw[if_neg g,if_neg (by omega)]
theorem Zvr (a1 a2:Option Addr) (k1 k2:Nat) (b:EaB) (a:Option Addr) (l:List Int) (k:Nat) (w:World) (hm:BookC w a1 a2 k1 k2 b) (hv:EaValid b) (ho:SlOk a l.length k) (hi:Zaw w a l) (hls:∀j (hj:j<l.length),0≤l[j]∧l[j]<b.spells.length):
  Calls Tryz.prog 145 #[(.agg #[.int .i64 b.sounds,.slice a1 b.alphas.length k1,.slice a2 b.spells.length k2]),.slice a l.length k] w (Z0w b l w):=by
 have l1:=hm.oka.len
 have l2:=hm.oks.len
 have ls:=hm.oks.1
 have ll:=ho.len
 obtain⟨Y,hY⟩:∃Y:World,Y=(w.alloc (.cells #[.int .i64 b.sounds,.slice a1 b.alphas.length k1,.slice a2 b.spells.length k2] 25)):=⟨_,rfl⟩
 have hbY:Below w.heap.size w Y:=by rw[hY];exact(Below.refl _ _).alloc (Nat.le_refl _) _
 have hB1:Y.heap[w.heap.size]?=some (.cells #[.int .i64 b.sounds,.slice a1 b.alphas.length k1,.slice a2 b.spells.length k2] 25 (0,0)):=by rw[hY];exact Zac _ _ rfl
 have HY:=LH hY
 clear hY
 have HM:=LH (hm.mono hbY)
 have HI:=LH (hi.mono hbY)
 have HBY:=LH hbY
 have HV:=LH hv
 have HLS:=LH hls
 have HLN:=LH (show ∀j (hj:j<l.length),l[j].toNat<b.spells.length from fun j hj=>by have:=hls j hj;omega)
 clear hm hi hbY hv hls
 have KE:Hid (∀V,Below Y.heap.size Y V→(V.cell? ⟨w.heap.size,0,none⟩=some (.int .i64 b.sounds)∧V.cell? ⟨w.heap.size,1,none⟩=some (.slice a1 b.alphas.length k1)∧V.cell? ⟨w.heap.size,2,none⟩=some (.slice a2 b.spells.length k2)∧w.heap.size<V.heap.size)):=LH (fun V h=>by
  have q1:=(h.block _ (lt_of_block hB1)).trans hB1
  exact⟨Zaa 0 q1 rfl,Zaa 1 q1 rfl,Zaa 2 q1 rfl,lt_of_block q1⟩)
 clear hB1
 have hmk:=Zop
 go_enter Tryz.func145,Tryz.ntmps145
 go_upto_region 1 with(fail)
 rw[←HY.out]
 go_upto_region 3 with(fail)
 obtain⟨Z,hZ⟩:∃Z:World,Z=Y.alloc (.cells (madeCells #[.bool false] 3125) 4):=⟨_,rfl⟩
 rw[←hZ]
 have hbZ:Below Y.heap.size Y Z:=by rw[hZ];exact(Below.refl _ _).alloc (Nat.le_refl _) _
 have hMZ:Zdj Z Y.heap.size (fun _=>false):=by rw[hZ];exact Znu Y
 clear hZ
 go_loopw [5,6] (fun o i V=>∃(n g:Nat) (f:Nat→Bool),n≤l.length∧i=.int .i64 n∧o=.slice (some ⟨g,0,none⟩) 3125 3125∧Zdj V g f∧Hid (ShX b l n f)∧Below Y.heap.size Y V) (fun _ i _=>l.length-(intOf i).toNat)
 case atStart=>exact⟨0,_,_,Nat.zero_le _,rfl,rfl,hMZ,LH (fun c h=>by cases h),hbZ⟩
 case round=>
  clear hbZ hMZ
  rename World=>V
  obtain⟨n,g,f,hn,rfl,rfl,hMV,HSX,hbV⟩:=hrel
  by_cases hlt:n<l.length
  ·obtain⟨bi,oi,hae,hbi,c0⟩:=(HI.out.mono hbV) n hlt
   obtain⟨s0,s1⟩:=HLS.out n hlt
   have HNX:=LH (fun f1 f2=>HSX.out.next (f1:=f1) (f2:=f2) HV.out HLN.out hlt)
   obtain⟨s,hs⟩:∃s:Nat,l[n]=(s:Int):=⟨l[n].toNat,by omega⟩
   rw[hs] at c0 s0 s1 HNX
   rw[Int.toNat_natCast] at HNX
   have hs':s<b.spells.length:=by omega
   obtain⟨bs,os,hse,hbs,d0,d1⟩:=(HM.out.mono hbV).spells s hs'
   have RS:=LH (fun(U:World) (h:Below Y.heap.size Y U)=>Ztj a1 a2 k1 k2 b s U (HM.out.mono h) HV.out hs')
   generalize b.spells[s].alpha=sa at RS d0
   generalize b.spells[s].text=st at RS d1
   clear hs s0 s1
   subst hae
   subst hse
   have SR:Hid (∀U,Below Y.heap.size Y U→(fun U=>Below Y.heap.size Y U∧U.cell? ⟨w.heap.size,0,none⟩=some (.int .i64 b.sounds)∧U.cell? ⟨w.heap.size,1,none⟩=some (.slice a1 b.alphas.length k1)∧U.cell? ⟨w.heap.size,2,none⟩=some (.slice (some ⟨bs,os,none⟩) b.spells.length k2)∧w.heap.size<U.heap.size) U):=LH (fun U h=>by
    obtain⟨q0,q1,q2,q3⟩:=KE.out _ h
    exact⟨h,q0,q1,q2,q3⟩)
   have SV:Hid (∀U,Below V.heap.size V U→(fun U=>Below V.heap.size V U∧U.cell? ⟨w.heap.size,0,none⟩=some (.int .i64 b.sounds)∧U.cell? ⟨w.heap.size,1,none⟩=some (.slice a1 b.alphas.length k1)∧U.cell? ⟨w.heap.size,2,none⟩=some (.slice (some ⟨bs,os,none⟩) b.spells.length k2)∧U.cell? ⟨bi,oi+n,none⟩=some (.int .i64 (s:Int))∧U.cell? ⟨bs,os+s*2,none⟩=some (.int .i64 sa)∧U.cell? ⟨bs,os+s*2+1,none⟩=some (.string st)∧w.heap.size<U.heap.size∧bi<U.heap.size∧bs<U.heap.size) U):=LH (fun U h=>by
    obtain⟨q0,q1,q2,q3⟩:=KE.out _ (hbV.trans (h.mono hbV.size))
    exact⟨h,q0,q1,q2,Zab h c0,Zab h d0,Zab h d1,q3,Nat.lt_of_lt_of_le hbi h.size,Nat.lt_of_lt_of_le hbs h.size⟩)
   clear SR
   go_upto_region 5 with(fail)
   have hg0:Below V.heap.size V V.drew:=Zah (Below.refl _ _)
   have hgY:=hbV.trans (hg0.mono hbV.size)
   clear c0 d0 d1 hbi hbs
   go_region_held3 (fun U=>Below V.heap.size V U∧U.cell? ⟨w.heap.size,0,none⟩=some (.int .i64 b.sounds)∧U.cell? ⟨w.heap.size,1,none⟩=some (.slice a1 b.alphas.length k1)∧U.cell? ⟨w.heap.size,2,none⟩=some (.slice (some ⟨bs,os,none⟩) b.spells.length k2)∧U.cell? ⟨bi,oi+n,none⟩=some (.int .i64 (s:Int))∧U.cell? ⟨bs,os+s*2,none⟩=some (.int .i64 sa)∧U.cell? ⟨bs,os+s*2+1,none⟩=some (.string st)∧w.heap.size<U.heap.size∧bi<U.heap.size∧bs<U.heap.size) (first|exact SV.out _ hg0|exact SV.out _ hg1) (first
    |(go_at_call 174;(with_reducible refine(RS.out _ hgY).mono ?_);rintro e w5 ⟨g2,f1,rfl,hM1,HX1,hgz,hgs⟩;have hg1:=hg0.trans (hgs.mono hg0.size);dsimp only))
   replace HNX:=LH (fun f2=>HNX.out f1 f2 HX1.out)
   have hMW:=hMV.mono hg1
   have hbW:=hbV.trans (hg1.mono hbV.size)
   have hgg:g<g2:=Nat.lt_of_lt_of_le hMV.lt (Nat.le_trans hg0.size hgz)
   have hYg:Y.heap.size≤g2:=Nat.le_trans hbV.size (Nat.le_trans hg0.size hgz)
   clear hg1 hg0 hgY hgs hgz hMV hbV RS SV HX1 HSX
   go_upto_region 7 with(fail)
   go_loopw [8] (fun c U=>∃m:Nat,m≤3125∧c=.int .i64 m∧Zdj U g2 (Zp9 n m f1 f)∧Zdj U g f∧Below Y.heap.size Y U) (fun c _=>3125-(intOf c).toNat)
   case atStart=>exact⟨0,Nat.zero_le _,rfl,hM1.congr (fun c _=>by unfold Zp9;rw[if_neg (by omega)]),hMW,hbW⟩
   case round=>
    clear hM1 hMW hbW
    rename World=>U
    obtain⟨m,hm,rfl,hO,hP,hbU⟩:=hrel
    by_cases hmc:m<3125
    ·have o0:=hO.cell hmc
     have o1:=hO.free m
     have o2:=hO.lt
     have p0:=hP.cell hmc
     have p2:=hP.lt
     have hd:Zp9 n m f1 f m=f1 m:=by unfold Zp9;rw[if_neg (by omega)]
     rw[hd] at o0
     clear hd
     have HO:=LH (fun v (hv:v=(f1 m&&(decide (n=0)||f m)))=>(hO.set m v).congr (f':=Zp9 n (m+1) f1 f) (fun c _=>congrFun (Zx9 v hv) c))
     have HP2:=LH (fun v=>(hP.same (W':=U.setCell ⟨g2,m,none⟩ v) (Zae (by omega))))
     have HB2:=LH (fun v=>hbU.setCell (p:=⟨g2,m,none⟩) hYg v)
     clear hO hP hbU
     generalize f1 m=x at HO o0
     generalize f m=y at HO p0
     cases x
     ·clear p0 p2
      go_wp2
      go_roundw
      case rel=>exact⟨m+1,by omega,by go_num,HO.out false (by simp),HP2.out _,HB2.out _⟩
      case measure=>simp[intOf];omega
     ·by_cases hn0:n=0
      ·have e1:((n:Int)==0)=true:=Zdv (by omega)
       have HN0:=LH hn0
       clear p0 p2 hn0
       go_wp2
       go_roundw
       case rel=>exact⟨m+1,by omega,by go_num,HO.out true (by simp[HN0.out]),HP2.out _,HB2.out _⟩
       case measure=>simp[intOf];omega
      ·have e1:((n:Int)==0)=false:=Zc4 (by omega)
       have HN0:=LH hn0
       clear hn0
       go_wp2
       go_roundw
       case rel=>exact⟨m+1,by omega,by go_num,HO.out y (by simp[HN0.out]),HP2.out _,HB2.out _⟩
       case measure=>simp[intOf];omega
    ·obtain rfl:m=3125:=by omega
     have hF:=hO.congr (f':=fun i=>f1 i&&(decide (n=0)||f i)) (fun c hc=>by unfold Zp9;rw[if_pos hc])
     have HF:=LH (HNX.out (fun i=>f1 i&&(decide (n=0)||f i)) (fun c hc=>by simpa using hc))
     clear hO hP
     generalize (fun i=>f1 i&&(decide (n=0)||f i))=f3 at hF HF
     go_wp2
     go_roundw
     case rel=>exact⟨n+1,g2,f3,by omega,by go_num,rfl,hF,HF,hbU⟩
     case measure=>simp[intOf];omega
  ·obtain rfl:n=l.length:=by omega
   go_wp2
   go_ret
   exact⟨g,f,rfl,hMV,HSX,HBY.out.trans (hbV.mono HBY.out.size)⟩
end
end Go.Proofs.YtklconegomgjaaaGreat
