/- What is proved here: a law for a range over a function whose iterator turns memory by a relation R while it goes (a map that remembers), the body leaving at its end or by a return. Over any program. -/
import Derived.Test.YtklconegomgjaaaGreatMoLook2G
set_option linter.all false
set_option maxRecDepth 100000
set_option maxHeartbeats 16000000
namespace Go.Proofs.YtklconegomgjaaaGreat
section
open Go Go.RowKit
def Z9t {α:Type} (B:Nat) (I:List α→World→Prop) (Ix:Code→List α→World→Prop) (xs:List α) (W:World):Exit→Act→World→Prop
 |.normal,_,W'=>Above B W W'∧I xs W'
 |.ret,_,W'=>Above B W W'∧Ix .ret xs W'
 |.exit id,_,W'=>Above B W W'∧Ix (.exit id) xs W'
 |_,_,_=>False
variable {P:Program}
end
section
open Go Go.RowKit
structure Bel (T:TypeId) (B:Nat) (A A':World):Prop where
 below:Below B A A'
 keep:∀(b:Nat) (cs:Array Value) (x:Nat × Nat),A.heap[b]?=some (.cells cs T x)→A'.heap[b]?=some (.cells cs T x)
theorem Bel.grow {T:TypeId} {B:Nat} {A A':World} (h:Below A.heap.size A A') (hB:B≤A.heap.size):Bel T B A A':=
 ⟨h.mono hB,fun b _ _ hb=>(h.block b (Array.getElem?_eq_some_iff.1 hb).1).trans hb⟩
theorem Bel.refl (T:TypeId) (B:Nat) (A:World):Bel T B A A:=⟨Below.refl _ _,fun _ _ _ h=>h⟩
theorem Bel.trans {T:TypeId} {B:Nat} {A C D:World} (h:Bel T B A C) (k:Bel T B C D):Bel T B A D:=⟨h.below.trans k.below,fun b cs x hb=>k.keep b cs x (h.keep b cs x hb)⟩
theorem Bel.mono {T:TypeId} {B B':Nat} {A A':World} (h:Bel T B A A') (hb:B'≤B):Bel T B' A A':=⟨h.below.mono hb,h.keep⟩
theorem Bel.set {T t:TypeId} {B b j:Nat} {A:World} {cs:Array Value} {x:Nat × Nat} {v:Value} (h:A.heap[b]?=some (.cells cs t x)) (ht:t≠T) (hb:B≤b):Bel T B A (A.setCell ⟨b,j,none⟩ v):=
 ⟨(Below.refl _ _).setCell hb _,fun k ds y hk=>by
  by_cases e:k=b
  ·subst e;rw[h] at hk;cases hk;exact absurd rfl ht
  ·exact(Below.heap_setCell _ _ _ _ (fun q=>e q)).trans hk⟩
theorem Bel.put {T:TypeId} {B b:Nat} {A:World} {o o':Obj} (h:A.heap[b]?=some o) (ho:∀cs x,o≠.cells cs T x) (hb:B≤b):Bel T B A (A.putObj b o'):=
 ⟨⟨rfl,rfl,rfl,by simp[World.putObj],fun i hi=>World.putObj_heap_other (by omega)⟩,fun k ds y hk=>by
  by_cases e:k=b
  ·subst e;rw[h] at hk;cases hk;exact absurd rfl (ho _ _)
  ·exact(World.putObj_heap_other e).trans hk⟩
variable {P:Program}
def SeqY {α:Type} (P:Program) (T:TypeId) (gf:Nat) (lb:Array Value) (encs:α→Array Value) (R:World→World→Prop) (Z:World→Prop) (xs:List α):Prop:=
 ∀(B l:Nat) (J Jx:List α→World→Prop) (W:World),B≤W.heap.size→(∀A A',R A A'→Above B A A')→(∀s A A',J s A→Bel T W.heap.size A A'→J s A')→(∀s A A',Jx s A→Bel T W.heap.size A A'→Jx s A')→(∀s A A',J s A→R A A'→J s A')→(∀s A,J s A→Z A)→
  (∀pre x W1,J pre W1→pre++[x] <+: xs→YieldAt Fence.wide 0 P l (encs x) W1 fun e W'=>(e=.returned (.bool true)∧J (pre++[x]) W'∧Above B W1 W')∨(e=.returned (.bool false)∧Jx (pre++[x]) W'∧Above W.heap.size W1 W'))→
  J [] W→CallsIn Fence.wide 0 P gf (#[.func (.yield l) #[] #[]]++lb) W fun e W'=>(∃v,e=.returned v)∧(J xs W'∨∃pre,Jx pre W')
theorem Zbw {α:Type} {g:Operand} {ps:Array Tmp} {assign body:Code} {Q:Exit→Act→World→Prop} {a:Act} {w:World}
  {gf:Nat} {lb:Array Value} (hg:a.eval g=.func (.func gf) #[] lb) (eg:∀args w,(callFunc gf args).run P w=.ok (.enter gf args) w)
  {encs:α→Array Value} {R:World→World→Prop} {Z:World→Prop} {B:Nat} {xs:List α} {T:TypeId} (hseq:SeqY P T gf lb encs R Z xs) (hB:B≤w.heap.size) (hR:∀A A',R A A'→Above B A A') (hps:∀x,(encs x).size=ps.size)
  (I:List α→World→Prop) (Ix:Code→List α→World→Prop) (hI:∀s A A',I s A→Bel T B A A'→I s A') (hIx:∀c s A A',Ix c s A→Bel T B A A'→Ix c s A') (hIR:∀s A A',I s A→R A A'→I s A')
  (hIZ:∀s A,I s A→Z A) (h0:I [] w)
  (hround:∀(l:Nat) (pre:List α) (x:α) (W:World),w.heap.size<l→l<W.heap.size→I pre W→pre++[x] <+: xs→
   assign.wpIn (Fence.wide.inRound l) 0 P (Exit.then (fun a' Wa=>Above B W Wa∧I pre Wa∧∀Wb,Wb.heap.size=Wa.heap.size→(∀b,b≠l→Wb.heap[b]?=Wa.heap[b]?)→I pre Wb→
    body.wpIn (Fence.wide.inRound l) 0 P (Z9t B I Ix (pre++[x]) Wb) a' Wb) (fun _ _ _=>False)) {tmps:=(ps.zip (encs x)).foldl (fun t (p,v)=>t.setIfInBounds p v) a.tmps,defers:=[]} W)
  (hdone:∀(D:Nat) (W:World),w.heap.size≤D→I xs W→W.heap[D]?=some (.deferred (some []))→Q .normal {a with defers:={target:=.collected D,args:=#[]}::a.defers} W)
  (hstop:∀(D:Nat) (c:Code) (pre:List α) (W:World),w.heap.size≤D→Ix c pre W→W.heap[D]?=some (.deferred (some []))→c.wpIn Fence.wide 0 P Q {a with defers:={target:=.collected D,args:=#[]}::a.defers} W):
  (Code.rangeFunc g ps assign body).wpIn Fence.wide 0 P Q a w:=by
 refine wpIn_rangeFunc ?_
 intro fn hfn
 rw[show Fence.wide.round=none from rfl]
 obtain⟨rec,hrec⟩:∃rec:LoopState→Option Code→Loop,rec=fun st pe=>{state:=st,pending:=pe,fn,tmps:=a.tmps,params:=ps,assign,body,defers:=w.heap.size}:=⟨_,rfl⟩
 obtain⟨W1,hW1⟩:∃W1,(w.alloc (.deferred (some []))).alloc (.loop (rec .ready none))=W1:=⟨_,rfl⟩
 have hL1:W1.heap[w.heap.size+1]?=some (.loop (rec .ready none)):=by
  rw[←hW1];have:=World.alloc_heap_new (w.alloc (.deferred (some []))) (.loop (rec .ready none));rwa [World.size_alloc] at this
 have hK1:W1.heap[w.heap.size]?=some (.deferred (some [])):=by
  rw[←hW1];exact(Below.heap_alloc _ _ _ (by simp)).trans (World.alloc_heap_new w _)
 have hbw1:Below w.heap.size w W1:=by
  rw[←hW1];exact(((Below.refl _ w).alloc (Nat.le_refl _) _).alloc (by simp) _)
 have hsz1:W1.heap.size=w.heap.size+2:=by rw[←hW1];simp
 have hI1:I [] W1:=hI _ _ _ h0 (Bel.grow hbw1 hB)
 have hput:∀(A:World) (o:Obj),(∃lp,A.heap[w.heap.size+1]?=some (.loop lp))→Bel T B A (A.putObj (w.heap.size+1) o):=fun A o ⟨lp,h⟩=>Bel.put h (fun _ _ e=>by cases e) (by omega)
 refine⟨w.heap.size+1,[{target:=.collected w.heap.size,args:=#[]}],W1,{target:=.fn (.func gf) lb,args:=#[.func (.yield (w.heap.size+1)) #[] #[]]},W1,gf,
  #[.func (.yield (w.heap.size+1)) #[] #[]]++lb,W1,?_,?_,?_,?_,fun h=>(by cases h),?_⟩
 ·rw[←hW1,hrec];exact run_enterLoop_outer _ _ _ _ _
 ·simp only[resolve,hg]
  simp[go_sem]
 ·intro f' hf';trivial
 ·simp[invoke,go_sem,eg]
 ·refine(hseq B (w.heap.size+1)
   (fun pre W=>I pre W∧W.heap[w.heap.size+1]?=some (.loop (rec .ready none))∧W.heap[w.heap.size]?=some (.deferred (some [])))
   (fun pre W=>∃c,Ix c pre W∧W.heap[w.heap.size+1]?=some (.loop (rec .done (some c)))∧W.heap[w.heap.size]?=some (.deferred (some [])))
   W1 (by omega) hR
   (fun s A A' hs hb=>⟨hI s A A' hs.1 (hb.mono (by omega)),(hb.below.block _ (by omega)).trans hs.2.1,(hb.below.block _ (by omega)).trans hs.2.2⟩)
   (fun s A A' hs hb=>by
    obtain⟨c,hc,hl,hk⟩:=hs
    exact⟨c,hIx c s A A' hc (hb.mono (by omega)),(hb.below.block _ (by omega)).trans hl,(hb.below.block _ (by omega)).trans hk⟩)
   (fun s A A' hs hr=>⟨hIR s A A' hs.1 hr,((hR _ _ hr).block _ (by omega) (Array.getElem?_eq_some_iff.1 hs.2.1).1).trans hs.2.1,((hR _ _ hr).block _ (by omega) (Array.getElem?_eq_some_iff.1 hs.2.2).1).trans hs.2.2⟩)
   (fun s A hs=>hIZ s A hs.1)
   ?_ ⟨hI1,hL1,hK1⟩).mono ?_
  ·rintro pre x W ⟨hi,hl,hk⟩ hpre
   have hlt:w.heap.size+1<W.heap.size:=(Array.getElem?_eq_some_iff.1 hl).1
   have hy:=run_yield (P:=P) (args:=encs x) hl (by rw[hrec];exact hps x)
   rw[hrec] at hy
   refine⟨fn,_,assign,body,hy,roundIn_of_wpIn hfn (wpIn_mono (hround _ pre x W (by omega) hlt hi hpre) ?_)⟩
   clear hy
   rintro e a' Wa he
   cases e with
   |normal=>
    obtain⟨hab,hia,hbody⟩:=he
    have hla:Wa.heap[w.heap.size+1]?=some (.loop (rec .ready none)):=(hab.block _ (by omega) hlt).trans hl
    have hka:Wa.heap[w.heap.size]?=some (.deferred (some [])):=(hab.block _ (by omega) (by omega)).trans hk
    have hlta:w.heap.size+1<Wa.heap.size:=(Array.getElem?_eq_some_iff.1 hla).1
    refine⟨_,run_beginRound hla (by rw[hrec]),?_⟩
    have hl2:(Wa.putObj (w.heap.size+1) (.loop {rec .ready none with state:=.busy})).heap[w.heap.size+1]?=some (.loop {rec .ready none with state:=.busy}):=World.putObj_heap_same hlta
    have hk2:(Wa.putObj (w.heap.size+1) (.loop {rec .ready none with state:=.busy})).heap[w.heap.size]?=some (.deferred (some [])):=(World.putObj_heap_other (by omega)).trans hka
    have hsp:∀o,(Wa.putObj (w.heap.size+1) o).heap.size=Wa.heap.size:=fun o=>by simp[World.putObj]
    refine wpIn_mono (hbody _ (hsp _) (fun b hb=>World.putObj_heap_other hb) (hI _ _ _ hia (hput _ _ ⟨_,hla⟩))) ?_
    have fin:∀(jump:Option Code) (W3:World),Above B (Wa.putObj (w.heap.size+1) (.loop {rec .ready none with state:=.busy})) W3→
      (Instr.endRound (w.heap.size+1) jump).run P W3=.ok (.bool jump.isNone) (W3.putObj (w.heap.size+1) (.loop (rec (if jump.isNone then .ready else .done) jump)))∧
      (W3.putObj (w.heap.size+1) (.loop (rec (if jump.isNone then .ready else .done) jump))).heap[w.heap.size+1]?=some (.loop (rec (if jump.isNone then .ready else .done) jump))∧
      (W3.putObj (w.heap.size+1) (.loop (rec (if jump.isNone then .ready else .done) jump))).heap[w.heap.size]?=some (.deferred (some []))∧W3.heap[w.heap.size+1]?=some (.loop {rec .ready none with state:=.busy}):=fun jump W3 hab3=>by
     have hl3:W3.heap[w.heap.size+1]?=some (.loop {rec .ready none with state:=.busy}):=(hab3.block _ (by omega) (by rw[hsp];omega)).trans hl2
     have hk3:W3.heap[w.heap.size]?=some (.deferred (some [])):=(hab3.block _ (by omega) (by rw[hsp];omega)).trans hk2
     have hlt3:w.heap.size+1<W3.heap.size:=(Array.getElem?_eq_some_iff.1 hl3).1
     have hr:=run_endRound (P:=P) jump hl3
     refine⟨?_,World.putObj_heap_same hlt3,(World.putObj_heap_other (by omega)).trans hk3,hl3⟩
     rw[hrec] at hr ⊢
     exact hr
    have finx:∀(o:Obj) (W3:World),Above B (Wa.putObj (w.heap.size+1) (.loop {rec .ready none with state:=.busy})) W3→Above W1.heap.size W (W3.putObj (w.heap.size+1) o):=fun o W3 hab3=>by
     have g:=grownBy_putObj' W3 (w.heap.size+1) o
     have g2:=grownBy_putObj' Wa (w.heap.size+1) (.loop {rec .ready none with state:=.busy})
     have hz3:Wa.heap.size≤W3.heap.size:=by have:=hab3.size;rw[hsp] at this;exact this
     have hza:=hab.size
     refine⟨g.os.trans (hab3.os.trans (g2.os.trans hab.os)),g.tape.trans (hab3.tape.trans (g2.tape.trans hab.tape)),g.output.trans (hab3.output.trans (g2.output.trans hab.output)),?_,fun b hb1 hb2=>?_⟩
     ·have:=g.size
      omega
     ·have hbl:b≠w.heap.size+1:=by omega
      rw[World.putObj_heap_other hbl,hab3.block b (by omega) (by rw[hsp];omega),World.putObj_heap_other hbl,hab.block b (by omega) hb2]
    rintro e a3 W3 hp
    cases e with
    |normal=>
     obtain⟨hab3,hi3⟩:=hp
     obtain⟨hr,hl4,hk4,hl9⟩:=fin none W3 hab3
     have hfin:Above B W (W3.putObj (w.heap.size+1) (.loop (rec .ready none))):=by
      have g:=grownBy_putObj' W3 (w.heap.size+1) (.loop (rec .ready none))
      have g2:=grownBy_putObj' Wa (w.heap.size+1) (.loop {rec .ready none with state:=.busy})
      have hz3:Wa.heap.size≤W3.heap.size:=by have:=hab3.size;rw[hsp] at this;exact this
      have hza:=hab.size
      refine⟨g.os.trans (hab3.os.trans (g2.os.trans hab.os)),g.tape.trans (hab3.tape.trans (g2.tape.trans hab.tape)),g.output.trans (hab3.output.trans (g2.output.trans hab.output)),?_,fun b hb1 hb2=>?_⟩
      ·have:=g.size
       omega
      ·by_cases hbl:b=w.heap.size+1
       ·subst hbl
        exact hl4.trans hl.symm
       ·rw[World.putObj_heap_other hbl,hab3.block b hb1 (by rw[hsp];omega),World.putObj_heap_other hbl,hab.block b hb1 hb2]
     exact⟨_,_,hr,.inl ⟨rfl,⟨hI _ _ _ hi3 (hput _ _ ⟨_,hl9⟩),hl4,hk4⟩,hfin⟩⟩
    |ret=>
     obtain⟨hab3,hi3⟩:=hp
     obtain⟨hr,hl4,hk4,hl9⟩:=fin (some .ret) W3 hab3
     exact⟨_,_,hr,.inr ⟨rfl,⟨.ret,hIx _ _ _ _ hi3 (hput _ _ ⟨_,hl9⟩),hl4,hk4⟩,finx _ W3 hab3⟩⟩
    |exit id=>
     obtain⟨hab3,hi3⟩:=hp
     obtain⟨hr,hl4,hk4,hl9⟩:=fin (some (.exit id)) W3 hab3
     exact⟨_,_,hr,.inr ⟨rfl,⟨.exit id,hIx _ _ _ _ hi3 (hput _ _ ⟨_,hl9⟩),hl4,hk4⟩,finx _ W3 hab3⟩⟩
    |goto t=>exact hp.elim
    |panic ch=>exact hp.elim
    |outgrown=>exact hp.elim
   |ret=>exact he.elim
   |exit id=>exact he.elim
   |goto t=>exact he.elim
   |panic ch=>exact he.elim
   |outgrown=>exact he.elim
  ·rintro e W2 ⟨⟨v,rfl⟩,(⟨hi,hl,hk⟩|⟨pre,c,hi,hl,hk⟩)⟩
   ·have hlt:w.heap.size+1<W2.heap.size:=(Array.getElem?_eq_some_iff.1 hl).1
    refine⟨none,_,by have:=run_endLoop (P:=P) hl (by rw[hrec];simp);rw[hrec] at this;exact this,?_⟩
    exact hdone _ _ (Nat.le_refl _) (hI _ _ _ hi (hput _ _ ⟨_,hl⟩)) ((World.putObj_heap_other (by omega)).trans hk)
   ·refine⟨some c,_,by have:=run_endLoop (P:=P) hl (by rw[hrec];simp);rw[hrec] at this;exact this,?_⟩
    exact hstop _ c pre _ (Nat.le_refl _) (hIx _ _ _ _ hi (hput _ _ ⟨_,hl⟩)) ((World.putObj_heap_other (by omega)).trans hk)
end
end Go.Proofs.YtklconegomgjaaaGreat
