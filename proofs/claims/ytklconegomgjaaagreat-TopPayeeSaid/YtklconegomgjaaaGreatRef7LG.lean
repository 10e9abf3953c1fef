/- What is proved here: contracts of the reference of layer 7: Some, Wrong. Conditions: valid lists. -/
import Derived.Test.YtklconegomgjaaaGreatRef1CG
import Derived.Test.YtklconegomgjaaaGreatMidG
import Derived.Test.YtklconegomgjaaaGreatInfoG
import Derived.Test.YtklconegomgjaaaGreatProg
import Derived.Laws.OwnMore
set_option linter.all false
set_option maxRecDepth 100000
set_option maxHeartbeats 16000000
namespace Go.Proofs.YtklconegomgjaaaGreat
section
open Go Go.RowKit
end
section
open Go Go.RowKit
end
section
open Go Go.RowKit
theorem Z69:ElemInfo Tryz.prog 51 56 (.agg #[.int .i64 0,.int .i64 0,.int .i64 0,.int .i64 0,.bool false]) 5 40:=⟨by kernel_rfl,by kernel_rfl,rfl,by decide⟩
def Zh4 (x:MoWord):List Value:=[.int .i64 x.says,.int .i64 x.sum,.int .i64 x.of,.int .i64 x.back,.bool x.came]
def Zb9 (l:List MoWord):List Value:=l.flatMap Zh4
theorem Zix (x:MoWord) (l:List MoWord):Zb9 (x::l)=.int .i64 x.says::.int .i64 x.sum::.int .i64 x.of::.int .i64 x.back::.bool x.came::Zb9 l:=rfl
theorem Zg2 (l:List MoWord):(Zb9 l).length=l.length*5:=by
 induction l with
 |nil=>rfl
 |cons x l ih=>rw[Zix];simp only[List.length_cons,ih];omega
theorem Zjv (l:List MoWord) (i:Nat) (h:i<l.length) (r:Nat) (hr:r<5):(Zb9 l)[i*5+r]?=(Zh4 l[i])[r]?:=by
 induction l generalizing i with
 |nil=>simp at h
 |cons x l ih=>
  rw[Zix]
  cases i with
  |zero=>
   have hr':r=0∨r=1∨r=2∨r=3∨r=4:=by omega
   rcases hr' with rfl|rfl|rfl|rfl|rfl<;>rfl
  |succ i=>
   have:=ih i (by simpa using h)
   rw[show(i+1)*5+r=i*5+r+5 from by omega]
   simpa using this
theorem Zqg (l:List MoWord):∀u∈Zb9 l,u.oneCell'=true:=by
 intro u hu
 obtain⟨x,_,hx⟩:=List.mem_flatMap.1 hu
 simp[Zh4] at hx
 rcases hx with rfl|rfl|rfl|rfl|rfl<;>rfl
theorem Za2.words {w:World} {a:Option Addr} {l:List MoWord} {c:Nat} (hn:a=none→c=0) (h:Ziy w a l):Za2 w (.slice a l.length c) l.length 5 (Zb9 l):=by
 refine⟨Zg2 l,Zqg l,?_⟩
 cases a with
 |none=>
  have:l.length=0:=by
   by_cases h0:0<l.length
   ·obtain⟨b,off,e,_⟩:=h 0 h0
    cases e
   ·omega
  left
  rw[hn rfl,this]
  exact⟨rfl,rfl⟩
 |some ad=>
  refine .inr ⟨ad,c,rfl,fun j u hj=>?_⟩
  have hlt:j<l.length*5:=by
   have:=(List.getElem?_eq_some_iff.1 hj).1
   rw[Zg2] at this
   exact this
  obtain⟨i,r,hr,rfl⟩:∃i r,r<5∧j=i*5+r:=⟨j / 5,j % 5,by omega,by omega⟩
  have hi:i<l.length:=by omega
  rw[Zjv l i hi r hr] at hj
  obtain⟨b,off,e,_,h0,h1,h2,h3,h4⟩:=h i hi
  cases e
  rw[Addr.add_lit,←Nat.add_assoc]
  have hr':r=0∨r=1∨r=2∨r=3∨r=4:=by omega
  rcases hr' with rfl|rfl|rfl|rfl|rfl<;>(simp[Zh4] at hj;subst hj;assumption)
theorem Zsq {w:World} {base:Nat} {e:TypeId} {v:Value} {n:Nat} {l:List MoWord} (h:w.ownsRow base e 5 v n (Zb9 l)):
  n=l.length∧∃a c,v=.slice a l.length c∧SlOk a l.length c∧Ziy w a l:=by
 have hl:=h.1
 rw[Zg2] at hl
 have hn:n=l.length:=by omega
 subst hn
 refine⟨rfl,?_⟩
 have hm:maxLen=9223372036854775807:=rfl
 rcases h.2 with⟨rfl,h0⟩|⟨g,cap,cur,rfl,_,hg,h3,h4,h5,h6⟩
 ·exact⟨none,0,by rw[h0],⟨by omega,by omega,fun _=>rfl⟩,fun i hi=>by omega⟩
 ·refine⟨_,_,rfl,⟨h3,by omega,fun h=>by cases h⟩,fun i hi=>⟨g,0,rfl,(Array.getElem?_eq_some_iff.1 hg).1,?_⟩⟩
  have hc:∀r u,r<5→(Zh4 l[i])[r]?=some u→w.cell? ⟨g,0+i*5+r,none⟩=some u:=fun r u hr hu=>by
   have:=h.cells (g:=g) rfl (i*5+r) u (by rw[Zjv l i hi r hr];exact hu)
   rw[Addr.add_lit] at this
   rw[Nat.add_assoc];exact this
  exact⟨hc 0 _ (by omega) rfl,hc 1 _ (by omega) rfl,hc 2 _ (by omega) rfl,hc 3 _ (by omega) rfl,hc 4 _ (by omega) rfl⟩
end
section
open Go Go.RowKit
theorem Zes {fn:Func} {p:Tmp} {ty:TypeId} (h:fn.results=#[.cell p ty]) (tmps:Array Value) (P:Program) (w:World):
  (results fn tmps).run P w=((asAddr (tmps.getD p undef)).run P w).andThen fun a w₁=>((loadVar ty a).run P w₁):=by
 simp only[results,h]
 simp[Sem.run_bind,Result.andThen]
theorem far1 {X:World} {g b o a:Nat} {u:Value} (h:b≠g):(X.setCell ⟨g,a,none⟩ u).cell? ⟨b,o,none⟩=X.cell? ⟨b,o,none⟩:=
 World.cell?_of_block (a:=⟨b,o,none⟩) (Below.heap_setCell X ⟨g,a,none⟩ u b h)
theorem Ziy.far {w W:World} {a:Option Addr} {l:List MoWord} (h:Ziy w a l) (hb:∀b off,a=some ⟨b,off,none⟩→W.heap[b]?=w.heap[b]?) (hs:w.heap.size≤W.heap.size):Ziy W a l:=fun i hi=>by
 obtain⟨b,off,e,hlt,h1,h2,h3,h4,h5⟩:=h i hi
 have hh:=hb b off e
 have hc:∀o,W.cell? ⟨b,o,none⟩=w.cell? ⟨b,o,none⟩:=fun o=>World.cell?_of_block (a:=⟨b,o,none⟩) hh
 exact⟨b,off,e,Nat.lt_of_lt_of_le hlt hs,(hc _).trans h1,(hc _).trans h2,(hc _).trans h3,(hc _).trans h4,(hc _).trans h5⟩
end
end Go.Proofs.YtklconegomgjaaaGreat
