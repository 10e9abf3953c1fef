/- What is proved here: the contracts of hear and Reads of layer 1, at a valid book and what can be heard. Conditions: the book and what is heard lie in memory. -/
import Derived.Test.YtklconegomgjaaaGreatPeAlikeG
import Derived.Test.YtklconegomgjaaaGreatMidG
set_option linter.all false
set_option maxRecDepth 100000
set_option maxHeartbeats 16000000
namespace Go.Proofs.YtklconegomgjaaaGreat
section
open Go Go.RowKit Go.Shelf
end
section
open Go Go.RowKit
end
section
open Go Go.RowKit Go.Shelf
def Zv5 (B rr:Nat) (w:World) (v:Value) (l:List Int):Prop:=∃a c,v=.slice a l.length c∧SlOk a l.length c∧Zaw w a l∧∀ad,a=some ad→B≤ad.block∧(l≠[]→ad.block≠rr)
theorem Zv5.mono {B rr:Nat} {w W:World} {v:Value} {l:List Int} (h:Zv5 B rr w v l) (hb:Below w.heap.size w W):Zv5 B rr W v l:=by
 obtain⟨a,c,e,h1,h2,h3⟩:=h;exact⟨a,c,e,h1,h2.mono hb,h3⟩
theorem Zv5.grown {B rr:Nat} {w W:World} {v:Value} {l:List Int} (h:Zv5 B rr w v l) (hg:w.grownBy W (some rr)):Zv5 B rr W v l:=by
 obtain⟨a,c,e,h1,h2,h3⟩:=h
 refine⟨a,c,e,h1,?_,h3⟩
 by_cases hl:l=[]
 ·subst hl;exact Zaw.nil _ _
 ·exact h2.grown hg (fun ad ea e=>(h3 ad ea).2 hl (Option.some.inj e))
theorem Zbm.behind {B C rr:Nat} {w:World} {v:Value} {l:List Int} (h:Zbm B w v l) (hr:rr<B) (hC:C≤B):Zv5 C rr w v l:=by
 obtain⟨a,c,e,h1,h2,h3⟩:=h
 exact⟨a,c,e,h1,h2,fun ad e=>⟨Nat.le_trans hC (h3 ad e),fun _=>by have:=h3 ad e;omega⟩⟩
end
end Go.Proofs.YtklconegomgjaaaGreat
