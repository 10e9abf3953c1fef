/- What is proved here: contracts of the reference of layer 7: Counts, So. Conditions: indices are in range. -/
import Derived.Test.YtklconegomgjaaaGreatRef7BG
import Derived.Test.YtklconegomgjaaaGreatMoFactsG
import Derived.Test.YtklconegomgjaaaGreatInfoG
import Derived.Test.YtklconegomgjaaaGreatMidG
import Derived.Deep.RegionHeld3
set_option linter.all false
set_option maxRecDepth 100000
set_option maxHeartbeats 16000000
namespace Go.Proofs.YtklconegomgjaaaGreat
section
open Go Go.RowKit
end
section
open Go Go.RowKit
end
section
open Go Go.RowKit
def Z7k (w:World) (v:Value) (m:MoList) (e:Int):Prop:=(e=0→Zyu w v (Zao m))∧(e≠0→v=.slice none 0 0)
theorem Z7k.mono {w W:World} {v:Value} {m:MoList} {e:Int} (h:Z7k w v m e) (hb:Below w.heap.size w W):Z7k W v m e:=⟨fun h0=>(h.1 h0).mono hb,h.2⟩
end
section
open Go Go.RowKit
end
section
open Go Go.RowKit
end
end Go.Proofs.YtklconegomgjaaaGreat
