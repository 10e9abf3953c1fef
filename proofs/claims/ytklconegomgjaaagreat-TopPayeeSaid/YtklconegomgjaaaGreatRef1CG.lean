/- What is proved here: contracts of the reference of layer 7: Late, Paid, Due, Held. Conditions: small lists. -/
import Derived.Test.YtklconegomgjaaaGreatRef7GG
import Derived.Test.YtklconegomgjaaaGreatInfoG
import Derived.Test.YtklconegomgjaaaGreatMoney4G
set_option linter.all false
set_option maxRecDepth 100000
set_option maxHeartbeats 16000000
namespace Go.Proofs.YtklconegomgjaaaGreat
section
open Go Go.RowKit
end
section
open Go Go.RowKit
end
section
open Go Go.RowKit
theorem Zlj {α β:Type} (f:α→List β) (n:Nat):∀(l:List α),(∀x∈l,(f x).length≤n)→(l.flatMap f).length≤l.length*n
 |[],_=>by simp
 |x::xs,h=>by
  have h1:=h x (by simp)
  have h2:=Zlj f n xs (fun y hy=>h y (by simp[hy]))
  simp only[List.flatMap_cons,List.length_append,List.length_cons,Nat.add_mul]
  omega
theorem Z15 {α β:Type} (f:α→List β) (l:List α) (k:Nat) (h:k<l.length):(l.take (k+1)).flatMap f=(l.take k).flatMap f++f l[k]:=by
 rw[List.take_succ_eq_append_getElem h,List.flatMap_append]
 simp
theorem Zon {α β:Type} (f:α→List β) (l:List α) (k:Nat):((l.take k).flatMap f).length≤(l.flatMap f).length:=by
 conv=>rhs;rw[←List.take_append_drop k l,List.flatMap_append,List.length_append]
 omega
theorem Zn9 {β:Type} (f:Nat→β) (m:Nat):(List.range (m+1)).map f=(List.range m).map f++[f m]:=by
 rw[List.range_succ,List.map_append];rfl
theorem Zob.push_mono {w W:World} {a:Option Addr} {L:List (List Int)} {l:List Int} {j:Nat} (h:Zob w a L) (hb:Below w.heap.size w W) (hj:j<L.length) (hl:L[j]=l):
  ∃b off a' c',a=some ⟨b,off,none⟩∧b<W.heap.size∧W.cell? ⟨b,off+j,none⟩=some (.slice a' l.length c')∧SlOk a' l.length c'∧Zaw W a' l:=by
 subst hl
 exact h.mono hb j hj
end
end Go.Proofs.YtklconegomgjaaaGreat
