/- What is proved here: contracts of the reference of layer 7: Decides. Conditions: a valid list, numbers in range. -/
import Derived.Test.YtklconegomgjaaaGreatRef7LG
import Derived.Test.YtklconegomgjaaaGreatInfoG
import Derived.Test.YtklconegomgjaaaGreatLook19G
import Derived.Test.YtklconegomgjaaaGreatRef7BG
set_option linter.all false
set_option maxRecDepth 100000
set_option maxHeartbeats 16000000
namespace Go.Proofs.YtklconegomgjaaaGreat
section
open Go Go.RowKit
end
section
open Go Go.RowKit
end
section
def exM (paid:Bool):MoList:=
 {claimants:=[⟨#[97,110,97]⟩,⟨#[98,101,110]⟩,⟨#[99,111,114,97]⟩],
  sums:=[⟨⟨#[102,105,114,115,116]⟩,20,3⟩,⟨⟨#[115,101,99,111,110,100]⟩,30,6⟩,⟨⟨#[116,104,105,114,100]⟩,15,7⟩],
  words:=[⟨2,0,1,-1,true⟩,⟨1,2,1,-1,true⟩,⟨0,2,2,-1,false⟩,⟨3,0,1,0,false⟩],
  paid:=if paid then [⟨0,0⟩,⟨0,1⟩,⟨2,2⟩] else []}
def exM2:MoList:={exM false with words:=(exM false).words++[⟨0,0,0,-1,true⟩]}
theorem Z6g:Zjl (exM false)=([1,1,0],2,0):=by decide +kernel
theorem Z9c:Zek (exM false) 2=([0,2],0):=by decide +kernel
theorem Z8h:Ze6 (exM false) 1=(1,0):=by decide +kernel
theorem Z7i:Ze6 (exM false) 2=(0,9):=by decide +kernel
theorem Z7w:Zft (exM false)=([2],0):=by decide +kernel
theorem Z89:Zd4 (exM false)=([2],0):=by decide +kernel
theorem Z6s:Zll (exM false) 0=((0,15),0):=by decide +kernel
theorem Z5i:Zll (exM false) 1=((50,50),0):=by decide +kernel
theorem Z7q:Zlo (exM false)=(50,65,0):=by decide +kernel
theorem Z4n:Zd8 (exM true)=([0],0):=by decide +kernel
theorem Z4y:Zft exM2=([],8):=by decide +kernel
end
section
open Go Go.RowKit
theorem Zsb {W:World} {b1 b2 b3:Nat} {t1 t2 t3:TypeId}
  (h1:W.heap[b1]?=some (.cells #[.string ⟨#[97,110,97]⟩,.string ⟨#[98,101,110]⟩,.string ⟨#[99,111,114,97]⟩] t1 (0,0)))
  (h2:W.heap[b2]?=some (.cells #[.string ⟨#[102,105,114,115,116]⟩,.int .i64 20,.int .i64 3,.string ⟨#[115,101,99,111,110,100]⟩,.int .i64 30,.int .i64 6,.string ⟨#[116,104,105,114,100]⟩,.int .i64 15,.int .i64 7] t2 (0,0)))
  (h3:W.heap[b3]?=some (.cells #[.int .i64 2,.int .i64 0,.int .i64 1,.int .i64 (-1),.bool true,.int .i64 1,.int .i64 2,.int .i64 1,.int .i64 (-1),.bool true,.int .i64 0,.int .i64 2,.int .i64 2,.int .i64 (-1),.bool false,.int .i64 3,.int .i64 0,.int .i64 1,.int .i64 0,.bool false] t3 (0,0))) (p:Bool):
  Zgs W (some ⟨b1,0,none⟩) (exM p).claimants∧Zgy W (some ⟨b2,0,none⟩) (exM p).sums∧Ziy W (some ⟨b3,0,none⟩) (exM p).words:=by
 refine⟨fun i hi=>?_,fun i hi=>?_,fun i hi=>?_⟩
 ·have h:i=0∨i=1∨i=2:=by have:i<3:=hi;omega
  rcases h with rfl|rfl|rfl<;>exact⟨b1,0,rfl,lt_of_block h1,Zaa _ h1 rfl⟩
 ·have h:i=0∨i=1∨i=2:=by have:i<3:=hi;omega
  rcases h with rfl|rfl|rfl<;>exact⟨b2,0,rfl,lt_of_block h2,Zaa _ h2 rfl,Zaa _ h2 rfl,Zaa _ h2 rfl⟩
 ·have h:i=0∨i=1∨i=2∨i=3:=by have:i<4:=hi;omega
  rcases h with rfl|rfl|rfl|rfl<;>exact⟨b3,0,rfl,lt_of_block h3,Zaa _ h3 rfl,Zaa _ h3 rfl,Zaa _ h3 rfl,Zaa _ h3 rfl,Zaa _ h3 rfl⟩
theorem Zw2 (p:Bool):∀s∈(exM p).claimants,s.size≤9223372036854775807:=by
 intro s hs
 simp[exM] at hs
 rcases hs with rfl|rfl|rfl<;>decide
theorem Zw6 (p:Bool):∀s∈(exM p).sums,s.name.size≤9223372036854775807:=by
 intro s hs
 simp[exM] at hs
 rcases hs with rfl|rfl|rfl<;>decide
theorem Z0u {W:World} {b1 b2 b3:Nat} {t1 t2 t3:TypeId}
  (h1:W.heap[b1]?=some (.cells #[.string ⟨#[97,110,97]⟩,.string ⟨#[98,101,110]⟩,.string ⟨#[99,111,114,97]⟩] t1 (0,0)))
  (h2:W.heap[b2]?=some (.cells #[.string ⟨#[102,105,114,115,116]⟩,.int .i64 20,.int .i64 3,.string ⟨#[115,101,99,111,110,100]⟩,.int .i64 30,.int .i64 6,.string ⟨#[116,104,105,114,100]⟩,.int .i64 15,.int .i64 7] t2 (0,0)))
  (h3:W.heap[b3]?=some (.cells #[.int .i64 2,.int .i64 0,.int .i64 1,.int .i64 (-1),.bool true,.int .i64 1,.int .i64 2,.int .i64 1,.int .i64 (-1),.bool true,.int .i64 0,.int .i64 2,.int .i64 2,.int .i64 (-1),.bool false,.int .i64 3,.int .i64 0,.int .i64 1,.int .i64 0,.bool false] t3 (0,0))):
  ListC W (some ⟨b1,0,none⟩) (some ⟨b2,0,none⟩) (some ⟨b3,0,none⟩) none 3 3 4 0 (exM false):=
 have L:=Zsb h1 h2 h3 false
 ⟨⟨by decide,by decide,fun h=>by cases h⟩,⟨by decide,by decide,fun h=>by cases h⟩,⟨by decide,by decide,fun h=>by cases h⟩,⟨by decide,by decide,fun _=>rfl⟩,L.1,L.2.1,L.2.2,fun i hi=>absurd hi (Nat.not_lt_zero i),Zw2 _,Zw6 _⟩
theorem Zvi {W:World} {b1 b2 b3 b4:Nat} {t1 t2 t3 t4:TypeId}
  (h1:W.heap[b1]?=some (.cells #[.string ⟨#[97,110,97]⟩,.string ⟨#[98,101,110]⟩,.string ⟨#[99,111,114,97]⟩] t1 (0,0)))
  (h2:W.heap[b2]?=some (.cells #[.string ⟨#[102,105,114,115,116]⟩,.int .i64 20,.int .i64 3,.string ⟨#[115,101,99,111,110,100]⟩,.int .i64 30,.int .i64 6,.string ⟨#[116,104,105,114,100]⟩,.int .i64 15,.int .i64 7] t2 (0,0)))
  (h3:W.heap[b3]?=some (.cells #[.int .i64 2,.int .i64 0,.int .i64 1,.int .i64 (-1),.bool true,.int .i64 1,.int .i64 2,.int .i64 1,.int .i64 (-1),.bool true,.int .i64 0,.int .i64 2,.int .i64 2,.int .i64 (-1),.bool false,.int .i64 3,.int .i64 0,.int .i64 1,.int .i64 0,.bool false] t3 (0,0)))
  (h4:W.heap[b4]?=some (.cells #[.int .i64 0,.int .i64 0,.int .i64 0,.int .i64 1,.int .i64 2,.int .i64 2] t4 (0,0))):
  ListC W (some ⟨b1,0,none⟩) (some ⟨b2,0,none⟩) (some ⟨b3,0,none⟩) (some ⟨b4,0,none⟩) 3 3 4 3 (exM true):=
 have L:=Zsb h1 h2 h3 true
 ⟨⟨by decide,by decide,fun h=>by cases h⟩,⟨by decide,by decide,fun h=>by cases h⟩,⟨by decide,by decide,fun h=>by cases h⟩,⟨by decide,by decide,fun h=>by cases h⟩,L.1,L.2.1,L.2.2,fun i hi=>by
  have h:i=0∨i=1∨i=2:=by have:i<3:=hi;omega
  rcases h with rfl|rfl|rfl<;>exact⟨b4,0,rfl,lt_of_block h4,Zaa _ h4 rfl,Zaa _ h4 rfl⟩,Zw2 _,Zw6 _⟩
theorem Z74 (w:World):Calls Tryz.prog 48 #[.bool false] w fun e w'=>∃ac az aw ap cc cz cw cp,e=.returned (Z9k ac az aw ap cc cz cw cp (exM false))∧ListC w' ac az aw ap cc cz cw cp (exM false)∧Below w.heap.size w w':=by
 go_enter Tryz.func48,Tryz.ntmps48
 go_wp2
 refine bodyPost_ret (v:=.agg #[.slice (some ⟨w.heap.size+1,0,none⟩) 3 3,.slice (some ⟨w.heap.size+1+1,0,none⟩) 3 3,.slice (some ⟨w.heap.size+1+1+1,0,none⟩) 4 4,.slice none 0 0]) ?_ rfl ⟨some ⟨w.heap.size+1,0,none⟩,some ⟨w.heap.size+1+1,0,none⟩,some ⟨w.heap.size+1+1+1,0,none⟩,none,3,3,4,0,rfl,?_,?_⟩
 ·rw[Zes rfl]
  go_simp
 ·refine Z0u (t1:=9) (t2:=62) (t3:=56) ?_ ?_ ?_
  ·exact(heap_alloc_old _ _ (by simp)).trans <| (heap_alloc_old _ _ (by simp)).trans <| (heap_alloc_old _ _ (by simp)).trans <| Zbj _ _ (by simp)
  ·exact(heap_alloc_old _ _ (by simp)).trans <| (heap_alloc_old _ _ (by simp)).trans <| Zbj _ _ (by simp)
  ·exact(heap_alloc_old _ _ (by simp)).trans <| Zbj _ _ (by simp)
 ·go_grown
theorem Z57 (w:World):Calls Tryz.prog 48 #[.bool true] w fun e w'=>∃ac az aw ap cc cz cw cp,e=.returned (Z9k ac az aw ap cc cz cw cp (exM true))∧ListC w' ac az aw ap cc cz cw cp (exM true)∧Below w.heap.size w w':=by
 go_enter Tryz.func48,Tryz.ntmps48
 go_wp2
 refine bodyPost_ret (v:=.agg #[.slice (some ⟨w.heap.size+1,0,none⟩) 3 3,.slice (some ⟨w.heap.size+1+1,0,none⟩) 3 3,.slice (some ⟨w.heap.size+1+1+1,0,none⟩) 4 4,.slice (some ⟨w.heap.size+1+1+1+1+1,0,none⟩) 3 3]) ?_ rfl ⟨some ⟨w.heap.size+1,0,none⟩,some ⟨w.heap.size+1+1,0,none⟩,some ⟨w.heap.size+1+1+1,0,none⟩,some ⟨w.heap.size+1+1+1+1+1,0,none⟩,3,3,4,3,rfl,?_,?_⟩
 ·rw[Zes rfl]
  go_simp
 ·refine Zvi (t1:=9) (t2:=62) (t3:=56) (t4:=182) ?_ ?_ ?_ ?_
  ·exact(heap_alloc_old _ _ (by simp)).trans <| (heap_alloc_old _ _ (by simp)).trans <| (heap_alloc_old _ _ (by simp)).trans <| (heap_alloc_old _ _ (by simp)).trans <| Zbj _ _ (by simp)
  ·exact(heap_alloc_old _ _ (by simp)).trans <| (heap_alloc_old _ _ (by simp)).trans <| (heap_alloc_old _ _ (by simp)).trans <| Zbj _ _ (by simp)
  ·exact(heap_alloc_old _ _ (by simp)).trans <| (heap_alloc_old _ _ (by simp)).trans <| Zbj _ _ (by simp)
  ·exact Zbj _ _ (by simp)
 ·go_grown
end
section
open Go Go.RowKit
theorem Z8v (ac az aw ap:Option Addr) (cc cz cw cp:Nat) (m:MoList) (l:List Int) (n e:Int) (h:Zjl m=(l,n,e)) (w:World) (hm:ListC w ac az aw ap cc cz cw cp m):Calls Tryz.prog 49 #[(.agg #[.slice ac m.claimants.length cc,.slice az m.sums.length cz,.slice aw m.words.length cw,.slice ap m.paid.length cp])] w fun x w'=>∃a c,x=.returned (.tuple #[.slice a l.length c,.int .i64 n,.int .i64 e])∧SlOk a l.length c∧Zaw w' a l∧Below w.heap.size w w':=by
 have C:=Z0a ac az aw ap cc cz cw cp m w hm
 rw[h] at C
 exact C.mono fun x w' ⟨v,h1,⟨a,c,h2,h3,h4⟩,h5⟩=>⟨a,c,by rw[h1,h2],h3,h4,h5⟩
theorem Z96 (ac az aw ap:Option Addr) (cc cz cw cp:Nat) (m:MoList) (s:Int) (l:List Int) (e:Int) (h:Zek m s=(l,e)) (w:World) (hm:ListC w ac az aw ap cc cz cw cp m):Calls Tryz.prog 16 #[(.agg #[.slice ac m.claimants.length cc,.slice az m.sums.length cz,.slice aw m.words.length cw,.slice ap m.paid.length cp]),.int .i64 s] w fun x w'=>∃a c,x=.returned (.tuple #[.slice a l.length c,.int .i64 e])∧SlOk a l.length c∧Zaw w' a l∧Below w.heap.size w w':=by
 have C:=Zqm ac az aw ap cc cz cw cp m s w hm
 rw[h] at C
 exact C.mono fun x w' ⟨v,h1,⟨a,c,h2,h3,h4⟩,h5⟩=>⟨a,c,by rw[h1,h2],h3,h4,h5⟩
theorem Z7b (ac az aw ap:Option Addr) (cc cz cw cp:Nat) (m:MoList) (l:List Int) (e:Int) (h:Zft m=(l,e)) (w:World) (hm:ListC w ac az aw ap cc cz cw cp m):Calls Tryz.prog 50 #[(.agg #[.slice ac m.claimants.length cc,.slice az m.sums.length cz,.slice aw m.words.length cw,.slice ap m.paid.length cp])] w fun x w'=>∃a c,x=.returned (.tuple #[.slice a l.length c,.int .i64 e])∧SlOk a l.length c∧Zaw w' a l∧Below w.heap.size w w':=by
 have C:=Zyz ac az aw ap cc cz cw cp m w hm
 rw[h] at C
 exact C.mono fun x w' ⟨v,h1,⟨a,c,h2,h3,h4⟩,h5⟩=>⟨a,c,by rw[h1,h2],h3,h4,h5⟩
theorem Z9q (ac az aw ap:Option Addr) (cc cz cw cp:Nat) (m:MoList) (l:List Int) (e:Int) (h:Zd4 m=(l,e)) (w:World) (hm:ListC w ac az aw ap cc cz cw cp m):Calls Tryz.prog 51 #[(.agg #[.slice ac m.claimants.length cc,.slice az m.sums.length cz,.slice aw m.words.length cw,.slice ap m.paid.length cp])] w fun x w'=>∃a c,x=.returned (.tuple #[.slice a l.length c,.int .i64 e])∧SlOk a l.length c∧Zaw w' a l∧Below w.heap.size w w':=by
 have C:=Z4l ac az aw ap cc cz cw cp m w hm
 rw[h] at C
 exact C.mono fun x w' ⟨v,h1,⟨a,c,h2,h3,h4⟩,h5⟩=>⟨a,c,by rw[h1,h2],h3,h4,h5⟩
theorem Z8s (ac az aw ap:Option Addr) (cc cz cw cp:Nat) (m:MoList) (l:List Int) (e:Int) (h:Zd8 m=(l,e)) (w:World) (hm:ListC w ac az aw ap cc cz cw cp m):Calls Tryz.prog 54 #[(.agg #[.slice ac m.claimants.length cc,.slice az m.sums.length cz,.slice aw m.words.length cw,.slice ap m.paid.length cp])] w fun x w'=>∃a c,x=.returned (.tuple #[.slice a l.length c,.int .i64 e])∧SlOk a l.length c∧Zaw w' a l∧Below w.heap.size w w':=by
 have C:=Zyy ac az aw ap cc cz cw cp m w hm
 rw[h] at C
 exact C.mono fun x w' ⟨v,h1,⟨a,c,h2,h3,h4⟩,h5⟩=>⟨a,c,by rw[h1,h2],h3,h4,h5⟩
theorem Z9y (ac az aw ap:Option Addr) (cc cz cw cp:Nat) (m:MoList) (s n e:Int) (h:Ze6 m s=(n,e)) (w:World) (hm:ListC w ac az aw ap cc cz cw cp m):Calls Tryz.prog 15 #[(.agg #[.slice ac m.claimants.length cc,.slice az m.sums.length cz,.slice aw m.words.length cw,.slice ap m.paid.length cp]),.int .i64 s] w fun x w'=>x=.returned (.tuple #[.int .i64 n,.int .i64 e])∧Below w.heap.size w w':=by
 have C:=Zqn ac az aw ap cc cz cw cp m s w hm
 rwa [h] at C
theorem Z6y (ac az aw ap:Option Addr) (cc cz cw cp:Nat) (m:MoList) (s lo hi e:Int) (h:Zll m s=((lo,hi),e)) (w:World) (hm:ListC w ac az aw ap cc cz cw cp m):Calls Tryz.prog 52 #[(.agg #[.slice ac m.claimants.length cc,.slice az m.sums.length cz,.slice aw m.words.length cw,.slice ap m.paid.length cp]),.int .i64 s] w fun x w'=>x=.returned (.tuple #[.agg #[.int .i64 lo,.int .i64 hi],.int .i64 e])∧Below w.heap.size w w':=by
 have C:=Z1y ac az aw ap cc cz cw cp m s w hm
 rwa [h] at C
theorem Z9j (ac az aw ap:Option Addr) (cc cz cw cp:Nat) (m:MoList) (s n e:Int) (h:Zlo m=(s,n,e)) (w:World) (hm:ListC w ac az aw ap cc cz cw cp m):Calls Tryz.prog 53 #[(.agg #[.slice ac m.claimants.length cc,.slice az m.sums.length cz,.slice aw m.words.length cw,.slice ap m.paid.length cp])] w fun x w'=>x=.returned (.tuple #[.int .i64 s,.int .i64 n,.int .i64 e])∧Below w.heap.size w w':=by
 have C:=Z03 ac az aw ap cc cz cw cp m w hm
 rwa [h] at C
theorem Zaw.far {W:World} {B j:Nat} {a0 a1 a2 a3:Option Addr} {n0 n1 n2 n3 c0 c1 c2 c3:Nat} {t:TypeId} {v:Value} {a:Option Addr} {l:List Int} (h:Zaw W a l)
  (hB:W.heap[B]?=some (.cells #[.slice a0 n0 c0,.slice a1 n1 c1,.slice a2 n2 c2,.slice a3 n3 c3] t (0,0))):Zaw (W.setCell ⟨B,j,none⟩ v) a l:=fun i hi=>by
 obtain⟨b,off,e,hlt,hc⟩:=h i hi
 have hne:b≠B:=fun eb=>by
  subst eb
  simp only[World.cell?,hB] at hc
  rcases hk:off+i with _|_|_|_|k
  all_goals
   rw[hk] at hc
   simp at hc
 exact⟨b,off,e,by simpa using hlt,(World.cell?_of_block (a:=⟨b,off+i,none⟩) (Below.heap_setCell W ⟨B,j,none⟩ v b hne)).trans hc⟩
theorem Zwz (lo hi:Int) (w:World):Calls Tryz.prog 55 #[.int .i64 lo,.int .i64 hi] w fun e w'=>e=.returned (.agg #[.int .i64 lo,.int .i64 hi])∧Below w.heap.size w w':=by
 go_enter Tryz.func55,Tryz.ntmps55
 go_wp2
 refine bodyPost_ret (v:=.agg #[.int .i64 lo,.int .i64 hi]) ?_ rfl ⟨rfl,?_⟩
 ·rw[Zes rfl]
  go_simp
 ·go_grown
end
section
open Go Go.RowKit
theorem bx {w V:World} {v0 v1 v2 v3 u0 u1 u2 u3:Value} {t t2:TypeId} (h:Below (w.heap.size+1+1) ((w.alloc (.cells #[v0,v1,v2,v3] t)).alloc (.cells #[u0,u1,u2,u3] t2)) V):
  V.cell? ⟨w.heap.size,0,none⟩=some v0∧V.cell? ⟨w.heap.size,1,none⟩=some v1∧V.cell? ⟨w.heap.size,2,none⟩=some v2∧V.cell? ⟨w.heap.size,3,none⟩=some v3∧
  V.cell? ⟨w.heap.size+1,0,none⟩=some u0∧V.cell? ⟨w.heap.size+1,1,none⟩=some u1∧V.cell? ⟨w.heap.size+1,2,none⟩=some u2∧V.cell? ⟨w.heap.size+1,3,none⟩=some u3∧w.heap.size<V.heap.size∧w.heap.size+1<V.heap.size∧V.frozen? ⟨w.heap.size,2,none⟩=false:=by
 have h1:V.heap[w.heap.size]?=some (.cells #[v0,v1,v2,v3] t (0,0)):=(h.block _ (by omega)).trans ((heap_alloc_old _ _ (by simp)).trans (Zbj _ _ rfl))
 have h2:V.heap[w.heap.size+1]?=some (.cells #[u0,u1,u2,u3] t2 (0,0)):=(h.block _ (by omega)).trans (Zbj _ _ (by simp))
 exact⟨Zaa 0 h1 rfl,Zaa 1 h1 rfl,Zaa 2 h1 rfl,Zaa 3 h1 rfl,Zaa 0 h2 rfl,Zaa 1 h2 rfl,Zaa 2 h2 rfl,Zaa 3 h2 rfl,lt_of_block h1,lt_of_block h2,Zad 2 h1⟩
theorem Zf9 {w V:World} {o o2:Obj} (h:Below (w.heap.size+1+1) ((w.alloc o).alloc o2) V):Below w.heap.size w V:=
 (((Below.refl _ w).alloc (Nat.le_refl _) o).alloc (by simp) o2).trans (h.mono (by omega))
theorem Zkz {w V V':World} {o o2:Obj} (h:Below (w.heap.size+1+1) ((w.alloc o).alloc o2) V) (h2:Below V.heap.size V V'):Below (w.heap.size+1+1) ((w.alloc o).alloc o2) V':=
 h.trans (h2.mono (by have:=h.size;simpa using this))
theorem Zuf {w V:World} {o o2:Obj} (h:Below (w.heap.size+1+1) ((w.alloc o).alloc o2) V):w.heap.size+1+1≤V.heap.size:=by have:=h.size;simpa using this
theorem Zsz {w V:World} {o o2:Obj} (h:Below (w.heap.size+1+1) ((w.alloc o).alloc o2) V):V.heap[w.heap.size]?=some o:=(h.block _ (by omega)).trans ((heap_alloc_old _ _ (by simp)).trans (Zbj _ _ rfl))
def SpC (W:World) (b:Nat) (x y:Int):Prop:=W.cell? ⟨b,0,none⟩=some (.int .i64 x)∧W.cell? ⟨b,1,none⟩=some (.int .i64 y)∧b<W.heap.size
theorem Zl7 {W V:World} {b:Nat} {x y:Int} (h:SpC W b x y) (hb:Below W.heap.size W V):SpC V b x y:=
 ⟨Zab hb h.1,Zab hb h.2.1,Nat.lt_of_lt_of_le h.2.2 hb.size⟩
theorem Z66 (W:World) (x y:Int) (t:TypeId):SpC (W.alloc (.cells #[.int .i64 x,.int .i64 y] t)) W.heap.size x y:=
 ⟨Zaa 0 (Zbj _ _ rfl) rfl,Zaa 1 (Zbj _ _ rfl) rfl,by simp⟩
theorem Z60 {W:World} {b B j:Nat} {x y:Int} {v:Value} (h:SpC W b x y) (hne:b≠B):SpC (W.setCell ⟨B,j,none⟩ v) b x y:=
 ⟨(far1 hne).trans h.1,(far1 hne).trans h.2.1,by simpa using h.2.2⟩
theorem Zkj (W:World) (o:Obj):Below W.heap.size W (W.alloc o):=(Below.refl _ _).alloc (Nat.le_refl _) o
theorem Z8c:(exM false).claimants.length≤100∧(exM false).sums.length≤100∧(exM false).words.length≤100∧(exM false).paid.length≤100:=by decide
theorem Za2.word (W:World) (a b c d:Int) (e:Bool) (t:TypeId):Za2 (W.alloc (.cells #[.int .i64 a,.int .i64 b,.int .i64 c,.int .i64 d,.bool e] t)) (.slice (some ⟨W.heap.size,0,none⟩) 1 1) 1 5 [.int .i64 a,.int .i64 b,.int .i64 c,.int .i64 d,.bool e]:=by
 refine⟨rfl,by simp[Value.oneCell'],.inr ⟨_,_,rfl,fun j u hj=>?_⟩⟩
 rw[Addr.add_lit,Nat.zero_add]
 refine Zaa j (Zbj _ _ rfl) ?_
 rw[←hj]
 simp
theorem Zxp (W:World):(W.alloc (.cells #[] 56)).ownsRow W.heap.size 56 5 (.slice (some ⟨W.heap.size,0,none⟩) 0 0) 0 []:=
 World.ownsRow_made (base:=W.heap.size) (e:=56) (size:=5) W #[] 0 (Nat.le_refl _) (by decide) rfl
theorem Zxs (l:List MoWord) (a b c d:Int) (e:Bool):Zb9 l++[.int .i64 a,.int .i64 b,.int .i64 c,.int .i64 d,.bool e]=Zb9 (l++[⟨a,b,c,d,e⟩]):=by
 unfold Zb9
 rw[List.flatMap_append]
 rfl
theorem Zmv {a b:Option Addr} {l m:List Int} {c d:Nat} {w:World} (h:l=m) (hl:l.length≤100) (hi:Zaw w a l) (hj:Zaw w b m):
  Calls Tryz.prog 28 #[.slice a l.length c,.slice b m.length d] w fun e w'=>e=.returned (.bool true)∧Below w.heap.size w w':=by
 have C:=Zwm a b l m c d w (by omega) (by rw[←h];omega) hi hj
 rw[Zrn.2 h] at C
 exact C.mono fun e w' ⟨h1,q,h2⟩=>⟨h1,by rw[h2];exact Zd7 _ _ q⟩
theorem Zz8 {w W:World} {ac az aw ap:Option Addr} {cc cz cw cp:Nat} {m:MoList} {ws:List MoWord} {base c9:Nat} {a9:Option Addr} {v:Value} (hm:ListC w ac az aw ap cc cz cw cp m) (hb:Below w.heap.size w W) (hs:SlOk a9 ws.length c9)
  (ho:W.ownsRow base 56 5 (.slice a9 ws.length c9) ws.length (Zb9 ws)) (hlt:w.heap.size<base):ListC (W.setCell ⟨w.heap.size,2,none⟩ v) ac az a9 ap cc cz c9 cp {m with words:=ws}:=by
 have hY:=hm.mono (hb.setCell (p:=⟨w.heap.size,2,none⟩) (Nat.le_refl _) v)
 have ho2:(W.setCell ⟨w.heap.size,2,none⟩ v).ownsRow base 56 5 (.slice a9 ws.length c9) ws.length (Zb9 ws):=ownsRow_setCell_other ho (fun e=>by have:=(ho.lt _ e).1;simp at this;omega) v
 obtain⟨_,a8,c8,e8,_,hw8⟩:=Zsq ho2
 cases e8
 exact⟨hY.okc,hY.okz,hs,hY.okp,hY.claimants,hY.sums,hw8,hY.paid,hY.csize,hY.zsize⟩
theorem Z8m (ac az aw ap:Option Addr) (cc cz cw cp:Nat) (m:MoList) (ws:List MoWord) (a9:Option Addr) (c9:Nat) (l:List Int) (e:Int) (h:Zft {m with words:=ws}=(l,e)) (w:World) (hm:ListC w ac az a9 ap cc cz c9 cp {m with words:=ws}):Calls Tryz.prog 50 #[.agg #[.slice ac m.claimants.length cc,.slice az m.sums.length cz,.slice a9 ws.length c9,.slice ap m.paid.length cp]] w fun x w'=>∃a c,x=.returned (.tuple #[.slice a l.length c,.int .i64 e])∧SlOk a l.length c∧Zaw w' a l∧Below w.heap.size w w':=
 Z7b ac az a9 ap cc cz c9 cp {m with words:=ws} l e h w hm
theorem Z92 {w w3 W V:World} {j:Nat} {v:Value} (h:Below w.heap.size w w3) (h2:Below w3.heap.size w3 W) (h3:Below (W.setCell ⟨w3.heap.size,j,none⟩ v).heap.size (W.setCell ⟨w3.heap.size,j,none⟩ v) V):Below w.heap.size w V:=
 ((h.trans (h2.mono h.size)).setCell (p:=⟨w3.heap.size,j,none⟩) h.size v).trans (h3.mono (by have:=h.size;have:=h2.size;simp;omega))
theorem Zra {W:World} {b:Nat} {t:TypeId} {l:List Int} (h:W.heap[b]?=some (.cells (l.map (Value.int .i64)).toArray t (0,0))):Zaw W (some ⟨b,0,none⟩) l:=fun i hi=>
 ⟨b,0,rfl,lt_of_block h,Zaa _ h (by simp[hi])⟩
theorem Zqx {a:Option Addr} {l:List Int} {c:Nat} {w:World} (x:Int) (t:TypeId) (h:l=[x]) (hi:Zaw w a l):
  Calls Tryz.prog 28 #[.slice a l.length c,.slice (some ⟨w.heap.size,0,none⟩) 1 1] (w.alloc (.cells #[.int .i64 x] t)) fun e w'=>e=.returned (.bool true)∧Below w.heap.size w w':=
 (Zmv (m:=[x]) (d:=1) h (by rw[h];simp) (hi.mono (Zkj w _)) (Zra (Zbj _ _ rfl))).mono fun e w' ⟨h1,h2⟩=>⟨h1,(Zkj w _).trans (h2.mono (by simp))⟩
theorem Z6p {a:Option Addr} {l:List Int} {c:Nat} {w:World} (x y:Int) (t:TypeId) (h:l=[x,y]) (hi:Zaw w a l):
  Calls Tryz.prog 28 #[.slice a l.length c,.slice (some ⟨w.heap.size,0,none⟩) 2 2] (w.alloc (.cells #[.int .i64 x,.int .i64 y] t)) fun e w'=>e=.returned (.bool true)∧Below w.heap.size w w':=
 (Zmv (m:=[x,y]) (d:=2) h (by rw[h];simp) (hi.mono (Zkj w _)) (Zra (Zbj _ _ rfl))).mono fun e w' ⟨h1,h2⟩=>⟨h1,(Zkj w _).trans (h2.mono (by simp))⟩
theorem Zz7 {a:Option Addr} {l:List Int} {c:Nat} {w:World} (x y z:Int) (t:TypeId) (h:l=[x,y,z]) (hi:Zaw w a l):
  Calls Tryz.prog 28 #[.slice a l.length c,.slice (some ⟨w.heap.size,0,none⟩) 3 3] (w.alloc (.cells #[.int .i64 x,.int .i64 y,.int .i64 z] t)) fun e w'=>e=.returned (.bool true)∧Below w.heap.size w w':=
 (Zmv (m:=[x,y,z]) (d:=3) h (by rw[h];simp) (hi.mono (Zkj w _)) (Zra (Zbj _ _ rfl))).mono fun e w' ⟨h1,h2⟩=>⟨h1,(Zkj w _).trans (h2.mono (by simp))⟩
end
end Go.Proofs.YtklconegomgjaaaGreat
