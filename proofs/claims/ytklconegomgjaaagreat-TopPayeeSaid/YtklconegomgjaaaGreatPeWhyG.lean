/- What is proved here: the contract of Spell of layer 1, at a valid book and letters of which none is silent and can be a sound of what is heard. Conditions: the book lies in memory. -/
import Derived.Test.YtklconegomgjaaaGreatEaOddG
import Derived.Laws.Concat
import Derived.Laws.Runes
import Derived.Test.YtklconegomgjaaaGreatErAG
import Derived.Test.YtklconegomgjaaaGreatPeAlikeG
import Derived.Test.YtklconegomgjaaaGreatMoney4G
import Derived.Test.YtklconegomgjaaaGreatPeWiderG
set_option linter.all false
set_option maxRecDepth 100000
set_option maxHeartbeats 16000000
namespace Go.Proofs.YtklconegomgjaaaGreat
section
open Go Go.RowKit Go.Shelf
structure SpB (W:World) (ph pl pw:Nat) (al:Option Addr) (cl:Nat) (ls:List EaL) (h:List Int):Prop where
 hb:W.heap[ph]?=some (.cells (Zar h) 95 (0,0))
 lb:W.heap[pl]?=some (.cells #[.slice al ls.length cl] 128 (0,0))
 wb:W.heap[pw]?=some (.cells #[.func (.func 72) #[] #[.pointer (some ⟨ph,0,none⟩),.pointer (some ⟨pl,0,none⟩),.pointer (some ⟨pw,0,none⟩)]] 146 (0,0))
 ok:SlOk al ls.length cl
 ls:Za1 W al ls
theorem SpB.below {W V:World} {ph pl pw:Nat} {al:Option Addr} {cl:Nat} {ls:List EaL} {h:List Int} (s:SpB W ph pl pw al cl ls h) (hb:Below W.heap.size W V):SpB V ph pl pw al cl ls h:=
 ⟨(hb.block _ (lt_of_block s.hb)).trans s.hb,(hb.block _ (lt_of_block s.lb)).trans s.lb,(hb.block _ (lt_of_block s.wb)).trans s.wb,s.ok,s.ls.mono hb⟩
end
section
open Go Go.RowKit Go.Shelf
def Z3z (w:World) (l:List Int) (er:Int) (e:Ending) (w':World):Prop:=∃a c,e=.returned (.tuple #[.slice a l.length c,.int .i64 er])∧SlOk a l.length c∧Zaw w' a l∧Below w.heap.size w w'
theorem Z4h {w w':World} {v:Value} {l m:List Int} {er:Int} {e:Ending} (he:e=.returned (.tuple #[v,.int .i64 er])) (h:Zbm w.heap.size w' v m) (hl:m=l) (hb:Below w.heap.size w w'):Z3z w l er e w':=by
 subst hl
 obtain⟨a,c,rfl,h1,h2,-⟩:=h
 exact⟨a,c,he,h1,h2,hb⟩
def Zt0 (w:World) (v:Value) (e:Ending) (w':World):Prop:=e=.returned v∧Below w.heap.size w w'
section
variable (a1 a2:Option Addr) (w:World)
set_option maxRecDepth 100000
end
end
section
open Go Go.RowKit Go.Shelf
theorem Z2e (a1 a2 a3 a4:Option Addr) (k1 k2 k3 k4:Nat) (t:PeW) (a b:Nat) (w:World) (hm:TownC w a1 a2 a3 a4 k1 k2 k3 k4 t) (hv:PeValid t) (hab:a≠b) (ha:a<t.ments.length) (hb:b<t.ments.length):
  Calls Tryz.prog 9 #[(.agg #[.int .i64 t.ear.sounds,.slice a1 t.ear.alphas.length k1,.slice a2 t.ear.spells.length k2,.int .i64 t.vills,.slice a3 t.ments.length k3,.slice a4 t.ties.length k4]),.int .i64 (a:Int),.int .i64 (b:Int)] w fun e w'=>e=.returned (.tuple #[.int .i64 (whyN t a b),.int .i64 0])∧Below w.heap.size w w':=by
 have C:=LH (fun(V:World) (h:Below (w.heap.size+1) (w.alloc (.cells #[.int .i64 t.ear.sounds,.slice a1 t.ear.alphas.length k1,.slice a2 t.ear.spells.length k2,.int .i64 t.vills,.slice a3 t.ments.length k3,.slice a4 t.ties.length k4] 29)) V)=>Zig a1 a2 a3 a4 k1 k2 k3 k4 t V (hm.mono (Zaf h)) hv)
 have LK:=LH (fun(V:World) (h:Below (w.heap.size+1) (w.alloc (.cells #[.int .i64 t.ear.sounds,.slice a1 t.ear.alphas.length k1,.slice a2 t.ear.spells.length k2,.int .i64 t.vills,.slice a3 t.ments.length k3,.slice a4 t.ties.length k4] 29)) V)=>Zk9 a1 a2 a3 a4 k1 k2 k3 k4 t V (hm.mono (Zaf h)))
 have WY:=LH (fun(V:World) (bt bc bk:Nat) (h:TownW V bt bc bk a1 a2 a3 a4 k1 k2 k3 k4 t 0)=>Zwf a1 a2 a3 a4 k1 k2 k3 k4 t bt bc bk 0 a b V h hv.ok ha hb)
 have TWO:=LH (fun(V:World)=>Zw9 a1 a2 a3 a4 k1 k2 k3 k4 t a b V)
 have HTC:=LH (fun(V:World)=>Zsv a1 a2 a3 a4 k1 k2 k3 k4 t a b V hv hab ha hb _ (Below.refl _ _))
 have hQ:=Below.refl (w.heap.size+1) (w.alloc (.cells #[.int .i64 t.ear.sounds,.slice a1 t.ear.alphas.length k1,.slice a2 t.ear.spells.length k2,.int .i64 t.vills,.slice a3 t.ments.length k3,.slice a4 t.ties.length k4] 29))
 obtain⟨x0,x1,x2,x3,x4,x5,xz⟩:=Zbu hQ
 generalize whyN t a b=wy at WY ⊢
 clear hm hv ha hb hab
 go_enter Tryz.func9,Tryz.ntmps9
 go_wp2_with (first
  |(go_at_call 42;go_must ((with_reducible refine(WY.out _ _ _ _ ht6).mono ?_);rintro e w7 ⟨rfl,hl7,ht7⟩;dsimp only))
  |(go_at_call 41;go_must ((with_reducible refine(LK.out _ hQ5).mono ?_);rintro e w6 ⟨bt,bc,bk,rfl,ht6,hb6,g1,g2,g3⟩;dsimp only))
  |(go_at_call 91;go_must ((with_reducible refine(HTC.out w2).mono ?_);rintro e w5 ⟨rfl,hb5⟩;have hQ5:=Zaz hQ2 ((Zea a1 a2 a3 a4 k1 k2 k3 k4 t a b w2).trans (hb5.mono (Zea a1 a2 a3 a4 k1 k2 k3 k4 t a b w2).size));obtain⟨x0,x1,x2,x3,x4,x5,xz⟩:=Zbu hQ5;dsimp only))
  |(go_at_call 40;go_must ((with_reducible refine(TWO.out _).mono ?_);rintro e w4 ⟨rfl,rfl⟩;dsimp only))
  |(go_at_call 39;go_must ((with_reducible refine(C.out _ hQ).mono ?_);rintro e w2 ⟨rfl,hb2⟩;have hQ2:=Zaz hQ hb2;obtain⟨x0,x1,x2,x3,x4,x5,xz⟩:=Zbu hQ2;dsimp only)))
 have hz:=(Zaf hQ5).size
 go_ret2
 exact⟨rfl,hl7.own ((Zaf hQ5).trans (hb6.mono hz)) (by omega) (by omega)⟩
end
end Go.Proofs.YtklconegomgjaaaGreat
