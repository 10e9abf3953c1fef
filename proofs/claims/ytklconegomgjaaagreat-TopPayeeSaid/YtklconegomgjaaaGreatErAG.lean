/- What is proved here: numbers that are compared with a few given ones. No condition. -/
import Derived.Test.YtklconegomgjaaaGreatMoney4G
import Derived.Test.YtklconegomgjaaaGreatPnBaseG
import Derived.Test.YtklconegomgjaaaGreatPeAlikeG
import Derived.Laws.ResultCell
import Derived.Test.YtklconegomgjaaaGreatPeWhoB
import Derived.Test.YtklconegomgjaaaGreatPyNG
import Derived.Test.YtklconegomgjaaaGreatEaChkG
set_option linter.all false
set_option maxRecDepth 100000
set_option maxHeartbeats 16000000
namespace Go.Proofs.YtklconegomgjaaaGreat
section
open Go Go.RowKit
theorem Zf6 (W:World) (o:Obj):Below W.heap.size W (W.alloc o):=(Below.refl _ _).alloc (Nat.le_refl _) o
theorem Zld {a b:Option Addr} {l m:List Int} {c d:Nat} {w:World} (h:l=m) (hl:l.length≤100) (hi:Zaw w a l) (hj:Zaw w b m):
  Calls Tryz.prog 28 #[.slice a l.length c,.slice b m.length d] w fun e w'=>e=.returned (.bool true)∧Below w.heap.size w w':=by
 have C:=Zwm a b l m c d w (by omega) (by rw[←h];omega) hi hj
 rw[Zrn.2 h] at C
 exact C.mono fun e w' ⟨h1,q,h2⟩=>⟨h1,by rw[h2];exact Zd7 _ _ q⟩
theorem Zjq {W:World} {b:Nat} {t:TypeId} {l:List Int} (h:W.heap[b]?=some (.cells (l.map (Value.int .i64)).toArray t (0,0))):Zaw W (some ⟨b,0,none⟩) l:=fun i hi=>
 ⟨b,0,rfl,lt_of_block h,Zaa _ h (by simp[hi])⟩
theorem Z2g {a:Option Addr} {l:List Int} {c:Nat} {w:World} (x:Int) (t:TypeId) (h:l=[x]) (hi:Zaw w a l):
  Calls Tryz.prog 28 #[.slice a l.length c,.slice (some ⟨w.heap.size,0,none⟩) 1 1] (w.alloc (.cells #[.int .i64 x] t)) fun e w'=>e=.returned (.bool true)∧Below w.heap.size w w':=
 (Zld (m:=[x]) (d:=1) h (by rw[h];simp) (hi.mono (Zf6 w _)) (Zjq (Zac _ _ rfl))).mono fun e w' ⟨h1,h2⟩=>⟨h1,(Zf6 w _).trans (h2.mono (by simp))⟩
theorem Z2i {a:Option Addr} {l:List Int} {c:Nat} {w:World} (x y:Int) (t:TypeId) (h:l=[x,y]) (hi:Zaw w a l):
  Calls Tryz.prog 28 #[.slice a l.length c,.slice (some ⟨w.heap.size,0,none⟩) 2 2] (w.alloc (.cells #[.int .i64 x,.int .i64 y] t)) fun e w'=>e=.returned (.bool true)∧Below w.heap.size w w':=
 (Zld (m:=[x,y]) (d:=2) h (by rw[h];simp) (hi.mono (Zf6 w _)) (Zjq (Zac _ _ rfl))).mono fun e w' ⟨h1,h2⟩=>⟨h1,(Zf6 w _).trans (h2.mono (by simp))⟩
theorem Z0y {a:Option Addr} {l:List Int} {c:Nat} {w:World} (x y z u:Int) (t:TypeId) (h:l=[x,y,z,u]) (hi:Zaw w a l):
  Calls Tryz.prog 28 #[.slice a l.length c,.slice (some ⟨w.heap.size,0,none⟩) 4 4] (w.alloc (.cells #[.int .i64 x,.int .i64 y,.int .i64 z,.int .i64 u] t)) fun e w'=>e=.returned (.bool true)∧Below w.heap.size w w':=
 (Zld (m:=[x,y,z,u]) (d:=4) h (by rw[h];simp) (hi.mono (Zf6 w _)) (Zjq (Zac _ _ rfl))).mono fun e w' ⟨h1,h2⟩=>⟨h1,(Zf6 w _).trans (h2.mono (by simp))⟩
end
section
open Go Go.RowKit Go.Shelf
theorem Zs2:EaValid Zpu:=by
 refine⟨by decide,by decide,fun i hi=>?_,fun i hi=>?_,fun i hi k hk=>?_,by decide,fun i hi=>?_⟩
 ·have hi:i<2:=hi
  obtain rfl|rfl:i=0∨i=1:=by omega
  all_goals (decide +kernel +revert)
 ·have hi:i<2:=hi
  obtain rfl|rfl:i=0∨i=1:=by omega
  all_goals (decide +revert)
 ·have hi:i<2:=hi
  obtain rfl|rfl:i=0∨i=1:=by omega
  ·have hk:k<4:=hk
   obtain rfl|rfl|rfl|rfl:k=0∨k=1∨k=2∨k=3:=by omega
   all_goals (decide +kernel +revert)
  ·have hk:k<3:=hk
   obtain rfl|rfl|rfl:k=0∨k=1∨k=2:=by omega
   all_goals (decide +kernel +revert)
 ·have hi:i<4:=hi
  obtain rfl|rfl|rfl|rfl:i=0∨i=1∨i=2∨i=3:=by omega
  all_goals (decide +kernel +revert)
theorem Zu8 (a b:Int) (c:Bool) (w:World):Calls Tryz.prog 67 #[.int .u8 a,.int .i64 b,.bool c] w fun e w'=>e=.returned (.agg #[.int .u8 a,.int .i64 b,.bool c])∧w'=w.alloc (.cells #[.int .u8 a,.int .i64 b,.bool c] 137):=by
 go_enter Tryz.func67,Tryz.ntmps67
 go_wp2
 refine bodyPost_ret (v:=.agg #[.int .u8 a,.int .i64 b,.bool c]) ?_ rfl ⟨rfl,rfl⟩
 rw[Zbh rfl]
 go_simp
theorem Zyh {W:World} {n1 n2 n3 n4:Nat} (h1:W.heap[n1]?=some (.cells #[.int .u8 97,.int .i64 1,.bool false,.int .u8 101,.int .i64 3,.bool false,.int .u8 107,.int .i64 4,.bool false,.int .u8 104,.int .i64 0,.bool true] 137 (0,0)))
  (h2:W.heap[n2]?=some (.cells #[.int .u8 107,.int .i64 4,.bool false,.int .u8 121,.int .i64 2,.bool true,.int .u8 110,.int .i64 1,.bool false] 137 (0,0)))
  (h3:W.heap[n3]?=some (.cells #[.string ⟨#[114,111,109,97,110]⟩,.slice (some ⟨n1,0,none⟩) 4 4,.string ⟨#[97,98,106,97,100]⟩,.slice (some ⟨n2,0,none⟩) 3 3] 130 (0,0)))
  (h4:W.heap[n4]?=some (.cells #[.int .i64 0,.string ⟨#[107,101]⟩,.int .i64 1,.string ⟨#[107,121]⟩,.int .i64 0,.string ⟨#[104,107,97]⟩,.int .i64 1,.string ⟨#[107,110]⟩] 134 (0,0))):BookC W (some ⟨n3,0,none⟩) (some ⟨n4,0,none⟩) 2 4 Zpu:=by
 have hs:Zpu=⟨3,[⟨⟨#[114,111,109,97,110]⟩,[⟨97,1,false⟩,⟨101,3,false⟩,⟨107,4,false⟩,⟨104,0,true⟩]⟩,⟨⟨#[97,98,106,97,100]⟩,[⟨107,4,false⟩,⟨121,2,true⟩,⟨110,1,false⟩]⟩],[⟨0,⟨#[107,101]⟩⟩,⟨1,⟨#[107,121]⟩⟩,⟨0,⟨#[104,107,97]⟩⟩,⟨1,⟨#[107,110]⟩⟩]⟩:=by
  unfold Zpu
  have e1: "roman".toUTF8=⟨#[114,111,109,97,110]⟩:=by decide +kernel
  have e2: "abjad".toUTF8=⟨#[97,98,106,97,100]⟩:=by decide +kernel
  have e3: "ke".toUTF8=⟨#[107,101]⟩:=by decide +kernel
  have e4: "ky".toUTF8=⟨#[107,121]⟩:=by decide +kernel
  have e5: "hka".toUTF8=⟨#[104,107,97]⟩:=by decide +kernel
  have e6: "kn".toUTF8=⟨#[107,110]⟩:=by decide +kernel
  rw[e1,e2,e3,e4,e5,e6]
 rw[hs]
 refine⟨⟨Nat.le_refl _,by decide,fun h=>by cases h⟩,⟨Nat.le_refl _,by decide,fun h=>by cases h⟩,fun i hi=>?_,fun i hi=>?_,by decide,by decide⟩
 ·have hi:i<2:=hi
  obtain rfl|rfl:i=0∨i=1:=by omega
  ·refine⟨n3,0,rfl,lt_of_block h3,Zaa 0 h3 rfl,some ⟨n1,0,none⟩,4,Zaa 1 h3 rfl,⟨Nat.le_refl _,by decide,fun h=>by cases h⟩,fun k hk=>?_⟩
   have hk:k<4:=hk
   obtain rfl|rfl|rfl|rfl:k=0∨k=1∨k=2∨k=3:=by omega
   ·exact⟨n1,0,rfl,lt_of_block h1,Zaa 0 h1 rfl,Zaa 1 h1 rfl,Zaa 2 h1 rfl⟩
   ·exact⟨n1,0,rfl,lt_of_block h1,Zaa 3 h1 rfl,Zaa 4 h1 rfl,Zaa 5 h1 rfl⟩
   ·exact⟨n1,0,rfl,lt_of_block h1,Zaa 6 h1 rfl,Zaa 7 h1 rfl,Zaa 8 h1 rfl⟩
   ·exact⟨n1,0,rfl,lt_of_block h1,Zaa 9 h1 rfl,Zaa 10 h1 rfl,Zaa 11 h1 rfl⟩
  ·refine⟨n3,0,rfl,lt_of_block h3,Zaa 2 h3 rfl,some ⟨n2,0,none⟩,3,Zaa 3 h3 rfl,⟨Nat.le_refl _,by decide,fun h=>by cases h⟩,fun k hk=>?_⟩
   have hk:k<3:=hk
   obtain rfl|rfl|rfl:k=0∨k=1∨k=2:=by omega
   ·exact⟨n2,0,rfl,lt_of_block h2,Zaa 0 h2 rfl,Zaa 1 h2 rfl,Zaa 2 h2 rfl⟩
   ·exact⟨n2,0,rfl,lt_of_block h2,Zaa 3 h2 rfl,Zaa 4 h2 rfl,Zaa 5 h2 rfl⟩
   ·exact⟨n2,0,rfl,lt_of_block h2,Zaa 6 h2 rfl,Zaa 7 h2 rfl,Zaa 8 h2 rfl⟩
 ·have hi:i<4:=hi
  obtain rfl|rfl|rfl|rfl:i=0∨i=1∨i=2∨i=3:=by omega
  ·exact⟨n4,0,rfl,lt_of_block h4,Zaa 0 h4 rfl,Zaa 1 h4 rfl⟩
  ·exact⟨n4,0,rfl,lt_of_block h4,Zaa 2 h4 rfl,Zaa 3 h4 rfl⟩
  ·exact⟨n4,0,rfl,lt_of_block h4,Zaa 4 h4 rfl,Zaa 5 h4 rfl⟩
  ·exact⟨n4,0,rfl,lt_of_block h4,Zaa 6 h4 rfl,Zaa 7 h4 rfl⟩
end
section
open Go Go.RowKit Go.Shelf
theorem Zcc (k:Nat) (hk:k≤2):PeValid (Zbb k):=by
 have h3:k=0∨k=1∨k=2:=by omega
 refine⟨Zs2,?_,?_,fun i hi=>?_,?_,fun i hi=>?_⟩
 ·show(1:Int)≤2∧(2:Int)≤4
  decide
 ·show 4≤5
  decide
 ·have hi:i<4:=hi
  obtain rfl|rfl|rfl|rfl:i=0∨i=1∨i=2∨i=3:=by omega
  all_goals (rcases h3 with rfl|rfl|rfl<;>(decide +kernel +revert))
 ·rcases h3 with rfl|rfl|rfl<;>decide
 ·rcases h3 with rfl|rfl|rfl
  ·have:i<0:=hi
   omega
  ·have:i<1:=hi
   obtain rfl:i=0:=by omega
   decide +kernel +revert
  ·have:i<2:=hi
   obtain rfl|rfl:i=0∨i=1:=by omega
   all_goals decide +kernel +revert
theorem Zvu:ElemInfo Tryz.prog 27 44 (.agg #[.int .i64 0,.int .i64 0,.bool false]) 3 24:=⟨by kernel_rfl,by kernel_rfl,rfl,by decide⟩
def Za9 (x:PeT):List Value:=[.int .i64 x.a,.int .i64 x.b,.bool x.same]
theorem Zh7 (x:PeT):(Za9 x).length=3:=rfl
theorem Zty (x:PeT):∀u∈Za9 x,u.oneCell'=true:=fun u hu=>by simp[Za9] at hu;rcases hu with rfl|rfl|rfl<;>rfl
theorem Z3c {w:World} {a:Option Addr} {l:List PeT} (h:Zby w a l):Zhp Za9 3 w a l:=fun i hi=>by
 obtain⟨b,off,e,hlt,h0,h1,h2⟩:=h i hi
 refine⟨b,off,e,hlt,fun r u hr hu=>?_⟩
 obtain rfl|rfl|rfl:r=0∨r=1∨r=2:=by omega
 ·rw[←hu];exact h0
 ·rw[←hu];exact h1
 ·rw[←hu];exact h2
theorem Zso {w:World} {a:Option Addr} {l:List PeT} (h:Zhp Za9 3 w a l):Zby w a l:=fun i hi=>by
 obtain⟨b,off,e,hlt,hr⟩:=h i hi
 exact⟨b,off,e,hlt,hr 0 _ (by omega) rfl,hr 1 _ (by omega) rfl,hr 2 _ (by omega) rfl⟩
theorem Zuy {w:World} {base:Nat} {v:Value} {k:Nat} {l:List PeT} (h:w.ownsRow base 44 3 v k (Zbg Za9 l)) (hk:k=l.length):∃a c,v=.slice a l.length c∧SlOk a l.length c∧Zby w a l:=by
 obtain⟨h0,a,c,h1,h2,h3⟩:=Zjn Zh7 (by decide) h
 subst hk
 exact⟨a,c,h1,h2,Zso h3⟩
theorem Za2.tie1 (W:World) (a b:Int) (c:Bool) (t:TypeId):Za2 (W.alloc (.cells #[.int .i64 a,.int .i64 b,.bool c] t)) (.slice (some ⟨W.heap.size,0,none⟩) 1 1) 1 3 [.int .i64 a,.int .i64 b,.bool c]:=
 Za2.boxP (vs:=[.int .i64 a,.int .i64 b,.bool c]) W (fun u hu=>by simp at hu;rcases hu with rfl|rfl|rfl<;>rfl) t
theorem Znw (a b:Int) (w:World):Calls Tryz.prog 36 #[.int .i64 a,.int .i64 b] w fun e w'=>e=.returned (.agg #[.int .i64 a,.int .i64 b])∧Below w.heap.size w w':=by
 go_enter Tryz.func36,Tryz.ntmps36
 go_wp2
 refine bodyPost_ret (v:=.agg #[.int .i64 a,.int .i64 b]) ?_ rfl ⟨rfl,(Below.refl _ _).alloc (Nat.le_refl _) _⟩
 rw[Zbh rfl]
 go_simp
theorem Zqf (s:Bool) (w:World):Calls Tryz.prog 77 #[.bool s] w fun e w'=>e=.returned (.agg #[.int .i64 0,.int .i64 1,.bool s])∧Below w.heap.size w w':=by
 go_enter Tryz.func77,Tryz.ntmps77
 go_wp2
 refine bodyPost_ret (v:=.agg #[.int .i64 0,.int .i64 1,.bool s]) ?_ rfl ⟨rfl,(Below.refl _ _).alloc (Nat.le_refl _) _⟩
 rw[Zbh rfl]
 go_simp
theorem Zku (a b c d f:Int) (w:World):Calls Tryz.prog 35 #[.int .i64 a,.int .i64 b,.int .i64 c,.int .i64 d,.int .i64 f] w fun e w'=>e=.returned (.agg #[.int .i64 a,.int .i64 b,.int .i64 c,.int .i64 d,.int .i64 f])∧Below w.heap.size w w':=by
 have SP:=LH (fun(V:World)=>Znw c d V)
 go_enter Tryz.func35,Tryz.ntmps35
 go_upto_region 1 with(fail)
 obtain⟨X,hX⟩:∃X:World,X=w.alloc (.cells #[.int .i64 0,.int .i64 0,.int .i64 0,.int .i64 0,.int .i64 0] 38):=⟨_,rfl⟩
 rw[←hX]
 have hbX:Below w.heap.size w X:=by rw[hX];exact(Below.refl _ _).alloc (Nat.le_refl _) _
 have hX1:X.heap[w.heap.size]?=some (.cells #[.int .i64 0,.int .i64 0,.int .i64 0,.int .i64 0,.int .i64 0] 38 (0,0)):=by rw[hX];exact Zac _ _ rfl
 clear hX
 have hzX:=lt_of_block hX1
 have HC:=LH (fun(V:World) (h:Below X.heap.size X V)=>(show(V.cell? ⟨w.heap.size,0,none⟩=some (.int .i64 0)∧V.cell? ⟨w.heap.size,1,none⟩=some (.int .i64 0)∧V.cell? ⟨w.heap.size,2,none⟩=some (.int .i64 0)∧V.cell? ⟨w.heap.size,3,none⟩=some (.int .i64 0)∧V.cell? ⟨w.heap.size,4,none⟩=some (.int .i64 0))∧(V.frozen? ⟨w.heap.size,0,none⟩=false∧V.frozen? ⟨w.heap.size,1,none⟩=false∧V.frozen? ⟨w.heap.size,2,none⟩=false∧V.frozen? ⟨w.heap.size,3,none⟩=false∧V.frozen? ⟨w.heap.size,4,none⟩=false)∧w.heap.size<V.heap.size∧V.heap[w.heap.size]?=some (.cells #[.int .i64 0,.int .i64 0,.int .i64 0,.int .i64 0,.int .i64 0] 38 (0,0)) from by
  have g:=(h.block _ (lt_of_block hX1)).trans hX1
  exact⟨⟨Zaa 0 g rfl,Zaa 1 g rfl,Zaa 2 g rfl,Zaa 3 g rfl,Zaa 4 g rfl⟩,⟨Zad 0 g,Zad 1 g,Zad 2 g,Zad 3 g,Zad 4 g⟩,lt_of_block g,g⟩))
 clear hX1 hzX
 go_wp2_with (go_at_call 36;go_must ((with_reducible refine(SP.out _).mono ?_);rintro e w2 ⟨rfl,hb2⟩;obtain⟨⟨c0,c1,c2,c3,c4⟩,⟨f0,f1,f2,f3,f4⟩,cz,cb⟩:=HC.out _ hb2;replace cb:=LH cb;dsimp only))
 have hs:=Zak 4 (.int .i64 f) (Zak 3 (.int .i64 d) (Zak 2 (.int .i64 c) (Zak 1 (.int .i64 b) (Zak 0 (.int .i64 a) cb.out))))
 have hE:=(((((hbX.trans (hb2.mono hbX.size)).setCell (p:=⟨w.heap.size,0,none⟩) (Nat.le_refl _) (.int .i64 a)).setCell (p:=⟨w.heap.size,1,none⟩) (Nat.le_refl _) (.int .i64 b)).setCell (p:=⟨w.heap.size,2,none⟩) (Nat.le_refl _) (.int .i64 c)).setCell (p:=⟨w.heap.size,3,none⟩) (Nat.le_refl _) (.int .i64 d)).setCell (p:=⟨w.heap.size,4,none⟩) (Nat.le_refl _) (.int .i64 f)
 obtain⟨Z,hZ⟩:∃Z:World,Z=((((w2.setCell ⟨w.heap.size,0,none⟩ (.int .i64 a)).setCell ⟨w.heap.size,1,none⟩ (.int .i64 b)).setCell ⟨w.heap.size,2,none⟩ (.int .i64 c)).setCell ⟨w.heap.size,3,none⟩ (.int .i64 d)).setCell ⟨w.heap.size,4,none⟩ (.int .i64 f):=⟨_,rfl⟩
 rw[←hZ] at hs hE ⊢
 clear hZ c0 c1 c2 c3 c4 f0 f1 f2 f3 f4 cz
 have c0:=Zaa 0 hs rfl
 have c1:=Zaa 1 hs rfl
 have c2:=Zaa 2 hs rfl
 have c3:=Zaa 3 hs rfl
 have c4:=Zaa 4 hs rfl
 refine bodyPost_ret (v:=.agg #[.int .i64 a,.int .i64 b,.int .i64 c,.int .i64 d,.int .i64 f]) ?_ rfl ⟨rfl,hE⟩
 rw[Zbh rfl]
 go_simp
end
section
open Go Go.RowKit Go.Shelf
theorem Z7e (x lo hi:Int) (r:Bool) (hr:inB x lo hi=r) (a:Nat) (w:World) (h:w.cell? ⟨a,0,none⟩=some (.int .i64 x)):
  Calls Tryz.prog 81 #[.int .i64 lo,.int .i64 hi,.slice (some ⟨a,0,none⟩) 1 1] w fun e w'=>e=.returned (.bool (!r))∧Below w.heap.size w w':=by
 have:=Zmr x lo hi a w h
 rwa [hr] at this
theorem Z9i (x y lo hi:Int) (r:Bool) (hr:(inB x lo hi&&inB y lo hi)=r) (a:Nat) (w:World) (h:w.cell? ⟨a,0,none⟩=some (.int .i64 x)) (h1:w.cell? ⟨a,1,none⟩=some (.int .i64 y)):
  Calls Tryz.prog 81 #[.int .i64 lo,.int .i64 hi,.slice (some ⟨a,0,none⟩) 2 2] w fun e w'=>e=.returned (.bool (!r))∧Below w.heap.size w w':=by
 have:=Zpw (some ⟨a,0,none⟩) [x,y] 2 lo hi w (by simp) (fun k hk=>by
  have e:k=0∨k=1:=(by have hk2:k<2:=(by simpa using hk);omega)
  rcases e with rfl|rfl
  ·exact⟨a,0,rfl,Zag h,by simpa using h⟩
  ·exact⟨a,0,rfl,Zag h1,by simpa using h1⟩)
 have e:([x,y].any (outB lo hi))=!r:=by
  rw[←hr,Bool.eq_iff_iff]
  unfold outB inB
  simp
  (try omega)
 rwa [e] at this
theorem Zqh (a1 a2 a3 a4:Option Addr) (k1 k2 k3 k4:Nat) (t:PeW) (at_:Int) (x:PeM) (w:World) (hm:TownC w a1 a2 a3 a4 k1 k2 k3 k4 t) (hvl:1≤t.vills∧t.vills≤4):
  Calls Tryz.prog 57 #[(.agg #[.int .i64 t.ear.sounds,.slice a1 t.ear.alphas.length k1,.slice a2 t.ear.spells.length k2,.int .i64 t.vills,.slice a3 t.ments.length k3,.slice a4 t.ties.length k4]),.int .i64 at_,Zqv x] w fun e w'=>e=.returned (.int .i64 (Zbc t at_ x))∧Below w.heap.size w w':=by
 obtain⟨r,hr⟩:∃r,r=Zbc t at_ x:=⟨_,rfl⟩
 rw[←hr]
 obtain⟨xs,xv,xl,xh,xp⟩:=x
 unfold Zbc at hr
 simp only at hr
 obtain⟨Z,hZ⟩:∃Z:World,Z=(w.alloc (.cells #[.int .i64 t.ear.sounds,.slice a1 t.ear.alphas.length k1,.slice a2 t.ear.spells.length k2,.int .i64 t.vills,.slice a3 t.ments.length k3,.slice a4 t.ties.length k4] 29)).alloc (.cells #[.int .i64 xs,.int .i64 xv,.int .i64 xl,.int .i64 xh,.int .i64 xp] 38):=⟨_,rfl⟩
 have hz1:Z.heap[w.heap.size]?=some (.cells #[.int .i64 t.ear.sounds,.slice a1 t.ear.alphas.length k1,.slice a2 t.ear.spells.length k2,.int .i64 t.vills,.slice a3 t.ments.length k3,.slice a4 t.ties.length k4] 29 (0,0)):=by rw[hZ];exact(heap_alloc_old _ _ (by simp)).trans (Zac _ _ rfl)
 have hz2:Z.heap[w.heap.size+1]?=some (.cells #[.int .i64 xs,.int .i64 xv,.int .i64 xl,.int .i64 xh,.int .i64 xp] 38 (0,0)):=by rw[hZ];exact Zac _ _ (by simp)
 have hbZ:Below w.heap.size w Z:=by rw[hZ];exact((Below.refl _ _).alloc (Nat.le_refl _) _).alloc (by simp) _
 have HZ:=LH hZ
 have ls:=hm.book.oks.len
 have lm:=hm.okm.len
 have lv:t.vills-1<9223372036854775807∧-9223372036854775808≤t.vills-1:=by omega
 have B1:=fun a V h=>Z7e xs 0 ((t.ear.spells.length:Int)-1) _ rfl a V h
 have B2:=fun a V h=>Z7e xv (-1) (t.vills-1) _ rfl a V h
 have B3:=fun a V h=>Z7e xp (-1) ((t.ments.length:Int)-1) _ rfl a V h
 have B4:=fun a V h h1=>Z9i xl xh 0 199 _ rfl a V h h1
 generalize inB xs 0 ((t.ear.spells.length:Int)-1)=i1 at hr B1
 generalize inB xv (-1) (t.vills-1)=i2 at hr B2
 generalize inB xp (-1) ((t.ments.length:Int)-1)=i3 at hr B3
 generalize (inB xl 0 199&&inB xh 0 199)=i4 at hr B4
 replace B1:=LH B1
 replace B2:=LH B2
 replace B3:=LH B3
 replace B4:=LH B4
 have HR:=LH hr
 have KE:=LH (fun(V:World) (h:Below Z.heap.size Z V)=>(show V.cell? ⟨w.heap.size,2,none⟩=some (.slice a2 t.ear.spells.length k2)∧V.cell? ⟨w.heap.size,3,none⟩=some (.int .i64 t.vills)∧V.cell? ⟨w.heap.size,4,none⟩=some (.slice a3 t.ments.length k3)∧V.cell? ⟨w.heap.size+1,0,none⟩=some (.int .i64 xs)∧V.cell? ⟨w.heap.size+1,1,none⟩=some (.int .i64 xv)∧V.cell? ⟨w.heap.size+1,2,none⟩=some (.int .i64 xl)∧V.cell? ⟨w.heap.size+1,3,none⟩=some (.int .i64 xh)∧V.cell? ⟨w.heap.size+1,4,none⟩=some (.int .i64 xp)∧w.heap.size<V.heap.size∧w.heap.size+1<V.heap.size from by
  have e1:=(h.block _ (lt_of_block hz1)).trans hz1
  have e2:=(h.block _ (lt_of_block hz2)).trans hz2
  exact⟨Zaa 2 e1 rfl,Zaa 3 e1 rfl,Zaa 4 e1 rfl,Zaa 0 e2 rfl,Zaa 1 e2 rfl,Zaa 2 e2 rfl,Zaa 3 e2 rfl,Zaa 4 e2 rfl,lt_of_block e1,lt_of_block e2⟩))
 have hQ0:=Below.refl Z.heap.size Z
 clear hm hZ hr
 go_enter Tryz.func57,Tryz.ntmps57
 go_upto_region 1 with(fail)
 rw[←HZ.out]
 obtain⟨x2,x3,x4,y0,y1,y2,y3,y4,xz,yz⟩:=KE.out _ hQ0
 clear HZ hz1 hz2
 cases i1
 ·go_wp2_with (go_at_call 81;((with_reducible refine(B1.out _ _ ?_ ).mono ?_);(simp);rintro e w3 ⟨rfl,hb3⟩;have hQ1:=(hQ0.alloc hQ0.size (.cells #[.int .i64 xs] 3)).trans (hb3.mono (by have:=hQ0.size;simp<;>omega));obtain⟨x2,x3,x4,y0,y1,y2,y3,y4,xz,yz⟩:=KE.out _ hQ1;dsimp only))
  go_ret
  exact⟨Za7 (by rw[HR.out];simp),hbZ.trans (hQ1.mono hbZ.size)⟩
 cases i2
 ·go_wp2_with (first
   |(go_at_call 81;((with_reducible refine(B2.out _ _ ?_ ).mono ?_);(simp);rintro e w4 ⟨rfl,hb4⟩;have hQ2:=(hQ1.alloc hQ1.size (.cells #[.int .i64 xv] 3)).trans (hb4.mono (by have:=hQ1.size;simp<;>omega));obtain⟨x2,x3,x4,y0,y1,y2,y3,y4,xz,yz⟩:=KE.out _ hQ2;dsimp only))
   |(go_at_call 81;((with_reducible refine(B1.out _ _ ?_ ).mono ?_);(simp);rintro e w3 ⟨rfl,hb3⟩;have hQ1:=(hQ0.alloc hQ0.size (.cells #[.int .i64 xs] 3)).trans (hb3.mono (by have:=hQ0.size;simp<;>omega));obtain⟨x2,x3,x4,y0,y1,y2,y3,y4,xz,yz⟩:=KE.out _ hQ1;dsimp only)))
  go_ret
  exact⟨Za7 (by rw[HR.out];simp),hbZ.trans (hQ2.mono hbZ.size)⟩
 cases i3
 ·go_wp2_with (first
   |(go_at_call 81;((with_reducible refine(B3.out _ _ ?_ ).mono ?_);(simp);rintro e w5 ⟨rfl,hb5⟩;have hQ3:=(hQ2.alloc hQ2.size (.cells #[.int .i64 xp] 3)).trans (hb5.mono (by have:=hQ2.size;simp<;>omega));obtain⟨x2,x3,x4,y0,y1,y2,y3,y4,xz,yz⟩:=KE.out _ hQ3;dsimp only))
   |(go_at_call 81;((with_reducible refine(B2.out _ _ ?_ ).mono ?_);(simp);rintro e w4 ⟨rfl,hb4⟩;have hQ2:=(hQ1.alloc hQ1.size (.cells #[.int .i64 xv] 3)).trans (hb4.mono (by have:=hQ1.size;simp<;>omega));obtain⟨x2,x3,x4,y0,y1,y2,y3,y4,xz,yz⟩:=KE.out _ hQ2;dsimp only))
   |(go_at_call 81;((with_reducible refine(B1.out _ _ ?_ ).mono ?_);(simp);rintro e w3 ⟨rfl,hb3⟩;have hQ1:=(hQ0.alloc hQ0.size (.cells #[.int .i64 xs] 3)).trans (hb3.mono (by have:=hQ0.size;simp<;>omega));obtain⟨x2,x3,x4,y0,y1,y2,y3,y4,xz,yz⟩:=KE.out _ hQ1;dsimp only)))
  go_ret
  exact⟨Za7 (by rw[HR.out];simp),hbZ.trans (hQ3.mono hbZ.size)⟩
 cases i4
 ·go_wp2_with (first
   |(go_at_call 81;((with_reducible refine(B4.out _ _ ?_ ?_ ).mono ?_);(simp);(simp);rintro e w6 ⟨rfl,hb6⟩;have hQ4:=(hQ3.alloc hQ3.size (.cells #[.int .i64 xl,.int .i64 xh] 3)).trans (hb6.mono (by have:=hQ3.size;simp<;>omega));obtain⟨x2,x3,x4,y0,y1,y2,y3,y4,xz,yz⟩:=KE.out _ hQ4;dsimp only))
   |(go_at_call 81;((with_reducible refine(B3.out _ _ ?_ ).mono ?_);(simp);rintro e w5 ⟨rfl,hb5⟩;have hQ3:=(hQ2.alloc hQ2.size (.cells #[.int .i64 xp] 3)).trans (hb5.mono (by have:=hQ2.size;simp<;>omega));obtain⟨x2,x3,x4,y0,y1,y2,y3,y4,xz,yz⟩:=KE.out _ hQ3;dsimp only))
   |(go_at_call 81;((with_reducible refine(B2.out _ _ ?_ ).mono ?_);(simp);rintro e w4 ⟨rfl,hb4⟩;have hQ2:=(hQ1.alloc hQ1.size (.cells #[.int .i64 xv] 3)).trans (hb4.mono (by have:=hQ1.size;simp<;>omega));obtain⟨x2,x3,x4,y0,y1,y2,y3,y4,xz,yz⟩:=KE.out _ hQ2;dsimp only))
   |(go_at_call 81;((with_reducible refine(B1.out _ _ ?_ ).mono ?_);(simp);rintro e w3 ⟨rfl,hb3⟩;have hQ1:=(hQ0.alloc hQ0.size (.cells #[.int .i64 xs] 3)).trans (hb3.mono (by have:=hQ0.size;simp<;>omega));obtain⟨x2,x3,x4,y0,y1,y2,y3,y4,xz,yz⟩:=KE.out _ hQ1;dsimp only)))
  go_ret
  exact⟨Za7 (by rw[HR.out];simp),hbZ.trans (hQ4.mono hbZ.size)⟩
 by_cases c1:xh<xl
 ·have HN:Hid (¬(xl≤xh∧xp≠at_)):=LH (by omega)
  go_wp2_with (first
   |(go_at_call 81;((with_reducible refine(B4.out _ _ ?_ ?_ ).mono ?_);(simp);(simp);rintro e w6 ⟨rfl,hb6⟩;have hQ4:=(hQ3.alloc hQ3.size (.cells #[.int .i64 xl,.int .i64 xh] 3)).trans (hb6.mono (by have:=hQ3.size;simp<;>omega));obtain⟨x2,x3,x4,y0,y1,y2,y3,y4,xz,yz⟩:=KE.out _ hQ4;dsimp only))
   |(go_at_call 81;((with_reducible refine(B3.out _ _ ?_ ).mono ?_);(simp);rintro e w5 ⟨rfl,hb5⟩;have hQ3:=(hQ2.alloc hQ2.size (.cells #[.int .i64 xp] 3)).trans (hb5.mono (by have:=hQ2.size;simp<;>omega));obtain⟨x2,x3,x4,y0,y1,y2,y3,y4,xz,yz⟩:=KE.out _ hQ3;dsimp only))
   |(go_at_call 81;((with_reducible refine(B2.out _ _ ?_ ).mono ?_);(simp);rintro e w4 ⟨rfl,hb4⟩;have hQ2:=(hQ1.alloc hQ1.size (.cells #[.int .i64 xv] 3)).trans (hb4.mono (by have:=hQ1.size;simp<;>omega));obtain⟨x2,x3,x4,y0,y1,y2,y3,y4,xz,yz⟩:=KE.out _ hQ2;dsimp only))
   |(go_at_call 81;((with_reducible refine(B1.out _ _ ?_ ).mono ?_);(simp);rintro e w3 ⟨rfl,hb3⟩;have hQ1:=(hQ0.alloc hQ0.size (.cells #[.int .i64 xs] 3)).trans (hb3.mono (by have:=hQ0.size;simp<;>omega));obtain⟨x2,x3,x4,y0,y1,y2,y3,y4,xz,yz⟩:=KE.out _ hQ1;dsimp only)))
  go_ret
  exact⟨Za7 (by rw[HR.out];simp[HN.out]),hbZ.trans (hQ4.mono hbZ.size)⟩
 ·by_cases c2:xp=at_
  ·have e2:=Zdv c2
   have HN:Hid (¬(xl≤xh∧xp≠at_)):=LH (fun h=>h.2 c2)
   clear c2
   go_wp2_with (first
    |(go_at_call 81;((with_reducible refine(B4.out _ _ ?_ ?_ ).mono ?_);(simp);(simp);rintro e w6 ⟨rfl,hb6⟩;have hQ4:=(hQ3.alloc hQ3.size (.cells #[.int .i64 xl,.int .i64 xh] 3)).trans (hb6.mono (by have:=hQ3.size;simp<;>omega));obtain⟨x2,x3,x4,y0,y1,y2,y3,y4,xz,yz⟩:=KE.out _ hQ4;dsimp only))
    |(go_at_call 81;((with_reducible refine(B3.out _ _ ?_ ).mono ?_);(simp);rintro e w5 ⟨rfl,hb5⟩;have hQ3:=(hQ2.alloc hQ2.size (.cells #[.int .i64 xp] 3)).trans (hb5.mono (by have:=hQ2.size;simp<;>omega));obtain⟨x2,x3,x4,y0,y1,y2,y3,y4,xz,yz⟩:=KE.out _ hQ3;dsimp only))
    |(go_at_call 81;((with_reducible refine(B2.out _ _ ?_ ).mono ?_);(simp);rintro e w4 ⟨rfl,hb4⟩;have hQ2:=(hQ1.alloc hQ1.size (.cells #[.int .i64 xv] 3)).trans (hb4.mono (by have:=hQ1.size;simp<;>omega));obtain⟨x2,x3,x4,y0,y1,y2,y3,y4,xz,yz⟩:=KE.out _ hQ2;dsimp only))
    |(go_at_call 81;((with_reducible refine(B1.out _ _ ?_ ).mono ?_);(simp);rintro e w3 ⟨rfl,hb3⟩;have hQ1:=(hQ0.alloc hQ0.size (.cells #[.int .i64 xs] 3)).trans (hb3.mono (by have:=hQ0.size;simp<;>omega));obtain⟨x2,x3,x4,y0,y1,y2,y3,y4,xz,yz⟩:=KE.out _ hQ1;dsimp only)))
   go_ret
   exact⟨Za7 (by rw[HR.out];simp[HN.out]),hbZ.trans (hQ4.mono hbZ.size)⟩
  ·have e2:=Zc4 c2
   have HN:Hid (xl≤xh∧xp≠at_):=LH ⟨by omega,c2⟩
   clear c2
   go_wp2_with (first
    |(go_at_call 81;((with_reducible refine(B4.out _ _ ?_ ?_ ).mono ?_);(simp);(simp);rintro e w6 ⟨rfl,hb6⟩;have hQ4:=(hQ3.alloc hQ3.size (.cells #[.int .i64 xl,.int .i64 xh] 3)).trans (hb6.mono (by have:=hQ3.size;simp<;>omega));obtain⟨x2,x3,x4,y0,y1,y2,y3,y4,xz,yz⟩:=KE.out _ hQ4;dsimp only))
    |(go_at_call 81;((with_reducible refine(B3.out _ _ ?_ ).mono ?_);(simp);rintro e w5 ⟨rfl,hb5⟩;have hQ3:=(hQ2.alloc hQ2.size (.cells #[.int .i64 xp] 3)).trans (hb5.mono (by have:=hQ2.size;simp<;>omega));obtain⟨x2,x3,x4,y0,y1,y2,y3,y4,xz,yz⟩:=KE.out _ hQ3;dsimp only))
    |(go_at_call 81;((with_reducible refine(B2.out _ _ ?_ ).mono ?_);(simp);rintro e w4 ⟨rfl,hb4⟩;have hQ2:=(hQ1.alloc hQ1.size (.cells #[.int .i64 xv] 3)).trans (hb4.mono (by have:=hQ1.size;simp<;>omega));obtain⟨x2,x3,x4,y0,y1,y2,y3,y4,xz,yz⟩:=KE.out _ hQ2;dsimp only))
    |(go_at_call 81;((with_reducible refine(B1.out _ _ ?_ ).mono ?_);(simp);rintro e w3 ⟨rfl,hb3⟩;have hQ1:=(hQ0.alloc hQ0.size (.cells #[.int .i64 xs] 3)).trans (hb3.mono (by have:=hQ0.size;simp<;>omega));obtain⟨x2,x3,x4,y0,y1,y2,y3,y4,xz,yz⟩:=KE.out _ hQ1;dsimp only)))
   go_ret
   exact⟨Za7 (by rw[HR.out];simp[HN.out]),hbZ.trans (hQ4.mono hbZ.size)⟩
theorem Zya (a1 a2 a3 a4:Option Addr) (k1 k2 k3 k4:Nat) (t:PeW) (p0 p1:Nat) (x:PeM) (w:World) (hm:TownC w a1 a2 a3 a4 k1 k2 k3 k4 t) (hvl:1≤t.vills∧t.vills≤4) (h0:w.heap[p0]?=some (.cells #[.int .i64 t.ear.sounds,.slice a1 t.ear.alphas.length k1,.slice a2 t.ear.spells.length k2,.int .i64 t.vills,.slice a3 t.ments.length k3,.slice a4 t.ties.length k4] 29 (0,0))) (h1:w.heap[p1]?=some (.cells #[.int .i64 x.spell,.int .i64 x.vill,.int .i64 x.lo,.int .i64 x.hi,.int .i64 x.par] 38 (0,0))):
  Calls Tryz.prog 56 #[.pointer (some ⟨p0,0,none⟩),.pointer (some ⟨p1,0,none⟩)] w fun e w'=>e=.returned (.int .i64 (Zbc t t.ments.length x))∧Below w.heap.size w w':=by
 have ME:=LH (Zqh a1 a2 a3 a4 k1 k2 k3 k4 t t.ments.length x w hm hvl)
 generalize Zbc t t.ments.length x=r at ME ⊢
 have x0:=Zaa 0 h0 rfl
 have x1:=Zaa 1 h0 rfl
 have x2:=Zaa 2 h0 rfl
 have x3:=Zaa 3 h0 rfl
 have x4:=Zaa 4 h0 rfl
 have x5:=Zaa 5 h0 rfl
 have xz:=lt_of_block h0
 have y0:=Zaa 0 h1 rfl
 have y1:=Zaa 1 h1 rfl
 have y2:=Zaa 2 h1 rfl
 have y3:=Zaa 3 h1 rfl
 have y4:=Zaa 4 h1 rfl
 have yz:=lt_of_block h1
 simp only[List.getElem_toArray,List.getElem_cons_zero,List.getElem_cons_succ] at x0 x1 x2 x3 x4 x5 y0 y1 y2 y3 y4
 clear hm h0 h1
 go_enter Tryz.func56,Tryz.ntmps56
 go_wp2_with (go_at_call 57;go_must ((with_reducible refine ME.out.mono ?_);rintro e w3 ⟨rfl,hb3⟩;dsimp only))
 go_ret
 exact⟨rfl,hb3⟩
theorem Zx1 (a1 a2 a3 a4:Option Addr) (k1 k2 k3 k4:Nat) (t:PeW) (F:Nat) (caps:Array Value) (r:Int) (hr:r≠0) (w:World) (hm:TownC w a1 a2 a3 a4 k1 k2 k3 k4 t) (hv:PeValid t) (hCF:∀(xs:Array Value) (W:World),(callFunc F xs).run Tryz.prog W=.ok (.enter F xs) W)
  (hF:∀V,Below w.heap.size w V→Calls Tryz.prog F caps V fun e w'=>e=.returned (.int .i64 r)∧Below V.heap.size V w'):
  Calls Tryz.prog 43 #[(.agg #[.int .i64 t.ear.sounds,.slice a1 t.ear.alphas.length k1,.slice a2 t.ear.spells.length k2,.int .i64 t.vills,.slice a3 t.ments.length k3,.slice a4 t.ties.length k4]),.func (.func F) #[] caps] w fun e w'=>e=.returned (.tuple #[.pointer none,.int .i64 r])∧Below w.heap.size w w':=by
 have C:=LH (fun(V:World) (h:Below (w.heap.size+1) (w.alloc (.cells #[.int .i64 t.ear.sounds,.slice a1 t.ear.alphas.length k1,.slice a2 t.ear.spells.length k2,.int .i64 t.vills,.slice a3 t.ments.length k3,.slice a4 t.ties.length k4] 29)) V)=>Zig a1 a2 a3 a4 k1 k2 k3 k4 t V (hm.mono (Zaf h)) hv)
 have HF:=LH (fun(V:World) (h:Below (w.heap.size+1) (w.alloc (.cells #[.int .i64 t.ear.sounds,.slice a1 t.ear.alphas.length k1,.slice a2 t.ear.spells.length k2,.int .i64 t.vills,.slice a3 t.ments.length k3,.slice a4 t.ties.length k4] 29)) V)=>hF V (Zaf h))
 have hQ:=Below.refl (w.heap.size+1) (w.alloc (.cells #[.int .i64 t.ear.sounds,.slice a1 t.ear.alphas.length k1,.slice a2 t.ear.spells.length k2,.int .i64 t.vills,.slice a3 t.ments.length k3,.slice a4 t.ties.length k4] 29))
 obtain⟨x0,x1,x2,x3,x4,x5,xz⟩:=Zbu hQ
 have e1:=Zcp hr
 clear hm hv hF
 go_enter Tryz.func43,Tryz.ntmps43
 go_wp2_with (first
  |((with_reducible refine(HF.out _ hQ2).mono ?_);rintro e w3 ⟨rfl,hb3⟩;have hQ3:=Zaz hQ2 hb3;obtain⟨x0,x1,x2,x3,x4,x5,xz⟩:=Zbu hQ3;dsimp only)
  |(go_at_call 39;go_must ((with_reducible refine(C.out _ hQ).mono ?_);rintro e w2 ⟨rfl,hb2⟩;have hQ2:=Zaz hQ hb2;obtain⟨x0,x1,x2,x3,x4,x5,xz⟩:=Zbu hQ2;dsimp only)))
 go_ret2
 exact⟨rfl,Zaf hQ3⟩
theorem Z45 (a1 a2 a3 a4:Option Addr) (k1 k2 k3 k4:Nat) (t:PeW) (x:PeM) (w:World) (hm:TownC w a1 a2 a3 a4 k1 k2 k3 k4 t) (hv:PeValid t) (hx:Zbc t t.ments.length x≠0):
  Calls Tryz.prog 13 #[(.agg #[.int .i64 t.ear.sounds,.slice a1 t.ear.alphas.length k1,.slice a2 t.ear.spells.length k2,.int .i64 t.vills,.slice a3 t.ments.length k3,.slice a4 t.ties.length k4]),.agg #[.int .i64 x.spell,.int .i64 x.vill,.int .i64 x.lo,.int .i64 x.hi,.int .i64 x.par]] w fun e w'=>e=.returned (.tuple #[.slice none 0 0,.int .i64 (Zbc t t.ments.length x)])∧Below w.heap.size w w':=by
 obtain⟨Y,hY⟩:∃Y:World,Y=(w.alloc (.cells #[.int .i64 t.ear.sounds,.slice a1 t.ear.alphas.length k1,.slice a2 t.ear.spells.length k2,.int .i64 t.vills,.slice a3 t.ments.length k3,.slice a4 t.ties.length k4] 29)).alloc (.cells #[.int .i64 x.spell,.int .i64 x.vill,.int .i64 x.lo,.int .i64 x.hi,.int .i64 x.par] 38):=⟨_,rfl⟩
 have hbY:Below w.heap.size w Y:=by rw[hY];exact((Below.refl _ _).alloc (Nat.le_refl _) _).alloc (by simp) _
 have h1:Y.heap[w.heap.size]?=some (.cells #[.int .i64 t.ear.sounds,.slice a1 t.ear.alphas.length k1,.slice a2 t.ear.spells.length k2,.int .i64 t.vills,.slice a3 t.ments.length k3,.slice a4 t.ties.length k4] 29 (0,0)):=by rw[hY];exact(heap_alloc_old _ _ (by simp)).trans (Zac _ _ rfl)
 have h2:Y.heap[w.heap.size+1]?=some (.cells #[.int .i64 x.spell,.int .i64 x.vill,.int .i64 x.lo,.int .i64 x.hi,.int .i64 x.par] 38 (0,0)):=by rw[hY];exact Zac _ _ (by simp)
 have HY:=LH hY
 clear hY
 have x0:=Zaa 0 h1 rfl
 have x1:=Zaa 1 h1 rfl
 have x2:=Zaa 2 h1 rfl
 have x3:=Zaa 3 h1 rfl
 have x4:=Zaa 4 h1 rfl
 have x5:=Zaa 5 h1 rfl
 have xz:=lt_of_block h1
 simp only[List.getElem_toArray,List.getElem_cons_zero,List.getElem_cons_succ] at x0 x1 x2 x3 x4 x5
 have HBY:=LH hbY
 have hmY:=hm.mono hbY
 have EN:=LH (Zx1 a1 a2 a3 a4 k1 k2 k3 k4 t 56 #[.pointer (some ⟨w.heap.size,0,none⟩),.pointer (some ⟨w.heap.size+1,0,none⟩)] _ hx Y hmY hv (enters_of Tryz.func56 (by kernel_rfl) rfl) (fun U hU=>
  Zya a1 a2 a3 a4 k1 k2 k3 k4 t _ _ x U (hmY.mono hU) hv.vills ((hU.block _ (lt_of_block h1)).trans h1) ((hU.block _ (lt_of_block h2)).trans h2)))
 have e1:=Zcp hx
 generalize Zbc t t.ments.length x=r at EN e1 ⊢
 clear hm hmY h1 h2 hbY hv hx
 go_enter Tryz.func13,Tryz.ntmps13
 go_upto_region 1 with(fail)
 rw[←HY.out]
 go_wp2_with (go_at_call 43;go_must ((with_reducible refine EN.out.mono ?_);rintro e w3 ⟨rfl,hb3⟩;dsimp only))
 go_ret2
 exact⟨rfl,HBY.out.trans (hb3.mono HBY.out.size)⟩
end
section
open Go Go.RowKit Go.Shelf
theorem Z0m (l:List Int) (c:Nat):Zhj l (c+1)=if hasB l (c:Int)=true then Zhj l c+2^c else Zhj l c:=by
 have hlt:=Zpx l c
 unfold Zhj at hlt ⊢
 rw[Zdi]
 split
 ·next h=>
  rw[Nat.or_comm,Nat.add_comm]
  have:=Nat.two_pow_add_eq_or_of_lt hlt 1
  rw[Nat.mul_one] at this
  exact this.symm
 ·rw[Nat.or_zero]
theorem Zpk (a:Option Addr) (l:List Int) (k c:Nat) (hc:c≤4) (w:World) (ho:SlOk a l.length k) (hi:Zaw w a l):
  Calls Tryz.prog 14 #[.slice a l.length k,.int .i64 (c:Int)] w fun e w'=>e=.returned (.int .i64 (Zhj l c:Int))∧w'=w:=by
 have ll:=ho.len
 have HS:=LH (fun n=>Zvj a l k n w ll hi)
 obtain⟨r,hr⟩:∃r,r=Zhj l c:=⟨_,rfl⟩
 rw[←hr]
 have HR:=LH hr
 clear hr hi
 go_enter Tryz.func14,Tryz.ntmps14
 go_wp2
 go_loop [5,6,7] (fun m b i=>∃j B M:Nat,j≤c∧i=.int .i64 j∧b=.int .i64 B∧m=.int .i64 M∧Hid (B=2^j)∧Hid (M=Zhj l j)∧B≤16∧M<B) (fun _ _ i=>c-(intOf i).toNat)
 case atStart=>exact⟨0,1,0,Nat.zero_le _,rfl,rfl,rfl,LH rfl,LH rfl,by decide,by decide⟩
 case round=>
  obtain⟨j,B,M,hj,rfl,rfl,rfl,HB,HM,hB,hM⟩:=hrel
  by_cases hlt:j<c
  ·have HS2:=LH (HS.out (j:Int))
   have hB8:B≤8:=by
    have h1:=HB.out
    have h2:2^j≤2^3:=Nat.pow_le_pow_right (by decide) (by omega)
    omega
   have HB2:Hid (2*B=2^(j+1)):=LH (by rw[HB.out,Nat.pow_succ,Nat.mul_comm])
   have HN:=LH (Z0m l j)
   generalize hasB l (j:Int)=bb at HS2 HN
   cases bb
   ·have HM2:Hid (M=Zhj l (j+1)):=LH (by rw[HN.out];simpa using HM.out)
    go_wp2_with (go_at_call 17;go_must ((with_reducible refine HS2.out.mono ?_);rintro e w' ⟨rfl,hw9⟩;obtain rfl:=hw9.symm;dsimp only))
    go_round
    case rel=>exact⟨j+1,2*B,M,by omega,by go_num,by go_num,rfl,HB2,HM2,by omega,by omega⟩
    case measure=>simp[intOf];omega
   ·have HM2:Hid (M+B=Zhj l (j+1)):=LH (by rw[HN.out,HM.out,HB.out];simp)
    go_wp2_with (go_at_call 17;go_must ((with_reducible refine HS2.out.mono ?_);rintro e w' ⟨rfl,hw9⟩;obtain rfl:=hw9.symm;dsimp only))
    go_round
    case rel=>exact⟨j+1,2*B,M+B,by omega,by go_num,by go_num,by go_num,HB2,HM2,by omega,by omega⟩
    case measure=>simp[intOf];omega
  ·obtain rfl:j=c:=by omega
   go_wp2
   go_ret
   exact⟨Za7 (by rw[HR.out,HM.out]),rfl⟩
theorem Zrj (a1 a2 a3 a4:Option Addr) (k1 k2 k3 k4:Nat) (t:PeW) (x:PeM) (w:World) (hm:TownC w a1 a2 a3 a4 k1 k2 k3 k4 t) (hv:PeValid t) (hf:Za6 t 0≠[]):
  Calls Tryz.prog 13 #[(.agg #[.int .i64 t.ear.sounds,.slice a1 t.ear.alphas.length k1,.slice a2 t.ear.spells.length k2,.int .i64 t.vills,.slice a3 t.ments.length k3,.slice a4 t.ties.length k4]),.agg #[.int .i64 x.spell,.int .i64 x.vill,.int .i64 x.lo,.int .i64 x.hi,.int .i64 x.par]] w fun e w'=>∃v,e=.returned (.tuple #[v,.int .i64 (Zbc t t.ments.length x)])∧Ze7 w' v (whoX t x)∧Below w.heap.size w w':=by
 by_cases hx:Zbc t t.ments.length x=0
 ·refine(Zw8 a1 a2 a3 a4 k1 k2 k3 k4 t x w hm hv hx).mono fun e w' h=>?_
  obtain⟨h1,h2⟩:=h
  rcases h1 with⟨h1,_⟩|⟨_,v,h1,h3⟩
  ·exact absurd h1 hf
  ·refine⟨v,by rw[hx];exact h1,?_,h2⟩
   unfold whoX
   rw[if_pos hx]
   exact h3
 ·refine(Z45 a1 a2 a3 a4 k1 k2 k3 k4 t x w hm hv hx).mono fun e w' h=>⟨_,h.1,?_,h.2⟩
  unfold whoX
  rw[if_neg hx]
  exact⟨none,0,rfl,⟨Nat.le_refl _,by decide,fun _=>rfl⟩,Zaw.nil _ _⟩
end
section
open Go Go.RowKit Go.Shelf
theorem Z55 (S:Nat) (hS:S≤4) (w:World):Calls Tryz.prog 116 #[.int .i64 (S:Int)] w fun e w'=>e=.returned (.int .i64 ((2^S-1:Nat):Int))∧w'=w:=by
 go_enter Tryz.func116,Tryz.ntmps116
 go_wp2
 go_loop [3,4] (fun m i=>∃k:Nat,k≤S∧i=.int .i64 k∧m=.int .i64 ((2^k-1:Nat):Int)) (fun _ i=>S-(intOf i).toNat)
 case atStart=>exact⟨0,Nat.zero_le _,rfl,rfl⟩
 case round=>
  obtain⟨k,hk,rfl,rfl⟩:=hrel
  by_cases hlt:k<S
  ·have h4:k=0∨k=1∨k=2∨k=3:=by omega
   rcases h4 with rfl|rfl|rfl|rfl
   all_goals
    go_wp2
    go_round
    case measure=>simp[intOf];omega
    case rel=>first|exact⟨1,by omega,by go_num,by go_num⟩|exact⟨2,by omega,by go_num,by go_num⟩|exact⟨3,by omega,by go_num,by go_num⟩|exact⟨4,by omega,by go_num,by go_num⟩
  ·obtain rfl:k=S:=by omega
   go_wp2
   go_ret
   exact⟨rfl,rfl⟩
theorem Znt (s:ByteArray) (a:Option Addr) (l:List EaL) (k:Nat) (c:Int) (w:World) (hl:l.length≤9223372036854775807) (hi:Za1 w a l):
  Calls Tryz.prog 117 #[.agg #[.string s,.slice a l.length k],.int .u8 c] w fun e w'=>e=.returned (.int .i64 (idxL l c))∧Below w.heap.size w w':=by
 obtain⟨r,hr⟩:∃r,r=idxL l c:=⟨_,rfl⟩
 rw[←hr]
 have HR:=LH hr
 clear hr
 go_enter Tryz.func117,Tryz.ntmps117
 go_upto_region 1 with(fail)
 obtain⟨Y,hY⟩:∃Y:World,Y=w.alloc (.cells #[.string s,.slice a l.length k] 130):=⟨_,rfl⟩
 rw[←hY]
 have hbY:Below w.heap.size w Y:=by rw[hY];exact(Below.refl _ _).alloc (Nat.le_refl _) _
 have hB:Y.heap[w.heap.size]?=some (.cells #[.string s,.slice a l.length k] 130 (0,0)):=by rw[hY];exact Zac _ _ rfl
 have hiY:=hi.mono hbY
 clear hY hi
 have c1:=Zaa 1 hB rfl
 have cz:=lt_of_block hB
 simp only[List.getElem_toArray,List.getElem_cons_zero,List.getElem_cons_succ] at c1
 go_upto_region 2 with(fail)
 go_loop [5] (fun i=>∃k:Nat,k≤l.length∧i=.int .i64 k∧Hid (∀j (_:j<k) (h:j<l.length),l[j].letter≠c)) (fun i=>l.length-(intOf i).toNat)
 case atStart=>exact⟨0,Nat.zero_le _,rfl,LH (fun j h=>absurd h (Nat.not_lt_zero j))⟩
 case round=>
  obtain⟨n,hn,rfl,HN⟩:=hrel
  by_cases hlt:n<l.length
  ·obtain⟨b,off,rfl,hb,hx1,hx2,hx3⟩:=hiY n hlt
   have HT:=LH (fun(h:l[n].letter=c)=>HR.out.trans (Z4g hlt h (fun i hi=>HN.out i hi (by omega))))
   have HN2:=LH (fun(h:l[n].letter≠c)=>show ∀j (_:j<n+1) (h:j<l.length),l[j].letter≠c from fun j hj hjl=>if hjk:j<n then HN.out j hjk hjl else (by have e:j=n:=(by omega);subst e;exact h))
   generalize l[n]=x at HT HN2 hx1
   by_cases he:x.letter=c
   ·have e2:=Zdv he
    replace HT:=LH (HT.out he)
    clear HN2 he
    go_wp2
    go_ret
    exact⟨Za7 HT.out.symm,hbY⟩
   ·have e2:=Zc4 he
    replace HN2:=LH (HN2.out he)
    clear HT he
    go_wp2
    go_round
    case rel=>exact⟨n+1,by omega,by go_num,HN2⟩
    case measure=>simp[intOf];omega
  ·obtain rfl:n=l.length:=by omega
   go_wp2
   go_ret
   exact⟨Za7 (HR.out.trans (Zv6 (fun i hi=>HN.out i hi hi))).symm,hbY⟩
def LetX (S:Nat) (l:List EaL) (k:Nat) (hk:k<l.length):Prop:=97≤l[k].letter∧l[k].letter≤122∧(∀j (hj:j<k),l[j].letter≠l[k].letter)∧0≤l[k].sounds∧l[k].sounds<2^S∧(l[k].sounds=0→l[k].silent=true)
def Z7t (S:Nat) (l:List EaL):Prop:=(1≤l.length∧l.length≤6)∧∀k (hk:k<l.length),LetX S l k hk
theorem Z11 {x:Int} (h0:0≤x) (h1:x≤255):IntKind.i64.wrap x=x:=IntWalk.i64_in _ (by omega)
theorem Zs8 (S:Nat) (hS:S≤4) (b1 b2:Option Addr) (n1 n2 d1 d2:Nat) (a:Option Addr) (l:List EaL) (k:Nat) (w:World) (ho:SlOk a l.length k) (hi:Za1 w a l) (hlb:∀i (h:i<l.length),0≤l[i].letter∧l[i].letter≤255):
  Calls Tryz.prog 64 #[.agg #[.int .i64 (S:Int),.slice b1 n1 d1,.slice b2 n2 d2],.slice a l.length k] w fun e w'=>∃r:Int,e=.returned (.int .i64 r)∧Hid (r=0→Z7t S l)∧Below w.heap.size w w':=by
 have hl:=ho.len
 have C0:=fun W=>Zd1 (l.length:Int) 1 6 W
 have h0:=@Zbx (l.length:Int) 1 6
 generalize inB (l.length:Int) 1 6=c0 at C0 h0
 replace C0:=LH C0
 go_enter Tryz.func64,Tryz.ntmps64
 go_upto_region 1 with(fail)
 obtain⟨Y,hY⟩:∃Y:World,Y=w.alloc (.cells #[.int .i64 (S:Int),.slice b1 n1 d1,.slice b2 n2 d2] 25):=⟨_,rfl⟩
 rw[←hY]
 have hbY:Below w.heap.size w Y:=by rw[hY];exact(Below.refl _ _).alloc (Nat.le_refl _) _
 have hB:Y.heap[w.heap.size]?=some (.cells #[.int .i64 (S:Int),.slice b1 n1 d1,.slice b2 n2 d2] 25 (0,0)):=by rw[hY];exact Zac _ _ rfl
 have hiY:=hi.mono hbY
 clear hY hi
 have HB:=LH hB
 have HBY:=LH hbY
 clear hB hbY
 cases c0
 ·go_wp2_with (go_at_call 19;go_must ((with_reducible refine(C0.out _).mono ?_);rintro e w' ⟨rfl,hw9⟩;obtain rfl:=hw9.symm;dsimp only))
  go_ret
  exact⟨3,rfl,LH (fun h=>by cases h),HBY.out⟩
 have HL:=LH (h0.1 rfl)
 clear h0
 go_upto_region 4 with(go_at_call 19;go_must ((with_reducible refine(C0.out _).mono ?_);rintro e w' ⟨rfl,hw9⟩;obtain rfl:=hw9.symm;dsimp only))
 go_loopw [5] (fun i V=>∃n:Nat,n≤l.length∧i=.int .i64 n∧Hid (∀i (h:i<l.length),i<n→LetX S l i h)∧Below Y.heap.size Y V) (fun i _=>l.length-(intOf i).toNat)
 case atStart=>exact⟨0,Nat.zero_le _,rfl,LH (fun i h g=>absurd g (Nat.not_lt_zero i)),Below.refl _ _⟩
 case round=>
  rename World=>V
  obtain⟨n,hn,rfl,HN,hbV⟩:=hrel
  by_cases hlt:n<l.length
  ·have hiV:=hiY.mono hbV
   obtain⟨b,off,hae,hb,hx0,hx1,hx2⟩:=hiV n hlt
   have hxb:=hlb n hlt
   have hcap:=ho.1
   obtain⟨x,hx⟩:∃x,x=l[n]:=⟨_,rfl⟩
   rw[←hx] at hx0 hx1 hx2 hxb
   have HX:=LH hx
   clear hx
   obtain⟨xl,xs,xi⟩:=x
   simp only at hx0 hx1 hx2 hxb
   have hw:=Z11 hxb.1 hxb.2
   have C1:=fun W=>Zd1 xl 97 122 W
   have h1:=@Zbx xl 97 122
   generalize inB xl 97 122=c1 at C1 h1
   replace C1:=LH C1
   subst hae
   cases c1
   ·clear h1
    go_wp2_with (go_at_call 19;go_must ((with_reducible refine(C1.out _).mono ?_);rintro e w' ⟨rfl,hw9⟩;obtain rfl:=hw9.symm;dsimp only))
    go_ret
    exact⟨6,rfl,LH (fun h=>by cases h),HBY.out.trans (hbV.mono HBY.out.size)⟩
   ·have H1:=LH (h1.1 rfl)
    clear h1
    go_upto_region 9 with(go_at_call 19;go_must ((with_reducible refine(C1.out _).mono ?_);rintro e w' ⟨rfl,hw9⟩;obtain rfl:=hw9.symm;dsimp only))
    have HIV:=LH hiV
    have HXC:=LH (⟨hx0,hx1,hx2,hb⟩:V.cell? ⟨b,off+n*3,none⟩=some (.int .u8 xl)∧V.cell? ⟨b,off+n*3+1,none⟩=some (.int .i64 xs)∧V.cell? ⟨b,off+n*3+2,none⟩=some (.bool xi)∧b<V.heap.size)
    clear hiV hx0 hx1 hx2 hb
    go_loopw [6] (fun i U=>∃j:Nat,j≤n∧i=.int .i64 j∧Hid (∀i (h:i<l.length),i<j→l[i].letter≠xl)∧Below V.heap.size V U) (fun i _=>n-(intOf i).toNat)
    case atStart=>exact⟨0,Nat.zero_le _,rfl,LH (fun i h g=>absurd g (Nat.not_lt_zero i)),Below.refl _ _⟩
    case round=>
     rename World=>U
     obtain⟨j,hj,rfl,HJ,hbU⟩:=hrel
     obtain⟨g0,g1,g2,gz⟩:=HXC.out
     have hx0:=(World.cell?_of_block (a:=⟨b,off+n*3,none⟩) (hbU.block b gz)).trans g0
     have hx1:=(World.cell?_of_block (a:=⟨b,off+n*3+1,none⟩) (hbU.block b gz)).trans g1
     have hx2:=(World.cell?_of_block (a:=⟨b,off+n*3+2,none⟩) (hbU.block b gz)).trans g2
     have hb:=Nat.lt_of_lt_of_le gz hbU.size
     clear g0 g1 g2 gz
     by_cases hjn:j<n
     ·obtain⟨b',off',hae',hb',gx0,-,-⟩:=(HIV.out.mono hbU) j (by omega)
      cases hae'
      have HJ2:=LH (fun(h:l[j].letter≠xl)=>show ∀i (h:i<l.length),i<j+1→l[i].letter≠xl from fun i hi hij=>if hjk:i<j then HJ.out i hi hjk else (by have e:i=j:=(by omega);subst e;exact h))
      generalize l[j].letter=y at HJ2 gx0
      have hU:=Zan hbU
      clear hx1 hx2
      by_cases he:y=xl
      ·have e2:=Zdv he
       clear HJ2 HJ
       subst he
       go_upto_region 11 with(fail)
       go_quiet (fail)
       go_wp2
       go_ret
       exact⟨5,rfl,LH (fun h=>by cases h),HBY.out.trans ((hbV.trans ((hU _).mono hbV.size)).mono HBY.out.size)⟩
      ·have e2:=Zc4 he
       replace HJ2:=LH (HJ2.out he)
       clear he
       go_upto_region 11 with(fail)
       go_quiet (fail)
       go_wp2
       go_roundw
       case rel=>exact⟨j+1,by omega,by go_num,HJ2,hU _⟩
       case measure=>simp[intOf];omega
     ·obtain rfl:j=n:=by omega
      have hB:=(hbV.trans (hbU.mono hbV.size)).block _ (lt_of_block HB.out) |>.trans HB.out
      have y0:=Zaa 0 hB rfl
      have yz:=lt_of_block hB
      simp only[List.getElem_toArray,List.getElem_cons_zero,List.getElem_cons_succ] at y0
      have C2:=fun W=>Zd1 xs 0 ((2^S-1:Nat):Int) W
      have h2:=@Zbx xs 0 ((2^S-1:Nat):Int)
      generalize inB xs 0 ((2^S-1:Nat):Int)=c2 at C2 h2
      replace C2:=LH C2
      have AL:=LH (fun W=>Z55 S hS W)
      have hU:=Zan hbU
      clear hB
      go_upto_region 13 with(fail)
      go_quiet (first
       |(go_at_call 116;exact Calls.quiet_of_same (AL.out _))
       |(go_at_call 19;exact Calls.quiet_of_same (C2.out _)))
      have hU2:=hU nq
      clear hU hx0 hx1 hx2 hb hbU y0 yz
      generalize U.drewN nq=U2 at hU2 ⊢
      have hN2:Hid (0≤xs∧xs<2^S→(xs=0→xi=true)→∀i (h:i<l.length),i<j+1→LetX S l i h):=LH (fun q1 q2 i h hij=>if g:i<j then HN.out i h g else (by
       have e:i=j:=(by omega)
       subst e
       unfold LetX
       rw[←HX.out]
       exact⟨H1.out.1,H1.out.2,fun i2 hi2=>HJ.out i2 (by omega) hi2,q1.1,q1.2,q2⟩))
      have HR:=LH (HBY.out.trans ((hbV.trans (hU2.mono hbV.size)).mono HBY.out.size))
      have HR2:=LH (hbV.trans (hU2.mono hbV.size))
      obtain⟨g0,g1,g2,gz⟩:=HXC.out
      have hx1:=(World.cell?_of_block (a:=⟨b,off+j*3+1,none⟩) (hU2.block b gz)).trans g1
      have hx2:=(World.cell?_of_block (a:=⟨b,off+j*3+2,none⟩) (hU2.block b gz)).trans g2
      have hb:=Nat.lt_of_lt_of_le gz hU2.size
      clear g0 g1 g2 gz hU2 hbV C2 C1
      cases c2
      ·clear h2
       go_wp2
       go_ret
       exact⟨7,rfl,LH (fun h=>by cases h),HR.out⟩
      ·have H2:=LH (h2.1 rfl)
       clear h2
       have HS2:Hid (0≤xs∧xs<2^S):=LH (by
        have:=H2.out
        have hp:1≤2^S:=Nat.one_le_two_pow
        have hq:((2^S-1:Nat):Int)=(2:Int)^S-1:=by rw[Int.natCast_sub hp];simp
        rw[hq] at this
        omega)
       clear H2
       by_cases hz:xs=0
       ·have e2:=Zdv hz
        cases xi
        ·clear hz
         go_wp2
         go_ret
         exact⟨2,rfl,LH (fun h=>by cases h),HR.out⟩
        ·clear hz
         go_wp2
         go_roundw
         case rel=>exact⟨j+1,by omega,by go_num,LH (hN2.out HS2.out (fun _=>rfl)),HR2.out⟩
         case measure=>simp[intOf];omega
       ·have e2:=Zc4 hz
        have HZ:=LH hz
        clear hz
        go_wp2
        go_roundw
        case rel=>exact⟨j+1,by omega,by go_num,LH (hN2.out HS2.out (fun h=>absurd h HZ.out)),HR2.out⟩
        case measure=>simp[intOf];omega
  ·obtain rfl:n=l.length:=by omega
   go_wp2
   go_ret
   exact⟨0,rfl,LH (fun _=>⟨by have:=HL.out;omega,fun k hk=>HN.out k hk hk⟩),HBY.out.trans (hbV.mono HBY.out.size)⟩
end
end Go.Proofs.YtklconegomgjaaaGreat
