/- What is proved here: strings of layer 1, as an iterator over all sound strings that a spelling can be. Conditions: the book is looked at and valid. -/
import Derived.Test.YtklconegomgjaaaGreatEaCanG
import Derived.Test.YtklconegomgjaaaGreatMoLook2G
import Derived.RangeFuncCalls
import Derived.Shelf.RegionOpen
import Derived.OwnWalkIn
import Derived.TacticsInMore
import Derived.LoopNIn
import Derived.LoopIn
import Derived.WalkMore
import Derived.IntWalk
import Derived.Deep.RegionHeld3
import Derived.Test.YtklconegomgjaaaGreatPeNumG
import Derived.Test.YtklconegomgjaaaGreatBeyondG
import Derived.Test.YtklconegomgjaaaGreatMidG
set_option linter.all false
set_option maxRecDepth 100000
set_option maxHeartbeats 16000000
namespace Go.Proofs.YtklconegomgjaaaGreat
section
open Go Go.RowKit Go.Shelf
attribute [local go_sem] Zjs
structure StrZ (A:World) (bm bo p1 p3 i:Nat) (a1 a2:Option Addr) (k1 k2:Nat) (b:EaB):Prop where
 blk:BkB A bm bo a1 a2 k1 k2 b
 book:BookC A a1 a2 k1 k2 b
 p:A.heap[p1]?=some (.cells #[.pointer (some ⟨bm,0,none⟩)] 90 (0,0))
 i:A.heap[p3]?=some (.cells #[.int .i64 (i:Int)] 3 (0,0))
@[reducible] def encH (h:List Int):Array Value:=#[Zb8 h]
structure StrO (A:World) (p1 p3 yb bm l:Nat):Prop where
 y:A.heap[yb]?=some (.cells #[.func (.yield l) #[] #[]] 158 (0,0))
 c:A.heap[yb+1]?=some (.cells #[.func (.func 171) #[.pointer (some ⟨bm,0,none⟩)] #[]] 68 (0,0))
 n:A.heap[yb+1+1]?=some (.cells #[.func (.func 172) #[] #[.pointer (some ⟨p1,0,none⟩),.pointer (some ⟨p3,0,none⟩),.pointer (some ⟨yb,0,none⟩),.pointer (some ⟨yb+1+1,0,none⟩),.pointer (some ⟨yb+1,0,none⟩)]] 241 (0,0))
theorem StrO.above {A A':World} {p1 p3 yb bm l B:Nat} (h:StrO A p1 p3 yb bm l) (hb:Above B A A') (hB:B≤yb):StrO A' p1 p3 yb bm l:=⟨(hb.block _ hB (lt_of_block h.y)).trans h.y,(hb.block _ (by omega) (lt_of_block h.c)).trans h.c,(hb.block _ (by omega) (lt_of_block h.n)).trans h.n⟩
theorem StrO.below {A A':World} {p1 p3 yb bm l:Nat} (h:StrO A p1 p3 yb bm l) (hb:Below A.heap.size A A'):StrO A' p1 p3 yb bm l:=⟨(hb.block _ (lt_of_block h.y)).trans h.y,(hb.block _ (lt_of_block h.c)).trans h.c,(hb.block _ (lt_of_block h.n)).trans h.n⟩
def StrC (S:Nat) (lts:List EaL) (p1 p3 yb bm l B:Nat) (xs:List (List Int)) (J:List (List Int)→World→Prop) (left:Nat):Prop:=
 ∀(ji:Int) (j:Nat) (h:List Int) (pre:List (List Int)) (W:World),ji=j→j+left=lts.length→h.length≤j→yb≤W.heap.size→StrO W p1 p3 yb bm l→J pre W→pre++Zcn S (lts.drop j) h <+: xs→
  Calls Tryz.prog 172 #[.int .i64 ji,Zb8 h,.pointer (some ⟨p1,0,none⟩),.pointer (some ⟨p3,0,none⟩),.pointer (some ⟨yb,0,none⟩),.pointer (some ⟨yb+1+1,0,none⟩),.pointer (some ⟨yb+1,0,none⟩)] W fun e W'=>e=.returned (.bool true)∧J (pre++Zcn S (lts.drop j) h) W'∧Above B W W'
def Zgb (S:Nat) (x:EaL) (xs:List EaL) (h:List Int) (m:Nat):List (List Int):=(List.range m).flatMap fun n=>if bitB x.sounds n=true then Zcn S xs (h++[(n:Int)]) else []
def Ztk (S:Nat) (x:EaL) (xs:List EaL) (h:List Int):List (List Int):=if x.silent=true then Zcn S xs h else []
theorem Zxv (S:Nat) (x:EaL) (xs:List EaL) (h:List Int):Zcn S (x::xs) h=Ztk S x xs h++Zgb S x xs h S:=rfl
theorem Znv (S:Nat) (x:EaL) (xs:List EaL) (h:List Int) (m:Nat):Zgb S x xs h (m+1)=Zgb S x xs h m++if bitB x.sounds m=true then Zcn S xs (h++[(m:Int)]) else []:=by
 unfold Zgb
 rw[List.range_succ,List.flatMap_append]
 simp
theorem Zzs {S:Nat} {x:EaL} {xs:List EaL} {h:List Int} {n m:Nat} (hnm:n≤m):Zgb S x xs h n <+: Zgb S x xs h m:=by
 obtain⟨d,rfl⟩:∃d,m=n+d:=⟨m-n,by omega⟩
 clear hnm
 induction d with
 |zero=>exact List.prefix_refl _
 |succ d ih=>rw[←Nat.add_assoc,Znv];exact ih.trans (List.prefix_append _ _)
theorem Z4x (h:List Int) (n:Int) (hl:h.length<5):((Zar h).setIfInBounds (1+h.length) (.int .i64 n)).setIfInBounds 0 (.int .i64 ((h.length:Int)+1))=Zar (h++[n]):=by
 match h,hl with
 |[],_=>rfl
 |[_],_=>rfl
 |[_,_],_=>rfl
 |[_,_,_],_=>rfl
 |[_,_,_,_],_=>rfl
theorem Z41 (h:List Int) (hl:h.length<5):(Zar h)[1+h.length]?=some (.int .i64 0):=by
 match h,hl with
 |[],_=>rfl
 |[_],_=>rfl
 |[_,_],_=>rfl
 |[_,_,_],_=>rfl
 |[_,_,_,_],_=>rfl
theorem Z5t {b:EaB} {i j:Nat} (hi:i<b.spells.length) (hj:j<b.spells[i].text.size):(Zem b b.spells[i]).drop j=letN b i j::(Zem b b.spells[i]).drop (j+1):=by
 have hl:j<(Zem b b.spells[i]).length:=by rw[Zi4];exact hj
 rw[List.drop_eq_getElem_cons hl]
 congr 1
 unfold letN
 rw[Zdt hi,List.getElem?_eq_getElem hl]
 rfl
section
variable (a1 a2:Option Addr) (k1 k2:Nat) (b:EaB) (bm bo p1 p3 i:Nat) (yb l B:Nat) (xs:List (List Int)) (J:List (List Int)→World→Prop)
theorem Zxx (hv:EaValid b) (hi:i<b.spells.length) (hB:B≤yb) (hJ:∀s A A',J s A→Below yb A A'→J s A') (hJZ:∀s A,J s A→StrZ A bm bo p1 p3 i a1 a2 k1 k2 b)
  (hY:∀pre x W1,J pre W1→pre++[x] <+: xs→YieldAt Fence.wide 0 Tryz.prog l (encH x) W1 fun e W'=>e=.returned (.bool true)∧J (pre++[x]) W'∧Above B W1 W'):
  StrC b.sounds.toNat (Zem b b.spells[i]) p1 p3 yb bm l B xs J 0:=by
 intro ji j h pre W hji hjl hh hyb hO hj hpre
 have hjn:j=b.spells[i].text.size:=by rw[Zi4] at hjl;omega
 rw[List.drop_of_length_le (by omega),Zcn] at hpre ⊢
 have hz:=hJZ _ _ hj
 have hl2:=hz.book.oks.len
 obtain⟨y0,y1,y2,y3,yz⟩:=hz.blk.cells
 obtain⟨b1,o1,rfl,h1b,h1c,h1d⟩:=hz.book.spells i hi
 have p0:=Zaa 0 hz.p rfl
 have q0:=Zaa 0 hz.i rfl
 have pz:=lt_of_block hz.p
 have qz:=lt_of_block hz.i
 simp only[List.getElem_toArray,List.getElem_cons_zero] at p0 q0
 have hiI:(i:Int)<(b.spells.length:Int):=by omega
 have h5:=(hv.spell i hi).2.2.2.1
 clear hv hjl
 subst hji
 generalize b.spells[i].text=text at *
 have HY:=LH hY
 have HJ:=LH hJ
 have HP:=LH hpre
 have HJ0:=LH hj
 have hO':=hO
 clear hY hJ hpre hj hJZ hz h1c
 generalize b.spells.length=ns at *
 subst hjn
 go_enter Tryz.func172,Tryz.ntmps172
 go_wp2
 go_step3
 go_upto_region 1 with(fail)
 obtain⟨X,hX⟩:∃X:World,X=W.alloc (.cells (Zar h) 95):=⟨_,rfl⟩
 rw[←hX]
 have hbX:Below W.heap.size W X:=by rw[hX];exact(Below.refl _ _).alloc (Nat.le_refl _) _
 have hc:=(show X.heap[W.heap.size]?=some (.cells (Zar h) 95 (0,0)) by rw[hX];exact Zac _ _ rfl)
 clear hX
 replace y2:=Zab hbX y2
 replace p0:=Zab hbX p0
 replace q0:=Zab hbX q0
 replace h1d:=Zab hbX h1d
 replace pz:=Nat.lt_of_lt_of_le pz hbX.size
 replace qz:=Nat.lt_of_lt_of_le qz hbX.size
 replace h1b:=Nat.lt_of_lt_of_le h1b hbX.size
 replace yz:=Nat.lt_of_lt_of_le yz hbX.size
 clear y0 y1 y3
 go_quiet (fail)
 obtain⟨Y,hY⟩:∃Y:World,Y=X.drewN nq:=⟨_,rfl⟩
 rw[←hY]
 have hbY:Below W.heap.size W Y:=by rw[hY];exact Zan hbX _
 replace hc:Y.heap[W.heap.size]?=some (.cells (Zar h) 95 (0,0)):=by rw[hY];exact hc
 clear hY y2 p0 q0 h1d pz qz h1b yz hbX
 have hOY:=hO.below hbY
 have hjY:=HJ.out _ _ _ HJ0.out (hbY.mono hyb)
 obtain⟨fn,tmps,assign,body,hyr,hR⟩:=HY.out pre h Y hjY HP.out
 have HR:=LH hR
 have v0:=Zaa 0 hOY.y rfl
 have vz:=lt_of_block hOY.y
 have c0:=Zaa 0 hc rfl
 have c1:=Zaa 1 hc rfl
 have c2:=Zaa 2 hc rfl
 have c3:=Zaa 3 hc rfl
 have c4:=Zaa 4 hc rfl
 have c5:=Zaa 5 hc rfl
 have cz:=lt_of_block hc
 simp only[Zar,List.getElem_toArray,List.getElem_cons_zero,List.getElem_cons_succ] at v0 c0 c1 c2 c3 c4 c5
 clear hR hO hO' hc
 dsimp only[encH] at hyr
 go_upto_region 2 with(fail)
 refine(wpIn_wide (n:=0)).1 ?_
 gi_wp2
 refine⟨rfl,HR.out.mono ?_⟩
 rintro e W2 ⟨rfl,hj2,hab⟩
 gi_wp2
 go_wp2
 (try rw[Exit.noGoto_ret])
 go_ret
 exact⟨rfl,hj2,(Above.of_below hbY).trans hab⟩
theorem Zzw (hv:EaValid b) (hi:i<b.spells.length) (hB:B≤yb) (hJ:∀s A A',J s A→Below yb A A'→J s A') (hJZ:∀s A,J s A→StrZ A bm bo p1 p3 i a1 a2 k1 k2 b)
  (left:Nat) (IH:StrC b.sounds.toNat (Zem b b.spells[i]) p1 p3 yb bm l B xs J left):
  StrC b.sounds.toNat (Zem b b.spells[i]) p1 p3 yb bm l B xs J (left+1):=by
 intro ji j h pre W hji hjl hh hyb hO hj hpre
 have hjn:j<b.spells[i].text.size:=by rw[Zi4] at hjl;omega
 have hdrop:=Z5t hi hjn
 have hz:=hJZ _ _ hj
 have hl2:=hz.book.oks.len
 obtain⟨y0,y1,y2,y3,yz⟩:=hz.blk.cells
 obtain⟨b1,o1,h1e,h1b,h1c,h1d⟩:=hz.book.spells i hi
 rw[h1e] at y2
 have p0:=Zaa 0 hz.p rfl
 have q0:=Zaa 0 hz.i rfl
 have pz:=lt_of_block hz.p
 have qz:=lt_of_block hz.i
 simp only[List.getElem_toArray,List.getElem_cons_zero] at p0 q0
 have hiI:(i:Int)<(b.spells.length:Int):=by omega
 have h5:=(hv.spell i hi).2.2.2.1
 obtain⟨S,hS,hS1,hS4⟩:=Zph hv
 have HCAN:=LH (fun(V:World) (hz:StrZ V bm bo p1 p3 i a1 a2 k1 k2 b) (n:Nat) (hn:n<4)=>Z6a a1 a2 k1 k2 b bm bo i j n V hz.book hz.blk hv hi hjn hn)
 have HSIL:=LH (fun(V:World) (hz:StrZ V bm bo p1 p3 i a1 a2 k1 k2 b)=>Zu3 a1 a2 k1 k2 b bm bo i j V hz.book hz.blk hv hi hjn)
 have HIHx:=IH
 have g0:=Zoa (a:=j) (b:=b.spells[i].text.size) (by omega)
 have hj5:j<5:=by omega
 rw[hS,Int.toNat_natCast] at hpre HIHx ⊢
 rw[hdrop,Zxv] at hpre ⊢
 have HIHy:=LH (fun(ji:Int) (h2:List Int) (pre:List (List Int)) (V:World) (e:ji=(j+1:Nat)) (h1:h2.length≤j+1)=>HIHx ji (j+1) h2 pre V e (by omega) h1)
 have hzlen:(b.spells.length:Int)=b.spells.length:=rfl
 clear IH HIHx hv hdrop hzlen
 subst hji
 generalize letN b i j=x at *
 generalize (Zem b b.spells[i]).drop (j+1)=xt at *
 clear hjl h1c hz
 generalize b.spells[i].text=text at *
 have HJ:=LH hJ
 have HZ:=LH hJZ
 have HP:=LH hpre
 have HJ0:=LH hj
 have HSS:=LH hS
 clear hJ hpre hj hJZ h1e
 have hj1:IntKind.i64.wrap ((j:Int)+1)=(j:Int)+1:=IntWalk.i64_in _ (by omega)
 go_enter Tryz.func172,Tryz.ntmps172
 go_wp2
 go_step3
 go_upto_region 1 with(fail)
 obtain⟨X,hX⟩:∃X:World,X=W.alloc (.cells (Zar h) 95):=⟨_,rfl⟩
 rw[←hX]
 have hbX:Below W.heap.size W X:=by rw[hX];exact(Below.refl _ _).alloc (Nat.le_refl _) _
 have hc:=(show X.heap[W.heap.size]?=some (.cells (Zar h) 95 (0,0)) by rw[hX];exact Zac _ _ rfl)
 clear hX
 replace y2:=Zab hbX y2
 replace p0:=Zab hbX p0
 replace q0:=Zab hbX q0
 replace h1d:=Zab hbX h1d
 replace pz:=Nat.lt_of_lt_of_le pz hbX.size
 replace qz:=Nat.lt_of_lt_of_le qz hbX.size
 replace h1b:=Nat.lt_of_lt_of_le h1b hbX.size
 replace yz:=Nat.lt_of_lt_of_le yz hbX.size
 clear y0 y1 y3
 go_quiet (fail)
 obtain⟨Y,hY⟩:∃Y:World,Y=X.drewN nq:=⟨_,rfl⟩
 rw[←hY]
 have hbY:Below W.heap.size W Y:=by rw[hY];exact Zan hbX _
 replace hc:Y.heap[W.heap.size]?=some (.cells (Zar h) 95 (0,0)):=by rw[hY];exact hc
 clear hY y2 p0 q0 h1d pz qz h1b yz hbX g0
 have hOY:=hO.below hbY
 have hjY:=HJ.out _ _ _ HJ0.out (hbY.mono hyb)
 have hyY:=Nat.le_trans hyb hbY.size
 have hzY:=HZ.out _ _ hjY
 have KC:Hid (∀V,StrZ V bm bo p1 p3 i a1 a2 k1 k2 b→StrO V p1 p3 yb bm l→V.heap[W.heap.size]?=some (.cells (Zar h) 95 (0,0))→
   V.cell? ⟨p1,0,none⟩=some (.pointer (some ⟨bm,0,none⟩))∧V.cell? ⟨p3,0,none⟩=some (.int .i64 (i:Int))∧V.cell? ⟨bm,0,none⟩=some (.int .i64 (S:Int))∧V.cell? ⟨yb+1,0,none⟩=some (.func (.func 171) #[.pointer (some ⟨bm,0,none⟩)] #[])∧
   V.cell? ⟨yb+1+1,0,none⟩=some (.func (.func 172) #[] #[.pointer (some ⟨p1,0,none⟩),.pointer (some ⟨p3,0,none⟩),.pointer (some ⟨yb,0,none⟩),.pointer (some ⟨yb+1+1,0,none⟩),.pointer (some ⟨yb+1,0,none⟩)])∧
   V.cell? ⟨W.heap.size,0,none⟩=some (.int .i64 (h.length:Int))∧V.cell? ⟨W.heap.size,1,none⟩=some (.int .i64 (hrd h 0))∧V.cell? ⟨W.heap.size,2,none⟩=some (.int .i64 (hrd h 1))∧V.cell? ⟨W.heap.size,3,none⟩=some (.int .i64 (hrd h 2))∧V.cell? ⟨W.heap.size,4,none⟩=some (.int .i64 (hrd h 3))∧V.cell? ⟨W.heap.size,5,none⟩=some (.int .i64 (hrd h 4))∧
   p1<V.heap.size∧p3<V.heap.size∧bm<V.heap.size∧yb+1<V.heap.size∧yb+1+1<V.heap.size∧W.heap.size<V.heap.size):=LH (fun V z o c=>by
  obtain⟨y0,-,-,-,yz⟩:=z.blk.cells
  rw[HSS.out] at y0
  exact⟨Zaa 0 z.p rfl,Zaa 0 z.i rfl,y0,Zaa 0 o.c rfl,Zaa 0 o.n rfl,Zaa 0 c rfl,Zaa 1 c rfl,Zaa 2 c rfl,Zaa 3 c rfl,Zaa 4 c rfl,Zaa 5 c rfl,lt_of_block z.p,lt_of_block z.i,yz,lt_of_block o.c,lt_of_block o.n,lt_of_block c⟩)
 go_upto_region 3 with(fail)
 go_cut [38] from 27 to 38 (fun v U=>v=.bool false∧J (pre++Ztk S x xt h) U∧Above B Y U)
 case first=>
  obtain⟨p0,q0,s0,n0,m0,c0,c1,c2,c3,c4,c5,z1,z2,z3,z4,z5,z6⟩:=KC.out _ hzY hOY hc
  have SIL:=HSIL.out _ hzY
  have HJY:=LH hjY
  have HOY:=LH hOY
  have HC:=LH hc
  have HPS:Hid (x.silent=true→pre++Zcn S xt h <+: xs∧Ztk S x xt h=Zcn S xt h):=LH (fun e=>by
   have:=HP.out
   unfold Ztk at this ⊢
   rw[if_pos e] at this ⊢
   exact⟨((List.prefix_append_right_inj pre).2 (List.prefix_append _ _)).trans this,rfl⟩)
  have HNS:Hid (x.silent=false→Ztk S x xt h=[]):=LH (fun e=>by unfold Ztk;rw[e];rfl)
  generalize x.silent=sl at SIL HPS HNS
  replace SIL:=LH SIL
  clear hzY hOY hc hjY
  cases sl
  ·go_wp2_with (go_at_call 173;go_must ((with_reducible refine SIL.out.mono ?_);rintro e w2 ⟨rfl,hb2⟩;dsimp only))
   go_meet
   case rel=>exact⟨rfl,by rw[HNS.out (by trivial),List.append_nil];exact HJ.out _ _ _ HJY.out (hb2.mono hyY),Above.of_below hb2⟩
  ·obtain⟨hps1,hps2⟩:=HPS.out (by trivial)
   replace hps1:=LH hps1
   replace hps2:=LH hps2
   go_wp2_with (first
    |(go_at_call 172;go_must ((with_reducible refine(HIHy.out _ h pre w2 (by omega) (by omega) hy2 hO2 hj2 hps1.out).mono ?_);rintro e w3 ⟨rfl,hj3,hab3⟩;dsimp only))
    |(go_at_call 173;go_must ((with_reducible refine SIL.out.mono ?_);rintro e w2 ⟨rfl,hb2⟩;have hj2:=HJ.out _ _ _ HJY.out (hb2.mono hyY);have hO2:=HOY.out.below hb2;have hy2:=Nat.le_trans hyY hb2.size;obtain⟨p0,q0,s0,n0,m0,c0,c1,c2,c3,c4,c5,z1,z2,z3,z4,z5,z6⟩:=KC.out _ (HZ.out _ _ hj2) hO2 ((hb2.block _ z6).trans HC.out);dsimp only)))
   go_meet
   case rel=>exact⟨rfl,by rw[hps2.out];exact hj3,(Above.of_below hb2).trans hab3⟩
 case rest=>
  obtain⟨rfl,hjU,habU⟩:=hcut
  rename World=>U
  have hOU:=hOY.above habU hB
  have hzU:=HZ.out _ _ hjU
  have hcU:=(habU.block _ (by omega) (lt_of_block hc)).trans hc
  obtain⟨p0,q0,s0,n0,m0,c0,c1,c2,c3,c4,c5,z1,z2,z3,z4,z5,z6⟩:=KC.out _ hzU hOU hcU
  have habWU:=(Above.of_below (B:=B) hbY).trans habU
  clear hjY hOY hzY hc habU hbY hyY
  go_wp2
  go_step3
  go_upto_region 6 with(fail)
  go_loopw [44] (fun i V=>∃n:Nat,n≤S∧i=.int .i64 (n:Int)∧J (pre++Ztk S x xt h++Zgb S x xt h n) V∧StrO V p1 p3 yb bm l∧Above B W V∧V.heap[W.heap.size]?=some (.cells (Zar h) 95 (0,0))) (fun i _=>S-(intOf i).toNat)
  case atStart=>exact⟨0,Nat.zero_le _,rfl,by simpa[Zgb] using hjU,hOU,habWU,hcU⟩
  case round=>
   clear p0 q0 s0 n0 m0 c0 c1 c2 c3 c4 c5 z1 z2 z3 z4 z5 z6 hjU hOU habWU hcU hzU
   rename World=>V
   obtain⟨n,hn,rfl,hj,hO,hab,hc⟩:=hrel
   have hz:=HZ.out _ _ hj
   obtain⟨p0,q0,s0,n0,m0,c0,c1,c2,c3,c4,c5,z1,z2,z3,z4,z5,z6⟩:=KC.out _ hz hO hc
   by_cases hlt:n<S
   ·have CC:=HCAN.out _ hz n (by omega)
    have hsn:=Znv S x xt h n
    have hpp:pre++Ztk S x xt h++Zgb S x xt h (n+1) <+: xs:=by
     rw[List.append_assoc]
     exact((List.prefix_append_right_inj pre).2 ((List.prefix_append_right_inj _).2 (Zzs (by omega)))).trans HP.out
    have HPP:=LH hpp
    have HSN:=LH hsn
    clear hpp hsn
    generalize bitB x.sounds n=tb at CC HSN
    replace CC:=LH CC
    have hyV:=Nat.le_trans hyb hab.size
    cases tb
    ·have HS0:Hid (Zgb S x xt h (n+1)=Zgb S x xt h n):=LH (by rw[HSN.out];simp)
     clear HSN HPP
     go_wp2_with (go_at_call 171;go_must ((with_reducible refine CC.out.mono ?_);rintro e w2 ⟨rfl,hb2⟩;dsimp only))
     go_roundw
     case rel=>exact⟨n+1,by omega,by go_num,by rw[HS0.out];exact HJ.out _ _ _ hj (hb2.mono hyV),hO.below hb2,hab.trans (Above.of_below hb2),(hb2.block _ z6).trans hc⟩
     case measure=>simp[intOf];omega
    ·have HS1:Hid (Zgb S x xt h (n+1)=Zgb S x xt h n++Zcn S xt (h++[(n:Int)])):=LH (by rw[HSN.out];simp)
     clear HSN
     have hl5:h.length<5:=by omega
     have hl5i:(h.length:Int)<5:=by omega
     have hw1:IntKind.i64.wrap ((h.length:Int)+1)=(h.length:Int)+1:=IntWalk.i64_in _ (by omega)
     go_upto_region 10 with(go_at_call 171;go_must ((with_reducible refine CC.out.mono ?_);rintro e w2 ⟨rfl,hb2⟩;have hj2:=HJ.out _ _ _ hj (hb2.mono hyV);have hO2:=hO.below hb2;have hc2:=(hb2.block _ z6).trans hc;obtain⟨p0,q0,s0,n0,m0,c0,c1,c2,c3,c4,c5,z1,z2,z3,z4,z5,z6⟩:=KC.out _ (HZ.out _ _ hj2) hO2 hc2;dsimp only))
     obtain⟨Z1,hZ1⟩:∃Z1:World,Z1=w2.alloc (.cells (Zar h) 95):=⟨_,rfl⟩
     rw[←hZ1]
     have hb1:Below w2.heap.size w2 Z1:=by rw[hZ1];exact(Below.refl _ _).alloc (Nat.le_refl _) _
     have hq1:Z1.heap[w2.heap.size]?=some (.cells (Zar h) 95 (0,0)):=by rw[hZ1];exact Zac _ _ rfl
     clear hZ1
     replace c0:=Zab hb1 c0
     replace z6:=Nat.lt_of_lt_of_le z6 hb1.size
     have f1:=Zad (1+h.length) hq1
     have e1:=Zaa (1+h.length) hq1 (Z41 h hl5)
     have qz:=lt_of_block hq1
     have hS1':=Zak (1+h.length) (.int .i64 (n:Int)) hq1
     clear p0 q0 s0 n0 m0 c1 c2 c3 c4 c5 z1 z2 z3 z4 z5
     go_upto_region 11 with(fail)
     obtain⟨Z2,hZ2⟩:∃Z2:World,Z2=Z1.setCell ⟨w2.heap.size,1+h.length,none⟩ (.int .i64 (n:Int)):=⟨_,rfl⟩
     rw[←hZ2]
     rw[←hZ2] at hS1'
     have hb2':Below w2.heap.size w2 Z2:=by rw[hZ2];exact hb1.setCell (Nat.le_refl _) _
     clear hZ2 hq1 f1 e1 qz c0 z6
     have f0:=Zad 0 hS1'
     have qz:=lt_of_block hS1'
     have e0:Z2.cell? ⟨w2.heap.size,0,none⟩=some (.int .i64 (h.length:Int)):=Zaa 0 hS1' (by
      rw[Array.getElem?_setIfInBounds]
      simp)
     have hS2:=Zak 0 (.int .i64 ((h.length:Int)+1)) hS1'
     rw[Z4x h n hl5] at hS2
     go_upto_region 12 with(fail)
     obtain⟨Z3,hZ3⟩:∃Z3:World,Z3=Z2.setCell ⟨w2.heap.size,0,none⟩ (.int .i64 ((h.length:Int)+1)):=⟨_,rfl⟩
     rw[←hZ3]
     rw[←hZ3] at hS2
     have hb3:Below w2.heap.size w2 Z3:=by rw[hZ3];exact hb2'.setCell (Nat.le_refl _) _
     clear hZ3 hS1' f0 qz e0 hb1 hb2'
     have hyW2:=Nat.le_trans hyV hb2.size
     have hj3:=HJ.out _ _ _ hj2 (hb3.mono hyW2)
     have hO3:=hO2.below hb3
     have hc3:=(hb3.block _ (lt_of_block hc2)).trans hc2
     have hy3:=Nat.le_trans hyW2 hb3.size
     have hln:(h++[(n:Int)]).length=h.length+1:=by simp
     have NX:=HIHy.out ((j:Int)+1) (h++[(n:Int)]) _ Z3 (by omega) (by omega) hy3 hO3 hj3 (by rw[List.append_assoc,←HS1.out];exact HPP.out)
     rw[List.append_assoc,←HS1.out] at NX
     have hv6:Zb8 (h++[(n:Int)])=.agg #[.int .i64 ((h.length:Int)+1),.int .i64 (hrd (h++[(n:Int)]) 0),.int .i64 (hrd (h++[(n:Int)]) 1),.int .i64 (hrd (h++[(n:Int)]) 2),.int .i64 (hrd (h++[(n:Int)]) 3),.int .i64 (hrd (h++[(n:Int)]) 4)]:=by
      have h7:(((h++[(n:Int)]).length:Nat):Int)=(h.length:Int)+1:=by rw[hln];rfl
      show Value.agg #[.int .i64 (((h++[(n:Int)]).length:Nat):Int),_,_,_,_,_]=_
      rw[h7]
     rw[hv6] at NX
     clear hv6
     have d0:=Zaa 0 hS2 rfl
     have d1:=Zaa 1 hS2 rfl
     have d2:=Zaa 2 hS2 rfl
     have d3:=Zaa 3 hS2 rfl
     have d4:=Zaa 4 hS2 rfl
     have d5:=Zaa 5 hS2 rfl
     have dz:=lt_of_block hS2
     simp only[Zar,List.getElem_toArray,List.getElem_cons_zero,List.getElem_cons_succ] at d0 d1 d2 d3 d4 d5
     clear hln
     replace NX:=LH NX
     obtain⟨p0,q0,s0,n0,m0,c0,c1,c2,c3,c4,c5,z1,z2,z3,z4,z5,z6⟩:=KC.out _ (HZ.out _ _ hj3) hO3 hc3
     clear c0 c1 c2 c3 c4 c5
     go_wp2_with (go_at_call 172;go_must ((with_reducible refine NX.out.mono ?_);rintro e w4 ⟨rfl,hj4,hab4⟩;dsimp only))
     have habz:Above B V Z3:=(Above.of_below hb2).trans (Above.of_below hb3)
     have hcz:=(hab4.block _ (by omega) z6).trans hc3
     go_roundw
     case rel=>exact⟨n+1,by omega,by go_num,hj4,hO3.above hab4 hB,(hab.trans habz).trans hab4,hcz⟩
     case measure=>simp[intOf];omega
   ·obtain rfl:n=S:=by omega
    rw[List.append_assoc] at hj
    go_wp2
    (try rw[Exit.noGoto_ret])
    go_ret
    exact⟨rfl,hj,hab⟩
theorem Zrk (hv:EaValid b) (hi:i<b.spells.length) (hB:B≤yb) (hJ:∀s A A',J s A→Below yb A A'→J s A') (hJZ:∀s A,J s A→StrZ A bm bo p1 p3 i a1 a2 k1 k2 b)
  (hY:∀pre x W1,J pre W1→pre++[x] <+: xs→YieldAt Fence.wide 0 Tryz.prog l (encH x) W1 fun e W'=>e=.returned (.bool true)∧J (pre++[x]) W'∧Above B W1 W'):
  ∀left,StrC b.sounds.toNat (Zem b b.spells[i]) p1 p3 yb bm l B xs J left
 |0=>Zxx a1 a2 k1 k2 b bm bo p1 p3 i yb l B xs J hv hi hB hJ hJZ hY
 |left+1=>Zzw a1 a2 k1 k2 b bm bo p1 p3 i yb l B xs J hv hi hB hJ hJZ left (Zrk hv hi hB hJ hJZ hY left)
end
theorem Z18 (a1 a2:Option Addr) (k1 k2:Nat) (b:EaB) (bm bo p1 p3 i l B:Nat) (J:List (List Int)→World→Prop) (W:World) (hv:EaValid b) (hi:i<b.spells.length) (hB:B≤W.heap.size) (hJ:∀s A A',J s A→Below W.heap.size A A'→J s A') (hJZ:∀s A,J s A→StrZ A bm bo p1 p3 i a1 a2 k1 k2 b)
  (hY:∀pre x W1,J pre W1→pre++[x] <+: Zck b i→YieldAt Fence.wide 0 Tryz.prog l (encH x) W1 fun e W'=>e=.returned (.bool true)∧J (pre++[x]) W'∧Above B W1 W') (hj:J [] W):
  Calls Tryz.prog 170 #[.func (.yield l) #[] #[],.pointer (some ⟨p1,0,none⟩),.pointer (some ⟨p3,0,none⟩)] W fun e W'=>(∃v,e=.returned v)∧J (Zck b i) W':=by
 have hxs:Zck b i=Zcn b.sounds.toNat ((Zem b b.spells[i]).drop 0) []:=by unfold Zck;rw[Zdt hi];rfl
 have CN:=Zrk a1 a2 k1 k2 b bm bo p1 p3 i W.heap.size l B (Zck b i) J hv hi hB hJ hJZ hY (Zem b b.spells[i]).length 0 0 [] []
 rw[←hxs] at CN
 replace CN:=LH (fun V h1 h2 h3=>CN V rfl (by omega) (by simp) h1 h2 h3 (by simp))
 have HJ:=LH hJ
 have HJ0:=LH hj
 have hz:=hJZ _ _ hj
 have p0:=Zaa 0 hz.p rfl
 have q0:=Zaa 0 hz.i rfl
 have pz:=lt_of_block hz.p
 have qz:=lt_of_block hz.i
 simp only[List.getElem_toArray,List.getElem_cons_zero] at p0 q0
 clear hJ hJZ hY hj hz hxs
 go_enter Tryz.func170,Tryz.ntmps170
 go_upto_region 4 with(fail)
 obtain⟨Y,hY⟩:∃Y:World,Y=((W.alloc (.cells #[.func (.yield l) #[] #[]] 158)).alloc (.cells #[.func (.func 171) #[.pointer (some ⟨bm,0,none⟩)] #[]] 68)).alloc (.cells #[.func (.func 172) #[] #[.pointer (some ⟨p1,0,none⟩),.pointer (some ⟨p3,0,none⟩),.pointer (some ⟨W.heap.size,0,none⟩),.pointer (some ⟨W.heap.size+1+1,0,none⟩),.pointer (some ⟨W.heap.size+1,0,none⟩)]] 241):=⟨_,rfl⟩
 rw[←hY]
 have hbY:Below W.heap.size W Y:=by rw[hY];exact(((Below.refl _ _).alloc (Nat.le_refl _) _).alloc (by simp) _).alloc (by simp;omega) _
 have hOY:StrO Y p1 p3 W.heap.size bm l:=by
  rw[hY]
  exact⟨(heap_alloc_old _ _ (by simp;omega)).trans ((heap_alloc_old _ _ (by simp)).trans (Zac _ _ rfl)),(heap_alloc_old _ _ (by simp)).trans (Zac _ _ (by simp)),Zac _ _ (by simp)⟩
 have hjY:=HJ.out _ _ _ HJ0.out hbY
 clear hY
 have CC:=CN.out Y hbY.size hOY hjY
 rw[List.nil_append] at CC
 have CC:=LH (show Calls Tryz.prog 172 #[.int .i64 0,.agg #[.int .i64 0,.int .i64 0,.int .i64 0,.int .i64 0,.int .i64 0,.int .i64 0],.pointer (some ⟨p1,0,none⟩),.pointer (some ⟨p3,0,none⟩),.pointer (some ⟨W.heap.size,0,none⟩),.pointer (some ⟨W.heap.size+1+1,0,none⟩),.pointer (some ⟨W.heap.size+1,0,none⟩)] Y _ from CC)
 have n0:=Zaa 0 hOY.n rfl
 have nz:=lt_of_block hOY.n
 simp only[List.getElem_toArray,List.getElem_cons_zero] at n0
 clear hOY hjY hbY p0 q0 pz qz CN
 go_wp2_with (go_at_call 172;go_must ((with_reducible refine CC.out.mono ?_);rintro e w2 ⟨rfl,hj2,hab2⟩;dsimp only))
 go_end0
 exact⟨⟨_,rfl⟩,hj2⟩
theorem Zrq (bm i:Nat) (w:World):
  Calls Tryz.prog 135 #[.pointer (some ⟨bm,0,none⟩),.int .i64 (i:Int)] w fun e w'=>e=.returned (.func (.func 170) #[] #[.pointer (some ⟨w.heap.size,0,none⟩),.pointer (some ⟨w.heap.size+1,0,none⟩)])∧w'=(w.alloc (.cells #[.pointer (some ⟨bm,0,none⟩)] 90)).alloc (.cells #[.int .i64 (i:Int)] 3):=by
 go_enter Tryz.func135,Tryz.ntmps135
 go_wp2
 go_ret
 exact⟨by simp,rfl⟩
theorem Z6c (a1 a2:Option Addr) (k1 k2:Nat) (b:EaB) (bm bo p1 p3 i:Nat) (w0:World) (hv:EaValid b) (hi:i<b.spells.length):
  SeqT Tryz.prog 170 #[.pointer (some ⟨p1,0,none⟩),.pointer (some ⟨p3,0,none⟩)] encH w0.heap.size (fun A=>StrZ A bm bo p1 p3 i a1 a2 k1 k2 b) (Zck b i) w0:=
 fun l J W _ hz hJ hJZ hY hj=>callsIn_wide.2 (Z18 a1 a2 k1 k2 b bm bo p1 p3 i l w0.heap.size J W hv hi hz hJ hJZ hY hj)
end
section
open Go Go.RowKit Go.Shelf
attribute [local go_sem] Oper.semAt_some
def Z93 (D:Nat):Deferred:={target:=.collected D,args:=#[]}
def Zho (Ds:List Nat) (W:World):Prop:=Ds.Nodup∧∀D∈Ds,W.heap[D]?=some (.deferred (some []))
theorem Zho.same {Ds:List Nat} {W W':World} (h:Zho Ds W) (hs:∀D∈Ds,W'.heap[D]?=W.heap[D]?):Zho Ds W':=⟨h.1,fun D hD=>(hs D hD).trans (h.2 D hD)⟩
theorem Zho.lt {Ds:List Nat} {W:World} (h:Zho Ds W):∀D∈Ds,D<W.heap.size:=fun D hD=>(Array.getElem?_eq_some_iff.1 (h.2 D hD)).1
theorem Zlp {P:Program} {F:Fence} {n:Nat} {fn:Func} {tmps:Array Value} {R:Ending→World→Prop}:∀(Ds:List Nat) (W:World),Zho Ds W→
  (∀W':World,W'.os=W.os→W'.tape=W.tape→W'.output=W.output→W'.heap.size=W.heap.size→(∀b,b ∉ Ds→W'.heap[b]?=W.heap[b]?)→LeavesIn F n P fn tmps R [] .returning W')→LeavesInM F n P fn tmps R (Ds.map Z93) .returning W
 |[],W,_,h=>h W rfl rfl rfl rfl fun _ _=>rfl
 |D::Ds,W,hm,h=>by
  have hD:=hm.2 D (by simp)
  obtain⟨h1,h2⟩:=List.nodup_cons.1 hm.1
  refine⟨by simp,.inl ⟨D,W.putObj D (.deferred none),rfl,run_takeDeferred hD,Zlp Ds _ ⟨h2,fun E hE=>?_⟩ fun W' g1 g2 g3 g4 g5=>?_⟩⟩
  ·rw[World.putObj_heap_other (fun e=>h1 (by rw[←e];exact hE))]
   exact hm.2 E (by simp[hE])
  ·have hg:=grownBy_putObj' W D (.deferred none)
   refine h W' (g1.trans hg.os) (g2.trans hg.tape) (g3.trans hg.output) (by rw[g4];simp[World.putObj]) fun b hb=>?_
   have hb1:b≠D:=fun e=>hb (by simp[e])
   have hb2:b ∉ Ds:=fun e=>hb (by simp[e])
   rw[g5 b hb2,World.putObj_heap_other hb1]
theorem Z8g:∀c:Nat,c<32→∀k:Nat,k<5→bits BinOp.or .i64 (c:Int) (IntKind.i64.wrap (2^k))=((c|||2^k:Nat):Int):=by decide +kernel
structure LookI (a1 a2:Option Addr) (k1 k2:Nat) (b:EaB) (w:World) (ib p1 p3 k:Nat) (Ds:List Nat) (pre:List (List Int)) (W:World):Prop where
 map:∃T,MapV W Tryz.prog 95 (w.heap.size+1) T∧Zha b k pre T
 blk:BkB W (w.heap.size+1+1) (w.heap.size+1) a1 a2 k1 k2 b
 pb:W.heap[w.heap.size+1+1+1]?=some (.cells #[.pointer (some ⟨w.heap.size+1+1,0,none⟩)] 90 (0,0))
 ic:W.heap[ib]?=some (.cells #[.int .i64 (k:Int)] 3 (0,0))
 c1:W.heap[p1]?=some (.cells #[.pointer (some ⟨w.heap.size+1+1,0,none⟩)] 90 (0,0))
 c3:W.heap[p3]?=some (.cells #[.int .i64 (k:Int)] 3 (0,0))
 bel:Below (w.heap.size+1) (w.alloc (.cells #[.int .i64 b.sounds,.slice a1 b.alphas.length k1,.slice a2 b.spells.length k2] 25)) W
 mks:Zho Ds W
theorem LookI.below {a1 a2:Option Addr} {k1 k2:Nat} {b:EaB} {w:World} {ib p1 p3 k B:Nat} {Ds:List Nat} {pre:List (List Int)} {A A':World} (h:LookI a1 a2 k1 k2 b w ib p1 p3 k Ds pre A) (hb:Below B A A') (h0:w.heap.size+1+1+1<B) (h1:ib<B) (h2:p1<B) (h3:p3<B) (h4:∀D∈Ds,D<B):LookI a1 a2 k1 k2 b w ib p1 p3 k Ds pre A':=by
 obtain⟨T,m1,m2⟩:=h.map
 exact⟨⟨T,m1.below hb (by omega),m2⟩,h.blk.same (hb.block _ (by omega)),(hb.block _ h0).trans h.pb,(hb.block _ h1).trans h.ic,(hb.block _ h2).trans h.c1,(hb.block _ h3).trans h.c3,h.bel.trans (hb.mono (by omega)),h.mks.same (fun D hD=>hb.block _ (h4 D hD))⟩
theorem LookI.learn {a1 a2:Option Addr} {k1 k2:Nat} {b:EaB} {w:World} {ib p1 p3 k:Nat} {Ds:List Nat} {pre pre':List (List Int)} {A A':World} (h:LookI a1 a2 k1 k2 b w ib p1 p3 k Ds pre A) (hg:A.grownBy A' (some (w.heap.size+1))) (hd:∀D∈Ds,w.heap.size+1+1+1<D) (hm:∃T,MapV A' Tryz.prog 95 (w.heap.size+1) T∧Zha b k pre' T):LookI a1 a2 k1 k2 b w ib p1 p3 k Ds pre' A':=by
 obtain⟨T,⟨es,cl,hbk,_⟩,_⟩:=h.map
 have ne:∀{x:Nat} {cs:Array Value} {t:TypeId},A.heap[x]?=some (.cells cs t (0,0))→A'.heap[x]?=some (.cells cs t (0,0)):=fun {x cs t} hx=>by
  refine(hg.block x (lt_of_block hx) (fun e=>?_)).trans hx
  have e:=Option.some.inj e
  rw[e,hbk] at hx
  cases hx
 refine⟨hm,ne h.blk,ne h.pb,ne h.ic,ne h.c1,ne h.c3,?_,h.mks.same (fun D hD=>hg.block D (h.mks.lt D hD) (fun e=>?_))⟩
 ·exact h.bel.grown hg (by have:=h.bel.size;simpa using this) (fun r e=>by have:=Option.some.inj e;omega)
 ·have:=Option.some.inj e
  have:=hd D hD
  omega
theorem Z2t (a1 a2:Option Addr) (k1 k2:Nat) (b:EaB) (w:World) (hm:BookC w a1 a2 k1 k2 b) (hv:EaValid b):
  Calls Tryz.prog 85 #[(.agg #[.int .i64 b.sounds,.slice a1 b.alphas.length k1,.slice a2 b.spells.length k2])] w fun e w'=>∃bm bo:Nat,e=.returned (.pointer (some ⟨bm,0,none⟩))∧BookW w' bm bo a1 a2 k1 k2 b∧Below w.heap.size w w'∧w.heap.size≤bm∧w.heap.size≤bo:=by
 have l1:=hm.oka.len
 have l2:=hm.oks.len
 have hns:=hv.ns
 have hmm:=@run_makeMap Tryz.prog
 have hW0:=Below.refl (w.heap.size+1) (w.alloc (.cells #[.int .i64 b.sounds,.slice a1 b.alphas.length k1,.slice a2 b.spells.length k2] 25))
 refine(callsIn_wide (n:=0)).1 ?_
 refine callsIn_of_wp_marks Tryz.func85 rfl trivial ?_ rfl
 simp only[Tryz.ntmps85,List.size_toArray,List.length_cons,List.length_nil,Nat.reduceAdd,Nat.reduceSub,Array.replicate_succ,Array.replicate_zero,List.push_toArray,List.append_toArray,List.nil_append,List.cons_append]
 refine(wpIn_wide (n:=0)).2 ?_
 go_upto_region 3 with(fail)
 obtain⟨w0,hw0⟩:∃w0:World,w0=(((w.alloc (.cells #[.int .i64 b.sounds,.slice a1 b.alphas.length k1,.slice a2 b.spells.length k2] 25)).alloc (.map #[] 0)).alloc (.cells #[.int .i64 b.sounds,.slice a1 b.alphas.length k1,.slice a2 b.spells.length k2,.map (some (w.heap.size+1))] 144)).alloc (.cells #[.pointer (some ⟨w.heap.size+1+1,0,none⟩)] 90):=⟨_,rfl⟩
 rw[←hw0]
 have hM0:MapV w0 Tryz.prog 95 (w.heap.size+1) []:=by
  have:=MapV.made (w.alloc (.cells #[.int .i64 b.sounds,.slice a1 b.alphas.length k1,.slice a2 b.spells.length k2] 25)) Tryz.prog 95
  rw[hw0]
  refine MapV.same (by simpa using this) ?_
  exact(heap_alloc_old _ _ (by simp)).trans (heap_alloc_old _ _ (by simp))
 have hB0:BkB w0 (w.heap.size+1+1) (w.heap.size+1) a1 a2 k1 k2 b:=by rw[hw0];exact(heap_alloc_old _ _ (by simp)).trans (Zac _ _ (by simp))
 have hP0:w0.heap[w.heap.size+1+1+1]?=some (.cells #[.pointer (some ⟨w.heap.size+1+1,0,none⟩)] 90 (0,0)):=by rw[hw0];exact Zac _ _ (by simp)
 have hb0:Below (w.heap.size+1) (w.alloc (.cells #[.int .i64 b.sounds,.slice a1 b.alphas.length k1,.slice a2 b.spells.length k2] 25)) w0:=by rw[hw0];exact(((Below.refl _ _).alloc (by simp) _).alloc (by simp) _).alloc (by simp) _
 clear hw0
 refine wp_loop (fun a V=>∃(k:Nat) (Ds:List Nat) (T:List (Value × Value)) (u4 u5 u14 u15 u16 u17 u18 u19 u20 u21 u22 u23 u24 u25 u26 u27 u28 u29 u30 u31 u32:Value),a={tmps:=#[(.agg #[.int .i64 b.sounds,.slice a1 b.alphas.length k1,.slice a2 b.spells.length k2]),.pointer (some ⟨w.heap.size,0,none⟩),.pointer none,.pointer (some ⟨w.heap.size+1+1+1,0,none⟩),u4,u5,(.agg #[.int .i64 b.sounds,.slice a1 b.alphas.length k1,.slice a2 b.spells.length k2]),.map (some (w.heap.size+1)),.agg #[.int .i64 b.sounds,.slice a1 b.alphas.length k1,.slice a2 b.spells.length k2,.map (some (w.heap.size+1))],.pointer (some ⟨w.heap.size+1+1,0,none⟩),.pointer (some ⟨w.heap.size,2,none⟩),.slice a2 b.spells.length k2,.int .i64 (b.spells.length:Int),.int .i64 (k:Int),u14,u15,u16,u17,u18,u19,u20,u21,u22,u23,u24,u25,u26,u27,u28,u29,u30,u31,u32],defers:=Ds.map Z93}∧k≤b.spells.length∧MapV V Tryz.prog 95 (w.heap.size+1) T∧Zha b k [] T∧BkB V (w.heap.size+1+1) (w.heap.size+1) a1 a2 k1 k2 b∧
   V.heap[w.heap.size+1+1+1]?=some (.cells #[.pointer (some ⟨w.heap.size+1+1,0,none⟩)] 90 (0,0))∧Below (w.heap.size+1) (w.alloc (.cells #[.int .i64 b.sounds,.slice a1 b.alphas.length k1,.slice a2 b.spells.length k2] 25)) V∧Zho Ds V∧∀D∈Ds,w.heap.size+1+1+1<D)
  (fun a _=>b.spells.length-(intOf (a.tmps.getD 13 undef)).toNat) ?start ?round
 case start=>exact⟨0,[],[],_,_,_,_,_,_,_,_,_,_,_,_,_,_,_,_,_,_,_,_,_,rfl,Nat.zero_le _,hM0,Z07 b,hB0,hP0,hb0,⟨List.nodup_nil,fun D h=>by cases h⟩,fun D h=>by cases h⟩
 case round=>
  clear hM0 hB0 hP0 hb0
  rintro a V ⟨k,Ds,T,u4,u5,u14,u15,u16,u17,u18,u19,u20,u21,u22,u23,u24,u25,u26,u27,u28,u29,u30,u31,u32,rfl,hk,hM,hK,hB,hP,hb,hMk,hlo⟩
  have hbm:=hB.cells.2.2.2.2
  have p0:=Zaa 0 hP rfl
  simp only[List.getElem_toArray,List.getElem_cons_zero] at p0
  have hpz:=lt_of_block hP
  by_cases hlt:k<b.spells.length
  ·have hltI:(k:Int)<(b.spells.length:Int):=by omega
   go_upto_region 5 with(fail)
   obtain⟨X,hX⟩:∃X:World,X=V.alloc (.cells #[.int .i64 (k:Int)] 3):=⟨_,rfl⟩
   rw[←hX]
   have hbX:Below V.heap.size V X:=by rw[hX];exact(Below.refl _ _).alloc (Nat.le_refl _) _
   have hiX:X.heap[V.heap.size]?=some (.cells #[.int .i64 (k:Int)] 3 (0,0)):=by rw[hX];exact Zac _ _ rfl
   clear hX
   have i0:=Zaa 0 hiX rfl
   have iz:=lt_of_block hiX
   simp only[List.getElem_toArray,List.getElem_cons_zero] at i0
   replace p0:=Zab hbX p0
   replace hpz:=Nat.lt_of_lt_of_le hpz hbX.size
   have SC:=LH (Zrq (w.heap.size+1+1) k X)
   go_wp2_with (go_at_call 135;go_must ((with_reducible refine SC.out.mono ?_);rintro e w3 ⟨rfl,rfl⟩;dsimp only))
   obtain⟨Y,hY⟩:∃Y:World,Y=(X.alloc (.cells #[.pointer (some ⟨w.heap.size+1+1,0,none⟩)] 90)).alloc (.cells #[.int .i64 (k:Int)] 3):=⟨_,rfl⟩
   rw[←hY]
   have hXY:Below X.heap.size X Y:=by rw[hY];exact((Below.refl _ _).alloc (Nat.le_refl _) _).alloc (by simp) _
   have hq1:Y.heap[X.heap.size]?=some (.cells #[.pointer (some ⟨w.heap.size+1+1,0,none⟩)] 90 (0,0)):=by rw[hY];exact(heap_alloc_old _ _ (by simp)).trans (Zac _ _ rfl)
   have hq3:Y.heap[X.heap.size+1]?=some (.cells #[.int .i64 (k:Int)] 3 (0,0)):=by rw[hY];exact Zac _ _ (by simp)
   clear hY
   have hVY:Below V.heap.size V Y:=hbX.trans (hXY.mono hbX.size)
   have hzY:=hVY.size
   have hiY:=(hXY.block _ iz).trans hiX
   have hMY:=hM.below hVY hM.lt
   have hBY:=hB.same (hVY.block _ hbm)
   have hPY:=(hVY.block _ (lt_of_block hP)).trans hP
   have hbY:Below (w.heap.size+1) (w.alloc (.cells #[.int .i64 b.sounds,.slice a1 b.alphas.length k1,.slice a2 b.spells.length k2] 25)) Y:=hb.trans (hVY.mono (by omega))
   have hMkY:=hMk.same (fun D hD=>hVY.block _ (hMk.lt D hD))
   have hlt':∀D∈Ds,D<Y.heap.size:=hMkY.lt
   clear hbX hiX iz i0 p0 hpz hXY hM hB hP hb hMk
   refine(wpIn_wide (n:=0)).1 ?_
   refine Zhe (gf:=170) (lb:=#[.pointer (some ⟨X.heap.size,0,none⟩),.pointer (some ⟨X.heap.size+1,0,none⟩)]) rfl (enters_of Tryz.func170 (by kernel_rfl) rfl)
    (Z6c a1 a2 k1 k2 b (w.heap.size+1+1) (w.heap.size+1) X.heap.size (X.heap.size+1) k Y hv hlt) (Below.refl _ _) (Nat.le_refl _) (fun _=>rfl)
    (fun pre W=>LookI a1 a2 k1 k2 b w V.heap.size X.heap.size (X.heap.size+1) k Ds pre W)
    ?closed ?reads ⟨⟨T,hMY,hK⟩,hBY,hPY,hiY,hq1,hq3,hbY,hMkY⟩ ?round ?done
   case closed=>exact fun s A A' h hb=>h.below hb (lt_of_block hPY) (lt_of_block hiY) (lt_of_block hq1) (lt_of_block hq3) hlt'
   case reads=>exact fun s A h=>⟨h.blk,hm.mono (Zaf h.bel),h.c1,h.c3⟩
   case round=>
    intro l pre x W hl1 hl2 hI hpre
    have hxs:x∈Zck b k:=by obtain⟨r,hr⟩:=hpre;rw[←hr];simp
    have hps:∀y∈pre,y∈Zck b k:=fun y hy=>by obtain⟨r,hr⟩:=hpre;rw[←hr];simp[hy]
    have hxo:=Zhs hv hlt hxs
    gi_wp2
    obtain⟨U,hU⟩:∃U:World,U=W.alloc (.cells (Zar x) 95):=⟨_,rfl⟩
    have hbU:Below W.heap.size W U:=by rw[hU];exact(Below.refl _ _).alloc (Nat.le_refl _) _
    have hxU:U.heap[W.heap.size]?=some (.cells (Zar x) 95 (0,0)):=by rw[hU];exact Zac _ _ rfl
    rw[←hU]
    clear hU
    have hIU:=hI.below (hbU.mono (by omega:Y.heap.size≤W.heap.size)) (lt_of_block hPY) (lt_of_block hiY) (lt_of_block hq1) (lt_of_block hq3) hlt'
    refine⟨Above.of_below hbU,hIU,?_⟩
    intro Wb hsz hblk hIb
    have hxb:Wb.heap[W.heap.size]?=some (.cells (Zar x) 95 (0,0)):=(hblk _ (by omega)).trans hxU
    clear hsz hblk hIU hI hbU hxU
    obtain⟨T',hM,hKM⟩:=hIb.map
    obtain⟨v0,hv0,HLK,HEN⟩:=Z2d hv hlt hxs hps hKM (w.heap.size+1)
    have hk5:(k:Int)<64:=by omega
    have HO:=Z8g v0 hv0 k (by omega)
    have p0:=Zaa 0 hIb.pb rfl
    have i0:=Zaa 0 hIb.ic rfl
    have c3:=hIb.blk.cells.2.2.2.1
    have d0:=Zaa 0 hxb rfl
    have d1:=Zaa 1 hxb rfl
    have d2:=Zaa 2 hxb rfl
    have d3:=Zaa 3 hxb rfl
    have d4:=Zaa 4 hxb rfl
    have d5:=Zaa 5 hxb rfl
    simp only[Zar,List.getElem_toArray,List.getElem_cons_zero,List.getElem_cons_succ] at p0 i0 d0 d1 d2 d3 d4 d5
    have hYW:Y.heap.size<W.heap.size:=by omega
    have hVY':V.heap.size<Y.heap.size:=lt_of_block hiY
    have KE:Hid (∀U,Wb.grownBy U (some (w.heap.size+1))→(fun U=>Wb.grownBy U (some (w.heap.size+1))∧U.cell? ⟨w.heap.size+1+1+1,0,none⟩=some (.pointer (some ⟨w.heap.size+1+1,0,none⟩))∧U.cell? ⟨w.heap.size+1+1,3,none⟩=some (.map (some (w.heap.size+1)))∧U.cell? ⟨V.heap.size,0,none⟩=some (.int .i64 (k:Int))∧U.cell? ⟨W.heap.size,0,none⟩=some (.int .i64 (x.length:Int))∧U.cell? ⟨W.heap.size,1,none⟩=some (.int .i64 (hrd x 0))∧U.cell? ⟨W.heap.size,2,none⟩=some (.int .i64 (hrd x 1))∧U.cell? ⟨W.heap.size,3,none⟩=some (.int .i64 (hrd x 2))∧U.cell? ⟨W.heap.size,4,none⟩=some (.int .i64 (hrd x 3))∧U.cell? ⟨W.heap.size,5,none⟩=some (.int .i64 (hrd x 4))) U):=LH (fun U hg=>⟨hg,hg.cell p0 (by simp<;>omega),hg.cell c3 (by simp<;>omega),hg.cell i0 (by simp<;>omega),hg.cell d0 (by simp<;>omega),hg.cell d1 (by simp<;>omega),hg.cell d2 (by simp<;>omega),hg.cell d3 (by simp<;>omega),hg.cell d4 (by simp<;>omega),hg.cell d5 (by simp<;>omega)⟩)
    have hg0:Wb.grownBy Wb.drew (some (w.heap.size+1)):=⟨rfl,rfl,rfl,Nat.le_refl _,fun _ _ _=>rfl⟩
    replace HLK:=LH HLK
    replace HEN:=LH HEN
    have HIB:=LH hIb
    have HMb:=LH hM
    clear hIb hM hKM p0 i0 c3 d0 d1 d2 d3 d4 d5
    gi_wp2
    refine Zbz (fun U=>Wb.grownBy U (some (w.heap.size+1))∧U.cell? ⟨w.heap.size+1+1+1,0,none⟩=some (.pointer (some ⟨w.heap.size+1+1,0,none⟩))∧U.cell? ⟨w.heap.size+1+1,3,none⟩=some (.map (some (w.heap.size+1)))∧U.cell? ⟨V.heap.size,0,none⟩=some (.int .i64 (k:Int))∧U.cell? ⟨W.heap.size,0,none⟩=some (.int .i64 (x.length:Int))∧U.cell? ⟨W.heap.size,1,none⟩=some (.int .i64 (hrd x 0))∧U.cell? ⟨W.heap.size,2,none⟩=some (.int .i64 (hrd x 1))∧U.cell? ⟨W.heap.size,3,none⟩=some (.int .i64 (hrd x 2))∧U.cell? ⟨W.heap.size,4,none⟩=some (.int .i64 (hrd x 3))∧U.cell? ⟨W.heap.size,5,none⟩=some (.int .i64 (hrd x 4))) ?_ (by kernel_rfl) (Zcg (by kernel_rfl)) (KE.out _ hg0) (fun hHeld=>?_)
    ·intro h
     obtain⟨_,_,h⟩:=h
     exact h
    (refine tkH 0 ?_;simp only[frT])
    (refine tkH 1 ?_;simp only[frT])
    (refine tkH 2 ?_;simp only[frT])
    (refine tkH 3 ?_;simp only[frT])
    (refine tkH 4 ?_;simp only[frT])
    (refine tkH 6 ?_;simp only[frT])
    (refine tkH 7 ?_;simp only[frT])
    have hMd:MapV Wb.drew Tryz.prog 95 (w.heap.size+1) T':=HMb.out.same rfl
    (refine wpAnyH_ready (rs:=[5,9]) (by kernel_rfl) (by simp) ?_;refine AllReadyH.cons rfl (fun K hK=>?_) (AllReadyH.cons rfl (fun K hK=>?_) AllReadyH.nil))
    ·have hlk:=HLK.out _ hMd
     unfold Z3h at hlk
     go_simp
     refine hK.out _ _ (KE.out _ hg0) (fun hHeld=>?_)
     (try simp only[frT])
     clear hK hlk
     (refine tkH 8 ?_;simp only[frT])
     obtain⟨T1,st,V1,e1,e2,e3,e4,e5,e6⟩:=HEN.out _ hMd
     (refine wpAnyH_ready (rs:=[9]) (by kernel_rfl) (by simp) ?_;refine AllReadyH.cons rfl (fun K hK=>?_) AllReadyH.nil;go_simp)
     have hg1:=hg0.andThen e3 (fun j e=>.inr (by simpa using e))
     refine hK.out _ _ (KE.out _ hg1) (fun hHeld=>?_)
     (try simp only[frT])
     clear hK e1
     (refine tkH 10 ?_;simp only[frT])
     obtain⟨U1,f1,⟨T2,f2,f3⟩,f4,f5⟩:=e6 V1 rfl
     (refine wpAnyH_ready (rs:=[11]) (by kernel_rfl) (by simp) ?_;refine AllReadyH.cons rfl (fun K hK=>?_) AllReadyH.nil;go_simp)
     have hg2:=hg1.andThen f4 (fun j e=>.inr (by simpa using e))
     refine hK.out _ _ (KE.out _ hg2) (fun hHeld=>?_)
     (try simp only[frT])
     exact wpAnyH_done (by kernel_rfl) ⟨Above.of_grown hg2 (fun r e=>by have:=Option.some.inj e;omega),HIB.out.learn hg2 hlo ⟨T2,f2,f3⟩⟩ _
    ·obtain⟨T1,st,V1,e1,e2,e3,e4,e5,e6⟩:=HEN.out _ hMd
     go_simp
     have hg1:=hg0.andThen e3 (fun j e=>.inr (by simpa using e))
     refine hK.out _ _ (KE.out _ hg1) (fun hHeld=>?_)
     (try simp only[frT])
     clear hK e1
     (refine tkH 10 ?_;simp only[frT])
     have hlk:=e5 V1 e2
     unfold Z3h at hlk
     (refine wpAnyH_ready (rs:=[5]) (by kernel_rfl) (by simp) ?_;refine AllReadyH.cons rfl (fun K hK=>?_) AllReadyH.nil;go_simp)
     refine hK.out _ _ (KE.out _ hg1) (fun hHeld=>?_)
     (try simp only[frT])
     clear hK hlk
     (refine tkH 8 ?_;simp only[frT])
     obtain⟨U1,f1,⟨T2,f2,f3⟩,f4,f5⟩:=e6 V1 rfl
     (refine wpAnyH_ready (rs:=[11]) (by kernel_rfl) (by simp) ?_;refine AllReadyH.cons rfl (fun K hK=>?_) AllReadyH.nil;go_simp)
     have hg2:=hg1.andThen f4 (fun j e=>.inr (by simpa using e))
     refine hK.out _ _ (KE.out _ hg2) (fun hHeld=>?_)
     (try simp only[frT])
     exact wpAnyH_done (by kernel_rfl) ⟨Above.of_grown hg2 (fun r e=>by have:=Option.some.inj e;omega),HIB.out.learn hg2 hlo ⟨T2,f2,f3⟩⟩ _
   case done=>
    intro D W hD hI hK2
    obtain⟨T2,m1,m2⟩:=hI.map
    have hw1:IntKind.i64.wrap ((k:Int)+1)=(k:Int)+1:=IntWalk.i64_in _ (by omega)
    have hDY:Y.heap.size≤D:=hD
    go_wp2
    refine⟨⟨k+1,D::Ds,T2,_,_,_,_,_,_,_,_,_,_,_,_,_,_,_,_,_,_,_,_,_,rfl,by omega,m1,Zyl m2,hI.blk,hI.pb,hI.bel,⟨List.nodup_cons.2 ⟨fun h=>by have:=hlt' D h;omega,hI.mks.1⟩,fun E hE=>?_⟩,fun E hE=>?_⟩,?_⟩
    ·rcases List.mem_cons.1 hE with rfl|h
     ·exact hK2
     ·exact hI.mks.2 E h
    ·rcases List.mem_cons.1 hE with rfl|h
     ·have:=lt_of_block hPY;omega
     ·exact hlo E h
    ·show b.spells.length-(intOf (.int .i64 _)).toNat<b.spells.length-(intOf (.int .i64 _)).toNat
     simp[intOf]
     omega
  ·obtain rfl:k=b.spells.length:=by omega
   go_wp2
   refine Zlp Ds V hMk fun W' g1 g2 g3 g4 g5=>?_
   have hVW:Below (w.heap.size+1+1+1+1) V W':=⟨g1,g2,g3,by omega,fun i hi=>g5 i (fun h=>by have:=hlo i h;omega)⟩
   have hwV:=Zaf hb
   have hwW:Below w.heap.size w W':=hwV.trans (hVW.mono (by omega))
   exact⟨_,results_tmp rfl _ _ _,w.heap.size+1+1,w.heap.size+1,rfl,⟨hm.mono hwW,hB.same (hVW.block _ (by omega)),T,hM.below hVW (by omega),Z4f hK⟩,hwW,by omega,by omega⟩
end
end Go.Proofs.YtklconegomgjaaaGreat
