/- What is proved here: arrays of six ints in memory; the contract of named of layer 3. Conditions: the town is looked at; persons of all mentions. -/
import Derived.Test.YtklconegomgjaaaGreatPeTiedG
import Derived.Test.YtklconegomgjaaaGreatPnBaseG
set_option linter.all false
set_option maxRecDepth 100000
set_option maxHeartbeats 16000000
namespace Go.Proofs.YtklconegomgjaaaGreat
section
open Go Go.RowKit Go.Shelf
theorem Zcm {W:World} {b:Nat} {ty:TypeId} {L:List Int} (h:W.heap[b]?=some (.cells (Zat L) ty (0,0))) (n:Nat) (hn:n<6):W.cell? ⟨b,n,none⟩=some (.int .i64 (pAt L n)):=by
 obtain rfl|rfl|rfl|rfl|rfl|rfl:n=0∨n=1∨n=2∨n=3∨n=4∨n=5:=by omega
 all_goals first|exact Zaa 0 h rfl|exact Zaa 1 h rfl|exact Zaa 2 h rfl|exact Zaa 3 h rfl|exact Zaa 4 h rfl|exact Zaa 5 h rfl
theorem Zwr {W:World} {b:Nat} {ty:TypeId} {L:List Int} (hL:L.length=6) (h:W.heap[b]?=some (.cells (Zat L) ty (0,0))) (n:Nat) (v:Int):(W.setCell ⟨b,n,none⟩ (.int .i64 v)).heap[b]?=some (.cells (Zat (L.set n v)) ty (0,0)):=by
 rw[Zak n (.int .i64 v) h]
 match L,hL with
 |[a0,a1,a2,a3,a4,a5],_=>
  match n with
  |0=>rfl
  |1=>rfl
  |2=>rfl
  |3=>rfl
  |4=>rfl
  |5=>rfl
  |n+6=>
   rw[List.set_eq_of_length_le (by simp)]
   rw[Array.setIfInBounds_eq_of_size_le (by simp[Zat])]
theorem Z7h {L:List Int} {n i:Nat} (v:Int) (hn:n<L.length):pAt (L.set n v) i=if i=n then v else pAt L i:=by
 unfold pAt
 rw[List.getElem?_set]
 by_cases e:n=i
 ·subst e;simp[hn]
 ·rw[if_neg e,if_neg (fun h=>e h.symm)]
def Zl8 (t:PeW) (q:List Int) (k:Nat):List Int:=(List.range 6).map fun(n:Nat)=>(Zco t q n k:Int)
theorem Zm1 (t:PeW) (q:List Int) (k:Nat):(Zl8 t q k).length=6:=by simp[Zl8]
theorem Ziq (t:PeW) (q:List Int) (k:Nat) {n:Nat} (hn:n<6):pAt (Zl8 t q k) n=(Zco t q n k:Int):=by
 unfold pAt Zl8
 rw[List.getElem?_map,List.getElem?_range hn]
 rfl
theorem Z7m {a b:List Int} (ha:a.length=6) (hb:b.length=6) (h:∀n,n<6→pAt a n=pAt b n):a=b:=by
 refine List.ext_getElem (by omega) fun i h1 h2=>?_
 have:=h i (by omega)
 unfold pAt at this
 rwa [List.getElem?_eq_getElem h1,List.getElem?_eq_getElem h2,Option.getD_some,Option.getD_some] at this
theorem Zz1 {t:PeW} {q:List Int} {k n0:Nat} (hq:pAt q k=(n0:Int)) (hn0:n0<6):(Zl8 t q k).set n0 ((Zco t q n0 k|||2^spOf t k:Nat):Int)=Zl8 t q (k+1):=by
 refine Z7m (by simp[Zl8]) (Zm1 _ _ _) fun n hn=>?_
 rw[Z7h _ (by rw[Zm1];exact hn0),Ziq _ _ _ hn,Ziq _ _ _ hn,Zco]
 by_cases e:n=n0
 ·subst e;rw[if_pos rfl,if_pos hq]
 ·rw[if_neg e,if_neg (fun h=>e (by rw[hq] at h;omega))]
theorem Znn {t:PeW} (hv:PeOk t) (q:List Int) (n:Nat):∀k,k≤t.ments.length→Zco t q n k<2^t.ear.spells.length
 |0,_=>Nat.two_pow_pos _
 |k+1,hk=>by
  rw[Zco]
  have ih:=Znn hv q n k (by omega)
  split
  ·exact Nat.or_lt_two_pow ih (Zuw (hv.sp (i:=k) (by omega)).2)
  ·exact ih
def Zoh (t:PeW) (s:Int):Bool:=s==0||Zc0 t s.toNat
theorem Z2u {t:PeW} {q:List Int} (h:∀n,n<6→Zoh t (pAt (Zl8 t q t.ments.length) n)=true):Zev t q=true:=by
 refine Zxa fun n hn=>?_
 have:=h n hn
 rw[Ziq _ _ _ hn] at this
 unfold Zoh at this
 simp only[Bool.or_eq_true,beq_iff_eq,Int.toNat_natCast] at this
 rcases this with h|h
 ·exact .inl (by omega)
 ·exact .inr h
theorem Z2m {t:PeW} {q:List Int} {n:Nat} (hn:n<6) (h:Zoh t (pAt (Zl8 t q t.ments.length) n)=false):Zev t q=false:=by
 unfold Zev Zqr
 rw[List.all_eq_false]
 refine⟨n,List.mem_range.2 hn,?_⟩
 rw[Ziq _ _ _ hn] at h
 unfold Zoh at h
 simp only[Bool.or_eq_false_iff,beq_eq_false_iff_ne,Int.toNat_natCast,ne_eq] at h
 have h1:¬Zco t q n t.ments.length=0:=fun e=>h.1 (by omega)
 simp[h1,h.2]
theorem Z4s (L:List Int) {n:Nat} (hn:n<6) (w:World):(Instr.index 109 (psV L) (.int .i64 (n:Int))).run Tryz.prog w=.ok (.int .i64 (pAt L n)) w:=by
 obtain rfl|rfl|rfl|rfl|rfl|rfl:n=0∨n=1∨n=2∨n=3∨n=4∨n=5:=by omega
 all_goals kernel_rfl
theorem Zua {t:PeW} {L:List Int} {k:Nat} (h:∀j,j<k→Zoh t (pAt L j)=true) (e:Zoh t (pAt L k)=true):∀j,j<k+1→Zoh t (pAt L j)=true:=fun j hj=>by
 by_cases g:j<k
 ·exact h j g
 ·have e2:j=k:=by omega
  subst e2
  exact e
theorem Zzf (a1 a2 a3 a4:Option Addr) (k1 k2 k3 k4:Nat) (t:PeW) (bt bc bk but:Nat) (q:List Int) (w:World) (hm:TownW w bt bc bk a1 a2 a3 a4 k1 k2 k3 k4 t but) (hv:PeOk t) (hq:PsOk q):
  Calls Tryz.prog 95 #[.pointer (some ⟨bt,0,none⟩),psV q] w fun e w'=>e=.returned (.bool (Zev t q))∧Lrn bc bk w w'∧TownW w' bt bc bk a1 a2 a3 a4 k1 k2 k3 k4 t but:=by
 have hnm:=hv.nm
 have hns:=hv.ear.ns
 have hlm:=hm.town.okm.len
 obtain⟨X,hX⟩:∃X:World,X=(w.alloc (.cells (Zat q) 109)).alloc (.cells (Zat noOf) 109):=⟨_,rfl⟩
 have hps:X.heap[w.heap.size]?=some (.cells (Zat q) 109 (0,0)):=by rw[hX];exact(heap_alloc_old _ _ (by simp)).trans (Zac _ _ rfl)
 have hss:X.heap[w.heap.size+1]?=some (.cells (Zat (Zl8 t q 0)) 109 (0,0)):=by rw[hX];exact Zac _ _ (by simp)
 have hb0:Below w.heap.size w X:=by rw[hX];exact((Below.refl _ _).alloc (Nat.le_refl _) _).alloc (by simp) _
 have HX:=LH hX
 have hzX:X.heap.size=w.heap.size+1+1:=by rw[hX];simp
 clear hX
 have hmX:=hm.below hb0
 have HMX:=LH (fun(V:World) (h:Below w.heap.size w V)=>hm.below h)
 have HLT:=LH (fun n k (hk:k≤t.ments.length)=>(show Zco t q n k<32 from Nat.lt_of_lt_of_le (Znn hv q n k hk) (Nat.pow_le_pow_right (n:=2) (by omega) hns)))
 have HLT2:=LH (fun n=>Znn hv q n t.ments.length (Nat.le_refl _))
 have HSP:=LH (fun k (hk:k<t.ments.length)=>hv.sp hk)
 have HAL:=LH (fun(V:World) (h:TownW V bt bc bk a1 a2 a3 a4 k1 k2 k3 k4 t but) (s:Nat) (hs:s<2^t.ear.spells.length) (h0:s≠0)=>Zpb a1 a2 a3 a4 k1 k2 k3 k4 t bt bc bk but s V h hv hs h0)
 have HPQ:=LH (fun n=>hq.at n)
 have hB:=hb0
 have y4:=hmX.cells.2.2.2.2.1
 have yz:=hmX.bt_lt
 have HNA:=LH (fun h=>Z2u (t:=t) (q:=q) h)
 have HNN:=LH (fun n hn h=>Z2m (t:=t) (q:=q) (n:=n) hn h)
 clear hm hv hb0 hmX hq
 go_enter Tryz.func95,Tryz.ntmps95
 go_upto_region 2 with(fail)
 rw[show(w.alloc (.cells #[.int .i64 (pAt q 0),.int .i64 (pAt q 1),.int .i64 (pAt q 2),.int .i64 (pAt q 3),.int .i64 (pAt q 4),.int .i64 (pAt q 5)] 109)).alloc (.cells #[.int .i64 0,.int .i64 0,.int .i64 0,.int .i64 0,.int .i64 0,.int .i64 0] 109)=X from HX.out.symm]
 go_wp2
 go_loopw [16] (fun i wr=>∃k:Nat,k≤t.ments.length∧i=.int .i64 (k:Int)∧wr.heap[w.heap.size]?=some (.cells (Zat q) 109 (0,0))∧wr.heap[w.heap.size+1]?=some (.cells (Zat (Zl8 t q k)) 109 (0,0))∧Below w.heap.size w wr) (fun i _=>t.ments.length-(intOf i).toNat)
 case atStart=>exact⟨0,Nat.zero_le _,rfl,hps,hss,hB⟩
 case round=>
  clear hps hss hB y4 yz
  obtain⟨k,hk,rfl,hps,hss,hb⟩:=hrel
  by_cases hkt:k<t.ments.length
  ·have hmr:=HMX.out _ hb
   obtain⟨b',off,ea,hb',l0,l1,l2,l3,l4⟩:=hmr.town.ments k hkt
   obtain⟨hs1,hs2⟩:=HSP.out k hkt
   rw[hs1] at l0
   generalize t.ments[k].vill=xv at l1
   generalize t.ments[k].lo=xl at l2
   generalize t.ments[k].hi=xh at l3
   generalize t.ments[k].par=xp at l4
   obtain⟨n0,hn0⟩:∃n:Nat,pAt q k=(n:Int):=⟨(pAt q k).toNat,by have:=HPQ.out k;omega⟩
   have hn6:n0<6:=by have:=HPQ.out k;omega
   have HNX:=LH (Zz1 (t:=t) hn0 hn6)
   have hlt:=HLT.out n0 k hk
   have hor:=Zvn (Zco t q n0 k) hlt (spOf t k) (by omega)
   have hwa:=Zhw (spOf t k) (by omega)
   have hat:=Ziq t q k hn6
   obtain⟨V,hV⟩:∃V:World,V=wr.alloc (.cells #[.int .i64 (spOf t k:Int),.int .i64 xv,.int .i64 xl,.int .i64 xh,.int .i64 xp] 38):=⟨_,rfl⟩
   have hbV:Below wr.heap.size wr V:=by rw[hV];exact(Below.refl _ _).alloc (Nat.le_refl _) _
   have hcV:V.heap[wr.heap.size]?=some (.cells #[.int .i64 (spOf t k:Int),.int .i64 xv,.int .i64 xl,.int .i64 xh,.int .i64 xp] 38 (0,0)):=by rw[hV];exact Zac _ _ rfl
   have HV:=LH hV
   have hpV:=(hbV.block _ (lt_of_block hps)).trans hps
   have hsV:=(hbV.block _ (lt_of_block hss)).trans hss
   have HBV:=LH (hb.trans (hbV.mono hb.size))
   have hzw:=hb.size
   clear hV hbV hb hps hss
   go_upto_region 5 with(fail)
   rw[show wr.alloc (.cells #[.int .i64 (spOf t k:Int),.int .i64 xv,.int .i64 xl,.int .i64 xh,.int .i64 xp] 38)=V from HV.out.symm]
   clear l0 l1 l2 l3 l4 ea hb' hmr hs1
   have v0:=Zaa 0 hcV rfl
   have vz:=lt_of_block hcV
   have p0:=Zcm hpV k (by omega)
   have pz:=lt_of_block hpV
   have s0:=Zcm hsV n0 hn6
   have sz:=lt_of_block hsV
   have sf:=Zad n0 hsV
   simp only[List.getElem_toArray,List.getElem_cons_zero] at v0
   rw[hn0] at p0
   rw[hat] at s0
   have HSV:=LH hsV
   have HPV:=LH hpV
   have hk6:(k:Int)<6:=by omega
   have hn6I:(n0:Int)<6:=by omega
   have hsp64:(spOf t k:Int)<64:=by omega
   generalize spOf t k=sp at *
   generalize Zco t q n0 k=s1 at *
   clear hcV hpV hsV hat
   (focus go_region)
   all_goals
    go_wp2
    go_roundw
    case rel=>
     refine⟨k+1,by omega,by go_num,?_,?_,?_⟩
     ·exact(Below.heap_setCell _ _ _ _ (by simp)).trans HPV.out
     ·have:=Zwr (Zm1 t q k) HSV.out n0 ((s1|||2^sp:Nat):Int)
      rw[HNX.out] at this
      exact this
     ·exact Zah (HBV.out.setCell (by simp) _)
    case measure=>simp[intOf];omega
  ·obtain rfl:k=t.ments.length:=by omega
   have HL0:=LH (Lrn.of_below (bc:=bc) (bk:=bk) hb)
   have HM0:=LH (HMX.out _ hb)
   have HSE:=LH (fun n (hn:n<6)=>Ziq t q t.ments.length hn)
   generalize Zl8 t q t.ments.length=L at hss HNA HNN HSE
   have c0:=Zaa 0 hss rfl
   have c1:=Zaa 1 hss rfl
   have c2:=Zaa 2 hss rfl
   have c3:=Zaa 3 hss rfl
   have c4:=Zaa 4 hss rfl
   have c5:=Zaa 5 hss rfl
   have cz:=lt_of_block hss
   simp only[Zat,List.getElem_toArray,List.getElem_cons_zero,List.getElem_cons_succ] at c0 c1 c2 c3 c4 c5
   clear hps hss hb
   go_wp2
   go_loopw [33] (fun i wr=>∃j:Nat,j≤6∧i=.int .i64 (j:Int)∧Hid (∀n,n<j→Zoh t (pAt L n)=true)∧TownW wr bt bc bk a1 a2 a3 a4 k1 k2 k3 k4 t but∧Lrn bc bk w wr) (fun i _=>6-(intOf i).toNat)
   case atStart=>exact⟨0,by omega,rfl,LH (fun j h=>absurd h (Nat.not_lt_zero j)),HM0.out,HL0.out⟩
   case round=>
    rename World=>wr2
    obtain⟨j,hj,rfl,HR,hm2,hl2⟩:=hrel
    have HM2:=LH hm2
    have HL2:=LH hl2
    clear hm2 hl2 c0 c1 c2 c3 c4 c5 cz
    by_cases hj6:j<6
    ·have NU:=LH (fun h0:pAt L j≠0=>(show Calls Tryz.prog 137 #[.pointer (some ⟨bt,0,none⟩),.int .i64 (pAt L j)] wr2 fun e w'=>e=.returned (.bool (Zc0 t (pAt L j).toNat))∧Lrn bc bk wr2 w'∧TownW w' bt bc bk a1 a2 a3 a4 k1 k2 k3 k4 t but from by
      have h1:=HSE.out j (by omega)
      rw[h1] at h0 ⊢
      rw[Int.toNat_natCast]
      exact HAL.out wr2 HM2.out (Zco t q j t.ments.length) (HLT2.out j) (fun e=>h0 (by omega))))
     have HO:Hid (Zoh t (pAt L j)=(pAt L j==0||Zc0 t (pAt L j).toNat)):=LH rfl
     have HNO:=LH (HNN.out j (by omega))
     have HGO:=LH (fun(h:Zoh t (pAt L j)=true)=>Zua HR.out h)
     have hix:=Z4s L hj6 wr2
     unfold psV at hix
     generalize hz0:pAt L j=z at NU HO HNO HGO hix
     clear hz0
     by_cases hz:z=0
     ·have e1:(z != 0)=false:=by simp[hz]
      have HG:=LH (HGO.out (by rw[HO.out];simp[hz]))
      clear hz
      go_wp2
      go_roundw
      case rel=>exact⟨j+1,by omega,by go_num,HG,HM2.out,HL2.out⟩
      case measure=>simp[intOf];omega
     ·have e1:(z != 0)=true:=by simpa using hz
      have NZ:=LH (NU.out hz)
      generalize Zc0 t z.toNat=ab at NZ HO
      cases ab
      ·have HF:=LH (HNO.out (by rw[HO.out];simp[hz]))
       clear hz
       go_wp2_with (go_at_call 137;go_must ((with_reducible refine NZ.out.mono ?_);rintro e w3 ⟨rfl,hl3,ht3⟩;dsimp only))
       go_ret
       exact⟨by rw[HF.out];rfl,HL2.out.trans hl3,ht3⟩
      ·have HG:=LH (HGO.out (by rw[HO.out];simp))
       clear hz
       go_wp2_with (go_at_call 137;go_must ((with_reducible refine NZ.out.mono ?_);rintro e w3 ⟨rfl,hl3,ht3⟩;dsimp only))
       go_roundw
       case rel=>exact⟨j+1,by omega,by go_num,HG,ht3,HL2.out.trans hl3⟩
       case measure=>simp[intOf];omega
    ·obtain rfl:j=6:=by omega
     have HE:=LH (HNA.out (fun n hn=>HR.out n hn))
     go_wp2
     go_ret
     exact⟨by rw[HE.out];rfl,HL2.out,HM2.out⟩
end
section
open Go Go.RowKit Go.Shelf
theorem Zn5 {t:PeW} {q:List Int} {k:Nat} (h:Zbp t q k=none):∀m,Zbp t q (k+m)=none
 |0=>h
 |m+1=>by rw[←Nat.add_assoc,Zbp,Zn5 h m]
theorem Zlt {t:PeW} {q:List Int} {k:Nat} (hk:k≤t.ments.length) (h:Zbp t q k=none):Zb2 t q=false:=by
 unfold Zb2
 have:=Zn5 h (t.ments.length-k)
 rw[Nat.add_sub_of_le hk] at this
 rw[this]
 rfl
theorem Zre {t:PeW} {q f:List Int} (h:Zbp t q t.ments.length=some f):Zb2 t q=true:=by
 unfold Zb2
 rw[h]
 rfl
theorem Zuh {t:PeW} {q f:List Int} {k:Nat} (h:Zbp t q k=some f) (hp:(Zal t k).par=-1):Zbp t q (k+1)=some f:=by
 rw[Zbp,h]
 simp only[hp,if_true]
theorem Z0h {t:PeW} {q f:List Int} {k np n0 pp:Nat} (h:Zbp t q k=some f) (hp:(Zal t k).par=(np:Int)) (hq:pAt q k=(n0:Int)) (hr:pAt q np=(pp:Int)):
  Zbp t q (k+1)=if n0=pp∨(pAt f n0≠0∧pAt f n0≠(pp:Int)+1) then none else some (f.set n0 ((pp:Int)+1)):=by
 rw[Zbp,h]
 simp only[hp,hq,Int.toNat_natCast,hr]
 rw[if_neg (by omega)]
 by_cases c:n0=pp∨(pAt f n0≠0∧pAt f n0≠(pp:Int)+1)
 ·rw[if_pos c,if_pos]
  rcases c with c|c
  ·exact .inl (by omega)
  ·exact .inr c
 ·rw[if_neg c,if_neg]
  intro h
  refine c ?_
  rcases h with h|h
  ·exact .inl (by omega)
  ·exact .inr h
theorem Zp8 (a1 a2 a3 a4:Option Addr) (k1 k2 k3 k4:Nat) (t:PeW) (bt bc bk but:Nat) (q:List Int) (w:World) (hm:TownW w bt bc bk a1 a2 a3 a4 k1 k2 k3 k4 t but) (hv:PeOk t) (hq:PsOk q):
  Calls Tryz.prog 143 #[.pointer (some ⟨bt,0,none⟩),psV q] w fun e w'=>e=.returned (.bool (Zb2 t q))∧Below w.heap.size w w':=by
 have hnm:=hv.nm
 have hlm:=hm.town.okm.len
 obtain⟨X,hX⟩:∃X:World,X=(w.alloc (.cells (Zat q) 109)).alloc (.cells (Zat noOf) 109):=⟨_,rfl⟩
 have hps:X.heap[w.heap.size]?=some (.cells (Zat q) 109 (0,0)):=by rw[hX];exact(heap_alloc_old _ _ (by simp)).trans (Zac _ _ rfl)
 have hss:X.heap[w.heap.size+1]?=some (.cells (Zat noOf) 109 (0,0)):=by rw[hX];exact Zac _ _ (by simp)
 have hb0:Below w.heap.size w X:=by rw[hX];exact((Below.refl _ _).alloc (Nat.le_refl _) _).alloc (by simp) _
 have HX:=LH hX
 clear hX
 have hmX:=hm.below hb0
 have HMX:=LH (fun(V:World) (h:Below w.heap.size w V)=>hm.below h)
 have HSP:=LH (fun k (hk:k<t.ments.length)=>(show -1≤(Zal t k).par∧(Zal t k).par<t.ments.length from by
  have:=hv.ment k hk
  rw[Zba hk]
  omega))
 have HPQ:=LH (fun n=>hq.at n)
 have hB:=hb0
 have y4:=hmX.cells.2.2.2.2.1
 have yz:=hmX.bt_lt
 clear hm hv hb0 hmX hq
 go_enter Tryz.func143,Tryz.ntmps143
 go_upto_region 2 with(fail)
 rw[show(w.alloc (.cells #[.int .i64 (pAt q 0),.int .i64 (pAt q 1),.int .i64 (pAt q 2),.int .i64 (pAt q 3),.int .i64 (pAt q 4),.int .i64 (pAt q 5)] 109)).alloc (.cells #[.int .i64 0,.int .i64 0,.int .i64 0,.int .i64 0,.int .i64 0,.int .i64 0] 109)=X from HX.out.symm]
 go_wp2
 go_loopw [16] (fun i wr=>∃(k:Nat) (f:List Int),k≤t.ments.length∧i=.int .i64 (k:Int)∧Hid (Zbp t q k=some f)∧f.length=6∧wr.heap[w.heap.size]?=some (.cells (Zat q) 109 (0,0))∧wr.heap[w.heap.size+1]?=some (.cells (Zat f) 109 (0,0))∧Below w.heap.size w wr) (fun i _=>t.ments.length-(intOf i).toNat)
 case atStart=>exact⟨0,noOf,Nat.zero_le _,rfl,LH rfl,rfl,hps,hss,hB⟩
 case round=>
  clear hps hss hB y4 yz
  obtain⟨k,f,hk,rfl,HF,hfl,hps,hss,hb⟩:=hrel
  by_cases hkt:k<t.ments.length
  ·have hmr:=HMX.out _ hb
   obtain⟨b',off,ea,hb',l0,l1,l2,l3,l4⟩:=hmr.town.ments k hkt
   have hpar:=HSP.out k hkt
   have HPK:=LH (Zba hkt)
   generalize t.ments[k].spell=xs at l0
   generalize t.ments[k].vill=xv at l1
   generalize t.ments[k].lo=xl at l2
   generalize t.ments[k].hi=xh at l3
   rw[←HPK.out] at l4
   generalize hxp:(Zal t k).par=xp at l4 hpar
   have HXP:=LH hxp
   clear hxp
   obtain⟨V,hV⟩:∃V:World,V=wr.alloc (.cells #[.int .i64 xs,.int .i64 xv,.int .i64 xl,.int .i64 xh,.int .i64 xp] 38):=⟨_,rfl⟩
   have hbV:Below wr.heap.size wr V:=by rw[hV];exact(Below.refl _ _).alloc (Nat.le_refl _) _
   have hcV:V.heap[wr.heap.size]?=some (.cells #[.int .i64 xs,.int .i64 xv,.int .i64 xl,.int .i64 xh,.int .i64 xp] 38 (0,0)):=by rw[hV];exact Zac _ _ rfl
   have HV:=LH hV
   have hpV:=(hbV.block _ (lt_of_block hps)).trans hps
   have hsV:=(hbV.block _ (lt_of_block hss)).trans hss
   have HBV:=LH (hb.trans (hbV.mono hb.size))
   have hzw:=hb.size
   clear hV hbV hb hps hss
   go_upto_region 5 with(fail)
   rw[show wr.alloc (.cells #[.int .i64 xs,.int .i64 xv,.int .i64 xl,.int .i64 xh,.int .i64 xp] 38)=V from HV.out.symm]
   clear l0 l1 l2 l3 l4 ea hb' hmr
   have v3:=Zaa 4 hcV rfl
   have vz:=lt_of_block hcV
   simp only[List.getElem_toArray,List.getElem_cons_zero,List.getElem_cons_succ] at v3
   by_cases hx1:xp=-1
   ·have e1:(xp==-1)=true:=by simp[hx1]
    have HFN:=LH (Zuh HF.out (HXP.out.trans hx1))
    clear hx1
    go_wp2
    go_roundw
    case rel=>exact⟨k+1,f,by omega,by go_num,HFN,hfl,hpV,hsV,HBV.out⟩
    case measure=>simp[intOf];omega
   ·have e1:(xp==-1)=false:=by simpa using hx1
    obtain⟨np,rfl⟩:∃n:Nat,xp=(n:Int):=⟨xp.toNat,by omega⟩
    obtain⟨n0,hn0⟩:∃n:Nat,pAt q k=(n:Int):=⟨(pAt q k).toNat,by have:=HPQ.out k;omega⟩
    obtain⟨pp,hpp⟩:∃n:Nat,pAt q np=(n:Int):=⟨(pAt q np).toNat,by have:=HPQ.out np;omega⟩
    have hn6:n0<6:=by have:=HPQ.out k;omega
    have hp6:pp<6:=by have:=HPQ.out np;omega
    have HFN:=LH (Z0h HF.out HXP.out hn0 hpp)
    have p0:=Zcm hpV k (by omega)
    have p1:=Zcm hpV np (by omega)
    have pz:=lt_of_block hpV
    have s0:=Zcm hsV n0 hn6
    have sz:=lt_of_block hsV
    have sf:=Zad n0 hsV
    rw[hn0] at p0
    rw[hpp] at p1
    have HSV:=LH hsV
    have HPV:=LH hpV
    have HCV:=LH hcV
    have hk6:(k:Int)<6:=by omega
    have hnp6:(np:Int)<6:=by omega
    have hn6I:(n0:Int)<6:=by omega
    have hp6I:(pp:Int)<6:=by omega
    generalize hzz:pAt f n0=z at s0 HFN
    clear hzz hcV hpV hsV hx1 hn0 hpp
    go_upto_region 6 with(fail)
    go_quiet (fail)
    obtain⟨U,hU⟩:∃U:World,U=V.drewN nq:=⟨_,rfl⟩
    rw[←hU]
    have HBU:=LH (show Below w.heap.size w U from by rw[hU];exact Zan HBV.out _)
    have HPU:=LH (show U.heap[w.heap.size]?=some (.cells (Zat q) 109 (0,0)) from by rw[hU];exact HPV.out)
    have HSU:=LH (show U.heap[w.heap.size+1]?=some (.cells (Zat f) 109 (0,0)) from by rw[hU];exact HSV.out)
    replace s0:U.cell? ⟨w.heap.size+1,n0,none⟩=some (.int .i64 z):=by rw[hU,Zkw];exact s0
    replace sz:w.heap.size+1<U.heap.size:=by rw[hU];exact sz
    have sf2:U.frozen? ⟨w.heap.size+1,n0,none⟩=false:=Zad n0 HSU.out
    clear hU v3 vz p0 p1 pz sf
    by_cases c1:n0=pp
    ·have e2:((n0:Int)==(pp:Int))=true:=Zdv (by omega)
     have e3:(n0==pp)=true:=by simpa using c1
     have HF2:=LH (Zlt (t:=t) (q:=q) (k:=k+1) (by omega) (by rw[HFN.out,if_pos (.inl c1)]))
     clear c1
     go_wp2
     clear s0 sz sf2
     go_ret
     exact⟨by rw[HF2.out];rfl,HBU.out⟩
    ·have e2:((n0:Int)==(pp:Int))=false:=Zc4 (by omega)
     have e3:(n0==pp)=false:=by simpa using c1
     by_cases c2:z=0
     ·have e4:(z != 0)=false:=by simp[c2]
      have HF2:Hid (Zbp t q (k+1)=some (f.set n0 ((pp:Int)+1))):=LH (by rw[HFN.out,if_neg (fun h=>h.elim c1 (fun h=>h.1 c2))])
      clear c1 c2
      have HST:=LH (Zwr hfl HSU.out n0 ((pp:Int)+1))
      go_wp2
      go_roundw
      case rel=>exact⟨k+1,f.set n0 ((pp:Int)+1),by omega,by go_num,HF2,by rw[List.length_set];exact hfl,(Below.heap_setCell _ _ _ _ (by simp)).trans HPU.out,HST.out,HBU.out.setCell (by simp) _⟩
      case measure=>simp[intOf];omega
     ·have e4:(z != 0)=true:=by simpa using c2
      by_cases c3:z=(pp:Int)+1
      ·have e5:(z != (pp:Int)+1)=false:=by simp[c3]
       have HF2:Hid (Zbp t q (k+1)=some (f.set n0 ((pp:Int)+1))):=LH (by rw[HFN.out,if_neg (fun h=>h.elim c1 (fun h=>h.2 c3))])
       clear c1 c2 c3
       have HST:=LH (Zwr hfl HSU.out n0 ((pp:Int)+1))
       go_wp2
       go_roundw
       case rel=>exact⟨k+1,f.set n0 ((pp:Int)+1),by omega,by go_num,HF2,by rw[List.length_set];exact hfl,(Below.heap_setCell _ _ _ _ (by simp)).trans HPU.out,HST.out,HBU.out.setCell (by simp) _⟩
       case measure=>simp[intOf];omega
      ·have e5:(z != (pp:Int)+1)=true:=by simpa using c3
       have HF2:=LH (Zlt (t:=t) (q:=q) (k:=k+1) (by omega) (by rw[HFN.out,if_pos (.inr ⟨c2,c3⟩)]))
       clear c1 c2 c3
       go_wp2
       clear s0 sz sf2
       go_ret
       exact⟨by rw[HF2.out];rfl,HBU.out⟩
  ·obtain rfl:k=t.ments.length:=by omega
   have HE:=LH (Zre HF.out)
   go_wp2
   go_ret
   exact⟨by rw[HE.out];rfl,hb⟩
end
section
open Go Go.RowKit Go.Shelf
theorem Zfo (x y:Int) [Decidable (x<y)]:(if x<y then y else x)=max x y:=by split<;>omega
theorem Zfs (x y:Int) [Decidable (y<x)]:(if y<x then y else x)=min x y:=by split<;>omega
attribute [local go_sem] Zfo Zfs
theorem Zfv {W:World} {b:Nat} {ty:TypeId} {L:List (Int × Int)} (h:W.heap[b]?=some (.cells (Za3 L) ty (0,0))) (n:Nat) (hn:n<6):W.cell? ⟨b,n*2,none⟩=some (.int .i64 (bAt L n).1)∧W.cell? ⟨b,n*2+1,none⟩=some (.int .i64 (bAt L n).2):=by
 obtain rfl|rfl|rfl|rfl|rfl|rfl:n=0∨n=1∨n=2∨n=3∨n=4∨n=5:=by omega
 ·exact⟨Zaa 0 h rfl,Zaa 1 h rfl⟩
 ·exact⟨Zaa 2 h rfl,Zaa 3 h rfl⟩
 ·exact⟨Zaa 4 h rfl,Zaa 5 h rfl⟩
 ·exact⟨Zaa 6 h rfl,Zaa 7 h rfl⟩
 ·exact⟨Zaa 8 h rfl,Zaa 9 h rfl⟩
 ·exact⟨Zaa 10 h rfl,Zaa 11 h rfl⟩
theorem Zxf {W:World} {b:Nat} {ty:TypeId} {L:List (Int × Int)} (hL:L.length=6) (h:W.heap[b]?=some (.cells (Za3 L) ty (0,0))) (n:Nat) (hn:n<6) (v:Int × Int):((W.setCell ⟨b,n*2,none⟩ (.int .i64 v.1)).setCell ⟨b,n*2+1,none⟩ (.int .i64 v.2)).heap[b]?=some (.cells (Za3 (L.set n v)) ty (0,0)):=by
 rw[Zak (n*2+1) (.int .i64 v.2) (Zak (n*2) (.int .i64 v.1) h)]
 match L,hL with
 |[a0,a1,a2,a3,a4,a5],_=>
  obtain rfl|rfl|rfl|rfl|rfl|rfl:n=0∨n=1∨n=2∨n=3∨n=4∨n=5:=by omega
  all_goals rfl
theorem Zae {W:World} {b k j:Nat} {v:Value} (h:k≠b):(W.setCell ⟨b,j,none⟩ v).heap[k]?=W.heap[k]?:=Below.heap_setCell _ _ _ _ h
theorem Zf2 {w W:World} {b j:Nat} {v:Value} (h:w.grownBy W (some b)):w.grownBy (W.setCell ⟨b,j,none⟩ v) (some b):=
 ⟨h.os,h.tape,h.output,by simpa using h.size,fun i hi hr=>(Zae (fun e=>hr (by rw[e]))).trans (h.block i hi hr)⟩
theorem Zpl {w W:World} {row:Option Nat} (h:w.grownBy W row):w.grownBy W.drew row:=⟨h.os,h.tape,h.output,h.size,h.block⟩
def Bnd (m:Int) (L:List (Int × Int)):Prop:=∀i,i<6→-m≤(bAt L i).1∧(bAt L i).1≤199+m∧-m≤(bAt L i).2∧(bAt L i).2≤199+m
theorem Zgu {L:List (Int × Int)} {n i:Nat} (v:Int × Int) (hn:n<L.length):bAt (L.set n v) i=if i=n then v else bAt L i:=by
 unfold bAt
 rw[List.getElem?_set]
 by_cases e:n=i
 ·subst e;simp[hn]
 ·rw[if_neg e,if_neg (fun h=>e h.symm)]
theorem Zwy {L:List (Int × Int)} (hL:L.length=6) (p c:Nat):(fewB L p c).1.length=6:=by simp[fewB,hL]
theorem Z58 {L:List (Int × Int)} {m:Int} (hL:L.length=6) (h:Bnd m L) (hm:0≤m) {p c:Nat} (hp:p<6) (hc:c<6):Bnd (m+15) (fewB L p c).1:=by
 intro i hi
 have h1:=h p hp
 have h2:=h c hc
 have h3:=h i hi
 unfold fewB
 simp only
 rw[Zgu _ (by rw[List.length_set];omega),Zgu _ (by omega)]
 unfold Zum Zhm
 by_cases e1:i=c
 ·rw[if_pos e1];simp only;omega
 ·rw[if_neg e1]
  by_cases e2:i=p
  ·rw[if_pos e2];simp only;omega
  ·rw[if_neg e2];omega
theorem Zy6 (pb p c:Nat) (L:List (Int × Int)) (w:World) (hb:w.heap[pb]?=some (.cells (Za3 L) 154 (0,0))) (hL:L.length=6) (hB:Bnd 285 L) (hp:p<6) (hc:c<6):
  Calls Tryz.prog 125 #[.pointer (some ⟨pb,0,none⟩),.int .i64 (p:Int),.int .i64 (c:Int)] w fun e w'=>e=.returned (.bool (fewB L p c).2)∧w'.heap[pb]?=some (.cells (Za3 (fewB L p c).1) 154 (0,0))∧w.grownBy w' (some pb):=by
 obtain⟨x0,x1⟩:=Zfv hb p hp
 obtain⟨y0,y1⟩:=Zfv hb c hc
 have bz:=lt_of_block hb
 have h1:=hB p hp
 have h2:=hB c hc
 have hpI:(p:Int)<6:=by omega
 have hcI:(c:Int)<6:=by omega
 generalize hx:bAt L p=x at x0 x1 h1
 generalize hy:bAt L c=y at y0 y1 h2
 obtain⟨xl,xh⟩:=x
 obtain⟨yl,yh⟩:=y
 simp only at x0 x1 y0 y1 h1 h2
 have HXY:=LH (⟨hx,hy⟩:bAt L p=(xl,xh)∧bAt L c=(yl,yh))
 have HB:=LH hb
 clear hx hy hb hB
 go_enter Tryz.func125,Tryz.ntmps125
 go_upto_region 1 with(fail)
 go_cut [7,8] from 7 to 20 (fun u v W=>∃p7 p8:Nat,u=.pointer (some ⟨p7,0,none⟩)∧v=.pointer (some ⟨p8,0,none⟩)∧p7≠p8∧w.heap.size≤p7∧w.heap.size≤p8∧Below w.heap.size w W∧W.heap[p7]?=some (.cells #[.int .i64 xl,.int .i64 xh] 36 (0,0))∧W.heap[p8]?=some (.cells #[.int .i64 yl,.int .i64 yh] 36 (0,0)))
 case first=>
  (focus go_region)
  all_goals
   go_wp2
   go_meet
   case rel=>
    first
    |exact⟨_,_,rfl,rfl,by omega,by omega,by omega,Zah (((Below.refl _ _).alloc (Nat.le_refl _) _).alloc (by simp) _),(heap_alloc_old _ _ (by simp)).trans (Zac _ _ rfl),Zac _ _ (by simp)⟩
    |exact⟨_,_,rfl,rfl,by omega,by omega,by omega,Zah (((Below.refl _ _).alloc (Nat.le_refl _) _).alloc (by simp) _),Zac _ _ (by simp),(heap_alloc_old _ _ (by simp)).trans (Zac _ _ rfl)⟩
 case rest=>
  obtain⟨p7,p8,rfl,rfl,hne,hz7,hz8,hb1,h7,h8⟩:=hcut
  rename World=>V
  have a0:=Zaa 0 h7 rfl
  have a1:=Zaa 1 h7 rfl
  have b0:=Zaa 0 h8 rfl
  have b1:=Zaa 1 h8 rfl
  have az:=lt_of_block h7
  have b8z:=lt_of_block h8
  simp only[List.getElem_toArray,List.getElem_cons_zero,List.getElem_cons_succ] at a0 a1 b0 b1
  have hbV:=(hb1.block _ bz).trans HB.out
  clear x0 x1 y0 y1
  go_upto_region 4 with(fail)
  have HF:Hid (fewB L p c=((L.set p (max xl (yl-60),min xh (yh-15))).set c (max yl (xl+15),min yh (xh+60)),decide (((max xl (yl-60),min xh (yh-15)):Int × Int)≠(xl,xh))||decide (((max yl (xl+15),min yh (xh+60)):Int × Int)≠(yl,yh)))):=LH (by
   unfold fewB Zum Zhm
   rw[HXY.out.1,HXY.out.2])
  have o1:-300≤max xl (yl-60)∧max xl (yl-60)≤500:=by omega
  have o2:-300≤min xh (yh-15)∧min xh (yh-15)≤500:=by omega
  have o3:-300≤max yl (xl+15)∧max yl (xl+15)≤500:=by omega
  have o4:-300≤min yh (xh+60)∧min yh (xh+60)≤500:=by omega
  generalize max xl (yl-60)=ol at *
  generalize min xh (yh-15)=oh at *
  generalize max yl (xl+15)=ul at *
  generalize min yh (xh+60)=uh at *
  obtain⟨Z,hZ⟩:∃Z:World,Z=(V.alloc (.cells #[.int .i64 ol,.int .i64 oh] 36)).alloc (.cells #[.int .i64 ul,.int .i64 uh] 36):=⟨_,rfl⟩
  rw[←hZ]
  have hbZ:Below V.heap.size V Z:=by rw[hZ];exact((Below.refl _ _).alloc (Nat.le_refl _) _).alloc (by simp) _
  have hO:Z.heap[V.heap.size]?=some (.cells #[.int .i64 ol,.int .i64 oh] 36 (0,0)):=by rw[hZ];exact(heap_alloc_old _ _ (by simp)).trans (Zac _ _ rfl)
  have hU:Z.heap[V.heap.size+1]?=some (.cells #[.int .i64 ul,.int .i64 uh] 36 (0,0)):=by rw[hZ];exact Zac _ _ (by simp)
  have h7Z:=(hbZ.block _ (lt_of_block h7)).trans h7
  have h8Z:=(hbZ.block _ (lt_of_block h8)).trans h8
  have hbb:=(hbZ.block _ (lt_of_block hbV)).trans hbV
  have hGZ:w.grownBy Z (some pb):=⟨(hb1.trans (hbZ.mono hb1.size)).os,(hb1.trans (hbZ.mono hb1.size)).tape,(hb1.trans (hbZ.mono hb1.size)).output,(hb1.trans (hbZ.mono hb1.size)).size,fun i hi _=>(hb1.trans (hbZ.mono hb1.size)).block i hi⟩
  have hVz:=hb1.size
  have HGZ:=LH hGZ
  have HBB:=LH hbb
  have HO:=LH hO
  have HU:=LH hU
  have H7:=LH h7Z
  have H8:=LH h8Z
  have H1:=LH h1
  have H2:=LH h2
  clear hZ hbZ h7 h8 hbV hb1 a0 a1 b0 b1 az b8z h1 h2
  have q0:=Zaa 0 hO rfl
  have q1:=Zaa 1 hO rfl
  have qz:=lt_of_block hO
  have bz2:=lt_of_block hbb
  have e0:=(Zfv hbb p hp).1
  have e1:=(Zfv hbb p hp).2
  have f0:=Zad (p*2) hbb
  have f1:=Zad (p*2+1) hbb
  simp only[List.getElem_toArray,List.getElem_cons_zero,List.getElem_cons_succ] at q0 q1
  clear hO hU h7Z h8Z hbb hGZ
  (focus go_region)
  obtain⟨Y,hY⟩:∃Y:World,Y=((Z.setCell ⟨pb,p*2,none⟩ (.int .i64 ol)).setCell ⟨pb,p*2+1,none⟩ (.int .i64 oh)).drew:=⟨_,rfl⟩
  rw[←hY]
  have hbY:Y.heap[pb]?=some (.cells (Za3 (L.set p (ol,oh))) 154 (0,0)):=by rw[hY];exact Zxf hL HBB.out p hp (ol,oh)
  have hoY:∀k,k≠pb→Y.heap[k]?=Z.heap[k]?:=fun k hk=>by rw[hY];exact(Zae hk).trans (Zae hk)
  have HGY:=LH (show w.grownBy Y (some pb) from by rw[hY];exact Zpl (Zf2 (Zf2 HGZ.out)))
  have HOY:=LH ((hoY V.heap.size (by omega)).trans HO.out)
  have HUY:=LH ((hoY (V.heap.size+1) (by omega)).trans HU.out)
  have H7Y:=LH ((hoY p7 (by omega)).trans H7.out)
  have H8Y:=LH ((hoY p8 (by omega)).trans H8.out)
  have HBY:=LH hbY
  clear hY hoY q0 q1 qz bz2 e0 e1 f0 f1 HO HU H7 H8 HGZ HBB
  have hL2:(L.set p (ol,oh)).length=6:=by rw[List.length_set];exact hL
  have q0:=Zaa 0 HUY.out rfl
  have q1:=Zaa 1 HUY.out rfl
  have qz:=lt_of_block HUY.out
  have bz2:=lt_of_block hbY
  have e0:=(Zfv hbY c hc).1
  have e1:=(Zfv hbY c hc).2
  have f0:=Zad (c*2) hbY
  have f1:=Zad (c*2+1) hbY
  simp only[List.getElem_toArray,List.getElem_cons_zero,List.getElem_cons_succ] at q0 q1
  clear hbY
  go_upto_region 5 with(fail)
  (focus go_region)
  obtain⟨U,hU2⟩:∃U:World,U=((Y.setCell ⟨pb,c*2,none⟩ (.int .i64 ul)).setCell ⟨pb,c*2+1,none⟩ (.int .i64 uh)).drew:=⟨_,rfl⟩
  rw[←hU2]
  have hbU:U.heap[pb]?=some (.cells (Za3 ((L.set p (ol,oh)).set c (ul,uh))) 154 (0,0)):=by rw[hU2];exact Zxf hL2 HBY.out c hc (ul,uh)
  have hoU:∀k,k≠pb→U.heap[k]?=Y.heap[k]?:=fun k hk=>by rw[hU2];exact(Zae hk).trans (Zae hk)
  have HGU:=LH (show w.grownBy U (some pb) from by rw[hU2];exact Zpl (Zf2 (Zf2 HGY.out)))
  have hOU:=(hoU V.heap.size (by omega)).trans HOY.out
  have hUU:=(hoU (V.heap.size+1) (by omega)).trans HUY.out
  have h7U:=(hoU p7 (by omega)).trans H7Y.out
  have h8U:=(hoU p8 (by omega)).trans H8Y.out
  clear hU2 hoU q0 q1 qz bz2 e0 e1 f0 f1 HOY HUY H7Y H8Y HGY HBY
  have r0:=Zaa 0 hOU rfl
  have r1:=Zaa 1 hOU rfl
  have rz:=lt_of_block hOU
  have s0:=Zaa 0 hUU rfl
  have s1:=Zaa 1 hUU rfl
  have sz:=lt_of_block hUU
  have t0:=Zaa 0 h7U rfl
  have t1:=Zaa 1 h7U rfl
  have tz:=lt_of_block h7U
  have v0:=Zaa 0 h8U rfl
  have v1:=Zaa 1 h8U rfl
  have vz:=lt_of_block h8U
  simp only[List.getElem_toArray,List.getElem_cons_zero,List.getElem_cons_succ] at r0 r1 s0 s1 t0 t1 v0 v1
  have HBU:=LH hbU
  have h1:=H1.out
  have h2:=H2.out
  have E1:=LH (fun W=>Zmm (a:=ol) (b:=oh) (c:=xl) (d:=xh) ⟨by omega,by omega⟩ ⟨by omega,by omega⟩ ⟨by omega,by omega⟩ ⟨by omega,by omega⟩ W)
  have E2:=LH (fun W=>Zmm (a:=ul) (b:=uh) (c:=yl) (d:=yh) ⟨by omega,by omega⟩ ⟨by omega,by omega⟩ ⟨by omega,by omega⟩ ⟨by omega,by omega⟩ W)
  clear hbU hOU hUU h7U h8U h1 h2
  by_cases c1:ol=xl∧oh=xh
  ·have hq1:=E1.out
   rw[decide_eq_true c1] at hq1
   have hq2:=E2.out
   have HB2:Hid ((fewB L p c).2=!decide (ul=yl∧uh=yh)):=LH (by
    rw[HF.out]
    simp only[c1.1,c1.2]
    simp[Prod.ext_iff])
   generalize decide (ul=yl∧uh=yh)=dd at hq2 HB2
   clear c1 E1 E2
   go_wp2
   go_ret
   exact⟨Zaq (by rw[HB2.out]),by rw[HF.out];exact HBU.out,HGU.out⟩
  ·have hq1:=E1.out
   rw[decide_eq_false c1] at hq1
   have HB2:Hid ((fewB L p c).2=true):=LH (by
    rw[HF.out]
    simp only[Bool.or_eq_true,decide_eq_true_eq]
    exact .inl (fun e=>c1 ⟨congrArg Prod.fst e,congrArg Prod.snd e⟩))
   clear c1 E1 E2
   go_wp2
   go_ret
   exact⟨Zaq (by rw[HB2.out]),by rw[HF.out];exact HBU.out,HGU.out⟩
end
section
def wid (L:List (Int × Int)):Int:=((bAt L 0).2-(bAt L 0).1)+((bAt L 1).2-(bAt L 1).1)+((bAt L 2).2-(bAt L 2).1)+((bAt L 3).2-(bAt L 3).1)+((bAt L 4).2-(bAt L 4).1)+((bAt L 5).2-(bAt L 5).1)
def Nar (L L':List (Int × Int)):Prop:=∀i,i<6→(bAt L i).1≤(bAt L' i).1∧(bAt L' i).2≤(bAt L i).2
theorem Zxg (L:List (Int × Int)):Nar L L:=fun i _=>⟨Int.le_refl _,Int.le_refl _⟩
theorem Zmz {A B C:List (Int × Int)} (h:Nar A B) (k:Nar B C):Nar A C:=fun i hi=>⟨Int.le_trans (h i hi).1 (k i hi).1,Int.le_trans (k i hi).2 (h i hi).2⟩
theorem Znr {L L':List (Int × Int)} (h:Nar L L'):wid L'≤wid L:=by
 have h0:=h 0 (by omega)
 have h1:=h 1 (by omega)
 have h2:=h 2 (by omega)
 have h3:=h 3 (by omega)
 have h4:=h 4 (by omega)
 have h5:=h 5 (by omega)
 unfold wid
 omega
theorem Z3y {L L':List (Int × Int)} (h:Nar L L') {i:Nat} (hi:i<6) (hs:(bAt L i).1<(bAt L' i).1∨(bAt L' i).2<(bAt L i).2):wid L'<wid L:=by
 have h0:=h 0 (by omega)
 have h1:=h 1 (by omega)
 have h2:=h 2 (by omega)
 have h3:=h 3 (by omega)
 have h4:=h 4 (by omega)
 have h5:=h 5 (by omega)
 unfold wid
 obtain rfl|rfl|rfl|rfl|rfl|rfl:i=0∨i=1∨i=2∨i=3∨i=4∨i=5:=by omega
 all_goals omega
theorem Zi9 {L:List (Int × Int)} (hL:L.length=6) {p c:Nat} (hp:p<6) (hc:c<6) (i:Nat):bAt (fewB L p c).1 i=if i=c then Zhm (bAt L p) (bAt L c) else if i=p then Zum (bAt L p) (bAt L c) else bAt L i:=by
 unfold fewB
 simp only
 rw[Zgu _ (by rw[List.length_set];omega),Zgu _ (by omega)]
theorem Zj3 {L:List (Int × Int)} (hL:L.length=6) {p c:Nat} (hp:p<6) (hc:c<6):Nar L (fewB L p c).1:=by
 intro i hi
 rw[Zi9 hL hp hc]
 unfold Zum Zhm
 by_cases e1:i=c
 ·subst e1;rw[if_pos rfl];simp only;omega
 ·rw[if_neg e1]
  by_cases e2:i=p
  ·subst e2;rw[if_pos rfl];simp only;omega
  ·rw[if_neg e2];omega
theorem Z7x {L:List (Int × Int)} (hL:L.length=6) {p c:Nat} (hp:p<6) (hc:c<6) (h:(fewB L p c).2=true):wid (fewB L p c).1<wid L:=by
 have hn:=Zj3 hL hp hc
 by_cases e:p=c
 ·subst e
  refine Z3y hn hp (.inl ?_)
  rw[Zi9 hL hp hc,if_pos rfl]
  unfold Zhm
  simp only
  omega
 ·unfold fewB at h
  simp only[Bool.or_eq_true,decide_eq_true_eq] at h
  rcases h with h|h
  ·refine Z3y hn hp ?_
   rw[Zi9 hL hp hc,if_neg e,if_pos rfl]
   have h1:=(Zj3 hL hp hc) p hp
   rw[Zi9 hL hp hc,if_neg e,if_pos rfl] at h1
   apply Classical.byContradiction
   intro h2
   exact h (Prod.ext (by omega) (by omega))
  ·refine Z3y hn hc ?_
   rw[Zi9 hL hp hc,if_pos rfl]
   have h1:=(Zj3 hL hp hc) c hc
   rw[Zi9 hL hp hc,if_pos rfl] at h1
   apply Classical.byContradiction
   intro h2
   exact h (Prod.ext (by omega) (by omega))
structure YearI (t:PeW) (q:List Int) (L:List (Int × Int)) (k:Nat):Prop where
 len:(Za4 t q L k).1.length=6
 nar:Nar L (Za4 t q L k).1
 less:(Za4 t q L k).2=true→wid (Za4 t q L k).1<wid L
 bnd:Bnd (15*k) (Za4 t q L k).1
theorem Zro {t:PeW} {q:List Int} {L:List (Int × Int)} (hL:L.length=6) (hb:Bnd 0 L):YearI t q L 0:=⟨hL,Zxg L,fun h=>absurd h (by simp[Za4]),by intro i hi;have:=hb i hi;simp only[Za4];omega⟩
theorem Zdp {t:PeW} {q:List Int} {L:List (Int × Int)} {k:Nat} (h:(Zal t k).par=-1):Za4 t q L (k+1)=Za4 t q L k:=by rw[Za4,if_pos h]
theorem Zib {t:PeW} {q:List Int} {L:List (Int × Int)} {k np n0 pp:Nat} (h:(Zal t k).par=(np:Int)) (hq:pAt q k=(n0:Int)) (hr:pAt q np=(pp:Int)):
  Za4 t q L (k+1)=((fewB (Za4 t q L k).1 pp n0).1,(Za4 t q L k).2||(fewB (Za4 t q L k).1 pp n0).2):=by
 rw[Za4,if_neg (by omega),h,Int.toNat_natCast,hr,hq,Int.toNat_natCast,Int.toNat_natCast]
theorem YearI.skip {t:PeW} {q:List Int} {L:List (Int × Int)} {k:Nat} (y:YearI t q L k) (h:(Zal t k).par=-1):YearI t q L (k+1):=by
 obtain⟨h1,h2,h3,h4⟩:=y
 refine⟨by rw[Zdp h];exact h1,by rw[Zdp h];exact h2,by rw[Zdp h];exact h3,?_⟩
 rw[Zdp h]
 intro i hi
 have:=h4 i hi
 omega
theorem YearI.own {t:PeW} {q:List Int} {L:List (Int × Int)} {k np n0 pp:Nat} (y:YearI t q L k) (h:(Zal t k).par=(np:Int)) (hq:pAt q k=(n0:Int)) (hr:pAt q np=(pp:Int)) (hn:n0<6) (hp:pp<6):YearI t q L (k+1):=by
 obtain⟨h1,h2,h3,h4⟩:=y
 have e:=Zib (L:=L) h hq hr
 have hnar:=Zj3 h1 hp hn
 refine⟨by rw[e];exact Zwy h1 _ _,by rw[e];exact Zmz h2 hnar,fun hh=>?_,?_⟩
 ·rw[e] at hh ⊢
  simp only[Bool.or_eq_true] at hh ⊢
  rcases hh with hh|hh
  ·have:=h3 hh
   have:=Znr hnar
   omega
  ·have:=Z7x h1 hp hn hh
   have:=Znr h2
   omega
 ·rw[e]
  have:=Z58 h1 h4 (by omega) hp hn
  simp only
  intro i hi
  have:=this i hi
  omega
theorem Zfb {L:List (Int × Int)} (hL:L.length=6):Zet L=false↔∀i,i<6→(bAt L i).1≤(bAt L i).2:=by
 unfold Zet
 rw[List.any_eq_false]
 constructor
 ·intro h i hi
  have:=h L[i] (List.getElem_mem (by omega))
  unfold bAt
  rw[List.getElem?_eq_getElem (by omega),Option.getD_some]
  simpa using this
 ·intro h s hs
  obtain⟨i,hi,rfl⟩:=List.getElem_of_mem hs
  have:=h i (by omega)
  unfold bAt at this
  rw[List.getElem?_eq_getElem hi,Option.getD_some] at this
  simpa using this
theorem YearI.bnd0 {t:PeW} {q:List Int} {L:List (Int × Int)} {k:Nat} (y:YearI t q L k) (hb:Bnd 0 L) (he:Zet (Za4 t q L k).1=false):Bnd 0 (Za4 t q L k).1:=by
 have h:=(Zfb y.len).1 he
 intro i hi
 have h1:=h i hi
 have h2:=y.nar i hi
 have h3:=hb i hi
 omega
theorem YearI.wid0 {t:PeW} {q:List Int} {L:List (Int × Int)} {k:Nat} (y:YearI t q L k) (he:Zet (Za4 t q L k).1=false):0≤wid (Za4 t q L k).1:=by
 have h:=(Zfb y.len).1 he
 have h0:=h 0 (by omega)
 have h1:=h 1 (by omega)
 have h2:=h 2 (by omega)
 have h3:=h 3 (by omega)
 have h4:=h 4 (by omega)
 have h5:=h 5 (by omega)
 unfold wid
 omega
structure YearR (t:PeW) (q:List Int) (L:List (Int × Int)) (more:Bool):Prop where
 len:L.length=6
 bnd:Bnd 0 L
 go:more=true→∃f:Nat,Zbr t q=Zhc t q f L∧wid L+1≤(f:Int)∧1≤f
 stop:more=false→Zbr t q=some L∧0≤wid L
theorem YearR.next {t:PeW} {q:List Int} {L:List (Int × Int)} (r:YearR t q L true) (y:YearI t q L t.ments.length) (he:Zet (Za4 t q L t.ments.length).1=false):
  YearR t q (Za4 t q L t.ments.length).1 (Za4 t q L t.ments.length).2∧wid (Za4 t q L t.ments.length).1≤wid L∧0≤wid (Za4 t q L t.ments.length).1∧((Za4 t q L t.ments.length).2=true→wid (Za4 t q L t.ments.length).1<wid L):=by
 obtain⟨f,h1,h2,h3⟩:=r.go rfl
 have h0:=y.wid0 he
 obtain⟨g,rfl⟩:∃g,f=g+1:=⟨f-1,by omega⟩
 rw[Zhc,if_neg (by rw[he];simp)] at h1
 refine⟨⟨y.len,y.bnd0 r.bnd he,fun hm=>?_,fun hm=>?_⟩,Znr y.nar,h0,y.less⟩
 ·rw[if_pos hm] at h1
  have:=y.less hm
  exact⟨g,h1,by omega,by omega⟩
 ·rw[if_neg (by rw[hm];simp)] at h1
  exact⟨h1,h0⟩
theorem YearR.none {t:PeW} {q:List Int} {L:List (Int × Int)} (r:YearR t q L true) (he:Zet (Za4 t q L t.ments.length).1=true):Zbr t q=none:=by
 obtain⟨f,h1,h2,h3⟩:=r.go rfl
 obtain⟨g,rfl⟩:∃g,f=g+1:=⟨f-1,by omega⟩
 rw[Zhc,if_pos he] at h1
 exact h1
theorem Z7v:Bnd 0 Zmk:=by
 intro i hi
 obtain rfl|rfl|rfl|rfl|rfl|rfl:i=0∨i=1∨i=2∨i=3∨i=4∨i=5:=by omega
 all_goals decide
theorem Z77:wid Zmk≤1194:=by decide
theorem Zmj {t:PeW} {q:List Int}:∀k,(Zbd t q k).length=6∧((∀i,i<6→pAt q i<6∧0≤pAt q i)→k≤t.ments.length→PeOk t→Bnd 0 (Zbd t q k)∧wid (Zbd t q k)≤1194)
 |0=>⟨rfl,fun _ _ _=>⟨Z7v,Z77⟩⟩
 |k+1=>by
  obtain⟨h1,h2⟩:=Zmj (t:=t) (q:=q) k
  refine⟨by rw[Zbd,List.length_set];exact h1,fun hq hk hv=>?_⟩
  obtain⟨h3,h4⟩:=h2 hq (by omega) hv
  have hm:=hv.ment k (by omega)
  have hnm:=hv.nm
  have hqk:=hq k (by omega)
  rw[Zbd,Zba (by omega)]
  obtain⟨n,hn⟩:∃n:Nat,pAt q k=(n:Int):=⟨(pAt q k).toNat,by omega⟩
  rw[hn,Int.toNat_natCast]
  have hn6:n<6:=by omega
  have hnr:Nar (Zbd t q k) ((Zbd t q k).set n (max (bAt (Zbd t q k) n).1 t.ments[k].lo,min (bAt (Zbd t q k) n).2 t.ments[k].hi)):=by
   intro i hi
   rw[Zgu _ (by omega)]
   by_cases e:i=n
   ·subst e;rw[if_pos rfl];simp only;omega
   ·rw[if_neg e];omega
  refine⟨?_,by have:=Znr hnr;omega⟩
  intro i hi
  have h5:=h3 i hi
  have h6:=h3 n hn6
  rw[Zgu _ (by omega)]
  by_cases e:i=n
  ·subst e;rw[if_pos rfl];simp only;omega
  ·rw[if_neg e];omega
theorem Zyn {t:PeW} {q:List Int} (hv:PeOk t) (hq:PsOk q):YearR t q (Zbd t q t.ments.length) true:=by
 obtain⟨h1,h2⟩:=Zmj (t:=t) (q:=q) t.ments.length
 obtain⟨h3,h4⟩:=h2 (fun i _=>⟨(hq.at i).2,(hq.at i).1⟩) (Nat.le_refl _) hv
 exact⟨h1,h3,fun _=>⟨1300,rfl,by omega,by omega⟩,fun h=>by cases h⟩
end
end Go.Proofs.YtklconegomgjaaaGreat
