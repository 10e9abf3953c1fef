/- What is proved here: the contract of named of the reference of layer 3: mentions that it lets be of one person have a sound string in common, and no unlike villages. Conditions: the town can be looked at; mentions in range. -/
import Derived.Test.YtklconegomgjaaaGreatPyFG
import Derived.Test.YtklconegomgjaaaGreatErEG
import Derived.Test.YtklconegomgjaaaGreatPeWhoB
set_option linter.all false
set_option maxRecDepth 100000
set_option maxHeartbeats 16000000
namespace Go.Proofs.YtklconegomgjaaaGreat
section
open Go Go.RowKit Go.Shelf
attribute [local go_sem] Zfo Zfs
def spL (t:PeW) (l:List Int) (n:Nat):List Int:=(l.take n).map fun x=>(Zal t x.toNat).spell
theorem Zrb {t:PeW} {l:List Int} {n:Nat} (h:n≤l.length):(spL t l n).length=n:=by unfold spL;rw[List.length_map,List.length_take];omega
theorem Z6e {t:PeW} {l:List Int} {n:Nat} (h:n<l.length):spL t l (n+1)=spL t l n++[(Zal t l[n].toNat).spell]:=by
 unfold spL
 rw[List.take_succ_eq_append_getElem h,List.map_append]
 rfl
theorem Z6z {t:PeW} {l:List Int} {j:Nat} (h:j<(spL t l l.length).length):(spL t l l.length)[j]=(Zal t (l[j]'(by rw[Zrb (Nat.le_refl _)] at h;exact h)).toNat).spell:=by
 unfold spL
 simp
structure NamX (t:PeW) (l:List Int):Prop where
 vill:∀i j (hi:i<l.length) (hj:j<l.length),(Zal t l[i].toNat).vill≠-1→(Zal t l[j].toNat).vill≠-1→(Zal t l[i].toNat).vill=(Zal t l[j].toNat).vill
 com:l.length<2∨∃h,∀i (hi:i<l.length),h∈Zck t.ear (spOf t l[i].toNat)
def Z8a (t:PeW) (l:List Int) (w:World) (e:Ending) (w':World):Prop:=∃r,e=.returned (.bool r)∧Hid (r=true→NamX t l)∧Below w.heap.size w w'
theorem Z3l {t:PeW} {l:List Int} {vg:Int} (h:∀j (hj:j<l.length),j<l.length→(Zal t l[j].toNat).vill≠-1→(Zal t l[j].toNat).vill=vg) (hc:l.length<2∨∃h,∀i (hi:i<l.length),h∈Zck t.ear (spOf t l[i].toNat)):NamX t l:=
 ⟨fun i j hi hj h1 h2=>(h i hi hi h1).trans (h j hj hj h2).symm,hc⟩
theorem Z9a {t:PeW} {l:List Int} {f:Nat→Bool} (s:ShX t.ear (spL t l l.length) (spL t l l.length).length f) (h:∃c,f c=true):∃h,∀i (hi:i<l.length),h∈Zck t.ear (spOf t l[i].toNat):=by
 obtain⟨c,hc⟩:=h
 obtain⟨_,g,_,hg⟩:=s c hc
 refine⟨g,fun i hi=>?_⟩
 have h1:i<(spL t l l.length).length:=by rw[Zrb (Nat.le_refl _)];exact hi
 have:=hg i h1 h1
 rw[Z6z h1] at this
 exact this
theorem Zzl (a1 a2 a3 a4:Option Addr) (k1 k2 k3 k4:Nat) (t:PeW) (a:Option Addr) (l:List Int) (k:Nat) (w:World) (hm:TownC w a1 a2 a3 a4 k1 k2 k3 k4 t) (hv:PeOk t) (ho:SlOk a l.length k) (hi:Zaw w a l) (hl6:l.length≤6) (hls:∀j (hj:j<l.length),0≤l[j]∧l[j]<t.ments.length):
  Calls Tryz.prog 98 #[(.agg #[.int .i64 t.ear.sounds,.slice a1 t.ear.alphas.length k1,.slice a2 t.ear.spells.length k2,.int .i64 t.vills,.slice a3 t.ments.length k3,.slice a4 t.ties.length k4]),.slice a l.length k] w (Z8a t l w):=by
 have l1:=hm.book.oka.len
 have l2:=hm.book.oks.len
 have l3:=hm.okm.len
 have l4:=hm.okt.len
 have ll:=ho.len
 obtain⟨Y,hY⟩:∃Y:World,Y=(w.alloc (.cells #[.int .i64 t.ear.sounds,.slice a1 t.ear.alphas.length k1,.slice a2 t.ear.spells.length k2,.int .i64 t.vills,.slice a3 t.ments.length k3,.slice a4 t.ties.length k4] 29)):=⟨_,rfl⟩
 have hbY:Below w.heap.size w Y:=by rw[hY];exact(Below.refl _ _).alloc (Nat.le_refl _) _
 have hB1:Y.heap[w.heap.size]?=some (.cells #[.int .i64 t.ear.sounds,.slice a1 t.ear.alphas.length k1,.slice a2 t.ear.spells.length k2,.int .i64 t.vills,.slice a3 t.ments.length k3,.slice a4 t.ties.length k4] 29 (0,0)):=by rw[hY];exact Zac _ _ rfl
 have HY:=LH hY
 clear hY
 have HM:=LH (hm.mono hbY)
 have HI:=LH (hi.mono hbY)
 have HBY:=LH hbY
 have HV:=LH hv
 have HLS:=LH hls
 clear hm hi hbY hv hls
 have KE:Hid (∀V,Below Y.heap.size Y V→(V.cell? ⟨w.heap.size,0,none⟩=some (.int .i64 t.ear.sounds)∧V.cell? ⟨w.heap.size,1,none⟩=some (.slice a1 t.ear.alphas.length k1)∧V.cell? ⟨w.heap.size,2,none⟩=some (.slice a2 t.ear.spells.length k2)∧V.cell? ⟨w.heap.size,4,none⟩=some (.slice a3 t.ments.length k3)∧w.heap.size<V.heap.size)):=LH (fun V h=>by
  have q1:=(h.block _ (lt_of_block hB1)).trans hB1
  exact⟨Zaa 0 q1 rfl,Zaa 1 q1 rfl,Zaa 2 q1 rfl,Zaa 4 q1 rfl,lt_of_block q1⟩)
 clear hB1
 go_enter Tryz.func98,Tryz.ntmps98
 go_upto_region 1 with(fail)
 rw[←HY.out]
 go_upto_region 4 with(fail)
 go_loopw [5,6,7] (fun o vg i V=>∃(n:Nat) (g:Int),n≤l.length∧i=.int .i64 n∧vg=.int .i64 g∧-1≤g∧g≤3∧V.ownsRow Y.heap.size 3 1 o n ((spL t l n).map (Value.int .i64))∧Hid (∀j (hj:j<l.length),j<n→(Zal t l[j].toNat).vill≠-1→(Zal t l[j].toNat).vill=g)∧Below Y.heap.size Y V) (fun _ _ i _=>l.length-(intOf i).toNat)
 case atStart=>exact⟨0,-1,Nat.zero_le _,rfl,rfl,by decide,by decide,World.ownsRow_nil _ _ _ _,LH (fun j _ h=>absurd h (Nat.not_lt_zero j)),Below.refl _ _⟩
 case round=>
  rename World=>V
  obtain⟨n,g,hn,rfl,rfl,hg1,hg2,hown,HVL,hbV⟩:=hrel
  by_cases hlt:n<l.length
  ·obtain⟨bi,oi,hae,hbi,c0⟩:=(HI.out.mono hbV) n hlt
   obtain⟨s0,s1⟩:=HLS.out n hlt
   have HST:=LH (Z6e (t:=t) hlt)
   have HVN:=LH (show ∀g',(∀j (hj:j<l.length),j<n→(Zal t l[j].toNat).vill≠-1→(Zal t l[j].toNat).vill=g')→((Zal t l[n].toNat).vill≠-1→(Zal t l[n].toNat).vill=g')→∀j (hj:j<l.length),j<n+1→(Zal t l[j].toNat).vill≠-1→(Zal t l[j].toNat).vill=g' from fun g' h1 h2 j hj hj1=>if hjn:j<n then h1 j hj hjn else (by have e:j=n:=(by omega);subst e;exact h2))
   obtain⟨s,hs⟩:∃s:Nat,l[n]=(s:Int):=⟨l[n].toNat,by omega⟩
   rw[hs] at c0 s0 s1 HST HVN
   rw[Int.toNat_natCast] at HST HVN
   have hs':s<t.ments.length:=by omega
   obtain⟨b',off,hme,hb',d0,d1,d2,d3,d4⟩:=(HM.out.mono hbV).ments s hs'
   have hvl:=HV.out.ment s hs'
   have hms:=Zba hs'
   rw[hms] at HST HVN
   clear hms hs
   generalize t.ments[s]=x at *
   obtain⟨xs,xv,xl,xh,xp⟩:=x
   simp only at hvl d0 d1 d2 d3 d4 HST HVN
   obtain⟨-,-,v1,v2,-⟩:=hvl
   subst hae
   subst hme
   have SF:Hid (∀U,Below V.heap.size V U→(fun U=>Below V.heap.size V U∧U.cell? ⟨w.heap.size,4,none⟩=some (.slice (some ⟨b',off,none⟩) t.ments.length k3)∧U.cell? ⟨bi,oi+n,none⟩=some (.int .i64 (s:Int))∧U.cell? ⟨b',off+s*5,none⟩=some (.int .i64 xs)∧U.cell? ⟨b',off+s*5+1,none⟩=some (.int .i64 xv)∧U.cell? ⟨b',off+s*5+2,none⟩=some (.int .i64 xl)∧U.cell? ⟨b',off+s*5+3,none⟩=some (.int .i64 xh)∧U.cell? ⟨b',off+s*5+4,none⟩=some (.int .i64 xp)∧w.heap.size<U.heap.size∧bi<U.heap.size∧b'<U.heap.size) U):=LH (fun U h=>by
    obtain⟨-,-,-,q0,q1⟩:=KE.out _ (hbV.trans (h.mono hbV.size))
    exact⟨h,q0,Zab h c0,Zab h d0,Zab h d1,Zab h d2,Zab h d3,Zab h d4,q1,Nat.lt_of_lt_of_le hbi h.size,Nat.lt_of_lt_of_le hb' h.size⟩)
   have hYV:=hbV.size
   have hlo:=Zng hown
   have HLO:=LH hlo
   clear hlo c0 d0 d1 d2 d3 d4 hbi hb'
   go_upto_region 6 with(fail)
   go_cut [8] from 15 to 22 (fun v W=>∃p8,v=.pointer (some ⟨p8,0,none⟩)∧V.heap.size≤p8∧Below V.heap.size V W∧W.heap[p8]?=some (.cells #[.int .i64 xs,.int .i64 xv,.int .i64 xl,.int .i64 xh,.int .i64 xp] 38 (0,0)))
   case first=>
    have hV0:=Zah (Below.refl V.heap.size V)
    refine Zgq ?_
    refine Zcq (fun U=>Below V.heap.size V U∧U.cell? ⟨w.heap.size,4,none⟩=some (.slice (some ⟨b',off,none⟩) t.ments.length k3)∧U.cell? ⟨bi,oi+n,none⟩=some (.int .i64 (s:Int))∧U.cell? ⟨b',off+s*5,none⟩=some (.int .i64 xs)∧U.cell? ⟨b',off+s*5+1,none⟩=some (.int .i64 xv)∧U.cell? ⟨b',off+s*5+2,none⟩=some (.int .i64 xl)∧U.cell? ⟨b',off+s*5+3,none⟩=some (.int .i64 xh)∧U.cell? ⟨b',off+s*5+4,none⟩=some (.int .i64 xp)∧w.heap.size<U.heap.size∧bi<U.heap.size∧b'<U.heap.size) 9 (by kernel_rfl) (SF.out V.drew hV0) (fun hHeld=>?_)
    (refine tkZ 0 ?_;simp only[frT])
    (refine tkZ 1 ?_;simp only[frT])
    (refine tkZ 2 ?_;simp only[frT])
    (refine tkZ 3 ?_;simp only[frT])
    (refine tkZ 4 ?_;simp only[frT])
    (refine tkZ 5 ?_;simp only[frT])
    (refine tkZ 6 ?_;simp only[frT])
    (refine tkZ 7 ?_;simp only[frT])
    refine Zap (rs:=[8]) (by kernel_rfl) (by simp) (AllZ.cons rfl (fun K hK=>?_) AllZ.nil)
    go_simp
    refine hK.out _ _ (fun _=>SF.out _ (hV0.alloc hV0.size _)) ?_
    (try simp only[frT])
    clear hK
    have k0:(V.alloc (.cells #[.int .i64 0,.int .i64 0,.int .i64 0,.int .i64 0,.int .i64 0] 38)).drew.heap[V.heap.size]?=some (.cells #[.int .i64 0,.int .i64 0,.int .i64 0,.int .i64 0,.int .i64 0] 38 (0,0)):=Zac _ _ rfl
    obtain⟨V2,hV2⟩:∃V2:World,V2=(V.alloc (.cells #[.int .i64 0,.int .i64 0,.int .i64 0,.int .i64 0,.int .i64 0] 38)).drew:=⟨_,rfl⟩
    rw[←hV2] at k0 ⊢
    have hB2:Below V.heap.size V V2:=by rw[hV2];exact Zah ((Below.refl _ _).alloc (Nat.le_refl _) _)
    have hz1:=Nat.le_refl V.heap.size
    clear hV2
    have q0:=Zaa 0 k0 rfl
    have q1:=Zaa 1 k0 rfl
    have q2:=Zaa 2 k0 rfl
    have q3:=Zaa 3 k0 rfl
    have q4:=Zaa 4 k0 rfl
    have f0:=Zad 0 k0
    have f1:=Zad 1 k0
    have f2:=Zad 2 k0
    have f3:=Zad 3 k0
    have f4:=Zad 4 k0
    have zz:=lt_of_block k0
    refine Zap (rs:=[9]) (by kernel_rfl) (by simp) (AllZ.cons rfl (fun K hK=>?_) AllZ.nil)
    (go_simp;refine hK.out _ _ (fun h=>absurd rfl h) ?_;(try simp only[frT]);clear hK;refine Zc3 (by kernel_rfl) ?_ _)
    dsimp only[Zl9]
    go_wp2
    go_meet
    case rel=>exact⟨V.heap.size,rfl,hz1,((((hB2.setCell hz1 _).setCell hz1 _).setCell hz1 _).setCell hz1 _).setCell hz1 _,Zak 4 _ (Zak 3 _ (Zak 2 _ (Zak 1 _ (Zak 0 _ k0))))⟩
   case rest=>
    obtain⟨p8,rfl,hp8,hbW,h8⟩:=hcut
    rename World=>W
    have hbYW:=hbV.trans (hbW.mono hbV.size)
    have hzW:=hbYW.size
    have hownW:=Zc6 hown hbW
    have z8:=lt_of_block h8
    have y0:=Zaa 0 h8 rfl
    have y1:=Zaa 1 h8 rfl
    have HL:=Zrb (t:=t) (Nat.le_of_lt hlt)
    clear hown SF
    generalize hL:spL t l n=L at hownW HST HL
    have HL2:=LH hL
    clear hL
    subst HL
    go_upto_region 8 with(at_builtin;go_must (refine Zbs (.tmp 23) (.tmp 26) Zh3 rfl rfl rfl rfl Y.heap.size L.length 1 (L.map (Value.int .i64)) [.int .i64 xs] (hownW.alloc _) (Za2.one _ _ _ rfl) (by omega) (by decide) (by simp;omega) ?_;intro v2 w2 ho2 hg2 _;(have hb2:=Zdw hbYW (Nat.le_refl _) (Nat.le_refl _) hownW hg2);(have h82:=(hg2.block p8 (by simp;omega) (fun e=>by have:=HLO.out _ e.symm;omega)).trans ((heap_alloc_old _ _ z8).trans h8));clear hg2;simp only[frT]))
    have ho3:w2.ownsRow Y.heap.size 3 1 v2 (L.length+1) ((spL t l (L.length+1)).map (Value.int .i64)):=by rw[HST.out,List.map_append];exact ho2
    have u1:=Zaa 1 h82 rfl
    have u2:=lt_of_block h82
    clear y0 y1 z8 ho2 h82 h8 hownW hbW hbYW hbV
    by_cases e1:xv=-1
    ·have E1:=Zdf e1
     have HV2:Hid (∀j (hj:j<l.length),j<L.length+1→(Zal t l[j].toNat).vill≠-1→(Zal t l[j].toNat).vill=max g xv):=LH (HVN.out _ (fun j hj hjn h=>by rw[HVL.out j hj hjn h];omega) (fun h=>absurd e1 h))
     clear e1
     go_wp2
     go_roundw
     case rel=>exact⟨L.length+1,_,by omega,by go_num,rfl,by omega,by omega,ho3,HV2,hb2⟩
     case measure=>simp[intOf];omega
    ·have E1:=Zcp e1
     have HE1:=LH e1
     clear e1
     by_cases e2:g=-1
     ·have E2:=Zdf e2
      have HV2:Hid (∀j (hj:j<l.length),j<L.length+1→(Zal t l[j].toNat).vill≠-1→(Zal t l[j].toNat).vill=max g xv):=LH (HVN.out _ (fun j hj hjn h=>absurd ((HVL.out j hj hjn h).trans e2) h) (fun _=>by omega))
      clear e2
      go_wp2
      go_roundw
      case rel=>exact⟨L.length+1,_,by omega,by go_num,rfl,by omega,by omega,ho3,HV2,hb2⟩
      case measure=>simp[intOf];omega
     ·have E2:=Zcp e2
      have HE2:=LH e2
      clear e2
      by_cases e3:xv=g
      ·have E3:=Zdf e3
       have HV2:Hid (∀j (hj:j<l.length),j<L.length+1→(Zal t l[j].toNat).vill≠-1→(Zal t l[j].toNat).vill=max g xv):=LH (HVN.out _ (fun j hj hjn h=>by rw[HVL.out j hj hjn h];omega) (fun _=>by omega))
       clear e3
       go_wp2
       go_roundw
       case rel=>exact⟨L.length+1,_,by omega,by go_num,rfl,by omega,by omega,ho3,HV2,hb2⟩
       case measure=>simp[intOf];omega
      ·have E3:=Zcp e3
       clear e3
       go_wp2
       go_ret
       exact⟨false,rfl,LH (fun h=>by cases h),HBY.out.trans (hb2.mono HBY.out.size)⟩
  ·obtain rfl:n=l.length:=by omega
   obtain⟨x0,x1,x2,x4,xz⟩:=KE.out _ hbV
   clear hlt hn
   by_cases h2:l.length<2
   ·have e2:(l.length:Int)<2:=by omega
    have HN:=LH (Z3l HVL.out (.inl h2))
    clear h2
    go_wp2
    go_ret
    exact⟨true,rfl,LH (fun _=>HN.out),HBY.out.trans (hbV.mono HBY.out.size)⟩
   ·have e2:¬(l.length:Int)<2:=by omega
    clear h2
    have HL:=Zrb (t:=t) (Nat.le_refl l.length)
    have SC:=LH (fun f=>Z9a (t:=t) (l:=l) (f:=f))
    have HB:∀j (hj:j<(spL t l l.length).length),0≤(spL t l l.length)[j]∧(spL t l l.length)[j]<t.ear.spells.length:=fun j hj=>by
     rw[Z6z hj]
     have hj':j<l.length:=by rw[HL] at hj;exact hj
     have h1:=HLS.out j hj'
     have h3:l[j].toNat<t.ments.length:=by omega
     have h4:=HV.out.ment l[j].toNat h3
     rw[Zba h3]
     omega
    generalize spL t l l.length=L at hown HL SC HB
    rw[←HL] at hown
    obtain⟨a5,c5,rfl,hso,hsi⟩:=Zr1 hown
    have SH:=LH (Zvr a1 a2 k1 k2 t.ear a5 L c5 V (HM.out.mono hbV).book HV.out.ear hso hsi HB)
    have HVL2:=HVL
    clear HL HB hown hsi hso
    go_wp2_with (first
     |(go_at_call 145;(with_reducible refine SH.out.mono ?_);rintro e w5 ⟨gs,fs,rfl,hMs,HXs,hbs⟩;dsimp only)
     |(go_at_call 144;(have hMs':=hMs);(with_reducible refine(Zx5 _ _ _ hMs').mono ?_);rintro e w6 ⟨lr,rfl,HLr,hw9⟩;obtain rfl:=hw9.symm;dsimp only))
    go_ret
    exact⟨_,rfl,LH (fun h=>Z3l HVL2.out (.inr (SC.out _ HXs.out (HLr.out (by simpa using h))))),HBY.out.trans ((hbV.trans (hbs.mono hbV.size)).mono HBY.out.size)⟩
end
section
open Go Go.RowKit Go.Shelf
def Zn8 (t:PeW) (p:List Int) (i m:Nat):Prop:=∀k,k<m→(Zal t k).par≠-1→pAt p k=pAt p i→pAt p (Zal t i).par.toNat=pAt p (Zal t k).par.toNat
def Zm8 (t:PeW) (p:List Int) (n:Nat):Prop:=∀i,i<n→(Zal t i).par≠-1→pAt p (Zal t i).par.toNat≠pAt p i∧Zn8 t p i i
theorem Zn8.zero {t:PeW} {p:List Int} {i:Nat}:Zn8 t p i 0:=fun _ h=>absurd h (Nat.not_lt_zero _)
theorem Zn8.next {t:PeW} {p:List Int} {i m:Nat} (h:Zn8 t p i m) (h2:(Zal t m).par≠-1→pAt p m=pAt p i→pAt p (Zal t i).par.toNat=pAt p (Zal t m).par.toNat):Zn8 t p i (m+1):=fun k hk=>if g:k<m then h k g else (by have e:k=m:=(by omega);subst e;exact h2)
theorem Zm8.next {t:PeW} {p:List Int} {n:Nat} (h:Zm8 t p n) (h2:(Zal t n).par≠-1→pAt p (Zal t n).par.toNat≠pAt p n∧Zn8 t p n n):Zm8 t p (n+1):=fun k hk=>if g:k<n then h k g else (by have e:k=n:=(by omega);subst e;exact h2)
def Z7p (t:PeW) (p:List Int) (w:World) (e:Ending) (w':World):Prop:=∃r,e=.returned (.bool r)∧Hid (r=true↔Zm8 t p t.ments.length)∧Below w.heap.size w w'
theorem Z6j (a1 a2 a3 a4:Option Addr) (k1 k2 k3 k4:Nat) (t:PeW) (a:Option Addr) (p:List Int) (k:Nat) (w:World) (hm:TownC w a1 a2 a3 a4 k1 k2 k3 k4 t) (hv:PeOk t) (ho:SlOk a p.length k) (hi:Zaw w a p) (hlen:p.length=t.ments.length):
  Calls Tryz.prog 101 #[(.agg #[.int .i64 t.ear.sounds,.slice a1 t.ear.alphas.length k1,.slice a2 t.ear.spells.length k2,.int .i64 t.vills,.slice a3 t.ments.length k3,.slice a4 t.ties.length k4]),.slice a p.length k] w (Z7p t p w):=by
 have l3:=hm.okm.len
 have ll:=ho.len
 obtain⟨Y,hY⟩:∃Y:World,Y=(w.alloc (.cells #[.int .i64 t.ear.sounds,.slice a1 t.ear.alphas.length k1,.slice a2 t.ear.spells.length k2,.int .i64 t.vills,.slice a3 t.ments.length k3,.slice a4 t.ties.length k4] 29)):=⟨_,rfl⟩
 have hbY:Below w.heap.size w Y:=by rw[hY];exact(Below.refl _ _).alloc (Nat.le_refl _) _
 have hB1:Y.heap[w.heap.size]?=some (.cells #[.int .i64 t.ear.sounds,.slice a1 t.ear.alphas.length k1,.slice a2 t.ear.spells.length k2,.int .i64 t.vills,.slice a3 t.ments.length k3,.slice a4 t.ties.length k4] 29 (0,0)):=by rw[hY];exact Zac _ _ rfl
 have HY:=LH hY
 clear hY
 have HM:=LH (hm.mono hbY)
 have HI:=LH (hi.mono hbY)
 have HBY:=LH hbY
 have HV:=LH hv
 have HLN:=LH hlen
 clear hm hi hbY hv hlen
 have KE:Hid (∀V,Below Y.heap.size Y V→(V.cell? ⟨w.heap.size,4,none⟩=some (.slice a3 t.ments.length k3)∧w.heap.size<V.heap.size)):=LH (fun V h=>by
  have q1:=(h.block _ (lt_of_block hB1)).trans hB1
  exact⟨Zaa 4 q1 rfl,lt_of_block q1⟩)
 clear hB1
 have KP:Hid (∀V,Below Y.heap.size Y V→∀i,i<t.ments.length→∃b off,a=some ⟨b,off,none⟩∧b<V.heap.size∧V.cell? ⟨b,off+i,none⟩=some (.int .i64 (pAt p i))∧i<p.length):=LH (fun V h i hi=>by
  have hi':i<p.length:=by rw[HLN.out];exact hi
  obtain⟨b,off,e,hb,c⟩:=(HI.out.mono h) i hi'
  exact⟨b,off,e,hb,by rw[Zno hi'];exact c,hi'⟩)
 go_enter Tryz.func101,Tryz.ntmps101
 go_upto_region 1 with(fail)
 rw[←HY.out]
 go_upto_region 2 with(fail)
 go_loopw [5] (fun i V=>∃(n:Nat),n≤t.ments.length∧i=.int .i64 n∧Hid (Zm8 t p n)∧Below Y.heap.size Y V) (fun i _=>t.ments.length-(intOf i).toNat)
 case atStart=>exact⟨0,Nat.zero_le _,rfl,LH (fun j h=>absurd h (Nat.not_lt_zero j)),Below.refl _ _⟩
 case round=>
  rename World=>V
  obtain⟨n,hn,rfl,HK,hbV⟩:=hrel
  obtain⟨x4,xz⟩:=KE.out _ hbV
  by_cases hlt:n<t.ments.length
  ·obtain⟨b',off,hme,hb',-,-,-,-,d4⟩:=(HM.out.mono hbV).ments n hlt
   have hvl:=(HV.out.ment n hlt)
   have HKN:=LH (fun h2=>HK.out.next (n:=n) h2)
   have HKA:=LH (fun m=>Zn8.next (t:=t) (p:=p) (i:=n) (m:=m))
   have hms:=Zba hlt
   rw[←hms] at hvl d4
   clear hms
   obtain⟨-,-,-,-,v1,v2,-⟩:=hvl
   subst hme
   by_cases e0:(Zal t n).par=-1
   ·have e1:=Zdv e0
    replace HKN:=LH (HKN.out (fun h=>absurd e0 h))
    clear e0
    generalize (Zal t n).par=xp at *
    go_wp2
    go_roundw
    case rel=>exact⟨n+1,by omega,by go_num,HKN,hbV⟩
    case measure=>simp[intOf];omega
   ·have HE0:=LH e0
    have HNK:=LH (fun(h:Zm8 t p t.ments.length)=>h n hlt e0)
    generalize hxp:(Zal t n).par=xp at HKN HKA HE0 HNK d4 v1 v2 e0
    have HXP:=LH hxp
    clear hxp
    obtain⟨np,rfl⟩:∃np:Nat,xp=(np:Int):=⟨xp.toNat,by omega⟩
    rw[Int.toNat_natCast] at HKN HKA HNK
    have hnp:np<t.ments.length:=by omega
    have e1:((np:Int)==-1)=false:=Zc4 e0
    clear e0 v1
    obtain⟨bp,op,hae,hbp,c0,cn0⟩:=KP.out _ hbV np hnp
    obtain⟨bp',op',hae',-,c1,cn1⟩:=KP.out _ hbV n hlt
    subst hae
    cases hae'
    have hU:=Zan hbV
    by_cases hxy:pAt p np=pAt p n
    ·have e2:=Zdv hxy
     have HNF:Hid (¬Zm8 t p t.ments.length):=LH (fun h=>(HNK.out h).1 hxy)
     clear hxy HKN HKA HNK
     generalize pAt p np=x at *
     generalize pAt p n=y at *
     go_upto_region 6 with(fail)
     go_quiet (fail)
     have hU2:=hU nq
     clear hU x4 xz c0 c1 hbp d4 hb' hbV
     generalize V.drewN nq=V2 at hU2 ⊢
     go_wp2
     go_ret
     exact⟨false,rfl,LH ⟨fun h=>(by cases h),fun h=>absurd h HNF.out⟩,HBY.out.trans (hU2.mono HBY.out.size)⟩
    ·have HXY:=LH hxy
     have e2:=Zc4 hxy
     clear hxy
     replace HKN:=LH (fun h=>HKN.out (fun _=>⟨HXY.out,h⟩))
     go_upto_region 6 with(fail)
     go_quiet (fail)
     have hU2:=hU nq
     clear hU x4 xz c0 c1 hbp d4 hb' hbV
     generalize V.drewN nq=V2 at hU2 ⊢
     go_upto_region 9 with(fail)
     go_loopw [7] (fun j U=>∃m:Nat,m≤n∧j=.int .i64 m∧Hid (Zn8 t p n m)∧Below Y.heap.size Y U) (fun j _=>n-(intOf j).toNat)
     case atStart=>exact⟨0,Nat.zero_le _,rfl,LH Zn8.zero,hU2⟩
     case round=>
      clear hU2
      rename World=>U
      obtain⟨m,hm,rfl,HM2,hbU⟩:=hrel
      obtain⟨x4,xz⟩:=KE.out _ hbU
      by_cases hmn:m<n
      ·have hmt:m<t.ments.length:=by omega
       obtain⟨b2,off2,hme2,hb2,-,-,-,-,d5⟩:=(HM.out.mono hbU).ments m hmt
       cases hme2
       have hvl2:=(HV.out.ment m hmt)
       have hms2:=Zba hmt
       rw[←hms2] at hvl2 d5
       clear hms2
       have HK2:=LH (HKA.out m HM2.out)
       obtain⟨-,-,-,-,v3,v4,-⟩:=hvl2
       obtain⟨bq,oq,haq,hbq,q0,qn0⟩:=KP.out _ hbU m hmt
       cases haq
       obtain⟨br,orr,har,hbr,r0,rn0⟩:=KP.out _ hbU n hlt
       cases har
       have hR:=Zan hbU
       by_cases e5:(Zal t m).par=-1
       ·have e6:=Zdf e5
        replace HK2:=LH (HK2.out (fun h=>absurd e5 h))
        clear e5
        generalize (Zal t m).par=xq at *
        go_upto_region 12 with(fail)
        go_quiet (fail)
        go_wp2
        go_roundw
        case rel=>exact⟨m+1,by omega,by go_num,HK2,hR _⟩
        case measure=>simp[intOf];omega
       ·have HE5:=LH e5
        have HK3:=LH (fun(h:Zm8 t p t.ments.length)=>(HNK.out h).2 m hmn e5)
        rw[HXP.out,Int.toNat_natCast] at HK3
        generalize (Zal t m).par=xq at *
        obtain⟨mq,rfl⟩:∃mq:Nat,xq=(mq:Int):=⟨xq.toNat,by omega⟩
        rw[Int.toNat_natCast] at HK2 HK3
        have e6:=Zcp e5
        clear e5 v3
        have hmq:mq<t.ments.length:=by omega
        obtain⟨bs,os,has,hbs,s0,sn0⟩:=KP.out _ hbU mq hmq
        cases has
        obtain⟨bv,ov,hav,hbv,u0,un0⟩:=KP.out _ hbU np hnp
        cases hav
        by_cases e7:pAt p m=pAt p n
        ·have e8:=Zdv e7
         by_cases e9:pAt p np=pAt p mq
         ·have e10:=Zdf e9
          replace HK2:=LH (HK2.out (fun _ _=>e9))
          clear e7 e9
          go_upto_region 12 with(fail)
          go_quiet (fail)
          go_wp2
          go_roundw
          case rel=>exact⟨m+1,by omega,by go_num,HK2,hR _⟩
          case measure=>simp[intOf];omega
         ·have e10:=Zcp e9
          have HNF:Hid (¬Zm8 t p t.ments.length):=LH (fun h=>e9 (HK3.out h e7))
          clear e7 e9
          go_upto_region 12 with(fail)
          go_quiet (fail)
          go_wp2
          go_ret
          exact⟨false,rfl,LH ⟨fun h=>(by cases h),fun h=>absurd h HNF.out⟩,HBY.out.trans ((hR _).mono HBY.out.size)⟩
        ·have e8:=Zc4 e7
         replace HK2:=LH (HK2.out (fun _ h=>absurd h e7))
         clear e7
         go_upto_region 12 with(fail)
         go_quiet (fail)
         go_wp2
         go_roundw
         case rel=>exact⟨m+1,by omega,by go_num,HK2,hR _⟩
         case measure=>simp[intOf];omega
      ·obtain rfl:m=n:=by omega
       replace HKN:=LH (HKN.out HM2.out)
       go_wp2
       go_roundw
       case rel=>exact⟨m+1,by omega,by go_num,HKN,hbU⟩
       case measure=>simp[intOf];omega
  ·obtain rfl:n=t.ments.length:=by omega
   go_wp2
   go_ret
   exact⟨true,rfl,LH ⟨fun _=>HK.out,fun _=>rfl⟩,HBY.out.trans (hbV.mono HBY.out.size)⟩
end
section
open Go Go.RowKit Go.Shelf
def Zci (x:Int × Int):List Value:=[.int .i64 x.1,.int .i64 x.2]
theorem Zg7:∀x:Int × Int,(Zci x).length=2:=fun _=>rfl
theorem Z9p:ElemInfo Tryz.prog 179 36 (.agg #[.int .i64 0,.int .i64 0]) 2 16:=⟨by kernel_rfl,by kernel_rfl,rfl,by decide⟩
theorem Za2.span1 (W:World) (a b:Int) (t:TypeId):Za2 (W.alloc (.cells #[.int .i64 a,.int .i64 b] t)) (.slice (some ⟨W.heap.size,0,none⟩) 1 1) 1 2 [.int .i64 a,.int .i64 b]:=
 Za2.boxP (vs:=[.int .i64 a,.int .i64 b]) W (fun u hu=>by simp at hu;rcases hu with rfl|rfl<;>rfl) t
theorem Z53 (l:List (Int × Int)) (n:Nat) (x:Int × Int) (h:n<l.length):((Zbg Zci l).set (n*2) (.int .i64 x.1)).set (n*2+1) (.int .i64 x.2)=Zbg Zci (l.set n x):=by
 induction l generalizing n with
 |nil=>simp at h
 |cons y l ih=>
  cases n with
  |zero=>rfl
  |succ n=>
   have:=ih n (by simpa using h)
   show((Zci y++Zbg Zci l).set ((n+1)*2) _).set ((n+1)*2+1) _=Zci y++Zbg Zci (l.set n x)
   rw[←this,show(n+1)*2=n*2+2 by omega]
   rfl
theorem Zkc {W:World} {B g c m:Nat} {l:List (Int × Int)} (h:W.ownsRow B 36 2 (.slice (some ⟨g,0,none⟩) m c) m (Zbg Zci l)) {n:Nat} (hn:n<l.length):
  W.cell? ⟨g,n*2,none⟩=some (.int .i64 (bAt l n).1)∧W.cell? ⟨g,n*2+1,none⟩=some (.int .i64 (bAt l n).2)∧W.frozen? ⟨g,n*2,none⟩=false∧W.frozen? ⟨g,n*2+1,none⟩=false∧g<W.heap.size∧B≤g:=by
 have hl:=h.1
 rw[Zka Zg7] at hl
 have e0:=Zjt Zg7 l n hn 0 (by omega)
 have e1:=Zjt Zg7 l n hn 1 (by omega)
 have hb:bAt l n=l[n]:=by unfold bAt;rw[List.getElem?_eq_getElem hn];rfl
 rw[hb]
 have hk:=h.lt g rfl
 exact⟨(h.cellAt _ (by omega)).trans (by rw[show n*2=n*2+0 from rfl,e0];rfl),(h.cellAt _ (by omega)).trans (by rw[e1];rfl),h.frozenAt _,h.frozenAt _,hk.2,hk.1⟩
theorem Ztb {W:World} {B g c m:Nat} {l:List (Int × Int)} (h:W.ownsRow B 36 2 (.slice (some ⟨g,0,none⟩) m c) m (Zbg Zci l)) {n:Nat} (hn:n<l.length) (x:Int × Int):
  ((W.setCell ⟨g,n*2,none⟩ (.int .i64 x.1)).setCell ⟨g,n*2+1,none⟩ (.int .i64 x.2)).ownsRow B 36 2 (.slice (some ⟨g,0,none⟩) m c) m (Zbg Zci (l.set n x)):=by
 rw[←Z53 l n x hn]
 exact((h.stored _ _).1.stored _ _).1
def spF (t:PeW) (l:List Int):Int × Int:=l.foldl (fun s x=>(max s.1 (Zal t x.toNat).lo,min s.2 (Zal t x.toNat).hi)) (0,199)
theorem Zxk (t:PeW) (l:List Int) (x:Int):spF t (l++[x])=(max (spF t l).1 (Zal t x.toNat).lo,min (spF t l).2 (Zal t x.toNat).hi):=by unfold spF;rw[List.foldl_append];rfl
theorem Zf5 (t:PeW) (p:List Int):∀k,(Zbd t p k).length=6
 |0=>rfl
 |k+1=>by rw[Zbd,List.length_set];exact Zf5 t p k
theorem Z2o {t:PeW} {p:List Int} (h:∀i,0≤pAt p i∧pAt p i<6) {n:Nat} (hn:n<6):∀k,bAt (Zbd t p k) n=spF t (ofP p (n:Int) k)
 |0=>by
  obtain rfl|rfl|rfl|rfl|rfl|rfl:n=0∨n=1∨n=2∨n=3∨n=4∨n=5:=by omega
  all_goals rfl
 |k+1=>by
  have ih:=Z2o (t:=t) h hn k
  have hk:=h k
  have e:ofP p (n:Int) (k+1)=ofP p (n:Int) k++(if decide (pAt p k=(n:Int)) then [(k:Int)] else []):=Zh8 _ _
  rw[Zbd,Zgu _ (by rw[Zf5];omega),e]
  by_cases g:pAt p k=(n:Int)
  ·rw[if_pos (by omega),if_pos (by simpa using g),Zxk,←ih,g,Int.toNat_natCast,Int.toNat_natCast]
  ·rw[if_neg (by omega),if_neg (by simpa using g),List.append_nil]
   exact ih
def Zqo (t:PeW) (p:List Int) (n:Nat):List (Int × Int):=(List.range n).map fun i=>bAt (Zbd t p t.ments.length) i
theorem Zy4 (t:PeW) (p:List Int) (n:Nat):Zqo t p (n+1)=Zqo t p n++[bAt (Zbd t p t.ments.length) n]:=by unfold Zqo;rw[List.range_succ,List.map_append];rfl
theorem Z3k (t:PeW) (p:List Int) (n:Nat):(Zqo t p n).length=n:=by simp[Zqo]
theorem Zzn {t:PeW} {p:List Int} {m:Nat} (hm:m≤6):Zqo t p m=(Zbd t p t.ments.length).take m:=by
 have hl:=Zf5 t p t.ments.length
 apply List.ext_getElem?
 intro i
 unfold Zqo
 rw[List.getElem?_map,List.getElem?_take]
 by_cases g:i<m
 ·rw[if_pos g,List.getElem?_range g,List.getElem?_eq_getElem (by omega)]
  show some (bAt _ i)=_
  unfold bAt
  rw[List.getElem?_eq_getElem (by omega)]
  rfl
 ·rw[if_neg g,List.getElem?_eq_none (by simp;omega)]
  rfl
theorem Zrf {t:PeW} {p:List Int} {m:Nat} (h:∀i,0≤pAt p i∧pAt p i<6) (hm:∀i,i<t.ments.length→(pAt p i)<m):∀k,k≤t.ments.length→∀i,m≤i→i<6→bAt (Zbd t p k) i=(0,199)
 |0,_,i,_,hi=>by
  obtain rfl|rfl|rfl|rfl|rfl|rfl:i=0∨i=1∨i=2∨i=3∨i=4∨i=5:=by omega
  all_goals rfl
 |k+1,hk,i,h1,h2=>by
  have a:=h k
  have b:=hm k (by omega)
  rw[Zbd,Zgu _ (by rw[Zf5];omega),if_neg (by omega)]
  exact Zrf h hm k (by omega) i h1 h2
theorem Zq4 {L:List (Int × Int)} {m i:Nat} (h:i<m):bAt (L.take m) i=bAt L i:=by
 unfold bAt
 rw[List.getElem?_take,if_pos h]
theorem take_set (L:List (Int × Int)) (m n:Nat) (x:Int × Int):(L.take m).set n x=(L.set n x).take m:=by rw[List.take_set]
def Zlu (l:List (Int × Int)):Bool:=l.any fun s=>decide (s.2<s.1)
theorem Zv9 {L:List (Int × Int)} {m:Nat} (hL:L.length=6) (hm:m≤6) (ht:∀i,m≤i→i<6→bAt L i=(0,199)):Zlu (L.take m)=Zet L:=by
 rw[Bool.eq_iff_iff]
 unfold Zlu Zet
 rw[List.any_eq_true,List.any_eq_true]
 constructor
 ·rintro⟨x,hx,h⟩
  exact⟨x,List.mem_of_mem_take hx,h⟩
 ·rintro⟨x,hx,h⟩
  obtain⟨i,hi,rfl⟩:=List.getElem_of_mem hx
  by_cases g:i<m
  ·exact⟨_,List.mem_take_iff_getElem.2 ⟨i,by omega,rfl⟩,h⟩
  ·have:=ht i (by omega) (by omega)
   unfold bAt at this
   rw[List.getElem?_eq_getElem hi,Option.getD_some] at this
   rw[this] at h
   simp at h
theorem Zpt (a:Option Addr) (l:List (Int × Int)) (k:Nat) (w:World) (ho:SlOk a l.length k) (hi:Zhp Zci 2 w a l):
  Calls Tryz.prog 102 #[.slice a l.length k] w fun e w'=>e=.returned (.bool (Zlu l))∧Below w.heap.size w w':=by
 have ll:=ho.len
 obtain⟨r,hr⟩:∃r,r=Zlu l:=⟨_,rfl⟩
 rw[←hr]
 have HR:=LH hr
 clear hr
 go_enter Tryz.func102,Tryz.ntmps102
 go_wp2
 go_loopw [3] (fun i V=>∃n:Nat,n≤l.length∧i=.int .i64 n∧Hid (∀j (hj:j<l.length),j<n→l[j].1≤l[j].2)∧Below w.heap.size w V) (fun i _=>l.length-(intOf i).toNat)
 case atStart=>exact⟨0,Nat.zero_le _,rfl,LH (fun j _ h=>absurd h (Nat.not_lt_zero j)),Below.refl _ _⟩
 case round=>
  rename World=>V
  obtain⟨n,hn,rfl,HN,hbV⟩:=hrel
  by_cases hlt:n<l.length
  ·obtain⟨b,off,hae,hb,hc⟩:=hi n hlt
   have c0:V.cell? ⟨b,off+n*2,none⟩=some (.int .i64 l[n].1):=Zab hbV (hc 0 _ (by omega) rfl)
   have c1:V.cell? ⟨b,off+n*2+1,none⟩=some (.int .i64 l[n].2):=Zab hbV (hc 1 _ (by omega) rfl)
   have hbz:=Nat.lt_of_lt_of_le hb hbV.size
   have HN2:=LH (fun(h:l[n].1≤l[n].2)=>show ∀j (hj:j<l.length),j<n+1→l[j].1≤l[j].2 from fun j hj hjn=>if g:j<n then HN.out j hj g else (by have e:j=n:=(by omega);subst e;exact h))
   have HE:=LH (fun(h:l[n].2<l[n].1)=>show Zlu l=true from List.any_eq_true.2 ⟨_,List.getElem_mem hlt,decide_eq_true h⟩)
   clear hc hb
   generalize l[n]=x at *
   obtain⟨x1,x2⟩:=x
   simp only at HN2 HE c0 c1
   subst hae
   have hU:=Zan hbV
   by_cases he:x2<x1
   ·have HT:=LH (HE.out he)
    go_upto_region 4 with(fail)
    go_quiet (fail)
    go_wp2
    go_ret
    exact⟨Zaq (by rw[HR.out,HT.out]),hU nq⟩
   ·replace HN2:=LH (HN2.out (by omega))
    go_upto_region 4 with(fail)
    go_quiet (fail)
    go_wp2
    go_roundw
    case rel=>exact⟨n+1,by omega,by go_num,HN2,hU _⟩
    case measure=>simp[intOf];omega
  ·obtain rfl:n=l.length:=by omega
   have HT:Hid (Zlu l=false):=LH (by
    unfold Zlu
    rw[List.any_eq_false]
    intro s hs
    obtain⟨i,hi,rfl⟩:=List.getElem_of_mem hs
    have:=HN.out i hi hi
    simpa using this)
   go_wp2
   go_ret
   exact⟨Zaq (by rw[HR.out,HT.out]),hbV⟩
def wAt (W:World) (g m i:Nat):Int:=if i<m then Ziu W g (i*2+1)-Ziu W g (i*2) else 199
def wO (W:World) (v:Value) (m:Nat):Int:=match v with
 |.slice (some ad) _ _=>wAt W ad.block m 0+wAt W ad.block m 1+wAt W ad.block m 2+wAt W ad.block m 3+wAt W ad.block m 4+wAt W ad.block m 5
 |_=>1194
theorem Zpj {W:World} {B g c m i:Nat} {L:List (Int × Int)} (hL:L.length=6) (ht:∀i,m≤i→i<6→bAt L i=(0,199)) (hm:m≤6) (h:W.ownsRow B 36 2 (.slice (some ⟨g,0,none⟩) m c) m (Zbg Zci (L.take m))) (hi:i<6):wAt W g m i=(bAt L i).2-(bAt L i).1:=by
 unfold wAt
 by_cases e:i<m
 ·obtain⟨h1,h2,-⟩:=Zkc h (n:=i) (by rw[List.length_take];omega)
  rw[if_pos e,Zc1 h1,Zc1 h2,Zq4 e]
 ·rw[if_neg e,ht i (by omega) hi]
  rfl
theorem Z9v {W:World} {B m:Nat} {v:Value} {L:List (Int × Int)} (hL:L.length=6) (ht:∀i,m≤i→i<6→bAt L i=(0,199)) (hm:m≤6) (h:W.ownsRow B 36 2 v m (Zbg Zci (L.take m))):wO W v m=wid L:=by
 rcases h.2 with⟨rfl,h0⟩|⟨g,cap,cur,rfl,_⟩
 ·unfold wid
  rw[ht 0 (by omega) (by omega),ht 1 (by omega) (by omega),ht 2 (by omega) (by omega),ht 3 (by omega) (by omega),ht 4 (by omega) (by omega),ht 5 (by omega) (by omega)]
  rfl
 ·unfold wO wid
  simp only
  rw[Zpj hL ht hm h (by omega),Zpj hL ht hm h (by omega),Zpj hL ht hm h (by omega),Zpj hL ht hm h (by omega),Zpj hL ht hm h (by omega),Zpj hL ht hm h (by omega)]
structure YearQ (t:PeW) (q:List Int) (m:Nat) (L:List (Int × Int)) (more:Bool):Prop where
 len:L.length=6
 tail:∀i,m≤i→i<6→bAt L i=(0,199)
 go:more=true→Zet L=false→YearR t q L true
 stop:more=false→Zet L=false→(Zbr t q).isSome=true
theorem Zn1 {t:PeW} {q:List Int} {m:Nat} (h:∀i,0≤pAt q i∧pAt q i<6) (hm:∀i,i<t.ments.length→pAt q i<m) (hv:PeOk t) {L:List (Int × Int)} (hL:L.length=6) (ht:∀i,m≤i→i<6→bAt L i=(0,199)):∀k,k≤t.ments.length→∀i,m≤i→i<6→bAt (Za4 t q L k).1 i=(0,199)
 |0,_,i,h1,h2=>ht i h1 h2
 |k+1,hk,i,h1,h2=>by
  have ih:=Zn1 h hm hv hL ht k (by omega) i h1 h2
  by_cases e:(Zal t k).par=-1
  ·rw[Zdp e]
   exact ih
  ·have hp:=hv.ment k (by omega)
   rw[Zba (by omega)] at e
   have a:=h k
   have b:=hm k (by omega)
   have e2:(Zal t k).par=(((Zal t k).par).toNat:Int):=by rw[Zba (by omega)];omega
   have c:=h (Zal t k).par.toNat
   have d:=hm (Zal t k).par.toNat (by rw[Zba (by omega)];omega)
   rw[Zib e2 (n0:=(pAt q k).toNat) (pp:=(pAt q (Zal t k).par.toNat).toNat) (by omega) (by omega)]
   simp only
   rw[Zi9 (Zqz h L hL k).1 (by omega) (by omega),if_neg (by omega),if_neg (by omega)]
   exact ih
theorem YearQ.next {t:PeW} {q:List Int} {m:Nat} {L:List (Int × Int)} (r:YearQ t q m L true) (he:Zet L=false) (y:YearI t q L t.ments.length) (ht:∀i,m≤i→i<6→bAt (Za4 t q L t.ments.length).1 i=(0,199)):
  YearQ t q m (Za4 t q L t.ments.length).1 (Za4 t q L t.ments.length).2∧wid (Za4 t q L t.ments.length).1≤wid L∧0≤wid L∧((Za4 t q L t.ments.length).2=true→wid (Za4 t q L t.ments.length).1<wid L):=by
 have rr:=r.go rfl he
 refine⟨⟨y.len,ht,fun hm h2=>?_,fun hm h2=>?_⟩,Znr y.nar,?_,y.less⟩
 ·have:=(rr.next y h2).1
  rw[hm] at this
  exact this
 ·have:=(rr.next y h2).1.stop hm
  rw[this.1]
  rfl
 ·have h:=(Zfb r.len).1 he
  have h0:=h 0 (by omega)
  have h1:=h 1 (by omega)
  have h2:=h 2 (by omega)
  have h3:=h 3 (by omega)
  have h4:=h 4 (by omega)
  have h5:=h 5 (by omega)
  unfold wid
  omega
end
end Go.Proofs.YtklconegomgjaaaGreat
