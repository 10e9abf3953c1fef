/- What is proved here: the contract of Wait's closure, of Wait. Conditions: the list lies in memory. -/
import Derived.Test.YtklconegomgjaaaGreatLook19G
import Derived.Test.YtklconegomgjaaaGreatInfoG
import Derived.Test.YtklconegomgjaaaGreatMoney4G
set_option linter.all false
set_option maxRecDepth 100000
set_option maxHeartbeats 16000000
namespace Go.Proofs.YtklconegomgjaaaGreat
section
open Go Go.RowKit
theorem Z6l:∀s:Nat,s<64→∀c:Nat,c<64→(bits BinOp.and .i64 (s:Int) (c:Int) != 0)=!(s &&& c==0):=by decide +kernel
def Z6d (m:MoList) (T:List (List Int)):List Int:=((List.range m.sums.length).filter fun i=>!oneB (Zcu T i)).map fun(i:Nat)=>(i:Int)
theorem Zsl (m:MoList) (hv:Valid m) (s:Nat):Zfd m (Zas s m.words.length)=(!decide ((Zao (Zam m (Zau m s))).length=0)&&decide ((Z6d m (Zao (Zam m (Zau m s)))).length=0)):=by
 have hv2:=Zih hv (Zau m s)
 have hu:=Zht (Zam m (Zau m s)) hv2.nc
 have hu2:Zel (Zam m (Zau m s)) (Zao (Zam m (Zau m s)))=Z6d m (Zao (Zam m (Zau m s))):=hu
 rw[←hu2]
 rw[Zqc]
 by_cases h:(Zao (Zb1 m (Zas s m.words.length))).length=0
 ·rw[Ztm h];simp[h]
 ·rw[Zrs h];simp[h]
theorem Zx8 (ac az aw ap:Option Addr) (cc cz cw cp:Nat) (m:MoList) (bm bo p q s:Nat) (E:List Int) (w:World) (hm:ListC w ac az aw ap cc cz cw cp m) (hv:Valid m) (hs:s<64)
  (hp:w.cell? ⟨p,0,none⟩=some (.pointer (some ⟨bm,0,none⟩))) (hL:LBlk w bm ac az aw ap cc cz cw cp m (Zau m 0) bo E)
  (q0:w.cell? ⟨q,0,none⟩=some (.slice ac m.claimants.length cc)) (q1:w.cell? ⟨q,1,none⟩=some (.slice az m.sums.length cz)) (q2:w.cell? ⟨q,2,none⟩=some (.slice aw m.words.length cw)) (q3:w.cell? ⟨q,3,none⟩=some (.slice ap m.paid.length cp)):
  Calls Tryz.prog 106 #[.int .i64 (s:Int),.pointer (some ⟨p,0,none⟩),.pointer (some ⟨q,0,none⟩)] w fun e w'=>e=.returned (.bool (Zkq m s))∧Below w.heap.size w w':=by
 have hc:Zau m 0<64:=Zgx m 0 (by decide) _ hv.nw
 have HA:=Z6l s hs _ hc
 have HW:Hid (Zkq m s=((s &&& Zau m 0==0)&&Zfd m (Zas s m.words.length))):=rfl
 rw[Zsl m hv s] at HW
 have c4:=hL.cells.2.2.2.2.1
 have hbm:=hL.lt
 have hpl:=Zag hp
 have hql:=Zag q0
 have L:=LH (Ztd ac az aw ap cc cz cw cp m s w hm hv hs)
 have h16:=LH (Zf0 (Zam m (Zau m s)) (Zih hv _).nc)
 have hz5:=hv.nz
 clear hL
 generalize Zau m 0=c at HA HW c4 hc
 generalize Zkq m s=r at HW ⊢
 generalize (s &&& c==0)=a at HA HW
 cases a
 ·go_enter Tryz.func106,Tryz.ntmps106
  go_wp2
  go_ret
  exact⟨Zaq (by rw[HW.out];rfl),Below.refl _ _⟩
 ·generalize hTT:Zao (Zam m (Zau m s))=T at HW h16
  have HTT:=LH hTT
  clear hTT
  have H:=LH (fun(bm2 bo2:Nat) (V:World) (hL:LBlk V bm2 ac az aw ap cc cz cw cp m (Zau m s) bo2 (Zc9 m T))=>Ztv ac az aw ap cc cz cw cp m bm2 bo2 (Zau m s) T h16.out hz5 V hL)
  have HH:Hid (Z6d m T=((List.range m.sums.length).filter fun i=>!oneB (Zcu T i)).map fun(i:Nat)=>(i:Int)):=rfl
  rw[←HH.out] at H
  clear HH
  generalize Z6d m T=hl at H HW
  by_cases h0:T.length=0
  ·have g0:=Zse h0
   replace HW:Hid (r=false):=LH (by rw[HW.out];simp[h0])
   have hT0:¬0<T.length:=by omega
   have HT0:=LH h0
   clear h0
   go_enter Tryz.func106,Tryz.ntmps106
   go_wp2_with (first
    |(at_len;refine Zhz rfl (.tmp 19) _ rfl _ _ Zq3 bo2 _ rfl hLW.map ?_;rw[Zp3,HTT.out];simp only[frT])
    |(go_at_call 107;go_must (refine L.out.mono ?_;rintro e w4 ⟨bm2,bo2,rfl,hLW,hb4⟩;have c5:=hLW.blk.cells.2.2.2.2.2;have hbm2:=hLW.blk.lt;dsimp only)))
   go_ret
   exact⟨Zaq (by rw[HW.out]),hb4⟩
  ·have hT0:0<T.length:=by omega
   by_cases h1:hl.length=0
   all_goals
    (first|have g1:=Zse h1|have g1:=Zoa h1)
    have HW:=LH (HW.out.trans (by simp[h0,h1]:_=decide (hl.length=0)))
    go_enter Tryz.func106,Tryz.ntmps106
    go_wp2_with (first
     |(at_len;refine Zhz rfl (.tmp 19) _ rfl _ _ Zq3 bo2 _ rfl hLW.map ?_;rw[Zp3,HTT.out];simp only[frT])
     |(go_at_call 104;go_must (refine(H.out bm2 bo2 _ hL2).mono ?_;rintro e w5 ⟨v5,rfl,⟨a5,k5,rfl,ho5,hi5⟩,hb5⟩;dsimp only))
     |(go_at_call 107;go_must (refine L.out.mono ?_;rintro e w4 ⟨bm2,bo2,rfl,hLW,hb4⟩;have c5:=hLW.blk.cells.2.2.2.2.2;have hbm2:=hLW.blk.lt;have hL2:=hLW.blk;rw[HTT.out] at hL2;dsimp only)))
    go_ret
    exact⟨Zaq (by rw[HW.out];simp[h1]),hb4.trans (hb5.mono hb4.size)⟩
theorem Z5u (m:MoList):Za0 m≠0→Zd4 m=([],Za0 m):=fun h=>if_neg h
theorem Z49 (xs:Array Value) (W:World):(callFunc 106 xs).run Tryz.prog W=.ok (.enter 106 xs) W:=by kernel_rfl
theorem Z4l (ac az aw ap:Option Addr) (cc cz cw cp:Nat) (m:MoList) (w:World) (hm:ListC w ac az aw ap cc cz cw cp m):
  Calls Tryz.prog 51 #[(.agg #[.slice ac m.claimants.length cc,.slice az m.sums.length cz,.slice aw m.words.length cw,.slice ap m.paid.length cp])] w fun e w'=>∃v,e=.returned (.tuple #[v,.int .i64 (Zd4 m).2])∧Ze7 w' v (Zd4 m).1∧Below w.heap.size w w':=by
 have HV:=LH (fun h:Za0 m=0=>Zec h)
 have HE:=LH (Z5u m)
 have HF:=LH (fun(h:Za0 m=0) (best:List Int) (found:Bool) (hf:Zf3 m.words.length (Zkq m) (2^m.words.length) best found)=>(Z0i h hf:(found=true∧(Zd4 m).2=0∧best=(Zd4 m).1)∨(found=false∧(Zd4 m).2=9∧(Zd4 m).1=[])))
 have hQ:=Below.refl (w.heap.size+1) (w.alloc (.cells #[.slice ac m.claimants.length cc,.slice az m.sums.length cz,.slice aw m.words.length cw,.slice ap m.paid.length cp] 54))
 obtain⟨c0,c1,c2,c3⟩:=Zax hQ
 have hbz:=Zai hQ
 have C:=Zgw ac az aw ap cc cz cw cp m 0 none [] 0 (w.alloc (.cells #[.slice ac m.claimants.length cc,.slice az m.sums.length cz,.slice aw m.words.length cw,.slice ap m.paid.length cp] 54)) (hm.mono (Zaf hQ)) (by decide) (by decide) (by decide) (Zaw.nil _ _)
 rw[Ze9] at C
 have HN:=LH (Zdz m)
 replace C:=LH C
 generalize Zd4 m=r at HE HF ⊢
 generalize Za0 m=er at C HE HV HF
 by_cases he:er=0
 ·have g1:=Zdf he
  obtain⟨hv,hpos⟩:=HV.out he
  replace HF:=LH (HF.out he)
  have HX:=LH he
  have hp6:=hv.nw
  have hpl:(m.words.length:Int)≤6:=by omega
  clear he
  have F:=LH (fun(bm bo p q:Nat) (E:List Int) (V:World) (hb:Below w.heap.size w V) (hp:V.cell? ⟨p,0,none⟩=some (.pointer (some ⟨bm,0,none⟩))) (hL:LBlk V bm ac az aw ap cc cz cw cp m (Zau m 0) bo E)
    (q0:V.cell? ⟨q,0,none⟩=some (.slice ac m.claimants.length cc)) (q1:V.cell? ⟨q,1,none⟩=some (.slice az m.sums.length cz)) (q2:V.cell? ⟨q,2,none⟩=some (.slice aw m.words.length cw)) (q3:V.cell? ⟨q,3,none⟩=some (.slice ap m.paid.length cp))=>
   Znq m.words.length 106 (by omega) #[.pointer (some ⟨p,0,none⟩),.pointer (some ⟨q,0,none⟩)] (Zkq m) V Z49 (fun s W hs hW=>by
    have h64:=Zk4 m.words.length (by omega)
    exact Zx8 ac az aw ap cc cz cw cp m bm bo p q s E W (hm.mono (hb.trans (hW.mono hb.size))) hv (by omega) (Zab hW hp) (hL.same (hW.block _ hL.lt)) (Zab hW q0) (Zab hW q1) (Zab hW q2) (Zab hW q3)))
  go_enter Tryz.func51,Tryz.ntmps51
  go_wp2_with (first
   |(go_at_call 105;go_must (refine(F.out bm bo _ w.heap.size _ _ (Zaf hQ3) hpc hL3 e0 e1 e2 e3).mono ?_;rintro e w4 ⟨v4,best,found,rfl,hv4,hf4,hb4⟩;have hF4:=LH (HF.out best found hf4.out);dsimp only))
   |(go_at_call 60;go_must (refine C.out.mono ?_;rintro e w2 ⟨v2,rfl,h2,hb2,_⟩;obtain⟨bm,bo,rfl,hLW⟩:=h2 HX.out;have hL:=hLW.blk;rw[HN.out] at hL;have hQ2:=Zaz hQ hb2;have hz2:=hQ2.size;have hz2:w.heap.size+1≤w2.heap.size:=by {simpa using hz2};have hQ3:=hQ2.alloc hz2 (.cells #[.pointer (some ⟨bm,0,none⟩)] 120);have hL3:=hL.same (heap_alloc_old _ (.cells #[.pointer (some ⟨bm,0,none⟩)] 120) hL.lt);have hpc:=Zaj (Below.refl _ (w2.alloc (.cells #[.pointer (some ⟨bm,0,none⟩)] 120))) 0 _ rfl;obtain⟨e0,e1,e2,e3⟩:=Zax hQ3;obtain⟨d0,d1,d2,d3⟩:=Zax hQ2;have hbz2:=Zai hQ2;dsimp only)))
  all_goals
   have hQ4:=Zaz hQ3 hb4
   go_ret2
   rcases hF4.out with⟨g1,g2,g3⟩|⟨g1,g2,g3⟩
   ·first
    |exact⟨v4,by rw[g2];rfl,by rw[←g3];exact hv4,Zaf hQ4⟩
    |(simp_all;done)
   ·first
    |exact⟨_,by rw[g2];rfl,by rw[g3];exact⟨none,0,rfl,⟨by simp,by omega,fun _=>rfl⟩,Zaw.nil _ _⟩,Zaf hQ4⟩
    |(simp_all;done)
 ·have g1:=Zcp he
  have HX:=LH he
  have HE:=LH (HE.out he)
  clear he
  go_enter Tryz.func51,Tryz.ntmps51
  go_wp2_with (go_at_call 60;go_must (refine C.out.mono ?_;rintro e w2 ⟨v2,rfl,h2,hb2,h3⟩;obtain rfl:=h3 HX.out;have hQ2:=Zaz hQ hb2;have hz2:=hQ2.size;dsimp only))
  go_ret2
  rw[HE.out]
  exact⟨_,rfl,⟨none,0,rfl,⟨by simp,by omega,fun _=>rfl⟩,Zaw.nil _ _⟩,Zaf (hQ2.alloc (by simpa using hz2) _)⟩
end
section
open Go Go.RowKit
theorem Z0p (x:MoPaid) (s:Int) (p:Nat) (w:World) (h:w.cell? ⟨p,0,none⟩=some (.int .i64 s)):
  Calls Tryz.prog 109 #[.agg #[.int .i64 x.sum,.int .i64 x.claimant],.pointer (some ⟨p,0,none⟩)] w fun e w'=>e=.returned (.bool (decide (x.sum=s)))∧Below w.heap.size w w':=by
 obtain⟨su,cl⟩:=x
 simp only
 have hp:=Zag h
 by_cases he:su=s
 ·have e2:=Zdv he
  go_enter Tryz.func109,Tryz.ntmps109
  go_wp2
  go_ret
  exact⟨Zaq (by simp[he]),by go_grown⟩
 ·have e2:=Zc4 he
  go_enter Tryz.func109,Tryz.ntmps109
  go_wp2
  go_ret
  exact⟨Zaq (by simp[he]),by go_grown⟩
theorem Zoj (a:Option Addr) (l:List MoPaid) (c:Nat) (s:Int) (p:Nat) (w:World) (hl:l.length≤9223372036854775807) (hi':Zru w a l) (h:w.cell? ⟨p,0,none⟩=some (.int .i64 s)):
  Calls Tryz.prog 148 #[.slice a l.length c,.func (.func 109) #[] #[.pointer (some ⟨p,0,none⟩)]] w fun e w'=>∃k:Int,e=.returned (.int .i64 k)∧Hid (decide (0≤k)=l.any fun x=>decide (x.sum=s))∧Below w.heap.size w w':=by
 go_enter Tryz.func148,Tryz.ntmps148
 go_wp2
 go_loopw [8] (fun i wr=>∃k:Nat,k≤l.length∧i=.int .i64 k∧Hid (∀j (_:j<k) (h:j<l.length),decide (l[j].sum=s)=false)∧Below w.heap.size w wr) (fun i _=>l.length-(intOf i).toNat)
 case atStart=>exact⟨0,Nat.zero_le _,rfl,LH (fun j h=>absurd h (Nat.not_lt_zero j)),Below.refl _ _⟩
 case round=>
  obtain⟨k,hk,rfl,HR,hbw⟩:=hrel
  by_cases hlt:k<l.length
  ·obtain⟨b,off,rfl,hb,hx1,hx2⟩:=hi'.mono hbw k hlt
   have B:=Z0p l[k] s p wr (Zab hbw h)
   have HT:=LH (fun(h:decide (l[k].sum=s)=true)=>(Zo0 (f:=fun x:MoPaid=>decide (x.sum=s)) hlt h:l.any (fun x=>decide (x.sum=s))=true))
   have HN:=LH (fun(h:decide (l[k].sum=s)=false)=>show ∀j (_:j<k+1) (h:j<l.length),decide (l[j].sum=s)=false from fun j hj hjl=>if hjk:j<k then HR.out j hjk hjl else (by have e:j=k:=(by omega);subst e;exact h))
   generalize decide (l[k].sum=s)=br at B HT HN
   have B:=LH B
   cases br
   ·go_wp2_with (go_at_call 109;go_must (refine B.out.mono ?_;rintro e w2 ⟨rfl,hb2⟩;dsimp only))
    go_roundw
    case rel=>exact⟨k+1,by omega,by go_num,LH (HN.out (by trivial)),hbw.trans (hb2.mono hbw.size)⟩
    case measure=>simp[intOf];omega
   ·go_wp2_with (go_at_call 109;go_must (refine B.out.mono ?_;rintro e w2 ⟨rfl,hb2⟩;dsimp only))
    go_ret
    exact⟨_,rfl,LH (by rw[HT.out (by trivial)];simp),hbw.trans (hb2.mono hbw.size)⟩
  ·obtain rfl:k=l.length:=by omega
   go_wp2
   go_ret
   exact⟨_,rfl,LH (by rw[Zlc (f:=fun x:MoPaid=>decide (x.sum=s)) (fun j h=>HR.out j h h)];simp),hbw⟩
theorem Zk0 (a:Option Addr) (l:List MoPaid) (c:Nat) (s:Int) (p:Nat) (w:World) (hl:l.length≤9223372036854775807) (hi':Zru w a l) (h:w.cell? ⟨p,0,none⟩=some (.int .i64 s)):
  Calls Tryz.prog 108 #[.slice a l.length c,.func (.func 109) #[] #[.pointer (some ⟨p,0,none⟩)]] w fun e w'=>e=.returned (.bool (l.any fun x=>decide (x.sum=s)))∧Below w.heap.size w w':=by
 have I:=LH (Zoj a l c s p w hl hi' h)
 obtain⟨r,hr⟩:∃r,r=l.any fun x=>decide (x.sum=s):=⟨_,rfl⟩
 rw[←hr] at I ⊢
 clear hr
 go_enter Tryz.func108,Tryz.ntmps108
 cases r
 ·go_wp2_with (go_at_call 148;go_must (refine I.out.mono ?_;rintro e w2 ⟨k,rfl,hk,hb2⟩;have hk2:¬0≤k:=of_decide_eq_false hk.out;dsimp only))
  go_ret
  exact⟨rfl,hb2⟩
 ·go_wp2_with (go_at_call 148;go_must (refine I.out.mono ?_;rintro e w2 ⟨k,rfl,hk,hb2⟩;have hk2:0≤k:=of_decide_eq_true hk.out;dsimp only))
  go_ret
  exact⟨rfl,hb2⟩
theorem Z5w (m:MoList) (hc:m.claimants.length≤4) (j:Nat) (hj:j<m.sums.length):hasB (Zel m (Zao m)) j=!oneB (Zcu (Zao m) j):=by
 rw[Zht m hc,Bool.eq_iff_iff,Zj2,List.mem_map]
 constructor
 ·rintro⟨i,hi,e⟩
  have:=(List.mem_filter.1 hi).2
  have e:i=j:=by omega
  subst e
  exact this
 ·intro h
  exact⟨j,List.mem_filter.2 ⟨by simpa using hj,h⟩,rfl⟩
theorem Zv2 (m:MoList) (l:List Int) (j:Nat) (h:Zxr m j=true):Zcl m l (j+1)=Zcl m l j:=by rw[Zcl,if_pos h]
theorem Zz3 (m:MoList) (l:List Int) (j:Nat) (h:Zxr m j=false) (h2:hasB l j=false):Zcl m l (j+1)=((Zcl m l j).1+Zda m j,(Zcl m l j).2+Zda m j):=by rw[Zcl,if_neg (by simp[h]),if_neg (by simp[h2])]
theorem Z1v (m:MoList) (l:List Int) (j:Nat) (h:Zxr m j=false) (h2:hasB l j=true):Zcl m l (j+1)=((Zcl m l j).1,(Zcl m l j).2+Zda m j):=by rw[Zcl,if_neg (by simp[h]),if_pos h2];simp
theorem Z6t (m:MoList):Zlo m=if Za0 m=0 then ((Zcl m (Zel m (Zao m)) m.sums.length).1,(Zcl m (Zel m (Zao m)) m.sums.length).2,0) else (0,0,Za0 m):=by
 unfold Zlo Zft
 by_cases h:Za0 m=0
 ·simp[h]
 ·simp[h]
end
section
open Go Go.RowKit
theorem Z03 (ac az aw ap:Option Addr) (cc cz cw cp:Nat) (m:MoList) (w:World) (hm:ListC w ac az aw ap cc cz cw cp m):
  Calls Tryz.prog 53 #[(.agg #[.slice ac m.claimants.length cc,.slice az m.sums.length cz,.slice aw m.words.length cw,.slice ap m.paid.length cp])] w fun e w'=>e=.returned (.tuple #[.int .i64 (Zlo m).1,.int .i64 (Zlo m).2.1,.int .i64 (Zlo m).2.2])∧Below w.heap.size w w':=by
 have HV:=LH (fun h:Za0 m=0=>Zec h)
 have HE:=LH (Z6t m)
 have hQ:=Below.refl (w.heap.size+1) (w.alloc (.cells #[.slice ac m.claimants.length cc,.slice az m.sums.length cz,.slice aw m.words.length cw,.slice ap m.paid.length cp] 54))
 obtain⟨c0,c1,c2,c3⟩:=Zax hQ
 have hbz:=Zai hQ
 have C:=Zgw ac az aw ap cc cz cw cp m 0 none [] 0 (w.alloc (.cells #[.slice ac m.claimants.length cc,.slice az m.sums.length cz,.slice aw m.words.length cw,.slice ap m.paid.length cp] 54)) (hm.mono (Zaf hQ)) (by decide) (by decide) (by decide) (Zaw.nil _ _)
 rw[Ze9] at C
 have HN:=LH (Zdz m)
 replace C:=LH C
 generalize Zlo m=r at HE ⊢
 generalize Za0 m=er at C HE HV
 by_cases he:er=0
 ·have g1:=Zdf he
  obtain⟨hv,hpos⟩:=HV.out he
  replace HE:=LH (HE.out.trans (if_pos he))
  have HX:=LH he
  have hz5:=hv.nz
  clear he
  have h4:=hm.okp.len
  have SU:=LH (fun(bm bo j:Nat) (hj:j<m.sums.length) (V:World) (hL:LBlk V bm ac az aw ap cc cz cw cp m (Zau m 0) bo (Zc9 m (Zao m)))=>Znh ac az aw ap cc cz cw cp m bm bo (Zau m 0) j (Zc9 m (Zao m)) (Zcu (Zao m) j) (Zf0 m hv.nc j) (by unfold Zc9;rw[List.getElem?_map,List.getElem?_range (by omega)];simp[Ze2,hj]) (Zla m _) V hL)
  have HH:=LH (fun(j:Nat) (hj:j<m.sums.length)=>Z5w m hv.nc j hj)
  have HBD:=LH (Zrp m hv (Zel m (Zao m)))
  have HPY:=LH (Zv2 m (Zel m (Zao m)))
  have HYS:=LH (Zz3 m (Zel m (Zao m)))
  have HNO:=LH (Z1v m (Zel m (Zao m)))
  have HPB:=LH (Zq8 m hv)
  have HPE:=LH (Zor m)
  generalize Zel m (Zao m)=U at HE HH HBD HPY HYS HNO
  have PC:=LH (fun(s:Int) (p:Nat) (V:World) (hb:Below w.heap.size w V) (h:V.cell? ⟨p,0,none⟩=some (.int .i64 s))=>Zk0 ap m.paid cp s p V h4 (hm.mono hb).paid h)
  go_enter Tryz.func53,Tryz.ntmps53
  go_wp2_with (go_at_call 60;go_must (refine C.out.mono ?_;rintro e w2 ⟨v2,rfl,h2,hb2,_⟩;obtain⟨bm,bo,rfl,hLW⟩:=h2 HX.out;have hL:=hLW.blk;rw[HN.out] at hL;have hQ2:=Zaz hQ hb2;obtain⟨d0,d1,d2,d3⟩:=Zax hQ2;have hbz2:=Zai hQ2;dsimp only))
  have hl:=hL.lt
  go_loopw [2,3,19] (fun s a i wr=>∃j:Nat,j≤m.sums.length∧i=.int .i64 j∧s=.int .i64 (Zcl m U j).1∧a=.int .i64 (Zcl m U j).2∧Below w2.heap.size w2 wr) (fun _ _ i _=>m.sums.length-(intOf i).toNat)
  case atStart=>exact⟨0,Nat.zero_le _,rfl,rfl,rfl,Below.refl _ _⟩
  case round=>
   obtain⟨j,hj,rfl,rfl,rfl,hb⟩:=hrel
   clear d0 d1 d2 d3 hbz2
   have hQ3:=Zaz hQ2 hb
   obtain⟨d0,d1,d2,d3⟩:=Zax hQ3
   have hbz3:=Zai hQ3
   by_cases hlt:j<m.sums.length
   ·obtain⟨b,off,rfl,hb0,z0,z1,z2⟩:=(hm.mono (Zaf hQ3)).sums j hlt
    have hpe:=HPE.out j hlt
    have hpb:=HPB.out j
    have P1:=LH (HPY.out j)
    have P2:=HYS.out j
    have P3:=HNO.out j
    have hh:=HH.out j hlt
    have S:=fun V hL=>SU.out bm bo j hlt V hL
    have bd:=HBD.out j
    rw[hh] at P2 P3
    rw[hpe] at P2 P3 hpb
    clear hh hpe
    generalize m.sums[j].name=nm at z0
    generalize m.sums[j].pence=pe at z1 P2 P3 hpb
    generalize m.sums[j].for_=fo at z2
    generalize oneB (Zcu (Zao m) j)=ob at P2 P3 S
    generalize Zcl m U j=nj at P1 P2 P3 bd
    obtain⟨n1,n2⟩:=nj
    simp only at bd
    obtain⟨⟨bd1,bd2⟩,bd3,bd4⟩:=bd
    have PB:=fun p V hb h=>PC.out (j:Int) p V hb h
    have hPB:m.paid.any (fun x=>decide (x.sum=(j:Int)))=Zxr m j:=rfl
    rw[hPB] at PB
    clear hPB
    generalize Zxr m j=pb at P1 P2 P3 PB
    replace PB:=LH PB
    replace P2:=LH P2
    replace P3:=LH P3
    replace S:=LH S
    have hQ5:=(hQ3.alloc (by omega) (.cells #[.int .i64 (j:Int)] 3)).alloc (by simp;omega) (.cells #[.string nm,.int .i64 pe,.int .i64 fo] 62)
    have hcj:((wr.alloc (.cells #[.int .i64 (j:Int)] 3)).alloc (.cells #[.string nm,.int .i64 pe,.int .i64 fo] 62)).cell? ⟨wr.heap.size,0,none⟩=some (.int .i64 (j:Int)):=by simp
    cases pb
    ·cases ob
     ·go_wp2_with (first
       |(go_at_call 61;go_must (refine(S.out _ hL4).mono ?_;rintro e w4 ⟨rfl,q,rfl⟩;dsimp only))
       |(go_at_call 108;go_must (refine(PB.out _ _ (Zaf hQ5) hcj).mono ?_;rintro e w3 ⟨rfl,hb3⟩;have hb4:Below w2.heap.size w2 w3:=((hb.alloc hb.size _).alloc (by simp;have:=hb.size;omega) _).trans (hb3.mono (by simp;have:=hb.size;omega));have hL4:=hL.same (hb4.block _ hl);have x0:w3.cell? ⟨wr.heap.size,0,none⟩=some (.int .i64 (j:Int)):=(hb3.cell (p:=⟨wr.heap.size,0,none⟩) (by simp;omega)).trans hcj;have x1:w3.cell? ⟨wr.heap.size+1,1,none⟩=some (.int .i64 pe):=(hb3.cell (p:=⟨wr.heap.size+1,1,none⟩) (by simp)).trans (by simp);have x2:=Zag x0;have x3:=Zag x1;dsimp only)))
      go_roundw
      case rel=>exact⟨j+1,by omega,by go_num,by rw[P3.out rfl rfl],by rw[P3.out rfl rfl],Zan hb4 q⟩
      case measure=>simp[intOf];omega
     ·go_wp2_with (first
       |(go_at_call 61;go_must (refine(S.out _ hL4).mono ?_;rintro e w4 ⟨rfl,q,rfl⟩;dsimp only))
       |(go_at_call 108;go_must (refine(PB.out _ _ (Zaf hQ5) hcj).mono ?_;rintro e w3 ⟨rfl,hb3⟩;have hb4:Below w2.heap.size w2 w3:=((hb.alloc hb.size _).alloc (by simp;have:=hb.size;omega) _).trans (hb3.mono (by simp;have:=hb.size;omega));have hL4:=hL.same (hb4.block _ hl);have x0:w3.cell? ⟨wr.heap.size,0,none⟩=some (.int .i64 (j:Int)):=(hb3.cell (p:=⟨wr.heap.size,0,none⟩) (by simp;omega)).trans hcj;have x1:w3.cell? ⟨wr.heap.size+1,1,none⟩=some (.int .i64 pe):=(hb3.cell (p:=⟨wr.heap.size+1,1,none⟩) (by simp)).trans (by simp);have x2:=Zag x0;have x3:=Zag x1;dsimp only)))
      go_roundw
      case rel=>exact⟨j+1,by omega,by go_num,by rw[P2.out rfl rfl],by rw[P2.out rfl rfl],Zan hb4 q⟩
      case measure=>simp[intOf];omega
    ·go_wp2_with (go_at_call 108;go_must (refine(PB.out _ _ (Zaf hQ5) hcj).mono ?_;rintro e w3 ⟨rfl,hb3⟩;dsimp only))
     go_roundw
     case rel=>exact⟨j+1,by omega,by go_num,by rw[P1.out rfl],by rw[P1.out rfl],((hb.alloc hb.size _).alloc (by simp;have:=hb.size;omega) _).trans (hb3.mono (by simp;have:=hb.size;omega))⟩
     case measure=>simp[intOf];omega
   ·obtain rfl:j=m.sums.length:=by omega
    go_wp2
    go_ret3
    rw[HE.out]
    exact⟨rfl,Zaf hQ3⟩
 ·have g1:=Zcp he
  have HX:=LH he
  replace HE:=LH (HE.out.trans (if_neg he))
  clear he
  go_enter Tryz.func53,Tryz.ntmps53
  go_wp2_with (go_at_call 60;go_must (refine C.out.mono ?_;rintro e w2 ⟨v2,rfl,h2,hb2,h3⟩;obtain rfl:=h3 HX.out;have hQ2:=Zaz hQ hb2;dsimp only))
  go_ret3
  rw[HE.out]
  exact⟨rfl,Zaf hQ2⟩
end
section
open Go Go.RowKit
end
section
open Go Go.RowKit
end
end Go.Proofs.YtklconegomgjaaaGreat
