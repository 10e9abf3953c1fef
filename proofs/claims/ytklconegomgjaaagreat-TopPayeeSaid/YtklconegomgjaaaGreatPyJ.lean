/- What is proved here: the contract of Years of the reference of layer 3: where all its spans have a year, the program finds years, too. Conditions: the town can be looked at; persons of all mentions. -/
import Derived.Test.YtklconegomgjaaaGreatPyIG
import Derived.Test.YtklconegomgjaaaGreatErEG
set_option linter.all false
set_option maxRecDepth 100000
set_option maxHeartbeats 16000000
namespace Go.Proofs.YtklconegomgjaaaGreat
open Go Go.RowKit Go.Shelf
attribute [local go_sem] Zfo Zfs
def Zms (t:PeW) (p:List Int) (w:World) (e:Ending) (w':World):Prop:=∃a l c,e=.returned (.slice a (l:List (Int × Int)).length c)∧SlOk a l.length c∧Zhp Zci 2 w' a l∧Hid (Zlu l=false→(Zbr t p).isSome=true)∧Below w.heap.size w w'
theorem Zuo {t:PeW} {p:List Int} (hv:PeOk t) (hq:∀i,0≤pAt p i∧pAt p i<6):YearR t p (Zbd t p t.ments.length) true:=by
 obtain⟨h1,h2⟩:=Zmj (t:=t) (q:=p) t.ments.length
 obtain⟨h3,h4⟩:=h2 (fun i _=>⟨(hq i).2,(hq i).1⟩) (Nat.le_refl _) hv
 exact⟨h1,h3,fun _=>⟨1300,rfl,by omega,by omega⟩,fun h=>by cases h⟩
theorem Zwj {W:World} {a:Option Addr} {l:List Int} (h:Zaw W a l) {b o:Nat} {v:Value} (hne:∀ad,a=some ad→ad.block≠b):Zaw (W.setCell ⟨b,o,none⟩ v) a l:=fun i hi=>by
 obtain⟨b',off,e,hb,hc⟩:=h i hi
 have hn:=hne _ e
 exact⟨b',off,e,by simpa using hb,Zdx (Zae hn) hc⟩
theorem Zxu (a1 a2 a3 a4:Option Addr) (k1 k2 k3 k4:Nat) (t:PeW) (a:Option Addr) (p:List Int) (k:Nat) (w:World) (hm:TownC w a1 a2 a3 a4 k1 k2 k3 k4 t) (hv:PeOk t) (ho:SlOk a p.length k) (hi:Zaw w a p) (hlen:p.length=t.ments.length) (hq:∀i,0≤pAt p i∧pAt p i<6):
  Calls Tryz.prog 103 #[(.agg #[.int .i64 t.ear.sounds,.slice a1 t.ear.alphas.length k1,.slice a2 t.ear.spells.length k2,.int .i64 t.vills,.slice a3 t.ments.length k3,.slice a4 t.ties.length k4]),.slice a p.length k] w (Zms t p w):=by
 have l3:=hm.okm.len
 have ll:=ho.len
 have h6:=hv.nm
 have hp6:p.length≤6:=by omega
 obtain⟨Y,hY⟩:∃Y:World,Y=(w.alloc (.cells #[.int .i64 t.ear.sounds,.slice a1 t.ear.alphas.length k1,.slice a2 t.ear.spells.length k2,.int .i64 t.vills,.slice a3 t.ments.length k3,.slice a4 t.ties.length k4] 29)):=⟨_,rfl⟩
 have hbY:Below w.heap.size w Y:=by rw[hY];exact(Below.refl _ _).alloc (Nat.le_refl _) _
 have hB1:Y.heap[w.heap.size]?=some (.cells #[.int .i64 t.ear.sounds,.slice a1 t.ear.alphas.length k1,.slice a2 t.ear.spells.length k2,.int .i64 t.vills,.slice a3 t.ments.length k3,.slice a4 t.ties.length k4] 29 (0,0)):=by rw[hY];exact Zac _ _ rfl
 have HY:=LH hY
 clear hY
 have HM:=LH (hm.mono hbY)
 have HI:=LH (hi.mono hbY)
 have HBY:=LH hbY
 have HV:=LH hv
 have HLN:=LH hlen
 have HQ:=LH hq
 have HO:=LH ho
 obtain⟨m,hmc⟩:∃m:Nat,cntP p p.length=(m:Int):=⟨(cntP p p.length).toNat,by have:=(Zh2 hq p.length).1;omega⟩
 have hm6:m≤6:=by have:=(Zh2 hq p.length).2.1;omega
 have HCM:Hid (∀i,i<t.ments.length→pAt p i<m):=LH (fun i h=>by have:=(Zh2 hq p.length).2.2 i (by omega);omega)
 have CN:Hid (∀W,Below Y.heap.size Y W→Calls Tryz.prog 97 #[.slice a p.length k] W fun e w'=>e=.returned (.int .i64 (m:Int))∧w'=W):=LH (fun W h=>by
  rw[←hmc]
  exact Zkx a p k W HO.out (HI.out.mono h) HQ.out)
 clear hm hi hbY hv hlen hq ho hmc
 have KE:Hid (∀V,Below Y.heap.size Y V→(V.cell? ⟨w.heap.size,4,none⟩=some (.slice a3 t.ments.length k3)∧w.heap.size<V.heap.size)):=LH (fun V h=>by
  have q1:=(h.block _ (lt_of_block hB1)).trans hB1
  exact⟨Zaa 4 q1 rfl,lt_of_block q1⟩)
 clear hB1
 have KP:Hid (∀V,Below Y.heap.size Y V→∀i,i<t.ments.length→∃b off,a=some ⟨b,off,none⟩∧b<V.heap.size∧V.cell? ⟨b,off+i,none⟩=some (.int .i64 (pAt p i))∧i<p.length):=LH (fun V h i hi=>by
  have hi':i<p.length:=by rw[HLN.out];exact hi
  obtain⟨b,off,e,hb,c⟩:=(HI.out.mono h) i hi'
  exact⟨b,off,e,hb,by rw[Zno hi'];exact c,hi'⟩)
 go_enter Tryz.func103,Tryz.ntmps103
 go_upto_region 1 with(fail)
 rw[←HY.out]
 go_upto_region 3 with(fail)
 go_loopw [5,6] (fun o i V=>∃n:Nat,n≤m∧i=.int .i64 n∧V.ownsRow Y.heap.size 36 2 o n (Zbg Zci (Zqo t p n))∧Below Y.heap.size Y V) (fun _ i _=>m-(intOf i).toNat)
 case atStart=>exact⟨0,Nat.zero_le _,rfl,World.ownsRow_nil _ _ _ _,Below.refl _ _⟩
 case round=>
  rename World=>V
  obtain⟨n,hn,rfl,hown,hbV⟩:=hrel
  by_cases hlt:n<m
  ·have HST:=LH (Zy4 t p n)
   have HBL:=LH (Z3k t p n)
   have hn6:n<6:=by omega
   obtain⟨L,hL⟩:∃L,L=ofP p (n:Int) p.length:=⟨_,rfl⟩
   have hL6:L.length≤6:=by rw[hL];exact Nat.le_trans (Z3w _ _ _) hp6
   have HLB:Hid (∀j (hj:j<L.length),∃s:Nat,L[j]=(s:Int)∧s<t.ments.length):=LH (fun j hj=>by
    have h1:L[j]∈ofP p (n:Int) p.length:=by rw[←hL];exact List.getElem_mem hj
    obtain⟨i,e,h2,_⟩:=Zv1.1 h1
    exact⟨i,e,by rw[←HLN.out];exact h2⟩)
   have HBO:Hid (bAt (Zbd t p t.ments.length) n=spF t L):=LH (by rw[hL,HLN.out];exact Z2o HQ.out hn6 _)
   have OF:Hid (∀W,Below Y.heap.size Y W→Calls Tryz.prog 99 #[.slice a p.length k,.int .i64 (n:Int)] W fun e w'=>∃v,e=.returned v∧Zbm W.heap.size w' v L∧Below W.heap.size W w'):=LH (fun W h=>by
    rw[hL]
    exact Z2b a p k (n:Int) W HO.out hp6 (HI.out.mono h))
   clear hL
   rw[HBO.out] at HST
   have hYV:=hbV.size
   go_upto_region 6 with(go_at_call 97;go_must ((with_reducible refine(CN.out _ hbV).mono ?_);rintro e w' ⟨rfl,hw9⟩;obtain rfl:=hw9.symm;dsimp only))
   obtain⟨X,hX⟩:∃X:World,X=V.alloc (.cells #[.int .i64 0,.int .i64 199] 36):=⟨_,rfl⟩
   rw[←hX]
   have hbX:Below V.heap.size V X:=by rw[hX];exact(Below.refl _ _).alloc (Nat.le_refl _) _
   have h7:X.heap[V.heap.size]?=some (.cells #[.int .i64 0,.int .i64 199] 36 (0,0)):=by rw[hX];exact Zac _ _ rfl
   clear hX
   have hbYX:=hbV.trans (hbX.mono hYV)
   go_upto_region 8 with(go_at_call 99;go_must ((with_reducible refine(OF.out _ hbYX).mono ?_);rintro e w2 ⟨v,rfl,⟨al,cl,rfl,hol,hil,hal⟩,hb2⟩;dsimp only))
   have hne:∀ad,al=some ad→ad.block≠V.heap.size:=fun ad e=>by
    have h1:=hal ad e
    have h2:=lt_of_block h7
    omega
   have h72:=(hb2.block _ (lt_of_block h7)).trans h7
   have hbV2:=hbX.trans (hb2.mono hbX.size)
   clear h7 hbX hbYX hb2 hal
   go_loopw [9] (fun i W=>∃(j:Nat) (s:Int × Int),j≤L.length∧i=.int .i64 j∧Hid (spF t (L.take j)=s)∧W.heap[V.heap.size]?=some (.cells #[.int .i64 s.1,.int .i64 s.2] 36 (0,0))∧Zaw W al L∧Below V.heap.size V W) (fun i _=>L.length-(intOf i).toNat)
   case atStart=>exact⟨0,(0,199),Nat.zero_le _,rfl,LH rfl,h72,hil,hbV2⟩
   case round=>
    clear h72 hil hbV2
    rename World=>W
    obtain⟨j,⟨sl,sh⟩,hj,rfl,HSP,h7,hiW,hbW⟩:=hrel
    simp only at h7
    have hll:=hol.len
    by_cases hjl:j<L.length
    ·obtain⟨s,hs,hst⟩:=HLB.out j hjl
     obtain⟨bl,ol,hae,hbl,c0⟩:=hiW j hjl
     rw[hs] at c0
     have HNX:Hid (spF t (L.take (j+1))=(max sl (Zal t s).lo,min sh (Zal t s).hi)):=LH (by
      rw[List.take_succ_eq_append_getElem hjl,Zxk,HSP.out,hs,Int.toNat_natCast])
     obtain⟨x4,xz⟩:=KE.out _ (hbV.trans (hbW.mono hYV))
     obtain⟨b',off,hme,hb',-,-,d2,d3,-⟩:=(HM.out.mono (hbV.trans (hbW.mono hYV))).ments s hst
     rw[Zba hst] at HNX
     generalize t.ments[s]=x at *
     obtain⟨xa,xb,xl,xh,xc⟩:=x
     simp only at HNX d2 d3
     clear hs
     subst hae
     subst hme
     go_upto_region 10 with(fail)
     go_cut [10] from 34 to 42 (fun v U=>∃p10,v=.pointer (some ⟨p10,0,none⟩)∧W.heap.size≤p10∧Below W.heap.size W U∧U.heap[p10]?=some (.cells #[.int .i64 xl,.int .i64 xh] 36 (0,0)))
     case first=>
      (focus go_region)
      all_goals
       go_wp2
       go_meet
       case rel=>exact⟨_,rfl,Nat.le_refl _,Zah ((Below.refl _ _).alloc (Nat.le_refl _) _),Zac _ _ rfl⟩
     case rest=>
      obtain⟨p10,rfl,hp10,hbU,h10⟩:=hcut
      rename World=>U
      have h7z:=lt_of_block h7
      have h7U:=(hbU.block _ h7z).trans h7
      have hiU:=hiW.mono hbU
      have hbVU:=hbW.trans (hbU.mono hbW.size)
      have y0:=Zaa 0 h7U rfl
      have y1:=Zaa 1 h7U rfl
      have f0:=Zad 0 h7U
      have f1:=Zad 1 h7U
      have yz:=lt_of_block h7U
      have z0:=Zaa 0 h10 rfl
      have z1:=Zaa 1 h10 rfl
      have zz:=lt_of_block h10
      simp only[List.getElem_toArray,List.getElem_cons_zero,List.getElem_cons_succ] at y0 y1 z0 z1
      clear h7 h10 hbU hiW hbW x4 xz d2 d3 c0 hbl hb'
      go_wp2
      go_roundw
      case rel=>exact⟨j+1,(max sl xl,min sh xh),by omega,by go_num,HNX,Zak 1 _ (Zak 0 _ h7U),Zwj (Zwj hiU hne) hne,(hbVU.setCell (Nat.le_refl _) _).setCell (Nat.le_refl _) _⟩
      case measure=>simp[intOf];omega
    ·have hHS:Hid (spF t L=(sl,sh)):=LH (by rw[←HSP.out,List.take_of_length_le (by omega)])
     have y0:=Zaa 0 h7 rfl
     have y1:=Zaa 1 h7 rfl
     have yz:=lt_of_block h7
     simp only[List.getElem_toArray,List.getElem_cons_zero,List.getElem_cons_succ] at y0 y1
     have hownW:=Zc6 hown hbW
     have hbYW:=hbV.trans (hbW.mono hYV)
     have hzW:=hbYW.size
     rw[hHS.out] at HST
     clear hHS hown hbW hbV h7 hiW
     generalize Zqo t p n=B at hownW HST HBL
     go_wp2_with (at_builtin;go_must (refine Zbs (.tmp 54) (.tmp 56) Z9p rfl rfl rfl rfl Y.heap.size n 1 (Zbg Zci B) [.int .i64 sl,.int .i64 sh] (hownW.alloc _) (Za2.span1 _ _ _ _) (by omega) (by decide) (by simp;omega) ?_;intro v2 w2 ho2 hg2 _;(have hb2:=Zdw hbYW (Nat.le_refl _) (Nat.le_refl _) hownW hg2);clear hg2;simp only[frT]))
     go_roundw
     case rel=>exact⟨n+1,by omega,by go_num,by rw[HST.out,←Zgd];exact ho2,hb2⟩
     case measure=>simp[intOf];omega
  ·obtain rfl:n=m:=by omega
   clear hlt hn
   rw[Zzn hm6] at hown
   have HQ0:Hid (YearQ t p n (Zbd t p t.ments.length) true):=LH ⟨Zf5 t p _,Zrf HQ.out HCM.out _ (Nat.le_refl _),fun _ _=>Zuo HV.out HQ.out,fun h=>by cases h⟩
   go_upto_region 14 with(go_at_call 97;go_must ((with_reducible refine(CN.out _ hbV).mono ?_);rintro e w' ⟨rfl,hw9⟩;obtain rfl:=hw9.symm;dsimp only))
   go_loopw [11] (fun mv W=>∃(mb:Bool) (L:List (Int × Int)),mv=.bool mb∧Hid (YearQ t p n L mb)∧W.ownsRow Y.heap.size 36 2 u5 n (Zbg Zci (L.take n))∧Below Y.heap.size Y W) (fun mv W=>2*(wO W u5 n+1).toNat+(match mv with|.bool true=>1|_=>0))
   case atStart=>exact⟨true,_,rfl,HQ0,hown,hbV⟩
   case round=>
    clear hown hbV HQ0
    rename World=>W
    obtain⟨mb,L,rfl,HY2,hown,hbW⟩:=hrel
    have HW:=LH (Z9v HY2.out.len HY2.out.tail hm6 hown)
    obtain⟨hk,ar,cr,hov,hso,hfl⟩:=Zjn Zg7 (by decide) hown
    have hee:=Zv9 HY2.out.len hm6 HY2.out.tail
    have EM:=fun(U:World) (h:Below W.heap.size W U)=>Zpt ar (L.take n) cr W hso hfl
    rw[hee,←hk] at EM
    have HFL:=LH (⟨hk,hso,hfl⟩:n=(L.take n).length∧SlOk ar (L.take n).length cr∧Zhp Zci 2 W ar (L.take n))
    have HEE:=LH hee
    rw[←hk] at hov
    clear hk hso hfl hee
    replace EM:=LH (EM W (Below.refl _ _))
    subst hov
    cases mb
    ·have HR:Hid (Zms t p w (.returned (.slice ar n cr)) W):=LH ⟨ar,L.take n,cr,by rw[←HFL.out.1],HFL.out.2.1,HFL.out.2.2,LH (fun h=>HY2.out.stop rfl (by rw[←HEE.out];exact h)),HBY.out.trans (hbW.mono HBY.out.size)⟩
     go_wp2
     go_ret
     exact HR.out
    ·cases he:Zet L
     ·rw[he] at EM
      have HE:=LH he
      clear he
      have HN0:=LH (HY2.out.go rfl HE.out)
      have hLlen:=HY2.out.len
      go_upto_region 17 with(go_at_call 102;go_must ((with_reducible refine EM.out.mono ?_);rintro e w5 ⟨rfl,hb5⟩;dsimp only))
      have hownX:=Zc6 hown hb5
      have hbX:=hbW.trans (hb5.mono hbW.size)
      clear hown hb5 EM HFL HEE
      go_loopw [11,12] (fun mv i U=>∃(k2:Nat) (M:List (Int × Int)) (mm:Bool),k2≤t.ments.length∧i=.int .i64 k2∧mv=.bool mm∧Hid (Za4 t p L k2=(M,mm))∧Hid (YearI t p L k2)∧U.ownsRow Y.heap.size 36 2 (.slice ar n cr) n (Zbg Zci (M.take n))∧Below Y.heap.size Y U) (fun _ i _=>t.ments.length-(intOf i).toNat)
      case atStart=>exact⟨0,L,false,Nat.zero_le _,rfl,rfl,LH rfl,LH (Zro hLlen HN0.out.bnd),hownX,hbX⟩
      case round=>
       clear hownX hbX
       rename World=>U
       obtain⟨k2,M,mm,hk2,rfl,rfl,HYT,HYI,hown,hbU⟩:=hrel
       obtain⟨x4,xz⟩:=KE.out _ hbU
       by_cases hlt:k2<t.ments.length
       ·obtain⟨b',off,hme,hb',-,-,-,-,d4⟩:=(HM.out.mono hbU).ments k2 hlt
        have hvl:=HV.out.ment k2 hlt
        have hms:=Zba hlt
        rw[←hms] at hvl d4
        clear hms
        obtain⟨-,-,-,-,v1,v2,-⟩:=hvl
        subst hme
        by_cases e0:(Zal t k2).par=-1
        ·have e1:=Zdv e0
         have HYT2:Hid (Za4 t p L (k2+1)=(M,mm)):=LH (by rw[Zdp e0];exact HYT.out)
         have HYI2:=LH (HYI.out.skip e0)
         clear e0
         generalize (Zal t k2).par=xp at *
         go_wp2
         go_roundw
         case rel=>exact⟨k2+1,M,mm,by omega,by go_num,rfl,HYT2,HYI2,hown,hbU⟩
         case measure=>simp[intOf];omega
        ·obtain⟨np,hnp⟩:∃np:Nat,(Zal t k2).par=(np:Int):=⟨(Zal t k2).par.toNat,by omega⟩
         have hnt:np<t.ments.length:=by omega
         obtain⟨n0,hn0⟩:∃n0:Nat,pAt p k2=(n0:Int):=⟨(pAt p k2).toNat,by have:=HQ.out k2;omega⟩
         obtain⟨pp,hpp⟩:∃pp:Nat,pAt p np=(pp:Int):=⟨(pAt p np).toNat,by have:=HQ.out np;omega⟩
         have hn0n:n0<n:=by have:=HCM.out k2 hlt;omega
         have hppn:pp<n:=by have:=HCM.out np hnt;omega
         have HYI2:=LH (HYI.out.own hnp hn0 hpp (by omega) (by omega))
         have HYT2:Hid (Za4 t p L (k2+1)=((fewB M pp n0).1,mm||(fewB M pp n0).2)):=LH (by rw[Zib hnp hn0 hpp,HYT.out])
         have HML:Hid (M.length=6):=LH (by have:=HYI.out.len;rw[HYT.out] at this;exact this)
         have hMB:Bnd (15*k2) M:=by have:=HYI.out.bnd;rw[HYT.out] at this;exact this
         have h1:=hMB pp (by omega)
         have h2:=hMB n0 (by omega)
         have hk26:k2≤6:=by omega
         clear hMB
         obtain⟨g,rfl⟩:∃g,ar=some ⟨g,0,none⟩:=by
          rcases hown.2 with⟨h,h0⟩|⟨g,cap,cur,h,_⟩
          ·omega
          ·cases h;exact⟨g,rfl⟩
         have KQ:Hid (∀V,Below Y.heap.size Y V→∃b off,a=some ⟨b,off,none⟩∧b<V.heap.size∧V.cell? ⟨b,off+k2,none⟩=some (.int .i64 (n0:Int))∧V.cell? ⟨b,off+np,none⟩=some (.int .i64 (pp:Int))∧k2<p.length∧np<p.length):=LH (fun V h=>by
          obtain⟨bp,op,hae,hbp,c0,cn0⟩:=KP.out _ h k2 hlt
          obtain⟨bp',op',hae',-,c1,cn1⟩:=KP.out _ h np hnt
          have e:=hae.symm.trans hae'
          cases e
          rw[hn0] at c0
          rw[hpp] at c1
          exact⟨bp,op,hae,hbp,c0,c1,cn0,cn1⟩)
         obtain⟨bp,op,hae,hbp,c0,c1,cn0,cn1⟩:=KQ.out _ hbU
         subst hae
         rw[hnp] at d4 e0
         have e1:=Zc4 e0
         have hl0:n0<(M.take n).length:=by rw[List.length_take,HML.out];omega
         have hlp:pp<(M.take n).length:=by rw[List.length_take,HML.out];omega
         obtain⟨y0,y1,-,-,gz,gB⟩:=Zkc hown hl0
         obtain⟨x0,x1,-,-,-,-⟩:=Zkc hown hlp
         have HL0:=LH hl0
         have HLP:=LH hlp
         rw[Zq4 hn0n] at y0 y1
         rw[Zq4 hppn] at x0 x1
         clear e0 v1 v2 hnp hn0 hpp hl0 hlp
         generalize hx:bAt M pp=x at x0 x1 h1
         generalize hy:bAt M n0=y at y0 y1 h2
         obtain⟨xl,xh⟩:=x
         obtain⟨yl,yh⟩:=y
         simp only at x0 x1 y0 y1 h1 h2
         have HXY:=LH (⟨hx,hy⟩:bAt M pp=(xl,xh)∧bAt M n0=(yl,yh))
         clear hx hy
         go_upto_region 21 with(fail)
         go_cut [14,15] from 79 to 92 (fun u v G=>∃q14 q15:Nat,u=.pointer (some ⟨q14,0,none⟩)∧v=.pointer (some ⟨q15,0,none⟩)∧q14≠q15∧U.heap.size≤q14∧U.heap.size≤q15∧Below U.heap.size U G∧G.heap[q14]?=some (.cells #[.int .i64 yl,.int .i64 yh] 36 (0,0))∧G.heap[q15]?=some (.cells #[.int .i64 xl,.int .i64 xh] 36 (0,0)))
         case first=>
          (focus go_region)
          all_goals
           go_wp2
           go_meet
           case rel=>
            first
            |exact⟨_,_,rfl,rfl,by omega,by omega,by omega,Zah (((Below.refl _ _).alloc (Nat.le_refl _) _).alloc (by simp) _),(heap_alloc_old _ _ (by simp)).trans (Zac _ _ rfl),Zac _ _ (by simp)⟩
            |exact⟨_,_,rfl,rfl,by omega,by omega,by omega,Zah (((Below.refl _ _).alloc (Nat.le_refl _) _).alloc (by simp) _),Zac _ _ (by simp),(heap_alloc_old _ _ (by simp)).trans (Zac _ _ rfl)⟩
         case rest=>
          obtain⟨p7,p8,rfl,rfl,hne,hz7,hz8,hb1,h7,h8⟩:=hcut
          rename World=>G
          have a0:=Zaa 0 h7 rfl
          have a1:=Zaa 1 h7 rfl
          have b0:=Zaa 0 h8 rfl
          have b1:=Zaa 1 h8 rfl
          have az:=lt_of_block h7
          have b8z:=lt_of_block h8
          simp only[List.getElem_toArray,List.getElem_cons_zero,List.getElem_cons_succ] at a0 a1 b0 b1
          have hownG:=Zc6 hown hb1
          have hbYG:=hbU.trans (hb1.mono hbU.size)
          have hYU:=hbU.size
          have hUG:=hb1.size
          have HF:Hid (fewB M pp n0=((M.set pp (max xl (yl-60),min xh (yh-15))).set n0 (max yl (xl+15),min yh (xh+60)),decide (((max xl (yl-60),min xh (yh-15)):Int × Int)≠(xl,xh))||decide (((max yl (xl+15),min yh (xh+60)):Int × Int)≠(yl,yh)))):=LH (by
           unfold fewB Zum Zhm
           rw[HXY.out.1,HXY.out.2])
          have o1:-300≤max xl (yl-60)∧max xl (yl-60)≤500:=by omega
          have o2:-300≤min xh (yh-15)∧min xh (yh-15)≤500:=by omega
          have o3:-300≤max yl (xl+15)∧max yl (xl+15)≤500:=by omega
          have o4:-300≤min yh (xh+60)∧min yh (xh+60)≤500:=by omega
          clear x0 x1 y0 y1 c0 c1 d4 x4 xz hown hb1 hbU hbp hb'
          go_upto_region 24 with(fail)
          generalize max xl (yl-60)=ol at *
          generalize min xh (yh-15)=oh at *
          generalize max yl (xl+15)=ul at *
          generalize min yh (xh+60)=uh at *
          obtain⟨Z,hZ⟩:∃Z:World,Z=(G.alloc (.cells #[.int .i64 ol,.int .i64 oh] 36)).alloc (.cells #[.int .i64 ul,.int .i64 uh] 36):=⟨_,rfl⟩
          rw[←hZ]
          have hbZ:Below G.heap.size G Z:=by rw[hZ];exact((Below.refl _ _).alloc (Nat.le_refl _) _).alloc (by simp) _
          have hOZ:Z.heap[G.heap.size]?=some (.cells #[.int .i64 ol,.int .i64 oh] 36 (0,0)):=by rw[hZ];exact(heap_alloc_old _ _ (by simp)).trans (Zac _ _ rfl)
          have hUZ:Z.heap[G.heap.size+1]?=some (.cells #[.int .i64 ul,.int .i64 uh] 36 (0,0)):=by rw[hZ];exact Zac _ _ (by simp)
          have h7Z:=(hbZ.block _ az).trans h7
          have h8Z:=(hbZ.block _ b8z).trans h8
          have hownZ:=Zc6 hownG hbZ
          have hbYZ:=hbYG.trans (hbZ.mono hbYG.size)
          clear hZ hbZ h7 h8 a0 a1 b0 b1 az b8z hownG hbYG
          have r0:=Zaa 0 hOZ rfl
          have r1:=Zaa 1 hOZ rfl
          have rz:=lt_of_block hOZ
          have s0:=Zaa 0 hUZ rfl
          have s1:=Zaa 1 hUZ rfl
          have sz:=lt_of_block hUZ
          have t0:=Zaa 0 h7Z rfl
          have t1:=Zaa 1 h7Z rfl
          have tz:=lt_of_block h7Z
          have v0:=Zaa 0 h8Z rfl
          have v1:=Zaa 1 h8Z rfl
          have vz:=lt_of_block h8Z
          simp only[List.getElem_toArray,List.getElem_cons_zero,List.getElem_cons_succ] at r0 r1 s0 s1 t0 t1 v0 v1
          have E1:=LH (fun W=>Zmm (a:=ol) (b:=oh) (c:=xl) (d:=xh) ⟨by omega,by omega⟩ ⟨by omega,by omega⟩ ⟨by omega,by omega⟩ ⟨by omega,by omega⟩ W)
          have E2:=LH (fun W=>Zmm (a:=ul) (b:=uh) (c:=yl) (d:=yh) ⟨by omega,by omega⟩ ⟨by omega,by omega⟩ ⟨by omega,by omega⟩ ⟨by omega,by omega⟩ W)
          have HOZ:=LH hOZ
          have HUZ:=LH hUZ
          clear hOZ hUZ h7Z h8Z h1 h2
          go_cut [11] from 119 to 129 (fun v W=>v=.bool (mm||(fewB M pp n0).2)∧W=Z)
          case first=>
           cases mm
           ·by_cases c1:ol=xl∧oh=xh
            ·have hq1:=E1.out
             rw[decide_eq_true c1] at hq1
             have hq2:=E2.out
             have HB2:Hid ((false||(fewB M pp n0).2)=!decide (ul=yl∧uh=yh)):=LH (by
              rw[HF.out]
              simp only[c1.1,c1.2]
              simp[Prod.ext_iff])
             generalize decide (ul=yl∧uh=yh)=dd at hq2 HB2
             clear c1 E1 E2
             go_wp2
             go_meet
             case rel=>exact⟨by rw[HB2.out],rfl⟩
            ·have hq1:=E1.out
             rw[decide_eq_false c1] at hq1
             have HB2:Hid ((false||(fewB M pp n0).2)=true):=LH (by
              rw[HF.out]
              simp only[Bool.or_eq_true,decide_eq_true_eq]
              exact .inr (.inl (fun e=>c1 ⟨congrArg Prod.fst e,congrArg Prod.snd e⟩)))
             clear c1 E1 E2
             go_wp2
             go_meet
             case rel=>exact⟨by rw[HB2.out],rfl⟩
           ·clear E1 E2
            go_wp2
            go_meet
            case rel=>exact⟨by rw[Bool.true_or],rfl⟩
          case rest=>
           obtain⟨rfl,hW2⟩:=hcut
           subst hW2
           clear s0 s1 sz t0 t1 tz v0 v1 vz E1 E2
           rename World=>Z
           obtain⟨bp2,op2,hae2,hbp,c0,c1,-,-⟩:=KQ.out _ hbYZ
           cases hae2
           obtain⟨e0,e1',f0,f1,gz2,-⟩:=Zkc hownZ HLP.out
           have hG1:G.heap.size+1≠g:=by omega
           go_upto_region 25 with(fail)
           (focus go_region)
           obtain⟨Y1,hY1⟩:∃Y1:World,Y1=((Z.setCell ⟨g,pp*2,none⟩ (.int .i64 ol)).setCell ⟨g,pp*2+1,none⟩ (.int .i64 oh)).drew:=⟨_,rfl⟩
           rw[←hY1]
           have hown1:Y1.ownsRow Y.heap.size 36 2 (.slice (some ⟨g,0,none⟩) n cr) n (Zbg Zci ((M.take n).set pp (ol,oh))):=by rw[hY1];exact(Ztb hownZ HLP.out (ol,oh)).drew
           have hbY1:Below Y.heap.size Y Y1:=by rw[hY1];exact Zah ((hbYZ.setCell gB _).setCell gB _)
           have hU1:Y1.heap[G.heap.size+1]?=some (.cells #[.int .i64 ul,.int .i64 uh] 36 (0,0)):=by rw[hY1];exact(((Zae hG1).trans (Zae hG1))).trans HUZ.out
           clear hY1 e0 e1' f0 f1 gz2 hbp c0 c1 hownZ hbYZ r0 r1 rz HUZ HOZ
           obtain⟨bp2,op2,hae2,hbp,c0,c1,-,-⟩:=KQ.out _ hbY1
           cases hae2
           have HL01:n0<((M.take n).set pp (ol,oh)).length:=by rw[List.length_set];exact HL0.out
           have HL1:=LH HL01
           clear HL01
           obtain⟨e0,e1',f0,f1,gz2,-⟩:=Zkc hown1 HL1.out
           have q0:=Zaa 0 hU1 rfl
           have q1:=Zaa 1 hU1 rfl
           have qz:=lt_of_block hU1
           simp only[List.getElem_toArray,List.getElem_cons_zero,List.getElem_cons_succ] at q0 q1
           clear hU1
           go_upto_region 26 with(fail)
           (focus go_region)
           obtain⟨Y2,hY2⟩:∃Y2:World,Y2=((Y1.setCell ⟨g,n0*2,none⟩ (.int .i64 ul)).setCell ⟨g,n0*2+1,none⟩ (.int .i64 uh)).drew:=⟨_,rfl⟩
           rw[←hY2]
           have hown2:Y2.ownsRow Y.heap.size 36 2 (.slice (some ⟨g,0,none⟩) n cr) n (Zbg Zci ((fewB M pp n0).1.take n)):=by
            rw[hY2]
            have h:=(Ztb hown1 HL1.out (ul,uh)).drew
            rw[take_set,take_set] at h
            rw[HF.out]
            exact h
           have hbY2:Below Y.heap.size Y Y2:=by rw[hY2];exact Zah ((hbY1.setCell gB _).setCell gB _)
           clear hY2 e0 e1' f0 f1 gz2 hbp c0 c1 hown1 hbY1 q0 q1 qz
           generalize (fewB M pp n0).1=M2 at *
           generalize (fewB M pp n0).2=m2 at *
           go_wp2
           go_roundw
           case rel=>exact⟨k2+1,M2,mm||m2,by omega,by go_num,rfl,HYT2,HYI2,hown2,hbY2⟩
           case measure=>simp[intOf];omega
       ·obtain rfl:k2=t.ments.length:=by omega
        have hI:=HYI.out
        have ht:=Zn1 HQ.out HCM.out HV.out hLlen HY2.out.tail _ (Nat.le_refl _)
        obtain⟨hQ2,hw1,hw2,hw3⟩:=HY2.out.next HE.out hI ht
        rw[HYT.out] at hQ2 hw1 hw3
        have HW2:=LH (Z9v hQ2.len hQ2.tail hm6 hown)
        have HQ2:=LH hQ2
        have HW3:=LH (⟨hw1,hw2,hw3⟩:wid M≤wid L∧0≤wid L∧(mm=true→wid M<wid L))
        clear hI ht hQ2 hw1 hw2 hw3
        go_wp2
        go_roundw
        case rel=>exact⟨mm,M,rfl,HQ2,hown,hbU⟩
        case measure=>
         obtain⟨q1,q2,q3⟩:=HW3.out
         simp only[HW.out,HW2.out]
         cases mm
         ·simp only;omega
         ·have:=q3 rfl
          simp only;omega
     ·rw[he] at EM
      have HR:Hid (∀W',Below W.heap.size W W'→Zms t p w (.returned (.slice ar n cr)) W'):=LH (fun W' h=>⟨ar,L.take n,cr,by rw[←HFL.out.1],HFL.out.2.1,fun i hi=>by
       obtain⟨b,off,e,hb,hc⟩:=HFL.out.2.2 i hi
       exact⟨b,off,e,Nat.lt_of_lt_of_le hb h.size,fun r u hr hu=>Zab h (hc r u hr hu)⟩,LH (fun h=>by rw[HEE.out,he] at h;cases h),HBY.out.trans ((hbW.trans (h.mono hbW.size)).mono HBY.out.size)⟩)
      clear he
      go_wp2_with (go_at_call 102;go_must ((with_reducible refine EM.out.mono ?_);rintro e w5 ⟨rfl,hb5⟩;dsimp only))
      go_ret
      exact HR.out _ hb5
end Go.Proofs.YtklconegomgjaaaGreat
