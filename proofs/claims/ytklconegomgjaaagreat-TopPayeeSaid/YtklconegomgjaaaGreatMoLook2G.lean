/- What is proved here: the contract of kept. Conditions: the list is valid. -/
import Derived.Test.YtklconegomgjaaaGreatMidG
import Derived.Test.YtklconegomgjaaaGreatMoFactsG
import Derived.RangeFuncNested
import Derived.RangeFuncBound
import Derived.RangeFuncLeaves
import Derived.RangeFuncCalls
import Derived.Shelf.RegionOpen
import Derived.OwnWalkIn
import Derived.TacticsInMore
import Derived.LoopNIn
import Derived.LoopIn
import Derived.WalkMore
import Derived.Test.YtklconegomgjaaaGreatInfoG
set_option linter.all false
set_option maxRecDepth 100000
set_option maxHeartbeats 16000000
namespace Go.Proofs.YtklconegomgjaaaGreat
section
open Go Go.RowKit
def sayF (says:Int):Nat:=if says=0∨says=2 then 183 else 184
theorem Z54 (says a b:Int) (w:World):Calls Tryz.prog (sayF says) #[.int .i64 a,.int .i64 b] w fun e w'=>e=.returned (.bool (Zqp says a b))∧w=w':=by
 unfold sayF Zqp
 by_cases h:says=0∨says=2
 ·rw[if_pos h];simp only[if_pos h];exact Z5r a b w
 ·rw[if_neg h];simp only[if_neg h];exact Z6f a b w
theorem Zkd {w W:World} {t0 t1 t2 t3 t4:Int} {t:TypeId} (h:Below (w.heap.size+1) (w.alloc (.cells #[.int .i64 t0,.int .i64 t1,.int .i64 t2,.int .i64 t3,.int .i64 t4] t)) W) {T:List Int} (hT:T=[t0,t1,t2,t3,t4]) (j:Nat) (hj:j<5):
  W.cell? ⟨w.heap.size,j,none⟩=some (.int .i64 (T[j]?.getD 0)):=by
 subst hT
 refine Zaj h j _ ?_
 rcases j with _|_|_|_|_|j
 ·rfl
 ·rfl
 ·rfl
 ·rfl
 ·rfl
 ·omega
theorem Z4t {w W:World} {t:TypeId} (h:Below (w.heap.size+1) (w.alloc (.cells #[.func (.func 183) #[] #[],.func (.func 184) #[] #[],.func (.func 183) #[] #[],.func (.func 184) #[] #[]] t)) W) (says:Int) (h0:0≤says) (h1:says≤3) (F:Nat) (hF:F=sayF says):
  W.cell? ⟨w.heap.size,says.toNat,none⟩=some (.func (.func F) #[] #[]):=by
 subst hF
 refine Zaj h _ _ ?_
 obtain rfl|rfl|rfl|rfl:says=0∨says=1∨says=2∨says=3:=by omega
 ·rfl
 ·rfl
 ·rfl
 ·rfl
theorem Zif (m:MoList) (T:List Int) (s:Nat) {n k:Nat} (hk:k<n) (h:Zhd m T s k=false):Zl0 m T s n=false:=by
 unfold Zl0
 rw[List.all_eq_false]
 exact⟨k,by simpa using hk,by simp[h]⟩
theorem Z4d (ac az aw ap:Option Addr) (cc cz cw cp:Nat) (m:MoList) (c bm s:Nat) (T:List Int) (t0 t1 t2 t3 t4:Int) (hT:T=[t0,t1,t2,t3,t4]) (w:World) (hm:LookC w bm ac az aw ap cc cz cw cp m c) (hv:Valid m) (hc:c<64) (hs:s<m.sums.length):
  Calls Tryz.prog 177 #[.pointer (some ⟨bm,0,none⟩),.agg #[.int .i64 t0,.int .i64 t1,.int .i64 t2,.int .i64 t3,.int .i64 t4],.int .i64 (s:Int)] w fun e w'=>e=.returned (.bool (Zlg (Zam m c) T s))∧Below w.heap.size w w':=by
 have HT:=LH hT
 clear hT
 have l3:=hm.lst.okw.len
 have v3:=hv.nw
 have vz:=hv.nz
 have c2:=hm.c2
 have hB:=Zag c2
 have SA:=LH (fun W=>Zt9 W)
 have hW0:=Below.refl (w.heap.size+1) (w.alloc (.cells #[.int .i64 t0,.int .i64 t1,.int .i64 t2,.int .i64 t3,.int .i64 t4] 183))
 go_enter Tryz.func177,Tryz.ntmps177
 go_wp2_with (go_at_call 181;go_must (refine(SA.out _).mono ?_;rintro e w2 ⟨rfl,hb2⟩;have d2:=Zab (Zaf (hW0.trans (hb2.mono (by simp)))) c2;have hBd:=Zag d2;dsimp only))
 have hWA:=Below.refl (w2.heap.size+1) (w2.alloc (.cells #[.func (.func 183) #[] #[],.func (.func 184) #[] #[],.func (.func 183) #[] #[],.func (.func 184) #[] #[]] 247))
 have hw2:=hW0.trans (hb2.mono (by simp))
 go_loopw [22] (fun i wr=>∃k:Nat,k≤m.words.length∧i=.int .i64 k∧Hid (Zl0 (Zam m c) T s k=true)∧Below (w2.heap.size+1) (w2.alloc (.cells #[.func (.func 183) #[] #[],.func (.func 184) #[] #[],.func (.func 183) #[] #[],.func (.func 184) #[] #[]] 247)) wr) (fun i _=>m.words.length-(intOf i).toNat)
 case atStart=>exact⟨0,Nat.zero_le _,rfl,LH rfl,hWA⟩
 case round=>
  clear hWA
  obtain⟨k,hk,rfl,HB,hbr⟩:=hrel
  have hbw:=Zaf hbr
  have hb5:=hw2.trans (hbw.mono (by have:=hw2.size;simp at this;omega))
  have hm2:=hm.mono (Zaf hb5)
  replace d2:=hm2.c2
  replace hBd:=Zag d2
  clear c2 hB
  by_cases hlt:k<m.words.length
  ·have vw:=hv.words k hlt
   have HK:Hid (Zhd (Zam m c) T s k=!(decide (Zfi m.words[k]=(s:Int))&&Zfj (Zam m c) k&&!soAt m.words[k] T)):=by
    show _=_
    unfold Zhd
    rw[Zgp m c k hlt]
    rfl
   have HS:=LH (Zve (Zam m c) T s k)
   have CN:=LH (fun W (h:Below w.heap.size w W)=>Zv3 ac az aw ap cc cz cw cp m c k bm W (hm.mono h) hv hlt hc)
   obtain⟨b,off,rfl,hb,h1,h2,h3,h4,h5⟩:=hm2.lst.words k hlt
   generalize m.words[k]=wd at HK h1 h2 h3 h4 h5 vw
   obtain⟨says,sum,of,back,came⟩:=wd
   simp only at h1 h2 h3 h4 h5
   have v1:=vw.says
   have v2:=vw.sum
   simp only at v1 v2
   have w1:0≤says:=v1.1
   have w2':says<4:=by omega
   have w3':0≤sum:=v2.1
   have w4':sum<5:=by omega
   obtain⟨x,hx⟩:∃x,x=T[sum.toNat]?.getD 0:=⟨_,rfl⟩
   have HX:=LH hx
   clear hx
   obtain⟨F,hF⟩:∃F,F=sayF says:=⟨_,rfl⟩
   have HF:=LH hF
   clear hF
   have FN:=LH (fun a b W=>Z54 says a b W)
   rw[←HF.out] at FN
   have hFF:F=183∨F=184:=by rw[HF.out];unfold sayF;split;exact .inl rfl;exact .inr rfl
   have HBX:=Below.refl (wr.heap.size+1) (wr.alloc (.cells #[.int .i64 says,.int .i64 sum,.int .i64 of,.int .i64 back,.bool came] 56))
   have KE:Hid (∀W,Below (wr.heap.size+1) (wr.alloc (.cells #[.int .i64 says,.int .i64 sum,.int .i64 of,.int .i64 back,.bool came] 56)) W→(fun W=>Below (wr.heap.size+1) (wr.alloc (.cells #[.int .i64 says,.int .i64 sum,.int .i64 of,.int .i64 back,.bool came] 56)) W∧W.cell? ⟨wr.heap.size,0,none⟩=some (.int .i64 says)∧W.cell? ⟨wr.heap.size,1,none⟩=some (.int .i64 sum)∧W.cell? ⟨w2.heap.size,says.toNat,none⟩=some (.func (.func F) #[] #[])∧W.cell? ⟨w.heap.size,sum.toNat,none⟩=some (.int .i64 x)∧wr.heap.size<W.heap.size∧w2.heap.size<W.heap.size∧w.heap.size<W.heap.size) W):=LH (fun W h=>by
    have hold:=Zaf h
    have e1:=Zab hold (Z4t hbr says v1.1 v1.2 F HF.out)
    have e2:=Zab hold (Zkd hb5 HT.out sum.toNat (by omega))
    have z0:=Zai h
    have z1:=Zag e1
    have z2:=Zag e2
    exact⟨h,Zaj h 0 _ rfl,Zaj h 1 _ rfl,e1,by rw[HX.out];exact e2,z0,z1,z2⟩)
   have KO:Hid (∀W,(fun W=>Below (wr.heap.size+1) (wr.alloc (.cells #[.int .i64 says,.int .i64 sum,.int .i64 of,.int .i64 back,.bool came] 56)) W∧W.cell? ⟨wr.heap.size,0,none⟩=some (.int .i64 says)∧W.cell? ⟨wr.heap.size,1,none⟩=some (.int .i64 sum)∧W.cell? ⟨w2.heap.size,says.toNat,none⟩=some (.func (.func F) #[] #[])∧W.cell? ⟨w.heap.size,sum.toNat,none⟩=some (.int .i64 x)∧wr.heap.size<W.heap.size∧w2.heap.size<W.heap.size∧w.heap.size<W.heap.size) W→Below w.heap.size w W):=LH (fun W h=>(Zaf hb5).trans ((Zaf h.1).mono (by have:=hb5.size;simp at this;omega)))
   have KN:Hid (∀W W',(fun W=>Below (wr.heap.size+1) (wr.alloc (.cells #[.int .i64 says,.int .i64 sum,.int .i64 of,.int .i64 back,.bool came] 56)) W∧W.cell? ⟨wr.heap.size,0,none⟩=some (.int .i64 says)∧W.cell? ⟨wr.heap.size,1,none⟩=some (.int .i64 sum)∧W.cell? ⟨w2.heap.size,says.toNat,none⟩=some (.func (.func F) #[] #[])∧W.cell? ⟨w.heap.size,sum.toNat,none⟩=some (.int .i64 x)∧wr.heap.size<W.heap.size∧w2.heap.size<W.heap.size∧w.heap.size<W.heap.size) W→Below W.heap.size W W'→Below (wr.heap.size+1) (wr.alloc (.cells #[.int .i64 says,.int .i64 sum,.int .i64 of,.int .i64 back,.bool came] 56)) W'):=LH (fun W W' h hb=>h.1.trans (hb.mono h.2.2.2.2.2.1))
   by_cases hs2:2≤says
   ·have v4:=vw.of2 hs2
    simp only at v4
    obtain⟨y,hy⟩:∃y,y=T[of.toNat]?.getD 0:=⟨_,rfl⟩
    have HY:=LH hy
    clear hy
    have ey:wr.cell? ⟨w.heap.size,of.toNat,none⟩=some (.int .i64 y):=by rw[HY.out];exact Zkd hb5 HT.out of.toNat (by omega)
    have ez:=Zai hb5
    have eof:of<5:=by omega
    have hoth:Zm3 ⟨says,sum,of,back,came⟩ T=y:=(if_pos hs2).trans HY.out.symm
    have HSO:Hid (soAt ⟨says,sum,of,back,came⟩ T=Zqp says x y):=by show _=_;unfold soAt;rw[hoth,HX.out]
    clear hoth
    by_cases hso:sum≤of
    ·have HL:Hid (Zfi ⟨says,sum,of,back,came⟩=of):=LH ((if_pos hs2).trans (show max sum of=_ from by omega))
     by_cases hB:of=(s:Int)
     ·have hB2:=Zdv hB
      have HK:Hid (Zhd (Zam m c) T s k=!(Zfj (Zam m c) k&&!soAt ⟨says,sum,of,back,came⟩ T)):=by show _=_;rw[HK.out,HL.out];simp[hB]
      clear hB
      generalize Zfj (Zam m c) k=cn at CN HK
      cases cn
      ·go_wp2
       go_quiet (fail)
       obtain⟨n1,rfl⟩:∃n1,n1=nq:=⟨_,rfl⟩
       go_wp2
       go_quiet (fail)
       go_wp2
       (try simp only[World.drewN_drewN])
       have hBd':=Zan HBX (n1+nq)
       have hBd:=Zah hBd'
       have hO:=KO.out _ (KE.out _ hBd)
       apply Zdh _ (Below (wr.heap.size+1) (wr.alloc (.cells #[.int .i64 says,.int .i64 sum,.int .i64 of,.int .i64 back,.bool came] 56)))
       refine wp_region_any (by kernel_rfl) ?_
       change wpAny _ _ _ _ _ _ _ (World.drew _)
       (refine tkA 0 ?_;simp only[frT])
       (refine tkA 1 ?_;simp only[frT])
       (refine tkA 2 ?_;simp only[frT])
       (refine tkA 3 ?_;simp only[frT])
       (refine tkA 4 ?_;simp only[frT])
       (refine tkA 5 ?_;simp only[frT])
       (refine wpAny_ready (rs:=[6]) (by kernel_rfl) (by simp) ?_;refine AllReady.cons rfl (fun K hK=>?_) AllReady.nil;go_simp)
       go_wp2_with ((go_at_call 182;refine(CN.out _ hO).mono ?_;rintro e w3 ⟨rfl,hb3⟩;have hB3:=hBd.trans (hb3.mono (by simp));dsimp only))
       (refine tkA 7 ?_;simp only[frT])
       (refine tkA 8 ?_;simp only[frT])
       (refine skA 9 ?_;simp only[frT])
       (refine skA 10 ?_;simp only[frT])
       (refine skA 11 ?_;simp only[frT])
       (refine skA 12 ?_;simp only[frT])
       (refine skA 13 ?_;simp only[frT])
       (refine skA 14 ?_;simp only[frT])
       (refine skA 15 ?_;simp only[frT])
       (refine skA 16 ?_;simp only[frT])
       (refine skA 17 ?_;simp only[frT])
       (refine skA 18 ?_;simp only[frT])
       (refine skA 19 ?_;simp only[frT])
       (refine skA 20 ?_;simp only[frT])
       (refine tkA 21 ?_;simp only[frT])
       refine wpAny_done (by kernel_rfl) ⟨rfl,hB3⟩ _
       intro W hW
       go_wp2
       go_roundw
       case rel=>exact⟨k+1,by omega,by go_num,LH (by rw[HS.out,HB.out,HK.out];simp),Zaz hbr (Zaf hW)⟩
       case measure=>simp[intOf];omega
      ·rcases hFF with hFF|hFF
       all_goals
        rw[hFF] at FN KE KO KN
        clear hFF HF
        have FN:=LH (fun W=>FN.out x y W)
        generalize Zqp says x y=lb at FN HSO
        cases lb
       all_goals
        go_wp2
        go_quiet (fail)
        obtain⟨n1,rfl⟩:∃n1,n1=nq:=⟨_,rfl⟩
        go_wp2
        go_quiet (fail)
        go_wp2
        (try simp only[World.drewN_drewN])
        have hBd':=Zan HBX (n1+nq)
        have hBd:=Zah hBd'
       ·apply Zdh _ (Below (wr.heap.size+1) (wr.alloc (.cells #[.int .i64 says,.int .i64 sum,.int .i64 of,.int .i64 back,.bool came] 56)))
        (focus go_region_held3 (fun W=>Below (wr.heap.size+1) (wr.alloc (.cells #[.int .i64 says,.int .i64 sum,.int .i64 of,.int .i64 back,.bool came] 56)) W∧W.cell? ⟨wr.heap.size,0,none⟩=some (.int .i64 says)∧W.cell? ⟨wr.heap.size,1,none⟩=some (.int .i64 sum)∧W.cell? ⟨w2.heap.size,says.toNat,none⟩=some (.func (.func 183) #[] #[])∧W.cell? ⟨w.heap.size,sum.toNat,none⟩=some (.int .i64 x)∧wr.heap.size<W.heap.size∧w2.heap.size<W.heap.size∧w.heap.size<W.heap.size) (exact KE.out _ (by assumption)) (first|(go_at_call 182;refine(CN.out _ (KO.out _ (by assumption))).mono ?_;rintro e w3 ⟨rfl,hb3⟩;have hB3:=KN.out _ _ (by assumption) hb3;dsimp only)|(go_at_call 183;refine(FN.out _).mono ?_;rintro e w4 ⟨rfl,rfl⟩;dsimp only)))
        exact⟨rfl,hB3⟩
        intro W hW
        go_wp2
        go_ret
        exact⟨Zaq (by rw[Zlg,Zch];exact(Zif _ _ _ hlt (by rw[HK.out,HSO.out];simp)).symm),(Zaf hb5).trans ((Zaf hW).mono (by have:=hb5.size;simp at this;omega))⟩
       ·apply Zdh _ (Below (wr.heap.size+1) (wr.alloc (.cells #[.int .i64 says,.int .i64 sum,.int .i64 of,.int .i64 back,.bool came] 56)))
        (focus go_region_held3 (fun W=>Below (wr.heap.size+1) (wr.alloc (.cells #[.int .i64 says,.int .i64 sum,.int .i64 of,.int .i64 back,.bool came] 56)) W∧W.cell? ⟨wr.heap.size,0,none⟩=some (.int .i64 says)∧W.cell? ⟨wr.heap.size,1,none⟩=some (.int .i64 sum)∧W.cell? ⟨w2.heap.size,says.toNat,none⟩=some (.func (.func 183) #[] #[])∧W.cell? ⟨w.heap.size,sum.toNat,none⟩=some (.int .i64 x)∧wr.heap.size<W.heap.size∧w2.heap.size<W.heap.size∧w.heap.size<W.heap.size) (exact KE.out _ (by assumption)) (first|(go_at_call 182;refine(CN.out _ (KO.out _ (by assumption))).mono ?_;rintro e w3 ⟨rfl,hb3⟩;have hB3:=KN.out _ _ (by assumption) hb3;dsimp only)|(go_at_call 183;refine(FN.out _).mono ?_;rintro e w4 ⟨rfl,rfl⟩;dsimp only)))
        exact⟨rfl,hB3⟩
        intro W hW
        go_wp2
        go_roundw
        case rel=>exact⟨k+1,by omega,by go_num,LH (by rw[HS.out,HB.out,HK.out,HSO.out];simp),Zaz hbr (Zaf hW)⟩
        case measure=>simp[intOf];omega
       ·apply Zdh _ (Below (wr.heap.size+1) (wr.alloc (.cells #[.int .i64 says,.int .i64 sum,.int .i64 of,.int .i64 back,.bool came] 56)))
        (focus go_region_held3 (fun W=>Below (wr.heap.size+1) (wr.alloc (.cells #[.int .i64 says,.int .i64 sum,.int .i64 of,.int .i64 back,.bool came] 56)) W∧W.cell? ⟨wr.heap.size,0,none⟩=some (.int .i64 says)∧W.cell? ⟨wr.heap.size,1,none⟩=some (.int .i64 sum)∧W.cell? ⟨w2.heap.size,says.toNat,none⟩=some (.func (.func 184) #[] #[])∧W.cell? ⟨w.heap.size,sum.toNat,none⟩=some (.int .i64 x)∧wr.heap.size<W.heap.size∧w2.heap.size<W.heap.size∧w.heap.size<W.heap.size) (exact KE.out _ (by assumption)) (first|(go_at_call 182;refine(CN.out _ (KO.out _ (by assumption))).mono ?_;rintro e w3 ⟨rfl,hb3⟩;have hB3:=KN.out _ _ (by assumption) hb3;dsimp only)|(go_at_call 184;refine(FN.out _).mono ?_;rintro e w4 ⟨rfl,rfl⟩;dsimp only)))
        exact⟨rfl,hB3⟩
        intro W hW
        go_wp2
        go_ret
        exact⟨Zaq (by rw[Zlg,Zch];exact(Zif _ _ _ hlt (by rw[HK.out,HSO.out];simp)).symm),(Zaf hb5).trans ((Zaf hW).mono (by have:=hb5.size;simp at this;omega))⟩
       ·apply Zdh _ (Below (wr.heap.size+1) (wr.alloc (.cells #[.int .i64 says,.int .i64 sum,.int .i64 of,.int .i64 back,.bool came] 56)))
        (focus go_region_held3 (fun W=>Below (wr.heap.size+1) (wr.alloc (.cells #[.int .i64 says,.int .i64 sum,.int .i64 of,.int .i64 back,.bool came] 56)) W∧W.cell? ⟨wr.heap.size,0,none⟩=some (.int .i64 says)∧W.cell? ⟨wr.heap.size,1,none⟩=some (.int .i64 sum)∧W.cell? ⟨w2.heap.size,says.toNat,none⟩=some (.func (.func 184) #[] #[])∧W.cell? ⟨w.heap.size,sum.toNat,none⟩=some (.int .i64 x)∧wr.heap.size<W.heap.size∧w2.heap.size<W.heap.size∧w.heap.size<W.heap.size) (exact KE.out _ (by assumption)) (first|(go_at_call 182;refine(CN.out _ (KO.out _ (by assumption))).mono ?_;rintro e w3 ⟨rfl,hb3⟩;have hB3:=KN.out _ _ (by assumption) hb3;dsimp only)|(go_at_call 184;refine(FN.out _).mono ?_;rintro e w4 ⟨rfl,rfl⟩;dsimp only)))
        exact⟨rfl,hB3⟩
        intro W hW
        go_wp2
        go_roundw
        case rel=>exact⟨k+1,by omega,by go_num,LH (by rw[HS.out,HB.out,HK.out,HSO.out];simp),Zaz hbr (Zaf hW)⟩
        case measure=>simp[intOf];omega
     ·have hB2:=Zc4 hB
      have HK:Hid (Zhd (Zam m c) T s k=true):=by show _=_;rw[HK.out,HL.out];simp[hB]
      clear hB
      go_wp2
      go_quiet (fail)
      obtain⟨n1,rfl⟩:∃n1,n1=nq:=⟨_,rfl⟩
      go_wp2
      go_quiet (fail)
      go_wp2
      (try simp only[World.drewN_drewN])
      have hBd':=Zan HBX (n1+nq)
      have hBd:=Zah hBd'
      go_quiet (fail)
      go_wp2
      go_roundw
      case rel=>exact⟨k+1,by omega,by go_num,LH (by rw[HS.out,HB.out,HK.out];simp),Zaz hbr (Zaf (Zan HBX _))⟩
      case measure=>simp[intOf];omega
    ·have HL:Hid (Zfi ⟨says,sum,of,back,came⟩=sum):=LH ((if_pos hs2).trans (show max sum of=_ from by omega))
     by_cases hB:sum=(s:Int)
     ·have hB2:=Zdv hB
      have HK:Hid (Zhd (Zam m c) T s k=!(Zfj (Zam m c) k&&!soAt ⟨says,sum,of,back,came⟩ T)):=by show _=_;rw[HK.out,HL.out];simp[hB]
      clear hB
      generalize Zfj (Zam m c) k=cn at CN HK
      cases cn
      ·go_wp2
       go_quiet (fail)
       obtain⟨n1,rfl⟩:∃n1,n1=nq:=⟨_,rfl⟩
       go_wp2
       go_quiet (fail)
       go_wp2
       (try simp only[World.drewN_drewN])
       have hBd':=Zan HBX (n1+nq)
       have hBd:=Zah hBd'
       have hO:=KO.out _ (KE.out _ hBd)
       apply Zdh _ (Below (wr.heap.size+1) (wr.alloc (.cells #[.int .i64 says,.int .i64 sum,.int .i64 of,.int .i64 back,.bool came] 56)))
       refine wp_region_any (by kernel_rfl) ?_
       change wpAny _ _ _ _ _ _ _ (World.drew _)
       (refine tkA 0 ?_;simp only[frT])
       (refine tkA 1 ?_;simp only[frT])
       (refine tkA 2 ?_;simp only[frT])
       (refine tkA 3 ?_;simp only[frT])
       (refine tkA 4 ?_;simp only[frT])
       (refine tkA 5 ?_;simp only[frT])
       (refine wpAny_ready (rs:=[6]) (by kernel_rfl) (by simp) ?_;refine AllReady.cons rfl (fun K hK=>?_) AllReady.nil;go_simp)
       go_wp2_with ((go_at_call 182;refine(CN.out _ hO).mono ?_;rintro e w3 ⟨rfl,hb3⟩;have hB3:=hBd.trans (hb3.mono (by simp));dsimp only))
       (refine tkA 7 ?_;simp only[frT])
       (refine tkA 8 ?_;simp only[frT])
       (refine skA 9 ?_;simp only[frT])
       (refine skA 10 ?_;simp only[frT])
       (refine skA 11 ?_;simp only[frT])
       (refine skA 12 ?_;simp only[frT])
       (refine skA 13 ?_;simp only[frT])
       (refine skA 14 ?_;simp only[frT])
       (refine skA 15 ?_;simp only[frT])
       (refine skA 16 ?_;simp only[frT])
       (refine skA 17 ?_;simp only[frT])
       (refine skA 18 ?_;simp only[frT])
       (refine skA 19 ?_;simp only[frT])
       (refine skA 20 ?_;simp only[frT])
       (refine tkA 21 ?_;simp only[frT])
       refine wpAny_done (by kernel_rfl) ⟨rfl,hB3⟩ _
       intro W hW
       go_wp2
       go_roundw
       case rel=>exact⟨k+1,by omega,by go_num,LH (by rw[HS.out,HB.out,HK.out];simp),Zaz hbr (Zaf hW)⟩
       case measure=>simp[intOf];omega
      ·rcases hFF with hFF|hFF
       all_goals
        rw[hFF] at FN KE KO KN
        clear hFF HF
        have FN:=LH (fun W=>FN.out x y W)
        generalize Zqp says x y=lb at FN HSO
        cases lb
       all_goals
        go_wp2
        go_quiet (fail)
        obtain⟨n1,rfl⟩:∃n1,n1=nq:=⟨_,rfl⟩
        go_wp2
        go_quiet (fail)
        go_wp2
        (try simp only[World.drewN_drewN])
        have hBd':=Zan HBX (n1+nq)
        have hBd:=Zah hBd'
       ·apply Zdh _ (Below (wr.heap.size+1) (wr.alloc (.cells #[.int .i64 says,.int .i64 sum,.int .i64 of,.int .i64 back,.bool came] 56)))
        (focus go_region_held3 (fun W=>Below (wr.heap.size+1) (wr.alloc (.cells #[.int .i64 says,.int .i64 sum,.int .i64 of,.int .i64 back,.bool came] 56)) W∧W.cell? ⟨wr.heap.size,0,none⟩=some (.int .i64 says)∧W.cell? ⟨wr.heap.size,1,none⟩=some (.int .i64 sum)∧W.cell? ⟨w2.heap.size,says.toNat,none⟩=some (.func (.func 183) #[] #[])∧W.cell? ⟨w.heap.size,sum.toNat,none⟩=some (.int .i64 x)∧wr.heap.size<W.heap.size∧w2.heap.size<W.heap.size∧w.heap.size<W.heap.size) (exact KE.out _ (by assumption)) (first|(go_at_call 182;refine(CN.out _ (KO.out _ (by assumption))).mono ?_;rintro e w3 ⟨rfl,hb3⟩;have hB3:=KN.out _ _ (by assumption) hb3;dsimp only)|(go_at_call 183;refine(FN.out _).mono ?_;rintro e w4 ⟨rfl,rfl⟩;dsimp only)))
        exact⟨rfl,hB3⟩
        intro W hW
        go_wp2
        go_ret
        exact⟨Zaq (by rw[Zlg,Zch];exact(Zif _ _ _ hlt (by rw[HK.out,HSO.out];simp)).symm),(Zaf hb5).trans ((Zaf hW).mono (by have:=hb5.size;simp at this;omega))⟩
       ·apply Zdh _ (Below (wr.heap.size+1) (wr.alloc (.cells #[.int .i64 says,.int .i64 sum,.int .i64 of,.int .i64 back,.bool came] 56)))
        (focus go_region_held3 (fun W=>Below (wr.heap.size+1) (wr.alloc (.cells #[.int .i64 says,.int .i64 sum,.int .i64 of,.int .i64 back,.bool came] 56)) W∧W.cell? ⟨wr.heap.size,0,none⟩=some (.int .i64 says)∧W.cell? ⟨wr.heap.size,1,none⟩=some (.int .i64 sum)∧W.cell? ⟨w2.heap.size,says.toNat,none⟩=some (.func (.func 183) #[] #[])∧W.cell? ⟨w.heap.size,sum.toNat,none⟩=some (.int .i64 x)∧wr.heap.size<W.heap.size∧w2.heap.size<W.heap.size∧w.heap.size<W.heap.size) (exact KE.out _ (by assumption)) (first|(go_at_call 182;refine(CN.out _ (KO.out _ (by assumption))).mono ?_;rintro e w3 ⟨rfl,hb3⟩;have hB3:=KN.out _ _ (by assumption) hb3;dsimp only)|(go_at_call 183;refine(FN.out _).mono ?_;rintro e w4 ⟨rfl,rfl⟩;dsimp only)))
        exact⟨rfl,hB3⟩
        intro W hW
        go_wp2
        go_roundw
        case rel=>exact⟨k+1,by omega,by go_num,LH (by rw[HS.out,HB.out,HK.out,HSO.out];simp),Zaz hbr (Zaf hW)⟩
        case measure=>simp[intOf];omega
       ·apply Zdh _ (Below (wr.heap.size+1) (wr.alloc (.cells #[.int .i64 says,.int .i64 sum,.int .i64 of,.int .i64 back,.bool came] 56)))
        (focus go_region_held3 (fun W=>Below (wr.heap.size+1) (wr.alloc (.cells #[.int .i64 says,.int .i64 sum,.int .i64 of,.int .i64 back,.bool came] 56)) W∧W.cell? ⟨wr.heap.size,0,none⟩=some (.int .i64 says)∧W.cell? ⟨wr.heap.size,1,none⟩=some (.int .i64 sum)∧W.cell? ⟨w2.heap.size,says.toNat,none⟩=some (.func (.func 184) #[] #[])∧W.cell? ⟨w.heap.size,sum.toNat,none⟩=some (.int .i64 x)∧wr.heap.size<W.heap.size∧w2.heap.size<W.heap.size∧w.heap.size<W.heap.size) (exact KE.out _ (by assumption)) (first|(go_at_call 182;refine(CN.out _ (KO.out _ (by assumption))).mono ?_;rintro e w3 ⟨rfl,hb3⟩;have hB3:=KN.out _ _ (by assumption) hb3;dsimp only)|(go_at_call 184;refine(FN.out _).mono ?_;rintro e w4 ⟨rfl,rfl⟩;dsimp only)))
        exact⟨rfl,hB3⟩
        intro W hW
        go_wp2
        go_ret
        exact⟨Zaq (by rw[Zlg,Zch];exact(Zif _ _ _ hlt (by rw[HK.out,HSO.out];simp)).symm),(Zaf hb5).trans ((Zaf hW).mono (by have:=hb5.size;simp at this;omega))⟩
       ·apply Zdh _ (Below (wr.heap.size+1) (wr.alloc (.cells #[.int .i64 says,.int .i64 sum,.int .i64 of,.int .i64 back,.bool came] 56)))
        (focus go_region_held3 (fun W=>Below (wr.heap.size+1) (wr.alloc (.cells #[.int .i64 says,.int .i64 sum,.int .i64 of,.int .i64 back,.bool came] 56)) W∧W.cell? ⟨wr.heap.size,0,none⟩=some (.int .i64 says)∧W.cell? ⟨wr.heap.size,1,none⟩=some (.int .i64 sum)∧W.cell? ⟨w2.heap.size,says.toNat,none⟩=some (.func (.func 184) #[] #[])∧W.cell? ⟨w.heap.size,sum.toNat,none⟩=some (.int .i64 x)∧wr.heap.size<W.heap.size∧w2.heap.size<W.heap.size∧w.heap.size<W.heap.size) (exact KE.out _ (by assumption)) (first|(go_at_call 182;refine(CN.out _ (KO.out _ (by assumption))).mono ?_;rintro e w3 ⟨rfl,hb3⟩;have hB3:=KN.out _ _ (by assumption) hb3;dsimp only)|(go_at_call 184;refine(FN.out _).mono ?_;rintro e w4 ⟨rfl,rfl⟩;dsimp only)))
        exact⟨rfl,hB3⟩
        intro W hW
        go_wp2
        go_roundw
        case rel=>exact⟨k+1,by omega,by go_num,LH (by rw[HS.out,HB.out,HK.out,HSO.out];simp),Zaz hbr (Zaf hW)⟩
        case measure=>simp[intOf];omega
     ·have hB2:=Zc4 hB
      have HK:Hid (Zhd (Zam m c) T s k=true):=by show _=_;rw[HK.out,HL.out];simp[hB]
      clear hB
      go_wp2
      go_quiet (fail)
      obtain⟨n1,rfl⟩:∃n1,n1=nq:=⟨_,rfl⟩
      go_wp2
      go_quiet (fail)
      go_wp2
      (try simp only[World.drewN_drewN])
      have hBd':=Zan HBX (n1+nq)
      have hBd:=Zah hBd'
      go_quiet (fail)
      go_wp2
      go_roundw
      case rel=>exact⟨k+1,by omega,by go_num,LH (by rw[HS.out,HB.out,HK.out];simp),Zaz hbr (Zaf (Zan HBX _))⟩
      case measure=>simp[intOf];omega
   ·have HL:Hid (Zfi ⟨says,sum,of,back,came⟩=sum):=LH (if_neg hs2)
    have hoth:Zm3 ⟨says,sum,of,back,came⟩ T=of:=if_neg hs2
    have HSO:Hid (soAt ⟨says,sum,of,back,came⟩ T=Zqp says x of):=by show _=_;unfold soAt;rw[hoth,HX.out]
    clear hoth
    by_cases hB:sum=(s:Int)
    ·have hB2:=Zdv hB
     have HK:Hid (Zhd (Zam m c) T s k=!(Zfj (Zam m c) k&&!soAt ⟨says,sum,of,back,came⟩ T)):=by show _=_;rw[HK.out,HL.out];simp[hB]
     clear hB
     generalize Zfj (Zam m c) k=cn at CN HK
     cases cn
     ·go_wp2
      go_quiet (fail)
      go_wp2
      have hBd':=Zan HBX nq
      have hBd:=Zah hBd'
      have hO:=KO.out _ (KE.out _ hBd)
      apply Zdh _ (Below (wr.heap.size+1) (wr.alloc (.cells #[.int .i64 says,.int .i64 sum,.int .i64 of,.int .i64 back,.bool came] 56)))
      refine wp_region_any (by kernel_rfl) ?_
      change wpAny _ _ _ _ _ _ _ (World.drew _)
      (refine tkA 0 ?_;simp only[frT])
      (refine tkA 1 ?_;simp only[frT])
      (refine tkA 2 ?_;simp only[frT])
      (refine tkA 3 ?_;simp only[frT])
      (refine tkA 4 ?_;simp only[frT])
      (refine tkA 5 ?_;simp only[frT])
      (refine wpAny_ready (rs:=[6]) (by kernel_rfl) (by simp) ?_;refine AllReady.cons rfl (fun K hK=>?_) AllReady.nil;go_simp)
      go_wp2_with ((go_at_call 182;refine(CN.out _ hO).mono ?_;rintro e w3 ⟨rfl,hb3⟩;have hB3:=hBd.trans (hb3.mono (by simp));dsimp only))
      (refine tkA 7 ?_;simp only[frT])
      (refine tkA 8 ?_;simp only[frT])
      (refine skA 9 ?_;simp only[frT])
      (refine skA 10 ?_;simp only[frT])
      (refine skA 11 ?_;simp only[frT])
      (refine skA 12 ?_;simp only[frT])
      (refine skA 13 ?_;simp only[frT])
      (refine skA 14 ?_;simp only[frT])
      (refine skA 15 ?_;simp only[frT])
      (refine skA 16 ?_;simp only[frT])
      (refine skA 17 ?_;simp only[frT])
      (refine skA 18 ?_;simp only[frT])
      (refine skA 19 ?_;simp only[frT])
      (refine skA 20 ?_;simp only[frT])
      (refine tkA 21 ?_;simp only[frT])
      refine wpAny_done (by kernel_rfl) ⟨rfl,hB3⟩ _
      intro W hW
      go_wp2
      go_roundw
      case rel=>exact⟨k+1,by omega,by go_num,LH (by rw[HS.out,HB.out,HK.out];simp),Zaz hbr (Zaf hW)⟩
      case measure=>simp[intOf];omega
     ·rcases hFF with hFF|hFF
      all_goals
       rw[hFF] at FN KE KO KN
       clear hFF HF
       have FN:=LH (fun W=>FN.out x of W)
       generalize Zqp says x of=lb at FN HSO
       cases lb
      all_goals
       go_wp2
       go_quiet (fail)
       go_wp2
       have hBd':=Zan HBX nq
       have hBd:=Zah hBd'
      ·apply Zdh _ (Below (wr.heap.size+1) (wr.alloc (.cells #[.int .i64 says,.int .i64 sum,.int .i64 of,.int .i64 back,.bool came] 56)))
       (focus go_region_held3 (fun W=>Below (wr.heap.size+1) (wr.alloc (.cells #[.int .i64 says,.int .i64 sum,.int .i64 of,.int .i64 back,.bool came] 56)) W∧W.cell? ⟨wr.heap.size,0,none⟩=some (.int .i64 says)∧W.cell? ⟨wr.heap.size,1,none⟩=some (.int .i64 sum)∧W.cell? ⟨w2.heap.size,says.toNat,none⟩=some (.func (.func 183) #[] #[])∧W.cell? ⟨w.heap.size,sum.toNat,none⟩=some (.int .i64 x)∧wr.heap.size<W.heap.size∧w2.heap.size<W.heap.size∧w.heap.size<W.heap.size) (exact KE.out _ (by assumption)) (first|(go_at_call 182;refine(CN.out _ (KO.out _ (by assumption))).mono ?_;rintro e w3 ⟨rfl,hb3⟩;have hB3:=KN.out _ _ (by assumption) hb3;dsimp only)|(go_at_call 183;refine(FN.out _).mono ?_;rintro e w4 ⟨rfl,rfl⟩;dsimp only)))
       exact⟨rfl,hB3⟩
       intro W hW
       go_wp2
       go_ret
       exact⟨Zaq (by rw[Zlg,Zch];exact(Zif _ _ _ hlt (by rw[HK.out,HSO.out];simp)).symm),(Zaf hb5).trans ((Zaf hW).mono (by have:=hb5.size;simp at this;omega))⟩
      ·apply Zdh _ (Below (wr.heap.size+1) (wr.alloc (.cells #[.int .i64 says,.int .i64 sum,.int .i64 of,.int .i64 back,.bool came] 56)))
       (focus go_region_held3 (fun W=>Below (wr.heap.size+1) (wr.alloc (.cells #[.int .i64 says,.int .i64 sum,.int .i64 of,.int .i64 back,.bool came] 56)) W∧W.cell? ⟨wr.heap.size,0,none⟩=some (.int .i64 says)∧W.cell? ⟨wr.heap.size,1,none⟩=some (.int .i64 sum)∧W.cell? ⟨w2.heap.size,says.toNat,none⟩=some (.func (.func 183) #[] #[])∧W.cell? ⟨w.heap.size,sum.toNat,none⟩=some (.int .i64 x)∧wr.heap.size<W.heap.size∧w2.heap.size<W.heap.size∧w.heap.size<W.heap.size) (exact KE.out _ (by assumption)) (first|(go_at_call 182;refine(CN.out _ (KO.out _ (by assumption))).mono ?_;rintro e w3 ⟨rfl,hb3⟩;have hB3:=KN.out _ _ (by assumption) hb3;dsimp only)|(go_at_call 183;refine(FN.out _).mono ?_;rintro e w4 ⟨rfl,rfl⟩;dsimp only)))
       exact⟨rfl,hB3⟩
       intro W hW
       go_wp2
       go_roundw
       case rel=>exact⟨k+1,by omega,by go_num,LH (by rw[HS.out,HB.out,HK.out,HSO.out];simp),Zaz hbr (Zaf hW)⟩
       case measure=>simp[intOf];omega
      ·apply Zdh _ (Below (wr.heap.size+1) (wr.alloc (.cells #[.int .i64 says,.int .i64 sum,.int .i64 of,.int .i64 back,.bool came] 56)))
       (focus go_region_held3 (fun W=>Below (wr.heap.size+1) (wr.alloc (.cells #[.int .i64 says,.int .i64 sum,.int .i64 of,.int .i64 back,.bool came] 56)) W∧W.cell? ⟨wr.heap.size,0,none⟩=some (.int .i64 says)∧W.cell? ⟨wr.heap.size,1,none⟩=some (.int .i64 sum)∧W.cell? ⟨w2.heap.size,says.toNat,none⟩=some (.func (.func 184) #[] #[])∧W.cell? ⟨w.heap.size,sum.toNat,none⟩=some (.int .i64 x)∧wr.heap.size<W.heap.size∧w2.heap.size<W.heap.size∧w.heap.size<W.heap.size) (exact KE.out _ (by assumption)) (first|(go_at_call 182;refine(CN.out _ (KO.out _ (by assumption))).mono ?_;rintro e w3 ⟨rfl,hb3⟩;have hB3:=KN.out _ _ (by assumption) hb3;dsimp only)|(go_at_call 184;refine(FN.out _).mono ?_;rintro e w4 ⟨rfl,rfl⟩;dsimp only)))
       exact⟨rfl,hB3⟩
       intro W hW
       go_wp2
       go_ret
       exact⟨Zaq (by rw[Zlg,Zch];exact(Zif _ _ _ hlt (by rw[HK.out,HSO.out];simp)).symm),(Zaf hb5).trans ((Zaf hW).mono (by have:=hb5.size;simp at this;omega))⟩
      ·apply Zdh _ (Below (wr.heap.size+1) (wr.alloc (.cells #[.int .i64 says,.int .i64 sum,.int .i64 of,.int .i64 back,.bool came] 56)))
       (focus go_region_held3 (fun W=>Below (wr.heap.size+1) (wr.alloc (.cells #[.int .i64 says,.int .i64 sum,.int .i64 of,.int .i64 back,.bool came] 56)) W∧W.cell? ⟨wr.heap.size,0,none⟩=some (.int .i64 says)∧W.cell? ⟨wr.heap.size,1,none⟩=some (.int .i64 sum)∧W.cell? ⟨w2.heap.size,says.toNat,none⟩=some (.func (.func 184) #[] #[])∧W.cell? ⟨w.heap.size,sum.toNat,none⟩=some (.int .i64 x)∧wr.heap.size<W.heap.size∧w2.heap.size<W.heap.size∧w.heap.size<W.heap.size) (exact KE.out _ (by assumption)) (first|(go_at_call 182;refine(CN.out _ (KO.out _ (by assumption))).mono ?_;rintro e w3 ⟨rfl,hb3⟩;have hB3:=KN.out _ _ (by assumption) hb3;dsimp only)|(go_at_call 184;refine(FN.out _).mono ?_;rintro e w4 ⟨rfl,rfl⟩;dsimp only)))
       exact⟨rfl,hB3⟩
       intro W hW
       go_wp2
       go_roundw
       case rel=>exact⟨k+1,by omega,by go_num,LH (by rw[HS.out,HB.out,HK.out,HSO.out];simp),Zaz hbr (Zaf hW)⟩
       case measure=>simp[intOf];omega
    ·have hB2:=Zc4 hB
     have HK:Hid (Zhd (Zam m c) T s k=true):=by show _=_;rw[HK.out,HL.out];simp[hB]
     clear hB
     go_wp2
     go_quiet (fail)
     go_wp2
     have hBd':=Zan HBX nq
     have hBd:=Zah hBd'
     go_quiet (fail)
     go_wp2
     go_roundw
     case rel=>exact⟨k+1,by omega,by go_num,LH (by rw[HS.out,HB.out,HK.out];simp),Zaz hbr (Zaf (Zan HBX _))⟩
     case measure=>simp[intOf];omega
  ·obtain rfl:k=m.words.length:=by omega
   go_wp2
   go_ret
   exact⟨Zaq (by rw[Zlg,Zch];exact HB.out.symm),Zaf hb5⟩
end
section
open Go Go.RowKit
structure Above (B:Nat) (W W':World):Prop where
 os:W'.os=W.os
 tape:W'.tape=W.tape
 output:W'.output=W.output
 size:W.heap.size≤W'.heap.size
 block:∀b,B≤b→b<W.heap.size→W'.heap[b]?=W.heap[b]?
theorem Above.refl (B:Nat) (W:World):Above B W W:=⟨rfl,rfl,rfl,Nat.le_refl _,fun _ _ _=>rfl⟩
theorem Above.trans {B:Nat} {A C D:World} (h:Above B A C) (k:Above B C D):Above B A D:=
 ⟨k.os.trans h.os,k.tape.trans h.tape,k.output.trans h.output,Nat.le_trans h.size k.size,fun b h1 h2=>(k.block b h1 (Nat.lt_of_lt_of_le h2 h.size)).trans (h.block b h1 h2)⟩
theorem Above.of_below {B:Nat} {W W':World} (h:Below W.heap.size W W'):Above B W W':=⟨h.os,h.tape,h.output,h.size,fun b _ h2=>h.block b h2⟩
theorem Above.of_grown {B:Nat} {W W':World} {row:Option Nat} (h:W.grownBy W' row) (hr:∀r,row=some r→r<B):Above B W W':=
 ⟨h.os,h.tape,h.output,h.size,fun b h1 h2=>h.block b h2 (fun e=>by have:=hr b e.symm;omega)⟩
theorem Above.mono {B B':Nat} {W W':World} (h:Above B W W') (hb:B≤B'):Above B' W W':=⟨h.os,h.tape,h.output,h.size,fun b h1 h2=>h.block b (by omega) h2⟩
def Z9h {α:Type} (B:Nat) (I:List α→World→Prop) (xs:List α) (W:World):Exit→Act→World→Prop
 |.normal,_,W'=>Above B W W'∧I xs W'
 |_,_,_=>False
variable {P:Program}
def SeqT {α:Type} (P:Program) (gf:Nat) (lb:Array Value) (encs:α→Array Value) (B:Nat) (Z:World→Prop) (xs:List α) (w:World):Prop:=
 ∀(l:Nat) (J:List α→World→Prop) (W:World),Below w.heap.size w W→w.heap.size≤W.heap.size→(∀s A A',J s A→Below W.heap.size A A'→J s A')→(∀s A,J s A→Z A)→
  (∀pre x W1,J pre W1→pre++[x] <+: xs→YieldAt Fence.wide 0 P l (encs x) W1 fun e W'=>e=.returned (.bool true)∧J (pre++[x]) W'∧Above B W1 W')→
  J [] W→CallsIn Fence.wide 0 P gf (#[.func (.yield l) #[] #[]]++lb) W fun e W'=>(∃v,e=.returned v)∧J xs W'
theorem Zhe {α:Type} {g:Operand} {ps:Array Tmp} {assign body:Code} {Q:Exit→Act→World→Prop} {a:Act} {w:World}
  {gf:Nat} {lb:Array Value} (hg:a.eval g=.func (.func gf) #[] lb) (eg:∀args w,(callFunc gf args).run P w=.ok (.enter gf args) w)
  {encs:α→Array Value} {Z:World→Prop} {B:Nat} {xs:List α} {w0:World} (hseq:SeqT P gf lb encs B Z xs w0) (hb0:Below w0.heap.size w0 w) (hB:B≤w.heap.size) (hps:∀x,(encs x).size=ps.size)
  (I:List α→World→Prop) (hI:∀s A A',I s A→Below B A A'→I s A') (hIZ:∀s A,I s A→Z A) (h0:I [] w)
  (hround:∀(l:Nat) (pre:List α) (x:α) (W:World),w.heap.size<l→l<W.heap.size→I pre W→pre++[x] <+: xs→
   assign.wpIn (Fence.wide.inRound l) 0 P (Exit.then (fun a' Wa=>Above B W Wa∧I pre Wa∧∀Wb,Wb.heap.size=Wa.heap.size→(∀b,b≠l→Wb.heap[b]?=Wa.heap[b]?)→I pre Wb→
    body.wpIn (Fence.wide.inRound l) 0 P (Z9h B I (pre++[x]) Wb) a' Wb) (fun _ _ _=>False)) {tmps:=(ps.zip (encs x)).foldl (fun t (p,v)=>t.setIfInBounds p v) a.tmps,defers:=[]} W)
  (hdone:∀(D:Nat) (W:World),w.heap.size≤D→I xs W→W.heap[D]?=some (.deferred (some []))→Q .normal {a with defers:={target:=.collected D,args:=#[]}::a.defers} W):
  (Code.rangeFunc g ps assign body).wpIn Fence.wide 0 P Q a w:=by
 refine wpIn_rangeFunc ?_
 intro fn hfn
 rw[show Fence.wide.round=none from rfl]
 obtain⟨rec,hrec⟩:∃rec:LoopState→Option Code→Loop,rec=fun st pe=>{state:=st,pending:=pe,fn,tmps:=a.tmps,params:=ps,assign,body,defers:=w.heap.size}:=⟨_,rfl⟩
 obtain⟨W1,hW1⟩:∃W1,(w.alloc (.deferred (some []))).alloc (.loop (rec .ready none))=W1:=⟨_,rfl⟩
 have hL1:W1.heap[w.heap.size+1]?=some (.loop (rec .ready none)):=by
  rw[←hW1];have:=World.alloc_heap_new (w.alloc (.deferred (some []))) (.loop (rec .ready none));rwa [World.size_alloc] at this
 have hK1:W1.heap[w.heap.size]?=some (.deferred (some [])):=by
  rw[←hW1];exact(Below.heap_alloc _ _ _ (by simp)).trans (World.alloc_heap_new w _)
 have hbw1:Below w.heap.size w W1:=by
  rw[←hW1];exact(((Below.refl _ w).alloc (Nat.le_refl _) _).alloc (by simp) _)
 have hsz1:W1.heap.size=w.heap.size+2:=by rw[←hW1];simp
 have hI1:I [] W1:=hI _ _ _ h0 (hbw1.mono hB)
 have hb1:Below w0.heap.size w0 W1:=hb0.trans (hbw1.mono hb0.size)
 refine⟨w.heap.size+1,[{target:=.collected w.heap.size,args:=#[]}],W1,{target:=.fn (.func gf) lb,args:=#[.func (.yield (w.heap.size+1)) #[] #[]]},W1,gf,
  #[.func (.yield (w.heap.size+1)) #[] #[]]++lb,W1,?_,?_,?_,?_,fun h=>(by cases h),?_⟩
 ·rw[←hW1,hrec];exact run_enterLoop_outer _ _ _ _ _
 ·simp only[resolve,hg]
  simp[go_sem]
 ·intro f' hf';trivial
 ·simp[invoke,go_sem,eg]
 ·refine(hseq (w.heap.size+1)
   (fun pre W=>I pre W∧W.heap[w.heap.size+1]?=some (.loop (rec .ready none))∧W.heap[w.heap.size]?=some (.deferred (some [])))
   W1 hb1 hb1.size
   (fun s A A' hs hb=>⟨hI s A A' hs.1 (hb.mono (by omega)),(hb.block _ (by omega)).trans hs.2.1,(hb.block _ (by omega)).trans hs.2.2⟩)
   (fun s A hs=>hIZ s A hs.1)
   ?_ ⟨hI1,hL1,hK1⟩).mono ?_
  ·rintro pre x W ⟨hi,hl,hk⟩ hpre
   have hlt:w.heap.size+1<W.heap.size:=(Array.getElem?_eq_some_iff.1 hl).1
   have hy:=run_yield (P:=P) (args:=encs x) hl (by rw[hrec];exact hps x)
   rw[hrec] at hy
   refine⟨fn,_,assign,body,hy,roundIn_of_wpIn hfn (wpIn_mono (hround _ pre x W (by omega) hlt hi hpre) ?_)⟩
   clear hy
   rintro e a' Wa he
   cases e with
   |normal=>
    obtain⟨hab,hia,hbody⟩:=he
    have hla:Wa.heap[w.heap.size+1]?=some (.loop (rec .ready none)):=(hab.block _ (by omega) hlt).trans hl
    have hka:Wa.heap[w.heap.size]?=some (.deferred (some [])):=(hab.block _ (by omega) (by omega)).trans hk
    have hlta:w.heap.size+1<Wa.heap.size:=(Array.getElem?_eq_some_iff.1 hla).1
    refine⟨_,run_beginRound hla (by rw[hrec]),?_⟩
    have hl2:(Wa.putObj (w.heap.size+1) (.loop {rec .ready none with state:=.busy})).heap[w.heap.size+1]?=some (.loop {rec .ready none with state:=.busy}):=World.putObj_heap_same hlta
    have hk2:(Wa.putObj (w.heap.size+1) (.loop {rec .ready none with state:=.busy})).heap[w.heap.size]?=some (.deferred (some [])):=(World.putObj_heap_other (by omega)).trans hka
    have hbp:Below B Wa (Wa.putObj (w.heap.size+1) (.loop {rec .ready none with state:=.busy})):=(Below.refl B Wa).grown (grownBy_putObj' Wa _ _) (by omega) (fun k e=>by cases e;omega)
    have hsp:∀o,(Wa.putObj (w.heap.size+1) o).heap.size=Wa.heap.size:=fun o=>by simp[World.putObj]
    refine wpIn_mono (hbody _ (hsp _) (fun b hb=>World.putObj_heap_other hb) (hI _ _ _ hia hbp)) ?_
    rintro e a3 W3 hp
    cases e with
    |normal=>
     obtain⟨hab3,hi3⟩:=hp
     have hz3:Wa.heap.size≤W3.heap.size:=by have:=hab3.size;rw[hsp] at this;exact this
     have hza:=hab.size
     have hl3:W3.heap[w.heap.size+1]?=some (.loop {rec .ready none with state:=.busy}):=(hab3.block _ (by omega) (by rw[hsp];omega)).trans hl2
     have hk3:W3.heap[w.heap.size]?=some (.deferred (some [])):=(hab3.block _ (by omega) (by rw[hsp];omega)).trans hk2
     have hlt3:w.heap.size+1<W3.heap.size:=(Array.getElem?_eq_some_iff.1 hl3).1
     have hr:=run_endRound (P:=P) none hl3
     rw[hrec] at hr
     have hbp3:Below B W3 (W3.putObj (w.heap.size+1) (.loop (rec .ready none))):=(Below.refl B W3).grown (grownBy_putObj' W3 _ _) (by omega) (fun k e=>by cases e;omega)
     have hl4:(W3.putObj (w.heap.size+1) (.loop (rec .ready none))).heap[w.heap.size+1]?=some (.loop (rec .ready none)):=World.putObj_heap_same hlt3
     have hk4:(W3.putObj (w.heap.size+1) (.loop (rec .ready none))).heap[w.heap.size]?=some (.deferred (some [])):=(World.putObj_heap_other (by omega)).trans hk3
     have hi4:=hI _ _ _ hi3 hbp3
     have hfin:Above B W (W3.putObj (w.heap.size+1) (.loop (rec .ready none))):=by
      have g:=grownBy_putObj' W3 (w.heap.size+1) (.loop (rec .ready none))
      have g2:=grownBy_putObj' Wa (w.heap.size+1) (.loop {rec .ready none with state:=.busy})
      refine⟨g.os.trans (hab3.os.trans (g2.os.trans hab.os)),g.tape.trans (hab3.tape.trans (g2.tape.trans hab.tape)),g.output.trans (hab3.output.trans (g2.output.trans hab.output)),?_,fun b hb1 hb2=>?_⟩
      ·have:=g.size
       omega
      ·by_cases hbl:b=w.heap.size+1
       ·subst hbl
        rw[hl4,hl]
       ·rw[World.putObj_heap_other hbl,hab3.block b hb1 (by rw[hsp];omega),World.putObj_heap_other hbl,hab.block b hb1 hb2]
     rw[hrec] at hi4 hl4 hk4 hfin
     rw[hrec]
     exact⟨_,_,hr,rfl,⟨hi4,hl4,hk4⟩,hfin⟩
    |ret=>exact hp.elim
    |exit id=>exact hp.elim
    |goto t=>exact hp.elim
    |panic ch=>exact hp.elim
    |outgrown=>exact hp.elim
   |ret=>exact he.elim
   |exit id=>exact he.elim
   |goto t=>exact he.elim
   |panic ch=>exact he.elim
   |outgrown=>exact he.elim
  ·rintro e W2 ⟨⟨v,rfl⟩,hi,hl,hk⟩
   have hlt:w.heap.size+1<W2.heap.size:=(Array.getElem?_eq_some_iff.1 hl).1
   refine⟨none,_,by have:=run_endLoop (P:=P) hl (by rw[hrec];simp);rw[hrec] at this;exact this,?_⟩
   refine hdone _ _ (Nat.le_refl _) (hI _ _ _ hi ((Below.refl B W2).grown (grownBy_putObj' W2 _ _) (by omega) (fun k e=>by cases e;omega))) ((World.putObj_heap_other (by omega)).trans hk)
end
section
open Go Go.RowKit Go.Shelf
attribute [local go_sem] Oper.semAt_some
theorem Zvf {P:Program} {c:Code} {Q:Exit→Act→World→Prop} {a:Act} {w:World} (h:c.wpIn Fence.wide 0 P (Exit.noGoto Q) a w):(Code.scope c).wpIn Fence.wide 0 P Q a w:=
 wpIn_wide.2 (wp_scope_straight (wpIn_wide.1 h))
def BlkI (W:World) (b:Nat) (t:TypeId) (L:List Int):Prop:=W.heap[b]?=some (.cells ((L.map (Value.int .i64)).toArray) t (0,0))
theorem BlkI.cell {W:World} {b:Nat} {t:TypeId} {L:List Int} (h:BlkI W b t L) (j:Nat) (hj:j<L.length):W.cell? ⟨b,j,none⟩=some (.int .i64 L[j]):=
 Zaa j h (by simp[hj])
theorem BlkI.free {W:World} {b:Nat} {t:TypeId} {L:List Int} (h:BlkI W b t L) (j:Nat):W.frozen? ⟨b,j,none⟩=false:=Zad j h
theorem BlkI.set {W:World} {b:Nat} {t:TypeId} {L:List Int} (h:BlkI W b t L) (j:Nat) (x:Int):BlkI (W.setCell ⟨b,j,none⟩ (.int .i64 x)) b t (L.set j x):=by
 have:=Zak j (.int .i64 x) h
 unfold BlkI
 rw[this]
 simp
theorem BlkI.lt {W:World} {b:Nat} {t:TypeId} {L:List Int} (h:BlkI W b t L):b<W.heap.size:=lt_of_block h
theorem BlkI.same {W W':World} {b:Nat} {t:TypeId} {L:List Int} (h:BlkI W b t L) (e:W'.heap[b]?=W.heap[b]?):BlkI W' b t L:=e.trans h
structure Box3 (W:World) (bm l bx yy bt bn:Nat):Prop where
 x:W.heap[bx]?=some (.cells #[.pointer (some ⟨bm,0,none⟩)] 120 (0,0))
 y:W.heap[yy]?=some (.cells #[.func (.yield l) #[] #[]] 243 (0,0))
 n:W.heap[bn]?=some (.cells #[.func (.func 176) #[] #[.pointer (some ⟨bx,0,none⟩),.pointer (some ⟨yy,0,none⟩),.pointer (some ⟨bt,0,none⟩),.pointer (some ⟨bn,0,none⟩)]] 123 (0,0))
theorem Box3.same {W W':World} {bm l bx yy bt bn:Nat} (h:Box3 W bm l bx yy bt bn) (e1:W'.heap[bx]?=W.heap[bx]?) (e2:W'.heap[yy]?=W.heap[yy]?) (e3:W'.heap[bn]?=W.heap[bn]?):Box3 W' bm l bx yy bt bn:=
 ⟨e1.trans h.x,e2.trans h.y,e3.trans h.n⟩
@[reducible] def five (T:List Int):Value:=.agg #[.int .i64 (T[0]?.getD 0),.int .i64 (T[1]?.getD 0),.int .i64 (T[2]?.getD 0),.int .i64 (T[3]?.getD 0),.int .i64 (T[4]?.getD 0)]
theorem Zu6 {T:List Int} (h:T.length=5):T=[T[0]?.getD 0,T[1]?.getD 0,T[2]?.getD 0,T[3]?.getD 0,T[4]?.getD 0]:=by
 match T,h with
 |[a,b,c,d,e],_=>rfl
theorem Z4a (ac az aw ap:Option Addr) (cc cz cw cp:Nat) (m:MoList) (c bm l bx yy bt bn:Nat) (t0 t1 t2 t3 t4:Int) (W:World) (hm:LookC W bm ac az aw ap cc cz cw cp m c) (hb:Box3 W bm l bx yy bt bn) (hT:BlkI W bt 183 [t0,t1,t2,t3,t4])
  (Q:World→Prop) (hy:YieldAt Fence.wide 0 Tryz.prog l #[.agg #[.int .i64 t0,.int .i64 t1,.int .i64 t2,.int .i64 t3,.int .i64 t4]] W fun e W'=>e=.returned (.bool true)∧Q W'):
  CallsIn Fence.wide 0 Tryz.prog 176 #[.int .i64 (m.sums.length:Int),.pointer (some ⟨bx,0,none⟩),.pointer (some ⟨yy,0,none⟩),.pointer (some ⟨bt,0,none⟩),.pointer (some ⟨bn,0,none⟩)] W fun e W'=>e=.returned (.bool true)∧Q W':=by
 have l2:=hm.lst.okz.len
 have c1:=hm.c1
 have x0:=Zaa 0 hb.x rfl
 have y0:=Zaa 0 hb.y rfl
 have d0:=Zaa 0 hT rfl
 have d1:=Zaa 1 hT rfl
 have d2:=Zaa 2 hT rfl
 have d3:=Zaa 3 hT rfl
 have d4:=Zaa 4 hT rfl
 simp only[List.map_cons,List.map_nil,List.getElem_toArray,List.getElem_cons_succ,List.getElem_cons_zero] at x0 y0 d0 d1 d2 d3 d4
 obtain⟨fn,tmps,assign,body,hyr,hR⟩:=hy
 have HR:=LH hR
 clear hR
 refine callsIn_of_wp Tryz.func176 rfl trivial ?_ rfl
 simp only[Tryz.ntmps176,List.size_toArray,List.length_cons,List.length_nil,Nat.reduceAdd,Nat.reduceSub,Array.replicate_succ,Array.replicate_zero,List.push_toArray,List.append_toArray,List.nil_append,List.cons_append]
 gi_wp2
 refine Zvf ?_
 gi_wp2
 refine⟨rfl,HR.out.mono ?_⟩
 rintro e W2 ⟨rfl,hQ⟩
 gi_wp2
 rw[Exit.noGoto_ret]
 go_ret
 exact⟨rfl,hQ⟩
end
section
def Ziw (m:MoList) (k:Nat) (t:List Int) (x:Nat):List (List Int):=((List.range x).filter fun c=>fine m t.length t c).flatMap fun(c:Nat)=>dfs m k (t++[(c:Int)])
theorem Zxw (m:MoList) (k:Nat) (t:List Int):Ziw m k t 0=[]:=rfl
theorem Zrz (m:MoList) (k:Nat) (t:List Int) (x:Nat) (h:fine m t.length t x=true):Ziw m k t (x+1)=Ziw m k t x++dfs m k (t++[(x:Int)]):=by
 unfold Ziw
 rw[List.range_succ,List.filter_append,List.flatMap_append]
 simp[h]
theorem Zw3 (m:MoList) (k:Nat) (t:List Int) (x:Nat) (h:fine m t.length t x=false):Ziw m k t (x+1)=Ziw m k t x:=by
 unfold Ziw
 rw[List.range_succ,List.filter_append,List.flatMap_append]
 simp[h]
theorem Z4i (m:MoList) (k:Nat) (t:List Int) (x:Nat):Ziw m k t x <+: Ziw m k t (x+1):=by
 cases h:fine m t.length t x
 ·rw[Zw3 m k t x h];exact List.prefix_refl _
 ·rw[Zrz m k t x h]
  exact List.prefix_append _ _
theorem Zwd (m:MoList) (k:Nat) (t:List Int) (x:Nat):∀j,Ziw m k t x <+: Ziw m k t (x+j)
 |0=>List.prefix_refl _
 |j+1=>(Zwd m k t x j).trans (Z4i m k t (x+j))
theorem Z80 {α:Type} {a b c d:List α} (h:a <+: b) (h2:c++b <+: d):c++a <+: d:=(List.prefix_append_right_inj c |>.2 h).trans h2
theorem Z3x (n:Nat) (t:List Int) (x y:Int) (h:t.length<n):(pad n (t++[y])).set t.length x=pad n (t++[x]):=by
 rw[←Z08 n t y h,List.set_set,Z08 n t x h]
theorem Z42 (n:Nat) (t:List Int) (h:t.length<n):pad n (t++[0])=pad n t:=by
 rw[←Zto n t 0 h,Z3x n t 0 0 h]
theorem Z87 (m:MoList) (hv:Valid m) (t:List Int) (x:Nat) (N:Nat) (ht:t.length<N) (hs:t.length<m.sums.length) (h:Ze5 m t=true):
  fine m t.length t x=(bitB m.sums[t.length].for_ x&&Zlg m (pad N (t++[(x:Int)])) t.length):=by
 unfold fine
 rw[List.getElem?_eq_getElem hs,Ztg m hv t x N ht h]
theorem Zih {m:MoList} (hv:Valid m) (c:Nat):Valid (Zam m c):=by
 have hl:=Zch m c
 refine⟨hv.nc,hv.nz,by rw[hl];exact hv.nw,hv.np,hv.sums,fun i hi=>?_,hv.paid,hv.names,hv.snames⟩
 have hi2:i<m.words.length:=by rw[hl] at hi;exact hi
 have e:(Zam m c).words[i]=Zg8 c i m.words[i]:=by
  have:=Zgp m c i hi2
  rw[List.getElem?_eq_getElem hi] at this
  exact Option.some.inj this
 have h:=hv.words i hi2
 rw[e,hl]
 exact⟨h.says,h.sum,h.of1,h.of2,h.back⟩
end
end Go.Proofs.YtklconegomgjaaaGreat
