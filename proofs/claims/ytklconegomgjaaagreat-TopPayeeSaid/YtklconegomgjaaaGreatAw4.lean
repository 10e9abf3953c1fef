/- What is proved here: the contract of Awake. No condition. -/
import Derived.Test.YtklconegomgjaaaGreatAw3G
set_option linter.all false
set_option maxRecDepth 100000
set_option maxHeartbeats 16000000
namespace Go.Proofs.YtklconegomgjaaaGreat
open Go Go.RowKit
theorem Zj0 (w:World):Calls Tryz.prog 12 #[] w fun e w'=>e=.returned (.bool true)∧Below w.heap.size w w':=by
 have A:=Z6g
 have F2:=Z9c
 have F3:=Z8h
 have F4:=Z7i
 have F5:=Z7w
 have F6:=Z89
 have F7:=Z6s
 have F8:=Z5i
 have F9:=Z7q
 have F10:=Z4n
 have F11:=Z4y
 have LN:=fun W=>Z74 W
 have LY:=fun W=>Z57 W
 have EL:=Z8c
 replace F11:Zft {exM false with words:=(exM false).words++[⟨0,0,0,-1,true⟩]}=([],8):=F11
 generalize exM false=M at A F2 F3 F4 F5 F6 F7 F8 F9 F11 LN EL
 generalize exM true=P at F10 LY
 obtain⟨ws,hws⟩:∃ws,ws=M.words++[⟨0,0,0,-1,true⟩]:=⟨_,rfl⟩
 rw[←hws] at F11
 obtain⟨l1,hl1⟩:∃l:List Int,l=[1,1,0]:=⟨_,rfl⟩
 obtain⟨l2,hl2⟩:∃l:List Int,l=[0,2]:=⟨_,rfl⟩
 obtain⟨l3,hl3⟩:∃l:List Int,l=[2]:=⟨_,rfl⟩
 obtain⟨l4,hl4⟩:∃l:List Int,l=[0]:=⟨_,rfl⟩
 rw[←hl1] at A
 rw[←hl2] at F2
 rw[←hl3] at F5 F6
 rw[←hl4] at F10
 replace A:=LH A
 replace F2:=LH F2
 replace F3:=LH F3
 replace F4:=LH F4
 replace F5:=LH F5
 replace F6:=LH F6
 replace F7:=LH F7
 replace F8:=LH F8
 replace F9:=LH F9
 replace F10:=LH F10
 replace F11:=LH F11
 replace LN:=LH LN
 replace LY:=LH LY
 replace EL:=LH EL
 replace hws:=LH hws
 replace hl1:=LH hl1
 replace hl2:=LH hl2
 replace hl3:=LH hl3
 replace hl4:=LH hl4
 go_enter Tryz.func12,Tryz.ntmps12
 go_wp2_with (first
  |(go_at_call 50;(have hm9:=Zz8 (v:=.slice a9 ws.length c9) hm3 (Zf9 hQ) hs9 ho2 (by omega));(with_reducible refine(Z8m ac az none ap cc cz 0 cp M ws a9 c9 [] 8 F11.out _ hm9).mono ?_);rintro e w16 ⟨a6,c6,rfl,o6,-,hb⟩;replace i1:=(i1.far (j:=2) (v:=.slice a9 ws.length c9) (Zsz hQ)).mono hb;replace i2:=(i2.far (j:=2) (v:=.slice a9 ws.length c9) (Zsz hQ)).mono hb;replace i3:=(i3.far (j:=2) (v:=.slice a9 ws.length c9) (Zsz hQ)).mono hb;replace i4:=(i4.far (j:=2) (v:=.slice a9 ws.length c9) (Zsz hQ)).mono hb;replace i5:=(i5.far (j:=2) (v:=.slice a9 ws.length c9) (Zsz hQ)).mono hb;replace s1:=Zl7 (Z60 (j:=2) (v:=.slice a9 ws.length c9) s1 (by omega)) hb;replace s2:=Zl7 (Z60 (j:=2) (v:=.slice a9 ws.length c9) s2 (by omega)) hb;(have hbE:=Z92 hb03 (Zf9 hQ) hb);clear ho1 ho2 hx;dsimp only)
  |(at_builtin;(refine Zbs (.tmp 84) (.tmp 86) Z69 rfl rfl rfl rfl w13.heap.size M.words.length 1 (Zb9 M.words) [.int .i64 0,.int .i64 0,.int .i64 0,.int .i64 (-1),.bool true] (ho1.alloc _) (Za2.word w14 0 0 0 (-1) true _) (by have:=EL.out;omega) (by decide) (by have:=hb13.size;simp;omega) ?_);(intro v2 w15 ho2 hg2 _);(replace hb:=Zdw hb13 (Nat.le_refl _) (Nat.le_refl _) ho1 hg2);replace hQ:=Zkz hQ hb;replace hx:=bx hQ;replace i1:=i1.mono hb;replace i2:=i2.mono hb;replace i3:=i3.mono hb;replace i4:=i4.mono hb;replace i5:=i5.mono hb;replace s1:=Zl7 s1 hb;replace s2:=Zl7 s2 hb;clear hg2;rw[Zxs] at ho2;rw[←hws.out] at ho2;(have hl2':M.words.length+1=ws.length:=by rw[hws.out];simp);rw[hl2'] at ho2;(obtain⟨-,a9,c9,rfl,hs9,-⟩:=Zsq ho2);clear hl2';simp only[frT])
  |(at_builtin;(refine Zbs (.tmp 81) (.tmp 83) Z69 rfl rfl rfl rfl w13.heap.size 0 M.words.length [] (Zb9 M.words) (Zxp w13) ?g1 (by have:=EL.out;omega) (by decide) (by simp) ?_);(case g1=>exact Za2.words hm3.okw.2.2 ((hm3.words.mono (Zf9 hQ)).mono (Zkj _ _)));(intro v1 w14 ho1 hg1 _);(simp only[Nat.zero_add,List.nil_append] at ho1);(have hb13:=Zm7 (n:=0) (c:=0) hg1);clear hg1;simp only[frT])
  |(go_at_call 54;(with_reducible refine(Z8s _ _ _ _ _ _ _ _ P l4 0 F10.out _ (hmp.mono (Zf9 hQ))).mono ?_);rintro e w13 ⟨a5,c5,rfl,o5,i5,hb⟩;replace hQ:=Zkz hQ hb;replace hx:=bx hQ;replace i1:=i1.mono hb;replace i2:=i2.mono hb;replace i3:=i3.mono hb;replace i4:=i4.mono hb;replace s1:=Zl7 s1 hb;replace s2:=Zl7 s2 hb;have z3:=Zuf hQ;dsimp only)
  |(go_at_call 53;(with_reducible refine(Z9j _ _ _ _ _ _ _ _ M 50 65 0 F9.out _ (hm3.mono (Zf9 hQ))).mono ?_);rintro e w12 ⟨rfl,hb⟩;replace hQ:=Zkz hQ hb;replace hx:=bx hQ;replace i1:=i1.mono hb;replace i2:=i2.mono hb;replace i3:=i3.mono hb;replace i4:=i4.mono hb;replace s1:=Zl7 s1 hb;replace s2:=Zl7 s2 hb;dsimp only)
  |(go_at_call 52;(with_reducible refine(Z6y _ _ _ _ _ _ _ _ M 1 50 50 0 F8.out _ (hm3.mono (Zf9 hQ))).mono ?_);rintro e w11 ⟨rfl,hb⟩;replace hQ:=Zkz hQ hb;replace hx:=bx hQ;replace i1:=i1.mono hb;replace i2:=i2.mono hb;replace i3:=i3.mono hb;replace i4:=i4.mono hb;replace s1:=Zl7 s1 hb;have z2:=Zuf hQ;have s2:=Z66 w11 50 50 36;replace hb:=Zkj w11 (.cells #[.int .i64 50,.int .i64 50] 36);replace hQ:=Zkz hQ hb;replace hx:=bx hQ;replace i1:=i1.mono hb;replace i2:=i2.mono hb;replace i3:=i3.mono hb;replace i4:=i4.mono hb;replace s1:=Zl7 s1 hb;dsimp only)
  |(go_at_call 52;(with_reducible refine(Z6y _ _ _ _ _ _ _ _ M 0 0 15 0 F7.out _ (hm3.mono (Zf9 hQ))).mono ?_);rintro e w10 ⟨rfl,hb⟩;replace hQ:=Zkz hQ hb;replace hx:=bx hQ;replace i1:=i1.mono hb;replace i2:=i2.mono hb;replace i3:=i3.mono hb;replace i4:=i4.mono hb;have z1:=Zuf hQ;have s1:=Z66 w10 0 15 36;replace hb:=Zkj w10 (.cells #[.int .i64 0,.int .i64 15] 36);replace hQ:=Zkz hQ hb;replace hx:=bx hQ;replace i1:=i1.mono hb;replace i2:=i2.mono hb;replace i3:=i3.mono hb;replace i4:=i4.mono hb;dsimp only)
  |(go_at_call 51;(with_reducible refine(Z9q _ _ _ _ _ _ _ _ M l3 0 F6.out _ (hm3.mono (Zf9 hQ))).mono ?_);rintro e w9 ⟨a4,c4,rfl,o4,i4,hb⟩;replace hQ:=Zkz hQ hb;replace hx:=bx hQ;replace i1:=i1.mono hb;replace i2:=i2.mono hb;replace i3:=i3.mono hb;dsimp only)
  |(go_at_call 50;(with_reducible refine(Z7b _ _ _ _ _ _ _ _ M l3 0 F5.out _ (hm3.mono (Zf9 hQ))).mono ?_);rintro e w8 ⟨a3,c3,rfl,o3,i3,hb⟩;replace hQ:=Zkz hQ hb;replace hx:=bx hQ;replace i1:=i1.mono hb;replace i2:=i2.mono hb;dsimp only)
  |(go_at_call 15;(with_reducible refine(Z9y _ _ _ _ _ _ _ _ M 2 0 9 F4.out _ (hm3.mono (Zf9 hQ))).mono ?_);rintro e w7 ⟨rfl,hb⟩;replace hQ:=Zkz hQ hb;replace hx:=bx hQ;replace i1:=i1.mono hb;replace i2:=i2.mono hb;dsimp only)
  |(go_at_call 15;(with_reducible refine(Z9y _ _ _ _ _ _ _ _ M 1 1 0 F3.out _ (hm3.mono (Zf9 hQ))).mono ?_);rintro e w6 ⟨rfl,hb⟩;replace hQ:=Zkz hQ hb;replace hx:=bx hQ;replace i1:=i1.mono hb;replace i2:=i2.mono hb;dsimp only)
  |(go_at_call 16;(with_reducible refine(Z96 _ _ _ _ _ _ _ _ M 2 l2 0 F2.out _ (hm3.mono (Zf9 hQ))).mono ?_);rintro e w5 ⟨a2,c2,rfl,o2,i2,hb⟩;replace hQ:=Zkz hQ hb;replace hx:=bx hQ;replace i1:=i1.mono hb;dsimp only)
  |(go_at_call 49;(with_reducible refine(Z8v _ _ _ _ _ _ _ _ M l1 2 0 A.out _ (hm3.mono (Zf9 hQ))).mono ?_);rintro e w4 ⟨a1,c1,rfl,o1,i1,hb⟩;replace hQ:=Zkz hQ hb;replace hx:=bx hQ;dsimp only)
  |(go_at_call 48;(with_reducible refine(LY.out _).mono ?_);rintro e w3 ⟨bc,bz,bw,bp,dc,dz,dw,dp,rfl,hmp,hb3⟩;have hm3:=hm2.mono hb3;have hb03:=hb2.trans (hb3.mono hb2.size);have hQ:=Below.refl (w3.heap.size+1+1) ((w3.alloc (.cells #[.slice ac M.claimants.length cc,.slice az M.sums.length cz,.slice aw M.words.length cw,.slice ap M.paid.length cp] 54)).alloc (.cells #[.slice bc P.claimants.length dc,.slice bz P.sums.length dz,.slice bw P.words.length dw,.slice bp P.paid.length dp] 54));have hx:=bx hQ;dsimp only)
  |(go_at_call 48;go_must (refine(LN.out _).mono ?_;rintro e w2 ⟨ac,az,aw,ap,cc,cz,cw,cp,rfl,hm2,hb2⟩;dsimp only)))
 have KE:Hid (∀V,Below w16.heap.size w16 V→(fun V=>Below w16.heap.size w16 V∧(V.cell? ⟨w10.heap.size,0,none⟩=some (.int .i64 0)∧V.cell? ⟨w10.heap.size,1,none⟩=some (.int .i64 15))∧(V.cell? ⟨w11.heap.size,0,none⟩=some (.int .i64 50)∧V.cell? ⟨w11.heap.size,1,none⟩=some (.int .i64 50))∧w10.heap.size<V.heap.size∧w11.heap.size<V.heap.size) V):=LH (fun V h=>by
  have p1:=Zl7 s1 h
  have p2:=Zl7 s2 h
  exact⟨h,⟨p1.1,p1.2.1⟩,⟨p2.1,p2.2.1⟩,p1.2.2,p2.2.2⟩)
 have I1:=LH (fun(V:World) (h:Below w16.heap.size w16 V)=>Zz7 (c:=c1) 1 1 0 3 hl1.out (i1.mono h))
 have I2:=LH (fun(V:World) (h:Below w16.heap.size w16 V)=>Z6p (c:=c2) 0 2 3 hl2.out (i2.mono h))
 have I3:=LH (fun(V:World) (h:Below w16.heap.size w16 V)=>Zqx (c:=c3) 2 3 hl3.out (i3.mono h))
 have I4:=LH (fun(V:World) (h:Below w16.heap.size w16 V)=>Zqx (c:=c4) 2 3 hl3.out (i4.mono h))
 have I5:=LH (fun(V:World) (h:Below w16.heap.size w16 V)=>Zqx (c:=c5) 0 3 hl4.out (i5.mono h))
 have hE:=LH hbE
 have hEz:=LH hbE.size
 clear hb s1 s2 i1 i2 i3 i4 i5 o1 o2 o3 o4 o5 o6 hs9 hQ hbE hm9 hb13 hm2 hm3 hmp hb2 hb3 hb03 z1 z2 z3
 have hB:=Zds w16
 as_aux_lemma=>
  refine wp_region_held_drew (S:=(fun V=>Below w16.heap.size w16 V∧(V.cell? ⟨w10.heap.size,0,none⟩=some (.int .i64 0)∧V.cell? ⟨w10.heap.size,1,none⟩=some (.int .i64 15))∧(V.cell? ⟨w11.heap.size,0,none⟩=some (.int .i64 50)∧V.cell? ⟨w11.heap.size,1,none⟩=some (.int .i64 50))∧w10.heap.size<V.heap.size∧w11.heap.size<V.heap.size)) (by kernel_rfl) (KE.out _ hB) (fun hHeld=>?_)
  (refine tkH 0 ?_;simp only[frT])
  (refine tkH 1 ?_;simp only[frT])
  (refine tkH 2 ?_;simp only[frT])
  (refine tkH 3 ?_;simp only[frT])
  (refine tkH 4 ?_;simp only[frT])
  (refine tkH 5 ?_;simp only[frT])
  (refine tkH 6 ?_;simp only[frT])
  as_aux_lemma=>
   (refine tkH 7 ?_;simp only[frT])
   (refine tkH 8 ?_;simp only[frT])
   (refine tkH 9 ?_;simp only[frT])
   (refine tkH 10 ?_;simp only[frT])
   (refine tkH 11 ?_;simp only[frT])
   (refine tkH 12 ?_;simp only[frT])
   (refine tkH 13 ?_;simp only[frT])
   (refine tkH 14 ?_;simp only[frT])
   as_aux_lemma=>
    (refine tkH 15 ?_;simp only[frT])
    (refine tkH 16 ?_;simp only[frT])
    (refine tkH 17 ?_;simp only[frT])
    (refine tkH 18 ?_;simp only[frT])
    (refine tkH 19 ?_;simp only[frT])
    (refine tkH 20 ?_;simp only[frT])
    (refine tkH 21 ?_;simp only[frT])
    (refine tkH 22 ?_;simp only[frT])
    as_aux_lemma=>
     (refine tkH 23 ?_;simp only[frT])
     (refine tkH 24 ?_;simp only[frT])
     (refine tkH 25 ?_;simp only[frT])
     (refine tkH 26 ?_;simp only[frT])
     (refine tkH 27 ?_;simp only[frT])
     (refine tkH 28 ?_;simp only[frT])
     (refine tkH 29 ?_;simp only[frT])
     (refine tkH 30 ?_;simp only[frT])
     as_aux_lemma=>
      (refine tkH 31 ?_;simp only[frT])
      (refine tkH 32 ?_;simp only[frT])
      (refine tkH 33 ?_;simp only[frT])
      (refine tkH 34 ?_;simp only[frT])
      (refine tkH 35 ?_;simp only[frT])
      (refine tkH 36 ?_;simp only[frT])
      (refine tkH 37 ?_;simp only[frT])
      (refine tkH 38 ?_;simp only[frT])
      as_aux_lemma=>
       (refine tkH 39 ?_;simp only[frT])
       (refine tkH 40 ?_;simp only[frT])
       (refine tkH 41 ?_;simp only[frT])
       (refine tkH 42 ?_;simp only[frT])
       (refine tkH 43 ?_;simp only[frT])
       (refine wpAnyH_ready (rs:=[44]) (by kernel_rfl) (by simp) ?_;refine AllReadyH.cons rfl (fun K hK=>?_) AllReadyH.nil;go_simp)
       refine hK.out _ _ (KE.out _ (hB.trans ((Zkj _ _).mono hB.size))) (fun hHeld=>?_)
       (try simp only[frT])
       clear hK
       (refine wpAnyH_ready (rs:=[45]) (by kernel_rfl) (by simp) ?_;refine AllReadyH.cons rfl (fun K hK=>?_) AllReadyH.nil;go_simp)
       go_wp2_with (go_at_call 28;go_must (refine(I1.out _ hB).mono ?_;rintro e w17 ⟨rfl,hb⟩;dsimp only))
       replace hB:=hB.trans (hb.mono hB.size)
       clear hb
       refine hK.out _ _ (KE.out _ hB) (fun hHeld=>?_)
       (try simp only[frT])
       clear hK
       (refine tkH 46 ?_;simp only[frT])
       as_aux_lemma=>
        (refine tkH 47 ?_;simp only[frT])
        (refine tkH 48 ?_;simp only[frT])
        (refine tkH 49 ?_;simp only[frT])
        (refine tkH 50 ?_;simp only[frT])
        (refine tkH 51 ?_;simp only[frT])
        (refine tkH 52 ?_;simp only[frT])
        (refine wpAnyH_ready (rs:=[53]) (by kernel_rfl) (by simp) ?_;refine AllReadyH.cons rfl (fun K hK=>?_) AllReadyH.nil;go_simp)
        refine hK.out _ _ (KE.out _ (hB.trans ((Zkj _ _).mono hB.size))) (fun hHeld=>?_)
        (try simp only[frT])
        clear hK
        (refine wpAnyH_ready (rs:=[54]) (by kernel_rfl) (by simp) ?_;refine AllReadyH.cons rfl (fun K hK=>?_) AllReadyH.nil;go_simp)
        go_wp2_with (go_at_call 28;go_must (refine(I2.out _ hB).mono ?_;rintro e w18 ⟨rfl,hb⟩;dsimp only))
        replace hB:=hB.trans (hb.mono hB.size)
        clear hb
        refine hK.out _ _ (KE.out _ hB) (fun hHeld=>?_)
        (try simp only[frT])
        clear hK
        as_aux_lemma=>
         (refine tkH 55 ?_;simp only[frT])
         (refine tkH 56 ?_;simp only[frT])
         (refine tkH 57 ?_;simp only[frT])
         (refine tkH 58 ?_;simp only[frT])
         (refine tkH 59 ?_;simp only[frT])
         (refine tkH 60 ?_;simp only[frT])
         (refine tkH 61 ?_;simp only[frT])
         (refine wpAnyH_ready (rs:=[62]) (by kernel_rfl) (by simp) ?_;refine AllReadyH.cons rfl (fun K hK=>?_) AllReadyH.nil;go_simp)
         refine hK.out _ _ (KE.out _ (hB.trans ((Zkj _ _).mono hB.size))) (fun hHeld=>?_)
         (try simp only[frT])
         clear hK
         as_aux_lemma=>
          (refine wpAnyH_ready (rs:=[63]) (by kernel_rfl) (by simp) ?_;refine AllReadyH.cons rfl (fun K hK=>?_) AllReadyH.nil;go_simp)
          go_wp2_with (go_at_call 28;go_must (refine(I3.out _ hB).mono ?_;rintro e w19 ⟨rfl,hb⟩;dsimp only))
          replace hB:=hB.trans (hb.mono hB.size)
          clear hb
          refine hK.out _ _ (KE.out _ hB) (fun hHeld=>?_)
          (try simp only[frT])
          clear hK
          (refine tkH 64 ?_;simp only[frT])
          (refine tkH 65 ?_;simp only[frT])
          (refine tkH 66 ?_;simp only[frT])
          (refine wpAnyH_ready (rs:=[67]) (by kernel_rfl) (by simp) ?_;refine AllReadyH.cons rfl (fun K hK=>?_) AllReadyH.nil;go_simp)
          refine hK.out _ _ (KE.out _ (hB.trans ((Zkj _ _).mono hB.size))) (fun hHeld=>?_)
          (try simp only[frT])
          clear hK
          (refine wpAnyH_ready (rs:=[68]) (by kernel_rfl) (by simp) ?_;refine AllReadyH.cons rfl (fun K hK=>?_) AllReadyH.nil;go_simp)
          go_wp2_with (go_at_call 28;go_must (refine(I4.out _ hB).mono ?_;rintro e w20 ⟨rfl,hb⟩;dsimp only))
          replace hB:=hB.trans (hb.mono hB.size)
          clear hb
          refine hK.out _ _ (KE.out _ hB) (fun hHeld=>?_)
          (try simp only[frT])
          clear hK
          (refine tkH 69 ?_;simp only[frT])
          (refine tkH 70 ?_;simp only[frT])
          as_aux_lemma=>
           (refine tkH 71 ?_;simp only[frT])
           (refine wpAnyH_ready (rs:=[72]) (by kernel_rfl) (by simp) ?_;refine AllReadyH.cons rfl (fun K hK=>?_) AllReadyH.nil;go_simp)
           go_wp2_with (go_at_call 55;go_must (refine(Zwz _ _ _).mono ?_;rintro e w21 ⟨rfl,hb⟩;dsimp only))
           replace hB:=hB.trans (hb.mono hB.size)
           clear hb
           refine hK.out _ _ (KE.out _ hB) (fun hHeld=>?_)
           (try simp only[frT])
           clear hK
           (refine tkH 73 ?_;simp only[frT])
           (refine tkH 74 ?_;simp only[frT])
           (refine tkH 75 ?_;simp only[frT])
           (refine tkH 76 ?_;simp only[frT])
           (refine wpAnyH_ready (rs:=[77]) (by kernel_rfl) (by simp) ?_;refine AllReadyH.cons rfl (fun K hK=>?_) AllReadyH.nil;go_simp)
           go_wp2_with (go_at_call 55;go_must (refine(Zwz _ _ _).mono ?_;rintro e w22 ⟨rfl,hb⟩;dsimp only))
           replace hB:=hB.trans (hb.mono hB.size)
           clear hb
           refine hK.out _ _ (KE.out _ hB) (fun hHeld=>?_)
           (try simp only[frT])
           clear hK
           (refine tkH 78 ?_;simp only[frT])
           as_aux_lemma=>
            (refine tkH 79 ?_;simp only[frT])
            (refine tkH 80 ?_;simp only[frT])
            (refine tkH 81 ?_;simp only[frT])
            (refine tkH 82 ?_;simp only[frT])
            (refine tkH 83 ?_;simp only[frT])
            (refine tkH 84 ?_;simp only[frT])
            (refine tkH 85 ?_;simp only[frT])
            (refine tkH 86 ?_;simp only[frT])
            as_aux_lemma=>
             (refine tkH 87 ?_;simp only[frT])
             (refine tkH 88 ?_;simp only[frT])
             (refine tkH 89 ?_;simp only[frT])
             (refine wpAnyH_ready (rs:=[90]) (by kernel_rfl) (by simp) ?_;refine AllReadyH.cons rfl (fun K hK=>?_) AllReadyH.nil;go_simp)
             refine hK.out _ _ (KE.out _ (hB.trans ((Zkj _ _).mono hB.size))) (fun hHeld=>?_)
             (try simp only[frT])
             clear hK
             (refine wpAnyH_ready (rs:=[91]) (by kernel_rfl) (by simp) ?_;refine AllReadyH.cons rfl (fun K hK=>?_) AllReadyH.nil;go_simp)
             go_wp2_with (go_at_call 28;go_must (refine(I5.out _ hB).mono ?_;rintro e w23 ⟨rfl,hb⟩;dsimp only))
             replace hB:=hB.trans (hb.mono hB.size)
             clear hb
             refine hK.out _ _ (KE.out _ hB) (fun hHeld=>?_)
             (try simp only[frT])
             clear hK
             (refine tkH 92 ?_;simp only[frT])
             (refine tkH 93 ?_;simp only[frT])
             refine wpAnyH_done (by kernel_rfl) ?_ _
             go_wp2
             go_ret
             exact⟨rfl,hE.out.trans (hB.mono hEz.out)⟩
end Go.Proofs.YtklconegomgjaaaGreat
