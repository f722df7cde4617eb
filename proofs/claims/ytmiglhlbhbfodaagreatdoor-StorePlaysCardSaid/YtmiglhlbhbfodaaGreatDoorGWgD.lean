/- GWgD: Wg10, Wg11, RdPlays7. -/
import Derived.Test.YtmiglhlbhbfodaaGreatDoorGWgC
import Derived.Test.YtmiglhlbhbfodaaGreatDoorAct7
import Derived.Test.YtmiglhlbhbfodaaGreatDoorBmRead
set_option maxHeartbeats 16000000
set_option maxRecDepth 100000
namespace Go.Proofs.YtmiglhlbhbfodaaGreatDoor
section
open Go.RowKit Go.Sort Go.Shelf
theorem readB_on{D:Dsk}(h:D.off=false)(f k n:Int):(readB D f k n).2≠8:=by
 unfold readB
 split
 ·rw[h,if_neg (by decide)]
  unfold openP
  repeat' split
  all_goals(intro q;cases q)
 ·unfold atA errA
  repeat' split
  all_goals(intro q;first|(cases q;done)|omega)
section
attribute [local go_sem ↓] exec_app semAt_app
attribute [local go_sem] isApp_lit appA appX
theorem w7_same{nb:Nat}{w:World}{x d bs m N:Nat}{D:Dsk}{sp a:Option Addr}{c:Nat}{z:RZ}{K:Bool}(h:W7 nb w x d bs m N D sp a c z K):
 Calls Tryz.prog 27 #[.pointer (some ⟨x,0,none⟩)] w fun e w'=>e=.returned (.bool true)∧W7 nb w' x d bs m N D sp a c z K∧Kept (fun j=>nb≤j) w w':=by
 obtain⟨cap,hd⟩:=h.disk
 have SA:=qh fun w' (kk:Same w w')=>same_any (hd.same kk) a c (h.ds.same kk)
 have H:=qh h
 have BX:=qh (show Blk w x #[.pointer (some ⟨d,0,none⟩),.pointer sp,.slice a D.s.length c,.bool D.off,.int .i64 D.calls,.int .i64 D.after,.bool D.done,.int .i64 z.ring,.int .i64 z.ns,.slice z.na z.nl z.nc,.int .i64 z.rs,.slice z.ca z.cl z.cc,.slice z.ba z.bl z.bc,.int .i64 z.gen,.int .i64 z.slot,.bool z.bad,.bool K] 112 from h.box)
 unfold refV at SA
 clear hd
 go_enter Tryz.func27,Tryz.ntmps27
 have QX:=qh (fun w' (k':Same w w')=>(⟨cell_blk (BX.out.kept k' (fun h=>h)),trivial,trivial,trivial⟩:(∀i,w'.cell? ⟨x,i,none⟩=(#[.pointer (some ⟨d,0,none⟩),.pointer sp,.slice a D.s.length c,.bool D.off,.int .i64 D.calls,.int .i64 D.after,.bool D.done,.int .i64 z.ring,.int .i64 z.ns,.slice z.na z.nl z.nc,.int .i64 z.rs,.slice z.ca z.cl z.cc,.slice z.ba z.bl z.bc,.int .i64 z.gen,.int .i64 z.slot,.bool z.bad,.bool K]:Array Value)[i]?)∧True∧True∧True))
 go_wp2_with fail
 refine wp_region_T (S:=fun w'=>Same w w') 10 (by kernel_rfl) (Kept.refl _ _).drew (fun hHeld hDn=>?_)
 refine wpT_z 0 11 QX hHeld hDn fun hDn=>?_
 refine wpT_z 1 12 QX hHeld hDn fun hDn=>?_
 refine wpT_z 2 13 QX hHeld hDn fun hDn=>?_
 refine wpT_z 3 14 QX hHeld hDn fun hDn=>?_
 refine wpT_z 4 15 QX hHeld hDn fun hDn=>?_
 refine wpT_z 5 16 QX hHeld hDn fun hDn=>?_
 refine wpT_z 6 17 QX hHeld hDn fun hDn=>?_
 refine wpT_z 7 18 QX hHeld hDn fun hDn=>?_
 refine wpT_z 8 19 QX hHeld hDn fun hDn=>?_
 refine wpT_one (i:=9) rfl (by kernel_rfl) hDn (fun K' hK=>?_)
 go_simp
 refine(SA.out _ (Kept.refl _ _).drew).mono ?_
 rintro e w1 ⟨rfl,k1⟩
 have K1:=qh (show Same w w1 from((Kept.refl _ _).drew).trans k1)
 refine hK.out _ _ K1.out (fun hHeld2 hDn2=>?_)
 clear hK K' hHeld hDn
 have hHeld:=hHeld2;have hDn:=hDn2
 clear hHeld2 hDn2
 refine wpT_last rfl (by kernel_rfl) hDn (fun K hK=>?_)
 go_simp
 refine hK.out _ _ (fun hDn'=>?_)
 clear hK K hDn hHeld;have hDn:=hDn';clear hDn'
 refine wpT_done (by kernel_rfl) ?_ _
 have H1:=qh (H.out.same K1.out)
 have BX1:=qh (BX.out.kept K1.out (fun q=>q))
 clear hDn QX k1 SA BX h
 cases K
 ·have p0:=cell_blk BX1.out
  go_wp2_with fail
  go_ret
  exact⟨rfl,H1.out,K1.out.mono (fun _ _ q=>q.elim)⟩
 ·obtain⟨S,p,R,rfl,rfl,hp,hpx,hst,hrs,rfl,rfl,rfl,hok⟩:=H1.out.st rfl
  have HST:=qh hst
  have HR:=qh hrs
  have HOK:=qh hok
  have BX2:=qh (show Blk w1 x #[.pointer (some ⟨d,0,none⟩),.pointer (some ⟨p,0,none⟩),.slice R.a S.D.s.length R.c,.bool S.D.off,.int .i64 S.D.calls,.int .i64 S.D.after,.bool S.D.done,.int .i64 (S.r.ring:Nat),.int .i64 (S.nsize:Nat),.slice R.na S.nwords.length R.nc,.int .i64 (S.r.size:Nat),.slice R.ca S.r.words.length R.cc,.slice R.ba S.r.body.length R.bc,.int .i64 (S.r.gen:Nat),.int .i64 (S.r.slot:Nat),.bool S.bad,.bool true] 112 from BX1.out)
  have LG:=qh (fun w' (kk:Same w1 w')=>st_Log (HST.out.same kk))
  clear hst hrs hok BX1
  have p0:=cell_blk BX2.out
  go_wp2_with fail
  with_reducible refine(LG.out w1 (Kept.refl _ _)).mono ?_
  rintro e w2 ⟨rfl,k2⟩
  have K2b:=qh (K1.out.trans k2)
  have BX:=qh (BX2.out.kept k2 (fun q=>q))
  have HST2:=qh (HST.out.same k2)
  have HRa:=qh (HR.out.same k2)
  clear p0 k2 LG BX2 HST HR
  have HST:=HST2;have HR:=HRa
  clear HST2 HRa
  have BND:=qh (show S.nwords.length<9223372036854775808∧S.nsize≤512 from by obtain⟨_,_,_,_,_,_,_,_,_,_,_,_,_,h7,h8,_⟩:=HST.out;exact⟨by omega,h7⟩)
  have RLE:=qh (show rankN (S.nsize:Nat) S.both (S.nsize:Nat)≤S.nsize from by rw[rankN_eq HOK.out.fit.bothOK];exact cnt_le _ _)
  have US:=qh (fun w' (kk:Same w2 w')=>st_Used (HST.out.same kk) HOK.out.fit)
  have RM:=qh (fun w' (kk:Same w2 w')=>st_Room (HST.out.same kk) HOK.out.fit)
  have RR:=qh (fun w' (kk:Same w2 w')=>rt_Room S R (fun j=>j=x∨FS p d bs m j) HOK.out.fit RLE.out (by have:=BND.out.2;omega) w' (HR.out.same kk))
  have GE:=qh (fun w' (kk:Same w2 w')=>st_Gen (HST.out.same kk))
  have BO:=qh (fun w' (kk:Same w2 w')=>st_Body (HST.out.same kk))
  have BA:=qh (fun w' (kk:Same w2 w')=>st_Bad (HST.out.same kk))
  have BND2:=qh BND.out.2
  have BND3:=qh BND.out.1
  clear BND RLE
  have BND:=BND3
  clear BND3
  unfold UsedPost at US
  unfold rsV rsC at RR
  have QX:=qh (fun w' (k':Same w2 w')=>(⟨cell_blk (BX.out.kept k' (fun h=>h)),conv_str R.ba S.r.body.length R.bc S.r.body w' rfl (HR.out.st.bs.same k'),trivial,trivial⟩:(∀i,w'.cell? ⟨x,i,none⟩=(#[.pointer (some ⟨d,0,none⟩),.pointer (some ⟨p,0,none⟩),.slice R.a S.D.s.length R.c,.bool S.D.off,.int .i64 S.D.calls,.int .i64 S.D.after,.bool S.D.done,.int .i64 (S.r.ring:Nat),.int .i64 (S.nsize:Nat),.slice R.na S.nwords.length R.nc,.int .i64 (S.r.size:Nat),.slice R.ca S.r.words.length R.cc,.slice R.ba S.r.body.length R.bc,.int .i64 (S.r.gen:Nat),.int .i64 (S.r.slot:Nat),.bool S.bad,.bool true]:Array Value)[i]?)∧(convert 32 9 (.slice R.ba S.r.body.length R.bc)).run Tryz.prog w'=.ok (.string (strN S.r.body)) w'∧True∧True))
  have K:=qh (show Same w2 w2.drew from(Kept.refl _ w2).drew)
  go_wp2_with fail
  refine wp_region_T (S:=fun w'=>Same w2 w') 78 (by kernel_rfl) K.out (fun hHeld hDn=>?_)
  refine wpT_zw 0 35 hHeld hDn fun hDn=>?_
  refine wpT_zw 1 36 hHeld hDn fun hDn=>?_
  refine wpT_zw 2 37 hHeld hDn fun hDn=>?_
  refine wpT_z 3 38 QX hHeld hDn fun hDn=>?_
  refine wpT_zw 5 40 hHeld hDn fun hDn=>?_
  refine wpT_zw 6 41 hHeld hDn fun hDn=>?_
  refine wpT_zw 7 42 hHeld hDn fun hDn=>?_
  refine wpT_zw 8 43 hHeld hDn fun hDn=>?_
  refine wpT_z 9 44 QX hHeld hDn fun hDn=>?_
  refine wpT_one (i:=4) rfl (by kernel_rfl) hDn (fun K' hK=>?_)
  go_simp
  with_reducible refine(US.out _ K.out).mono ?_
  rintro e w5 ⟨g5,c5,rfl,ho,k5⟩
  obtain⟨_,_,_,ee,_,_,hat5,_⟩:=OwnN.rd ho
  cases ee
  have SM:=qh (rb_same (S.nsize:Nat) (S.nsize:Nat) (some ⟨g5,0,none⟩) R.na c5 R.nc S.nwords S.nwords w5 BND.out hat5.out (HR.out.st.ns.same (K.out.trans k5)))
  rw[show sameB (S.nsize:Nat) (S.nsize:Nat) S.nwords S.nwords=true from by unfold sameB;simp]at SM
  unfold mapV at SM ⊢
  clear ho hat5
  have K2:=qh (K.out.trans k5)
  clear K k5
  have K:=K2
  clear K2
  refine hK.out _ _ K.out (fun hHeld2 hDn2=>?_)
  clear hK K' hHeld hDn
  have hHeld:=hHeld2;have hDn:=hDn2
  clear hHeld2 hDn2
  as_aux_lemma=>
   refine wpT_one (i:=10) rfl (by kernel_rfl) hDn (fun K' hK=>?_)
   go_simp
   with_reducible refine SM.out.mono ?_
   rintro e w6 ⟨rfl,k6⟩
   clear SM
   have K2:=qh (K.out.trans k6)
   clear K k6
   have K:=K2
   clear K2
   refine hK.out _ _ K.out (fun hHeld2 hDn2=>?_)
   clear hK K' hHeld hDn
   have hHeld:=hHeld2;have hDn:=hDn2
   clear hHeld2 hDn2
   as_aux_lemma=>
    refine wpT_zw 11 46 hHeld hDn fun hDn=>?_
    refine wpT_zw 12 47 hHeld hDn fun hDn=>?_
    refine wpT_zw 13 48 hHeld hDn fun hDn=>?_
    refine wpT_zw 14 49 hHeld hDn fun hDn=>?_
    refine wpT_zw 15 50 hHeld hDn fun hDn=>?_
    refine wpT_z 16 51 QX hHeld hDn fun hDn=>?_
    refine wpT_zw 18 53 hHeld hDn fun hDn=>?_
    refine wpT_zw 19 54 hHeld hDn fun hDn=>?_
    refine wpT_zw 20 55 hHeld hDn fun hDn=>?_
    refine wpT_z 21 56 QX hHeld hDn fun hDn=>?_
    refine wpT_one (i:=17) rfl (by kernel_rfl) hDn (fun K' hK=>?_)
    go_simp
    with_reducible refine(RM.out _ K.out).mono ?_
    rintro e w7 ⟨rfl,k7⟩
    have K2:=qh (K.out.trans k7)
    clear K k7
    have K:=K2
    clear K2
    refine hK.out _ _ K.out (fun hHeld2 hDn2=>?_)
    clear hK K' hHeld hDn
    have hHeld:=hHeld2;have hDn:=hDn2
    clear hHeld2 hDn2
    as_aux_lemma=>
     refine wpT_one (i:=22) rfl (by kernel_rfl) hDn (fun K' hK=>?_)
     go_simp
     with_reducible refine(RR.out _ K.out).mono ?_
     rintro e w8 ⟨rfl,k8⟩
     have K2:=qh (K.out.trans k8)
     clear K k8
     have K:=K2
     clear K2
     refine hK.out _ _ K.out (fun hHeld2 hDn2=>?_)
     clear hK K' hHeld hDn
     have hHeld:=hHeld2;have hDn:=hDn2
     clear hHeld2 hDn2
     as_aux_lemma=>
      refine wpT_zw 23 58 hHeld hDn fun hDn=>?_
      refine wpT_zw 24 59 hHeld hDn fun hDn=>?_
      refine wpT_zw 25 60 hHeld hDn fun hDn=>?_
      refine wpT_zw 26 61 hHeld hDn fun hDn=>?_
      refine wpT_zw 27 62 hHeld hDn fun hDn=>?_
      refine wpT_zw 28 63 hHeld hDn fun hDn=>?_
      refine wpT_z 29 64 QX hHeld hDn fun hDn=>?_
      refine wpT_zw 31 66 hHeld hDn fun hDn=>?_
      refine wpT_zw 32 67 hHeld hDn fun hDn=>?_
      refine wpT_zw 33 68 hHeld hDn fun hDn=>?_
      refine wpT_zw 34 69 hHeld hDn fun hDn=>?_
      refine wpT_z 35 70 QX hHeld hDn fun hDn=>?_
      refine wpT_one (i:=30) rfl (by kernel_rfl) hDn (fun K' hK=>?_)
      go_simp
      with_reducible refine(GE.out _ K.out).mono ?_
      rintro e w9 ⟨rfl,rfl⟩
      refine hK.out _ _ K.out (fun hHeld2 hDn2=>?_)
      clear hK K' hHeld hDn
      have hHeld:=hHeld2;have hDn:=hDn2
      clear hHeld2 hDn2
      as_aux_lemma=>
       refine wpT_zw 36 71 hHeld hDn fun hDn=>?_
       refine wpT_zw 37 72 hHeld hDn fun hDn=>?_
       refine wpT_zw 38 73 hHeld hDn fun hDn=>?_
       refine wpT_zw 39 74 hHeld hDn fun hDn=>?_
       refine wpT_zw 40 75 hHeld hDn fun hDn=>?_
       refine wpT_zw 41 76 hHeld hDn fun hDn=>?_
       refine wpT_z 42 77 QX hHeld hDn fun hDn=>?_
       refine wpT_zw 45 80 hHeld hDn fun hDn=>?_
       refine wpT_zw 46 81 hHeld hDn fun hDn=>?_
       refine wpT_zw 47 82 hHeld hDn fun hDn=>?_
       refine wpT_zw 48 83 hHeld hDn fun hDn=>?_
       refine wpT_z 49 84 QX hHeld hDn fun hDn=>?_
       refine wpT_z 50 85 QX hHeld hDn fun hDn=>?_
       refine wpT_one (i:=43) rfl (by kernel_rfl) hDn (fun K' hK=>?_)
       go_simp
       with_reducible refine(BO.out _ K.out).mono ?_
       rintro e w10 ⟨⟨v,rfl,ho⟩,k10⟩
       obtain⟨a10,l10,c10,rfl,hl10,hn10,hat10,hc10⟩:=OwnN.rd ho
       have CV:=conv_str a10 l10 c10 S.r.body w10 hl10.out hat10.out
       clear ho hat10 hc10 hn10
       have K2:=qh (K.out.trans k10)
       clear K k10
       have K:=K2
       clear K2
       refine hK.out _ _ K.out (fun hHeld2 hDn2=>?_)
       clear hK K' hHeld hDn
       have hHeld:=hHeld2;have hDn:=hDn2
       clear hHeld2 hDn2
       as_aux_lemma=>
        refine wpT_one (i:=44) rfl (by kernel_rfl) hDn (fun K' hK=>?_)
        go_simp
        refine hK.out _ _ K.out (fun hHeld2 hDn2=>?_)
        clear hK K' hHeld hDn
        have hHeld:=hHeld2;have hDn:=hDn2
        clear hHeld2 hDn2
        as_aux_lemma=>
         clear CV
         refine wpT_zw 51 86 hHeld hDn fun hDn=>?_
         refine wpT_zw 52 87 hHeld hDn fun hDn=>?_
         refine wpT_zw 53 88 hHeld hDn fun hDn=>?_
         refine wpT_zw 54 89 hHeld hDn fun hDn=>?_
         refine wpT_zw 55 90 hHeld hDn fun hDn=>?_
         refine wpT_zw 56 91 hHeld hDn fun hDn=>?_
         refine wpT_z 57 92 QX hHeld hDn fun hDn=>?_
         refine wpT_zw 59 94 hHeld hDn fun hDn=>?_
         refine wpT_zw 60 95 hHeld hDn fun hDn=>?_
         refine wpT_zw 61 96 hHeld hDn fun hDn=>?_
         refine wpT_zw 62 97 hHeld hDn fun hDn=>?_
         refine wpT_z 63 98 QX hHeld hDn fun hDn=>?_
         refine wpT_one (i:=58) rfl (by kernel_rfl) hDn (fun K' hK=>?_)
         go_simp
         with_reducible refine(BA.out _ K.out).mono ?_
         rintro e w11 ⟨rfl,rfl⟩
         refine hK.out _ _ K.out (fun hHeld2 hDn2=>?_)
         clear hK K' hHeld hDn
         have hHeld:=hHeld2;have hDn:=hDn2
         clear hHeld2 hDn2
         as_aux_lemma=>
          refine wpT_zw 64 99 hHeld hDn fun hDn=>?_
          refine wpT_zw 65 100 hHeld hDn fun hDn=>?_
          refine wpT_zw 66 101 hHeld hDn fun hDn=>?_
          refine wpT_zw 67 102 hHeld hDn fun hDn=>?_
          refine wpT_zw 68 103 hHeld hDn fun hDn=>?_
          refine wpT_zw 69 104 hHeld hDn fun hDn=>?_
          refine wpT_zw 70 105 hHeld hDn fun hDn=>?_
          refine wpT_zw 71 106 hHeld hDn fun hDn=>?_
          refine wpT_zw 72 107 hHeld hDn fun hDn=>?_
          refine wpT_zw 73 108 hHeld hDn fun hDn=>?_
          refine wpT_zw 74 109 hHeld hDn fun hDn=>?_
          refine wpT_zw 75 110 hHeld hDn fun hDn=>?_
          refine wpT_z 76 111 QX hHeld hDn fun hDn=>?_
          refine wpT_zw 77 112 hHeld hDn fun hDn=>?_
          refine wpT_last rfl (by kernel_rfl) hDn (fun K hK=>?_)
          go_simp
          refine hK.out _ _ (fun hDn'=>?_)
          clear hK K hDn hHeld;have hDn:=hDn';clear hDn'
          refine wpT_done (by kernel_rfl) ?_ _
          have HST0:=qh (HST.out.same K.out)
          have HR0:=qh (HR.out.same K.out)
          have BX0:=qh (BX.out.kept K.out (fun q=>q))
          have K0:=qh (K2b.out.trans K.out)
          have PX:=qh (show p≠x∧nb≤p from⟨hpx,hp⟩)
          have XF:=qh (show¬FS p d bs m x from fun q=>by rcases q with q|q;exact PX.out.1 q.symm;exact H.out.xd q)
          have NBF:=qh (show∀j,FS p d bs m j→nb≤j from fun j q=>by have h1:=H.out.lo;have h2:=PX.out.2;rcases q with q|q|q|q<;>omega)
          have OKD:=qh (show S.D.OK from by obtain⟨_,hd⟩:=HST0.out.disk;exact hd.ok)
          have RDL:=qh (show S.D.off=false→∀n,(S.rd n).1=S from fun ho n=>by
           unfold Sto.rd
           split
           ·rfl
           ·have h8:(S.rq n).2≠8:=readB_on ho _ _ _
            rw[decide_eq_false h8,Bool.or_false])
          have FINL:=qh (fun wr (hs:StoIn wr p d bs m S) (kk:Kept (FS p d bs m) w11 wr)=>show W7 nb wr x d bs m N S.D (some ⟨p,0,none⟩) R.a R.c (rzOf S R) true∧Kept (fun j=>nb≤j) w wr from⟨⟨H.out.lo,BX0.out.kept kk XF.out,hs.disk,H.out.len,HR0.out.st.ds.kept kk (.inr (fun y hy q=>HR0.out.pa y hy (.inr q))),H.out.da,H.out.dx,H.out.xd,fun _=>⟨S,p,R,rfl,rfl,PX.out.2,PX.out.1,hs,HR0.out.kept kk (fun j q=>.inr q),rfl,rfl,rfl,HOK.out⟩⟩,(K0.out.mono (fun _ _ q=>q.elim)).trans (kk.mono (fun j _ q=>NBF.out j q))⟩)
          clear hDn QX hp hpx US RM RR GE BO BA HST HR BX K K2b K1 H1
          have p0:=cell_blk BX0.out
          go_wp2_with fail
          go_loopw [5] (fun t wr=>∃i:Nat,t=.int .i64 ((i:Int) - 1)∧i≤S.nsize+2∧StoIn wr p d bs m S∧Kept (FS p d bs m) w11 wr) (fun t _=>S.nsize+3 - (intOf t+1).toNat)
          case atStart=>exact⟨0,by go_num,by omega,HST0.out,Kept.refl _ _⟩
          case round=>
           obtain⟨i,rfl,hi,hs,hkk⟩:=hrel
           have HI:=qh hi
           have HS:=qh hs
           have KK:=qh hkk
           have BXr:=qh (BX0.out.kept hkk XF.out)
           have HRr:=qh (HR0.out.kept hkk (fun j q=>.inr q))
           obtain⟨cap2,hdr⟩:=hs.disk
           have OF:=qh (sd_off hdr)
           obtain⟨off,hoff⟩:∃off,S.D.off=off:=⟨_,rfl⟩
           have HO:=qh hoff
           rw[hoff]at OF
           clear hi hs hkk hdr hoff p0
           have p0:=cell_blk BXr.out
           by_cases hgo:i≤S.nsize+1
           ·have g1:(i:Int) - 1≤(S.nsize:Int):=by omega
            have HGO:=qh hgo
            have B2:=BND2.out
            have gw:IntKind.i64.wrap ((i:Int) - 1+1)=((i+1:Nat):Int) - 1:=by rw[IntKind.wrap_i64];omega
            have gw1:IntKind.i64.wrap (i:Int)=(i:Int):=by rw[IntKind.wrap_i64];omega
            clear B2 hgo
            go_wp2_with fail
            with_reducible refine OF.out.mono ?_
            rintro e w3 ⟨rfl,rfl⟩
            cases off
            ·have RD1:=RDL.out HO.out ((i:Int) - 1)
             have PR:=qh (st_Read HS.out ((i:Int) - 1))
             have DR:=qh (fun w' hr=>rt_read S R (fun j=>j=x∨FS p d bs m j) ((i:Int) - 1) OKD.out HOK.out.fit.nw (by have:=HOK.out.ring;omega) w' hr)
             obtain⟨q,hq⟩:∃q,S.rd ((i:Int) - 1)=q:=⟨_,rfl⟩
             rw[hq]at PR DR RD1
             obtain⟨S3,b,er⟩:=q
             dsimp only at PR DR RD1
             subst RD1
             unfold RdPost at PR
             unfold RtQ rsV rsC at DR
             clear hq OF
             go_wp2_with fail
             with_reducible refine PR.out.mono ?_
             rintro e w4 ⟨a4,c4,rfl,hn4, -,hs4,k4⟩
             have HN4:=qh hn4
             have HS4:=qh hs4
             have KK4:=qh (KK.out.trans (k4.mono (fun j _ q=>.inl q)))
             have BX4:=qh (BXr.out.kept k4 (fun q=>PX.out.1 q.symm))
             have DR4:=qh (DR.out w4 (HRr.out.kept k4 (fun j q=>.inr (.inl q))))
             clear hn4 hs4 k4 p0 PR DR BXr HRr KK HS
             have p0:=cell_blk BX4.out
             go_wp2_with fail
             with_reducible refine DR4.out.mono ?_
             rintro e w5 ⟨R5,a5,c5,rfl, -,hn5,k5⟩
             have HN5:=qh hn5
             have K5:=qh k5
             clear hn5 k5 p0 DR4
             go_upto_region 13 with fail
             refine cutWl (fun wn=>Same w5 wn) ((Kept.refl _ _).alloc _) ?_
             rintro w6 k6
             have cv1:=conv_str a4 b.length c4 b w6 rfl (HN4.out.same (K5.out.trans k6))
             have cv2:=conv_str a5 b.length c5 b w6 rfl (HN5.out.same k6)
             have KF:=qh (KK4.out.trans ((K5.out.trans k6).mono (fun _ _ q=>q.elim)))
             have SF:=qh (HS4.out.same (K5.out.trans k6))
             clear k6
             go_wp2_with fail
             exact⟨⟨i+1,by go_num,by have:=HGO.out;omega,SF.out,KF.out⟩,by have:=HGO.out;simp[intOf];omega⟩
            ·have FE:=FINL.out _ HS.out KK.out
             have FE:=qh FE
             go_wp2_with fail
             go_ret
             exact⟨rfl,FE.out⟩
           ·have g1:¬(i:Int) - 1≤(S.nsize:Int):=by omega
            have FE:=qh (FINL.out _ HS.out KK.out)
            go_wp2_with fail
            go_ret
            exact⟨rfl,FE.out⟩
end
end
section
open Go.RowKit Go.Sort Go.Shelf
theorem w7_do{nb:Nat}{w:World}{x d bs m N:Nat}{D:Dsk}{sp a:Option Addr}{c:Nat}{z:RZ}{K:Bool}(h:W7 nb w x d bs m N D sp a c z K)(hnb:nb≤w.heap.size)(hT:TabOK w)(A:A7)(ha:A.ok w nb):
 Calls Tryz.prog 28 #[.pointer (some ⟨x,0,none⟩),A.v] w (W7P nb w x d bs m N):=by
 by_cases h9:A.k % 10=9
 ·exact w7_power h.b hnb A ha h9
 by_cases h8:A.k % 10=8
 ·exact w7_disk h A ha h8
 cases K
 ·exact w7_none h A (by omega)
 ·by_cases h3:A.k % 10<3
  ·exact w7_alloc h A ha hT h3
  by_cases q3:A.k % 10=3
  ·exact w7_write3 h A ha q3
  by_cases q4:A.k % 10=4
  ·exact w7_write4 h A ha q4
  by_cases q5:A.k % 10=5
  ·exact w7_free h A ha q5
  by_cases q6:A.k % 10=6
  ·exact w7_commit h A ha q6
  ·exact w7_forget h A ha (by omega)
def Acts7N(W:World)(b o len:Nat):Prop:=∀i,i<len→∃k n ba bl bc bs,Act7 W b (o+i*9) k n ba bl bc bs∧(ba=none→bc=0)
theorem Acts7N.plain{W:World}{b o len:Nat}(h:Acts7N W b o len):Acts7 W b o len:=fun i hi=>by
 obtain⟨k,n,ba,bl,bc,bs,h1, -⟩:=h i hi
 exact⟨k,n,ba,bl,bc,bs,h1⟩
theorem play7_any(W:World)(hT:TabOK W)(n0:Nat)(_hn:n0<256)(log:Int)(a:Option Addr)(len cap0:Nat)(hacts:len=0∨∃b off,a=some ⟨b,off,none⟩∧b<W.heap.size∧Acts7N W b off len):
 Calls Tryz.prog 5 #[.int .u8 (n0:Nat),.int .i64 log,.slice a len cap0] W fun e w'=>e=.returned (.bool true)∧Same W w':=by
 obtain⟨r,hfew,hr30⟩:=few7 W a len cap0 30 (by decide) (hacts.imp_right (fun⟨b,off,h1,h2,h3⟩=>⟨b,off,h1,h2,h3.plain⟩))
 have FEW:=qh (hfew W (Kept.refl _ _))
 have TB:=qh hT
 have HA:=qh hacts
 have e81:IntKind.i64.wrap ((n0:Int) % 81)=(n0:Int) % 81:=by rw[IntKind.wrap_i64];omega
 cases r
 ·clear hfew hr30 hT hacts
  go_enter Tryz.func5,Tryz.ntmps5
  go_wp2_with fail
  with_reducible refine FEW.out.mono ?_
  rintro e w0 ⟨rfl,rfl⟩
  go_wp2_with fail
  with_reducible refine(aw07 _ TB.out).mono ?_
  rintro e w6 ⟨rfl,k6⟩
  go_wp2_with fail
  go_ret
  exact⟨rfl,k6⟩
 ·have hl30:=hr30 rfl
  clear hfew hr30 hT hacts
  have BG:=qh (fun w'=>w7_begun ((n0:Int) % 81) log w')
  go_enter Tryz.func5,Tryz.ntmps5
  go_wp2_with fail
  with_reducible refine FEW.out.mono ?_
  rintro e w0 ⟨rfl,rfl⟩
  go_wp2_with fail
  with_reducible refine(BG.out _).mono ?_
  rintro e w1 ⟨⟨x,d,bs,m,D0,sp0,a0,c0,z0,K0,rfl,hw⟩,k1⟩
  obtain⟨N,hN⟩:∃N,(newD ((n0:Int) % 81)).s.length=N:=⟨_,rfl⟩
  rw[hN]at hw
  have HW:=qh hw
  have K1:=qh k1
  clear hw k1 BG FEW hN
  go_wp2_with fail
  with_reducible refine(w7_same HW.out).mono ?_
  rintro e w2 ⟨rfl,hw2,k2⟩
  have HW2:=qh hw2
  have K2:=qh (K1.out.step k2 (fun j hj q=>by omega))
  clear hw2 k2 HW K1
  go_wp2_with fail
  go_loopw [9] (fun t wr=>∃(i:Nat) (D:Dsk) (sp a1:Option Addr) (c1:Nat) (z:RZ) (K:Bool),t=.int .i64 i∧i≤len∧W7 w0.heap.size wr x d bs m N D sp a1 c1 z K∧Same w0 wr) (fun t _=>len - (intOf t).toNat)
  case atStart=>exact⟨0,D0,sp0,a0,c0,z0,K0,rfl,Nat.zero_le _,HW2.out,K2.out⟩
  case round=>
   clear HW2 K2
   obtain⟨i,D,sp,a1,c1,z,K,rfl,hi,hw,hk⟩:=hrel
   have HW:=qh hw
   have KK:=qh hk
   clear hw hk
   by_cases hgo:i<len
   ·obtain⟨b,off,rfl,hb,hall⟩:=HA.out.resolve_left (by omega)
    obtain⟨k,n,ba,bl,bc,bbs,hA,hbn⟩:=hall i hgo
    have hA2:=hA.same KK.out hb
    obtain⟨q2,n2,c2,u,dn,fa,fl,fc,fs,hD⟩:=hA.d
    have hD2:=hD.same KK.out hb
    have lo:∀{v:Option Addr} {l:List Nat},NatsAt w0 .u8 v l→l=[]∨∀y,v=some y→y.block<w0.heap.size:=fun h=>by
     rcases h with h|⟨b',o',rfl,hb',_⟩
     ·exact .inl h
     ·exact .inr (fun y hy=>by cases hy;exact hb')
    have DA:=qh (w7_do HW.out KK.out.size (TB.out.kept KK.out (fun h=>h)) ⟨k,n,ba,bl,bc,bbs,q2,n2,c2,u,dn,fa,fl,fc,fs⟩ ⟨hA2.kb,hA2.nb,hA2.bl_,hA2.bc_,hA2.bb,hA2.at_,hbn,lo hA.at_,hD2.kb,hD2.nb,hD2.cb,hD2.ub,hD2.fl_,hD2.fc_,hD2.fb,hD2.at_,lo hD.at_⟩)
    unfold A7.v at DA
    dsimp only at DA
    have v0:=hA2.c0;have v1:=hA2.c1;have v2:=hA2.c2
    have v3:=hD2.c0;have v4:=hD2.c1;have v5:=hD2.c2;have v6:=hD2.c3;have v7:=hD2.c4;have v8:=hD2.c5
    have g1:(i:Int)<(len:Int):=by omega
    have gz:(0:Int)≤(i:Int):=by omega
    have HGO:=qh hgo
    clear hall hA hA2 hD hD2 lo hbn hgo
    go_wp2_with fail
    with_reducible refine DA.out.mono ?_
    rintro e w5 ⟨rfl,⟨D5,sp5,a5,c5,z5,K5,hw5⟩,k5⟩
    have HW5:=qh hw5
    have KK5:=qh (show Same w0 w5 from KK.out.step k5 (fun j hj q=>by omega))
    clear hw5 k5 DA HW KK v0 v1 v2 v3 v4 v5 v6 v7 v8
    go_wp2_with fail
    with_reducible refine(w7_same HW5.out).mono ?_
    rintro e w6 ⟨rfl,hw6,k6⟩
    have HW6:=qh hw6
    have KK6:=qh (show Same w0 w6 from KK5.out.step k6 (fun j hj q=>by omega))
    clear hw6 k6 HW5 KK5
    go_wp2_with fail
    go_roundw
    case rel=>exact⟨i+1,D5,sp5,a5,c5,z5,K5,by go_num,by have:=HGO.out;omega,HW6.out,KK6.out⟩
    case measure=>have:=HGO.out;simp[intOf];omega
   ·have g1:¬(i:Int)<(len:Int):=by omega
    have TB2:=qh (TB.out.kept KK.out (fun h=>h))
    go_wp2_with fail
    with_reducible refine(aw07 _ TB2.out).mono ?_
    rintro e w6 ⟨rfl,k6⟩
    go_wp2_with fail
    go_ret
    exact⟨rfl,KK.out.trans k6⟩
end
section
open Go.ChangeShapes Go.WideShapes Go.ChangeAt Go.RowKit
section
variable{H:Type}{enc:TypeId×Value→H}{W:World}{base:Nat}{v:Value}{d:DataW H}{p:List MemPlace}
theorem act7n_rd{base:Nat}{spare:Nat→Bool}{held:Bool}{n:Nat}{cs:List Value}{x:DataW H×List MemPlace}
 (h:DataW.trod enc Tryz.prog W base spare held n 36 cs=some x):
 ∃(k:Nat) (y:Int) (fa:Option Addr) (fl fc:Nat) (fs:List Nat) (cs2:List Value) (n2:Nat) (x2:DataW H×List MemPlace),cs=.int .u8 (k:Nat):: .int .i64 y:: .slice fa fl fc::cs2∧k<256∧(-9223372036854775808≤y∧y≤9223372036854775807)∧fl=fs.length∧fl≤fc∧Bts fs∧NatsAt W .u8 fa fs∧(fa=none→fc=0)∧
  DataW.trod enc Tryz.prog W base spare held n2 34 cs2=some x2:=by
 obtain⟨xs,m,rfl,rfl,hlen,hxs,hf⟩:=DataW.trod_struct Tryz.underlying36 h
 rw[show Tryz.prog.cellsOf 36=9 by kernel_rfl]at hlen
 match cs,hlen with
 |[c0,c1,c2,c3,c4,c5,c6,c7,c8],_=>
  have h0:=hf 0 _ rfl
  have h1:=hf 1 _ rfl
  have h2:=hf 2 _ rfl
  have h3:=hf 3 _ rfl
  match xs,hxs with
  |[x0,x1,x2,x3],_=>
   obtain⟨k,e0,_,wf0⟩:=DataW.trod_int (cs:=[c0]) Tryz.underlying5 h0
   obtain⟨y,e1,_,wf1⟩:=DataW.trod_int (cs:=[c1]) Tryz.underlying3 h1
   obtain⟨fa,fc,fs,e2,hat,hB,hl,hm,hnn⟩:=nats_read 255 Tryz.underlying32 Tryz.underlying5 (by kernel_rfl) (fun n h=>bounds_u8 h) (v:=c2) h2
   simp at e0 e1
   subst e0 e1 e2
   have b0:=bounds_u8 wf0
   have b1:=bounds_i64 wf1
   refine⟨k.toNat,y,fa,_,fc,fs,[c3,c4,c5,c6,c7,c8],m,x3,?_,by omega,b1,rfl,hl,fun z hz=>by have:=hB z hz;omega,hat,fun q=>(hnn q).2,h3⟩
   rw[show((k.toNat:Nat):Int)=k from by omega]
theorem acts7n_rd(h:DataW.Trod enc Tryz.prog W 0 (fun _=>true) true 22 v d p)(hv:Value.okWide Tryz.prog W .any base 22 v):
 ∃a len cap,v=.slice a len cap∧(len=0∨∃b off,a=some ⟨b,off,none⟩∧b<W.heap.size∧Acts7N W b off len):=by
 obtain⟨a,len,cap,rfl⟩:=okWide_slice Tryz.underlying22 hv
 refine⟨a,len,cap,rfl,?_⟩
 obtain⟨fuel,hf⟩:=h
 obtain⟨_,_,_,h|⟨b,off,rfl,hb,each⟩⟩:=slice_read Tryz.underlying22 (C:=9) (by kernel_rfl) (by decide) hf
 ·exact .inl h
 ·refine .inr ⟨b,off,rfl,hb,fun i hlt=>?_⟩
  obtain⟨n,cs,y,_,hat,ht⟩:=each i hlt
  obtain⟨k,y,fa,fl,fc,fs,cs2,n2,x2,rfl,b0,b1,e1,e2,e3,e4,e5,ht2⟩:=act7n_rd ht
  obtain⟨k',y',c,u,dn,ga,gl,gc,gs,rfl,c0,c1,c2,c3,q1,q2,q3,q4⟩:=act_rd ht2
  exact⟨k,y,fa,fl,fc,fs,⟨hat 0 (by decide),hat 1 (by decide),hat 2 (by decide),b0,b1,e1,e2,e3,e4,k',y',c,u,dn,ga,gl,gc,gs,
   ⟨hat 3 (by decide),hat 4 (by decide),hat 5 (by decide),hat 6 (by decide),hat 7 (by decide),hat 8 (by decide),c0,c1,c2,c3,q1,q2,q3,q4⟩⟩,e5⟩
end
theorem plays7_read{H:Type}{enc:TypeId×Value→H}(W:World)(hT:TabOK W){base:Nat}{v0 v1 v2:Value}{d0 d1 d2:DataW H}{p0 p1 p2:List MemPlace}
 (h0:DataW.Trod enc Tryz.prog W 0 (fun _=>true) true 5 v0 d0 p0) (k0:Value.okWide Tryz.prog W .any base 5 v0)
 (h1:DataW.Trod enc Tryz.prog W 0 (fun _=>true) true 3 v1 d1 p1) (k1:Value.okWide Tryz.prog W .any base 3 v1)
 (h2:DataW.Trod enc Tryz.prog W 0 (fun _=>true) true 22 v2 d2 p2) (k2:Value.okWide Tryz.prog W .any base 22 v2):
 Calls Tryz.prog 5 #[v0,v1,v2] W fun e W'=>e=.returned (.bool true)∧Same W W':=by
 obtain⟨n,rfl,hn⟩:=u8_read h0 k0
 obtain⟨l,rfl, -, -⟩:=int_read h1 k1
 obtain⟨a,len,cap,rfl,hacts⟩:=acts7n_rd h2 k2
 exact play7_any W hT n (by omega) l a len cap hacts
end
end Go.Proofs.YtmiglhlbhbfodaaGreatDoor
