/- GWgB: Wg5, Wg6. -/
import Derived.Test.YtmiglhlbhbfodaaGreatDoorGWgA
set_option maxHeartbeats 4000000
set_option maxRecDepth 100000
namespace Go.Proofs.YtmiglhlbhbfodaaGreatDoor
section
open Go.RowKit Go.Sort Go.Shelf
theorem StoIn.setD2{w w':World}{p d bs m cap':Nat}{S:Sto}{D:Dsk}(h:StoIn w p d bs m S)(k:Kept (dod d bs m) w w')(hd:DiskIn w' d bs cap' m D):StoIn w' p d bs m {S with D:=D}:=by
 obtain⟨cap,wa,wc,ba,bc,na,nc,h1,h2,h3,h4,h5,h6,h7,h8,h9,h10,h11,h12⟩:=h
 have kk:Kept (FS p d bs m) w w':=k.mono (fun g _ q=>.inr q)
 exact⟨cap',wa,wc,ba,bc,na,nc,h1.kept k h12,hd,h3.kept kk h9 h10,h4.kept kk h11,h5,h6,h7,h8,h9,h10,h11,h12⟩
theorem w7_disk{nb:Nat}{w:World}{x d bs m N:Nat}{D:Dsk}{sp a:Option Addr}{c:Nat}{z:RZ}{K:Bool}(h:W7 nb w x d bs m N D sp a c z K)(A:A7)(ha:A.ok w nb)(h8:A.k % 10=8):
 Calls Tryz.prog 28 #[.pointer (some ⟨x,0,none⟩),A.v] w (W7P nb w x d bs m N):=by
 obtain⟨cap,hd⟩:=h.disk
 have H:=qh h
 have LO:=qh (show∀j,dod d bs m j→j<w.heap.size∧nb≤j from fun j q=>by have h1:=hd.box.lt;have h1b:=hd.safe.lt;have h1c:=hd.map.lt;have h2:=h.lo;rcases q with q|q|q<;>omega)
 have DO:=qh (fun w' (k:Same w w')=>do_any (hd.same k) a c (h.ds.same k) h.da A.k2 A.n2 A.c A.u A.dn A.fa A.fl A.fc A.fs ha.k2b ha.n2b ha.cb ha.ub ha.fl_ ha.fc_ ha.fb (ha.fat.same k) (ha.flo.imp_right (fun q y hy z=>by have h1:=q y hy;have h2:=LO.out _ z;omega)))
 have LT:=qh (show x<w.heap.size from h.box.lt)
 have LN:=qh (doD_len D A.k2 A.n2 A.c A.u A.dn A.fs)
 obtain⟨D2,hD2⟩:∃D2,(doD D A.k2 A.n2 A.c A.u A.dn A.fs).1=D2:=⟨_,rfl⟩
 rw[hD2]at DO LN
 have BX:=qh (show Blk w x #[.pointer (some ⟨d,0,none⟩),.pointer sp,.slice a D.s.length c,.bool D.off,.int .i64 D.calls,.int .i64 D.after,.bool D.done,.int .i64 z.ring,.int .i64 z.ns,.slice z.na z.nl z.nc,.int .i64 z.rs,.slice z.ca z.cl z.cc,.slice z.ba z.bl z.bc,.int .i64 z.gen,.int .i64 z.slot,.bool z.bad,.bool K] 112 from h.box)
 have e10:(A.k:Int) % 10=8:=by omega
 obtain⟨k8,hk8⟩:∃k8,A.k2 % 8=k8:=⟨_,rfl⟩
 have e8:(A.k2:Int) % 8=(k8:Int):=by omega
 have W0:=qh (show W7P nb w x d bs m N (.returned (.bool true)) w from⟨rfl,⟨D,sp,a,c,z,K,h⟩,Kept.refl _ _⟩)
 unfold DoPost at DO
 unfold refV at DO
 clear h ha hd hD2 h8 hk8
 unfold A7.v
 obtain⟨k,n,ba,bl,bc,bbs,k2,n2,c2,u,dn,fa,fl,fc,fs⟩:=A
 dsimp only at DO e10 e8 LN ⊢
 go_enter Tryz.func28,Tryz.ntmps28
 go_upto_region 1 with fail
 obtain⟨y,hy⟩:∃y,w.heap.size=y:=⟨_,rfl⟩
 rw[hy]
 refine cutWl (fun wn=>Fr wn [(y,#[.int .u8 (k:Nat),.int .i64 n,.slice ba bl bc,.int .u8 (k2:Nat),.int .i64 n2,.int .u8 (c2:Nat),.int .u8 (u:Nat),.bool dn,.slice fa fl fc],36),(x,#[.pointer (some ⟨d,0,none⟩),.pointer sp,.slice a D.s.length c,.bool D.off,.int .i64 D.calls,.int .i64 D.after,.bool D.done,.int .i64 z.ring,.int .i64 z.ns,.slice z.na z.nl z.nc,.int .i64 z.rs,.slice z.ca z.cl z.cc,.slice z.ba z.bl z.bc,.int .i64 z.gen,.int .i64 z.slot,.bool z.bad,.bool K],112)]∧Same w wn) ⟨⟨Blk.new' _ _ _ hy.symm,BX.out.alloc _,trivial⟩,(Kept.refl _ _).alloc _⟩ ?_
 rintro w1 ⟨hf1,k1⟩
 have F1:=qh hf1
 have K1:=qh k1
 have HY:=qh hy
 clear hf1 k1 hy BX
 obtain⟨p0,f0,p1,f1, -⟩:=F1.out.rules
 by_cases h5:k8<5
 ·have g5:(k8:Int)<5:=by omega
  go_wp2_with fail
  go_ret
  exact⟨rfl,⟨D,sp,a,c,z,K,H.out.same K1.out⟩,K1.out.mono (fun _ _ q=>q.elim)⟩
 ·have g5:¬(k8:Int)<5:=by omega
  have YD:=qh (show¬dod d bs m y from fun q=>by have h1:=LO.out _ q;have h2:=HY.out;omega)
  have QX:=qh (fun w' (k':Kept (dod d bs m) w1 w')=>(⟨cell_blk (F1.out.1.kept k' YD.out),cell_blk (F1.out.2.1.kept k' H.out.xd),trivial,trivial⟩:(∀i,w'.cell? ⟨y,i,none⟩=(#[.int .u8 (k:Nat),.int .i64 n,.slice ba bl bc,.int .u8 (k2:Nat),.int .i64 n2,.int .u8 (c2:Nat),.int .u8 (u:Nat),.bool dn,.slice fa fl fc]:Array Value)[i]?)∧(∀i,w'.cell? ⟨x,i,none⟩=(#[.pointer (some ⟨d,0,none⟩),.pointer sp,.slice a D.s.length c,.bool D.off,.int .i64 D.calls,.int .i64 D.after,.bool D.done,.int .i64 z.ring,.int .i64 z.ns,.slice z.na z.nl z.nc,.int .i64 z.rs,.slice z.ca z.cl z.cc,.slice z.ba z.bl z.bc,.int .i64 z.gen,.int .i64 z.slot,.bool z.bad,.bool K]:Array Value)[i]?)∧True∧True))
  go_upto_region 8 with fail
  go_cut [5,6]from 11 (fun s5 s6 W=>∃(g:Nat) (a4:Option Addr) (c4:Nat),s5=.pointer (some ⟨g,0,none⟩)∧s6=.int .i64 0∧Blk W x #[.pointer (some ⟨d,0,none⟩),.pointer sp,.slice a D.s.length c,.bool D.off,.int .i64 D.calls,.int .i64 D.after,.bool D.done,.int .i64 z.ring,.int .i64 z.ns,.slice z.na z.nl z.nc,.int .i64 z.rs,.slice z.ca z.cl z.cc,.slice z.ba z.bl z.bc,.int .i64 z.gen,.int .i64 z.slot,.bool z.bad,.bool K] 112∧Blk W g #[.slice a4 D2.s.length c4,.bool D2.off,.int .i64 D2.calls,.int .i64 D2.after,.bool D2.done] 104∧DiskIn W d bs cap m D2∧SecsAt W a4 D2.s∧(a4=a∨∀y,a4=some y→w1.heap.size≤y.block)∧Kept (dod d bs m) w1 W)
  case first=>
   refine wp_region_T (S:=fun w'=>Kept (dod d bs m) w1 w') 16 (by kernel_rfl) (Kept.refl _ _).drew (fun hHeld hDn=>?_)
   refine wpT_z 0 48 QX hHeld hDn fun hDn=>?_
   refine wpT_z 1 49 QX hHeld hDn fun hDn=>?_
   refine wpT_z 2 50 QX hHeld hDn fun hDn=>?_
   refine wpT_z 3 51 QX hHeld hDn fun hDn=>?_
   refine wpT_z 4 52 QX hHeld hDn fun hDn=>?_
   refine wpT_z 5 53 QX hHeld hDn fun hDn=>?_
   refine wpT_z 6 54 QX hHeld hDn fun hDn=>?_
   refine wpT_z 7 55 QX hHeld hDn fun hDn=>?_
   refine wpT_z 8 56 QX hHeld hDn fun hDn=>?_
   refine wpT_z 9 57 QX hHeld hDn fun hDn=>?_
   refine wpT_z 10 58 QX hHeld hDn fun hDn=>?_
   refine wpT_two (i:=11) (j:=15) rfl rfl (by kernel_rfl) hDn (fun K' hK=>?_) (fun K' hK=>?_)
   ·go_simp
    refine(DO.out _ (K1.out.trans (Kept.refl _ _).drew)).mono ?_
    rintro e w3 ⟨a4,c4,rfl,⟨hs4,hf4⟩,hd4,k4⟩
    have HS4:=qh hs4
    have HF4:=qh hf4
    have HD4:=qh hd4
    have K34:=qh k4
    have K13:=qh (show Kept (dod d bs m) w1 w3 from((Kept.refl _ _).drew).trans k4)
    refine hK.out _ _ K13.out (fun hHeld2 hDn2=>?_)
    clear hK K' hHeld hDn
    have hHeld:=hHeld2;have hDn:=hDn2
    clear hHeld2 hDn2
    refine wpT_zw 12 47 hHeld hDn fun hDn=>?_
    refine wpT_zw 13 60 hHeld hDn fun hDn=>?_
    refine wpT_zw 14 61 hHeld hDn fun hDn=>?_
    refine wpT_one (i:=15) rfl (by kernel_rfl) hDn (fun K' hK=>?_)
    go_simp
    refine hK.out _ _ (K13.out.alloc _) (fun hHeld2 hDn2=>?_)
    clear hK K' hHeld hDn
    have hHeld:=hHeld2;have hDn:=hDn2
    clear hHeld2 hDn2
    refine cutT (fun wb=>Blk wb w3.heap.size #[.slice none 0 0,.bool false,.int .i64 0,.int .i64 0,.bool false] 104∧Same w3 wb) ⟨Blk.new _ _ _,(Kept.refl _ _).alloc _⟩ ?_
    rintro wb ⟨xb,kb⟩
    clear hHeld
    have BG:=qh xb
    have BXX:=qh ((F1.out.2.1.kept K13.out H.out.xd).kept kb (fun q=>q))
    have HD5:=qh (HD4.out.same kb)
    have HS5:=qh (HS4.out.same kb)
    have KK:=qh (K13.out.trans (kb.mono (fun _ _ q=>q.elim)))
    have GN:=qh (show w1.heap.size≤w3.heap.size from K13.out.size)
    have GX:=qh (show¬x=w3.heap.size from fun q=>by have h1:=LT.out;have h2:=K1.out.size;have h3:=K13.out.size;omega)
    have GD:=qh (show¬d=w3.heap.size∧¬bs=w3.heap.size∧¬m=w3.heap.size from by have h1:=LO.out d (.inl rfl);have h2:=LO.out bs (.inr (.inl rfl));have h3:=LO.out m (.inr (.inr rfl));have h4:=K1.out.size;have h5:=K13.out.size;omega)
    have HG4:=qh (show D2.s=[]∨∀y,a4=some y→¬y.block=w3.heap.size from(secsAt_lt HS4.out).imp_right (fun h y hy q=>by have:=h y hy;omega))
    have HA4:=qh (show a4=a∨∀y,a4=some y→w1.heap.size≤y.block from HF4.out)
    have hHeld:=KK.out
    clear xb kb k4 hs4 hf4 hd4
    obtain⟨pg,fg, -⟩:=(show Fr _ [(w3.heap.size,#[.slice none 0 0,.bool false,.int .i64 0,.int .i64 0,.bool false],104)]from⟨BG.out,trivial⟩).rules
    have zg:=BG.out.lt
    refine wpT_last rfl (by kernel_rfl) hDn (fun K hK=>?_)
    go_simp
    refine hK.out _ _ (fun hDn'=>?_)
    clear hK K hDn hHeld;have hDn:=hDn';clear hDn'
    refine wpT_ze 17 6 hDn fun hDn=>?_
    refine wpT_done (by kernel_rfl) ?_ _
    clear hDn QX p0 f0 p1 f1 pg fg zg
    go_wp2_with fail
    go_meet
    case rel=>
     refine⟨w3.heap.size,a4,c4,rfl,rfl,?_,?_,?_,?_,HA4.out,?_⟩
     ·refine BXX.out.kept (fp:=fun j=>j=w3.heap.size) ?_ GX.out
      (repeat(with_reducible first|exact Kept.refl _ _|refine Kept.drew ?_ |refine Kept.setG ?_ _ _))
     ·with_reducible exact Blk.set5 BG.out
     ·refine HD5.out.kept (fp:=fun j=>j=w3.heap.size) ?_ GD.out.1 GD.out.2.1 GD.out.2.2
      (repeat(with_reducible first|exact Kept.refl _ _|refine Kept.drew ?_ |refine Kept.setG ?_ _ _))
     ·refine HS5.out.kept (fp:=fun j=>j=w3.heap.size) ?_ HG4.out
      (repeat(with_reducible first|exact Kept.refl _ _|refine Kept.drew ?_ |refine Kept.setG ?_ _ _))
     ·repeat(with_reducible first|exact KK.out|refine Kept.setNew ?_ GN.out _)
   ·go_simp
    refine hK.out _ _ (((Kept.refl _ _).alloc _).drew) (fun hHeld2 hDn2=>?_)
    clear hK K' hHeld hDn
    have hHeld:=hHeld2;have hDn:=hDn2
    clear hHeld2 hDn2
    refine cutT (fun wb=>Blk wb w1.heap.size #[.slice none 0 0,.bool false,.int .i64 0,.int .i64 0,.bool false] 104∧Same w1 wb) ⟨(Blk.new _ _ _).drew,((Kept.refl _ _).alloc _).drew⟩ ?_
    rintro wb ⟨xb,kb⟩
    clear hHeld
    have KB:=qh kb
    have hHeld:Kept (dod d bs m) w1 wb:=kb.mono (fun _ _ q=>q.elim)
    refine wpT_one (i:=11) rfl (by kernel_rfl) hDn (fun K' hK=>?_)
    go_simp
    refine(DO.out _ (K1.out.trans KB.out)).mono ?_
    rintro e w3 ⟨a4,c4,rfl,⟨hs4,hf4⟩,hd4,k4⟩
    have HS4:=qh hs4
    have HF4:=qh hf4
    have HD4:=qh hd4
    have K34:=qh k4
    have K13:=qh (show Kept (dod d bs m) w1 w3 from(KB.out.mono (fun _ _ q=>q.elim)).trans k4)
    refine hK.out _ _ K13.out (fun hHeld2 hDn2=>?_)
    clear hK K' hHeld hDn
    have hHeld:=hHeld2;have hDn:=hDn2
    clear hHeld2 hDn2
    refine wpT_zw 12 47 hHeld hDn fun hDn=>?_
    refine wpT_zw 13 60 hHeld hDn fun hDn=>?_
    refine wpT_zw 14 61 hHeld hDn fun hDn=>?_
    have hgd:¬dod d bs m w1.heap.size:=fun q=>by have h1:=LO.out _ q;have h2:=K1.out.size;omega
    have BG:=qh (xb.kept k4 hgd)
    have BXX:=qh ((F1.out.2.1.kept KB.out (fun q=>q)).kept k4 H.out.xd)
    have HD5:=HD4
    have HS5:=HS4
    have KK:=K13
    have GN:=qh (Nat.le_refl w1.heap.size)
    have GX:=qh (show¬x=w1.heap.size from fun q=>by have h1:=LT.out;have h2:=K1.out.size;omega)
    have GD:=qh (show¬d=w1.heap.size∧¬bs=w1.heap.size∧¬m=w1.heap.size from by have h1:=LO.out d (.inl rfl);have h2:=LO.out bs (.inr (.inl rfl));have h3:=LO.out m (.inr (.inr rfl));have h4:=K1.out.size;omega)
    have HW:=qh (show∀y,a4=some y→(a4=a∨wb.heap.size≤y.block)from fun y hy=>hf4.imp_right (fun h=>h y hy))
    have HG4:=qh (show D2.s=[]∨∀y,a4=some y→¬y.block=w1.heap.size from by
     rcases hf4 with r|r
     ·rcases secsAt_lt H.out.ds with q|q
      ·exact .inl (List.eq_nil_of_length_eq_zero (by rw[LN.out,q];rfl))
      ·exact .inr (fun y hy e=>by have h1:=q y (by rw[←r];exact hy);have h2:=K1.out.size;omega)
     ·exact .inr (fun y hy e=>by have h1:wb.heap.size≤y.block:=r y hy;have h2:=xb.lt;omega))
    have HA4:=qh (show a4=a∨∀y,a4=some y→w1.heap.size≤y.block from hf4.imp_right (fun h y hy=>Nat.le_trans KB.out.size (h y hy)))
    have hHeld:=KK.out
    clear xb kb k4 hs4 hf4 hd4 hgd HW
    obtain⟨pg,fg, -⟩:=(show Fr _ [(w1.heap.size,#[.slice none 0 0,.bool false,.int .i64 0,.int .i64 0,.bool false],104)]from⟨BG.out,trivial⟩).rules
    have zg:=BG.out.lt
    refine wpT_last rfl (by kernel_rfl) hDn (fun K hK=>?_)
    go_simp
    refine hK.out _ _ (fun hDn'=>?_)
    clear hK K hDn hHeld;have hDn:=hDn';clear hDn'
    refine wpT_ze 17 6 hDn fun hDn=>?_
    refine wpT_done (by kernel_rfl) ?_ _
    clear hDn QX p0 f0 p1 f1 pg fg zg
    go_wp2_with fail
    go_meet
    case rel=>
     refine⟨w1.heap.size,a4,c4,rfl,rfl,?_,?_,?_,?_,HA4.out,?_⟩
     ·refine BXX.out.kept (fp:=fun j=>j=w1.heap.size) ?_ GX.out
      (repeat(with_reducible first|exact Kept.refl _ _|refine Kept.drew ?_ |refine Kept.setG ?_ _ _))
     ·with_reducible exact Blk.set5 BG.out
     ·refine HD5.out.kept (fp:=fun j=>j=w1.heap.size) ?_ GD.out.1 GD.out.2.1 GD.out.2.2
      (repeat(with_reducible first|exact Kept.refl _ _|refine Kept.drew ?_ |refine Kept.setG ?_ _ _))
     ·refine HS5.out.kept (fp:=fun j=>j=w1.heap.size) ?_ HG4.out
      (repeat(with_reducible first|exact Kept.refl _ _|refine Kept.drew ?_ |refine Kept.setG ?_ _ _))
     ·repeat(with_reducible first|exact KK.out|refine Kept.setNew ?_ GN.out _)
  case rest=>
   obtain⟨g,a4,c4,rfl,rfl,hbx,hbg,hd4,hs4,ha4,k4⟩:=hcut
   have K4:=qh k4
   have HD4:=qh hd4
   have HS4:=qh hs4
   have F4:=qh (show Fr wc [(g,#[.slice a4 D2.s.length c4,.bool D2.off,.int .i64 D2.calls,.int .i64 D2.after,.bool D2.done],104),(x,#[.pointer (some ⟨d,0,none⟩),.pointer sp,.slice a D.s.length c,.bool D.off,.int .i64 D.calls,.int .i64 D.after,.bool D.done,.int .i64 z.ring,.int .i64 z.ns,.slice z.na z.nl z.nc,.int .i64 z.rs,.slice z.ca z.cl z.cc,.slice z.ba z.bl z.bc,.int .i64 z.gen,.int .i64 z.slot,.bool z.bad,.bool K],112)]from⟨hbg,hbx,trivial⟩)
   have BX:=qh hbx
   have DA:=qh (show∀y,a4=some y→¬dod d bs m y.block from fun y hy q=>by
    rcases ha4 with r|r
    ·exact H.out.da y (by rw[←r];exact hy) q
    ·have h1:=r y hy;have h2:=LO.out _ q;have h3:=K1.out.size;omega)
   have DX:=qh (show D2.s=[]∨∀y,a4=some y→¬y.block=x from by
    rcases ha4 with r|r
    ·exact H.out.dx.elim (fun q=>.inl (List.eq_nil_of_length_eq_zero (by rw[LN.out,q];rfl))) (fun q=>.inr (by rw[r];exact q))
    ·exact .inr (fun y hy q=>by have h1:=r y hy;have h2:=LT.out;have h3:=K1.out.size;omega))
   have ST4:=qh (show K=true→W7K nb wc x d bs m N D2 sp a4 c4 z from fun hK=>by
    obtain⟨S,p,A,q1,q2,q3,q4,q5,q6,q7,q8,q9,q10⟩:=(H.out.st hK).same K1.out
    have hlf:=q5.ltF
    refine⟨{S with D:=D2},p,{A with a:=a4,c:=c4},rfl,q2,q3,q4,q5.setD2 k4 hd4,?_,rfl,rfl,q9,q10.setD (LN.out.trans H.out.len)⟩
    have q6':=q6.kept k4 (fun j q=>.inr (.inr q))
    refine⟨⟨hs4,q6'.st.ns,q6'.st.cs,q6'.st.bs,q6'.st.nnil,q6'.st.cnil,q6'.st.bnil,q6'.st.bcap,q6'.st.bl⟩,q6'.lt,fun y hy q=>?_,q6'.pn,q6'.pc,q6'.pb⟩
    rcases ha4 with r|r
    ·exact q6.pa y (by rw[q7,←r];exact hy) q
    ·have h1:=r y hy
     rcases q with q|q
     ·have h2:=LT.out;have h3:=K1.out.size;omega
     ·have h2:=hlf _ q;omega)
   clear hbx hbg hd4 hs4 ha4 k4 p0 f0 p1 f1 DO QX F1
   obtain⟨p0,f0,p1,f1, -⟩:=F4.out.rules
   have z0:=F4.out.1.lt
   have z1:=F4.out.2.1.lt
   go_upto_region 10 with fail
   refine cutWl (fun wn=>Blk wn x #[.pointer (some ⟨d,0,none⟩),.pointer sp,.slice a4 D2.s.length c4,.bool D2.off,.int .i64 D2.calls,.int .i64 D2.after,.bool D2.done,.int .i64 z.ring,.int .i64 z.ns,.slice z.na z.nl z.nc,.int .i64 z.rs,.slice z.ca z.cl z.cc,.slice z.ba z.bl z.bc,.int .i64 z.gen,.int .i64 z.slot,.bool z.bad,.bool K] 112∧Kept (fun j=>j=x) wc wn) ⟨by first|with_reducible exact Blk.setWD BX.out|with_reducible exact(Blk.setWD BX.out).drew,by repeat(with_reducible first|exact Kept.refl _ _|refine Kept.setG ?_ _ _|refine Kept.drew ?_)⟩ ?_
   rintro w5 ⟨bx5,k5⟩
   have W5:=qh (show W7 nb w5 x d bs m N D2 sp a4 c4 z K from W7.put H.out.lo BX.out (w7C_not d sp a D.s.length c D z K) k5 bx5 ⟨cap,HD4.out⟩ (LN.out.trans H.out.len) HS4.out DA.out DX.out H.out.xd ST4.out)
   have KA:=qh (show Kept (fun j=>nb≤j) w w5 from((K1.out.mono (fun _ _ q=>q.elim)).trans (K4.out.mono (fun j _ q=>(LO.out j q).2))).trans (k5.mono (fun j _ q=>by have:=H.out.lo;omega)))
   clear bx5 k5 p0 f0 p1 f1 z0 z1
   go_wp2_with fail
   go_ret
   exact⟨rfl,⟨D2,sp,a4,c4,z,K,W5.out⟩,KA.out⟩
end
section
open Go.RowKit Go.Sort Go.Shelf
theorem W7.fin{nb:Nat}{w wf:World}{x d bs m N p:Nat}{S':Sto}{A':RA}{cs:Array Value}{t:TypeId}(lo:nb≤x∧nb≤d∧nb≤bs∧nb≤m)(xd:¬dod d bs m x)(hp:nb≤p)(hpx:p≠x)(hb:Blk w x cs t)(h8:(∀(i:Nat) (y:Int),cs[i]? ≠some (.int .u8 y))∧∀(i:Nat) (y:Int),cs[i]? ≠some (.int .u64 y))(k:Kept (fun j=>j=x) w wf)
 (hf:Blk wf x (w7C d (some ⟨p,0,none⟩) A'.a S'.D.s.length A'.c S'.D (rzOf S' A') true) 112) (hs:StoIn w p d bs m S') (hr:RSp w S' A' (fun j=>j=x∨FS p d bs m j)) (ok:S'.Ok N):W7 nb wf x d bs m N S'.D (some ⟨p,0,none⟩) A'.a A'.c (rzOf S' A') true:=
 W7.put lo hb h8 k hf hs.disk ok.len hr.st.ds (fun y hy q=>hr.pa y hy (.inr (.inr q))) (.inr (fun y hy q=>hr.pa y hy (.inl q))) xd (fun _=>⟨S',p,A',rfl,rfl,hp,hpx,hs,hr,rfl,rfl,rfl,ok⟩)
theorem w7_free{nb:Nat}{w:World}{x d bs m N:Nat}{D:Dsk}{sp a:Option Addr}{c:Nat}{z:RZ}(h:W7 nb w x d bs m N D sp a c z true)(A:A7)(ha:A.ok w nb)(hk:A.k % 10=5):
 Calls Tryz.prog 28 #[.pointer (some ⟨x,0,none⟩),A.v] w (W7P nb w x d bs m N):=by
 obtain⟨S,p,R,rfl,rfl,hp,hpx,hst,hrs,rfl,rfl,rfl,hok⟩:=h.st rfl
 have H:=qh (show(nb≤x∧nb≤d∧nb≤bs∧nb≤m)∧¬dod d bs m x∧nb≤p∧p≠x from⟨h.lo,h.xd,hp,hpx⟩)
 have HST:=qh hst
 have HRS:=qh hrs
 have HOK:=qh hok
 have HA:=qh ha
 have LT:=qh (show x<w.heap.size from h.box.lt)
 have LF:=qh (show∀g,FS p d bs m g→g<w.heap.size from hst.ltF)
 have NBF:=qh (show∀j,FS p d bs m j→nb≤j from fun j q=>by have h1:=h.lo;rcases q with q|q|q|q<;>omega)
 have XF:=qh (show¬FS p d bs m x from fun q=>by rcases q with q|q;exact hpx q.symm;exact h.xd q)
 have BX:=qh (show Blk w x #[.pointer (some ⟨d,0,none⟩),.pointer (some ⟨p,0,none⟩),.slice R.a S.D.s.length R.c,.bool S.D.off,.int .i64 S.D.calls,.int .i64 S.D.after,.bool S.D.done,.int .i64 (S.r.ring:Nat),.int .i64 (S.nsize:Nat),.slice R.na S.nwords.length R.nc,.int .i64 (S.r.size:Nat),.slice R.ca S.r.words.length R.cc,.slice R.ba S.r.body.length R.bc,.int .i64 (S.r.gen:Nat),.int .i64 (S.r.slot:Nat),.bool S.bad,.bool true] 112 from h.box)
 have e10:(A.k:Int) % 10=5:=by omega
 clear h hp hpx hst hrs hok ha
 have PC:=qh (fun w' (k':Same w w')=>st_Free (HST.out.same k') A.n)
 have DC:=qh (fun w' (hr:RSp w' S R (fun j=>j=x∨FS p d bs m j))=>rt_free S R (fun j=>j=x∨FS p d bs m j) A.n HOK.out.fit.nw w' hr)
 have OK2:=qh (HOK.out.free A.n)
 obtain⟨q,hq⟩:∃q,S.free A.n=q:=⟨_,rfl⟩
 rw[hq]at PC DC OK2
 obtain⟨S2,er⟩:=q
 dsimp only at PC DC OK2
 unfold RtP at DC
 unfold rsV rsC at DC
 clear hk hq
 unfold A7.v
 obtain⟨k,n,ba,bl,bc,bbs,k2,n2,c2,u,dn,fa,fl,fc,fs⟩:=A
 dsimp only at PC DC e10 ⊢
 go_enter Tryz.func28,Tryz.ntmps28
 go_upto_region 1 with fail
 obtain⟨y,hy⟩:∃y,w.heap.size=y:=⟨_,rfl⟩
 rw[hy]
 refine cutWl (fun wn=>Fr wn [(y,#[.int .u8 (k:Nat),.int .i64 n,.slice ba bl bc,.int .u8 (k2:Nat),.int .i64 n2,.int .u8 (c2:Nat),.int .u8 (u:Nat),.bool dn,.slice fa fl fc],36),(x,#[.pointer (some ⟨d,0,none⟩),.pointer (some ⟨p,0,none⟩),.slice R.a S.D.s.length R.c,.bool S.D.off,.int .i64 S.D.calls,.int .i64 S.D.after,.bool S.D.done,.int .i64 (S.r.ring:Nat),.int .i64 (S.nsize:Nat),.slice R.na S.nwords.length R.nc,.int .i64 (S.r.size:Nat),.slice R.ca S.r.words.length R.cc,.slice R.ba S.r.body.length R.bc,.int .i64 (S.r.gen:Nat),.int .i64 (S.r.slot:Nat),.bool S.bad,.bool true],112)]∧Same w wn) ⟨⟨Blk.new' _ _ _ hy.symm,BX.out.alloc _,trivial⟩,(Kept.refl _ _).alloc _⟩ ?_
 rintro w1 ⟨hf1,k1⟩
 have F1:=qh hf1
 have K1:=qh k1
 have HY:=qh hy
 have YF:=qh (show¬FS p d bs m y from fun q=>by have h1:=LF.out _ q;omega)
 clear hf1 k1 hy BX
 obtain⟨p0,f0,p1,f1, -⟩:=F1.out.rules
 have QX:=qh (fun w' (k':Same w1 w')=>(⟨cell_blk (F1.out.1.kept k' (fun h=>h)),cell_blk (F1.out.2.1.kept k' (fun h=>h)),trivial,trivial⟩:(∀i,w'.cell? ⟨y,i,none⟩=(#[.int .u8 (k:Nat),.int .i64 n,.slice ba bl bc,.int .u8 (k2:Nat),.int .i64 n2,.int .u8 (c2:Nat),.int .u8 (u:Nat),.bool dn,.slice fa fl fc]:Array Value)[i]?)∧(∀i,w'.cell? ⟨x,i,none⟩=(#[.pointer (some ⟨d,0,none⟩),.pointer (some ⟨p,0,none⟩),.slice R.a S.D.s.length R.c,.bool S.D.off,.int .i64 S.D.calls,.int .i64 S.D.after,.bool S.D.done,.int .i64 (S.r.ring:Nat),.int .i64 (S.nsize:Nat),.slice R.na S.nwords.length R.nc,.int .i64 (S.r.size:Nat),.slice R.ca S.r.words.length R.cc,.slice R.ba S.r.body.length R.bc,.int .i64 (S.r.gen:Nat),.int .i64 (S.r.slot:Nat),.bool S.bad,.bool true]:Array Value)[i]?)∧True∧True))
 go_wp2_with fail
 refine wp_region_T (S:=fun w'=>Same w1 w') 6 (by kernel_rfl) (Kept.refl _ _).drew (fun hHeld hDn=>?_)
 refine wpT_z 0 126 QX hHeld hDn fun hDn=>?_
 refine wpT_z 1 127 QX hHeld hDn fun hDn=>?_
 refine wpT_z 2 128 QX hHeld hDn fun hDn=>?_
 refine wpT_z 3 129 QX hHeld hDn fun hDn=>?_
 refine wpT_z 4 130 QX hHeld hDn fun hDn=>?_
 refine wpT_z 5 131 QX hHeld hDn fun hDn=>?_
 refine wpT_last rfl (by kernel_rfl) hDn (fun K' hK=>?_)
 go_simp
 refine(PC.out _ (K1.out.trans (Kept.refl _ _).drew)).mono ?_
 rintro e w2 ⟨rfl,hst2,k2'⟩
 have K12:=qh (show Kept (FS p d bs m) w1 w2 from(((Kept.refl _ _).drew).trans k2').mono (fun j _ q=>.inl q))
 have ST2:=qh hst2
 refine hK.out _ _ (fun hDn'=>?_)
 clear hK K' hDn hHeld k2' hst2 PC QX p0 f0 p1 f1
 have hDn:=hDn';clear hDn'
 refine wpT_ze 7 7 hDn fun hDn=>?_
 refine wpT_done (by kernel_rfl) ?_ _
 clear hDn
 have F2:=qh (show Fr w2 [(y,#[.int .u8 (k:Nat),.int .i64 n,.slice ba bl bc,.int .u8 (k2:Nat),.int .i64 n2,.int .u8 (c2:Nat),.int .u8 (u:Nat),.bool dn,.slice fa fl fc],36),(x,#[.pointer (some ⟨d,0,none⟩),.pointer (some ⟨p,0,none⟩),.slice R.a S.D.s.length R.c,.bool S.D.off,.int .i64 S.D.calls,.int .i64 S.D.after,.bool S.D.done,.int .i64 (S.r.ring:Nat),.int .i64 (S.nsize:Nat),.slice R.na S.nwords.length R.nc,.int .i64 (S.r.size:Nat),.slice R.ca S.r.words.length R.cc,.slice R.ba S.r.body.length R.bc,.int .i64 (S.r.gen:Nat),.int .i64 (S.r.slot:Nat),.bool S.bad,.bool true],112)]from⟨F1.out.1.kept K12.out YF.out,F1.out.2.1.kept K12.out XF.out,trivial⟩)
 have RS2:=qh ((HRS.out.same K1.out).kept K12.out (fun j q=>.inr q))
 have QX:=qh (fun w' (k':Same w2 w')=>(⟨cell_blk (F2.out.1.kept k' (fun h=>h)),cell_blk (F2.out.2.1.kept k' (fun h=>h)),trivial,trivial⟩:(∀i,w'.cell? ⟨y,i,none⟩=(#[.int .u8 (k:Nat),.int .i64 n,.slice ba bl bc,.int .u8 (k2:Nat),.int .i64 n2,.int .u8 (c2:Nat),.int .u8 (u:Nat),.bool dn,.slice fa fl fc]:Array Value)[i]?)∧(∀i,w'.cell? ⟨x,i,none⟩=(#[.pointer (some ⟨d,0,none⟩),.pointer (some ⟨p,0,none⟩),.slice R.a S.D.s.length R.c,.bool S.D.off,.int .i64 S.D.calls,.int .i64 S.D.after,.bool S.D.done,.int .i64 (S.r.ring:Nat),.int .i64 (S.nsize:Nat),.slice R.na S.nwords.length R.nc,.int .i64 (S.r.size:Nat),.slice R.ca S.r.words.length R.cc,.slice R.ba S.r.body.length R.bc,.int .i64 (S.r.gen:Nat),.int .i64 (S.r.slot:Nat),.bool S.bad,.bool true]:Array Value)[i]?)∧True∧True))
 have DC2:=qh (fun w' (k':Same w2 w')=>DC.out w' (RS2.out.same k'))
 obtain⟨p0,f0,p1,f1, -⟩:=F2.out.rules
 clear DC
 go_wp2_with fail
 refine wp_region_T (S:=fun w'=>Same w2 w') 13 (by kernel_rfl) (Kept.refl _ _).drew (fun hHeld hDn=>?_)
 refine wpT_z 0 134 QX hHeld hDn fun hDn=>?_
 refine wpT_z 1 135 QX hHeld hDn fun hDn=>?_
 refine wpT_z 2 136 QX hHeld hDn fun hDn=>?_
 refine wpT_z 3 137 QX hHeld hDn fun hDn=>?_
 refine wpT_z 4 138 QX hHeld hDn fun hDn=>?_
 refine wpT_z 5 139 QX hHeld hDn fun hDn=>?_
 refine wpT_z 6 140 QX hHeld hDn fun hDn=>?_
 refine wpT_one (i:=7) rfl (by kernel_rfl) hDn (fun K' hK=>?_)
 go_simp
 refine(DC2.out _ (Kept.refl _ _).drew).mono ?_
 rintro e w3 ⟨R2,rfl,hr3,k3⟩
 have K23:=qh (show Same w2 w3 from((Kept.refl _ _).drew).trans k3)
 have HR3:=qh hr3
 refine hK.out _ _ K23.out (fun hHeld2 hDn2=>?_)
 clear hK K' hHeld hDn
 have hHeld:=hHeld2;have hDn:=hDn2
 clear hHeld2 hDn2
 clear k3 hr3 DC2 QX p0 f0 p1 f1
 have F3:=qh (F2.out.same K23.out)
 obtain⟨p0,f0,p1,f1, -⟩:=F3.out.rules
 have z0:=F3.out.1.lt
 have z1:=F3.out.2.1.lt
 refine wpT_zw 8 133 hHeld hDn fun hDn=>?_
 refine wpT_zw 9 142 hHeld hDn fun hDn=>?_
 refine wpT_zw 10 143 hHeld hDn fun hDn=>?_
 refine wpT_zw 11 144 hHeld hDn fun hDn=>?_
 refine wpT_zw 12 145 hHeld hDn fun hDn=>?_
 refine wpT_last rfl (by kernel_rfl) hDn (fun K hK=>?_)
 go_simp
 refine hK.out _ _ (fun hDn'=>?_)
 clear hK K hDn hHeld;have hDn:=hDn';clear hDn'
 refine wpT_ze 14 8 hDn fun hDn=>?_
 refine wpT_done (by kernel_rfl) ?_ _
 clear hDn p0 f0 p1 f1 z0 z1
 have BX:=qh (show Blk w3 x #[.pointer (some ⟨d,0,none⟩),.pointer (some ⟨p,0,none⟩),.slice R.a S.D.s.length R.c,.bool S.D.off,.int .i64 S.D.calls,.int .i64 S.D.after,.bool S.D.done,.int .i64 (S.r.ring:Nat),.int .i64 (S.nsize:Nat),.slice R.na S.nwords.length R.nc,.int .i64 (S.r.size:Nat),.slice R.ca S.r.words.length R.cc,.slice R.ba S.r.body.length R.bc,.int .i64 (S.r.gen:Nat),.int .i64 (S.r.slot:Nat),.bool S.bad,.bool true] 112 from F3.out.2.1)
 go_upto_region 30 with fail
 refine cutWl (fun wn=>Blk wn x #[.pointer (some ⟨d,0,none⟩),.pointer (some ⟨p,0,none⟩),.slice R2.a S2.D.s.length R2.c,.bool S2.D.off,.int .i64 S2.D.calls,.int .i64 S2.D.after,.bool S2.D.done,.int .i64 (S2.r.ring:Nat),.int .i64 (S2.nsize:Nat),.slice R2.na S2.nwords.length R2.nc,.int .i64 (S2.r.size:Nat),.slice R2.ca S2.r.words.length R2.cc,.slice R2.ba S2.r.body.length R2.bc,.int .i64 (S2.r.gen:Nat),.int .i64 (S2.r.slot:Nat),.bool S2.bad,.bool true] 112∧Kept (fun j=>j=x) w3 wn) ⟨by first|with_reducible exact(Blk.setWR BX.out).drew|with_reducible exact Blk.setWR BX.out,by repeat(with_reducible first|exact Kept.refl _ _|refine Kept.setG ?_ _ _|refine Kept.drew ?_)⟩ ?_
 rintro w4 ⟨bx4,k4⟩
 have W4:=qh (show W7 nb w4 x d bs m N S2.D (some ⟨p,0,none⟩) R2.a R2.c (rzOf S2 R2) true from W7.fin H.out.1 H.out.2.1 H.out.2.2.1 H.out.2.2.2 BX.out (w7C_not d (some ⟨p,0,none⟩) R.a S.D.s.length R.c S.D (rzOf S R) true) k4 bx4 (ST2.out.same K23.out) HR3.out OK2.out)
 have KA:=qh (show Kept (fun j=>nb≤j) w w4 from((K1.out.mono (fun _ _ q=>q.elim)).trans (K12.out.mono (fun j _ q=>NBF.out j q))).trans ((K23.out.mono (fun _ _ q=>q.elim)).trans (k4.mono (fun j _ q=>by have:=H.out.1;omega))))
 clear bx4 k4
 go_wp2_with fail
 go_ret
 exact⟨rfl,⟨_,_,_,_,_,_,W4.out⟩,KA.out⟩
end
end Go.Proofs.YtmiglhlbhbfodaaGreatDoor
