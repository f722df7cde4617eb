/- GWgC: Wg7, Wg8, Wg9. -/
import Derived.Test.YtmiglhlbhbfodaaGreatDoorGWgB
set_option maxHeartbeats 4000000
set_option maxRecDepth 100000
namespace Go.Proofs.YtmiglhlbhbfodaaGreatDoor
section
open Go.RowKit Go.Sort Go.Shelf
theorem w7_write3{nb:Nat}{w:World}{x d bs m N:Nat}{D:Dsk}{sp a:Option Addr}{c:Nat}{z:RZ}(h:W7 nb w x d bs m N D sp a c z true)(A:A7)(ha:A.ok w nb)(hk:A.k % 10=3):
 Calls Tryz.prog 28 #[.pointer (some ⟨x,0,none⟩),A.v] w (W7P nb w x d bs m N):=by
 obtain⟨S,p,R,rfl,rfl,hp,hpx,hst,hrs,rfl,rfl,rfl,hok⟩:=h.st rfl
 have H:=qh (show(nb≤x∧nb≤d∧nb≤bs∧nb≤m)∧¬dod d bs m x∧nb≤p∧p≠x from⟨h.lo,h.xd,hp,hpx⟩)
 have HST:=qh hst
 have HRS:=qh hrs
 have HOK:=qh hok
 have HA:=qh ha
 have LT:=qh (show x<w.heap.size from h.box.lt)
 have LF:=qh (show∀g,FS p d bs m g→g<w.heap.size from hst.ltF)
 have NBF:=qh (show∀j,FS p d bs m j→nb≤j from fun j q=>by have h1:=h.lo;rcases q with q|q|q|q<;>omega)
 have XF:=qh (show¬FS p d bs m x from fun q=>by rcases q with q|q;exact hpx q.symm;exact h.xd q)
 have BX:=qh (show Blk w x #[.pointer (some ⟨d,0,none⟩),.pointer (some ⟨p,0,none⟩),.slice R.a S.D.s.length R.c,.bool S.D.off,.int .i64 S.D.calls,.int .i64 S.D.after,.bool S.D.done,.int .i64 (S.r.ring:Nat),.int .i64 (S.nsize:Nat),.slice R.na S.nwords.length R.nc,.int .i64 (S.r.size:Nat),.slice R.ca S.r.words.length R.cc,.slice R.ba S.r.body.length R.bc,.int .i64 (S.r.gen:Nat),.int .i64 (S.r.slot:Nat),.bool S.bad,.bool true] 112 from h.box)
 have e10:(A.k:Int) % 10=3:=by omega
 clear h hp hpx hst hrs hok ha
 obtain⟨cap,hd⟩:=HST.out.disk
 have OKD:=qh hd.ok
 have PC:=qh (fun w' (k':Same w w')=>st_Write (HST.out.same k') A.n A.ba A.bl A.bc A.bs HA.out.bl_ HA.out.bb HA.out.bc_ (HA.out.at_.same k'))
 have DC:=qh (fun w' (hr:RSp w' S R (fun j=>j=x∨FS p d bs m j)) (hat:NatsAt w' .u8 A.ba A.bs)=>rt_wr S R (fun j=>j=x∨FS p d bs m j) A.n OKD.out HOK.out.fit.nw HOK.out.fit.rw_ (by have:=HOK.out.ring;omega) A.ba A.bl A.bc A.bs HA.out.bl_ HA.out.bb HA.out.bc_ w' hr hat)
 have OK2:=qh (HOK.out.wr A.n A.bs)
 have AT2:=qh (fun(w2:World) (k12:Kept (FS p d bs m) w w2)=>(HA.out.at_).kept' k12 (HA.out.blo.imp_right (fun h y hy q=>by have h1:=h y hy;have h2:=NBF.out _ q;omega)))
 obtain⟨q,hq⟩:∃q,S.wr A.n A.bs=q:=⟨_,rfl⟩
 rw[hq]at PC DC OK2
 obtain⟨S2,er⟩:=q
 dsimp only at PC DC OK2
 unfold StPost at PC
 unfold RtP at DC
 unfold rsV rsC at DC
 clear hk hq hd
 unfold A7.v
 obtain⟨k,n,ba,bl,bc,bbs,k2,n2,c2,u,dn,fa,fl,fc,fs⟩:=A
 dsimp only at PC DC e10 AT2 ⊢
 go_enter Tryz.func28,Tryz.ntmps28
 go_upto_region 1 with fail
 obtain⟨y,hy⟩:∃y,w.heap.size=y:=⟨_,rfl⟩
 rw[hy]
 refine cutWl (fun wn=>Fr wn [(y,#[.int .u8 (k:Nat),.int .i64 n,.slice ba bl bc,.int .u8 (k2:Nat),.int .i64 n2,.int .u8 (c2:Nat),.int .u8 (u:Nat),.bool dn,.slice fa fl fc],36),(x,#[.pointer (some ⟨d,0,none⟩),.pointer (some ⟨p,0,none⟩),.slice R.a S.D.s.length R.c,.bool S.D.off,.int .i64 S.D.calls,.int .i64 S.D.after,.bool S.D.done,.int .i64 (S.r.ring:Nat),.int .i64 (S.nsize:Nat),.slice R.na S.nwords.length R.nc,.int .i64 (S.r.size:Nat),.slice R.ca S.r.words.length R.cc,.slice R.ba S.r.body.length R.bc,.int .i64 (S.r.gen:Nat),.int .i64 (S.r.slot:Nat),.bool S.bad,.bool true],112)]∧Same w wn) ⟨⟨Blk.new' _ _ _ hy.symm,BX.out.alloc _,trivial⟩,(Kept.refl _ _).alloc _⟩ ?_
 rintro w1 ⟨hf1,k1⟩
 have F1:=qh hf1
 have K1:=qh k1
 have HY:=qh hy
 have YF:=qh (show¬FS p d bs m y from fun q=>by have h1:=LF.out _ q;omega)
 clear hf1 k1 hy BX
 obtain⟨p0,f0,p1,f1, -⟩:=F1.out.rules
 have QX:=qh (fun w' (k':Same w1 w')=>(⟨cell_blk (F1.out.1.kept k' (fun h=>h)),cell_blk (F1.out.2.1.kept k' (fun h=>h)),trivial,trivial⟩:(∀i,w'.cell? ⟨y,i,none⟩=(#[.int .u8 (k:Nat),.int .i64 n,.slice ba bl bc,.int .u8 (k2:Nat),.int .i64 n2,.int .u8 (c2:Nat),.int .u8 (u:Nat),.bool dn,.slice fa fl fc]:Array Value)[i]?)∧(∀i,w'.cell? ⟨x,i,none⟩=(#[.pointer (some ⟨d,0,none⟩),.pointer (some ⟨p,0,none⟩),.slice R.a S.D.s.length R.c,.bool S.D.off,.int .i64 S.D.calls,.int .i64 S.D.after,.bool S.D.done,.int .i64 (S.r.ring:Nat),.int .i64 (S.nsize:Nat),.slice R.na S.nwords.length R.nc,.int .i64 (S.r.size:Nat),.slice R.ca S.r.words.length R.cc,.slice R.ba S.r.body.length R.bc,.int .i64 (S.r.gen:Nat),.int .i64 (S.r.slot:Nat),.bool S.bad,.bool true]:Array Value)[i]?)∧True∧True))
 go_wp2_with fail
 refine wp_region_T (S:=fun w'=>Same w1 w') 8 (by kernel_rfl) (Kept.refl _ _).drew (fun hHeld hDn=>?_)
 refine wpT_z 0 100 QX hHeld hDn fun hDn=>?_
 refine wpT_z 1 101 QX hHeld hDn fun hDn=>?_
 refine wpT_z 2 102 QX hHeld hDn fun hDn=>?_
 refine wpT_z 3 103 QX hHeld hDn fun hDn=>?_
 refine wpT_z 4 104 QX hHeld hDn fun hDn=>?_
 refine wpT_z 5 105 QX hHeld hDn fun hDn=>?_
 refine wpT_z 6 106 QX hHeld hDn fun hDn=>?_
 refine wpT_z 7 107 QX hHeld hDn fun hDn=>?_
 refine wpT_last rfl (by kernel_rfl) hDn (fun K' hK=>?_)
 go_simp
 refine(PC.out _ (K1.out.trans (Kept.refl _ _).drew)).mono ?_
 rintro e w2 ⟨rfl,hst2,k2'⟩
 have K12:=qh (show Kept (FS p d bs m) w1 w2 from(((Kept.refl _ _).drew).trans k2'))
 have ST2:=qh hst2
 refine hK.out _ _ (fun hDn'=>?_)
 clear hK K' hDn hHeld k2' hst2 PC QX p0 f0 p1 f1
 have hDn:=hDn';clear hDn'
 refine wpT_ze 9 7 hDn fun hDn=>?_
 refine wpT_done (by kernel_rfl) ?_ _
 clear hDn
 have F2:=qh (show Fr w2 [(y,#[.int .u8 (k:Nat),.int .i64 n,.slice ba bl bc,.int .u8 (k2:Nat),.int .i64 n2,.int .u8 (c2:Nat),.int .u8 (u:Nat),.bool dn,.slice fa fl fc],36),(x,#[.pointer (some ⟨d,0,none⟩),.pointer (some ⟨p,0,none⟩),.slice R.a S.D.s.length R.c,.bool S.D.off,.int .i64 S.D.calls,.int .i64 S.D.after,.bool S.D.done,.int .i64 (S.r.ring:Nat),.int .i64 (S.nsize:Nat),.slice R.na S.nwords.length R.nc,.int .i64 (S.r.size:Nat),.slice R.ca S.r.words.length R.cc,.slice R.ba S.r.body.length R.bc,.int .i64 (S.r.gen:Nat),.int .i64 (S.r.slot:Nat),.bool S.bad,.bool true],112)]from⟨F1.out.1.kept K12.out YF.out,F1.out.2.1.kept K12.out XF.out,trivial⟩)
 have RS2:=qh ((HRS.out.same K1.out).kept K12.out (fun j q=>.inr q))
 have QX:=qh (fun w' (k':Same w2 w')=>(⟨cell_blk (F2.out.1.kept k' (fun h=>h)),cell_blk (F2.out.2.1.kept k' (fun h=>h)),trivial,trivial⟩:(∀i,w'.cell? ⟨y,i,none⟩=(#[.int .u8 (k:Nat),.int .i64 n,.slice ba bl bc,.int .u8 (k2:Nat),.int .i64 n2,.int .u8 (c2:Nat),.int .u8 (u:Nat),.bool dn,.slice fa fl fc]:Array Value)[i]?)∧(∀i,w'.cell? ⟨x,i,none⟩=(#[.pointer (some ⟨d,0,none⟩),.pointer (some ⟨p,0,none⟩),.slice R.a S.D.s.length R.c,.bool S.D.off,.int .i64 S.D.calls,.int .i64 S.D.after,.bool S.D.done,.int .i64 (S.r.ring:Nat),.int .i64 (S.nsize:Nat),.slice R.na S.nwords.length R.nc,.int .i64 (S.r.size:Nat),.slice R.ca S.r.words.length R.cc,.slice R.ba S.r.body.length R.bc,.int .i64 (S.r.gen:Nat),.int .i64 (S.r.slot:Nat),.bool S.bad,.bool true]:Array Value)[i]?)∧True∧True))
 have AT3:=qh (AT2.out w2 ((K1.out.mono (fun _ _ q=>q.elim)).trans K12.out))
 have DC2:=qh (fun w' (k':Same w2 w')=>DC.out w' (RS2.out.same k') (AT3.out.same k'))
 obtain⟨p0,f0,p1,f1, -⟩:=F2.out.rules
 clear DC
 go_wp2_with fail
 refine wp_region_T (S:=fun w'=>Same w2 w') 15 (by kernel_rfl) (Kept.refl _ _).drew (fun hHeld hDn=>?_)
 refine wpT_z 0 110 QX hHeld hDn fun hDn=>?_
 refine wpT_z 1 111 QX hHeld hDn fun hDn=>?_
 refine wpT_z 2 112 QX hHeld hDn fun hDn=>?_
 refine wpT_z 3 113 QX hHeld hDn fun hDn=>?_
 refine wpT_z 4 114 QX hHeld hDn fun hDn=>?_
 refine wpT_z 5 115 QX hHeld hDn fun hDn=>?_
 refine wpT_z 6 116 QX hHeld hDn fun hDn=>?_
 refine wpT_z 7 117 QX hHeld hDn fun hDn=>?_
 refine wpT_z 8 118 QX hHeld hDn fun hDn=>?_
 refine wpT_one (i:=9) rfl (by kernel_rfl) hDn (fun K' hK=>?_)
 go_simp
 refine(DC2.out _ (Kept.refl _ _).drew).mono ?_
 rintro e w3 ⟨R2,rfl,hr3,k3⟩
 have K23:=qh (show Same w2 w3 from((Kept.refl _ _).drew).trans k3)
 have HR3:=qh hr3
 refine hK.out _ _ K23.out (fun hHeld2 hDn2=>?_)
 clear hK K' hHeld hDn
 have hHeld:=hHeld2;have hDn:=hDn2
 clear hHeld2 hDn2
 clear k3 hr3 DC2 QX p0 f0 p1 f1
 have F3:=qh (F2.out.same K23.out)
 obtain⟨p0,f0,p1,f1, -⟩:=F3.out.rules
 have z0:=F3.out.1.lt
 have z1:=F3.out.2.1.lt
 refine wpT_zw 10 109 hHeld hDn fun hDn=>?_
 refine wpT_zw 11 120 hHeld hDn fun hDn=>?_
 refine wpT_zw 12 121 hHeld hDn fun hDn=>?_
 refine wpT_zw 13 122 hHeld hDn fun hDn=>?_
 refine wpT_zw 14 123 hHeld hDn fun hDn=>?_
 refine wpT_last rfl (by kernel_rfl) hDn (fun K hK=>?_)
 go_simp
 refine hK.out _ _ (fun hDn'=>?_)
 clear hK K hDn hHeld;have hDn:=hDn';clear hDn'
 refine wpT_ze 16 8 hDn fun hDn=>?_
 refine wpT_done (by kernel_rfl) ?_ _
 clear hDn p0 f0 p1 f1 z0 z1
 have BX:=qh (show Blk w3 x #[.pointer (some ⟨d,0,none⟩),.pointer (some ⟨p,0,none⟩),.slice R.a S.D.s.length R.c,.bool S.D.off,.int .i64 S.D.calls,.int .i64 S.D.after,.bool S.D.done,.int .i64 (S.r.ring:Nat),.int .i64 (S.nsize:Nat),.slice R.na S.nwords.length R.nc,.int .i64 (S.r.size:Nat),.slice R.ca S.r.words.length R.cc,.slice R.ba S.r.body.length R.bc,.int .i64 (S.r.gen:Nat),.int .i64 (S.r.slot:Nat),.bool S.bad,.bool true] 112 from F3.out.2.1)
 go_upto_region 30 with fail
 refine cutWl (fun wn=>Blk wn x #[.pointer (some ⟨d,0,none⟩),.pointer (some ⟨p,0,none⟩),.slice R2.a S2.D.s.length R2.c,.bool S2.D.off,.int .i64 S2.D.calls,.int .i64 S2.D.after,.bool S2.D.done,.int .i64 (S2.r.ring:Nat),.int .i64 (S2.nsize:Nat),.slice R2.na S2.nwords.length R2.nc,.int .i64 (S2.r.size:Nat),.slice R2.ca S2.r.words.length R2.cc,.slice R2.ba S2.r.body.length R2.bc,.int .i64 (S2.r.gen:Nat),.int .i64 (S2.r.slot:Nat),.bool S2.bad,.bool true] 112∧Kept (fun j=>j=x) w3 wn) ⟨by first|with_reducible exact(Blk.setWR BX.out).drew|with_reducible exact Blk.setWR BX.out,by repeat(with_reducible first|exact Kept.refl _ _|refine Kept.setG ?_ _ _|refine Kept.drew ?_)⟩ ?_
 rintro w4 ⟨bx4,k4⟩
 have W4:=qh (show W7 nb w4 x d bs m N S2.D (some ⟨p,0,none⟩) R2.a R2.c (rzOf S2 R2) true from W7.fin H.out.1 H.out.2.1 H.out.2.2.1 H.out.2.2.2 BX.out (w7C_not d (some ⟨p,0,none⟩) R.a S.D.s.length R.c S.D (rzOf S R) true) k4 bx4 (ST2.out.same K23.out) HR3.out OK2.out)
 have KA:=qh (show Kept (fun j=>nb≤j) w w4 from((K1.out.mono (fun _ _ q=>q.elim)).trans (K12.out.mono (fun j _ q=>NBF.out j q))).trans ((K23.out.mono (fun _ _ q=>q.elim)).trans (k4.mono (fun j _ q=>by have:=H.out.1;omega))))
 clear bx4 k4
 go_wp2_with fail
 go_ret
 exact⟨rfl,⟨_,_,_,_,_,_,W4.out⟩,KA.out⟩
theorem w7_write4{nb:Nat}{w:World}{x d bs m N:Nat}{D:Dsk}{sp a:Option Addr}{c:Nat}{z:RZ}(h:W7 nb w x d bs m N D sp a c z true)(A:A7)(ha:A.ok w nb)(hk:A.k % 10=4):
 Calls Tryz.prog 28 #[.pointer (some ⟨x,0,none⟩),A.v] w (W7P nb w x d bs m N):=by
 obtain⟨S,p,R,rfl,rfl,hp,hpx,hst,hrs,rfl,rfl,rfl,hok⟩:=h.st rfl
 have H:=qh (show(nb≤x∧nb≤d∧nb≤bs∧nb≤m)∧¬dod d bs m x∧nb≤p∧p≠x from⟨h.lo,h.xd,hp,hpx⟩)
 have HST:=qh hst
 have HRS:=qh hrs
 have HOK:=qh hok
 have HA:=qh ha
 have LT:=qh (show x<w.heap.size from h.box.lt)
 have LF:=qh (show∀g,FS p d bs m g→g<w.heap.size from hst.ltF)
 have NBF:=qh (show∀j,FS p d bs m j→nb≤j from fun j q=>by have h1:=h.lo;rcases q with q|q|q|q<;>omega)
 have XF:=qh (show¬FS p d bs m x from fun q=>by rcases q with q|q;exact hpx q.symm;exact h.xd q)
 have BX:=qh (show Blk w x #[.pointer (some ⟨d,0,none⟩),.pointer (some ⟨p,0,none⟩),.slice R.a S.D.s.length R.c,.bool S.D.off,.int .i64 S.D.calls,.int .i64 S.D.after,.bool S.D.done,.int .i64 (S.r.ring:Nat),.int .i64 (S.nsize:Nat),.slice R.na S.nwords.length R.nc,.int .i64 (S.r.size:Nat),.slice R.ca S.r.words.length R.cc,.slice R.ba S.r.body.length R.bc,.int .i64 (S.r.gen:Nat),.int .i64 (S.r.slot:Nat),.bool S.bad,.bool true] 112 from h.box)
 have e10:(A.k:Int) % 10=4:=by omega
 clear h hp hpx hst hrs hok ha
 obtain⟨cap,hd⟩:=HST.out.disk
 have OKD:=qh hd.ok
 have PC:=qh (fun w' (k':Same w w')=>st_Write (HST.out.same k') A.n A.ba A.bl A.bc A.bs HA.out.bl_ HA.out.bb HA.out.bc_ (HA.out.at_.same k'))
 have DC:=qh (fun w' (hr:RSp w' S R (fun j=>j=x∨FS p d bs m j)) (hat:NatsAt w' .u8 A.ba A.bs)=>rt_wr S R (fun j=>j=x∨FS p d bs m j) A.n OKD.out HOK.out.fit.nw HOK.out.fit.rw_ (by have:=HOK.out.ring;omega) A.ba A.bl A.bc A.bs HA.out.bl_ HA.out.bb HA.out.bc_ w' hr hat)
 have OK2:=qh (HOK.out.wr A.n A.bs)
 have AT2:=qh (fun(w2:World) (k12:Kept (FS p d bs m) w w2)=>(HA.out.at_).kept' k12 (HA.out.blo.imp_right (fun h y hy q=>by have h1:=h y hy;have h2:=NBF.out _ q;omega)))
 obtain⟨q,hq⟩:∃q,S.wr A.n A.bs=q:=⟨_,rfl⟩
 rw[hq]at PC DC OK2
 obtain⟨S2,er⟩:=q
 dsimp only at PC DC OK2
 unfold StPost at PC
 unfold RtP at DC
 unfold rsV rsC at DC
 clear hk hq hd
 unfold A7.v
 obtain⟨k,n,ba,bl,bc,bbs,k2,n2,c2,u,dn,fa,fl,fc,fs⟩:=A
 dsimp only at PC DC e10 AT2 ⊢
 go_enter Tryz.func28,Tryz.ntmps28
 go_upto_region 1 with fail
 obtain⟨y,hy⟩:∃y,w.heap.size=y:=⟨_,rfl⟩
 rw[hy]
 refine cutWl (fun wn=>Fr wn [(y,#[.int .u8 (k:Nat),.int .i64 n,.slice ba bl bc,.int .u8 (k2:Nat),.int .i64 n2,.int .u8 (c2:Nat),.int .u8 (u:Nat),.bool dn,.slice fa fl fc],36),(x,#[.pointer (some ⟨d,0,none⟩),.pointer (some ⟨p,0,none⟩),.slice R.a S.D.s.length R.c,.bool S.D.off,.int .i64 S.D.calls,.int .i64 S.D.after,.bool S.D.done,.int .i64 (S.r.ring:Nat),.int .i64 (S.nsize:Nat),.slice R.na S.nwords.length R.nc,.int .i64 (S.r.size:Nat),.slice R.ca S.r.words.length R.cc,.slice R.ba S.r.body.length R.bc,.int .i64 (S.r.gen:Nat),.int .i64 (S.r.slot:Nat),.bool S.bad,.bool true],112)]∧Same w wn) ⟨⟨Blk.new' _ _ _ hy.symm,BX.out.alloc _,trivial⟩,(Kept.refl _ _).alloc _⟩ ?_
 rintro w1 ⟨hf1,k1⟩
 have F1:=qh hf1
 have K1:=qh k1
 have HY:=qh hy
 have YF:=qh (show¬FS p d bs m y from fun q=>by have h1:=LF.out _ q;omega)
 clear hf1 k1 hy BX
 obtain⟨p0,f0,p1,f1, -⟩:=F1.out.rules
 have QX:=qh (fun w' (k':Same w1 w')=>(⟨cell_blk (F1.out.1.kept k' (fun h=>h)),cell_blk (F1.out.2.1.kept k' (fun h=>h)),trivial,trivial⟩:(∀i,w'.cell? ⟨y,i,none⟩=(#[.int .u8 (k:Nat),.int .i64 n,.slice ba bl bc,.int .u8 (k2:Nat),.int .i64 n2,.int .u8 (c2:Nat),.int .u8 (u:Nat),.bool dn,.slice fa fl fc]:Array Value)[i]?)∧(∀i,w'.cell? ⟨x,i,none⟩=(#[.pointer (some ⟨d,0,none⟩),.pointer (some ⟨p,0,none⟩),.slice R.a S.D.s.length R.c,.bool S.D.off,.int .i64 S.D.calls,.int .i64 S.D.after,.bool S.D.done,.int .i64 (S.r.ring:Nat),.int .i64 (S.nsize:Nat),.slice R.na S.nwords.length R.nc,.int .i64 (S.r.size:Nat),.slice R.ca S.r.words.length R.cc,.slice R.ba S.r.body.length R.bc,.int .i64 (S.r.gen:Nat),.int .i64 (S.r.slot:Nat),.bool S.bad,.bool true]:Array Value)[i]?)∧True∧True))
 go_wp2_with fail
 refine wp_region_T (S:=fun w'=>Same w1 w') 8 (by kernel_rfl) (Kept.refl _ _).drew (fun hHeld hDn=>?_)
 refine wpT_z 0 100 QX hHeld hDn fun hDn=>?_
 refine wpT_z 1 101 QX hHeld hDn fun hDn=>?_
 refine wpT_z 2 102 QX hHeld hDn fun hDn=>?_
 refine wpT_z 3 103 QX hHeld hDn fun hDn=>?_
 refine wpT_z 4 104 QX hHeld hDn fun hDn=>?_
 refine wpT_z 5 105 QX hHeld hDn fun hDn=>?_
 refine wpT_z 6 106 QX hHeld hDn fun hDn=>?_
 refine wpT_z 7 107 QX hHeld hDn fun hDn=>?_
 refine wpT_last rfl (by kernel_rfl) hDn (fun K' hK=>?_)
 go_simp
 refine(PC.out _ (K1.out.trans (Kept.refl _ _).drew)).mono ?_
 rintro e w2 ⟨rfl,hst2,k2'⟩
 have K12:=qh (show Kept (FS p d bs m) w1 w2 from(((Kept.refl _ _).drew).trans k2'))
 have ST2:=qh hst2
 refine hK.out _ _ (fun hDn'=>?_)
 clear hK K' hDn hHeld k2' hst2 PC QX p0 f0 p1 f1
 have hDn:=hDn';clear hDn'
 refine wpT_ze 9 7 hDn fun hDn=>?_
 refine wpT_done (by kernel_rfl) ?_ _
 clear hDn
 have F2:=qh (show Fr w2 [(y,#[.int .u8 (k:Nat),.int .i64 n,.slice ba bl bc,.int .u8 (k2:Nat),.int .i64 n2,.int .u8 (c2:Nat),.int .u8 (u:Nat),.bool dn,.slice fa fl fc],36),(x,#[.pointer (some ⟨d,0,none⟩),.pointer (some ⟨p,0,none⟩),.slice R.a S.D.s.length R.c,.bool S.D.off,.int .i64 S.D.calls,.int .i64 S.D.after,.bool S.D.done,.int .i64 (S.r.ring:Nat),.int .i64 (S.nsize:Nat),.slice R.na S.nwords.length R.nc,.int .i64 (S.r.size:Nat),.slice R.ca S.r.words.length R.cc,.slice R.ba S.r.body.length R.bc,.int .i64 (S.r.gen:Nat),.int .i64 (S.r.slot:Nat),.bool S.bad,.bool true],112)]from⟨F1.out.1.kept K12.out YF.out,F1.out.2.1.kept K12.out XF.out,trivial⟩)
 have RS2:=qh ((HRS.out.same K1.out).kept K12.out (fun j q=>.inr q))
 have QX:=qh (fun w' (k':Same w2 w')=>(⟨cell_blk (F2.out.1.kept k' (fun h=>h)),cell_blk (F2.out.2.1.kept k' (fun h=>h)),trivial,trivial⟩:(∀i,w'.cell? ⟨y,i,none⟩=(#[.int .u8 (k:Nat),.int .i64 n,.slice ba bl bc,.int .u8 (k2:Nat),.int .i64 n2,.int .u8 (c2:Nat),.int .u8 (u:Nat),.bool dn,.slice fa fl fc]:Array Value)[i]?)∧(∀i,w'.cell? ⟨x,i,none⟩=(#[.pointer (some ⟨d,0,none⟩),.pointer (some ⟨p,0,none⟩),.slice R.a S.D.s.length R.c,.bool S.D.off,.int .i64 S.D.calls,.int .i64 S.D.after,.bool S.D.done,.int .i64 (S.r.ring:Nat),.int .i64 (S.nsize:Nat),.slice R.na S.nwords.length R.nc,.int .i64 (S.r.size:Nat),.slice R.ca S.r.words.length R.cc,.slice R.ba S.r.body.length R.bc,.int .i64 (S.r.gen:Nat),.int .i64 (S.r.slot:Nat),.bool S.bad,.bool true]:Array Value)[i]?)∧True∧True))
 have AT3:=qh (AT2.out w2 ((K1.out.mono (fun _ _ q=>q.elim)).trans K12.out))
 have DC2:=qh (fun w' (k':Same w2 w')=>DC.out w' (RS2.out.same k') (AT3.out.same k'))
 obtain⟨p0,f0,p1,f1, -⟩:=F2.out.rules
 clear DC
 go_wp2_with fail
 refine wp_region_T (S:=fun w'=>Same w2 w') 15 (by kernel_rfl) (Kept.refl _ _).drew (fun hHeld hDn=>?_)
 refine wpT_z 0 110 QX hHeld hDn fun hDn=>?_
 refine wpT_z 1 111 QX hHeld hDn fun hDn=>?_
 refine wpT_z 2 112 QX hHeld hDn fun hDn=>?_
 refine wpT_z 3 113 QX hHeld hDn fun hDn=>?_
 refine wpT_z 4 114 QX hHeld hDn fun hDn=>?_
 refine wpT_z 5 115 QX hHeld hDn fun hDn=>?_
 refine wpT_z 6 116 QX hHeld hDn fun hDn=>?_
 refine wpT_z 7 117 QX hHeld hDn fun hDn=>?_
 refine wpT_z 8 118 QX hHeld hDn fun hDn=>?_
 refine wpT_one (i:=9) rfl (by kernel_rfl) hDn (fun K' hK=>?_)
 go_simp
 refine(DC2.out _ (Kept.refl _ _).drew).mono ?_
 rintro e w3 ⟨R2,rfl,hr3,k3⟩
 have K23:=qh (show Same w2 w3 from((Kept.refl _ _).drew).trans k3)
 have HR3:=qh hr3
 refine hK.out _ _ K23.out (fun hHeld2 hDn2=>?_)
 clear hK K' hHeld hDn
 have hHeld:=hHeld2;have hDn:=hDn2
 clear hHeld2 hDn2
 clear k3 hr3 DC2 QX p0 f0 p1 f1
 have F3:=qh (F2.out.same K23.out)
 obtain⟨p0,f0,p1,f1, -⟩:=F3.out.rules
 have z0:=F3.out.1.lt
 have z1:=F3.out.2.1.lt
 refine wpT_zw 10 109 hHeld hDn fun hDn=>?_
 refine wpT_zw 11 120 hHeld hDn fun hDn=>?_
 refine wpT_zw 12 121 hHeld hDn fun hDn=>?_
 refine wpT_zw 13 122 hHeld hDn fun hDn=>?_
 refine wpT_zw 14 123 hHeld hDn fun hDn=>?_
 refine wpT_last rfl (by kernel_rfl) hDn (fun K hK=>?_)
 go_simp
 refine hK.out _ _ (fun hDn'=>?_)
 clear hK K hDn hHeld;have hDn:=hDn';clear hDn'
 refine wpT_ze 16 8 hDn fun hDn=>?_
 refine wpT_done (by kernel_rfl) ?_ _
 clear hDn p0 f0 p1 f1 z0 z1
 have BX:=qh (show Blk w3 x #[.pointer (some ⟨d,0,none⟩),.pointer (some ⟨p,0,none⟩),.slice R.a S.D.s.length R.c,.bool S.D.off,.int .i64 S.D.calls,.int .i64 S.D.after,.bool S.D.done,.int .i64 (S.r.ring:Nat),.int .i64 (S.nsize:Nat),.slice R.na S.nwords.length R.nc,.int .i64 (S.r.size:Nat),.slice R.ca S.r.words.length R.cc,.slice R.ba S.r.body.length R.bc,.int .i64 (S.r.gen:Nat),.int .i64 (S.r.slot:Nat),.bool S.bad,.bool true] 112 from F3.out.2.1)
 go_upto_region 30 with fail
 refine cutWl (fun wn=>Blk wn x #[.pointer (some ⟨d,0,none⟩),.pointer (some ⟨p,0,none⟩),.slice R2.a S2.D.s.length R2.c,.bool S2.D.off,.int .i64 S2.D.calls,.int .i64 S2.D.after,.bool S2.D.done,.int .i64 (S2.r.ring:Nat),.int .i64 (S2.nsize:Nat),.slice R2.na S2.nwords.length R2.nc,.int .i64 (S2.r.size:Nat),.slice R2.ca S2.r.words.length R2.cc,.slice R2.ba S2.r.body.length R2.bc,.int .i64 (S2.r.gen:Nat),.int .i64 (S2.r.slot:Nat),.bool S2.bad,.bool true] 112∧Kept (fun j=>j=x) w3 wn) ⟨by first|with_reducible exact(Blk.setWR BX.out).drew|with_reducible exact Blk.setWR BX.out,by repeat(with_reducible first|exact Kept.refl _ _|refine Kept.setG ?_ _ _|refine Kept.drew ?_)⟩ ?_
 rintro w4 ⟨bx4,k4⟩
 have W4:=qh (show W7 nb w4 x d bs m N S2.D (some ⟨p,0,none⟩) R2.a R2.c (rzOf S2 R2) true from W7.fin H.out.1 H.out.2.1 H.out.2.2.1 H.out.2.2.2 BX.out (w7C_not d (some ⟨p,0,none⟩) R.a S.D.s.length R.c S.D (rzOf S R) true) k4 bx4 (ST2.out.same K23.out) HR3.out OK2.out)
 have KA:=qh (show Kept (fun j=>nb≤j) w w4 from((K1.out.mono (fun _ _ q=>q.elim)).trans (K12.out.mono (fun j _ q=>NBF.out j q))).trans ((K23.out.mono (fun _ _ q=>q.elim)).trans (k4.mono (fun j _ q=>by have:=H.out.1;omega))))
 clear bx4 k4
 go_wp2_with fail
 go_ret
 exact⟨rfl,⟨_,_,_,_,_,_,W4.out⟩,KA.out⟩
end
section
open Go.RowKit Go.Sort Go.Shelf
theorem w7_commit{nb:Nat}{w:World}{x d bs m N:Nat}{D:Dsk}{sp a:Option Addr}{c:Nat}{z:RZ}(h:W7 nb w x d bs m N D sp a c z true)(A:A7)(ha:A.ok w nb)(hk:A.k % 10=6):
 Calls Tryz.prog 28 #[.pointer (some ⟨x,0,none⟩),A.v] w (W7P nb w x d bs m N):=by
 obtain⟨S,p,R,rfl,rfl,hp,hpx,hst,hrs,rfl,rfl,rfl,hok⟩:=h.st rfl
 have H:=qh (show(nb≤x∧nb≤d∧nb≤bs∧nb≤m)∧¬dod d bs m x∧nb≤p∧p≠x from⟨h.lo,h.xd,hp,hpx⟩)
 have HST:=qh hst
 have HRS:=qh hrs
 have HOK:=qh hok
 have HA:=qh ha
 have LT:=qh (show x<w.heap.size from h.box.lt)
 have LF:=qh (show∀g,FS p d bs m g→g<w.heap.size from hst.ltF)
 have NBF:=qh (show∀j,FS p d bs m j→nb≤j from fun j q=>by have h1:=h.lo;rcases q with q|q|q|q<;>omega)
 have XF:=qh (show¬FS p d bs m x from fun q=>by rcases q with q|q;exact hpx q.symm;exact h.xd q)
 have BX:=qh (show Blk w x #[.pointer (some ⟨d,0,none⟩),.pointer (some ⟨p,0,none⟩),.slice R.a S.D.s.length R.c,.bool S.D.off,.int .i64 S.D.calls,.int .i64 S.D.after,.bool S.D.done,.int .i64 (S.r.ring:Nat),.int .i64 (S.nsize:Nat),.slice R.na S.nwords.length R.nc,.int .i64 (S.r.size:Nat),.slice R.ca S.r.words.length R.cc,.slice R.ba S.r.body.length R.bc,.int .i64 (S.r.gen:Nat),.int .i64 (S.r.slot:Nat),.bool S.bad,.bool true] 112 from h.box)
 have e10:(A.k:Int) % 10=6:=by omega
 clear h hp hpx hst hrs hok ha
 obtain⟨cap,hd⟩:=HST.out.disk
 have OKD:=qh hd.ok
 have BND:=qh (show S.nsize≤512∧S.nwords.length≤8 from by obtain⟨_,_,_,_,_,_,_,_,_,_,_,_,_,h7,h8,_⟩:=HST.out;exact⟨h7,h8⟩)
 have APT:=qh (show A.bs=[]∨Apt A.ba (FS p d bs m)from HA.out.blo.imp_right (fun h y hy q=>by have h1:=h y hy;have h2:=NBF.out _ q;omega))
 have PC:=qh (fun w' (k':Same w w')=>st_Commit (HST.out.same k') HOK.out.fit A.ba A.bl A.bc A.bs HA.out.bl_ HA.out.bb HA.out.bc_ (HA.out.at_.same k') APT.out)
 have DC:=qh (fun w' (hr:RSp w' S R (fun j=>j=x∨FS p d bs m j)) (hat:NatsAt w' .u8 A.ba A.bs)=>rt_commit S R (fun j=>j=x∨FS p d bs m j) OKD.out HOK.out.slot HOK.out.fit.gen HOK.out.ne.1 HOK.out.ne.2.1 HOK.out.ne.2.2 A.ba A.bl A.bc A.bs HA.out.bl_ HA.out.bb HA.out.bn (by have:=HOK.out.ring;omega) (by have:=BND.out.1;omega) HOK.out.fit.nw BND.out.2 w' hr hat)
 have OK2:=qh (HOK.out.commit A.bs)
 have AT2:=qh (fun(w2:World) (k12:Kept (FS p d bs m) w w2)=>(HA.out.at_).kept' k12 (HA.out.blo.imp_right (fun h y hy q=>by have h1:=h y hy;have h2:=NBF.out _ q;omega)))
 obtain⟨q,hq⟩:∃q,S.commit A.bs=q:=⟨_,rfl⟩
 rw[hq]at PC DC OK2
 obtain⟨S2,er⟩:=q
 dsimp only at PC DC OK2
 unfold StPost at PC
 unfold RtP at DC
 unfold rsV rsC at DC
 clear hk hq hd APT
 unfold A7.v
 obtain⟨k,n,ba,bl,bc,bbs,k2,n2,c2,u,dn,fa,fl,fc,fs⟩:=A
 dsimp only at PC DC e10 AT2 ⊢
 go_enter Tryz.func28,Tryz.ntmps28
 go_upto_region 1 with fail
 obtain⟨y,hy⟩:∃y,w.heap.size=y:=⟨_,rfl⟩
 rw[hy]
 refine cutWl (fun wn=>Fr wn [(y,#[.int .u8 (k:Nat),.int .i64 n,.slice ba bl bc,.int .u8 (k2:Nat),.int .i64 n2,.int .u8 (c2:Nat),.int .u8 (u:Nat),.bool dn,.slice fa fl fc],36),(x,#[.pointer (some ⟨d,0,none⟩),.pointer (some ⟨p,0,none⟩),.slice R.a S.D.s.length R.c,.bool S.D.off,.int .i64 S.D.calls,.int .i64 S.D.after,.bool S.D.done,.int .i64 (S.r.ring:Nat),.int .i64 (S.nsize:Nat),.slice R.na S.nwords.length R.nc,.int .i64 (S.r.size:Nat),.slice R.ca S.r.words.length R.cc,.slice R.ba S.r.body.length R.bc,.int .i64 (S.r.gen:Nat),.int .i64 (S.r.slot:Nat),.bool S.bad,.bool true],112)]∧Same w wn) ⟨⟨Blk.new' _ _ _ hy.symm,BX.out.alloc _,trivial⟩,(Kept.refl _ _).alloc _⟩ ?_
 rintro w1 ⟨hf1,k1⟩
 have F1:=qh hf1
 have K1:=qh k1
 have HY:=qh hy
 have YF:=qh (show¬FS p d bs m y from fun q=>by have h1:=LF.out _ q;omega)
 clear hf1 k1 hy BX
 obtain⟨p0,f0,p1,f1, -⟩:=F1.out.rules
 have QX:=qh (fun w' (k':Same w1 w')=>(⟨cell_blk (F1.out.1.kept k' (fun h=>h)),cell_blk (F1.out.2.1.kept k' (fun h=>h)),trivial,trivial⟩:(∀i,w'.cell? ⟨y,i,none⟩=(#[.int .u8 (k:Nat),.int .i64 n,.slice ba bl bc,.int .u8 (k2:Nat),.int .i64 n2,.int .u8 (c2:Nat),.int .u8 (u:Nat),.bool dn,.slice fa fl fc]:Array Value)[i]?)∧(∀i,w'.cell? ⟨x,i,none⟩=(#[.pointer (some ⟨d,0,none⟩),.pointer (some ⟨p,0,none⟩),.slice R.a S.D.s.length R.c,.bool S.D.off,.int .i64 S.D.calls,.int .i64 S.D.after,.bool S.D.done,.int .i64 (S.r.ring:Nat),.int .i64 (S.nsize:Nat),.slice R.na S.nwords.length R.nc,.int .i64 (S.r.size:Nat),.slice R.ca S.r.words.length R.cc,.slice R.ba S.r.body.length R.bc,.int .i64 (S.r.gen:Nat),.int .i64 (S.r.slot:Nat),.bool S.bad,.bool true]:Array Value)[i]?)∧True∧True))
 go_wp2_with fail
 refine wp_region_T (S:=fun w'=>Same w1 w') 6 (by kernel_rfl) (Kept.refl _ _).drew (fun hHeld hDn=>?_)
 refine wpT_z 0 148 QX hHeld hDn fun hDn=>?_
 refine wpT_z 1 149 QX hHeld hDn fun hDn=>?_
 refine wpT_z 2 150 QX hHeld hDn fun hDn=>?_
 refine wpT_z 3 151 QX hHeld hDn fun hDn=>?_
 refine wpT_z 4 152 QX hHeld hDn fun hDn=>?_
 refine wpT_z 5 153 QX hHeld hDn fun hDn=>?_
 refine wpT_last rfl (by kernel_rfl) hDn (fun K' hK=>?_)
 go_simp
 refine(PC.out _ (K1.out.trans (Kept.refl _ _).drew)).mono ?_
 rintro e w2 ⟨rfl,hst2,k2'⟩
 have K12:=qh (show Kept (FS p d bs m) w1 w2 from(((Kept.refl _ _).drew).trans k2'))
 have ST2:=qh hst2
 refine hK.out _ _ (fun hDn'=>?_)
 clear hK K' hDn hHeld k2' hst2 PC QX p0 f0 p1 f1
 have hDn:=hDn';clear hDn'
 refine wpT_ze 7 7 hDn fun hDn=>?_
 refine wpT_done (by kernel_rfl) ?_ _
 clear hDn
 have F2:=qh (show Fr w2 [(y,#[.int .u8 (k:Nat),.int .i64 n,.slice ba bl bc,.int .u8 (k2:Nat),.int .i64 n2,.int .u8 (c2:Nat),.int .u8 (u:Nat),.bool dn,.slice fa fl fc],36),(x,#[.pointer (some ⟨d,0,none⟩),.pointer (some ⟨p,0,none⟩),.slice R.a S.D.s.length R.c,.bool S.D.off,.int .i64 S.D.calls,.int .i64 S.D.after,.bool S.D.done,.int .i64 (S.r.ring:Nat),.int .i64 (S.nsize:Nat),.slice R.na S.nwords.length R.nc,.int .i64 (S.r.size:Nat),.slice R.ca S.r.words.length R.cc,.slice R.ba S.r.body.length R.bc,.int .i64 (S.r.gen:Nat),.int .i64 (S.r.slot:Nat),.bool S.bad,.bool true],112)]from⟨F1.out.1.kept K12.out YF.out,F1.out.2.1.kept K12.out XF.out,trivial⟩)
 have RS2:=qh ((HRS.out.same K1.out).kept K12.out (fun j q=>.inr q))
 have QX:=qh (fun w' (k':Same w2 w')=>(⟨cell_blk (F2.out.1.kept k' (fun h=>h)),cell_blk (F2.out.2.1.kept k' (fun h=>h)),trivial,trivial⟩:(∀i,w'.cell? ⟨y,i,none⟩=(#[.int .u8 (k:Nat),.int .i64 n,.slice ba bl bc,.int .u8 (k2:Nat),.int .i64 n2,.int .u8 (c2:Nat),.int .u8 (u:Nat),.bool dn,.slice fa fl fc]:Array Value)[i]?)∧(∀i,w'.cell? ⟨x,i,none⟩=(#[.pointer (some ⟨d,0,none⟩),.pointer (some ⟨p,0,none⟩),.slice R.a S.D.s.length R.c,.bool S.D.off,.int .i64 S.D.calls,.int .i64 S.D.after,.bool S.D.done,.int .i64 (S.r.ring:Nat),.int .i64 (S.nsize:Nat),.slice R.na S.nwords.length R.nc,.int .i64 (S.r.size:Nat),.slice R.ca S.r.words.length R.cc,.slice R.ba S.r.body.length R.bc,.int .i64 (S.r.gen:Nat),.int .i64 (S.r.slot:Nat),.bool S.bad,.bool true]:Array Value)[i]?)∧True∧True))
 have AT3:=qh (AT2.out w2 ((K1.out.mono (fun _ _ q=>q.elim)).trans K12.out))
 have DC2:=qh (fun w' (k':Same w2 w')=>DC.out w' (RS2.out.same k') (AT3.out.same k'))
 obtain⟨p0,f0,p1,f1, -⟩:=F2.out.rules
 clear DC
 go_wp2_with fail
 refine wp_region_T (S:=fun w'=>Same w2 w') 13 (by kernel_rfl) (Kept.refl _ _).drew (fun hHeld hDn=>?_)
 refine wpT_z 0 156 QX hHeld hDn fun hDn=>?_
 refine wpT_z 1 157 QX hHeld hDn fun hDn=>?_
 refine wpT_z 2 158 QX hHeld hDn fun hDn=>?_
 refine wpT_z 3 159 QX hHeld hDn fun hDn=>?_
 refine wpT_z 4 160 QX hHeld hDn fun hDn=>?_
 refine wpT_z 5 161 QX hHeld hDn fun hDn=>?_
 refine wpT_z 6 162 QX hHeld hDn fun hDn=>?_
 refine wpT_one (i:=7) rfl (by kernel_rfl) hDn (fun K' hK=>?_)
 go_simp
 refine(DC2.out _ (Kept.refl _ _).drew).mono ?_
 rintro e w3 ⟨R2,rfl,hr3,k3⟩
 have K23:=qh (show Same w2 w3 from((Kept.refl _ _).drew).trans k3)
 have HR3:=qh hr3
 refine hK.out _ _ K23.out (fun hHeld2 hDn2=>?_)
 clear hK K' hHeld hDn
 have hHeld:=hHeld2;have hDn:=hDn2
 clear hHeld2 hDn2
 clear k3 hr3 DC2 QX p0 f0 p1 f1
 have F3:=qh (F2.out.same K23.out)
 obtain⟨p0,f0,p1,f1, -⟩:=F3.out.rules
 have z0:=F3.out.1.lt
 have z1:=F3.out.2.1.lt
 refine wpT_zw 8 155 hHeld hDn fun hDn=>?_
 refine wpT_zw 9 164 hHeld hDn fun hDn=>?_
 refine wpT_zw 10 165 hHeld hDn fun hDn=>?_
 refine wpT_zw 11 166 hHeld hDn fun hDn=>?_
 refine wpT_zw 12 167 hHeld hDn fun hDn=>?_
 refine wpT_last rfl (by kernel_rfl) hDn (fun K hK=>?_)
 go_simp
 refine hK.out _ _ (fun hDn'=>?_)
 clear hK K hDn hHeld;have hDn:=hDn';clear hDn'
 refine wpT_ze 14 8 hDn fun hDn=>?_
 refine wpT_done (by kernel_rfl) ?_ _
 clear hDn p0 f0 p1 f1 z0 z1
 have BX:=qh (show Blk w3 x #[.pointer (some ⟨d,0,none⟩),.pointer (some ⟨p,0,none⟩),.slice R.a S.D.s.length R.c,.bool S.D.off,.int .i64 S.D.calls,.int .i64 S.D.after,.bool S.D.done,.int .i64 (S.r.ring:Nat),.int .i64 (S.nsize:Nat),.slice R.na S.nwords.length R.nc,.int .i64 (S.r.size:Nat),.slice R.ca S.r.words.length R.cc,.slice R.ba S.r.body.length R.bc,.int .i64 (S.r.gen:Nat),.int .i64 (S.r.slot:Nat),.bool S.bad,.bool true] 112 from F3.out.2.1)
 go_upto_region 30 with fail
 refine cutWl (fun wn=>Blk wn x #[.pointer (some ⟨d,0,none⟩),.pointer (some ⟨p,0,none⟩),.slice R2.a S2.D.s.length R2.c,.bool S2.D.off,.int .i64 S2.D.calls,.int .i64 S2.D.after,.bool S2.D.done,.int .i64 (S2.r.ring:Nat),.int .i64 (S2.nsize:Nat),.slice R2.na S2.nwords.length R2.nc,.int .i64 (S2.r.size:Nat),.slice R2.ca S2.r.words.length R2.cc,.slice R2.ba S2.r.body.length R2.bc,.int .i64 (S2.r.gen:Nat),.int .i64 (S2.r.slot:Nat),.bool S2.bad,.bool true] 112∧Kept (fun j=>j=x) w3 wn) ⟨by first|with_reducible exact(Blk.setWR BX.out).drew|with_reducible exact Blk.setWR BX.out,by repeat(with_reducible first|exact Kept.refl _ _|refine Kept.setG ?_ _ _|refine Kept.drew ?_)⟩ ?_
 rintro w4 ⟨bx4,k4⟩
 have W4:=qh (show W7 nb w4 x d bs m N S2.D (some ⟨p,0,none⟩) R2.a R2.c (rzOf S2 R2) true from W7.fin H.out.1 H.out.2.1 H.out.2.2.1 H.out.2.2.2 BX.out (w7C_not d (some ⟨p,0,none⟩) R.a S.D.s.length R.c S.D (rzOf S R) true) k4 bx4 (ST2.out.same K23.out) HR3.out OK2.out)
 have KA:=qh (show Kept (fun j=>nb≤j) w w4 from((K1.out.mono (fun _ _ q=>q.elim)).trans (K12.out.mono (fun j _ q=>NBF.out j q))).trans ((K23.out.mono (fun _ _ q=>q.elim)).trans (k4.mono (fun j _ q=>by have:=H.out.1;omega))))
 clear bx4 k4
 go_wp2_with fail
 go_ret
 exact⟨rfl,⟨_,_,_,_,_,_,W4.out⟩,KA.out⟩
end
section
open Go.RowKit Go.Sort Go.Shelf
theorem w7_forget{nb:Nat}{w:World}{x d bs m N:Nat}{D:Dsk}{sp a:Option Addr}{c:Nat}{z:RZ}(h:W7 nb w x d bs m N D sp a c z true)(A:A7)(ha:A.ok w nb)(hk:A.k % 10=7):
 Calls Tryz.prog 28 #[.pointer (some ⟨x,0,none⟩),A.v] w (W7P nb w x d bs m N):=by
 obtain⟨S,p,R,rfl,rfl,hp,hpx,hst,hrs,rfl,rfl,rfl,hok⟩:=h.st rfl
 have H:=qh (show(nb≤x∧nb≤d∧nb≤bs∧nb≤m)∧¬dod d bs m x∧nb≤p∧p≠x from⟨h.lo,h.xd,hp,hpx⟩)
 have HST:=qh hst
 have HRS:=qh hrs
 have HOK:=qh hok
 have HA:=qh ha
 have LT:=qh (show x<w.heap.size from h.box.lt)
 have LF:=qh (show∀g,FS p d bs m g→g<w.heap.size from hst.ltF)
 have NBF:=qh (show∀j,FS p d bs m j→nb≤j from fun j q=>by have h1:=h.lo;rcases q with q|q|q|q<;>omega)
 have XF:=qh (show¬FS p d bs m x from fun q=>by rcases q with q|q;exact hpx q.symm;exact h.xd q)
 have BX:=qh (show Blk w x #[.pointer (some ⟨d,0,none⟩),.pointer (some ⟨p,0,none⟩),.slice R.a S.D.s.length R.c,.bool S.D.off,.int .i64 S.D.calls,.int .i64 S.D.after,.bool S.D.done,.int .i64 (S.r.ring:Nat),.int .i64 (S.nsize:Nat),.slice R.na S.nwords.length R.nc,.int .i64 (S.r.size:Nat),.slice R.ca S.r.words.length R.cc,.slice R.ba S.r.body.length R.bc,.int .i64 (S.r.gen:Nat),.int .i64 (S.r.slot:Nat),.bool S.bad,.bool true] 112 from h.box)
 have e10:(A.k:Int) % 10=7:=by omega
 clear h hp hpx hst hrs hok ha
 have PC:=qh (fun w' (k':Same w w')=>st_Forget (HST.out.same k'))
 have DC:=qh (fun w' (hr:RSp w' S R (fun j=>j=x∨FS p d bs m j))=>rt_forget S R (fun j=>j=x∨FS p d bs m j) w' hr)
 have OK2:=qh HOK.out.forget
 obtain⟨q,hq⟩:∃q,S.forget=q:=⟨_,rfl⟩
 rw[hq]at PC DC OK2
 obtain⟨S2,er⟩:=q
 dsimp only at PC DC OK2
 unfold RtP at DC
 simp only[rsV,rsC]at DC
 clear hk hq
 unfold A7.v
 obtain⟨k,n,ba,bl,bc,bbs,k2,n2,c2,u,dn,fa,fl,fc,fs⟩:=A
 dsimp only at e10 ⊢
 go_enter Tryz.func28,Tryz.ntmps28
 go_upto_region 1 with fail
 obtain⟨y,hy⟩:∃y,w.heap.size=y:=⟨_,rfl⟩
 rw[hy]
 refine cutWl (fun wn=>Fr wn [(y,#[.int .u8 (k:Nat),.int .i64 n,.slice ba bl bc,.int .u8 (k2:Nat),.int .i64 n2,.int .u8 (c2:Nat),.int .u8 (u:Nat),.bool dn,.slice fa fl fc],36),(x,#[.pointer (some ⟨d,0,none⟩),.pointer (some ⟨p,0,none⟩),.slice R.a S.D.s.length R.c,.bool S.D.off,.int .i64 S.D.calls,.int .i64 S.D.after,.bool S.D.done,.int .i64 (S.r.ring:Nat),.int .i64 (S.nsize:Nat),.slice R.na S.nwords.length R.nc,.int .i64 (S.r.size:Nat),.slice R.ca S.r.words.length R.cc,.slice R.ba S.r.body.length R.bc,.int .i64 (S.r.gen:Nat),.int .i64 (S.r.slot:Nat),.bool S.bad,.bool true],112)]∧Same w wn) ⟨⟨Blk.new' _ _ _ hy.symm,BX.out.alloc _,trivial⟩,(Kept.refl _ _).alloc _⟩ ?_
 rintro w1 ⟨hf1,k1⟩
 have F1:=qh hf1
 have K1:=qh k1
 have HY:=qh hy
 have YF:=qh (show¬FS p d bs m y from fun q=>by have h1:=LF.out _ q;omega)
 clear hf1 k1 hy BX
 obtain⟨p0,f0,p1,f1, -⟩:=F1.out.rules
 go_wp2_with fail
 with_reducible refine(PC.out w1 K1.out).mono ?_
 rintro e w2 ⟨rfl,hst2,k2'⟩
 have K12:=qh (show Kept (FS p d bs m) w1 w2 from k2'.mono (fun j _ q=>.inl q))
 have ST2:=qh hst2
 clear k2' hst2 PC p0 f0 p1 f1
 have F2:=qh (show Fr w2 [(y,#[.int .u8 (k:Nat),.int .i64 n,.slice ba bl bc,.int .u8 (k2:Nat),.int .i64 n2,.int .u8 (c2:Nat),.int .u8 (u:Nat),.bool dn,.slice fa fl fc],36),(x,#[.pointer (some ⟨d,0,none⟩),.pointer (some ⟨p,0,none⟩),.slice R.a S.D.s.length R.c,.bool S.D.off,.int .i64 S.D.calls,.int .i64 S.D.after,.bool S.D.done,.int .i64 (S.r.ring:Nat),.int .i64 (S.nsize:Nat),.slice R.na S.nwords.length R.nc,.int .i64 (S.r.size:Nat),.slice R.ca S.r.words.length R.cc,.slice R.ba S.r.body.length R.bc,.int .i64 (S.r.gen:Nat),.int .i64 (S.r.slot:Nat),.bool S.bad,.bool true],112)]from⟨F1.out.1.kept K12.out YF.out,F1.out.2.1.kept K12.out XF.out,trivial⟩)
 have RS2:=qh ((HRS.out.same K1.out).kept K12.out (fun j q=>.inr q))
 have DC2:=qh (DC.out w2 RS2.out)
 obtain⟨p0,f0,p1,f1, -⟩:=F2.out.rules
 clear DC
 go_wp2_with fail
 with_reducible refine DC2.out.mono ?_
 rintro e w3 ⟨R2,rfl,hr3,k3⟩
 have K23:=qh k3
 have HR3:=qh hr3
 have F3:=qh (F2.out.same k3)
 clear k3 hr3 DC2 p0 f0 p1 f1
 obtain⟨p0,f0,p1,f1, -⟩:=F3.out.rules
 have z0:=F3.out.1.lt
 have z1:=F3.out.2.1.lt
 have BX:=qh (show Blk w3 x #[.pointer (some ⟨d,0,none⟩),.pointer (some ⟨p,0,none⟩),.slice R.a S.D.s.length R.c,.bool S.D.off,.int .i64 S.D.calls,.int .i64 S.D.after,.bool S.D.done,.int .i64 (S.r.ring:Nat),.int .i64 (S.nsize:Nat),.slice R.na S.nwords.length R.nc,.int .i64 (S.r.size:Nat),.slice R.ca S.r.words.length R.cc,.slice R.ba S.r.body.length R.bc,.int .i64 (S.r.gen:Nat),.int .i64 (S.r.slot:Nat),.bool S.bad,.bool true] 112 from F3.out.2.1)
 go_upto_region 30 with fail
 refine cutWl (fun wn=>Blk wn x #[.pointer (some ⟨d,0,none⟩),.pointer (some ⟨p,0,none⟩),.slice R2.a S2.D.s.length R2.c,.bool S2.D.off,.int .i64 S2.D.calls,.int .i64 S2.D.after,.bool S2.D.done,.int .i64 (S2.r.ring:Nat),.int .i64 (S2.nsize:Nat),.slice R2.na S2.nwords.length R2.nc,.int .i64 (S2.r.size:Nat),.slice R2.ca S2.r.words.length R2.cc,.slice R2.ba S2.r.body.length R2.bc,.int .i64 (S2.r.gen:Nat),.int .i64 (S2.r.slot:Nat),.bool S2.bad,.bool true] 112∧Kept (fun j=>j=x) w3 wn) ⟨by first|with_reducible exact(Blk.setWR BX.out).drew|with_reducible exact Blk.setWR BX.out,by repeat(with_reducible first|exact Kept.refl _ _|refine Kept.setG ?_ _ _|refine Kept.drew ?_)⟩ ?_
 rintro w4 ⟨bx4,k4⟩
 have W4:=qh (show W7 nb w4 x d bs m N S2.D (some ⟨p,0,none⟩) R2.a R2.c (rzOf S2 R2) true from W7.fin H.out.1 H.out.2.1 H.out.2.2.1 H.out.2.2.2 BX.out (w7C_not d (some ⟨p,0,none⟩) R.a S.D.s.length R.c S.D (rzOf S R) true) k4 bx4 (ST2.out.same K23.out) HR3.out OK2.out)
 have KA:=qh (show Kept (fun j=>nb≤j) w w4 from((K1.out.mono (fun _ _ q=>q.elim)).trans (K12.out.mono (fun j _ q=>NBF.out j q))).trans ((K23.out.mono (fun _ _ q=>q.elim)).trans (k4.mono (fun j _ q=>by have:=H.out.1;omega))))
 clear bx4 k4
 go_wp2_with fail
 go_ret
 exact⟨rfl,⟨_,_,_,_,_,_,W4.out⟩,KA.out⟩
theorem w7_alloc{nb:Nat}{w:World}{x d bs m N:Nat}{D:Dsk}{sp a:Option Addr}{c:Nat}{z:RZ}(h:W7 nb w x d bs m N D sp a c z true)(A:A7)(ha:A.ok w nb)(hT:TabOK w)(hk:A.k % 10<3):
 Calls Tryz.prog 28 #[.pointer (some ⟨x,0,none⟩),A.v] w (W7P nb w x d bs m N):=by
 obtain⟨kk,hkk⟩:∃kk,A.k % 10=kk:=⟨_,rfl⟩
 rw[hkk]at hk
 obtain⟨S,p,R,rfl,rfl,hp,hpx,hst,hrs,rfl,rfl,rfl,hok⟩:=h.st rfl
 have H:=qh (show(nb≤x∧nb≤d∧nb≤bs∧nb≤m)∧¬dod d bs m x∧nb≤p∧p≠x from⟨h.lo,h.xd,hp,hpx⟩)
 have HST:=qh hst
 have HRS:=qh hrs
 have HOK:=qh hok
 have HA:=qh ha
 have LT:=qh (show x<w.heap.size from h.box.lt)
 have LF:=qh (show∀g,FS p d bs m g→g<w.heap.size from hst.ltF)
 have NBF:=qh (show∀j,FS p d bs m j→nb≤j from fun j q=>by have h1:=h.lo;rcases q with q|q|q|q<;>omega)
 have XF:=qh (show¬FS p d bs m x from fun q=>by rcases q with q|q;exact hpx q.symm;exact h.xd q)
 have BX:=qh (show Blk w x #[.pointer (some ⟨d,0,none⟩),.pointer (some ⟨p,0,none⟩),.slice R.a S.D.s.length R.c,.bool S.D.off,.int .i64 S.D.calls,.int .i64 S.D.after,.bool S.D.done,.int .i64 (S.r.ring:Nat),.int .i64 (S.nsize:Nat),.slice R.na S.nwords.length R.nc,.int .i64 (S.r.size:Nat),.slice R.ca S.r.words.length R.cc,.slice R.ba S.r.body.length R.bc,.int .i64 (S.r.gen:Nat),.int .i64 (S.r.slot:Nat),.bool S.bad,.bool true] 112 from h.box)
 have e10:(A.k:Int) % 10=(kk:Nat):=by omega
 clear h hp hpx hst hrs hok ha
 have BND:=qh (show S.nsize≤512 from by obtain⟨_,_,_,_,_,_,_,_,_,_,_,_,_,h7,_⟩:=HST.out;exact h7)
 have PC:=qh (fun w' (k':Same w w')=>st_Alloc (HST.out.same k') HOK.out.fit (hT.kept k' (fun h=>h)))
 have DC:=qh (fun w' (hr:RSp w' S R (fun j=>j=x∨FS p d bs m j))=>rt_alloc S R (fun j=>j=x∨FS p d bs m j) HOK.out.fit BND.out w' hr)
 have OK2:=qh HOK.out.alloc
 have g9:(((kk:Nat):Int)==9)=false:=by simp;omega
 have g8:(((kk:Nat):Int)==8)=false:=by simp;omega
 have g3:(((kk:Nat):Int)==3)=false:=by simp;omega
 have g4:(((kk:Nat):Int)==4)=false:=by simp;omega
 have g5:(((kk:Nat):Int)==5)=false:=by simp;omega
 have g6:(((kk:Nat):Int)==6)=false:=by simp;omega
 have g7:(((kk:Nat):Int)==7)=false:=by simp;omega
 obtain⟨q,hq⟩:∃q,S.alloc=q:=⟨_,rfl⟩
 rw[hq]at PC DC OK2
 obtain⟨S2,n9,er⟩:=q
 dsimp only at PC DC OK2
 unfold StPost at PC
 unfold RtA at DC
 simp only[rsV,rsC]at DC
 clear hk hq hkk hT
 unfold A7.v
 obtain⟨k,n,ba,bl,bc,bbs,k2,n2,c2,u,dn,fa,fl,fc,fs⟩:=A
 dsimp only at e10 ⊢
 go_enter Tryz.func28,Tryz.ntmps28
 go_upto_region 1 with fail
 obtain⟨y,hy⟩:∃y,w.heap.size=y:=⟨_,rfl⟩
 rw[hy]
 refine cutWl (fun wn=>Fr wn [(y,#[.int .u8 (k:Nat),.int .i64 n,.slice ba bl bc,.int .u8 (k2:Nat),.int .i64 n2,.int .u8 (c2:Nat),.int .u8 (u:Nat),.bool dn,.slice fa fl fc],36),(x,#[.pointer (some ⟨d,0,none⟩),.pointer (some ⟨p,0,none⟩),.slice R.a S.D.s.length R.c,.bool S.D.off,.int .i64 S.D.calls,.int .i64 S.D.after,.bool S.D.done,.int .i64 (S.r.ring:Nat),.int .i64 (S.nsize:Nat),.slice R.na S.nwords.length R.nc,.int .i64 (S.r.size:Nat),.slice R.ca S.r.words.length R.cc,.slice R.ba S.r.body.length R.bc,.int .i64 (S.r.gen:Nat),.int .i64 (S.r.slot:Nat),.bool S.bad,.bool true],112)]∧Same w wn) ⟨⟨Blk.new' _ _ _ hy.symm,BX.out.alloc _,trivial⟩,(Kept.refl _ _).alloc _⟩ ?_
 rintro w1 ⟨hf1,k1⟩
 have F1:=qh hf1
 have K1:=qh k1
 have HY:=qh hy
 have YF:=qh (show¬FS p d bs m y from fun q=>by have h1:=LF.out _ q;omega)
 clear hf1 k1 hy BX
 obtain⟨p0,f0,p1,f1, -⟩:=F1.out.rules
 go_wp2_with fail
 with_reducible refine(PC.out w1 K1.out).mono ?_
 rintro e w2 ⟨rfl,hst2,k2'⟩
 have K12:=qh (show Kept (FS p d bs m) w1 w2 from k2'.mono (fun j _ q=>.inl q))
 have ST2:=qh hst2
 clear k2' hst2 PC p0 f0 p1 f1
 have F2:=qh (show Fr w2 [(y,#[.int .u8 (k:Nat),.int .i64 n,.slice ba bl bc,.int .u8 (k2:Nat),.int .i64 n2,.int .u8 (c2:Nat),.int .u8 (u:Nat),.bool dn,.slice fa fl fc],36),(x,#[.pointer (some ⟨d,0,none⟩),.pointer (some ⟨p,0,none⟩),.slice R.a S.D.s.length R.c,.bool S.D.off,.int .i64 S.D.calls,.int .i64 S.D.after,.bool S.D.done,.int .i64 (S.r.ring:Nat),.int .i64 (S.nsize:Nat),.slice R.na S.nwords.length R.nc,.int .i64 (S.r.size:Nat),.slice R.ca S.r.words.length R.cc,.slice R.ba S.r.body.length R.bc,.int .i64 (S.r.gen:Nat),.int .i64 (S.r.slot:Nat),.bool S.bad,.bool true],112)]from⟨F1.out.1.kept K12.out YF.out,F1.out.2.1.kept K12.out XF.out,trivial⟩)
 have RS2:=qh ((HRS.out.same K1.out).kept K12.out (fun j q=>.inr q))
 have DC2:=qh (DC.out w2 RS2.out)
 obtain⟨p0,f0,p1,f1, -⟩:=F2.out.rules
 clear DC
 go_wp2_with fail
 with_reducible refine DC2.out.mono ?_
 rintro e w3 ⟨R2,rfl,hr3,k3⟩
 have K23:=qh k3
 have HR3:=qh hr3
 have F3:=qh (F2.out.same k3)
 clear k3 hr3 DC2 p0 f0 p1 f1
 obtain⟨p0,f0,p1,f1, -⟩:=F3.out.rules
 have z0:=F3.out.1.lt
 have z1:=F3.out.2.1.lt
 have BX:=qh (show Blk w3 x #[.pointer (some ⟨d,0,none⟩),.pointer (some ⟨p,0,none⟩),.slice R.a S.D.s.length R.c,.bool S.D.off,.int .i64 S.D.calls,.int .i64 S.D.after,.bool S.D.done,.int .i64 (S.r.ring:Nat),.int .i64 (S.nsize:Nat),.slice R.na S.nwords.length R.nc,.int .i64 (S.r.size:Nat),.slice R.ca S.r.words.length R.cc,.slice R.ba S.r.body.length R.bc,.int .i64 (S.r.gen:Nat),.int .i64 (S.r.slot:Nat),.bool S.bad,.bool true] 112 from F3.out.2.1)
 go_upto_region 30 with fail
 refine cutWl (fun wn=>Blk wn x #[.pointer (some ⟨d,0,none⟩),.pointer (some ⟨p,0,none⟩),.slice R2.a S2.D.s.length R2.c,.bool S2.D.off,.int .i64 S2.D.calls,.int .i64 S2.D.after,.bool S2.D.done,.int .i64 (S2.r.ring:Nat),.int .i64 (S2.nsize:Nat),.slice R2.na S2.nwords.length R2.nc,.int .i64 (S2.r.size:Nat),.slice R2.ca S2.r.words.length R2.cc,.slice R2.ba S2.r.body.length R2.bc,.int .i64 (S2.r.gen:Nat),.int .i64 (S2.r.slot:Nat),.bool S2.bad,.bool true] 112∧Kept (fun j=>j=x) w3 wn) ⟨by first|with_reducible exact(Blk.setWR BX.out).drew|with_reducible exact Blk.setWR BX.out,by repeat(with_reducible first|exact Kept.refl _ _|refine Kept.setG ?_ _ _|refine Kept.drew ?_)⟩ ?_
 rintro w4 ⟨bx4,k4⟩
 have W4:=qh (show W7 nb w4 x d bs m N S2.D (some ⟨p,0,none⟩) R2.a R2.c (rzOf S2 R2) true from W7.fin H.out.1 H.out.2.1 H.out.2.2.1 H.out.2.2.2 BX.out (w7C_not d (some ⟨p,0,none⟩) R.a S.D.s.length R.c S.D (rzOf S R) true) k4 bx4 (ST2.out.same K23.out) HR3.out OK2.out)
 have KA:=qh (show Kept (fun j=>nb≤j) w w4 from((K1.out.mono (fun _ _ q=>q.elim)).trans (K12.out.mono (fun j _ q=>NBF.out j q))).trans ((K23.out.mono (fun _ _ q=>q.elim)).trans (k4.mono (fun j _ q=>by have:=H.out.1;omega))))
 clear bx4 k4
 go_wp2_with fail
 go_ret
 exact⟨rfl,⟨_,_,_,_,_,_,W4.out⟩,KA.out⟩
theorem w7_none{nb:Nat}{w:World}{x d bs m N:Nat}{D:Dsk}{sp a:Option Addr}{c:Nat}{z:RZ}(h:W7 nb w x d bs m N D sp a c z false)(A:A7)(hk:A.k % 10<8):
 Calls Tryz.prog 28 #[.pointer (some ⟨x,0,none⟩),A.v] w (W7P nb w x d bs m N):=by
 obtain⟨kk,hkk⟩:∃kk,A.k % 10=kk:=⟨_,rfl⟩
 rw[hkk]at hk
 have H:=qh h
 have BX:=qh (show Blk w x #[.pointer (some ⟨d,0,none⟩),.pointer sp,.slice a D.s.length c,.bool D.off,.int .i64 D.calls,.int .i64 D.after,.bool D.done,.int .i64 z.ring,.int .i64 z.ns,.slice z.na z.nl z.nc,.int .i64 z.rs,.slice z.ca z.cl z.cc,.slice z.ba z.bl z.bc,.int .i64 z.gen,.int .i64 z.slot,.bool z.bad,.bool false] 112 from h.box)
 have e10:(A.k:Int) % 10=(kk:Nat):=by omega
 have g9:(((kk:Nat):Int)==9)=false:=by simp;omega
 have g8:(((kk:Nat):Int)==8)=false:=by simp;omega
 clear h hk hkk
 unfold A7.v
 obtain⟨k,n,ba,bl,bc,bbs,k2,n2,c2,u,dn,fa,fl,fc,fs⟩:=A
 dsimp only at e10 ⊢
 go_enter Tryz.func28,Tryz.ntmps28
 go_upto_region 1 with fail
 obtain⟨y,hy⟩:∃y,w.heap.size=y:=⟨_,rfl⟩
 rw[hy]
 refine cutWl (fun wn=>Fr wn [(y,#[.int .u8 (k:Nat),.int .i64 n,.slice ba bl bc,.int .u8 (k2:Nat),.int .i64 n2,.int .u8 (c2:Nat),.int .u8 (u:Nat),.bool dn,.slice fa fl fc],36),(x,#[.pointer (some ⟨d,0,none⟩),.pointer sp,.slice a D.s.length c,.bool D.off,.int .i64 D.calls,.int .i64 D.after,.bool D.done,.int .i64 z.ring,.int .i64 z.ns,.slice z.na z.nl z.nc,.int .i64 z.rs,.slice z.ca z.cl z.cc,.slice z.ba z.bl z.bc,.int .i64 z.gen,.int .i64 z.slot,.bool z.bad,.bool false],112)]∧Same w wn) ⟨⟨Blk.new' _ _ _ hy.symm,BX.out.alloc _,trivial⟩,(Kept.refl _ _).alloc _⟩ ?_
 rintro w1 ⟨hf1,k1⟩
 have F1:=qh hf1
 have K1:=qh k1
 clear hf1 k1 hy BX
 obtain⟨p0,f0,p1,f1, -⟩:=F1.out.rules
 go_wp2_with fail
 go_ret
 exact⟨rfl,⟨_,_,_,_,_,_,H.out.same K1.out⟩,K1.out.mono (fun _ _ q=>q.elim)⟩
end
end Go.Proofs.YtmiglhlbhbfodaaGreatDoor
