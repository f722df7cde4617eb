/- GRtA: Rt1, Rt2, Rt3, Rt4, Rt5. -/
import Derived.Test.YtmiglhlbhbfodaaGreatDoorGStB
import Derived.Test.YtmiglhlbhbfodaaGreatDoorGRs
import Derived.Test.YtmiglhlbhbfodaaGreatDoorGOr
set_option maxHeartbeats 3200000
set_option maxRecDepth 100000
namespace Go.Proofs.YtmiglhlbhbfodaaGreatDoor
section
open Go.RowKit Go.Sort Go.Shelf
def rsC(a:Option Addr)(n c:Nat)(D:Dsk)(x5 x6 x7 x8 x9 x10 x11 x12 x13:Value):Array Value:=
 #[.slice a n c,.bool D.off,.int .i64 D.calls,.int .i64 D.after,.bool D.done,x5,x6,x7,x8,x9,x10,x11,x12,x13]
structure RA where
 a:Option Addr
 c:Nat
 na:Option Addr
 nc:Nat
 ca:Option Addr
 cc:Nat
 ba:Option Addr
 bc:Nat
def rsV(S:Sto)(A:RA):Value:=.agg (rsC A.a S.D.s.length A.c S.D (.int .i64 (S.r.ring:Nat)) (.int .i64 (S.nsize:Nat)) (.slice A.na S.nwords.length A.nc) (.int .i64 (S.r.size:Nat)) (.slice A.ca S.r.words.length A.cc) (.slice A.ba S.r.body.length A.bc) (.int .i64 (S.r.gen:Nat)) (.int .i64 (S.r.slot:Nat)) (.bool S.bad))
structure RSt(w:World)(S:Sto)(A:RA):Prop where
 ds:SecsAt w A.a S.D.s
 ns:NatsAt w .u64 A.na S.nwords
 cs:NatsAt w .u64 A.ca S.r.words
 bs:NatsAt w .u8 A.ba S.r.body
 nnil:A.na=none→A.nc=0
 cnil:A.ca=none→A.cc=0
 bnil:A.ba=none→A.bc=0
 bcap:S.r.body.length≤A.bc
 bl:∀x,A.ba=some x→x.block<w.heap.size
theorem RSt.same{w w':World}{S:Sto}{A:RA}(h:RSt w S A)(k:Same w w'):RSt w' S A:=⟨h.ds.same k,h.ns.same k,h.cs.same k,h.bs.same k,h.nnil,h.cnil,h.bnil,h.bcap,fun x hx=>Nat.lt_of_lt_of_le (h.bl x hx) k.size⟩
theorem rt_area(S:Sto)(A:RA)(hr:S.r.ring≤4096)(w:World):
 Calls Tryz.prog 105 #[rsV S A] w fun e w'=>e=.returned (areaV ((8+S.r.ring:Nat):Int) (S.nsize:Nat))∧Same w w':=by
 unfold rsV rsC areaV
 have gw:IntKind.i64.wrap (8+(S.r.ring:Int))=((8+S.r.ring:Nat):Int):=by rw[IntKind.wrap_i64];omega
 go_enter Tryz.func105,Tryz.ntmps105
 go_wp2_with fail
 refine bodyPost_ret (results_two rfl _ _ _ _ _ _ rfl (Blk.new' _ _ _ (by simp)) Tryz.underlying163 rfl (by kernel_rfl)) rfl ?_
 exact⟨by rw[show((8+S.r.ring:Nat):Int)=8+(S.r.ring:Int)from by omega],((Kept.refl _ _).alloc _).alloc _⟩
theorem rt_room(a:Option Addr)(c:Nat)(D:Dsk)(hN:D.s.length≤4096)(ring:Nat)(hr:ring≤1099511627776)(w:World):
 Calls Tryz.prog 93 #[refV a D.s.length c D,.int .i64 (ring:Nat)] w fun e w'=>e=.returned (.int .i64 ((roomN D.s.length ring:Nat):Int))∧Same w w':=by
 unfold refV
 have RI:=qh (room_int D.s.length ring hN hr)
 generalize D.s.length=N at*
 go_enter Tryz.func93,Tryz.ntmps93
 go_wp2_with fail
 go_ret
 refine⟨?_,(Kept.refl _ _).alloc _⟩
 rw[←RI.out]
 rfl
def Sto.didS(S:Sto)(D:Dsk)(e:Nat):Sto:={S with D:=D,bad:=S.bad||decide (e≠0)}
theorem rt_did(S:Sto)(A:RA)(a:Option Addr)(c:Nat)(D:Dsk)(e:Nat)(w:World):
 Calls Tryz.prog 115 #[rsV S A,refV a D.s.length c D,.int .i64 (e:Nat)] w fun q w'=>q=.returned (.tuple #[rsV (S.didS D e) {A with a:=a,c:=c},.int .i64 (e:Nat)])∧Same w w':=by
 obtain⟨b',hb'⟩:∃b',(S.bad||decide (e≠0))=b':=⟨_,rfl⟩
 have HB:=qh hb'
 have V:=qh (show rsV (S.didS D e) {A with a:=a,c:=c}=.agg (rsC a D.s.length c D (.int .i64 (S.r.ring:Nat)) (.int .i64 (S.nsize:Nat)) (.slice A.na S.nwords.length A.nc) (.int .i64 (S.r.size:Nat)) (.slice A.ca S.r.words.length A.cc) (.slice A.ba S.r.body.length A.bc) (.int .i64 (S.r.gen:Nat)) (.int .i64 (S.r.slot:Nat)) (.bool b'))from by rw[←hb'];rfl)
 rw[V.out]
 clear hb' V
 unfold rsV rsC refV
 generalize S.bad=bad at HB ⊢
 cases bad with
 |true=>
  obtain rfl:b'=true:=by rw[←HB.out];rfl
  clear HB
  go_enter Tryz.func115,Tryz.ntmps115
  go_wp2_with fail
  refine bodyPost_ret (results_ctmp rfl _ _ _ _ _ _ _ rfl (Blk.new' _ _ _ (by simp)) rfl Tryz.underlying107 rfl (by kernel_rfl)) rfl ?_
  exact⟨rfl,(((Kept.refl _ _).alloc _).alloc _).alloc _⟩
 |false=>
  by_cases he:e=0
  ·subst he
   obtain rfl:b'=false:=by rw[←HB.out];rfl
   clear HB
   go_enter Tryz.func115,Tryz.ntmps115
   go_wp2_with fail
   refine bodyPost_ret (results_ctmp rfl _ _ _ _ _ _ _ rfl (Blk.new' _ _ _ (by simp)) rfl Tryz.underlying107 rfl (by kernel_rfl)) rfl ?_
   exact⟨rfl,(((Kept.refl _ _).alloc _).alloc _).alloc _⟩
  ·obtain rfl:b'=true:=by rw[←HB.out];simp[he]
   have g1:((e:Int) !=0)=true:=by simp;omega
   have g2:((e:Int)==0)=false:=by simp;omega
   clear HB he
   go_enter Tryz.func115,Tryz.ntmps115
   go_wp2_with fail
   refine bodyPost_ret (results_ctmp rfl _ _ _ _ _ _ _ rfl (Blk.new' _ _ _ (by simp)) rfl Tryz.underlying107 rfl (by kernel_rfl)) rfl ?_
   exact⟨rfl,(((Kept.refl _ _).alloc _).alloc _).alloc _⟩
end
section
open Go.RowKit Go.Sort Go.Shelf
theorem conv_bytesL(xs:List Nat)(hb:Bts xs)(w:World):∃c w',(convert 9 32 (.string (strN xs))).run Tryz.prog w=.ok (.slice (some ⟨w.heap.size,0,none⟩) xs.length c) w'∧NatsAt w' .u8 (some ⟨w.heap.size,0,none⟩) xs∧xs.length≤c∧Same w w'∧w.heap.size<w'.heap.size:=by
 obtain⟨c,w',h,h1,h2,h3⟩:=conv_bytes xs hb w
 refine⟨c,w',h,h1,h2,h3,?_⟩
 have e:=Lib.run_convert_string_bytes (P:=Tryz.prog) w 9 32 5 (strN xs) Tryz.underlying9 Tryz.underlying32 Tryz.underlying5
 rw[h]at e
 injection e with _ e
 rw[e,Lib.bytesWorld_size]
 omega
section
attribute [local go_sem ↓] exec_app semAt_app
attribute [local go_sem] isApp_lit appA appX
theorem rt_secs(a:Option Addr)(c:Nat)(D:Dsk)(hok:D.OK)(n:Nat)(hn:n≤10)(w:World)(hs:SecsAt w a D.s):
 Calls Tryz.prog 138 #[refV a D.s.length c D,.int .i64 (n:Nat)] w fun e w'=>(∃v,e=.returned v∧RowsOwn w' w.heap.size v (secsS D n))∧Same w w':=by
 have HS:=qh hs
 have OK:=qh hok
 have HN:=qh hn
 have RD:=qh (fun(i:Int) w' (k:Same w w')=>rs_read a D.s.length c D rfl i w' (hs.same k))
 unfold refV at RD
 obtain⟨N,hN⟩:∃N,D.s.length=N:=⟨_,rfl⟩
 unfold refV
 rw[hN]at RD ⊢
 clear hs hok hn hN
 go_enter Tryz.func138,Tryz.ntmps138
 go_upto_region 3 with fail
 obtain⟨y,hy⟩:∃y,w.heap.size=y:=⟨_,rfl⟩
 rw[hy]
 refine cutWl (fun wn=>Fr wn [(y,#[.slice a N c,.bool D.off,.int .i64 D.calls,.int .i64 D.after,.bool D.done],104)]∧Same w wn) ⟨⟨Blk.new' _ _ _ hy.symm,trivial⟩,(Kept.refl _ _).alloc _⟩ ?_
 rintro w1 ⟨hf1,k1⟩
 have F1:=qh hf1
 have K1:=qh k1
 have HY:=qh hy
 clear hf1 k1 hy
 go_wp2_with fail
 go_loopw [5,6] (fun v t wr=>∃i:Nat,t=.int .i64 i∧i≤4∧RowsOwn wr w1.heap.size v ((List.range i).map fun i=>(readD D ((n*4+i:Nat):Int)).1)∧Same w1 wr) (fun _ t _=>4 - (intOf t).toNat)
 case atStart=>exact⟨0,rfl,by omega,RowsOwn.nil _ _,Kept.refl _ _⟩
 case round=>
  obtain⟨i,rfl,hi,hr,hk⟩:=hrel
  have RW:=qh hr;have K:=qh hk
  clear hr hk
  by_cases hgo:i<4
  ·have g1:(i:Int)<4:=by omega
   have hn10:=HN.out
   have RE:=qh (show readD D ((n*4+i:Nat):Int)=readD D ((4:Int)*(n:Int)+(i:Int))from by congr 1;omega)
   have R1:=qh (RD.out ((4:Int)*(n:Int)+(i:Int)) wr (K1.out.trans K.out))
   have RB:=qh (readD_bts OK.out ((4:Int)*(n:Int)+(i:Int)))
   have RL:=qh (readD_lenS OK.out ((4:Int)*(n:Int)+(i:Int)))
   obtain⟨q,hq⟩:∃q,readD D ((4:Int)*(n:Int)+(i:Int))=q:=⟨_,rfl⟩
   rw[hq]at R1 RE RB RL
   obtain⟨b,er⟩:=q
   dsimp only at R1 RB RL
   have p0:=cell_blk (F1.out.1.kept K.out (fun h=>h))
   clear hq
   go_wp2_with fail
   with_reducible refine R1.out.mono ?_
   rintro e w2 ⟨rfl,k2⟩
   obtain⟨c3,w3,hcv,n3,hc3,k3,hz3⟩:=conv_bytesL b RB.out w2
   have k23:Same wr w3:=k2.trans k3
   obtain⟨v',w',hr4,ho4,hk4⟩:=rows_append (RW.out.same k23) (by have:=K.out.size;have:=k23.size;omega) (by simp;omega) w2.heap.size b.length c3 b rfl hc3 (by have:=K.out.size;have:=k2.size;omega) hz3 (RW.out.below k2.size) n3
   obtain⟨aok,aV,aW⟩:=app_of hr4
   have KF:=qh (show Same w1 w' from(K.out.trans k23).step hk4 (fun j hj q=>by omega))
   have RF:=qh (show RowsOwn w' w1.heap.size v' ((List.range (i+1)).map fun i=>(readD D ((n*4+i:Nat):Int)).1)from by rw[List.range_succ,List.map_append,List.map_cons,List.map_nil,RE.out];exact ho4)
   clear hr4 ho4 hk4 k23 k3 k2 n3 hc3 hz3 R1 RE RB RL p0
   go_wp2_with fail
   go_roundw
   case rel=>exact⟨i+1,by go_num,by omega,RF.out,KF.out⟩
   case measure=>simp[intOf];omega
  ·have h4:i=4:=by omega
   subst h4
   clear hi hgo
   go_wp2_with fail
   go_ret
   exact⟨⟨_,rfl,RW.out.base K1.out.size⟩,K1.out.trans K.out⟩
end
theorem rt_seen(a:Option Addr)(c:Nat)(D:Dsk)(hok:D.OK)(w:World)(hs:SecsAt w a D.s):
 Calls Tryz.prog 95 #[refV a D.s.length c D] w fun e w'=>e=.returned (.int .i64 ((seenD D:Nat):Int))∧Same w w':=by
 have SC0:=qh (fun w' (k:Same w w')=>show Calls Tryz.prog 138 #[refV a D.s.length c D,.int .i64 0] w' fun e w''=>(∃v,e=.returned v∧RowsOwn w'' w'.heap.size v (secsS D 0))∧Same w' w'' from rt_secs a c D hok 0 (by decide) w' (hs.same k))
 have SC1:=qh (fun w' (k:Same w w')=>show Calls Tryz.prog 138 #[refV a D.s.length c D,.int .i64 1] w' fun e w''=>(∃v,e=.returned v∧RowsOwn w'' w'.heap.size v (secsS D 1))∧Same w' w'' from rt_secs a c D hok 1 (by decide) w' (hs.same k))
 have OK:=qh hok
 have MX:=qh (show max (seenSl (secsS D 0)) (seenSl (secsS D 1))=seenD D from rfl)
 unfold refV at SC0 SC1
 obtain⟨N,hN⟩:∃N,D.s.length=N:=⟨_,rfl⟩
 unfold refV
 rw[hN]at SC0 SC1 ⊢
 obtain⟨R,hR⟩:∃R,seenD D=R:=⟨_,rfl⟩
 rw[hR]at MX ⊢
 clear hs hok hN hR
 go_enter Tryz.func95,Tryz.ntmps95
 go_upto_region 1 with fail
 obtain⟨y,hy⟩:∃y,w.heap.size=y:=⟨_,rfl⟩
 rw[hy]
 refine cutWl (fun wn=>Fr wn [(y,#[.slice a N c,.bool D.off,.int .i64 D.calls,.int .i64 D.after,.bool D.done],104)]∧Same w wn) ⟨⟨Blk.new' _ _ _ hy.symm,trivial⟩,(Kept.refl _ _).alloc _⟩ ?_
 rintro w1 ⟨hf1,k1⟩
 have F1:=qh hf1
 have K1:=qh k1
 clear hf1 k1 hy
 have QX:=qh (fun w' (k:Same w1 w')=>cell_blk (F1.out.1.kept k (fun h=>h)))
 go_wp2_with fail
 refine wp_region_T (S:=fun w'=>Same w1 w') 7 (by kernel_rfl) (Kept.refl _ _).drew (fun hHeld hDn=>?_)
 refine wpT_z 0 3 QX hHeld hDn fun hDn=>?_
 refine wpT_z 3 6 QX hHeld hDn fun hDn=>?_
 refine wpT_one (i:=1) rfl (by kernel_rfl) hDn (fun K' hK=>?_)
 go_simp
 with_reducible refine(SC0.out _ (K1.out.trans (Kept.refl _ _).drew)).mono ?_
 rintro e w2 ⟨⟨v2,rfl,r2⟩,k2⟩
 obtain⟨a2,c2,rfl,ra2⟩:=r2.rowsAt
 have S1:=qh (rs_seen a2 (secsS D 0).length c2 (secsS D 0) rfl (by rw[secsS_len];decide) (secsS_bts OK.out 0) w2 ra2)
 rw[secsS_len]at S1 ⊢
 have K2:=qh (show Same w1 w2 from((Kept.refl _ _).drew).trans k2)
 refine hK.out _ _ K2.out (fun hHeld2 hDn2=>?_)
 clear hK K' hHeld hDn
 have hHeld:=hHeld2;have hDn:=hDn2
 clear hHeld2 hDn2
 clear k2 r2 ra2
 obtain⟨A,hA⟩:∃A,seenSl (secsS D 0)=A:=⟨_,rfl⟩
 rw[hA]at S1 MX
 clear hA
 refine wpT_one (i:=2) rfl (by kernel_rfl) hDn (fun K' hK=>?_)
 go_simp
 with_reducible refine S1.out.mono ?_
 rintro e w3 ⟨rfl,k3⟩
 have K3:=qh (K2.out.trans k3)
 refine hK.out _ _ K3.out (fun hHeld2 hDn2=>?_)
 clear hK K' hHeld hDn
 have hHeld:=hHeld2;have hDn:=hDn2
 clear hHeld2 hDn2
 clear k3 S1 K2
 refine wpT_one (i:=4) rfl (by kernel_rfl) hDn (fun K' hK=>?_)
 go_simp
 with_reducible refine(SC1.out _ (K1.out.trans K3.out)).mono ?_
 rintro e w4 ⟨⟨v4,rfl,r4⟩,k4⟩
 obtain⟨a4,c4,rfl,ra4⟩:=r4.rowsAt
 have S2:=qh (rs_seen a4 (secsS D 1).length c4 (secsS D 1) rfl (by rw[secsS_len];decide) (secsS_bts OK.out 1) w4 ra4)
 rw[secsS_len]at S2 ⊢
 have K4:=qh (K3.out.trans k4)
 refine hK.out _ _ K4.out (fun hHeld2 hDn2=>?_)
 clear hK K' hHeld hDn
 have hHeld:=hHeld2;have hDn:=hDn2
 clear hHeld2 hDn2
 clear k4 r4 ra4 K3
 obtain⟨B,hB⟩:∃B,seenSl (secsS D 1)=B:=⟨_,rfl⟩
 rw[hB]at S2 MX
 clear hB
 refine wpT_one (i:=5) rfl (by kernel_rfl) hDn (fun K' hK=>?_)
 go_simp
 with_reducible refine S2.out.mono ?_
 rintro e w5 ⟨rfl,k5⟩
 have K5:=qh (K4.out.trans k5)
 refine hK.out _ _ K5.out (fun hHeld2 hDn2=>?_)
 clear hK K' hHeld hDn
 have hHeld:=hHeld2;have hDn:=hDn2
 clear hHeld2 hDn2
 clear k5 S2 K4
 have gm:max (A:Int) (B:Int)=(R:Int):=by rw[←MX.out];omega
 refine wpT_z 6 9 QX hHeld hDn fun hDn=>?_
 refine wpT_last rfl (by kernel_rfl) hDn (fun K hK=>?_)
 go_simp
 refine hK.out _ _ (fun hDn'=>?_)
 clear hK K hDn hHeld;have hDn:=hDn';clear hDn'
 refine wpT_done (by kernel_rfl) ?_ _
 clear hDn QX gm
 go_wp2_with fail
 go_ret
 exact⟨rfl,K1.out.trans K5.out⟩
end
section
open Go.RowKit Go.Sort Go.Shelf
def layR(ring size:Nat)(words body:List Nat):List Nat:=putSmall ring++putSmall size++putW words++body
section
attribute [local go_sem ↓] exec_app semAt_app
attribute [local go_sem] isApp_lit appA appX
theorem rt_lay(S:Sto)(A:RA)(ba:Option Addr)(bl bc:Nat)(body:List Nat)(hbl:bl=body.length)(h700:body.length≤90000)(hnil:ba=none→bc=0)(hring:S.r.ring≤1024)(hsize:S.nsize≤1024)(hw64:Words S.nwords)(hnl:S.nwords.length≤8)(w:World)(hat:NatsAt w .u8 ba body)(hns:NatsAt w .u64 A.na S.nwords):
 Calls Tryz.prog 140 #[rsV S A,.slice ba bl bc] w fun e w'=>(∃v,e=.returned v∧OwnN w' w.heap.size 5 .u8 v (layR S.r.ring S.nsize S.nwords body))∧Same w w':=by
 have HAT:=qh hat;have HNS:=qh hns;have HBL:=qh hbl;have H7:=qh h700;have HNIL:=qh hnil;have W64:=qh hw64
 have SM:=qh (fun n (hn:n≤1024) w'=>rf_putSmall n w' (by omega))
 unfold rsV rsC
 obtain⟨ring,hr1⟩:∃ring,S.r.ring=ring:=⟨_,rfl⟩
 obtain⟨size,hs1⟩:∃size,S.nsize=size:=⟨_,rfl⟩
 obtain⟨words,hw1⟩:∃words,S.nwords=words:=⟨_,rfl⟩
 rw[hr1]at hring ⊢
 rw[hs1]at hsize ⊢
 rw[hw1]at hnl HNS W64 ⊢
 obtain⟨nw,hnw⟩:∃nw,words.length=nw:=⟨_,rfl⟩
 rw[hnw]at hnl ⊢
 have HNW:=qh hnw
 have gw1:=u64_wrap (ring:Int) (by omega) (by omega)
 have gw2:=u64_wrap (size:Int) (by omega) (by omega)
 clear hat hns hbl h700 hnil hw64 hr1 hs1 hw1 hnw
 go_enter Tryz.func140,Tryz.ntmps140
 go_upto_region 1 with fail
 obtain⟨y,hy⟩:∃y,w.heap.size=y:=⟨_,rfl⟩
 rw[hy]
 refine cutWl (fun wn=>Fr wn [(y,#[.slice A.a S.D.s.length A.c,.bool S.D.off,.int .i64 S.D.calls,.int .i64 S.D.after,.bool S.D.done,.int .i64 (ring:Nat),.int .i64 (size:Nat),.slice A.na nw A.nc,.int .i64 (S.r.size:Nat),.slice A.ca S.r.words.length A.cc,.slice A.ba S.r.body.length A.bc,.int .i64 (S.r.gen:Nat),.int .i64 (S.r.slot:Nat),.bool S.bad],107)]∧Same w wn) ⟨⟨Blk.new' _ _ _ hy.symm,trivial⟩,(Kept.refl _ _).alloc _⟩ ?_
 rintro w4 ⟨hf4,k4⟩
 have F4:=qh hf4
 have K4:=qh k4
 clear hf4 k4 hy
 have QX:=qh (fun w' (k:Same w4 w')=>cell_blk (F4.out.1.kept k (fun h=>h)))
 go_wp2_with fail
 refine wp_region_T (S:=fun w'=>Same w4 w') 9 (by kernel_rfl) (Kept.refl _ _).drew (fun hHeld hDn=>?_)
 refine wpT_z 0 8 QX hHeld hDn fun hDn=>?_
 refine wpT_z 1 9 QX hHeld hDn fun hDn=>?_
 refine wpT_z 2 10 QX hHeld hDn fun hDn=>?_
 refine wpT_z 4 12 QX hHeld hDn fun hDn=>?_
 refine wpT_z 5 13 QX hHeld hDn fun hDn=>?_
 refine wpT_z 6 14 QX hHeld hDn fun hDn=>?_
 refine wpT_z 7 15 QX hHeld hDn fun hDn=>?_
 refine wpT_one (i:=3) rfl (by kernel_rfl) hDn (fun K' hK=>?_)
 go_simp
 with_reducible refine(SM.out ring (by omega) _).mono ?_
 rintro e w5 ⟨v5,rfl,o5,k5⟩
 have K5:=qh (show Same w4 w5 from((Kept.refl _ _).drew).trans k5)
 have O5:=qh (o5.base (show w4.heap.size≤w4.drew.heap.size from Nat.le_refl _))
 refine hK.out _ _ K5.out (fun hHeld2 hDn2=>?_)
 clear hK K' hHeld hDn
 have hHeld:=hHeld2;have hDn:=hDn2
 clear hHeld2 hDn2
 clear o5 k5
 refine wpT_one (i:=8) rfl (by kernel_rfl) hDn (fun K' hK=>?_)
 go_simp
 with_reducible refine(SM.out size (by omega) _).mono ?_
 rintro e w6 ⟨v6,rfl,o6,k6⟩
 have K6:=qh (K5.out.trans k6)
 have O56:=qh (O5.out.same k6)
 obtain⟨g6,c6,rfl,hg6,hg6l,hc6,hn6⟩:=o6.begins (by unfold putSmall;simp)
 refine hK.out _ _ K6.out (fun hHeld2 hDn2=>?_)
 clear hK K' hHeld hDn
 have hHeld:=hHeld2;have hDn:=hDn2
 clear hHeld2 hDn2
 clear o6 k6
 obtain⟨v7,w7,hr7,o7,k7⟩:=nat_app O56.out K6.out.size (some ⟨g6,0,none⟩) (putSmall size).length c6 (putSmall size) rfl hn6 (fun h=>by cases h) (by have:=putSmall_len ring;have:=putSmall_len size;omega)
 have K7:=qh (show Same w4 w7 from K6.out.step k7 (fun i hi q=>by omega))
 have O7:=qh o7
 obtain⟨aok,aV,aW⟩:=app_of hr7
 clear hr7 o7 k7
 refine wpT_last rfl (by kernel_rfl) hDn (fun K hK=>?_)
 go_simp
 refine hK.out _ _ (fun hDn'=>?_)
 clear hK K hDn hHeld;have hDn:=hDn';clear hDn'
 refine wpT_ze 10 5 hDn fun hDn=>?_
 refine wpT_done (by kernel_rfl) ?_ _
 clear hDn aok aV aW QX gw1 gw2 hg6 hg6l hc6 hn6
 go_wp2_with fail
 go_loopw [5,6] (fun v t wr=>∃(i:Nat),t=.int .i64 i∧i≤nw∧OwnN wr w4.heap.size 5 .u8 v (putSmall ring++putSmall size++putW (words.take i))∧Same w4 wr) (fun _ t _=>nw - (intOf t).toNat)
 case atStart=>exact⟨0,rfl,by omega,by rw[show putSmall ring++putSmall size++putW (words.take 0)=putSmall ring++putSmall size from by simp[putW]];exact O7.out,K7.out⟩
 case round=>
  obtain⟨i,rfl,hi,ho,hk⟩:=hrel
  have K:=qh hk
  have O:=qh ho
  have p0:=cell_blk (F4.out.1.kept K.out (fun h=>h))
  clear hk ho O7 K7
  by_cases hgo:i<nw
  ·have hil:i<words.length:=by rw[HNW.out];exact hgo
   have PT:=qh (putW_take hil)
   have X64:=qh (W64.out words[i] (List.getElem_mem _))
   have hat:=HNS.out.same K4.out
   obtain⟨bk,off,x,hna,hbk,hx,hcl⟩:=hat.at hil
   obtain rfl:words[i]=x:=by rw[List.getElem?_eq_getElem hil]at hx;exact Option.some.inj hx
   generalize words[i]=x at hcl PT X64
   have g1:(i:Int)<(nw:Int):=by omega
   have g0:(0:Int)≤(i:Int):=by omega
   have CX:=qh (show∀w',Same w4 w'→w'.cell? ⟨bk,off+i,none⟩=some (.int .u64 (x:Nat))from fun w' k=>(k.cell (p:=⟨bk,off+i,none⟩) (World.block_lt_of_cell? w4 ⟨bk,off+i,none⟩ hcl) (fun h=>h)).trans hcl)
   rw[hna]at p0 F4
   clear hx hat hcl
   obtain⟨P,hP⟩:∃P,putSmall ring++putSmall size++putW (words.take i)=P:=⟨_,rfl⟩
   rw[hP]at O
   have HP:=qh hP
   have PL:=qh (show P.length≤100 from by rw[←hP];have:=putSmall_len ring;have:=putSmall_len size;simp[putW_len];omega)
   clear hP
   generalize wr=wd at*
   go_wp2_with fail
   go_loopw [5,7] (fun v t wr=>∃(j:Nat) (k:Int),k+j=7∧t=.int .i64 k∧j≤8∧OwnN wr w4.heap.size 5 .u8 v (P++(be 8 x).take j)∧Same w4 wr) (fun _ t _=>(intOf t+1).toNat)
   case atStart=>exact⟨0,7,by omega,rfl,by omega,by simpa using O.out,K.out⟩
   case round=>
    obtain⟨j,k,hkj,rfl,hj,ho,hk⟩:=hrel
    have K2:=qh hk
    have O:=qh ho
    have KB:=qh (show w4.heap.size≤wr.heap.size from hk.size)
    have p1:=cell_blk (F4.out.1.kept hk (fun h=>h))
    have cx:=CX.out wr hk
    clear hk ho
    by_cases hgj:j<8
    ·have hcase:j=0∨j=1∨j=2∨j=3∨j=4∨j=5∨j=6∨j=7:=by omega
     have hxx:=X64.out
     have hpl:=PL.out
     clear hj hgj
     rcases hcase with rfl|rfl|rfl|rfl|rfl|rfl|rfl|rfl
     ·obtain rfl:k=7:=by omega
      obtain⟨v',w',hr,ho',hk'⟩:=nat_push O.out KB.out (by simp;omega) (x / 72057594037927936 % 256) ((x:Int) / 72057594037927936) (by omega)
      have KF:=qh (K2.out.step hk' (fun a ha z=>by omega))
      have OF:=qh (show OwnN w' w4.heap.size 5 .u8 v' (P++(be 8 x).take 1)from by rw[be8_all]at ho' ⊢;rw[List.append_assoc]at ho';exact ho')
      obtain⟨aok,aV,aW⟩:=app_of hr
      clear hr ho' hk' hpl hkj
      go_wp2_with fail
      exact⟨⟨1,7 - 1,by omega,rfl,by omega,OF.out,KF.out⟩,by simp[intOf]⟩
     ·obtain rfl:k=6:=by omega
      obtain⟨v',w',hr,ho',hk'⟩:=nat_push O.out KB.out (by simp;omega) (x / 281474976710656 % 256) ((x:Int) / 281474976710656 % 256) (by omega)
      have KF:=qh (K2.out.step hk' (fun a ha z=>by omega))
      have OF:=qh (show OwnN w' w4.heap.size 5 .u8 v' (P++(be 8 x).take 2)from by rw[be8_all]at ho' ⊢;rw[List.append_assoc]at ho';exact ho')
      obtain⟨aok,aV,aW⟩:=app_of hr
      clear hr ho' hk' hpl hkj
      go_wp2_with fail
      exact⟨⟨2,6 - 1,by omega,rfl,by omega,OF.out,KF.out⟩,by simp[intOf]⟩
     ·obtain rfl:k=5:=by omega
      obtain⟨v',w',hr,ho',hk'⟩:=nat_push O.out KB.out (by simp;omega) (x / 1099511627776 % 256) ((x:Int) / 1099511627776 % 256) (by omega)
      have KF:=qh (K2.out.step hk' (fun a ha z=>by omega))
      have OF:=qh (show OwnN w' w4.heap.size 5 .u8 v' (P++(be 8 x).take 3)from by rw[be8_all]at ho' ⊢;rw[List.append_assoc]at ho';exact ho')
      obtain⟨aok,aV,aW⟩:=app_of hr
      clear hr ho' hk' hpl hkj
      go_wp2_with fail
      exact⟨⟨3,5 - 1,by omega,rfl,by omega,OF.out,KF.out⟩,by simp[intOf]⟩
     ·obtain rfl:k=4:=by omega
      obtain⟨v',w',hr,ho',hk'⟩:=nat_push O.out KB.out (by simp;omega) (x / 4294967296 % 256) ((x:Int) / 4294967296 % 256) (by omega)
      have KF:=qh (K2.out.step hk' (fun a ha z=>by omega))
      have OF:=qh (show OwnN w' w4.heap.size 5 .u8 v' (P++(be 8 x).take 4)from by rw[be8_all]at ho' ⊢;rw[List.append_assoc]at ho';exact ho')
      obtain⟨aok,aV,aW⟩:=app_of hr
      clear hr ho' hk' hpl hkj
      go_wp2_with fail
      exact⟨⟨4,4 - 1,by omega,rfl,by omega,OF.out,KF.out⟩,by simp[intOf]⟩
     ·obtain rfl:k=3:=by omega
      obtain⟨v',w',hr,ho',hk'⟩:=nat_push O.out KB.out (by simp;omega) (x / 16777216 % 256) ((x:Int) / 16777216 % 256) (by omega)
      have KF:=qh (K2.out.step hk' (fun a ha z=>by omega))
      have OF:=qh (show OwnN w' w4.heap.size 5 .u8 v' (P++(be 8 x).take 5)from by rw[be8_all]at ho' ⊢;rw[List.append_assoc]at ho';exact ho')
      obtain⟨aok,aV,aW⟩:=app_of hr
      clear hr ho' hk' hpl hkj
      go_wp2_with fail
      exact⟨⟨5,3 - 1,by omega,rfl,by omega,OF.out,KF.out⟩,by simp[intOf]⟩
     ·obtain rfl:k=2:=by omega
      obtain⟨v',w',hr,ho',hk'⟩:=nat_push O.out KB.out (by simp;omega) (x / 65536 % 256) ((x:Int) / 65536 % 256) (by omega)
      have KF:=qh (K2.out.step hk' (fun a ha z=>by omega))
      have OF:=qh (show OwnN w' w4.heap.size 5 .u8 v' (P++(be 8 x).take 6)from by rw[be8_all]at ho' ⊢;rw[List.append_assoc]at ho';exact ho')
      obtain⟨aok,aV,aW⟩:=app_of hr
      clear hr ho' hk' hpl hkj
      go_wp2_with fail
      exact⟨⟨6,2 - 1,by omega,rfl,by omega,OF.out,KF.out⟩,by simp[intOf]⟩
     ·obtain rfl:k=1:=by omega
      obtain⟨v',w',hr,ho',hk'⟩:=nat_push O.out KB.out (by simp;omega) (x / 256 % 256) ((x:Int) / 256 % 256) (by omega)
      have KF:=qh (K2.out.step hk' (fun a ha z=>by omega))
      have OF:=qh (show OwnN w' w4.heap.size 5 .u8 v' (P++(be 8 x).take 7)from by rw[be8_all]at ho' ⊢;rw[List.append_assoc]at ho';exact ho')
      obtain⟨aok,aV,aW⟩:=app_of hr
      clear hr ho' hk' hpl hkj
      go_wp2_with fail
      exact⟨⟨7,1 - 1,by omega,rfl,by omega,OF.out,KF.out⟩,by simp[intOf]⟩
     ·obtain rfl:k=0:=by omega
      obtain⟨v',w',hr,ho',hk'⟩:=nat_push O.out KB.out (by simp;omega) (x % 256) ((x:Int) % 256) (by omega)
      have KF:=qh (K2.out.step hk' (fun a ha z=>by omega))
      have OF:=qh (show OwnN w' w4.heap.size 5 .u8 v' (P++(be 8 x).take 8)from by rw[be8_all]at ho' ⊢;rw[List.append_assoc]at ho';exact ho')
      obtain⟨aok,aV,aW⟩:=app_of hr
      clear hr ho' hk' hpl hkj
      go_wp2_with fail
      exact⟨⟨8,0 - 1,by omega,rfl,by omega,OF.out,KF.out⟩,by simp[intOf]⟩
    ·have h8:j=8:=by omega
     subst h8
     obtain rfl:k= -1:=by omega
     rw[List.take_of_length_le (by rw[be_length];exact Nat.le_refl _)]at O
     have O2:=qh (show OwnN wr w4.heap.size 5 .u8 _ (putSmall ring++putSmall size++putW (words.take (i+1)))from by rw[PT.out,←List.append_assoc,HP.out];exact O.out)
     clear hj hgj O hkj
     go_wp2_with fail
     exact⟨⟨i+1,by go_num,by omega,by rw[←List.append_assoc];exact O2.out,K2.out⟩,by simp[intOf];omega⟩
  ·have hin:i=nw:=by omega
   rw[hin,List.take_of_length_le (by rw[HNW.out];exact Nat.le_refl _)]at O
   obtain⟨v',w',hr,ho',hk'⟩:=nat_app O.out K.out.size ba bl bc body HBL.out (HAT.out.same (K4.out.trans K.out)) HNIL.out (by have:=H7.out;have:=HNW.out;have:=putSmall_len ring;have:=putSmall_len size;simp[putW_len];omega)
   have KF:=qh (show Same w w' from K4.out.trans (K.out.step hk' (fun i hi q=>by omega)))
   have OF:=qh (show OwnN w' w.heap.size 5 .u8 v' (layR ring size words body)from OwnN.base ho' K4.out.size)
   obtain⟨aok,aV,aW⟩:=app_of hr
   have g1:¬(i:Int)<(nw:Int):=by omega
   clear hr ho' hk'
   go_wp2_with fail
   go_ret
   exact⟨⟨_,rfl,OF.out⟩,KF.out⟩
end
end
section
open Go.RowKit Go.Sort Go.Shelf
structure RSp(w:World)(S:Sto)(A:RA)(fp:Nat→Prop):Prop where
 st:RSt w S A
 lt:∀g,fp g→g<w.heap.size
 pa:Apt A.a fp
 pn:Apt A.na fp
 pc:Apt A.ca fp
 pb:Apt A.ba fp
theorem RSp.same{w w':World}{S:Sto}{A:RA}{fp:Nat→Prop}(h:RSp w S A fp)(k:Same w w'):RSp w' S A fp:=⟨h.st.same k,fun g hg=>Nat.lt_of_lt_of_le (h.lt g hg) k.size,h.pa,h.pn,h.pc,h.pb⟩
def RtP(w:World)(S:Sto)(k:Nat)(fp:Nat→Prop)(e:Ending)(w':World):Prop:=∃A,e=.returned (.tuple #[rsV S A,.int .i64 (k:Nat)])∧RSp w' S A fp∧Same w w'
theorem far_apt{w:World}{a:Option Addr}{fp:Nat→Prop}(h:Far w a)(hf:∀g,fp g→g<w.heap.size):Apt a fp:=fun x hx q=>by have h1:=h x hx;have h2:=hf _ q;omega
theorem Blk.set14{w:World}{b:Nat}{v0 v1 v2 v3 v4 v5 v6 v7 v8 v9 v10 v11 v12 v13 u0 u1 u2 u3 u4 u5 u6 u7 u8 u9 u10 u11 u12 u13:Value}{t:TypeId}(h:Blk w b #[v0,v1,v2,v3,v4,v5,v6,v7,v8,v9,v10,v11,v12,v13] t):
 Blk ((((((((((((((w.setCell ⟨b,0,none⟩ u0).setCell ⟨b,1,none⟩ u1).setCell ⟨b,2,none⟩ u2).setCell ⟨b,3,none⟩ u3).setCell ⟨b,4,none⟩ u4).setCell ⟨b,5,none⟩ u5).setCell ⟨b,6,none⟩ u6).setCell ⟨b,7,none⟩ u7).setCell ⟨b,8,none⟩ u8).setCell ⟨b,9,none⟩ u9).setCell ⟨b,10,none⟩ u10).setCell ⟨b,11,none⟩ u11).setCell ⟨b,12,none⟩ u12).setCell ⟨b,13,none⟩ u13) b #[u0,u1,u2,u3,u4,u5,u6,u7,u8,u9,u10,u11,u12,u13] t:=by
 have h0:Blk _ b #[u0,v1,v2,v3,v4,v5,v6,v7,v8,v9,v10,v11,v12,v13] t:=h.set 0 u0
 have h1:Blk _ b #[u0,u1,v2,v3,v4,v5,v6,v7,v8,v9,v10,v11,v12,v13] t:=h0.set 1 u1
 have h2:Blk _ b #[u0,u1,u2,v3,v4,v5,v6,v7,v8,v9,v10,v11,v12,v13] t:=h1.set 2 u2
 have h3:Blk _ b #[u0,u1,u2,u3,v4,v5,v6,v7,v8,v9,v10,v11,v12,v13] t:=h2.set 3 u3
 have h4:Blk _ b #[u0,u1,u2,u3,u4,v5,v6,v7,v8,v9,v10,v11,v12,v13] t:=h3.set 4 u4
 have h5:Blk _ b #[u0,u1,u2,u3,u4,u5,v6,v7,v8,v9,v10,v11,v12,v13] t:=h4.set 5 u5
 have h6:Blk _ b #[u0,u1,u2,u3,u4,u5,u6,v7,v8,v9,v10,v11,v12,v13] t:=h5.set 6 u6
 have h7:Blk _ b #[u0,u1,u2,u3,u4,u5,u6,u7,v8,v9,v10,v11,v12,v13] t:=h6.set 7 u7
 have h8:Blk _ b #[u0,u1,u2,u3,u4,u5,u6,u7,u8,v9,v10,v11,v12,v13] t:=h7.set 8 u8
 have h9:Blk _ b #[u0,u1,u2,u3,u4,u5,u6,u7,u8,u9,v10,v11,v12,v13] t:=h8.set 9 u9
 have h10:Blk _ b #[u0,u1,u2,u3,u4,u5,u6,u7,u8,u9,u10,v11,v12,v13] t:=h9.set 10 u10
 have h11:Blk _ b #[u0,u1,u2,u3,u4,u5,u6,u7,u8,u9,u10,u11,v12,v13] t:=h10.set 11 u11
 have h12:Blk _ b #[u0,u1,u2,u3,u4,u5,u6,u7,u8,u9,u10,u11,u12,v13] t:=h11.set 12 u12
 exact h12.set 13 u13
theorem Kept.set14{a w:World}{b:Nat}{u0 u1 u2 u3 u4 u5 u6 u7 u8 u9 u10 u11 u12 u13:Value}(h:Same a w)(hb:a.heap.size≤b):
 Same a ((((((((((((((w.setCell ⟨b,0,none⟩ u0).setCell ⟨b,1,none⟩ u1).setCell ⟨b,2,none⟩ u2).setCell ⟨b,3,none⟩ u3).setCell ⟨b,4,none⟩ u4).setCell ⟨b,5,none⟩ u5).setCell ⟨b,6,none⟩ u6).setCell ⟨b,7,none⟩ u7).setCell ⟨b,8,none⟩ u8).setCell ⟨b,9,none⟩ u9).setCell ⟨b,10,none⟩ u10).setCell ⟨b,11,none⟩ u11).setCell ⟨b,12,none⟩ u12).setCell ⟨b,13,none⟩ u13):=
 (((((((((((((h.setNew hb _).setNew hb _).setNew hb _).setNew hb _).setNew hb _).setNew hb _).setNew hb _).setNew hb _).setNew hb _).setNew hb _).setNew hb _).setNew hb _).setNew hb _).setNew hb _
def Sto.wq7(S:Sto)(slot gen:Nat)(body:List Nat):Dsk×Nat:=wrAll S.D (slot*4) (putSl gen (layR S.r.ring S.nsize S.nwords body))
def Sto.rwr(S:Sto)(slot gen:Nat)(body:List Nat):Sto×Nat:=
 if putSlE (gen:Int) (layR S.r.ring S.nsize S.nwords body).length≠0 then(S,putSlE (gen:Int) (layR S.r.ring S.nsize S.nwords body).length)
 else if(S.wq7 slot gen body).2≠0 then(S.didS (S.wq7 slot gen body).1 (S.wq7 slot gen body).2,(S.wq7 slot gen body).2)
 else(S.didS (syncD (S.wq7 slot gen body).1).1 (syncD (S.wq7 slot gen body).1).2,(syncD (S.wq7 slot gen body).1).2)
theorem rt_write(S:Sto)(A:RA)(fp:Nat→Prop)(hok:S.D.OK)(slot gen:Nat)(hslot:slot≤1)(hgen:gen≤1099511627777)(ba:Option Addr)(bl bc:Nat)(body:List Nat)(hbl:bl=body.length)(h700:body.length≤80000)(hbb:Bts body)(hnil:ba=none→bc=0)(hring:S.r.ring≤1024)(hsize:S.nsize≤1024)(hw64:Words S.nwords)(hnl:S.nwords.length≤8)(w:World)(h:RSp w S A fp)(hat:NatsAt w .u8 ba body):
 Calls Tryz.prog 96 #[rsV S A,.int .i64 (slot:Nat),.int .i64 (gen:Nat),.slice ba bl bc] w (RtP w (S.rwr slot gen body).1 (S.rwr slot gen body).2 fp):=by
 obtain⟨R,hR⟩:∃R,RtP w (S.rwr slot gen body).1 (S.rwr slot gen body).2 fp=R:=⟨_,rfl⟩
 rw[hR]
 have HR:=qh hR
 have H:=qh h
 have LY:=qh (fun w' (k:Same w w')=>rt_lay S A ba bl bc body hbl (by omega) hnil hring hsize hw64 hnl w' (hat.same k) (h.st.ns.same k))
 have LB:=qh (show(layR S.r.ring S.nsize S.nwords body).length≤90000∧Bts (layR S.r.ring S.nsize S.nwords body)∧layR S.r.ring S.nsize S.nwords body≠[]from by
  have h1:=putSmall_len S.r.ring;have h2:=putSmall_len S.nsize;have h3:=putW_len S.nwords
  refine⟨by unfold layR;simp only[List.length_append];omega,((putSmall_bts _).app (putSmall_bts _)).app (putW_bts _)|>.app hbb,by unfold layR putSmall;simp⟩)
 have OK:=qh hok
 have HG:=qh hgen
 have NO:=qh (fun(er:Nat) (he:putSlE (gen:Int) (layR S.r.ring S.nsize S.nwords body).length=er) (h0:er≠0) W (k:Same w W)=>show R (.returned (.tuple #[rsV S A,.int .i64 (er:Nat)])) W from by
  rw[←HR.out]
  have e:S.rwr slot gen body=(S,er):=by unfold Sto.rwr;rw[he,if_pos h0]
  rw[e]
  exact⟨A,rfl,H.out.same k,k⟩)
 have EN:=qh (fun(he:putSlE (gen:Int) (layR S.r.ring S.nsize S.nwords body).length=0) (D1:Dsk) (e1:Nat) (a1:Option Addr) (c1:Nat) (hd:(S.wq7 slot gen body).2≠0∧S.wq7 slot gen body=(D1,e1)∨(S.wq7 slot gen body).2=0∧syncD (S.wq7 slot gen body).1=(D1,e1)) W (k:Same w W) (hs:SecsAt W a1 D1.s) (hp:Apt a1 fp)=>show R (.returned (.tuple #[rsV (S.didS D1 e1) {A with a:=a1,c:=c1},.int .i64 (e1:Nat)])) W from by
  rw[←HR.out]
  have e:S.rwr slot gen body=(S.didS D1 e1,e1):=by
   unfold Sto.rwr
   rw[he,if_neg (by decide)]
   rcases hd with⟨q1,q2⟩|⟨q1,q2⟩
   ·rw[if_pos q1,q2]
   ·rw[if_neg (by omega),q2]
  rw[e]
  have h2:=H.out.same k
  exact⟨{A with a:=a1,c:=c1},rfl,⟨⟨hs,h2.st.ns,h2.st.cs,h2.st.bs,h2.st.nnil,h2.st.cnil,h2.st.bnil,h2.st.bcap,h2.st.bl⟩,h2.lt,hp,h2.pn,h2.pc,h2.pb⟩,k⟩)
 have HWQ:=qh (show wrAll S.D (slot*4) (putSl gen (layR S.r.ring S.nsize S.nwords body))=S.wq7 slot gen body from rfl)
 obtain⟨L,hL⟩:∃L,layR S.r.ring S.nsize S.nwords body=L:=⟨_,rfl⟩
 rw[hL]at LY LB NO EN HWQ
 obtain⟨q,hq⟩:∃q,S.wq7 slot gen body=q:=⟨_,rfl⟩
 rw[hq]at EN HWQ
 have PU:=qh (fun a c w' (hat:NatsAt w' .u8 a L) (hn:a=none→c=0)=>rs_put (gen:Int) (by omega) a L.length c L rfl LB.out.2.1 (by have:=LB.out.1;omega) hn w' hat)
 obtain⟨nL,hnL⟩:∃nL,L.length=nL:=⟨_,rfl⟩
 obtain⟨er0,her⟩:∃er0,putSlE (gen:Int) L.length=er0:=⟨_,rfl⟩
 rw[her]at NO EN
 unfold SputPost at PU
 rw[her,hnL]at PU
 have HER:=qh her
 have HNL:=qh hnL
 rw[hnL]at HER
 clear hR h hbl h700 hbb hnil hring hsize hw64 hnl hat hok hgen hL hq her hnL
 unfold rsV rsC at LY ⊢
 go_enter Tryz.func96,Tryz.ntmps96
 go_upto_region 1 with fail
 obtain⟨y,hy⟩:∃y,w.heap.size=y:=⟨_,rfl⟩
 rw[hy]
 refine cutWl (fun wn=>Fr wn [(y,#[.slice A.a S.D.s.length A.c,.bool S.D.off,.int .i64 S.D.calls,.int .i64 S.D.after,.bool S.D.done,.int .i64 (S.r.ring:Nat),.int .i64 (S.nsize:Nat),.slice A.na S.nwords.length A.nc,.int .i64 (S.r.size:Nat),.slice A.ca S.r.words.length A.cc,.slice A.ba S.r.body.length A.bc,.int .i64 (S.r.gen:Nat),.int .i64 (S.r.slot:Nat),.bool S.bad],107),(y+1,#[.slice none 0 0,.bool false,.int .i64 0,.int .i64 0,.bool false,.int .i64 0,.int .i64 0,.slice none 0 0,.int .i64 0,.slice none 0 0,.slice none 0 0,.int .i64 0,.int .i64 0,.bool false],107)]∧Same w wn) ⟨⟨(Blk.new' _ _ _ hy.symm).alloc _,Blk.new' _ _ _ (by simp[hy]),trivial⟩,((Kept.refl _ _).alloc _).alloc _⟩ ?_
 rintro w4 ⟨hf4,k4⟩
 have F4:=qh hf4
 have K4:=qh k4
 have HY:=qh hy
 have p0:=cell_blk hf4.1
 clear hf4 k4 hy
 go_wp2_with fail
 with_reducible refine(LY.out w4 K4.out).mono ?_
 rintro e w5 ⟨⟨v5,rfl,o5⟩,k5⟩
 obtain⟨a5,l5,c5,rfl,hl5,hn5,hat5, -⟩:=o5.rd
 obtain rfl:nL=l5:=HNL.out.symm.trans hl5.out.symm
 have K5:=qh (K4.out.trans k5)
 have F5:=qh (F4.out.same k5)
 clear k5 LY p0 o5 hl5 K4 F4
 have p5:=cell_blk F5.out.1
 go_wp2_with fail
 with_reducible refine(PU.out a5 c5 w5 hat5.out hn5.out).mono ?_
 rintro e w6 ⟨⟨v6,rfl,o6⟩,k6⟩
 obtain⟨a6,c6,rfl, -⟩:=o6.rowsAt
 have O6:=qh o6
 have K6:=qh (K5.out.trans k6)
 have F6:=qh (F5.out.same k6)
 have Z5:=qh (show y<w5.heap.size from F5.out.1.lt)
 clear k6 PU p5 o6 K5 F5 hat5 hn5
 obtain⟨p0,f0,p1,f1, -⟩:=F6.out.rules
 have z0:=F6.out.1.lt
 have z1:=F6.out.2.1.lt
 by_cases h0:er0=0
 ·subst h0
  rw[if_pos rfl]at O6 ⊢
  have EE:=qh (EN.out rfl)
  clear EN NO
  obtain⟨ro,hro⟩:∃ro,putSl ((gen:Nat):Int).toNat L=ro:=⟨_,rfl⟩
  have RL:=qh (show ro.length=4 from by rw[←hro];exact putSl_len _ _)
  have RB:=qh (show∀b∈ro,Bts b from by
   rw[←hro]
   refine putSl_bts ?_ LB.out.2.1
   have h1:=HER.out
   have h2:=HNL.out
   unfold putSlE at h1
   split at h1
   ·cases h1
   ·split at h1
    ·cases h1
    ·omega)
  have HQ:=qh (show wrAll S.D (slot*4) ro=q from by rw[←hro];exact HWQ.out)
  rw[hro]at O6 ⊢
  clear hro HWQ LB
  rw[RL.out]
  have DS:=qh (show SecsAt w6 A.a S.D.s∧Apt A.a fp from⟨H.out.st.ds.same K6.out,H.out.pa⟩)
  have LT:=qh H.out.lt
  have HX:=qh (show S.D.s=[]∨∀x,A.a=some x→x.block≠y∧x.block≠y+1 from(secsAt_lt H.out.st.ds).imp_right (fun h x hx=>by have:=h x hx;have:=HY.out;omega))
  dsimp only[List.length_nil]
  clear HR H
  go_wp2_with fail
  go_loopw [11,12] (fun ev t wr=>∃(i er:Nat) (D':Dsk) (a':Option Addr) (c':Nat) (bd:Bool),t=.int .i64 i∧ev=.int .i64 (er:Nat)∧i≤4∧D'.OK∧(bd=(S.bad||decide (er≠0)))∧SecsAt wr a' D'.s∧Apt a' fp∧Fr wr [(y,#[.slice a' D'.s.length c',.bool D'.off,.int .i64 D'.calls,.int .i64 D'.after,.bool D'.done,.int .i64 (S.r.ring:Nat),.int .i64 (S.nsize:Nat),.slice A.na S.nwords.length A.nc,.int .i64 (S.r.size:Nat),.slice A.ca S.r.words.length A.cc,.slice A.ba S.r.body.length A.bc,.int .i64 (S.r.gen:Nat),.int .i64 (S.r.slot:Nat),.bool bd],107),(y+1,#[.slice none 0 0,.bool false,.int .i64 0,.int .i64 0,.bool false,.int .i64 0,.int .i64 0,.slice none 0 0,.int .i64 0,.slice none 0 0,.slice none 0 0,.int .i64 0,.int .i64 0,.bool false],107)]∧(er=0∧q=wrAll D' (slot*4+i) (ro.drop i)∨er≠0∧q=(D',er))∧(D'.s=[]∨∀x,a'=some x→x.block≠y∧x.block≠y+1)∧Kept (fun j=>j=y) w6 wr) (fun _ t _=>4 - (intOf t).toNat)
  case atStart=>exact⟨0,0,S.D,A.a,A.c,S.bad,rfl,rfl,by omega,OK.out,by simp,DS.out.1,DS.out.2,F6.out,.inl ⟨rfl,HQ.out.symm⟩,HX.out,Kept.refl _ _⟩
  case round=>
   obtain⟨i,er,D',a',c',bd,rfl,rfl,hi,hok,hbd,hsec,hap,hfr,hst,hax,hk⟩:=hrel
   have HBD:=qh hbd;have OK':=qh hok;have SEC:=qh hsec;have AP:=qh hap;have F:=qh hfr;have ST:=qh hst;have AX:=qh hax;have KF:=qh hk
   have K:=qh (K6.out.step hk (fun i hi q=>by have:=HY.out;omega))
   have O7:=qh (O6.out.kept hk (fun j hj q=>by have:=Z5.out;omega))
   clear hok hbd hsec hap hfr hst hax hk F6 K6 O6 p0 f0 p1 f1 z0 z1
   obtain⟨p0,f0,p1,f1, -⟩:=F.out.rules;have z0:=F.out.1.lt;have z1:=F.out.2.1.lt
   by_cases he0:er=0
   ·subst he0
    have HQ':Hid (q=wrAll D' (slot*4+i) (ro.drop i)):=by
     rcases ST.out with r|r
     ·exact r.2
     ·exact absurd rfl r.1
    have BD:bd=S.bad:=by rw[HBD.out];simp
    subst BD
    clear ST HBD
    by_cases hgo:i<4
    ·have hil:i<ro.length:=by rw[RL.out];exact hgo
     obtain⟨bk,off,xa,xn,xc,rfl, -,hxn,hxc,hcc⟩:=rows_at O7.out.at' hil
     obtain⟨cx, -⟩:=hcc wr (Kept.refl _ _)
     have HXX:=qh (fun w' (k:Same wr w')=>(hcc w' k).2)
     have HC:=qh (fun w' (k:Same wr w')=>(hcc w' k).1)
     have HWS:=qh (show q=if(writeD D' (4*(slot:Int)+(i:Int)) ro[i]).2=0 then wrAll (writeD D' (4*(slot:Int)+(i:Int)) ro[i]).1 (slot*4+(i+1)) (ro.drop (i+1))else writeD D' (4*(slot:Int)+(i:Int)) ro[i]from by
      rw[HQ'.out,List.drop_eq_getElem_cons hil]
      show(if(writeD D' ((slot*4+i:Nat):Int) ro[i]).2=0 then _ else _)=_
      rw[show((slot*4+i:Nat):Int)=4*(slot:Int)+(i:Int)from by omega]
      rfl)
     have XB:=RB.out ro[i] (List.getElem_mem _)
     generalize ro[i]=X at HXX hxn XB HWS
     have SW:=qh (fun w' (k:Same wr w')=>rs_write a' D'.s.length c' D' rfl OK'.out.few OK'.out.aft (4*(slot:Int)+(i:Int)) xa xn xc X hxn w' (SEC.out.same k) (HXX.out w' k))
     have WOK:=qh (writeD_ok OK'.out (4*(slot:Int)+(i:Int)) XB)
     have WLN:=qh (writeD_len D' (4*(slot:Int)+(i:Int)) X)
     obtain⟨V,hV⟩:∃V,writeD D' (4*(slot:Int)+(i:Int)) X=V:=⟨_,rfl⟩
     rw[hV]at SW WOK HWS WLN
     obtain⟨D2,er⟩:=V
     dsimp only at SW WOK HWS WLN
     obtain⟨b2,hb2⟩:∃b2,(S.bad||decide (er≠0))=b2:=⟨_,rfl⟩
     have HB2:=qh hb2
     have DI:Hid (∀a7 c7 w',Calls Tryz.prog 115 #[.agg #[.slice a' D'.s.length c',.bool D'.off,.int .i64 D'.calls,.int .i64 D'.after,.bool D'.done,.int .i64 (S.r.ring:Nat),.int .i64 (S.nsize:Nat),.slice A.na S.nwords.length A.nc,.int .i64 (S.r.size:Nat),.slice A.ca S.r.words.length A.cc,.slice A.ba S.r.body.length A.bc,.int .i64 (S.r.gen:Nat),.int .i64 (S.r.slot:Nat),.bool S.bad],.agg #[.slice a7 D2.s.length c7,.bool D2.off,.int .i64 D2.calls,.int .i64 D2.after,.bool D2.done],.int .i64 (er:Nat)] w' fun e w''=>e=.returned (.tuple #[.agg #[.slice a7 D2.s.length c7,.bool D2.off,.int .i64 D2.calls,.int .i64 D2.after,.bool D2.done,.int .i64 (S.r.ring:Nat),.int .i64 (S.nsize:Nat),.slice A.na S.nwords.length A.nc,.int .i64 (S.r.size:Nat),.slice A.ca S.r.words.length A.cc,.slice A.ba S.r.body.length A.bc,.int .i64 (S.r.gen:Nat),.int .i64 (S.r.slot:Nat),.bool b2],.int .i64 (er:Nat)])∧Same w' w''):=fun a7 c7 w'=>by
      rw[←hb2]
      exact rt_did {S with D:=D'} {A with a:=a',c:=c'} a7 c7 D2 er w'
     have QX:=qh (show∀w',Same wr w'→(∀i,w'.cell? ⟨y,i,none⟩=(#[.slice a' D'.s.length c',.bool D'.off,.int .i64 D'.calls,.int .i64 D'.after,.bool D'.done,.int .i64 (S.r.ring:Nat),.int .i64 (S.nsize:Nat),.slice A.na S.nwords.length A.nc,.int .i64 (S.r.size:Nat),.slice A.ca S.r.words.length A.cc,.slice A.ba S.r.body.length A.bc,.int .i64 (S.r.gen:Nat),.int .i64 (S.r.slot:Nat),.bool S.bad]:Array Value)[i]?)∧w'.cell? ⟨bk,off+i,none⟩=some (.slice xa xn xc)∧True∧True from fun w' k=>⟨cell_blk (F.out.1.kept k (fun h=>h)),HC.out w' k,trivial,trivial⟩)
     have g1:(i:Int)<4:=by omega
     have g0:(0:Int)≤(i:Int):=by omega
     have gw1:IntKind.i64.wrap (4*(slot:Int))=4*(slot:Int):=by rw[IntKind.wrap_i64];omega
     have gw2:IntKind.i64.wrap (4*(slot:Int)+(i:Int))=4*(slot:Int)+(i:Int):=by rw[IntKind.wrap_i64];omega
     unfold refV at SW
     clear hcc hxc hxn hV hb2 hil
     go_wp2_with fail
     refine wp_region_T (S:=fun w'=>Same wr w') 18 (by kernel_rfl) (Kept.refl _ _).drew (fun hHeld hDn=>?_)
     refine wpT_z 0 32 QX hHeld hDn fun hDn=>?_
     refine wpT_z 1 33 QX hHeld hDn fun hDn=>?_
     refine wpT_z 2 34 QX hHeld hDn fun hDn=>?_
     refine wpT_z 3 35 QX hHeld hDn fun hDn=>?_
     refine wpT_z 4 36 QX hHeld hDn fun hDn=>?_
     refine wpT_z 5 37 QX hHeld hDn fun hDn=>?_
     refine wpT_z 6 38 QX hHeld hDn fun hDn=>?_
     refine wpT_z 7 39 QX hHeld hDn fun hDn=>?_
     refine wpT_z 8 40 QX hHeld hDn fun hDn=>?_
     refine wpT_z 9 41 QX hHeld hDn fun hDn=>?_
     refine wpT_z 10 42 QX hHeld hDn fun hDn=>?_
     refine wpT_one (i:=11) rfl (by kernel_rfl) hDn (fun K' hK=>?_)
     go_simp
     refine(SW.out _ (Kept.refl _ _).drew).mono ?_
     rintro e w7 ⟨a7,c7,rfl,⟨hs7,hf7⟩,k7⟩
     have HS7:=qh hs7;have HF7:=qh hf7
     have K7:=qh (show Same wr w7 from((Kept.refl _ _).drew).trans k7)
     have D7:=qh (DI.out a7 c7 w7)
     simp only[refV]
     refine hK.out _ _ K7.out (fun hHeld2 hDn2=>?_)
     clear hK K' hHeld hDn
     have hHeld:=hHeld2;have hDn:=hDn2
     clear hHeld2 hDn2
     clear hs7 hf7 k7 SW DI
     refine wpT_zw 12 44 hHeld hDn fun hDn=>?_
     refine wpT_zw 13 45 hHeld hDn fun hDn=>?_
     refine wpT_one (i:=14) rfl (by kernel_rfl) hDn (fun K' hK=>?_)
     go_simp
     refine D7.out.mono ?_
     rintro e w8 ⟨rfl,k8⟩
     have K8:=qh (K7.out.trans k8)
     have HS8:=qh (HS7.out.same k8)
     refine hK.out _ _ K8.out (fun hHeld2 hDn2=>?_)
     clear hK K' hHeld hDn
     have hHeld:=hHeld2;have hDn:=hDn2
     clear hHeld2 hDn2
     clear k8 D7 HS7 K7
     refine wpT_zw 15 31 hHeld hDn fun hDn=>?_
     refine wpT_zw 16 47 hHeld hDn fun hDn=>?_
     obtain⟨q0,e0,q1,e1, -⟩:=(F.out.same K8.out).rules
     have y0:=(F.out.same K8.out).1.lt
     have y1:=(F.out.same K8.out).2.1.lt
     refine wpT_zw 17 48 hHeld hDn fun hDn=>?_
     refine wpT_last rfl (by kernel_rfl) hDn (fun K hK=>?_)
     go_simp
     refine hK.out _ _ (fun hDn'=>?_)
     clear hK K hDn hHeld;have hDn:=hDn';clear hDn'
     refine wpT_ze 19 11 hDn fun hDn=>?_
     refine wpT_done (by kernel_rfl) ?_ _
     have KK8:=qh (K.out.trans K8.out)
     have R8:=qh (show Blk w8 y #[.slice a' D'.s.length c',.bool D'.off,.int .i64 D'.calls,.int .i64 D'.after,.bool D'.done,.int .i64 (S.r.ring:Nat),.int .i64 (S.nsize:Nat),.slice A.na S.nwords.length A.nc,.int .i64 (S.r.size:Nat),.slice A.ca S.r.words.length A.cc,.slice A.ba S.r.body.length A.bc,.int .i64 (S.r.gen:Nat),.int .i64 (S.r.slot:Nat),.bool S.bad] 107 from(F.out.same K8.out).1)
     have R9:=qh (show Blk w8 (y+1) #[.slice none 0 0,.bool false,.int .i64 0,.int .i64 0,.bool false,.int .i64 0,.int .i64 0,.slice none 0 0,.int .i64 0,.slice none 0 0,.slice none 0 0,.int .i64 0,.int .i64 0,.bool false] 107 from(F.out.same K8.out).2.1)
     have KF8:=qh (KF.out.trans (K8.out.mono (fun _ _ r=>r.elim)))
     have AX8:Hid (D2.s=[]∨∀x,a7=some x→x.block≠y∧x.block≠y+1):=by
      rcases HF7.out with r|r
      ·subst r
       rcases AX.out with z|z
       ·exact .inl (List.eq_nil_of_length_eq_zero (by rw[WLN.out,z];rfl))
       ·exact .inr z
      ·exact .inr (fun x hx=>by have h1:wr.heap.size≤x.block:=r x hx;omega)
     have AP8:Hid (Apt a7 fp):=by
      rcases HF7.out with r|r
      ·subst r;exact AP.out
      ·exact far_apt r (fun g hg=>Nat.lt_of_lt_of_le (LT.out g hg) K.out.size)
     have NX:Hid (er=0∧q=wrAll D2 (slot*4+(i+1)) (ro.drop (i+1))∨er≠0∧q=(D2,er)):=by
      have h1:=HWS.out
      by_cases h2:er=0
      ·rw[if_pos h2]at h1;exact .inl ⟨h2,h1⟩
      ·rw[if_neg h2]at h1;exact .inr ⟨h2,h1⟩
     clear hDn QX SEC OK' AX AP F KF K HWS p0 f0 p1 f1 q0 e0 q1 e1 z0 HC HXX cx gw1 gw2 O7 HQ' HF7
     go_wp2_with fail
     go_roundw
     case rel=>
      refine⟨i+1,er,D2,a7,c7,b2,by go_num,rfl,by omega,WOK.out,HB2.out.symm,?_,AP8.out,⟨?_,?_,trivial⟩,NX.out,AX8.out,?_⟩
      ·refine HS8.out.kept (fp:=fun j=>j=y) ?_ (AX8.out.imp_right (fun h x hx=>(h x hx).1))
       (repeat(with_reducible first|exact Kept.refl _ _|refine Kept.drew ?_ |refine Kept.setG ?_ _ _))
      ·with_reducible exact Blk.set14 R8.out
      ·refine R9.out.kept (fp:=fun j=>j=y) ?_ (by omega)
       (repeat(with_reducible first|exact Kept.refl _ _|refine Kept.drew ?_ |refine Kept.setG ?_ _ _))
      ·repeat(with_reducible first|exact KF8.out|refine Kept.drew ?_ |refine Kept.setG ?_ _ _)
     case measure=>simp[intOf];omega
    ·have e4:i=4:=by omega
     subst e4
     have HQ4:=HQ'.out
     rw[List.drop_eq_nil_of_le (by rw[RL.out];omega)]at HQ4
     have hq4:q=(D',0):=HQ4
     have SY:=qh (fun w' (k:Same wr w')=>rs_sync a' D'.s.length c' D' rfl OK'.out.few OK'.out.aft w' (SEC.out.same k))
     have WLN:=qh (syncD_len D')
     have FI0:=qh (fun D1 e1 a1 c1 (h:syncD D'=(D1,e1))=>EE.out D1 e1 a1 c1 (.inr ⟨by rw[hq4],by rw[hq4];exact h⟩))
     obtain⟨V,hV⟩:∃V,syncD D'=V:=⟨_,rfl⟩
     rw[hV]at SY WLN FI0
     obtain⟨D2,er⟩:=V
     dsimp only at SY WLN
     have FI:=qh (fun a1 c1=>FI0.out D2 er a1 c1 rfl)
     obtain⟨b2,hb2⟩:∃b2,(S.bad||decide (er≠0))=b2:=⟨_,rfl⟩
     have HB2:=qh hb2
     have DI:Hid (∀a7 c7 w',Calls Tryz.prog 115 #[.agg #[.slice a' D'.s.length c',.bool D'.off,.int .i64 D'.calls,.int .i64 D'.after,.bool D'.done,.int .i64 (S.r.ring:Nat),.int .i64 (S.nsize:Nat),.slice A.na S.nwords.length A.nc,.int .i64 (S.r.size:Nat),.slice A.ca S.r.words.length A.cc,.slice A.ba S.r.body.length A.bc,.int .i64 (S.r.gen:Nat),.int .i64 (S.r.slot:Nat),.bool S.bad],.agg #[.slice a7 D2.s.length c7,.bool D2.off,.int .i64 D2.calls,.int .i64 D2.after,.bool D2.done],.int .i64 (er:Nat)] w' fun e w''=>e=.returned (.tuple #[.agg #[.slice a7 D2.s.length c7,.bool D2.off,.int .i64 D2.calls,.int .i64 D2.after,.bool D2.done,.int .i64 (S.r.ring:Nat),.int .i64 (S.nsize:Nat),.slice A.na S.nwords.length A.nc,.int .i64 (S.r.size:Nat),.slice A.ca S.r.words.length A.cc,.slice A.ba S.r.body.length A.bc,.int .i64 (S.r.gen:Nat),.int .i64 (S.r.slot:Nat),.bool b2],.int .i64 (er:Nat)])∧Same w' w''):=fun a7 c7 w'=>by
      rw[←hb2]
      exact rt_did {S with D:=D'} {A with a:=a',c:=c'} a7 c7 D2 er w'
     have QX:=qh (show∀w',Same wr w'→(∀i,w'.cell? ⟨y,i,none⟩=(#[.slice a' D'.s.length c',.bool D'.off,.int .i64 D'.calls,.int .i64 D'.after,.bool D'.done,.int .i64 (S.r.ring:Nat),.int .i64 (S.nsize:Nat),.slice A.na S.nwords.length A.nc,.int .i64 (S.r.size:Nat),.slice A.ca S.r.words.length A.cc,.slice A.ba S.r.body.length A.bc,.int .i64 (S.r.gen:Nat),.int .i64 (S.r.slot:Nat),.bool S.bad]:Array Value)[i]?)from fun w' k=>cell_blk (F.out.1.kept k (fun h=>h)))
     have hnot:¬((4:Nat):Int)<4:=by omega
     unfold refV at SY
     clear hV hb2 HQ4 hq4 FI0 EE HQ RB HQ' O7
     go_wp2_with fail
     refine wp_region_T (S:=fun w'=>Same wr w') 9 (by kernel_rfl) (Kept.refl _ _).drew (fun hHeld hDn=>?_)
     refine wpT_z 0 53 QX hHeld hDn fun hDn=>?_
     refine wpT_z 1 54 QX hHeld hDn fun hDn=>?_
     refine wpT_z 2 55 QX hHeld hDn fun hDn=>?_
     refine wpT_one (i:=3) rfl (by kernel_rfl) hDn (fun K' hK=>?_)
     go_simp
     refine(SY.out _ (Kept.refl _ _).drew).mono ?_
     rintro e w7 ⟨a7,c7,rfl,⟨hs7,hf7⟩,k7⟩
     have HS7:=qh hs7;have HF7:=qh hf7
     have K7:=qh (show Same wr w7 from((Kept.refl _ _).drew).trans k7)
     have D7:=qh (DI.out a7 c7 w7)
     simp only[refV]
     refine hK.out _ _ K7.out (fun hHeld2 hDn2=>?_)
     clear hK K' hHeld hDn
     have hHeld:=hHeld2;have hDn:=hDn2
     clear hHeld2 hDn2
     clear hs7 hf7 k7 SY DI
     refine wpT_zw 4 57 hHeld hDn fun hDn=>?_
     refine wpT_zw 5 58 hHeld hDn fun hDn=>?_
     refine wpT_one (i:=6) rfl (by kernel_rfl) hDn (fun K' hK=>?_)
     go_simp
     refine D7.out.mono ?_
     rintro e w8 ⟨rfl,k8⟩
     have K8:=qh (K7.out.trans k8)
     have HS8:=qh (HS7.out.same k8)
     refine hK.out _ _ K8.out (fun hHeld2 hDn2=>?_)
     clear hK K' hHeld hDn
     have hHeld:=hHeld2;have hDn:=hDn2
     clear hHeld2 hDn2
     clear k8 D7 HS7 K7
     refine wpT_zw 7 60 hHeld hDn fun hDn=>?_
     obtain⟨q0,e0,q1,e1, -⟩:=(F.out.same K8.out).rules
     have y0:=(F.out.same K8.out).1.lt
     have y1:=(F.out.same K8.out).2.1.lt
     refine wpT_zw 8 61 hHeld hDn fun hDn=>?_
     refine wpT_last rfl (by kernel_rfl) hDn (fun K hK=>?_)
     go_simp
     refine hK.out _ _ (fun hDn'=>?_)
     clear hK K hDn hHeld;have hDn:=hDn';clear hDn'
     refine wpT_ze 10 9 hDn fun hDn=>?_
     refine wpT_done (by kernel_rfl) ?_ _
     have KK8:=qh (K.out.trans K8.out)
     have R9:=qh (show Blk w8 (y+1) #[.slice none 0 0,.bool false,.int .i64 0,.int .i64 0,.bool false,.int .i64 0,.int .i64 0,.slice none 0 0,.int .i64 0,.slice none 0 0,.slice none 0 0,.int .i64 0,.int .i64 0,.bool false] 107 from(F.out.same K8.out).2.1)
     have AX8:Hid (D2.s=[]∨∀x,a7=some x→x.block≠y∧x.block≠y+1):=by
      rcases HF7.out with r|r
      ·subst r
       rcases AX.out with z|z
       ·exact .inl (List.eq_nil_of_length_eq_zero (by rw[WLN.out,z];rfl))
       ·exact .inr z
      ·exact .inr (fun x hx=>by have h1:wr.heap.size≤x.block:=r x hx;omega)
     have AP8:Hid (Apt a7 fp):=by
      rcases HF7.out with r|r
      ·subst r;exact AP.out
      ·exact far_apt r (fun g hg=>Nat.lt_of_lt_of_le (LT.out g hg) K.out.size)
     clear hDn QX SEC OK' AX AP F KF K p0 f0 p1 f1 q0 e0 q1 e1 HF7
     go_wp2_with fail
     (try simp only[Exit.inBlock,Exit.then])
     refine cutE (fun W=>Blk W (y+1) #[.slice a7 D2.s.length c7,.bool D2.off,.int .i64 D2.calls,.int .i64 D2.after,.bool D2.done,.int .i64 (S.r.ring:Nat),.int .i64 (S.nsize:Nat),.slice A.na S.nwords.length A.nc,.int .i64 (S.r.size:Nat),.slice A.ca S.r.words.length A.cc,.slice A.ba S.r.body.length A.bc,.int .i64 (S.r.gen:Nat),.int .i64 (S.r.slot:Nat),.bool b2] 107∧Same w W∧SecsAt W a7 D2.s) ⟨by with_reducible exact Blk.set14 R9.out,by with_reducible exact Kept.set14 KK8.out (by have:=HY.out;omega),?_⟩ ?_
     ·refine HS8.out.kept (fp:=fun j=>j=y+1) ?_ (AX8.out.imp_right (fun h x hx=>(h x hx).2))
      (repeat(with_reducible first|exact Kept.refl _ _|refine Kept.drew ?_ |refine Kept.setG ?_ _ _))
     rintro wz ⟨bz,kz,sz⟩
     refine bodyPost_ret (results_ctmp (b:=.int .i64 ((er:Nat):Int)) rfl _ _ _ _ _ _ rfl bz rfl rfl rfl (by kernel_rfl)) rfl ?_
     rw[←HB2.out]
     exact FI.out a7 c7 wz kz sz AP8.out
   ·have ER:=ST.out.resolve_left (fun r=>he0 r.1)
    have hc1:(((er:Nat):Int)==0)=false:=by simpa using he0
    have hc2:(((er:Nat):Int) !=0)=true:=by simpa using he0
    have FI:=qh (EE.out D' er a' c' (.inl ⟨by rw[ER.2];exact he0,ER.2⟩))
    have B1:=qh (show Blk wr (y+1) #[.slice none 0 0,.bool false,.int .i64 0,.int .i64 0,.bool false,.int .i64 0,.int .i64 0,.slice none 0 0,.int .i64 0,.slice none 0 0,.slice none 0 0,.int .i64 0,.int .i64 0,.bool false] 107 from F.out.2.1)
    clear EE ST ER HQ RB
    by_cases hgo:i<4
    ·have g1:(i:Int)<4:=by omega
     go_wp2_with fail
     (try simp only[Exit.inBlock,Exit.then])
     refine cutE (fun W=>Blk W (y+1) #[.slice a' D'.s.length c',.bool D'.off,.int .i64 D'.calls,.int .i64 D'.after,.bool D'.done,.int .i64 (S.r.ring:Nat),.int .i64 (S.nsize:Nat),.slice A.na S.nwords.length A.nc,.int .i64 (S.r.size:Nat),.slice A.ca S.r.words.length A.cc,.slice A.ba S.r.body.length A.bc,.int .i64 (S.r.gen:Nat),.int .i64 (S.r.slot:Nat),.bool bd] 107∧Same w W∧SecsAt W a' D'.s) ⟨by with_reducible exact Blk.set14 B1.out,by with_reducible exact Kept.set14 K.out (by have:=HY.out;omega),?_⟩ ?_
     ·refine SEC.out.kept (fp:=fun j=>j=y+1) ?_ (AX.out.imp_right (fun h x hx=>(h x hx).2))
      (repeat(with_reducible first|exact Kept.refl _ _|refine Kept.drew ?_ |refine Kept.setG ?_ _ _))
     rintro wz ⟨bz,kz,sz⟩
     refine bodyPost_ret (results_ctmp (b:=.int .i64 ((er:Nat):Int)) rfl _ _ _ _ _ _ rfl bz rfl rfl rfl (by kernel_rfl)) rfl ?_
     rw[HBD.out]
     exact FI.out wz kz sz AP.out
    ·have g1:¬(i:Int)<4:=by omega
     go_wp2_with fail
     (try simp only[Exit.inBlock,Exit.then])
     refine cutE (fun W=>Blk W (y+1) #[.slice a' D'.s.length c',.bool D'.off,.int .i64 D'.calls,.int .i64 D'.after,.bool D'.done,.int .i64 (S.r.ring:Nat),.int .i64 (S.nsize:Nat),.slice A.na S.nwords.length A.nc,.int .i64 (S.r.size:Nat),.slice A.ca S.r.words.length A.cc,.slice A.ba S.r.body.length A.bc,.int .i64 (S.r.gen:Nat),.int .i64 (S.r.slot:Nat),.bool bd] 107∧Same w W∧SecsAt W a' D'.s) ⟨by with_reducible exact Blk.set14 B1.out,by with_reducible exact Kept.set14 K.out (by have:=HY.out;omega),?_⟩ ?_
     ·refine SEC.out.kept (fp:=fun j=>j=y+1) ?_ (AX.out.imp_right (fun h x hx=>(h x hx).2))
      (repeat(with_reducible first|exact Kept.refl _ _|refine Kept.drew ?_ |refine Kept.setG ?_ _ _))
     rintro wz ⟨bz,kz,sz⟩
     refine bodyPost_ret (results_ctmp (b:=.int .i64 ((er:Nat):Int)) rfl _ _ _ _ _ _ rfl bz rfl rfl rfl (by kernel_rfl)) rfl ?_
     rw[HBD.out]
     exact FI.out wz kz sz AP.out
 ·rw[if_neg h0]
  have h0':(((er0:Nat):Int)==0)=false:=by simpa using h0
  have h0'':(((er0:Nat):Int) !=0)=true:=by simpa using h0
  have H0:=qh h0
  clear h0 O6 EN
  dsimp only[List.length_nil]
  go_wp2_with fail
  go_loopw [11,12] (fun ev t wr=>t=.int .i64 0∧ev=.int .i64 (er0:Nat)∧Same w6 wr) (fun _ _ _=>0)
  case atStart=>exact⟨rfl,rfl,Kept.refl _ _⟩
  case round=>
   obtain⟨rfl,rfl,hk⟩:=hrel
   have F7:=qh (F6.out.same hk)
   have K7:=qh (K6.out.trans hk)
   clear F6 K6 p0 f0 p1 f1 z0 z1 hk
   obtain⟨p0,f0,p1,f1, -⟩:=F7.out.rules
   have z0:=F7.out.1.lt
   have z1:=F7.out.2.1.lt
   go_wp2_with fail
   have NE:=qh (NO.out er0 rfl H0.out)
   have B1:=qh (show Blk wr (y+1) #[.slice none 0 0,.bool false,.int .i64 0,.int .i64 0,.bool false,.int .i64 0,.int .i64 0,.slice none 0 0,.int .i64 0,.slice none 0 0,.slice none 0 0,.int .i64 0,.int .i64 0,.bool false] 107 from F7.out.2.1)
   clear NO HR
   (try simp only[Exit.inBlock,Exit.then])
   refine cutE (fun W=>Blk W (y+1) #[.slice A.a S.D.s.length A.c,.bool S.D.off,.int .i64 S.D.calls,.int .i64 S.D.after,.bool S.D.done,.int .i64 (S.r.ring:Nat),.int .i64 (S.nsize:Nat),.slice A.na S.nwords.length A.nc,.int .i64 (S.r.size:Nat),.slice A.ca S.r.words.length A.cc,.slice A.ba S.r.body.length A.bc,.int .i64 (S.r.gen:Nat),.int .i64 (S.r.slot:Nat),.bool S.bad] 107∧Same w W) ⟨by with_reducible exact Blk.set14 B1.out,by with_reducible exact Kept.set14 K7.out (by have:=HY.out;omega)⟩ ?_
   rintro wz ⟨bz,kz⟩
   refine bodyPost_ret (results_ctmp (b:=.int .i64 ((er0:Nat):Int)) rfl _ _ _ _ _ _ rfl bz rfl rfl rfl (by kernel_rfl)) rfl ?_
   exact NE.out _ kz
end
section
open Go.RowKit Go.Sort Go.Shelf
theorem Blk.set67{w:World}{b:Nat}{v0 v1 v2 v3 v4 v5 v6 v7 v8 v9 v10 v11 v12 v13 u6 u7:Value}{t:TypeId}(h:Blk w b #[v0,v1,v2,v3,v4,v5,v6,v7,v8,v9,v10,v11,v12,v13] t):
 Blk ((w.setCell ⟨b,6,none⟩ u6).setCell ⟨b,7,none⟩ u7) b #[v0,v1,v2,v3,v4,v5,u6,u7,v8,v9,v10,v11,v12,v13] t:=by
 have h0:Blk _ b #[v0,v1,v2,v3,v4,v5,u6,v7,v8,v9,v10,v11,v12,v13] t:=h.set 6 u6
 exact h0.set 7 u7
theorem rt_forget(S:Sto)(A:RA)(fp:Nat→Prop)(w:World)(h:RSp w S A fp):
 Calls Tryz.prog 69 #[rsV S A] w (RtP w S.forget.1 S.forget.2 fp):=by
 obtain⟨R,hR⟩:∃R,RtP w S.forget.1 S.forget.2 fp=R:=⟨_,rfl⟩
 rw[hR]
 have NO:=qh (fun(hb:S.bad=true) W (k:Same w W)=>show R (.returned (.tuple #[rsV S A,.int .i64 11])) W from by
  rw[←hR]
  have e:S.forget=(S,11):=by unfold Sto.forget;rw[if_pos hb]
  rw[e]
  exact⟨A,rfl,h.same k,k⟩)
 have YES:=qh (fun(hb:S.bad=false) W (k:Same w W)=>show R (.returned (.tuple #[.agg #[.slice A.a S.D.s.length A.c,.bool S.D.off,.int .i64 S.D.calls,.int .i64 S.D.after,.bool S.D.done,.int .i64 (S.r.ring:Nat),.int .i64 (S.r.size:Nat),.slice A.ca S.r.words.length A.cc,.int .i64 (S.r.size:Nat),.slice A.ca S.r.words.length A.cc,.slice A.ba S.r.body.length A.bc,.int .i64 (S.r.gen:Nat),.int .i64 (S.r.slot:Nat),.bool S.bad],.int .i64 0])) W from by
  rw[←hR]
  have e:S.forget=({S with nsize:=S.r.size,nwords:=S.r.words},0):=by unfold Sto.forget;rw[if_neg (by rw[hb];decide)]
  rw[e]
  have h2:=h.same k
  exact⟨{A with na:=A.ca,nc:=A.cc},rfl,⟨⟨h2.st.ds,h2.st.cs,h2.st.cs,h2.st.bs,h2.st.cnil,h2.st.cnil,h2.st.bnil,h2.st.bcap,h2.st.bl⟩,h2.lt,h2.pa,h2.pc,h2.pc,h2.pb⟩,k⟩)
 obtain⟨bd,hbd⟩:∃bd,S.bad=bd:=⟨_,rfl⟩
 unfold rsV rsC at NO ⊢
 rw[hbd]at NO YES ⊢
 clear hR h hbd
 go_enter Tryz.func69,Tryz.ntmps69
 go_upto_region 1 with fail
 obtain⟨y,hy⟩:∃y,w.heap.size=y:=⟨_,rfl⟩
 rw[hy]
 refine cutWl (fun wn=>Fr wn [(y,#[.slice A.a S.D.s.length A.c,.bool S.D.off,.int .i64 S.D.calls,.int .i64 S.D.after,.bool S.D.done,.int .i64 (S.r.ring:Nat),.int .i64 (S.nsize:Nat),.slice A.na S.nwords.length A.nc,.int .i64 (S.r.size:Nat),.slice A.ca S.r.words.length A.cc,.slice A.ba S.r.body.length A.bc,.int .i64 (S.r.gen:Nat),.int .i64 (S.r.slot:Nat),.bool bd],107),(y+1,#[.slice none 0 0,.bool false,.int .i64 0,.int .i64 0,.bool false,.int .i64 0,.int .i64 0,.slice none 0 0,.int .i64 0,.slice none 0 0,.slice none 0 0,.int .i64 0,.int .i64 0,.bool false],107)]∧Same w wn) ⟨⟨(Blk.new' _ _ _ hy.symm).alloc _,Blk.new' _ _ _ (by simp[hy]),trivial⟩,((Kept.refl _ _).alloc _).alloc _⟩ ?_
 rintro w4 ⟨hf4,k4⟩
 have F4:=qh hf4
 have K4:=qh k4
 have HY:=qh hy
 obtain⟨p0,f0,p1,f1, -⟩:=F4.out.rules
 have z0:=F4.out.1.lt
 have z1:=F4.out.2.1.lt
 have B0:=qh (show Blk w4 y #[.slice A.a S.D.s.length A.c,.bool S.D.off,.int .i64 S.D.calls,.int .i64 S.D.after,.bool S.D.done,.int .i64 (S.r.ring:Nat),.int .i64 (S.nsize:Nat),.slice A.na S.nwords.length A.nc,.int .i64 (S.r.size:Nat),.slice A.ca S.r.words.length A.cc,.slice A.ba S.r.body.length A.bc,.int .i64 (S.r.gen:Nat),.int .i64 (S.r.slot:Nat),.bool bd] 107 from F4.out.1)
 have B1:=qh (show Blk w4 (y+1) #[.slice none 0 0,.bool false,.int .i64 0,.int .i64 0,.bool false,.int .i64 0,.int .i64 0,.slice none 0 0,.int .i64 0,.slice none 0 0,.slice none 0 0,.int .i64 0,.int .i64 0,.bool false] 107 from F4.out.2.1)
 clear hf4 k4 hy
 cases bd
 ·clear NO
  go_upto_region 4 with fail
  refine cutWl (fun wn=>Fr wn [(y,#[.slice A.a S.D.s.length A.c,.bool S.D.off,.int .i64 S.D.calls,.int .i64 S.D.after,.bool S.D.done,.int .i64 (S.r.ring:Nat),.int .i64 (S.r.size:Nat),.slice A.ca S.r.words.length A.cc,.int .i64 (S.r.size:Nat),.slice A.ca S.r.words.length A.cc,.slice A.ba S.r.body.length A.bc,.int .i64 (S.r.gen:Nat),.int .i64 (S.r.slot:Nat),.bool false],107),(y+1,#[.slice none 0 0,.bool false,.int .i64 0,.int .i64 0,.bool false,.int .i64 0,.int .i64 0,.slice none 0 0,.int .i64 0,.slice none 0 0,.slice none 0 0,.int .i64 0,.int .i64 0,.bool false],107)]∧Same w wn) ⟨⟨by with_reducible exact Blk.set67 B0.out,?_,trivial⟩,?_⟩ ?_
  ·refine B1.out.kept (fp:=fun j=>j=y) ?_ (by omega)
   (repeat(with_reducible first|exact Kept.refl _ _|refine Kept.setG ?_ _ _))
  ·repeat(with_reducible first|exact K4.out|refine Kept.setNew ?_ (by have:=HY.out;dsimp only;omega) _)
  rintro w5 ⟨hf5,k5⟩
  have F5:=qh hf5
  have K5:=qh k5
  clear p0 f0 p1 f1 z0 z1 F4 B0 B1 hf5 k5 K4
  obtain⟨p0,f0,p1,f1, -⟩:=F5.out.rules
  have z0:=F5.out.1.lt
  have z1:=F5.out.2.1.lt
  have B1:=qh (show Blk w5 (y+1) #[.slice none 0 0,.bool false,.int .i64 0,.int .i64 0,.bool false,.int .i64 0,.int .i64 0,.slice none 0 0,.int .i64 0,.slice none 0 0,.slice none 0 0,.int .i64 0,.int .i64 0,.bool false] 107 from F5.out.2.1)
  go_wp2_with fail
  (try simp only[Exit.inBlock,Exit.then])
  refine cutE (fun W=>Blk W (y+1) #[.slice A.a S.D.s.length A.c,.bool S.D.off,.int .i64 S.D.calls,.int .i64 S.D.after,.bool S.D.done,.int .i64 (S.r.ring:Nat),.int .i64 (S.r.size:Nat),.slice A.ca S.r.words.length A.cc,.int .i64 (S.r.size:Nat),.slice A.ca S.r.words.length A.cc,.slice A.ba S.r.body.length A.bc,.int .i64 (S.r.gen:Nat),.int .i64 (S.r.slot:Nat),.bool false] 107∧Same w W) ⟨by with_reducible exact Blk.set14 B1.out,by with_reducible exact Kept.set14 K5.out (by have:=HY.out;omega)⟩ ?_
  rintro wz ⟨bz,kz⟩
  refine bodyPost_ret (results_ctmp (b:=.int .i64 0) rfl _ _ _ _ _ _ rfl bz rfl rfl rfl (by kernel_rfl)) rfl ?_
  exact YES.out trivial wz kz
 ·clear YES
  go_wp2_with fail
  (try simp only[Exit.inBlock,Exit.then])
  refine cutE (fun W=>Blk W (y+1) #[.slice A.a S.D.s.length A.c,.bool S.D.off,.int .i64 S.D.calls,.int .i64 S.D.after,.bool S.D.done,.int .i64 (S.r.ring:Nat),.int .i64 (S.nsize:Nat),.slice A.na S.nwords.length A.nc,.int .i64 (S.r.size:Nat),.slice A.ca S.r.words.length A.cc,.slice A.ba S.r.body.length A.bc,.int .i64 (S.r.gen:Nat),.int .i64 (S.r.slot:Nat),.bool true] 107∧Same w W) ⟨by with_reducible exact Blk.set14 B1.out,by with_reducible exact Kept.set14 K4.out (by have:=HY.out;omega)⟩ ?_
  rintro wz ⟨bz,kz⟩
  refine bodyPost_ret (results_ctmp (b:=.int .i64 11) rfl _ _ _ _ _ _ rfl bz rfl rfl rfl (by kernel_rfl)) rfl ?_
  exact NO.out trivial wz kz
end
end Go.Proofs.YtmiglhlbhbfodaaGreatDoor
