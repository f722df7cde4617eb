/- GRtC: Rt12, Rt13. -/
import Derived.Test.YtmiglhlbhbfodaaGreatDoorGRtB
set_option maxHeartbeats 12000000
set_option maxRecDepth 100000
namespace Go.Proofs.YtmiglhlbhbfodaaGreatDoor
section
open Go.RowKit Go.Sort Go.Shelf
theorem Blk.setCm{w:World}{b:Nat}{v0 v1 v2 v3 v4 v5 v6 v7 v8 v9 v10 v11 v12 v13 u8 u9 u11 u12:Value}{t:TypeId}(h:Blk w b #[v0,v1,v2,v3,v4,v5,v6,v7,v8,v9,v10,v11,v12,v13] t):
 Blk ((((w.setCell ⟨b,11,none⟩ u11).setCell ⟨b,12,none⟩ u12).setCell ⟨b,8,none⟩ u8).setCell ⟨b,9,none⟩ u9) b #[v0,v1,v2,v3,v4,v5,v6,v7,u8,u9,v10,u11,u12,v13] t:=by
 have h0:Blk _ b #[v0,v1,v2,v3,v4,v5,v6,v7,v8,v9,v10,u11,v12,v13] t:=h.set 11 u11
 have h1:Blk _ b #[v0,v1,v2,v3,v4,v5,v6,v7,v8,v9,v10,u11,u12,v13] t:=h0.set 12 u12
 have h2:Blk _ b #[v0,v1,v2,v3,v4,v5,v6,v7,u8,v9,v10,u11,u12,v13] t:=h1.set 8 u8
 exact h2.set 9 u9
theorem Blk.setTen{w:World}{b:Nat}{v0 v1 v2 v3 v4 v5 v6 v7 v8 v9 v10 v11 v12 v13 u:Value}{t:TypeId}(h:Blk w b #[v0,v1,v2,v3,v4,v5,v6,v7,v8,v9,v10,v11,v12,v13] t):
 Blk (w.setCell ⟨b,10,none⟩ u) b #[v0,v1,v2,v3,v4,v5,v6,v7,v8,v9,u,v11,v12,v13] t:=h.set 10 u
theorem RSp.kept{w w':World}{fp fq:Nat→Prop}{S:Sto}{A:RA}(h:RSp w S A fp)(k:Kept fq w w')(hq:∀j,fq j→fp j):RSp w' S A fp:=
 ⟨⟨h.st.ds.kept k (.inr (fun x hx q=>h.pa x hx (hq _ q))),h.st.ns.kept k (fun x hx q=>h.pn x hx (hq _ q)),h.st.cs.kept k (fun x hx q=>h.pc x hx (hq _ q)),h.st.bs.kept k (fun x hx q=>h.pb x hx (hq _ q)),h.st.nnil,h.st.cnil,h.st.bnil,h.st.bcap,fun x hx=>Nat.lt_of_lt_of_le (h.st.bl x hx) k.size⟩,fun g hg=>Nat.lt_of_lt_of_le (h.lt g hg) k.size,h.pa,h.pn,h.pc,h.pb⟩
theorem RSp.mono{w:World}{fp fq:Nat→Prop}{S:Sto}{A:RA}(h:RSp w S A fp)(hq:∀j,fq j→fp j):RSp w S A fq:=
 ⟨h.st,fun g hg=>h.lt g (hq g hg),h.pa.mono hq,h.pn.mono hq,h.pc.mono hq,h.pb.mono hq⟩
theorem natsAt_lt{w:World}{k:IntKind}{a:Option Addr}{xs:List Nat}(h:NatsAt w k a xs)(hne:xs≠[]):∀x,a=some x→x.block<w.heap.size:=by
 rcases h with h|⟨b,o,rfl,hlt,_⟩
 ·exact absurd h hne
 ·exact fun x hx=>by cases hx;exact hlt
theorem RSp.more{w w':World}{fp fq:Nat→Prop}{S:Sto}{A:RA}(h:RSp w S A fp)(k:Same w w')(hD:S.D.s≠[])(hn:S.nwords≠[])(hr:S.r.words≠[])(hq:∀j,fq j→fp j∨w.heap.size≤j)(hl:∀j,fq j→j<w'.heap.size):RSp w' S A fq:=by
 have e:∀{a:Option Addr},Apt a fp→(∀x,a=some x→x.block<w.heap.size)→Apt a fq:=fun h1 h2 x hx q=>by
  rcases hq _ q with z|z
  ·exact h1 x hx z
  ·have:=h2 x hx;omega
 exact⟨h.st.same k,hl,e h.pa ((secsAt_lt h.st.ds).resolve_left hD),e h.pn (natsAt_lt h.st.ns hn),e h.pc (natsAt_lt h.st.cs hr),e h.pb h.st.bl⟩
theorem rwr_same(S:Sto)(slot gen:Nat)(body:List Nat):∃D' b',(S.rwr slot gen body).1={S with D:=D',bad:=b'}:=by
 unfold Sto.rwr Sto.didS
 split
 ·exact⟨S.D,S.bad,rfl⟩
 ·split
  ·exact⟨_,_,rfl⟩
  ·exact⟨_,_,rfl⟩
theorem commit_rwr(S:Sto)(body:List Nat)(hb:S.bad=false)(hl:¬700<body.length)(hs:(syncD S.D).2=0):
 (¬(max S.r.gen (seenD S.synD)+1>1099511627776))→
 S.commit body=(if((S.didS S.synD 0).rwr (1 - S.r.slot) (max S.r.gen (seenD S.synD)+1) body).2=0 then({((S.didS S.synD 0).rwr (1 - S.r.slot) (max S.r.gen (seenD S.synD)+1) body).1 with r:=S.nextR body},0)else(S.didS S.synD 0).rwr (1 - S.r.slot) (max S.r.gen (seenD S.synD)+1) body):=by
 intro _
 unfold Sto.commit
 rw[if_neg (by rw[hb];decide),if_neg hl,if_neg (by omega)]
 unfold Sto.write Sto.rwr Sto.wq7
 have e1:putR (S.nextR body)=layR (S.didS S.synD 0).r.ring (S.didS S.synD 0).nsize (S.didS S.synD 0).nwords body:=rfl
 have e2:(S.nextR body).gen=max S.r.gen (seenD S.synD)+1:=rfl
 have e3:(S.nextR body).slot=1 - S.r.slot:=rfl
 rw[e1,e2,e3]
 have e4:(S.didS S.synD 0).D=S.synD:=rfl
 simp only[e4]
 generalize layR (S.didS S.synD 0).r.ring (S.didS S.synD 0).nsize (S.didS S.synD 0).nwords body=L
 generalize max S.r.gen (seenD S.synD)+1=g
 generalize wrAll S.synD ((1 - S.r.slot)*4) (putSl g L)=q
 by_cases h1:putSlE (g:Int) L.length≠0
 ·simp only[h1,if_true,ne_eq,not_false_iff]
  simp only[Sto.didS,hb]
  rfl
 ·simp only[h1,if_false]
  by_cases h2:q.2≠0
  ·simp only[h2,if_true,ne_eq,not_false_iff,if_false,Sto.did,Sto.didS,hb]
   rfl
  ·simp only[h2,if_false]
   by_cases h3:(syncD q.1).2≠0
   ·simp only[h3,if_true,ne_eq,not_false_iff,if_false,Sto.did,Sto.didS,hb]
    rfl
   ·have h4:(syncD q.1).2=0:=by omega
    simp only[h4,Sto.didS,hb,Sto.nextR]
    rfl
theorem commit_big(S:Sto)(body:List Nat)(hb:S.bad=false)(hl:¬700<body.length)(hs:(syncD S.D).2=0)(hg:max S.r.gen (seenD S.synD)+1>1099511627776):S.commit body=(S.didS S.synD 0,9):=by
 unfold Sto.commit
 rw[if_neg (by rw[hb];decide),if_neg hl,if_neg (by omega)]
 unfold Sto.write
 have e:putSlE ((S.nextR body).gen:Int) (putR (S.nextR body)).length=9:=by
  unfold putSlE
  have e2:(S.nextR body).gen=max S.r.gen (seenD S.synD)+1:=rfl
  rw[e2,if_pos (by omega)]
 rw[e,if_pos (by decide)]
 simp only[Sto.didS,hb]
 rfl
section
attribute [local go_sem ↓] exec_app semAt_app
attribute [local go_sem] isApp_lit appA appX
theorem rt_commit(S:Sto)(A:RA)(fp:Nat→Prop)(hok:S.D.OK)(hslot:S.r.slot≤1)(hgen:S.r.gen≤1099511627776)(hD:S.D.s≠[])(hn0:S.nwords≠[])(hr0:S.r.words≠[])(ba:Option Addr)(bl bc:Nat)(body:List Nat)(hbl:bl=body.length)(hbb:Bts body)(hnil:ba=none→bc=0)(hring:S.r.ring≤1024)(hsize:S.nsize≤1024)(hw64:Words S.nwords)(hnl:S.nwords.length≤8)(w:World)(h:RSp w S A fp)(hat:NatsAt w .u8 ba body):
 Calls Tryz.prog 68 #[rsV S A,.slice ba bl bc] w (RtP w (S.commit body).1 (S.commit body).2 fp):=by
 obtain⟨R,hR⟩:∃R,RtP w (S.commit body).1 (S.commit body).2 fp=R:=⟨_,rfl⟩
 rw[hR]
 have FIN:=qh (fun(S':Sto) (k:Nat) (he:S.commit body=(S',k)) (A':RA) W (hr:RSp W S' A' fp) (kk:Same w W)=>show R (.returned (.tuple #[rsV S' A',.int .i64 (k:Nat)])) W from by
  rw[←hR,he]
  exact⟨A',rfl,hr,kk⟩)
 have CB:=qh (show S.bad=true→S.commit body=(S,11)from fun hb=>by unfold Sto.commit;rw[if_pos hb])
 have CL:=qh (show S.bad=false→700<body.length→S.commit body=(S,5)from fun hb hl=>by unfold Sto.commit;rw[if_neg (by rw[hb];decide),if_pos hl])
 have CS:=qh (show S.bad=false→¬700<body.length→(syncD S.D).2≠0→S.commit body=(S.didS (syncD S.D).1 (syncD S.D).2,(syncD S.D).2)from fun hb hl hs=>by unfold Sto.commit;rw[if_neg (by rw[hb];decide),if_neg hl,if_pos hs];rfl)
 have CW:=qh (commit_rwr S body)
 have CG:=qh (commit_big S body)
 have SY:=qh (fun w' (k:Same w w')=>rs_sync A.a S.D.s.length A.c S.D rfl hok.few hok.aft w' (h.st.ds.same k))
 have OK2:=qh (syncD_ok hok)
 have LN2:=qh (syncD_len S.D)
 have DI:=qh (fun a7 c7 w'=>rt_did S A a7 c7 (syncD S.D).1 (syncD S.D).2 w')
 have HD:=qh hD
 have PA:=qh (show(∀x,A.a=some x→x.block<w.heap.size)∧Apt A.a fp∧(∀g,fp g→g<w.heap.size)from⟨(secsAt_lt h.st.ds).resolve_left hD,h.pa,h.lt⟩)
 have RM:=qh (fun w' fq (k:Same w w') hq hl=>h.more (w':=w') (fq:=fq) k hD hn0 hr0 hq hl)
 have LB:=qh (show seenD S.synD≤1099511627776 from seenD_le _)
 have HB:=qh (show bl=body.length∧Bts body∧(ba=none→bc=0)∧NatsAt w .u8 ba body from⟨hbl,hbb,hnil,hat⟩)
 have HS:=qh (show S.r.slot≤1∧S.r.gen≤1099511627776∧S.r.ring≤1024∧S.nsize≤1024∧Words S.nwords∧S.nwords.length≤8 from⟨hslot,hgen,hring,hsize,hw64,hnl⟩)
 have H:=qh h
 have SD:=qh (show S.synD=(syncD S.D).1 from rfl)
 obtain⟨T,hT⟩:∃T,syncD S.D=T:=⟨_,rfl⟩
 rw[hT]at CS CW CG SY OK2 LN2 DI SD
 rw[SD.out]at CW CG LB
 obtain⟨D2,er⟩:=T
 dsimp only at CS CW CG SY OK2 LN2 DI SD LB
 obtain⟨bd,hbd⟩:∃bd,S.bad=bd:=⟨_,rfl⟩
 obtain⟨b2,hb2⟩:∃b2,(bd||decide (er≠0))=b2:=⟨_,rfl⟩
 have HB2:=qh (show(S.bad||decide (er≠0))=b2 from by rw[hbd];exact hb2)
 unfold Sto.didS at DI
 unfold rsV rsC at DI FIN ⊢
 unfold refV at SY DI
 dsimp only at DI
 rw[hbd]at CB CL CS CW CG DI ⊢
 rw[hb2]at DI
 have HBD:=qh hbd
 have hbl':((bl:Nat):Int)=((body.length:Nat):Int):=by rw[hbl]
 clear hR h hok hslot hgen hD hn0 hr0 hbb hnil hring hsize hw64 hnl hat hT hbd hb2 hbl' hbl
 obtain⟨n,hn⟩:∃n,body.length=n:=⟨_,rfl⟩
 have HNB:=qh hn
 rw[hn]at CL CS CW CG
 obtain rfl:bl=n:=HB.out.1.trans hn
 clear hn
 go_enter Tryz.func68,Tryz.ntmps68
 go_upto_region 1 with fail
 obtain⟨y,hy⟩:∃y,w.heap.size=y:=⟨_,rfl⟩
 rw[hy]
 refine cutWl (fun wn=>Fr wn [(y,#[.slice A.a S.D.s.length A.c,.bool S.D.off,.int .i64 S.D.calls,.int .i64 S.D.after,.bool S.D.done,.int .i64 (S.r.ring:Nat),.int .i64 (S.nsize:Nat),.slice A.na S.nwords.length A.nc,.int .i64 (S.r.size:Nat),.slice A.ca S.r.words.length A.cc,.slice A.ba S.r.body.length A.bc,.int .i64 (S.r.gen:Nat),.int .i64 (S.r.slot:Nat),.bool bd],107),(y+1,#[.slice none 0 0,.bool false,.int .i64 0,.int .i64 0,.bool false,.int .i64 0,.int .i64 0,.slice none 0 0,.int .i64 0,.slice none 0 0,.slice none 0 0,.int .i64 0,.int .i64 0,.bool false],107)]∧Same w wn) ⟨⟨(Blk.new' _ _ _ hy.symm).alloc _,Blk.new' _ _ _ (by simp[hy]),trivial⟩,((Kept.refl _ _).alloc _).alloc _⟩ ?_
 rintro w5 ⟨hf5,k5⟩
 have F5:=qh hf5
 have K5:=qh k5
 have HY:=qh hy
 obtain⟨p0,f0,p1,f1, -⟩:=F5.out.rules
 have z0:=F5.out.1.lt
 have z1:=F5.out.2.1.lt
 clear hf5 k5 hy
 cases bd
 ·by_cases h7:700<bl
  ·have g7:(700:Int)<(bl:Int):=by omega
   have FE:=qh (FIN.out S 5 (CL.out rfl h7) A)
   have B1:=qh (show Blk w5 (y+1) #[.slice none 0 0,.bool false,.int .i64 0,.int .i64 0,.bool false,.int .i64 0,.int .i64 0,.slice none 0 0,.int .i64 0,.slice none 0 0,.slice none 0 0,.int .i64 0,.int .i64 0,.bool false] 107 from F5.out.2.1)
   rw[HBD.out]at FE
   clear CB CL CS CW CG SY DI FIN RM
   go_wp2_with fail
   (try simp only[Exit.inBlock,Exit.then])
   refine cutE (fun W=>Blk W (y+1) #[.slice A.a S.D.s.length A.c,.bool S.D.off,.int .i64 S.D.calls,.int .i64 S.D.after,.bool S.D.done,.int .i64 (S.r.ring:Nat),.int .i64 (S.nsize:Nat),.slice A.na S.nwords.length A.nc,.int .i64 (S.r.size:Nat),.slice A.ca S.r.words.length A.cc,.slice A.ba S.r.body.length A.bc,.int .i64 (S.r.gen:Nat),.int .i64 (S.r.slot:Nat),.bool false] 107∧Same w W) ⟨by with_reducible exact Blk.set14 B1.out,by with_reducible exact Kept.set14 K5.out (by have:=HY.out;omega)⟩ ?_
   rintro wz ⟨bz,kz⟩
   refine bodyPost_ret (results_ctmp (b:=.int .i64 5) rfl _ _ _ _ _ _ rfl bz rfl rfl rfl (by kernel_rfl)) rfl ?_
   exact FE.out wz (H.out.same kz) kz
  ·have g7:¬(700:Int)<(bl:Int):=by omega
   have CS1:=qh (CS.out rfl h7)
   have CW1:=qh (CW.out rfl h7)
   have CG1:=qh (CG.out rfl h7)
   have N7:=qh (show bl≤700 from by omega)
   clear CB CL CS CW CG
   have QX:=qh (fun w' (k:Same w5 w')=>cell_blk (F5.out.1.kept k (fun h=>h)))
   go_upto_region 5 with fail
   go_cut [6,7]from 18 (fun s6 s7 W=>∃(g:Nat) (a7:Option Addr) (c7:Nat),s6=.pointer (some ⟨g,0,none⟩)∧s7=.int .i64 (er:Nat)∧y+2≤g∧Fr W [(y,#[.slice A.a S.D.s.length A.c,.bool S.D.off,.int .i64 S.D.calls,.int .i64 S.D.after,.bool S.D.done,.int .i64 (S.r.ring:Nat),.int .i64 (S.nsize:Nat),.slice A.na S.nwords.length A.nc,.int .i64 (S.r.size:Nat),.slice A.ca S.r.words.length A.cc,.slice A.ba S.r.body.length A.bc,.int .i64 (S.r.gen:Nat),.int .i64 (S.r.slot:Nat),.bool false],107),(y+1,#[.slice none 0 0,.bool false,.int .i64 0,.int .i64 0,.bool false,.int .i64 0,.int .i64 0,.slice none 0 0,.int .i64 0,.slice none 0 0,.slice none 0 0,.int .i64 0,.int .i64 0,.bool false],107),(g,#[.slice a7 D2.s.length c7,.bool D2.off,.int .i64 D2.calls,.int .i64 D2.after,.bool D2.done,.int .i64 (S.r.ring:Nat),.int .i64 (S.nsize:Nat),.slice A.na S.nwords.length A.nc,.int .i64 (S.r.size:Nat),.slice A.ca S.r.words.length A.cc,.slice A.ba S.r.body.length A.bc,.int .i64 (S.r.gen:Nat),.int .i64 (S.r.slot:Nat),.bool b2],107)]∧Same w W∧SecsAt W a7 D2.s∧(a7=A.a∨∀x,a7=some x→w5.heap.size≤x.block)∧(∀x,a7=some x→x.block≠g))
   case first=>
    refine wp_region_T (S:=fun w'=>Same w5 w') 11 (by kernel_rfl) (Kept.refl _ _).drew (fun hHeld hDn=>?_)
    refine wpT_z 0 19 QX hHeld hDn fun hDn=>?_
    refine wpT_z 1 20 QX hHeld hDn fun hDn=>?_
    refine wpT_z 2 21 QX hHeld hDn fun hDn=>?_
    refine wpT_two (i:=3) (j:=10) rfl rfl (by kernel_rfl) hDn (fun K' hK=>?_) (fun K' hK=>?_)
    ·go_simp
     refine(SY.out _ (K5.out.trans ((Kept.refl _ _).drew))).mono ?_
     rintro e w6 ⟨a7,c7,rfl,⟨hs7,hf7⟩,k7⟩
     have HS6:=qh hs7
     have HF7:=qh hf7
     have k6':=k7
     have K6:=qh (show Same w5 w6 from(((Kept.refl _ _).drew)).trans k7)
     have HA7:=qh (show a7=A.a∨∀x,a7=some x→w5.heap.size≤x.block from hf7.imp_right (fun h x hx=>Nat.le_trans (show Same w5 _ from((Kept.refl _ _).drew)).size (h x hx)))
     unfold refV
     refine hK.out _ _ K6.out (fun hHeld2 hDn2=>?_)
     clear hK K' hHeld hDn
     have hHeld:=hHeld2;have hDn:=hDn2
     clear hHeld2 hDn2
     clear k7 hs7 hf7
     refine wpT_zw 4 23 hHeld hDn fun hDn=>?_
     refine wpT_zw 5 24 hHeld hDn fun hDn=>?_
     refine wpT_two (i:=6) (j:=10) rfl rfl (by kernel_rfl) hDn (fun K' hK=>?_) (fun K' hK=>?_)
     ·go_simp
      refine(DI.out a7 c7 _).mono ?_
      rintro e w7 ⟨rfl,k7⟩
      have K7:=qh (show Same w5 w7 from(K6.out).trans k7)
      have k7':=k7
      refine hK.out _ _ K7.out (fun hHeld2 hDn2=>?_)
      clear hK K' hHeld hDn
      have hHeld:=hHeld2;have hDn:=hDn2
      clear hHeld2 hDn2
      clear k7
      refine wpT_zw 7 18 hHeld hDn fun hDn=>?_
      refine wpT_zw 8 26 hHeld hDn fun hDn=>?_
      refine wpT_zw 9 27 hHeld hDn fun hDn=>?_
      have HS7:=qh (HS6.out.same k7')
      refine wpT_one (i:=10) rfl (by kernel_rfl) hDn (fun K' hK=>?_)
      go_simp
      refine hK.out _ _ (K7.out.alloc _) (fun hHeld2 hDn2=>?_)
      clear hK K' hHeld hDn
      have hHeld:=hHeld2;have hDn:=hDn2
      clear hHeld2 hDn2
      refine cutT (fun wb=>Blk wb w7.heap.size #[.slice none 0 0,.bool false,.int .i64 0,.int .i64 0,.bool false,.int .i64 0,.int .i64 0,.slice none 0 0,.int .i64 0,.slice none 0 0,.slice none 0 0,.int .i64 0,.int .i64 0,.bool false] 107∧Same w7 wb) ⟨Blk.new _ _ _,(Kept.refl _ _).alloc _⟩ ?_
      rintro wb ⟨xb,kb⟩
      clear hHeld
      have K8:=qh (K7.out.trans kb)
      have hHeld:=K8.out
      have HS8:=qh (HS7.out.same kb)
      have GY:=qh (show y+2≤w7.heap.size from by have h1:=K7.out.size;have h2:=F5.out.2.1.lt;omega)
      have BG:=qh xb
      obtain⟨pg,fg, -⟩:=(show Fr _ [(w7.heap.size,#[.slice none 0 0,.bool false,.int .i64 0,.int .i64 0,.bool false,.int .i64 0,.int .i64 0,.slice none 0 0,.int .i64 0,.slice none 0 0,.slice none 0 0,.int .i64 0,.int .i64 0,.bool false],107)]from⟨BG.out,trivial⟩).rules
      have zg:=BG.out.lt
      refine wpT_last rfl (by kernel_rfl) hDn (fun K hK=>?_)
      go_simp
      refine hK.out _ _ (fun hDn'=>?_)
      clear hK K hDn hHeld;have hDn:=hDn';clear hDn'
      refine wpT_ze 12 7 hDn fun hDn=>?_
      refine wpT_done (by kernel_rfl) ?_ _
      have HX7:=qh (show∀x,a7=some x→x.block≠w7.heap.size from(fun x hx=>by have:=((secsAt_lt HS7.out).resolve_left (fun q=>HD.out (List.eq_nil_of_length_eq_zero (by rw[←LN2.out,q];rfl)))) x hx;omega))
      have F8:=qh (F5.out.same K8.out)
      have KK8:=qh (K5.out.trans K8.out)
      clear hDn QX p0 f0 p1 f1 z0 z1 pg fg zg
      go_wp2_with fail
      go_meet
      case rel=>
       refine⟨w7.heap.size,a7,c7,rfl,rfl,GY.out,⟨?_,?_,?_,trivial⟩,?_,?_,HA7.out,HX7.out⟩
       ·refine F8.out.1.kept (fp:=fun j=>j=w7.heap.size) ?_ (by have:=GY.out;omega)
        (repeat(with_reducible first|exact Kept.refl _ _|refine Kept.drew ?_ |refine Kept.setG ?_ _ _))
       ·refine F8.out.2.1.kept (fp:=fun j=>j=w7.heap.size) ?_ (by have:=GY.out;omega)
        (repeat(with_reducible first|exact Kept.refl _ _|refine Kept.drew ?_ |refine Kept.setG ?_ _ _))
       ·with_reducible exact Blk.set14 BG.out
       ·repeat(with_reducible first|exact KK8.out|refine Kept.setNew ?_ (by have:=GY.out;have:=HY.out;dsimp only;omega) _)
       ·refine HS8.out.kept (fp:=fun j=>j=w7.heap.size) ?_ (.inr HX7.out)
        (repeat(with_reducible first|exact Kept.refl _ _|refine Kept.drew ?_ |refine Kept.setG ?_ _ _))
     ·go_simp
      refine hK.out _ _ (K6.out.alloc _) (fun hHeld2 hDn2=>?_)
      clear hK K' hHeld hDn
      have hHeld:=hHeld2;have hDn:=hDn2
      clear hHeld2 hDn2
      refine cutT (fun wb=>Blk wb w6.heap.size #[.slice none 0 0,.bool false,.int .i64 0,.int .i64 0,.bool false,.int .i64 0,.int .i64 0,.slice none 0 0,.int .i64 0,.slice none 0 0,.slice none 0 0,.int .i64 0,.int .i64 0,.bool false] 107∧Same w6 wb) ⟨Blk.new _ _ _,(Kept.refl _ _).alloc _⟩ ?_
      rintro wb ⟨xb,kb⟩
      clear hHeld
      have KB:=qh (K6.out.trans kb)
      have hHeld:=KB.out
      have GY:=qh (show y+2≤w6.heap.size from by have h1:=K6.out.size;have h2:=F5.out.2.1.lt;omega)
      have HL6:=qh (show∀x,a7=some x→x.block<w6.heap.size from(secsAt_lt HS6.out).resolve_left (fun q=>HD.out (List.eq_nil_of_length_eq_zero (by rw[←LN2.out,q];rfl))))
      have HSb:=qh (HS6.out.same kb)
      refine wpT_one (i:=6) rfl (by kernel_rfl) hDn (fun K' hK=>?_)
      go_simp
      refine(DI.out a7 c7 _).mono ?_
      rintro e w7 ⟨rfl,k7⟩
      have K7:=qh (show Same w5 w7 from(KB.out).trans k7)
      have k7':=k7
      refine hK.out _ _ K7.out (fun hHeld2 hDn2=>?_)
      clear hK K' hHeld hDn
      have hHeld:=hHeld2;have hDn:=hDn2
      clear hHeld2 hDn2
      clear k7
      refine wpT_zw 7 18 hHeld hDn fun hDn=>?_
      refine wpT_zw 8 26 hHeld hDn fun hDn=>?_
      refine wpT_zw 9 27 hHeld hDn fun hDn=>?_
      have K8:=K7
      have HS8:=qh (HSb.out.same k7')
      have BG:=qh (xb.kept k7' (fun q=>q))
      obtain⟨pg,fg, -⟩:=(show Fr _ [(w6.heap.size,#[.slice none 0 0,.bool false,.int .i64 0,.int .i64 0,.bool false,.int .i64 0,.int .i64 0,.slice none 0 0,.int .i64 0,.slice none 0 0,.slice none 0 0,.int .i64 0,.int .i64 0,.bool false],107)]from⟨BG.out,trivial⟩).rules
      have zg:=BG.out.lt
      refine wpT_last rfl (by kernel_rfl) hDn (fun K hK=>?_)
      go_simp
      refine hK.out _ _ (fun hDn'=>?_)
      clear hK K hDn hHeld;have hDn:=hDn';clear hDn'
      refine wpT_ze 12 7 hDn fun hDn=>?_
      refine wpT_done (by kernel_rfl) ?_ _
      have HX7:=qh (show∀x,a7=some x→x.block≠w6.heap.size from(fun x hx=>by have:=HL6.out x hx;omega))
      have F8:=qh (F5.out.same K8.out)
      have KK8:=qh (K5.out.trans K8.out)
      clear hDn QX p0 f0 p1 f1 z0 z1 pg fg zg
      go_wp2_with fail
      go_meet
      case rel=>
       refine⟨w6.heap.size,a7,c7,rfl,rfl,GY.out,⟨?_,?_,?_,trivial⟩,?_,?_,HA7.out,HX7.out⟩
       ·refine F8.out.1.kept (fp:=fun j=>j=w6.heap.size) ?_ (by have:=GY.out;omega)
        (repeat(with_reducible first|exact Kept.refl _ _|refine Kept.drew ?_ |refine Kept.setG ?_ _ _))
       ·refine F8.out.2.1.kept (fp:=fun j=>j=w6.heap.size) ?_ (by have:=GY.out;omega)
        (repeat(with_reducible first|exact Kept.refl _ _|refine Kept.drew ?_ |refine Kept.setG ?_ _ _))
       ·with_reducible exact Blk.set14 BG.out
       ·repeat(with_reducible first|exact KK8.out|refine Kept.setNew ?_ (by have:=GY.out;have:=HY.out;dsimp only;omega) _)
       ·refine HS8.out.kept (fp:=fun j=>j=w6.heap.size) ?_ (.inr HX7.out)
        (repeat(with_reducible first|exact Kept.refl _ _|refine Kept.drew ?_ |refine Kept.setG ?_ _ _))
    ·go_simp
     refine hK.out _ _ (((Kept.refl _ _).alloc _).drew) (fun hHeld2 hDn2=>?_)
     clear hK K' hHeld hDn
     have hHeld:=hHeld2;have hDn:=hDn2
     clear hHeld2 hDn2
     refine cutT (fun wb=>Blk wb w5.heap.size #[.slice none 0 0,.bool false,.int .i64 0,.int .i64 0,.bool false,.int .i64 0,.int .i64 0,.slice none 0 0,.int .i64 0,.slice none 0 0,.slice none 0 0,.int .i64 0,.int .i64 0,.bool false] 107∧Same w5 wb) ⟨(Blk.new _ _ _).drew,((Kept.refl _ _).alloc _).drew⟩ ?_
     rintro wb ⟨xb,kb⟩
     clear hHeld
     have KB:=qh kb
     have hHeld:=KB.out
     have GY:=qh (show y+2≤w5.heap.size from by have h2:=F5.out.2.1.lt;omega)
     refine wpT_one (i:=3) rfl (by kernel_rfl) hDn (fun K' hK=>?_)
     go_simp
     refine(SY.out _ (K5.out.trans KB.out)).mono ?_
     rintro e w6 ⟨a7,c7,rfl,⟨hs7,hf7⟩,k7⟩
     have HS6:=qh hs7
     have HF7:=qh hf7
     have k6':=k7
     have K6:=qh (show Same w5 w6 from(KB.out).trans k7)
     have HA7:=qh (show a7=A.a∨∀x,a7=some x→w5.heap.size≤x.block from hf7.imp_right (fun h x hx=>Nat.le_trans (show Same w5 _ from KB.out).size (h x hx)))
     unfold refV
     refine hK.out _ _ K6.out (fun hHeld2 hDn2=>?_)
     clear hK K' hHeld hDn
     have hHeld:=hHeld2;have hDn:=hDn2
     clear hHeld2 hDn2
     clear k7 hs7 hf7
     refine wpT_zw 4 23 hHeld hDn fun hDn=>?_
     refine wpT_zw 5 24 hHeld hDn fun hDn=>?_
     have xb6:=xb.kept k6' (fun q=>q)
     refine wpT_one (i:=6) rfl (by kernel_rfl) hDn (fun K' hK=>?_)
     go_simp
     refine(DI.out a7 c7 _).mono ?_
     rintro e w7 ⟨rfl,k7⟩
     have K7:=qh (show Same w5 w7 from(K6.out).trans k7)
     have k7':=k7
     refine hK.out _ _ K7.out (fun hHeld2 hDn2=>?_)
     clear hK K' hHeld hDn
     have hHeld:=hHeld2;have hDn:=hDn2
     clear hHeld2 hDn2
     clear k7
     refine wpT_zw 7 18 hHeld hDn fun hDn=>?_
     refine wpT_zw 8 26 hHeld hDn fun hDn=>?_
     refine wpT_zw 9 27 hHeld hDn fun hDn=>?_
     have K8:=K7
     have HS8:=qh (HS6.out.same k7')
     have BG:=qh (xb6.kept k7' (fun q=>q))
     obtain⟨pg,fg, -⟩:=(show Fr _ [(w5.heap.size,#[.slice none 0 0,.bool false,.int .i64 0,.int .i64 0,.bool false,.int .i64 0,.int .i64 0,.slice none 0 0,.int .i64 0,.slice none 0 0,.slice none 0 0,.int .i64 0,.int .i64 0,.bool false],107)]from⟨BG.out,trivial⟩).rules
     have zg:=BG.out.lt
     refine wpT_last rfl (by kernel_rfl) hDn (fun K hK=>?_)
     go_simp
     refine hK.out _ _ (fun hDn'=>?_)
     clear hK K hDn hHeld;have hDn:=hDn';clear hDn'
     refine wpT_ze 12 7 hDn fun hDn=>?_
     refine wpT_done (by kernel_rfl) ?_ _
     have HX7:=qh (show∀x,a7=some x→x.block≠w5.heap.size from((HF7.out.elim (fun r x hx=>by have h1:=PA.out.1 x (by rw[←r];exact hx);have h2:=HY.out;have h3:=GY.out;omega) (fun r x hx=>by have h1:=r x hx;have h2:=xb.lt;omega))))
     have F8:=qh (F5.out.same K8.out)
     have KK8:=qh (K5.out.trans K8.out)
     clear hDn QX p0 f0 p1 f1 z0 z1 pg fg zg
     go_wp2_with fail
     go_meet
     case rel=>
      refine⟨w5.heap.size,a7,c7,rfl,rfl,GY.out,⟨?_,?_,?_,trivial⟩,?_,?_,HA7.out,HX7.out⟩
      ·refine F8.out.1.kept (fp:=fun j=>j=w5.heap.size) ?_ (by have:=GY.out;omega)
       (repeat(with_reducible first|exact Kept.refl _ _|refine Kept.drew ?_ |refine Kept.setG ?_ _ _))
      ·refine F8.out.2.1.kept (fp:=fun j=>j=w5.heap.size) ?_ (by have:=GY.out;omega)
       (repeat(with_reducible first|exact Kept.refl _ _|refine Kept.drew ?_ |refine Kept.setG ?_ _ _))
      ·with_reducible exact Blk.set14 BG.out
      ·repeat(with_reducible first|exact KK8.out|refine Kept.setNew ?_ (by have:=GY.out;have:=HY.out;dsimp only;omega) _)
      ·refine HS8.out.kept (fp:=fun j=>j=w5.heap.size) ?_ (.inr HX7.out)
       (repeat(with_reducible first|exact Kept.refl _ _|refine Kept.drew ?_ |refine Kept.setG ?_ _ _))
   case rest=>
    obtain⟨g,a7,c7,rfl,rfl,hg,hf,hk,hs,ha,hag⟩:=hcut
    obtain⟨fq,hfq⟩:∃fq:Nat→Prop,(fun j=>fp j∨j=y∨j=y+1∨j=g)=fq:=⟨_,rfl⟩
    have FQ:=qh (show∀j,fq j↔(fp j∨j=y∨j=y+1∨j=g)from fun j=>by rw[←hfq])
    have hfq1:∀j,fq j→fp j∨w.heap.size≤j:=fun j q=>by
     rcases(FQ.out j).1 q with z|z|z|z
     ·exact .inl z
     ·exact .inr (by have:=HY.out;omega)
     ·exact .inr (by have:=HY.out;omega)
     ·exact .inr (by have:=HY.out;omega)
    have hfq2:∀j,fq j→j<wc.heap.size:=fun j q=>by
     have h0:=hf.1.lt;have h1:=hf.2.1.lt;have h2:=hf.2.2.1.lt
     rcases(FQ.out j).1 q with z|z|z|z
     ·exact Nat.lt_of_lt_of_le (PA.out.2.2 j z) hk.size
     ·omega
     ·omega
     ·omega
    have RS0:=qh (RM.out wc fq hk hfq1 hfq2)
    have hpa:Apt a7 fq:=fun x hx q=>by
     rcases ha with r|r
     ·exact RS0.out.pa x (by rw[←r];exact hx) q
     ·have h1:=r x hx
      have h2:=F5.out.2.1.lt
      rcases(FQ.out _).1 q with z|z|z|z
      ·have:=PA.out.2.2 _ z;have:=K5.out.size;omega
      ·omega
      ·omega
      ·exact hag x hx z
    have RS:=qh (show RSp wc (S.didS D2 er) {A with a:=a7,c:=c7} fq from⟨⟨hs,RS0.out.st.ns,RS0.out.st.cs,RS0.out.st.bs,RS0.out.st.nnil,RS0.out.st.cnil,RS0.out.st.bnil,RS0.out.st.bcap,RS0.out.st.bl⟩,RS0.out.lt,hpa,RS0.out.pn,RS0.out.pc,RS0.out.pb⟩)
    have ES:S.didS D2 er={S with D:=D2,bad:=b2}:=by unfold Sto.didS;rw[HB2.out]
    rw[ES]at RS
    have CS2:=qh (show(er≠0)→S.commit body=({S with D:=D2,bad:=b2},er)from fun q=>by rw[←ES];exact CS1.out q)
    have F9:=qh hf
    have K9:=qh hk
    have HG:=qh hg
    clear p0 f0 p1 f1 z0 z1 hf hk hs ha hag QX SY DI F5 K5 RM RS0 hfq1 hfq2 hpa hg hfq
    obtain⟨p0,f0,p1,f1,p2,f2, -⟩:=F9.out.rules
    have z0:=F9.out.1.lt
    have z1:=F9.out.2.1.lt
    have z2:=F9.out.2.2.1.lt
    by_cases h0:er=0
    ·subst h0
     have BF:b2=false:=by rw[←HB2.out,HBD.out];rfl
     subst BF
     have CW2:=qh (CW1.out (by first|trivial|rfl))
     have CG2:=qh (CG1.out (by first|trivial|rfl))
     rw[ES]at CW2 CG2
     obtain⟨gn,hgn⟩:∃gn,max S.r.gen (seenD D2)+1=gn:=⟨_,rfl⟩
     have HGN:=qh hgn
     rw[hgn]at CW2 CG2
     have SE:=qh (fun w' (k:Same wc w')=>rt_seen a7 c7 D2 OK2.out w' (RS.out.st.ds.same k))
     unfold refV at SE
     obtain⟨sd,hsd⟩:∃sd,seenD D2=sd:=⟨_,rfl⟩
     rw[hsd]at SE HGN LB
     have HSD:=qh hsd
     have gmx:max (S.r.gen:Int) (sd:Int)=((gn - 1:Nat):Int):=by have:=HGN.out;omega
     have gwr:IntKind.i64.wrap (((gn - 1:Nat):Int)+1)=(gn:Int):=by have:=HGN.out;have:=HS.out.2.1;have:=LB.out;rw[IntKind.wrap_i64];omega
     clear hgn hsd CW1 CG1 CS1 CS2 ES
     have QX:=qh (fun w' (k:Same wc w')=>(⟨cell_blk (F9.out.1.kept k (fun h=>h)),cell_blk (F9.out.2.2.1.kept k (fun h=>h)),trivial,trivial⟩:(∀i,w'.cell? ⟨y,i,none⟩=(#[.slice A.a S.D.s.length A.c,.bool S.D.off,.int .i64 S.D.calls,.int .i64 S.D.after,.bool S.D.done,.int .i64 (S.r.ring:Nat),.int .i64 (S.nsize:Nat),.slice A.na S.nwords.length A.nc,.int .i64 (S.r.size:Nat),.slice A.ca S.r.words.length A.cc,.slice A.ba S.r.body.length A.bc,.int .i64 (S.r.gen:Nat),.int .i64 (S.r.slot:Nat),.bool false]:Array Value)[i]?)∧(∀i,w'.cell? ⟨g,i,none⟩=(#[.slice a7 D2.s.length c7,.bool D2.off,.int .i64 D2.calls,.int .i64 D2.after,.bool D2.done,.int .i64 (S.r.ring:Nat),.int .i64 (S.nsize:Nat),.slice A.na S.nwords.length A.nc,.int .i64 (S.r.size:Nat),.slice A.ca S.r.words.length A.cc,.slice A.ba S.r.body.length A.bc,.int .i64 (S.r.gen:Nat),.int .i64 (S.r.slot:Nat),.bool false]:Array Value)[i]?)∧True∧True))
     go_wp2_with fail
     refine wp_region_T (S:=fun w'=>Same wc w') 7 (by kernel_rfl) (Kept.refl _ _).drew (fun hHeld hDn=>?_)
     refine wpT_z 0 32 QX hHeld hDn fun hDn=>?_
     refine wpT_z 1 33 QX hHeld hDn fun hDn=>?_
     refine wpT_z 2 34 QX hHeld hDn fun hDn=>?_
     refine wpT_z 3 35 QX hHeld hDn fun hDn=>?_
     refine wpT_one (i:=4) rfl (by kernel_rfl) hDn (fun K' hK=>?_)
     go_simp
     refine(SE.out _ (Kept.refl _ _).drew).mono ?_
     rintro e w7 ⟨rfl,k7⟩
     have K7:=qh (show Same wc w7 from((Kept.refl _ _).drew).trans k7)
     refine hK.out _ _ K7.out (fun hHeld2 hDn2=>?_)
     clear hK K' hHeld hDn
     have hHeld:=hHeld2;have hDn:=hDn2
     clear hHeld2 hDn2
     clear k7 SE
     refine wpT_zw 5 37 hHeld hDn fun hDn=>?_
     refine wpT_zw 6 38 hHeld hDn fun hDn=>?_
     refine wpT_last rfl (by kernel_rfl) hDn (fun K hK=>?_)
     go_simp
     refine hK.out _ _ (fun hDn'=>?_)
     clear hK K hDn hHeld;have hDn:=hDn';clear hDn'
     refine wpT_done (by kernel_rfl) ?_ _
     have K10:=qh (K9.out.trans K7.out)
     have F10:=qh (F9.out.same K7.out)
     have RS10:=qh (RS.out.same K7.out)
     clear p0 f0 p1 f1 p2 f2 z0 z1 z2 F9 K9 RS K7 QX hDn gmx gwr
     obtain⟨p0,f0,p1,f1,p2,f2, -⟩:=F10.out.rules
     have z0:=F10.out.1.lt
     have z1:=F10.out.2.1.lt
     have z2:=F10.out.2.2.1.lt
     by_cases hbig:gn>1099511627776
     ·have g9:(1099511627776:Int)<(gn:Int):=by omega
      have FE:=qh (FIN.out {S with D:=D2,bad:=false} 9 (CG2.out hbig) {A with a:=a7,c:=c7})
      have B1:=qh (show Blk w7 (y+1) #[.slice none 0 0,.bool false,.int .i64 0,.int .i64 0,.bool false,.int .i64 0,.int .i64 0,.slice none 0 0,.int .i64 0,.slice none 0 0,.slice none 0 0,.int .i64 0,.int .i64 0,.bool false] 107 from F10.out.2.1)
      clear CW2 CG2 FIN hbig
      go_wp2_with fail
      (try simp only[Exit.inBlock,Exit.then])
      refine cutE (fun W=>Blk W (y+1) #[.slice a7 D2.s.length c7,.bool D2.off,.int .i64 D2.calls,.int .i64 D2.after,.bool D2.done,.int .i64 (S.r.ring:Nat),.int .i64 (S.nsize:Nat),.slice A.na S.nwords.length A.nc,.int .i64 (S.r.size:Nat),.slice A.ca S.r.words.length A.cc,.slice A.ba S.r.body.length A.bc,.int .i64 (S.r.gen:Nat),.int .i64 (S.r.slot:Nat),.bool false] 107∧Same w W∧RSp W {S with D:=D2,bad:=false} {A with a:=a7,c:=c7} fq) ⟨by with_reducible exact Blk.set14 B1.out,by with_reducible exact Kept.set14 K10.out (by have:=HY.out;omega),?_⟩ ?_
      ·refine RS10.out.kept (fq:=fun j=>j=y+1) ?_ (fun j q=>(FQ.out j).2 (.inr (.inr (.inl q))))
       (repeat(with_reducible first|exact Kept.refl _ _|refine Kept.drew ?_ |refine Kept.setG ?_ _ _))
      rintro wz ⟨bz,kz,rz⟩
      refine bodyPost_ret (results_ctmp (b:=.int .i64 9) rfl _ _ _ _ _ _ rfl bz rfl rfl rfl (by kernel_rfl)) rfl ?_
      have rz:=rz.mono (fq:=fp) (fun j q=>(FQ.out j).2 (.inl q))
      exact FE.out wz rz kz
     ·have g9:¬(1099511627776:Int)<(gn:Int):=by omega
      have CW3:=CW2.out hbig
      obtain⟨D3,b3,hq1⟩:=rwr_same {S with D:=D2,bad:=false} (1 - S.r.slot) gn body
      obtain⟨e3,he3⟩:∃e3,(({S with D:=D2,bad:=false}:Sto).rwr (1 - S.r.slot) gn body).2=e3:=⟨_,rfl⟩
      have WR0:=fun w' (k:Same w7 w') (hy:NatsAt w' .u8 ba body)=>rt_write {S with D:=D2,bad:=false} {A with a:=a7,c:=c7} fq OK2.out (1 - S.r.slot) gn (by omega) (by omega) ba bl bc body HB.out.1 (by have:=HNB.out;have:=N7.out;omega) HB.out.2.1 HB.out.2.2.1 HS.out.2.2.1 HS.out.2.2.2.1 HS.out.2.2.2.2.1 HS.out.2.2.2.2.2 w' (RS10.out.same k) hy
      rw[hq1,he3]at WR0
      have hq:({S with D:=D2,bad:=false}:Sto).rwr (1 - S.r.slot) gn body=({S with D:=D3,bad:=b3},e3):=Prod.ext hq1 he3
      rw[hq]at CW3
      dsimp only at CW3 WR0
      have CW4:=qh CW3
      have gws:IntKind.i64.wrap (1 - (S.r.slot:Int))=((1 - S.r.slot:Nat):Int):=by have:=HS.out.1;rw[IntKind.wrap_i64];omega
      have SL:=qh (show(S.nextR body).slot=1 - S.r.slot from rfl)
      obtain⟨sl2,hsl2⟩:∃sl2,1 - S.r.slot=sl2:=⟨_,rfl⟩
      rw[hsl2]at WR0 gws SL
      have WR:=qh (WR0 w7 (Kept.refl _ _) (HB.out.2.2.2.same K10.out))
      have N10:=qh (HB.out.2.2.2.same K10.out)
      have NG:=qh (show body=[]∨∀x,ba=some x→¬x.block=g from by
       by_cases q:body=[]
       ·exact .inl q
       ·exact .inr (fun x hx z=>by have:=natsAt_lt HB.out.2.2.2 q x hx;have:=HY.out;have:=HG.out;omega))
      clear hq hq1 he3 CW2 CG2 CW3 WR0 hsl2 hbig
      unfold rsV rsC at WR
      dsimp only at WR
      go_wp2_with fail
      with_reducible refine WR.out.mono ?_
      rintro e w8 ⟨A3,rfl,hr3,k8⟩
      have K11:=qh (K10.out.trans k8)
      have F11:=qh (F10.out.same k8)
      have N11:=qh (N10.out.same k8)
      have RS11:=qh hr3
      clear p0 f0 p1 f1 p2 f2 z0 z1 z2 F10 K10 RS10 N10 WR hr3 k8
      obtain⟨p0,f0,p1,f1,p2,f2, -⟩:=F11.out.rules
      have z0:=F11.out.1.lt
      have z1:=F11.out.2.1.lt
      have z2:=F11.out.2.2.1.lt
      have B2:=qh (show Blk w8 g #[.slice a7 D2.s.length c7,.bool D2.off,.int .i64 D2.calls,.int .i64 D2.after,.bool D2.done,.int .i64 (S.r.ring:Nat),.int .i64 (S.nsize:Nat),.slice A.na S.nwords.length A.nc,.int .i64 (S.r.size:Nat),.slice A.ca S.r.words.length A.cc,.slice A.ba S.r.body.length A.bc,.int .i64 (S.r.gen:Nat),.int .i64 (S.r.slot:Nat),.bool false] 107 from F11.out.2.2.1)
      unfold rsV rsC
      dsimp only
      go_upto_region 12 with fail
      refine cutWl (fun wn=>Fr wn [(y,#[.slice A.a S.D.s.length A.c,.bool S.D.off,.int .i64 S.D.calls,.int .i64 S.D.after,.bool S.D.done,.int .i64 (S.r.ring:Nat),.int .i64 (S.nsize:Nat),.slice A.na S.nwords.length A.nc,.int .i64 (S.r.size:Nat),.slice A.ca S.r.words.length A.cc,.slice A.ba S.r.body.length A.bc,.int .i64 (S.r.gen:Nat),.int .i64 (S.r.slot:Nat),.bool false],107),(y+1,#[.slice none 0 0,.bool false,.int .i64 0,.int .i64 0,.bool false,.int .i64 0,.int .i64 0,.slice none 0 0,.int .i64 0,.slice none 0 0,.slice none 0 0,.int .i64 0,.int .i64 0,.bool false],107),(g,#[.slice A3.a D3.s.length A3.c,.bool D3.off,.int .i64 D3.calls,.int .i64 D3.after,.bool D3.done,.int .i64 (S.r.ring:Nat),.int .i64 (S.nsize:Nat),.slice A3.na S.nwords.length A3.nc,.int .i64 (S.r.size:Nat),.slice A3.ca S.r.words.length A3.cc,.slice A3.ba S.r.body.length A3.bc,.int .i64 (S.r.gen:Nat),.int .i64 (S.r.slot:Nat),.bool b3],107)]∧Same w wn∧RSp wn {S with D:=D3,bad:=b3} A3 fq∧NatsAt wn .u8 ba body) ⟨⟨?_,?_,by with_reducible exact Blk.set14 B2.out,trivial⟩,?_,?_,?_⟩ ?_
      ·refine F11.out.1.kept (fp:=fun j=>j=g) ?_ (by have:=HG.out;omega)
       (repeat(with_reducible first|exact Kept.refl _ _|refine Kept.drew ?_ |refine Kept.setG ?_ _ _))
      ·refine F11.out.2.1.kept (fp:=fun j=>j=g) ?_ (by have:=HG.out;omega)
       (repeat(with_reducible first|exact Kept.refl _ _|refine Kept.drew ?_ |refine Kept.setG ?_ _ _))
      ·repeat(with_reducible first|exact K11.out|refine Kept.setNew ?_ (by have:=HG.out;have:=HY.out;dsimp only;omega) _)
      ·refine RS11.out.kept (fq:=fun j=>j=g) ?_ (fun j q=>(FQ.out j).2 (.inr (.inr (.inr q))))
       (repeat(with_reducible first|exact Kept.refl _ _|refine Kept.drew ?_ |refine Kept.setG ?_ _ _))
      ·refine N11.out.kept' (fp:=fun j=>j=g) ?_ NG.out
       (repeat(with_reducible first|exact Kept.refl _ _|refine Kept.drew ?_ |refine Kept.setG ?_ _ _))
      rintro w9 ⟨hf9,k9,hr9,hn9⟩
      have F12:=qh hf9
      have K12:=qh k9
      have RS12:=qh hr9
      have N12:=qh hn9
      clear p0 f0 p1 f1 p2 f2 z0 z1 z2 F11 K11 RS11 N11 B2 hf9 k9 hr9 hn9
      obtain⟨p0,f0,p1,f1,p2,f2, -⟩:=F12.out.rules
      have z0:=F12.out.1.lt
      have z1:=F12.out.2.1.lt
      have z2:=F12.out.2.2.1.lt
      by_cases h3:e3=0
      ·subst h3
       have CF:=qh (show S.commit body=({S with D:=D3,bad:=b3,r:=S.nextR body},0)from by rw[CW4.out,if_pos rfl])
       have GE:=qh (show(S.nextR body).gen=gn from by rw[←HGN.out];unfold Sto.nextR;rw[SD.out,HSD.out])
       clear CW4
       obtain⟨SS,hSS⟩:∃SS:World→Prop,(fun w'=>∃u11 u12,Blk w' y #[.slice A.a S.D.s.length A.c,.bool S.D.off,.int .i64 S.D.calls,.int .i64 S.D.after,.bool S.D.done,.int .i64 (S.r.ring:Nat),.int .i64 (S.nsize:Nat),.slice A.na S.nwords.length A.nc,.int .i64 (S.r.size:Nat),.slice A.ca S.r.words.length A.cc,.slice A.ba S.r.body.length A.bc,.int .i64 (S.r.gen:Nat),.int .i64 (S.r.slot:Nat),.bool false] 107∧Blk w' g #[.slice A3.a D3.s.length A3.c,.bool D3.off,.int .i64 D3.calls,.int .i64 D3.after,.bool D3.done,.int .i64 (S.r.ring:Nat),.int .i64 (S.nsize:Nat),.slice A3.na S.nwords.length A3.nc,.int .i64 (S.r.size:Nat),.slice A3.ca S.r.words.length A3.cc,.slice A3.ba S.r.body.length A3.bc,u11,u12,.bool b3] 107)=SS:=⟨_,rfl⟩
       have HSS:=qh (show∀w',SS w'↔∃u11 u12,Blk w' y #[.slice A.a S.D.s.length A.c,.bool S.D.off,.int .i64 S.D.calls,.int .i64 S.D.after,.bool S.D.done,.int .i64 (S.r.ring:Nat),.int .i64 (S.nsize:Nat),.slice A.na S.nwords.length A.nc,.int .i64 (S.r.size:Nat),.slice A.ca S.r.words.length A.cc,.slice A.ba S.r.body.length A.bc,.int .i64 (S.r.gen:Nat),.int .i64 (S.r.slot:Nat),.bool false] 107∧Blk w' g #[.slice A3.a D3.s.length A3.c,.bool D3.off,.int .i64 D3.calls,.int .i64 D3.after,.bool D3.done,.int .i64 (S.r.ring:Nat),.int .i64 (S.nsize:Nat),.slice A3.na S.nwords.length A3.nc,.int .i64 (S.r.size:Nat),.slice A3.ca S.r.words.length A3.cc,.slice A3.ba S.r.body.length A3.bc,u11,u12,.bool b3] 107 from fun w'=>by rw[←hSS])
       clear hSS
       have QX:=qh (fun w' (k:SS w')=>(by obtain⟨u11,u12,h1,h2⟩:=(HSS.out w').1 k;exact⟨cell_blk h1,cell_blk h2 6,cell_blk h2 7,trivial⟩:(∀i,w'.cell? ⟨y,i,none⟩=(#[.slice A.a S.D.s.length A.c,.bool S.D.off,.int .i64 S.D.calls,.int .i64 S.D.after,.bool S.D.done,.int .i64 (S.r.ring:Nat),.int .i64 (S.nsize:Nat),.slice A.na S.nwords.length A.nc,.int .i64 (S.r.size:Nat),.slice A.ca S.r.words.length A.cc,.slice A.ba S.r.body.length A.bc,.int .i64 (S.r.gen:Nat),.int .i64 (S.r.slot:Nat),.bool false]:Array Value)[i]?)∧w'.cell? ⟨g,6,none⟩=some (.int .i64 (S.nsize:Nat))∧w'.cell? ⟨g,7,none⟩=some (.slice A3.na S.nwords.length A3.nc)∧True))
       have S0:SS w9.drew:=(HSS.out _).2 ⟨_,_,F12.out.1.drew,F12.out.2.2.1.drew⟩
       have GN:=qh (show y≠g from by have:=HG.out;omega)
       go_wp2_with fail
       refine wp_region_T (S:=SS) 11 (by kernel_rfl) S0 (fun hHeld hDn=>?_)
       refine wpT_z 0 56 QX hHeld hDn fun hDn=>?_
       refine wpT_z 1 57 QX hHeld hDn fun hDn=>?_
       refine wpT_z 2 58 QX hHeld hDn fun hDn=>?_
       refine wpT_z 3 59 QX hHeld hDn fun hDn=>?_
       refine wpT_z 4 60 QX hHeld hDn fun hDn=>?_
       refine wpT_z 5 61 QX hHeld hDn fun hDn=>?_
       refine wpT_z 6 62 QX hHeld hDn fun hDn=>?_
       refine wpT_one (i:=7) rfl (by kernel_rfl) hDn (fun K' hK=>?_)
       go_simp
       refine hK.out _ _ ((HSS.out _).2 ⟨_,_,F12.out.1.drew.other GN.out _,F12.out.2.2.1.drew.set 11 _⟩) (fun hHeld2 hDn2=>?_)
       clear hK K' hHeld hDn
       have hHeld:=hHeld2;have hDn:=hDn2
       clear hHeld2 hDn2
       refine wpT_z 8 63 QX hHeld hDn fun hDn=>?_
       refine wpT_one (i:=9) rfl (by kernel_rfl) hDn (fun K' hK=>?_)
       go_simp
       refine hK.out _ _ ((HSS.out _).2 ⟨_,_,(F12.out.1.drew.other GN.out _).other GN.out _,(F12.out.2.2.1.drew.set 11 _).set 12 _⟩) (fun hHeld2 hDn2=>?_)
       clear hK K' hHeld hDn
       have hHeld:=hHeld2;have hDn:=hDn2
       clear hHeld2 hDn2
       refine wpT_z 10 64 QX hHeld hDn fun hDn=>?_
       refine wpT_last rfl (by kernel_rfl) hDn (fun K hK=>?_)
       go_simp
       refine hK.out _ _ (fun hDn'=>?_)
       clear hK K hDn hHeld;have hDn:=hDn';clear hDn'
       refine wpT_done (by kernel_rfl) ?_ _
       clear QX hDn S0 HSS gws
       go_upto_region 15 with fail
       have B2:=qh (show Blk w9 g #[.slice A3.a D3.s.length A3.c,.bool D3.off,.int .i64 D3.calls,.int .i64 D3.after,.bool D3.done,.int .i64 (S.r.ring:Nat),.int .i64 (S.nsize:Nat),.slice A3.na S.nwords.length A3.nc,.int .i64 (S.r.size:Nat),.slice A3.ca S.r.words.length A3.cc,.slice A3.ba S.r.body.length A3.bc,.int .i64 (S.r.gen:Nat),.int .i64 (S.r.slot:Nat),.bool b3] 107 from F12.out.2.2.1)
       refine cutWl (fun wn=>Fr wn [(y+1,#[.slice none 0 0,.bool false,.int .i64 0,.int .i64 0,.bool false,.int .i64 0,.int .i64 0,.slice none 0 0,.int .i64 0,.slice none 0 0,.slice none 0 0,.int .i64 0,.int .i64 0,.bool false],107),(g,#[.slice A3.a D3.s.length A3.c,.bool D3.off,.int .i64 D3.calls,.int .i64 D3.after,.bool D3.done,.int .i64 (S.r.ring:Nat),.int .i64 (S.nsize:Nat),.slice A3.na S.nwords.length A3.nc,.int .i64 (S.nsize:Nat),.slice A3.na S.nwords.length A3.nc,.slice A3.ba S.r.body.length A3.bc,.int .i64 (gn:Nat),.int .i64 (sl2:Nat),.bool b3],107)]∧Same w wn∧RSp wn {S with D:=D3,bad:=b3} A3 fq∧NatsAt wn .u8 ba body) ⟨⟨?_,?_,trivial⟩,?_,?_,?_⟩ ?_
       ·refine F12.out.2.1.kept (fp:=fun j=>j=g) ?_ (by have:=HG.out;omega)
        (repeat(with_reducible first|exact Kept.refl _ _|refine Kept.drew ?_ |refine Kept.setG ?_ _ _))
       ·with_reducible exact(Blk.setCm B2.out).drew
       ·repeat(with_reducible first|exact K12.out|refine Kept.setNew ?_ (by have:=HG.out;have:=HY.out;dsimp only;omega) _|refine Kept.drew ?_)
       ·refine RS12.out.kept (fq:=fun j=>j=g) ?_ (fun j q=>(FQ.out j).2 (.inr (.inr (.inr q))))
        (repeat(with_reducible first|exact Kept.refl _ _|refine Kept.drew ?_ |refine Kept.setG ?_ _ _))
       ·refine N12.out.kept' (fp:=fun j=>j=g) ?_ NG.out
        (repeat(with_reducible first|exact Kept.refl _ _|refine Kept.drew ?_ |refine Kept.setG ?_ _ _))
       rintro wa ⟨hfa,ka,hra,hna⟩
       have F13:=qh hfa
       have K13:=qh ka
       have RS13:=qh hra
       have kE:Same wa (wa.alloc (.cells #[] 5)):=(Kept.refl _ _).alloc _
       have o5:=lit_own wa #[] [] rfl 0 rfl (by decide)
       obtain⟨v6,w6,hr6,ho6,hk6⟩:=nat_app o5 kE.size ba bl bc body HB.out.1 (hna.same kE) HB.out.2.2.1 (by have:=HNB.out;have:=N7.out;simp;omega)
       rw[List.nil_append]at ho6
       have k6:Same wa w6:=kE.step hk6 (fun j hj q=>by omega)
       have hlt6:=World.ownsRow.lt ho6
       obtain⟨a6,l6,c6,rfl,hl6,hnil6,hat6,hc6⟩:=OwnN.rd ho6
       obtain rfl:l6=bl:=by rw[hl6.out,HNB.out]
       have BLK:=qh (show∀x,a6=some x→wa.heap.size≤x.block∧x.block<w6.heap.size from fun x hx=>hlt6 x.block (by rw[hx];rfl))
       obtain⟨aok6,aV6,aW6⟩:=app_of hr6
       have F14:=qh (F13.out.same k6)
       have K14:=qh (K13.out.trans k6)
       have RS14:=qh (RS13.out.same k6)
       clear p0 f0 p1 f1 p2 f2 z0 z1 z2 F12 K12 RS12 N12 hfa ka hra hna kE o5 hr6 ho6 hk6 k6 hl6 hlt6 RS13 K13
       obtain⟨p0,f0,p1,f1, -⟩:=F13.out.rules
       obtain⟨q0,e0,q1,e1, -⟩:=F14.out.rules
       have z0:=F14.out.1.lt
       have z1:=F14.out.2.1.lt
       have B2:=qh (show Blk w6 g #[.slice A3.a D3.s.length A3.c,.bool D3.off,.int .i64 D3.calls,.int .i64 D3.after,.bool D3.done,.int .i64 (S.r.ring:Nat),.int .i64 (S.nsize:Nat),.slice A3.na S.nwords.length A3.nc,.int .i64 (S.nsize:Nat),.slice A3.na S.nwords.length A3.nc,.slice A3.ba S.r.body.length A3.bc,.int .i64 (gn:Nat),.int .i64 (sl2:Nat),.bool b3] 107 from F14.out.2.1)
       go_upto_region 16 with fail
       refine cutWl (fun wn=>Fr wn [(y+1,#[.slice none 0 0,.bool false,.int .i64 0,.int .i64 0,.bool false,.int .i64 0,.int .i64 0,.slice none 0 0,.int .i64 0,.slice none 0 0,.slice none 0 0,.int .i64 0,.int .i64 0,.bool false],107),(g,#[.slice A3.a D3.s.length A3.c,.bool D3.off,.int .i64 D3.calls,.int .i64 D3.after,.bool D3.done,.int .i64 (S.r.ring:Nat),.int .i64 (S.nsize:Nat),.slice A3.na S.nwords.length A3.nc,.int .i64 (S.nsize:Nat),.slice A3.na S.nwords.length A3.nc,.slice a6 l6 c6,.int .i64 (gn:Nat),.int .i64 (sl2:Nat),.bool b3],107)]∧Same w wn∧RSp wn {S with D:=D3,bad:=b3} A3 fq∧NatsAt wn .u8 a6 body∧(∀x,a6=some x→x.block<wn.heap.size)) ⟨⟨?_,by with_reducible exact Blk.setTen B2.out,trivial⟩,?_,?_,?_,?_⟩ ?_
       ·refine F14.out.1.kept (fp:=fun j=>j=g) ?_ (by have:=HG.out;omega)
        (repeat(with_reducible first|exact Kept.refl _ _|refine Kept.drew ?_ |refine Kept.setG ?_ _ _))
       ·repeat(with_reducible first|exact K14.out|refine Kept.setNew ?_ (by have:=HG.out;have:=HY.out;dsimp only;omega) _)
       ·refine RS14.out.kept (fq:=fun j=>j=g) ?_ (fun j q=>(FQ.out j).2 (.inr (.inr (.inr q))))
        (repeat(with_reducible first|exact Kept.refl _ _|refine Kept.drew ?_ |refine Kept.setG ?_ _ _))
       ·refine hat6.out.kept (fp:=fun j=>j=g) ?_ (fun x hx q=>by have h1:=(BLK.out x hx).1;have h2:=F13.out.2.1.lt;omega)
        (repeat(with_reducible first|exact Kept.refl _ _|refine Kept.drew ?_ |refine Kept.setG ?_ _ _))
       ·intro x hx
        refine Nat.lt_of_lt_of_le (BLK.out x hx).2 (Kept.size (fp:=fun j=>j=g) ?_)
        (repeat(with_reducible first|exact Kept.refl _ _|refine Kept.drew ?_ |refine Kept.setG ?_ _ _))
       rintro wb ⟨hfb,kb,hrb,hnb,hlb⟩
       have F15:=qh hfb
       have K15:=qh kb
       have RS15:=qh hrb
       have N15:=qh hnb
       have L15:=qh hlb
       have A15:=qh (show∀x,a6=some x→¬x.block=y+1 from fun x hx q=>by have h1:=(BLK.out x hx).1;have h2:=F13.out.1.lt;omega)
       have P15:=qh (show Apt a6 fp from fun x hx q=>by have h1:=(BLK.out x hx).1;have h2:=PA.out.2.2 _ q;have h3:=HY.out;have h4:=F13.out.1.lt;omega)
       have B1:=qh (show Blk wb (y+1) #[.slice none 0 0,.bool false,.int .i64 0,.int .i64 0,.bool false,.int .i64 0,.int .i64 0,.slice none 0 0,.int .i64 0,.slice none 0 0,.slice none 0 0,.int .i64 0,.int .i64 0,.bool false] 107 from F15.out.1)
       clear p0 f0 p1 f1 q0 e0 q1 e1 z0 z1 F13 F14 K14 RS14 hfb kb hrb hnb hlb B2 aok6 aV6 aW6 hat6
       obtain⟨p0,f0,p1,f1, -⟩:=F15.out.rules
       have z0:=F15.out.1.lt
       have z1:=F15.out.2.1.lt
       go_wp2_with fail
       (try simp only[Exit.inBlock,Exit.then])
       refine cutE (fun W=>Blk W (y+1) #[.slice A3.a D3.s.length A3.c,.bool D3.off,.int .i64 D3.calls,.int .i64 D3.after,.bool D3.done,.int .i64 (S.r.ring:Nat),.int .i64 (S.nsize:Nat),.slice A3.na S.nwords.length A3.nc,.int .i64 (S.nsize:Nat),.slice A3.na S.nwords.length A3.nc,.slice a6 l6 c6,.int .i64 (gn:Nat),.int .i64 (sl2:Nat),.bool b3] 107∧Same w W∧RSp W {S with D:=D3,bad:=b3} A3 fq∧NatsAt W .u8 a6 body∧(∀x,a6=some x→x.block<W.heap.size)) ⟨by with_reducible exact Blk.set14 B1.out,by with_reducible exact Kept.set14 K15.out (by have:=HY.out;omega),?_,?_,?_⟩ ?_
       ·refine RS15.out.kept (fq:=fun j=>j=y+1) ?_ (fun j q=>(FQ.out j).2 (.inr (.inr (.inl q))))
        (repeat(with_reducible first|exact Kept.refl _ _|refine Kept.drew ?_ |refine Kept.setG ?_ _ _))
       ·refine N15.out.kept (fp:=fun j=>j=y+1) ?_ A15.out
        (repeat(with_reducible first|exact Kept.refl _ _|refine Kept.drew ?_ |refine Kept.setG ?_ _ _))
       ·intro x hx
        refine Nat.lt_of_lt_of_le (L15.out x hx) (Kept.size (fp:=fun j=>j=y+1) ?_)
        (repeat(with_reducible first|exact Kept.refl _ _|refine Kept.drew ?_ |refine Kept.setG ?_ _ _))
       rintro wz ⟨bz,kz,rz,nz,lz⟩
       refine bodyPost_ret (results_ctmp (b:=.int .i64 0) rfl _ _ _ _ _ _ rfl bz rfl rfl rfl (by kernel_rfl)) rfl ?_
       have rz:=rz.mono (fq:=fp) (fun j q=>(FQ.out j).2 (.inl q))
       have FE:=FIN.out {S with D:=D3,bad:=b3,r:=S.nextR body} 0 CF.out {a:=A3.a,c:=A3.c,na:=A3.na,nc:=A3.nc,ca:=A3.na,cc:=A3.nc,ba:=a6,bc:=c6} wz ⟨⟨rz.st.ds,rz.st.ns,rz.st.ns,nz,rz.st.nnil,rz.st.nnil,hnil6.out,by show body.length≤c6;rw[HNB.out];exact hc6.out.1,lz⟩,rz.lt,rz.pa,rz.pn,rz.pn,P15.out⟩ kz
       dsimp only at FE
       rw[GE.out,SL.out,show(S.nextR body).ring=S.r.ring from rfl,show(S.nextR body).size=S.nsize from rfl,show(S.nextR body).words=S.nwords from rfl,show(S.nextR body).body=body from rfl,HNB.out]at FE
       exact FE
      ·have g3:(((e3:Nat):Int)==0)=false:=by simpa using h3
       have g3':(((e3:Nat):Int) !=0)=true:=by simpa using h3
       have FE:=qh (FIN.out {S with D:=D3,bad:=b3} e3 (by rw[CW4.out,if_neg h3]) A3)
       have B1:=qh (show Blk w9 (y+1) #[.slice none 0 0,.bool false,.int .i64 0,.int .i64 0,.bool false,.int .i64 0,.int .i64 0,.slice none 0 0,.int .i64 0,.slice none 0 0,.slice none 0 0,.int .i64 0,.int .i64 0,.bool false] 107 from F12.out.2.1)
       clear CW4 FIN h3
       go_wp2_with fail
       (try simp only[Exit.inBlock,Exit.then])
       refine cutE (fun W=>Blk W (y+1) #[.slice A3.a D3.s.length A3.c,.bool D3.off,.int .i64 D3.calls,.int .i64 D3.after,.bool D3.done,.int .i64 (S.r.ring:Nat),.int .i64 (S.nsize:Nat),.slice A3.na S.nwords.length A3.nc,.int .i64 (S.r.size:Nat),.slice A3.ca S.r.words.length A3.cc,.slice A3.ba S.r.body.length A3.bc,.int .i64 (S.r.gen:Nat),.int .i64 (S.r.slot:Nat),.bool b3] 107∧Same w W∧RSp W {S with D:=D3,bad:=b3} A3 fq) ⟨by with_reducible exact Blk.set14 B1.out,by with_reducible exact Kept.set14 K12.out (by have:=HY.out;omega),?_⟩ ?_
       ·refine RS12.out.kept (fq:=fun j=>j=y+1) ?_ (fun j q=>(FQ.out j).2 (.inr (.inr (.inl q))))
        (repeat(with_reducible first|exact Kept.refl _ _|refine Kept.drew ?_ |refine Kept.setG ?_ _ _))
       rintro wz ⟨bz,kz,rz⟩
       refine bodyPost_ret (results_ctmp (b:=.int .i64 (e3:Nat)) rfl _ _ _ _ _ _ rfl bz rfl rfl rfl (by kernel_rfl)) rfl ?_
       have rz:=rz.mono (fq:=fp) (fun j q=>(FQ.out j).2 (.inl q))
       exact FE.out wz rz kz
    ·have g0:(((er:Nat):Int)==0)=false:=by simpa using h0
     have g0':(((er:Nat):Int) !=0)=true:=by simpa using h0
     have FE:=qh (FIN.out {S with D:=D2,bad:=b2} er (CS2.out h0) {A with a:=a7,c:=c7})
     have B1:=qh (show Blk wc (y+1) #[.slice none 0 0,.bool false,.int .i64 0,.int .i64 0,.bool false,.int .i64 0,.int .i64 0,.slice none 0 0,.int .i64 0,.slice none 0 0,.slice none 0 0,.int .i64 0,.int .i64 0,.bool false] 107 from F9.out.2.1)
     clear CS1 CS2 CW1 CG1 FIN ES h0
     go_wp2_with fail
     (try simp only[Exit.inBlock,Exit.then])
     refine cutE (fun W=>Blk W (y+1) #[.slice a7 D2.s.length c7,.bool D2.off,.int .i64 D2.calls,.int .i64 D2.after,.bool D2.done,.int .i64 (S.r.ring:Nat),.int .i64 (S.nsize:Nat),.slice A.na S.nwords.length A.nc,.int .i64 (S.r.size:Nat),.slice A.ca S.r.words.length A.cc,.slice A.ba S.r.body.length A.bc,.int .i64 (S.r.gen:Nat),.int .i64 (S.r.slot:Nat),.bool b2] 107∧Same w W∧RSp W {S with D:=D2,bad:=b2} {A with a:=a7,c:=c7} fq) ⟨by with_reducible exact Blk.set14 B1.out,by with_reducible exact Kept.set14 K9.out (by have:=HY.out;omega),?_⟩ ?_
     ·refine RS.out.kept (fq:=fun j=>j=y+1) ?_ (fun j q=>(FQ.out j).2 (.inr (.inr (.inl q))))
      (repeat(with_reducible first|exact Kept.refl _ _|refine Kept.drew ?_ |refine Kept.setG ?_ _ _))
     rintro wz ⟨bz,kz,rz⟩
     refine bodyPost_ret (results_ctmp (b:=.int .i64 (er:Nat)) rfl _ _ _ _ _ _ rfl bz rfl rfl rfl (by kernel_rfl)) rfl ?_
     have rz:=rz.mono (fq:=fp) (fun j q=>(FQ.out j).2 (.inl q))
     exact FE.out wz rz kz
 ·have FE:=qh (FIN.out S 11 (CB.out rfl) A)
  have B1:=qh (show Blk w5 (y+1) #[.slice none 0 0,.bool false,.int .i64 0,.int .i64 0,.bool false,.int .i64 0,.int .i64 0,.slice none 0 0,.int .i64 0,.slice none 0 0,.slice none 0 0,.int .i64 0,.int .i64 0,.bool false] 107 from F5.out.2.1)
  rw[HBD.out]at FE
  clear CB CL CS CW CG SY DI FIN RM
  go_wp2_with fail
  (try simp only[Exit.inBlock,Exit.then])
  refine cutE (fun W=>Blk W (y+1) #[.slice A.a S.D.s.length A.c,.bool S.D.off,.int .i64 S.D.calls,.int .i64 S.D.after,.bool S.D.done,.int .i64 (S.r.ring:Nat),.int .i64 (S.nsize:Nat),.slice A.na S.nwords.length A.nc,.int .i64 (S.r.size:Nat),.slice A.ca S.r.words.length A.cc,.slice A.ba S.r.body.length A.bc,.int .i64 (S.r.gen:Nat),.int .i64 (S.r.slot:Nat),.bool true] 107∧Same w W) ⟨by with_reducible exact Blk.set14 B1.out,by with_reducible exact Kept.set14 K5.out (by have:=HY.out;omega)⟩ ?_
  rintro wz ⟨bz,kz⟩
  refine bodyPost_ret (results_ctmp (b:=.int .i64 11) rfl _ _ _ _ _ _ rfl bz rfl rfl rfl (by kernel_rfl)) rfl ?_
  exact FE.out wz (H.out.same kz) kz
end
end
section
open Go.RowKit Go.Sort Go.Shelf
theorem Blk.set6789{w:World}{b:Nat}{v0 v1 v2 v3 v4 v5 v6 v7 v8 v9 v10 v11 v12 v13 u6 u7 u8 u9:Value}{t:TypeId}(h:Blk w b #[v0,v1,v2,v3,v4,v5,v6,v7,v8,v9,v10,v11,v12,v13] t):
 Blk ((((w.setCell ⟨b,6,none⟩ u6).setCell ⟨b,7,none⟩ u7).setCell ⟨b,8,none⟩ u8).setCell ⟨b,9,none⟩ u9) b #[v0,v1,v2,v3,v4,v5,u6,u7,u8,u9,v10,v11,v12,v13] t:=by
 have h0:Blk _ b #[v0,v1,v2,v3,v4,v5,u6,v7,v8,v9,v10,v11,v12,v13] t:=h.set 6 u6
 have h1:Blk _ b #[v0,v1,v2,v3,v4,v5,u6,u7,v8,v9,v10,v11,v12,v13] t:=h0.set 7 u7
 have h2:Blk _ b #[v0,v1,v2,v3,v4,v5,u6,u7,u8,v9,v10,v11,v12,v13] t:=h1.set 8 u8
 exact h2.set 9 u9
theorem Blk.setElv{w:World}{b:Nat}{v0 v1 v2 v3 v4 v5 v6 v7 v8 v9 v10 v11 v12 v13 u:Value}{t:TypeId}(h:Blk w b #[v0,v1,v2,v3,v4,v5,v6,v7,v8,v9,v10,v11,v12,v13] t):
 Blk (w.setCell ⟨b,11,none⟩ u) b #[v0,v1,v2,v3,v4,v5,v6,v7,v8,v9,v10,u,v12,v13] t:=h.set 11 u
structure RZ where
 ring:Int
 ns:Int
 na:Option Addr
 nl:Nat
 nc:Nat
 rs:Int
 ca:Option Addr
 cl:Nat
 cc:Nat
 ba:Option Addr
 bl:Nat
 bc:Nat
 gen:Int
 slot:Int
 bad:Bool
def rzC(a:Option Addr)(n c:Nat)(D:Dsk)(z:RZ):Array Value:=#[.slice a n c,.bool D.off,.int .i64 D.calls,.int .i64 D.after,.bool D.done,.int .i64 z.ring,.int .i64 z.ns,.slice z.na z.nl z.nc,.int .i64 z.rs,.slice z.ca z.cl z.cc,.slice z.ba z.bl z.bc,.int .i64 z.gen,.int .i64 z.slot,.bool z.bad]
def rzOf(S:Sto)(A:RA):RZ:=⟨S.r.ring,S.nsize,A.na,S.nwords.length,A.nc,S.r.size,A.ca,S.r.words.length,A.cc,A.ba,S.r.body.length,A.bc,S.r.gen,S.r.slot,S.bad⟩
def RtF(w:World)(D:Dsk)(o:Option Sto)(k:Nat)(fp:Nat→Prop)(e:Ending)(w':World):Prop:=
 ∃a c z,e=.returned (.tuple #[.agg (rzC a D.s.length c D z),.int .i64 (k:Nat)])∧SecsAt w' a D.s∧Apt a fp∧(∀S,o=some S→S.D=D∧∃A:RA,A.a=a∧A.c=c∧z=rzOf S A∧RSp w' S A fp)∧Same w w'
theorem fmt_rwr(D:Dsk)(ring rm:Nat)(hoff:D.off=false)(hr:ring≤256)(hrm:roomN D.s.length ring=rm)(h4:¬rm<4)(_hg:¬seenD D+1>1099511627776):
 fmtS D (ring:Nat)=((({D:=D,r:={gen:=0,slot:=0,ring:=ring,size:=rm,words:=List.replicate ((rm+63) / 64) 0,body:=[]},nsize:=rm,nwords:=List.replicate ((rm+63) / 64) 0,bad:=false}:Sto).rwr 0 (seenD D+1) []).1.D,(if(({D:=D,r:={gen:=0,slot:=0,ring:=ring,size:=rm,words:=List.replicate ((rm+63) / 64) 0,body:=[]},nsize:=rm,nwords:=List.replicate ((rm+63) / 64) 0,bad:=false}:Sto).rwr 0 (seenD D+1) []).2=0 then some {(({D:=D,r:={gen:=0,slot:=0,ring:=ring,size:=rm,words:=List.replicate ((rm+63) / 64) 0,body:=[]},nsize:=rm,nwords:=List.replicate ((rm+63) / 64) 0,bad:=false}:Sto).rwr 0 (seenD D+1) []).1 with r:=fmtR D ring}else none),(({D:=D,r:={gen:=0,slot:=0,ring:=ring,size:=rm,words:=List.replicate ((rm+63) / 64) 0,body:=[]},nsize:=rm,nwords:=List.replicate ((rm+63) / 64) 0,bad:=false}:Sto).rwr 0 (seenD D+1) []).2):=by
 unfold fmtS
 rw[if_neg (by rw[hoff];decide),Int.toNat_natCast,hrm,if_neg (by omega)]
 have e0:fmtR D ring=⟨seenD D+1,0,ring,rm,List.replicate ((rm+63) / 64) 0,[]⟩:=by unfold fmtR;rw[hrm]
 unfold Sto.write Sto.rwr Sto.wq7
 have e1:putR (fmtR D ring)=layR ring rm (List.replicate ((rm+63) / 64) 0) []:=by rw[e0];rfl
 have e2:(fmtR D ring).gen=seenD D+1:=by rw[e0]
 have e3:(fmtR D ring).slot=0:=by rw[e0]
 have e5:(fmtR D ring).size=rm:=by rw[e0]
 have e6:(fmtR D ring).words=List.replicate ((rm+63) / 64) 0:=by rw[e0]
 have e4:(sto0 D).D=D:=rfl
 simp only[e1,e2,e3,e4,e5,e6]
 generalize layR ring rm (List.replicate ((rm+63) / 64) 0) []=L
 generalize wrAll D (0*4) (putSl (seenD D+1) L)=q
 generalize seenD D+1=g at*
 by_cases h1:putSlE (g:Int) L.length≠0
 ·simp only[h1,if_true,ne_eq,not_false_iff,if_false]
  rfl
 ·simp only[h1,if_false]
  by_cases h2:q.2≠0
  ·simp only[h2,if_true,ne_eq,not_false_iff,if_false,Sto.did,Sto.didS]
  ·simp only[h2,if_false]
   by_cases h3:(syncD q.1).2≠0
   ·simp only[h3,if_true,ne_eq,not_false_iff,if_false,Sto.did,Sto.didS]
   ·have h5:(syncD q.1).2=0:=by omega
    simp only[h5,Sto.didS]
    rfl
theorem fmt_big(D:Dsk)(ring rm:Nat)(hoff:D.off=false)(hr:ring≤256)(hrm:roomN D.s.length ring=rm)(h4:¬rm<4)(hg:seenD D+1>1099511627776):fmtS D (ring:Nat)=(D,none,9):=by
 unfold fmtS
 rw[if_neg (by rw[hoff];decide),Int.toNat_natCast,hrm,if_neg (by omega)]
 have e:(sto0 D).write (fmtR D ring)=(sto0 D,9):=by
  unfold Sto.write
  have e:putSlE ((fmtR D ring).gen:Int) (putR (fmtR D ring)).length=9:=by
   unfold putSlE
   have e2:(fmtR D ring).gen=seenD D+1:=rfl
   rw[e2,if_pos (by omega)]
  rw[e,if_pos (by decide)]
 rw[e]
 rfl
theorem fmt_arg(D:Dsk)(log:Int)(hoff:D.off=false)(h:log<0∨256<log∨roomN D.s.length log.toNat<4):fmtS D log=(D,none,2):=by
 unfold fmtS
 rw[if_neg (by rw[hoff];decide),if_pos h]
theorem rt_format(a:Option Addr)(c:Nat)(D:Dsk)(hok:D.OK)(log:Int)(fp:Nat→Prop)(w:World)(hlt:∀g,fp g→g<w.heap.size)(hap:Apt a fp)(hs:SecsAt w a D.s):
 Calls Tryz.prog 56 #[refV a D.s.length c D,.int .i64 log] w (RtF w (fmtS D log).1 (fmtS D log).2.1 (fmtS D log).2.2 fp):=by
 obtain⟨R,hR⟩:∃R,RtF w (fmtS D log).1 (fmtS D log).2.1 (fmtS D log).2.2 fp=R:=⟨_,rfl⟩
 rw[hR]
 have NO:=qh (fun(er:Nat) (he:fmtS D log=(D,none,er)) (z:RZ) W (k:Same w W)=>show R (.returned (.tuple #[.agg (rzC a D.s.length c D z),.int .i64 (er:Nat)])) W from by
  rw[←hR,he]
  exact⟨a,c,z,rfl,hs.same k,hap,fun S q=>(by cases q),k⟩)
 have FIN:=qh (fun(D3:Dsk) (o:Option Sto) (e3:Nat) (he:fmtS D log=(D3,o,e3)) (a3:Option Addr) (c3:Nat) (z:RZ) W (k:Same w W) (h1:SecsAt W a3 D3.s) (h2:Apt a3 fp) (h3:∀S,o=some S→S.D=D3∧∃A:RA,A.a=a3∧A.c=c3∧z=rzOf S A∧RSp W S A fp)=>show R (.returned (.tuple #[.agg (rzC a3 D3.s.length c3 D3 z),.int .i64 (e3:Nat)])) W from by
  rw[←hR,he]
  exact⟨a3,c3,z,rfl,h1,h2,h3,k⟩)
 have F8:=qh (show D.off=true→fmtS D log=(D,none,8)from fun h=>by unfold fmtS;rw[if_pos h])
 have F2:=qh (fmt_arg D log)
 have FR:=qh (fmt_rwr D)
 have FB:=qh (fmt_big D)
 have RO:=qh (fun(ring:Nat) (hr:ring≤256) w'=>rt_room a c D hok.few ring (by omega) w')
 have SE:=qh (fun w' (k:Same w w')=>rt_seen a c D hok w' (hs.same k))
 have OK:=qh hok
 have HS:=qh (show SecsAt w a D.s∧Apt a fp∧(∀g,fp g→g<w.heap.size)from⟨hs,hap,hlt⟩)
 unfold rzC at NO FIN
 unfold refV at RO SE ⊢
 obtain⟨off,hoff⟩:∃off,D.off=off:=⟨_,rfl⟩
 have HO:=qh hoff
 rw[hoff]at NO F8 F2 FR FB RO SE ⊢
 clear hR hok hs hap hlt hoff
 go_enter Tryz.func56,Tryz.ntmps56
 go_upto_region 1 with fail
 obtain⟨y,hy⟩:∃y,w.heap.size=y:=⟨_,rfl⟩
 rw[hy]
 refine cutWl (fun wn=>Fr wn [(y,#[.slice a D.s.length c,.bool off,.int .i64 D.calls,.int .i64 D.after,.bool D.done],104),(y+1,#[.slice none 0 0,.bool false,.int .i64 0,.int .i64 0,.bool false,.int .i64 0,.int .i64 0,.slice none 0 0,.int .i64 0,.slice none 0 0,.slice none 0 0,.int .i64 0,.int .i64 0,.bool false],107)]∧Same w wn) ⟨⟨(Blk.new' _ _ _ hy.symm).alloc _,Blk.new' _ _ _ (by simp[hy]),trivial⟩,((Kept.refl _ _).alloc _).alloc _⟩ ?_
 rintro w5 ⟨hf5,k5⟩
 have F5:=qh hf5
 have K5:=qh k5
 have HY:=qh hy
 obtain⟨p0,f0,p1,f1, -⟩:=F5.out.rules
 have z0:=F5.out.1.lt
 have z1:=F5.out.2.1.lt
 clear hf5 k5 hy
 go_upto_region 2 with fail
 obtain⟨g,hg⟩:∃g,w5.heap.size=g:=⟨_,rfl⟩
 have HG:=qh (show y+2≤g from by omega)
 rw[hg]
 refine cutWl (fun wn=>Fr wn [(y,#[.slice a D.s.length c,.bool off,.int .i64 D.calls,.int .i64 D.after,.bool D.done],104),(y+1,#[.slice none 0 0,.bool false,.int .i64 0,.int .i64 0,.bool false,.int .i64 0,.int .i64 0,.slice none 0 0,.int .i64 0,.slice none 0 0,.slice none 0 0,.int .i64 0,.int .i64 0,.bool false],107),(g,#[.slice a D.s.length c,.bool off,.int .i64 D.calls,.int .i64 D.after,.bool D.done,.int .i64 log,.int .i64 0,.slice none 0 0,.int .i64 0,.slice none 0 0,.slice none 0 0,.int .i64 0,.int .i64 0,.bool false],107)]∧Same w wn) ⟨⟨F5.out.1.alloc _,F5.out.2.1.alloc _,Blk.new' _ _ _ hg.symm,trivial⟩,K5.out.alloc _⟩ ?_
 rintro w6 ⟨hf6,k6⟩
 have F6:=qh hf6
 have K6:=qh k6
 clear p0 f0 p1 f1 z0 z1 F5 K5 hf6 k6 hg
 obtain⟨p0,f0,p1,f1,p2,f2, -⟩:=F6.out.rules
 have z0:=F6.out.1.lt
 have z1:=F6.out.2.1.lt
 have z2:=F6.out.2.2.1.lt
 have B1:=qh (show Blk w6 (y+1) #[.slice none 0 0,.bool false,.int .i64 0,.int .i64 0,.bool false,.int .i64 0,.int .i64 0,.slice none 0 0,.int .i64 0,.slice none 0 0,.slice none 0 0,.int .i64 0,.int .i64 0,.bool false] 107 from F6.out.2.1)
 cases off
 ·by_cases h1:log<0
  ·have NE:=qh (NO.out 2 (F2.out (by first|trivial|rfl) (.inl h1)) ⟨log,0,none,0,0,0,none,0,0,none,0,0,0,0,false⟩)
   clear NO FIN F8 F2 FR FB RO SE
   go_wp2_with fail
   (try simp only[Exit.inBlock,Exit.then])
   refine cutE (fun W=>Blk W (y+1) #[.slice a D.s.length c,.bool false,.int .i64 D.calls,.int .i64 D.after,.bool D.done,.int .i64 log,.int .i64 0,.slice none 0 0,.int .i64 0,.slice none 0 0,.slice none 0 0,.int .i64 0,.int .i64 0,.bool false] 107∧Same w W) ⟨by with_reducible exact Blk.set14 B1.out,by with_reducible exact Kept.set14 K6.out (by have:=HY.out;omega)⟩ ?_
   rintro wz ⟨bz,kz⟩
   refine bodyPost_ret (results_ctmp (b:=.int .i64 2) rfl _ _ _ _ _ _ rfl bz rfl rfl rfl (by kernel_rfl)) rfl ?_
   exact NE.out wz kz
  ·by_cases h2:256<log
   ·have NE:=qh (NO.out 2 (F2.out (by first|trivial|rfl) (.inr (.inl h2))) ⟨log,0,none,0,0,0,none,0,0,none,0,0,0,0,false⟩)
    clear NO FIN F8 F2 FR FB RO SE
    go_wp2_with fail
    (try simp only[Exit.inBlock,Exit.then])
    refine cutE (fun W=>Blk W (y+1) #[.slice a D.s.length c,.bool false,.int .i64 D.calls,.int .i64 D.after,.bool D.done,.int .i64 log,.int .i64 0,.slice none 0 0,.int .i64 0,.slice none 0 0,.slice none 0 0,.int .i64 0,.int .i64 0,.bool false] 107∧Same w W) ⟨by with_reducible exact Blk.set14 B1.out,by with_reducible exact Kept.set14 K6.out (by have:=HY.out;omega)⟩ ?_
    rintro wz ⟨bz,kz⟩
    refine bodyPost_ret (results_ctmp (b:=.int .i64 2) rfl _ _ _ _ _ _ rfl bz rfl rfl rfl (by kernel_rfl)) rfl ?_
    exact NE.out wz kz
   ·obtain⟨ring,rfl⟩:∃ring:Nat,log=(ring:Int):=⟨log.toNat,by omega⟩
    have hr:ring≤256:=by omega
    have RO1:=qh (RO.out ring hr)
    have HRI:=qh hr
    obtain⟨rm,hrm⟩:∃rm,roomN D.s.length ring=rm:=⟨_,rfl⟩
    have HRM:=qh hrm
    have RL:=qh (show rm≤512 from by rw[←hrm];unfold roomN;omega)
    rw[hrm]at RO1
    clear hrm hr RO
    go_wp2_with fail
    with_reducible refine(RO1.out w6).mono ?_
    rintro e w7 ⟨rfl,k7⟩
    have K7:=qh (K6.out.trans k7)
    have F7:=qh (F6.out.same k7)
    clear p0 f0 p1 f1 p2 f2 z0 z1 z2 F6 K6 B1 k7
    obtain⟨p0,f0,p1,f1,p2,f2, -⟩:=F7.out.rules
    have z0:=F7.out.1.lt
    have z1:=F7.out.2.1.lt
    have z2:=F7.out.2.2.1.lt
    by_cases h4:rm<4
    ·have g4:(rm:Int)<4:=by omega
     have NE:=qh (NO.out 2 (F2.out (by first|trivial|rfl) (.inr (.inr (by rw[Int.toNat_natCast,HRM.out];exact h4)))) ⟨ring,0,none,0,0,0,none,0,0,none,0,0,0,0,false⟩)
     have B1:=qh (show Blk w7 (y+1) #[.slice none 0 0,.bool false,.int .i64 0,.int .i64 0,.bool false,.int .i64 0,.int .i64 0,.slice none 0 0,.int .i64 0,.slice none 0 0,.slice none 0 0,.int .i64 0,.int .i64 0,.bool false] 107 from F7.out.2.1)
     have K6:=K7
     clear NO FIN F8 F2 FR FB RO1 SE
     go_wp2_with fail
     (try simp only[Exit.inBlock,Exit.then])
     refine cutE (fun W=>Blk W (y+1) #[.slice a D.s.length c,.bool false,.int .i64 D.calls,.int .i64 D.after,.bool D.done,.int .i64 (ring:Nat),.int .i64 0,.slice none 0 0,.int .i64 0,.slice none 0 0,.slice none 0 0,.int .i64 0,.int .i64 0,.bool false] 107∧Same w W) ⟨by with_reducible exact Blk.set14 B1.out,by with_reducible exact Kept.set14 K6.out (by have:=HY.out;omega)⟩ ?_
     rintro wz ⟨bz,kz⟩
     refine bodyPost_ret (results_ctmp (b:=.int .i64 2) rfl _ _ _ _ _ _ rfl bz rfl rfl rfl (by kernel_rfl)) rfl ?_
     exact NE.out wz kz
    ·have g4:¬(rm:Int)<4:=by omega
     have FR1:=qh (FR.out ring rm (by first|trivial|rfl) HRI.out HRM.out h4)
     have FB1:=qh (FB.out ring rm (by first|trivial|rfl) HRI.out HRM.out h4)
     have NB:=qh (show D.s≠[]from fun q=>h4 (by rw[←HRM.out,q];unfold roomN;simp))
     have NWM:=qh (fun w'=>rb_new_ok rm w' (by have:=RL.out;omega))
     obtain⟨nw,hnw⟩:∃nw,(rm+63) / 64=nw:=⟨_,rfl⟩
     have HNW:=qh (show(rm+63) / 64=nw∧1≤nw∧nw≤8 from⟨hnw,by omega,by have:=RL.out;omega⟩)
     rw[hnw]at NWM FR1
     unfold mapV at NWM
     clear F8 F2 FR FB hnw h1 h2 h4
     go_wp2_with fail
     with_reducible refine(RO1.out w7).mono ?_
     rintro e w8 ⟨rfl,k8⟩
     have K8:=qh (K7.out.trans k8)
     have F8:=qh (F7.out.same k8)
     clear p0 f0 p1 f1 p2 f2 z0 z1 z2 F7 K7 k8 RO1
     go_wp2_with fail
     with_reducible refine(NWM.out w8).mono ?_
     rintro e w9 ⟨g5,rfl,ho,k9⟩
     have G5:=qh (World.ownsRow.lt ho g5 rfl)
     obtain⟨a',l',c',he', -, -,hat, -⟩:=OwnN.rd ho
     cases he'
     have HAT:=qh hat.out
     have K9:=qh (K8.out.trans k9)
     have F9:=qh (F8.out.same k9)
     have Z8:=qh (show g<w8.heap.size from F8.out.2.2.1.lt)
     clear F8 K8 k9 NWM ho hat
     obtain⟨p0,f0,p1,f1,p2,f2, -⟩:=F9.out.rules
     have z0:=F9.out.1.lt
     have z1:=F9.out.2.1.lt
     have z2:=F9.out.2.2.1.lt
     go_upto_region 7 with fail
     obtain⟨g3,hg3⟩:∃g3,w9.heap.size=g3:=⟨_,rfl⟩
     have HG3:=qh (show g<g3∧g5<g3∧g<g5 from⟨by omega,by have:=G5.out.2;omega,by have:=G5.out.1;have:=Z8.out;omega⟩)
     rw[hg3]
     refine cutWl (fun wn=>Fr wn [(y,#[.slice a D.s.length c,.bool false,.int .i64 D.calls,.int .i64 D.after,.bool D.done],104),(y+1,#[.slice none 0 0,.bool false,.int .i64 0,.int .i64 0,.bool false,.int .i64 0,.int .i64 0,.slice none 0 0,.int .i64 0,.slice none 0 0,.slice none 0 0,.int .i64 0,.int .i64 0,.bool false],107),(g,#[.slice a D.s.length c,.bool false,.int .i64 D.calls,.int .i64 D.after,.bool D.done,.int .i64 (ring:Nat),.int .i64 0,.slice none 0 0,.int .i64 0,.slice none 0 0,.slice none 0 0,.int .i64 0,.int .i64 0,.bool false],107),(g3,#[.int .i64 (rm:Nat),.slice (some ⟨g5,0,none⟩) nw nw],105)]∧Same w wn∧NatsAt wn .u64 (some ⟨g5,0,none⟩) (List.replicate nw 0)) ⟨⟨F9.out.1.alloc _,F9.out.2.1.alloc _,F9.out.2.2.1.alloc _,Blk.new' _ _ _ hg3.symm,trivial⟩,K9.out.alloc _,HAT.out.same ((Kept.refl _ _).alloc _)⟩ ?_
     rintro w10 ⟨hf10,k10,hn10⟩
     have F10:=qh hf10
     have K10:=qh k10
     have N10:=qh hn10
     clear p0 f0 p1 f1 p2 f2 z0 z1 z2 F9 K9 hf10 k10 hn10 hg3 G5 HAT Z8
     obtain⟨p0,f0,p1,f1,p2,f2,p3,f3, -⟩:=F10.out.rules
     have z0:=F10.out.1.lt
     have z1:=F10.out.2.1.lt
     have z2:=F10.out.2.2.1.lt
     have z3:=F10.out.2.2.2.1.lt
     have QX:=qh (fun w' (k:Kept (fun j=>j=g) w10 w')=>(⟨cell_blk (F10.out.2.2.2.1.kept k (fun h=>by have:=HG3.out;omega)),trivial,trivial,trivial⟩:(∀i,w'.cell? ⟨g3,i,none⟩=(#[.int .i64 (rm:Nat),.slice (some ⟨g5,0,none⟩) nw nw]:Array Value)[i]?)∧True∧True∧True))
     go_wp2_with fail
     refine wp_region_T (S:=fun w'=>Kept (fun j=>j=g) w10 w') 5 (by kernel_rfl) (Kept.refl _ _).drew (fun hHeld hDn=>?_)
     refine wpT_z 0 39 QX hHeld hDn fun hDn=>?_
     refine wpT_z 1 40 QX hHeld hDn fun hDn=>?_
     refine wpT_z 2 41 QX hHeld hDn fun hDn=>?_
     refine wpT_one (i:=3) rfl (by kernel_rfl) hDn (fun K' hK=>?_)
     go_simp
     refine hK.out _ _ ((((Kept.refl _ _).drew).setG _ _).setG _ _) (fun hHeld2 hDn2=>?_)
     clear hK K' hHeld hDn
     have hHeld:=hHeld2;have hDn:=hDn2
     clear hHeld2 hDn2
     refine wpT_z 4 42 QX hHeld hDn fun hDn=>?_
     refine wpT_last rfl (by kernel_rfl) hDn (fun K hK=>?_)
     go_simp
     refine hK.out _ _ (fun hDn'=>?_)
     clear hK K hDn hHeld;have hDn:=hDn';clear hDn'
     refine wpT_done (by kernel_rfl) ?_ _
     clear QX hDn
     have B2:=qh (show Blk w10 g #[.slice a D.s.length c,.bool false,.int .i64 D.calls,.int .i64 D.after,.bool D.done,.int .i64 (ring:Nat),.int .i64 0,.slice none 0 0,.int .i64 0,.slice none 0 0,.slice none 0 0,.int .i64 0,.int .i64 0,.bool false] 107 from F10.out.2.2.1)
     go_upto_region 8 with fail
     refine cutWl (fun wn=>Fr wn [(y,#[.slice a D.s.length c,.bool false,.int .i64 D.calls,.int .i64 D.after,.bool D.done],104),(y+1,#[.slice none 0 0,.bool false,.int .i64 0,.int .i64 0,.bool false,.int .i64 0,.int .i64 0,.slice none 0 0,.int .i64 0,.slice none 0 0,.slice none 0 0,.int .i64 0,.int .i64 0,.bool false],107),(g,#[.slice a D.s.length c,.bool false,.int .i64 D.calls,.int .i64 D.after,.bool D.done,.int .i64 (ring:Nat),.int .i64 (rm:Nat),.slice (some ⟨g5,0,none⟩) nw nw,.int .i64 (rm:Nat),.slice (some ⟨g5,0,none⟩) nw nw,.slice none 0 0,.int .i64 0,.int .i64 0,.bool false],107)]∧Same w wn∧NatsAt wn .u64 (some ⟨g5,0,none⟩) (List.replicate nw 0)) ⟨⟨?_,?_,by with_reducible exact(Blk.set6789 B2.out).drew,trivial⟩,?_,?_⟩ ?_
     ·refine F10.out.1.kept (fp:=fun j=>j=g) ?_ (by have:=HG.out;omega)
      (repeat(with_reducible first|exact Kept.refl _ _|refine Kept.drew ?_ |refine Kept.setG ?_ _ _))
     ·refine F10.out.2.1.kept (fp:=fun j=>j=g) ?_ (by have:=HG.out;omega)
      (repeat(with_reducible first|exact Kept.refl _ _|refine Kept.drew ?_ |refine Kept.setG ?_ _ _))
     ·repeat(with_reducible first|exact K10.out|refine Kept.setNew ?_ (by have:=HG.out;have:=HY.out;dsimp only;omega) _|refine Kept.drew ?_)
     ·refine NatsAt.kept (fp:=fun j=>j=g) N10.out ?_ (fun x hx q=>by cases hx;have:=HG3.out;dsimp only at q;omega)
      (repeat(with_reducible first|exact Kept.refl _ _|refine Kept.drew ?_ |refine Kept.setG ?_ _ _))
     rintro w11 ⟨hf11,k11,hn11⟩
     have F11:=qh hf11
     have K11:=qh k11
     have N11:=qh hn11
     clear p0 f0 p1 f1 p2 f2 p3 f3 z0 z1 z2 z3 F10 K10 N10 hf11 k11 hn11 B2
     obtain⟨p0,f0,p1,f1,p2,f2, -⟩:=F11.out.rules
     have z0:=F11.out.1.lt
     have z1:=F11.out.2.1.lt
     have z2:=F11.out.2.2.1.lt
     obtain⟨sd,hsd⟩:∃sd,seenD D=sd:=⟨_,rfl⟩
     have HSD:=qh (show seenD D=sd∧sd≤1099511627776 from⟨hsd,by rw[←hsd];exact seenD_le _⟩)
     obtain⟨gn,hgn⟩:∃gn,sd+1=gn:=⟨_,rfl⟩
     have HGN:=qh (show sd+1=gn∧gn≤1099511627777 from⟨hgn,by have:=HSD.out.2;omega⟩)
     have SE1:=qh (SE.out w11 K11.out)
     rw[hsd]at FR1 FB1 SE1
     rw[hgn]at FR1 FB1
     have gwr:IntKind.i64.wrap ((sd:Int)+1)=(gn:Int):=by have:=HGN.out;rw[IntKind.wrap_i64];omega
     clear hsd hgn SE
     go_wp2_with fail
     with_reducible refine SE1.out.mono ?_
     rintro e w12 ⟨rfl,k12⟩
     have K12:=qh (K11.out.trans k12)
     have F12:=qh (F11.out.same k12)
     have N12:=qh (N11.out.same k12)
     clear p0 f0 p1 f1 p2 f2 z0 z1 z2 F11 K11 N11 k12 SE1
     obtain⟨p0,f0,p1,f1,p2,f2, -⟩:=F12.out.rules
     have z0:=F12.out.1.lt
     have z1:=F12.out.2.1.lt
     have z2:=F12.out.2.2.1.lt
     have B1:=qh (show Blk w12 (y+1) #[.slice none 0 0,.bool false,.int .i64 0,.int .i64 0,.bool false,.int .i64 0,.int .i64 0,.slice none 0 0,.int .i64 0,.slice none 0 0,.slice none 0 0,.int .i64 0,.int .i64 0,.bool false] 107 from F12.out.2.1)
     by_cases hbig:gn>1099511627776
     ·have g9:(1099511627776:Int)<(gn:Int):=by omega
      have NE:=qh (NO.out 9 (FB1.out hbig) ⟨ring,rm,some ⟨g5,0,none⟩,nw,nw,rm,some ⟨g5,0,none⟩,nw,nw,none,0,0,0,0,false⟩)
      clear NO FIN FR1 FB1 hbig
      go_wp2_with fail
      (try simp only[Exit.inBlock,Exit.then])
      refine cutE (fun W=>Blk W (y+1) #[.slice a D.s.length c,.bool false,.int .i64 D.calls,.int .i64 D.after,.bool D.done,.int .i64 (ring:Nat),.int .i64 (rm:Nat),.slice (some ⟨g5,0,none⟩) nw nw,.int .i64 (rm:Nat),.slice (some ⟨g5,0,none⟩) nw nw,.slice none 0 0,.int .i64 0,.int .i64 0,.bool false] 107∧Same w W) ⟨by with_reducible exact Blk.set14 B1.out,by with_reducible exact Kept.set14 K12.out (by have:=HY.out;omega)⟩ ?_
      rintro wz ⟨bz,kz⟩
      refine bodyPost_ret (results_ctmp (b:=.int .i64 9) rfl _ _ _ _ _ _ rfl bz rfl rfl rfl (by kernel_rfl)) rfl ?_
      exact NE.out wz kz
     ·have g9:¬(1099511627776:Int)<(gn:Int):=by omega
      have FR2:=FR1.out hbig
      obtain⟨fq,hfq⟩:∃fq:Nat→Prop,(fun j=>fp j∨j=y+1∨j=g)=fq:=⟨_,rfl⟩
      have FQ:=qh (show∀j,fq j↔(fp j∨j=y+1∨j=g)from fun j=>by rw[←hfq])
      have hg5:¬fq g5:=fun q=>by
       have h1:=HG3.out;have h2:=HG.out;have h3:=HY.out
       rcases(FQ.out _).1 q with z|z|z
       ·have:=HS.out.2.2 _ z;omega
       ·omega
       ·omega
      have RS0:RSp w12 ({D:=D,r:={gen:=0,slot:=0,ring:=ring,size:=rm,words:=List.replicate nw 0,body:=[]},nsize:=rm,nwords:=List.replicate nw 0,bad:=false}:Sto) ({a:=a,c:=c,na:=some ⟨g5,0,none⟩,nc:=nw,ca:=some ⟨g5,0,none⟩,cc:=nw,ba:=none,bc:=0}:RA) fq:=by
       refine⟨⟨HS.out.1.same K12.out,N12.out,N12.out,.inl rfl,fun h=>(by cases h),fun h=>(by cases h),fun _=>rfl,Nat.le_refl _,fun x hx=>(by cases hx)⟩,fun j q=>?_,fun x hx q=>?_,fun x hx q=>(by cases hx;exact hg5 q),fun x hx q=>(by cases hx;exact hg5 q),fun x hx=>(by cases hx)⟩
       ·have h1:=F12.out.2.1.lt;have h2:=F12.out.2.2.1.lt
        rcases(FQ.out j).1 q with z|z|z
        ·exact Nat.lt_of_lt_of_le (HS.out.2.2 j z) K12.out.size
        ·omega
        ·omega
       ·have h1:=(secsAt_lt HS.out.1).resolve_left NB.out x hx
        have h2:=HG.out;have h3:=HY.out
        rcases(FQ.out _).1 q with z|z|z
        ·exact HS.out.2.1 x hx z
        ·omega
        ·omega
      have hw0:Words (List.replicate nw 0):=fun x hx=>by rw[List.eq_of_mem_replicate hx];decide
      obtain⟨D3,b3,hq1⟩:=rwr_same ({D:=D,r:={gen:=0,slot:=0,ring:=ring,size:=rm,words:=List.replicate nw 0,body:=[]},nsize:=rm,nwords:=List.replicate nw 0,bad:=false}:Sto) 0 gn []
      obtain⟨e3,he3⟩:∃e3,(({D:=D,r:={gen:=0,slot:=0,ring:=ring,size:=rm,words:=List.replicate nw 0,body:=[]},nsize:=rm,nwords:=List.replicate nw 0,bad:=false}:Sto).rwr 0 gn []).2=e3:=⟨_,rfl⟩
      have WR0:=rt_write ({D:=D,r:={gen:=0,slot:=0,ring:=ring,size:=rm,words:=List.replicate nw 0,body:=[]},nsize:=rm,nwords:=List.replicate nw 0,bad:=false}:Sto) ({a:=a,c:=c,na:=some ⟨g5,0,none⟩,nc:=nw,ca:=some ⟨g5,0,none⟩,cc:=nw,ba:=none,bc:=0}:RA) fq OK.out 0 gn (by decide) HGN.out.2 none 0 0 [] rfl (by decide) (fun x hx=>by cases hx) (fun _=>rfl) (by have:=HRI.out;show ring≤1024;omega) (by have:=RL.out;show rm≤1024;omega) hw0 (by have:=HNW.out.2.2;simpa using this) w12 RS0 (.inl rfl)
      rw[hq1,he3]at WR0 FR2
      have FME:fmtR D ring=⟨gn,0,ring,rm,List.replicate nw 0,[]⟩:=by
       unfold fmtR
       rw[HRM.out,HNW.out.1,HSD.out.1,HGN.out.1]
      rw[FME]at FR2
      dsimp only at FR2 WR0
      have FR3:=qh FR2
      unfold rsV rsC at WR0
      dsimp only at WR0
      simp only[List.length_replicate,List.length_nil,Int.natCast_zero]at WR0
      rw[HO.out]at WR0
      have WR:=qh WR0
      clear hq1 he3 FR2 WR0 FR1 FB1 hfq hg5 RS0 hw0 FME hbig NO
      go_wp2_with fail
      with_reducible refine WR.out.mono ?_
      rintro e w13 ⟨A3,rfl,hr3,k13⟩
      have K13:=qh (K12.out.trans k13)
      have F13:=qh (F12.out.same k13)
      have RS13:=qh hr3
      clear p0 f0 p1 f1 p2 f2 z0 z1 z2 F12 K12 N12 WR hr3 k13 B1
      obtain⟨p0,f0,p1,f1,p2,f2, -⟩:=F13.out.rules
      have z0:=F13.out.1.lt
      have z1:=F13.out.2.1.lt
      have z2:=F13.out.2.2.1.lt
      have B2:=qh (show Blk w13 g #[.slice a D.s.length c,.bool false,.int .i64 D.calls,.int .i64 D.after,.bool D.done,.int .i64 (ring:Nat),.int .i64 (rm:Nat),.slice (some ⟨g5,0,none⟩) nw nw,.int .i64 (rm:Nat),.slice (some ⟨g5,0,none⟩) nw nw,.slice none 0 0,.int .i64 0,.int .i64 0,.bool false] 107 from F13.out.2.2.1)
      unfold rsV rsC
      dsimp only
      simp only[List.length_replicate,List.length_nil,Int.natCast_zero]
      go_upto_region 13 with fail
      refine cutWl (fun wn=>Fr wn [(y+1,#[.slice none 0 0,.bool false,.int .i64 0,.int .i64 0,.bool false,.int .i64 0,.int .i64 0,.slice none 0 0,.int .i64 0,.slice none 0 0,.slice none 0 0,.int .i64 0,.int .i64 0,.bool false],107),(g,#[.slice A3.a D3.s.length A3.c,.bool D3.off,.int .i64 D3.calls,.int .i64 D3.after,.bool D3.done,.int .i64 (ring:Nat),.int .i64 (rm:Nat),.slice A3.na nw A3.nc,.int .i64 (rm:Nat),.slice A3.ca nw A3.cc,.slice A3.ba 0 A3.bc,.int .i64 (gn:Nat),.int .i64 0,.bool b3],107)]∧Same w wn∧RSp wn ({D:=D3,r:={gen:=0,slot:=0,ring:=ring,size:=rm,words:=List.replicate nw 0,body:=[]},nsize:=rm,nwords:=List.replicate nw 0,bad:=b3}:Sto) A3 fq) ⟨⟨?_,by with_reducible exact Blk.setElv (Blk.set14 B2.out),trivial⟩,?_,?_⟩ ?_
      ·refine F13.out.2.1.kept (fp:=fun j=>j=g) ?_ (by have:=HG.out;omega)
       (repeat(with_reducible first|exact Kept.refl _ _|refine Kept.drew ?_ |refine Kept.setG ?_ _ _))
      ·repeat(with_reducible first|exact K13.out|refine Kept.setNew ?_ (by have:=HG.out;have:=HY.out;dsimp only;omega) _)
      ·refine RS13.out.kept (fq:=fun j=>j=g) ?_ (fun j q=>(FQ.out j).2 (.inr (.inr q)))
       (repeat(with_reducible first|exact Kept.refl _ _|refine Kept.drew ?_ |refine Kept.setG ?_ _ _))
      rintro w14 ⟨hf14,k14,hr14⟩
      have F14:=qh hf14
      have K14:=qh k14
      have RS14:=qh hr14
      clear p0 f0 p1 f1 p2 f2 z0 z1 z2 F13 K13 RS13 hf14 k14 hr14 B2
      obtain⟨p0,f0,p1,f1, -⟩:=F14.out.rules
      have z0:=F14.out.1.lt
      have z1:=F14.out.2.1.lt
      have B1:=qh (show Blk w14 (y+1) #[.slice none 0 0,.bool false,.int .i64 0,.int .i64 0,.bool false,.int .i64 0,.int .i64 0,.slice none 0 0,.int .i64 0,.slice none 0 0,.slice none 0 0,.int .i64 0,.int .i64 0,.bool false] 107 from F14.out.1)
      go_wp2_with fail
      (try simp only[Exit.inBlock,Exit.then])
      refine cutE (fun W=>Blk W (y+1) #[.slice A3.a D3.s.length A3.c,.bool D3.off,.int .i64 D3.calls,.int .i64 D3.after,.bool D3.done,.int .i64 (ring:Nat),.int .i64 (rm:Nat),.slice A3.na nw A3.nc,.int .i64 (rm:Nat),.slice A3.ca nw A3.cc,.slice A3.ba 0 A3.bc,.int .i64 (gn:Nat),.int .i64 0,.bool b3] 107∧Same w W∧RSp W ({D:=D3,r:={gen:=0,slot:=0,ring:=ring,size:=rm,words:=List.replicate nw 0,body:=[]},nsize:=rm,nwords:=List.replicate nw 0,bad:=b3}:Sto) A3 fq) ⟨by with_reducible exact Blk.set14 B1.out,by with_reducible exact Kept.set14 K14.out (by have:=HY.out;omega),?_⟩ ?_
      ·refine RS14.out.kept (fq:=fun j=>j=y+1) ?_ (fun j q=>(FQ.out j).2 (.inr (.inl q)))
       (repeat(with_reducible first|exact Kept.refl _ _|refine Kept.drew ?_ |refine Kept.setG ?_ _ _))
      rintro wz ⟨bz,kz,rz⟩
      refine bodyPost_ret (results_ctmp (b:=.int .i64 (e3:Nat)) rfl _ _ _ _ _ _ rfl bz rfl rfl rfl (by kernel_rfl)) rfl ?_
      have rz:=rz.mono (fq:=fp) (fun j q=>(FQ.out j).2 (.inl q))
      refine FIN.out D3 _ e3 FR3.out A3.a A3.c ⟨ring,rm,A3.na,nw,A3.nc,rm,A3.ca,nw,A3.cc,A3.ba,0,A3.bc,gn,0,b3⟩ wz kz rz.st.ds rz.pa ?_
      intro S q
      by_cases h3:e3=0
      ·rw[if_pos h3]at q
       cases q
       refine⟨rfl,A3,rfl,rfl,?_,⟨⟨rz.st.ds,rz.st.ns,rz.st.cs,rz.st.bs,rz.st.nnil,rz.st.cnil,rz.st.bnil,rz.st.bcap,rz.st.bl⟩,rz.lt,rz.pa,rz.pn,rz.pc,rz.pb⟩⟩
       unfold rzOf
       dsimp only
       simp only[List.length_replicate,List.length_nil,Int.natCast_zero]
      ·rw[if_neg h3]at q
       cases q
 ·have NE:=qh (NO.out 8 (F8.out (by first|trivial|rfl)) ⟨log,0,none,0,0,0,none,0,0,none,0,0,0,0,false⟩)
  clear NO FIN F8 F2 FR FB RO SE
  go_wp2_with fail
  (try simp only[Exit.inBlock,Exit.then])
  refine cutE (fun W=>Blk W (y+1) #[.slice a D.s.length c,.bool true,.int .i64 D.calls,.int .i64 D.after,.bool D.done,.int .i64 log,.int .i64 0,.slice none 0 0,.int .i64 0,.slice none 0 0,.slice none 0 0,.int .i64 0,.int .i64 0,.bool false] 107∧Same w W) ⟨by with_reducible exact Blk.set14 B1.out,by with_reducible exact Kept.set14 K6.out (by have:=HY.out;omega)⟩ ?_
  rintro wz ⟨bz,kz⟩
  refine bodyPost_ret (results_ctmp (b:=.int .i64 8) rfl _ _ _ _ _ _ rfl bz rfl rfl rfl (by kernel_rfl)) rfl ?_
  exact NE.out wz kz
end
end Go.Proofs.YtmiglhlbhbfodaaGreatDoor
