/- GRtD: Rt14, Rt15. -/
import Derived.Test.YtmiglhlbhbfodaaGreatDoorGRtC
import Derived.Test.YtmiglhlbhbfodaaGreatDoorGGw
set_option maxHeartbeats 12000000
set_option maxRecDepth 100000
namespace Go.Proofs.YtmiglhlbhbfodaaGreatDoor
section
open Go.RowKit Go.Sort Go.Shelf
theorem getSl_zero{l:List (List Nat)}(h:(getSl l).2.2=0):okSl l=true∧putSl (getSl l).1 (getSl l).2.1=l:=by
 unfold getSl at h ⊢
 by_cases h1:okSl l=false
 ·rw[if_pos h1]at h;cases h
 ·rw[if_neg h1]at h ⊢
  by_cases h2:954<lenSl l
  ·rw[if_pos h2]at h;cases h
  ·rw[if_neg h2]at h ⊢
   by_cases h3:putSl (genSl l) (bodySl l)=l
   ·rw[if_pos h3]at h ⊢
    exact⟨by simpa using h1,h3⟩
   ·rw[if_neg h3]at h;cases h
theorem getSl_one{l:List (List Nat)}(h:(getSl l).2.2=0)(hl:l.length=4):1≤(getSl l).1:=by
 have hz:=getSl_zero h
 have hg:(getSl l).1=genSl l:=by
  unfold getSl at h ⊢
  by_cases h1:okSl l=false
  ·rw[if_pos h1]at h;cases h
  ·rw[if_neg h1]at h ⊢
   by_cases h2:954<lenSl l
   ·rw[if_pos h2]at h;cases h
   ·rw[if_neg h2]at h ⊢
    by_cases h3:putSl (genSl l) (bodySl l)=l
    ·rw[if_pos h3]
    ·rw[if_neg h3]at h;cases h
 rw[hg]
 match l,hl with
 |b::r,_=>
  have h1:=hz.1
  unfold okSl at h1
  rw[List.all_cons,Bool.and_eq_true,decide_eq_true_eq]at h1
  have h2:=h1.1
  unfold stampE at h2
  split at h2
  ·rename_i q
   have h3:=Option.some.inj h2
   rw[←h3]
   exact q.2.2
  ·cases h2
theorem take_same{D:Dsk}{n:Nat}(hE:(getSl (secsS D n)).2.2=0)(x:List Nat):
 (putSlE ((getSl (secsS D n)).1:Int) x.length=0∧putSl (getSl (secsS D n)).1 x=secsS D n)↔x=(getSl (secsS D n)).2.1:=by
 have h1:=getSl_one hE (secsS_len D n)
 have h2:=getSl_gen (secsS D n)
 have h3:=getSl_body (secsS D n)
 have h4:=(getSl_zero hE).2
 constructor
 ·rintro⟨e1,e2⟩
  have hx:x.length≤954:=by
   unfold putSlE at e1
   split at e1
   ·cases e1
   ·split at e1
    ·cases e1
    ·omega
  have h5:=getSl_put hx h1 h2
  rw[e2]at h5
  rw[h5]
 ·intro e
  rw[e]
  refine⟨?_,h4⟩
  unfold putSlE
  rw[if_neg (by omega),if_neg (by omega)]
theorem getR_yes{D:Dsk}{n:Nat}(hE:(getSl (secsS D n)).2.2=0)(h1:getOK1 D.s.length (getSl (secsS D n)).2.1=true)(h2:getOK2 (getSl (secsS D n)).2.1=true)
 (hm:mapOK ((rd2 (getSl (secsS D n)).2.1).2.2:Nat) (rtOf (getSl (secsS D n)).1 n (getSl (secsS D n)).2.1).words=true) (hp:putR (rtOf (getSl (secsS D n)).1 n (getSl (secsS D n)).2.1)=(getSl (secsS D n)).2.1):
 getR D n=some (rtOf (getSl (secsS D n)).1 n (getSl (secsS D n)).2.1):=by
 unfold getR
 rw[if_pos ⟨hE,h1,h2,by unfold getOK3;rw[hm,hp];simp⟩]
theorem getR_no{D:Dsk}{n:Nat}(h:¬((getSl (secsS D n)).2.2=0∧getOK1 D.s.length (getSl (secsS D n)).2.1=true∧getOK2 (getSl (secsS D n)).2.1=true∧mapOK ((rd2 (getSl (secsS D n)).2.1).2.2:Nat) (rtOf (getSl (secsS D n)).1 n (getSl (secsS D n)).2.1).words=true∧putR (rtOf (getSl (secsS D n)).1 n (getSl (secsS D n)).2.1)=(getSl (secsS D n)).2.1)):
 getR D n=none:=by
 unfold getR
 rw[if_neg]
 rintro⟨a,b,c,d⟩
 unfold getOK3 at d
 rw[Bool.and_eq_true,decide_eq_true_eq]at d
 exact h ⟨a,b,c,d.1,d.2⟩
theorem rdSmall_err(xs:List Nat)(er:Nat)(h:(rdSmall xs er).2.1≠0):(rdSmall xs er).2.2=0:=by
 unfold rdSmall at h ⊢
 by_cases h1:er≠0
 ·rw[if_pos h1]
 ·rw[if_neg h1]at h ⊢
  by_cases h2:(getSmall xs).2.2≠0
  ·rw[if_pos h2]
  ·rw[if_neg h2]at h ⊢
   by_cases h3:1099511627776<(getSmall xs).1
   ·rw[if_pos h3]
   ·rw[if_neg h3]at h;exact absurd rfl h
def TakePost(w:World)(a:Option Addr)(c:Nat)(D:Dsk)(o:Option Rt)(e:Ending)(w':World):Prop:=
 (∃a0 n0 c0 D0 z0,e=.returned (.tuple #[.agg (rzC a0 n0 c0 D0 z0),.bool o.isSome])∧
  ∀r,o=some r→∃A:RA,A.a=a∧A.c=c∧rzC a0 n0 c0 D0 z0=rzC a D.s.length c D (rzOf ⟨D,r,r.size,r.words,false⟩ A)∧RSt w' ⟨D,r,r.size,r.words,false⟩ A∧(∀x,A.na=some x→w.heap.size≤x.block)∧(∀x,A.ca=some x→w.heap.size≤x.block)∧(∀x,A.ba=some x→w.heap.size≤x.block))∧Same w w'
theorem Blk.set2t{w:World}{b:Nat}{v0 v1 u0 u1:Value}{t:TypeId}(h:Blk w b #[v0,v1] t):Blk ((w.setCell ⟨b,0,none⟩ u0).setCell ⟨b,1,none⟩ u1) b #[u0,u1] t:=(h.set 0 u0).set 1 u1
theorem Blk.set5to9{w:World}{b:Nat}{v0 v1 v2 v3 v4 v5 v6 v7 v8 v9 v10 v11 v12 v13 u5 u6 u7 u8 u9:Value}{t:TypeId}(h:Blk w b #[v0,v1,v2,v3,v4,v5,v6,v7,v8,v9,v10,v11,v12,v13] t):
 Blk (((((w.setCell ⟨b,5,none⟩ u5).setCell ⟨b,6,none⟩ u6).setCell ⟨b,7,none⟩ u7).setCell ⟨b,8,none⟩ u8).setCell ⟨b,9,none⟩ u9) b #[v0,v1,v2,v3,v4,u5,u6,u7,u8,u9,v10,v11,v12,v13] t:=by
 have h0:Blk _ b #[v0,v1,v2,v3,v4,u5,v6,v7,v8,v9,v10,v11,v12,v13] t:=h.set 5 u5
 exact h0.set6789
section
attribute [local go_sem ↓] exec_app semAt_app
attribute [local go_sem] isApp_lit appA appX
theorem rt_take(a:Option Addr)(c:Nat)(D:Dsk)(hok:D.OK)(n:Nat)(hn:n≤1)(w:World)(hs:SecsAt w a D.s):
 Calls Tryz.prog 148 #[refV a D.s.length c D,.int .i64 (n:Nat)] w (TakePost w a c D (getR D n)):=by
 obtain⟨R,hR⟩:∃R,TakePost w a c D (getR D n)=R:=⟨_,rfl⟩
 rw[hR]
 have FF:=qh (fun(hq:getR D n=none) (a0:Option Addr) (n0 c0:Nat) (D0:Dsk) (z0:RZ) W (k:Same w W)=>show R (.returned (.tuple #[.agg (rzC a0 n0 c0 D0 z0),.bool false])) W from by
  rw[←hR,hq]
  exact⟨⟨a0,n0,c0,D0,z0,rfl,fun r q=>(by cases q)⟩,k⟩)
 have FT:=qh (fun(r:Rt) (hq:getR D n=some r) (A:RA) (h1:A.a=a) (h2:A.c=c) W (k:Same w W) (h3:RSt W ⟨D,r,r.size,r.words,false⟩ A) (h4:∀x,A.na=some x→w.heap.size≤x.block) (h5:∀x,A.ca=some x→w.heap.size≤x.block) (h6:∀x,A.ba=some x→w.heap.size≤x.block)=>show R (.returned (.tuple #[.agg (rzC a D.s.length c D (rzOf ⟨D,r,r.size,r.words,false⟩ A)),.bool true])) W from by
  rw[←hR,hq]
  exact⟨⟨_,_,_,_,_,rfl,fun r' q=>(by cases q;exact⟨A,h1,h2,rfl,h3,h4,h5,h6⟩)⟩,k⟩)
 have SCT:=qh (fun w' (k:Same w w')=>rt_secs a c D hok n (by omega) w' (hs.same k))
 have BTS:=qh (secsS_bts hok n)
 have GET:=qh (fun a4 c4 w' hat=>rs_get a4 c4 (secsS D n) (secsS_len D n) BTS.out w' hat)
 have RO:=qh (fun(ring:Nat) (hr:ring≤1099511627776) w'=>rt_room a c D hok.few ring hr w')
 have OK:=qh hok
 have HS:=qh hs
 have YE:=qh (@getR_yes D n)
 have NE:=qh (@getR_no D n)
 have TS:=qh (@take_same D n)
 have GB:=qh (show(getSl (secsS D n)).1≤1099511627776∧(getSl (secsS D n)).2.1.length≤954∧Bts (getSl (secsS D n)).2.1 from⟨getSl_gen _,getSl_body _,getSl_bts BTS.out⟩)
 unfold SgetC at GET
 obtain⟨q3,hq3⟩:∃q3,getSl (secsS D n)=q3:=⟨_,rfl⟩
 rw[hq3]at GET YE NE TS GB
 obtain⟨G,B,E⟩:=q3
 dsimp only at GET YE NE TS GB
 obtain⟨N,hN⟩:∃N,D.s.length=N:=⟨_,rfl⟩
 have HN:=qh hN
 have HND:=qh (show n≤1 from hn)
 rw[hN]at YE NE FT RO
 unfold refV at SCT RO ⊢
 rw[hN]at SCT ⊢
 unfold rzC at FF FT
 dsimp only[rzOf]at FT
 clear hR hok hs hq3 hN hn
 go_enter Tryz.func148,Tryz.ntmps148
 go_upto_region 1 with fail
 obtain⟨y,hy⟩:∃y,w.heap.size=y:=⟨_,rfl⟩
 rw[hy]
 refine cutWl (fun wn=>Fr wn [(y,#[.slice a N c,.bool D.off,.int .i64 D.calls,.int .i64 D.after,.bool D.done],104),(y+1,#[.slice none 0 0,.bool false,.int .i64 0,.int .i64 0,.bool false,.int .i64 0,.int .i64 0,.slice none 0 0,.int .i64 0,.slice none 0 0,.slice none 0 0,.int .i64 0,.int .i64 0,.bool false],107)]∧Same w wn) ⟨⟨(Blk.new' _ _ _ hy.symm).alloc _,Blk.new' _ _ _ (by simp[hy]),trivial⟩,((Kept.refl _ _).alloc _).alloc _⟩ ?_
 rintro w5 ⟨hf5,k5⟩
 have F5:=qh hf5
 have K5:=qh k5
 have HY:=qh hy
 obtain⟨p0,f0,p1,f1, -⟩:=F5.out.rules
 clear hf5 k5 hy
 go_wp2_with fail
 with_reducible refine(SCT.out w5 K5.out).mono ?_
 rintro e w6 ⟨⟨v6,rfl,r6⟩,k6⟩
 obtain⟨a6,c6,rfl,ra6⟩:=r6.rowsAt
 rw[secsS_len]
 have GE1:=qh (GET.out a6 c6 w6 ra6)
 have F6:=qh (F5.out.same k6)
 have K6:=qh (K5.out.trans k6)
 clear p0 f0 p1 f1 F5 K5 k6 r6 ra6 GET
 obtain⟨p0,f0,p1,f1, -⟩:=F6.out.rules
 go_wp2_with fail
 with_reducible refine GE1.out.mono ?_
 rintro e w7 ⟨⟨ra,rc,rfl,nB,hrc, -,hrm⟩,k7⟩
 have NB:=qh nB
 have F7:=qh (F6.out.same k7)
 have K7:=qh (K6.out.trans k7)
 clear p0 f0 p1 f1 F6 K6 k7 nB GE1
 obtain⟨p0,f0,p1,f1, -⟩:=F7.out.rules
 have z0:=F7.out.1.lt
 have z1:=F7.out.2.1.lt
 have B1:=qh (show Blk w7 (y+1) #[.slice none 0 0,.bool false,.int .i64 0,.int .i64 0,.bool false,.int .i64 0,.int .i64 0,.slice none 0 0,.int .i64 0,.slice none 0 0,.slice none 0 0,.int .i64 0,.int .i64 0,.bool false] 107 from F7.out.2.1)
 by_cases hE:E=0
 ·subst hE
  have GO1:=(show getOK1 N B=(decide ((rd1 B).2.2≤256)&&(decide ((rd2 B).2.2=roomN N (rd1 B).2.2)&&decide (4≤(rd2 B).2.2)))from rfl)
  have GO2:=(show getOK2 B=(decide (8*(((rd2 B).2.2+63) / 64)≤(rd2 B).1.length)&&decide ((rd2 B).1.length - 8*(((rd2 B).2.2+63) / 64)≤700))from rfl)
  have RTE:=(show rtOf G n B=⟨G,n,(rd1 B).2.2,(rd2 B).2.2,wordsOf (((rd2 B).2.2+63) / 64) (rd2 B).1,(rd2 B).1.drop (8*(((rd2 B).2.2+63) / 64))⟩from rfl)
  have RD1:=(show rdSmall B 0=rd1 B from rfl)
  have RD2:=(show rdSmall (rd1 B).1 (rd1 B).2.1=rd2 B from rfl)
  have RER:(rd2 B).2.1≠0→(rd2 B).2.2=0:=fun h=>rdSmall_err _ _ h
  have RN1:=rd1_num B
  have RB1:=rd1_bts GB.out.2.2
  have RB2:=rd2_bts GB.out.2.2
  have RL2:(rd2 B).1.length≤954:=Nat.le_trans (rd2_drop B).1 GB.out.2.1
  have YE1:=fun h1=>YE.out rfl h1
  have NE1:=fun(h:¬(getOK1 N B=true∧getOK2 B=true∧mapOK ((rd2 B).2.2:Nat) (rtOf G n B).words=true∧putR (rtOf G n B)=B))=>NE.out (fun q=>h q.2)
  generalize rd2 B=q2 at GO1 GO2 RTE RD2 RER RB2 RL2 YE1 NE1
  generalize rd1 B=q1 at GO1 GO2 RTE RD1 RD2 RN1 RB1
  obtain⟨R2,e2,n2⟩:=q2
  obtain⟨R1,e1,n1⟩:=q1
  dsimp only at GO1 GO2 RTE RD1 RD2 RER RB2 RL2 RN1 RB1 YE1 NE1
  have SM1:=fun w' nB=>rf_small ra rc B 0 w' GB.out.2.2 nB hrc hrm
  have SM2:=fun a1 c1 w' (nB:NatsAt w' .u8 a1 R1) h1 h2=>rf_small a1 c1 R1 e1 w' RB1 nB h1 h2
  rw[RD1]at SM1
  rw[RD2]at SM2
  dsimp only at SM1 SM2
  unfold rdrV at SM1 SM2
  simp only[Int.natCast_zero]at SM1
  have FN0:=qh (fun h=>FF.out (NE1 h))
  have FFH:=FF
  have GO1:=qh GO1;have GO2:=qh GO2;have RTE:=qh RTE;have RER:=qh RER;have RN1:=qh RN1;have RB2:=qh RB2;have RL2:=qh RL2;have YE1:=qh YE1;have SM1:=qh SM1;have SM2:=qh SM2
  clear RD1 RD2 RB1 NE1 YE NE
  go_upto_region 5 with fail
  obtain⟨g,hg⟩:∃g,w7.heap.size=g:=⟨_,rfl⟩
  have HG:=qh (show y+2≤g from by omega)
  rw[hg]
  refine cutWl (fun wn=>Fr wn [(y,#[.slice a N c,.bool D.off,.int .i64 D.calls,.int .i64 D.after,.bool D.done],104),(y+1,#[.slice none 0 0,.bool false,.int .i64 0,.int .i64 0,.bool false,.int .i64 0,.int .i64 0,.slice none 0 0,.int .i64 0,.slice none 0 0,.slice none 0 0,.int .i64 0,.int .i64 0,.bool false],107),(g,#[.slice a N c,.bool D.off,.int .i64 D.calls,.int .i64 D.after,.bool D.done,.int .i64 0,.int .i64 0,.slice none 0 0,.int .i64 0,.slice none 0 0,.slice none 0 0,.int .i64 (G:Nat),.int .i64 (n:Nat),.bool false],107)]∧Same w wn∧NatsAt wn .u8 ra B) ⟨⟨F7.out.1.alloc _,F7.out.2.1.alloc _,Blk.new' _ _ _ hg.symm,trivial⟩,K7.out.alloc _,NB.out.same ((Kept.refl _ _).alloc _)⟩ ?_
  rintro w8 ⟨hf8,k8,n8⟩
  have F8:=qh hf8
  have K8:=qh k8
  have GE1:=qh (SM1.out w8 n8)
  clear p0 f0 p1 f1 z0 z1 F7 K7 B1 NB hf8 k8 n8 SM1 hg
  obtain⟨p0,f0,p1,f1,p2,f2, -⟩:=F8.out.rules
  go_wp2_with fail
  with_reducible refine GE1.out.mono ?_
  rintro e w9 ⟨a1,c1,rfl,nR1,hc1,hm1, -,k9⟩
  have GE2:=qh (fun w' (k:Same w9 w')=>SM2.out a1 c1 w' (nR1.same k) hc1 hm1)
  have F9:=qh (F8.out.same k9)
  have K9:=qh (K8.out.trans k9)
  clear p0 f0 p1 f1 p2 f2 F8 K8 k9 nR1 hc1 hm1 GE1 SM2
  obtain⟨p0,f0,p1,f1,p2,f2, -⟩:=F9.out.rules
  have z0:=F9.out.1.lt
  have z1:=F9.out.2.1.lt
  have z2:=F9.out.2.2.1.lt
  go_upto_region 6 with fail
  obtain⟨g2,hg2⟩:∃g2,w9.heap.size=g2:=⟨_,rfl⟩
  have HG2:=qh (show g<g2 from by omega)
  rw[hg2]
  refine cutWl (fun wn=>Fr wn [(y,#[.slice a N c,.bool D.off,.int .i64 D.calls,.int .i64 D.after,.bool D.done],104),(y+1,#[.slice none 0 0,.bool false,.int .i64 0,.int .i64 0,.bool false,.int .i64 0,.int .i64 0,.slice none 0 0,.int .i64 0,.slice none 0 0,.slice none 0 0,.int .i64 0,.int .i64 0,.bool false],107),(g,#[.slice a N c,.bool D.off,.int .i64 D.calls,.int .i64 D.after,.bool D.done,.int .i64 0,.int .i64 0,.slice none 0 0,.int .i64 0,.slice none 0 0,.slice none 0 0,.int .i64 (G:Nat),.int .i64 (n:Nat),.bool false],107),(g2,#[.slice a1 R1.length c1,.int .i64 (e1:Nat)],221)]∧Same w wn∧Same w9 wn) ⟨⟨F9.out.1.alloc _,F9.out.2.1.alloc _,F9.out.2.2.1.alloc _,Blk.new' _ _ _ hg2.symm,trivial⟩,K9.out.alloc _,(Kept.refl _ _).alloc _⟩ ?_
  rintro w10 ⟨hf10,k10,k9⟩
  have F10:=qh hf10
  have K10:=qh k10
  have GE3:=qh (GE2.out w10 k9)
  clear p0 f0 p1 f1 p2 f2 z0 z1 z2 F9 K9 hf10 k10 k9 GE2 hg2
  obtain⟨p0,f0,p1,f1,p2,f2,p3,f3, -⟩:=F10.out.rules
  go_wp2_with fail
  with_reducible refine GE3.out.mono ?_
  rintro e w11 ⟨a2,c2,rfl,nR2,hc2,hm2, -,k11⟩
  have NR2:=qh nR2
  have HC2:=qh (show R2.length≤c2∧c2≤9223372036854775807 from⟨hc2,hm2⟩)
  have F11:=qh (F10.out.same k11)
  have K11:=qh (K10.out.trans k11)
  clear p0 f0 p1 f1 p2 f2 p3 f3 F10 K10 k11 nR2 hc2 hm2 GE3
  obtain⟨p0,f0,p1,f1,p2,f2,p3,f3, -⟩:=F11.out.rules
  have z0:=F11.out.1.lt
  have z1:=F11.out.2.1.lt
  have z2:=F11.out.2.2.1.lt
  have z3:=F11.out.2.2.2.1.lt
  have B2:=qh (show Blk w11 g2 #[.slice a1 R1.length c1,.int .i64 (e1:Nat)] 221 from F11.out.2.2.2.1)
  have N2:=qh (natsAt_not B2.out NR2.out (fun i x q=>by have:=Array.mem_of_getElem? q;simp at this))
  go_upto_region 7 with fail
  refine cutWl (fun wn=>Fr wn [(y,#[.slice a N c,.bool D.off,.int .i64 D.calls,.int .i64 D.after,.bool D.done],104),(y+1,#[.slice none 0 0,.bool false,.int .i64 0,.int .i64 0,.bool false,.int .i64 0,.int .i64 0,.slice none 0 0,.int .i64 0,.slice none 0 0,.slice none 0 0,.int .i64 0,.int .i64 0,.bool false],107),(g,#[.slice a N c,.bool D.off,.int .i64 D.calls,.int .i64 D.after,.bool D.done,.int .i64 0,.int .i64 0,.slice none 0 0,.int .i64 0,.slice none 0 0,.slice none 0 0,.int .i64 (G:Nat),.int .i64 (n:Nat),.bool false],107),(g2,#[.slice a2 R2.length c2,.int .i64 (e2:Nat)],221)]∧Same w wn∧NatsAt wn .u8 a2 R2) ⟨⟨?_,?_,?_,by with_reducible exact Blk.set2t B2.out,trivial⟩,?_,?_⟩ ?_
  ·refine F11.out.1.kept (fp:=fun j=>j=g2) ?_ (by have:=HG.out;have:=HG2.out;omega)
   (repeat(with_reducible first|exact Kept.refl _ _|refine Kept.drew ?_ |refine Kept.setG ?_ _ _))
  ·refine F11.out.2.1.kept (fp:=fun j=>j=g2) ?_ (by have:=HG.out;have:=HG2.out;omega)
   (repeat(with_reducible first|exact Kept.refl _ _|refine Kept.drew ?_ |refine Kept.setG ?_ _ _))
  ·refine F11.out.2.2.1.kept (fp:=fun j=>j=g2) ?_ (by have:=HG.out;have:=HG2.out;omega)
   (repeat(with_reducible first|exact Kept.refl _ _|refine Kept.drew ?_ |refine Kept.setG ?_ _ _))
  ·repeat(with_reducible first|exact K11.out|refine Kept.setNew ?_ (by have:=HG.out;have:=HG2.out;have:=HY.out;dsimp only;omega) _)
  ·refine NR2.out.kept' (fp:=fun j=>j=g2) ?_ N2.out
   (repeat(with_reducible first|exact Kept.refl _ _|refine Kept.drew ?_ |refine Kept.setG ?_ _ _))
  rintro w12 ⟨hf12,k12,n12⟩
  have F12:=qh hf12
  have K12:=qh k12
  have N12:=qh n12
  clear p0 f0 p1 f1 p2 f2 p3 f3 z0 z1 z2 z3 F11 K11 NR2 hf12 k12 n12 B2 N2
  obtain⟨p0,f0,p1,f1,p2,f2,p3,f3, -⟩:=F12.out.rules
  have z1:=F12.out.2.1.lt
  have B1:=qh (show Blk w12 (y+1) #[.slice none 0 0,.bool false,.int .i64 0,.int .i64 0,.bool false,.int .i64 0,.int .i64 0,.slice none 0 0,.int .i64 0,.slice none 0 0,.slice none 0 0,.int .i64 0,.int .i64 0,.bool false] 107 from F12.out.2.1)
  by_cases h2:e2=0
  rotate_left
  ·have g2':(((e2:Nat):Int) !=0)=true:=by simpa using h2
   have g3':(((e2:Nat):Int)==0)=false:=by simpa using h2
   have FN:=qh (FN0.out (fun q=>by have h1:=q.1;rw[GO1.out,RER.out h2]at h1;simp at h1))
   clear FF FT FFH YE1 TS RO FN0 h2
   go_wp2_with fail
   (try simp only[Exit.inBlock,Exit.then])
   refine cutE (fun W=>Blk W (y+1) #[.slice none 0 0,.bool false,.int .i64 0,.int .i64 0,.bool false,.int .i64 0,.int .i64 0,.slice none 0 0,.int .i64 0,.slice none 0 0,.slice none 0 0,.int .i64 0,.int .i64 0,.bool false] 107∧Same w W) ⟨by with_reducible exact Blk.set14 B1.out,by with_reducible exact Kept.set14 K12.out (by have:=HY.out;omega)⟩ ?_
   rintro wz ⟨bz,kz⟩
   refine bodyPost_ret (results_ctmp (b:=.bool false) rfl _ _ _ _ _ _ rfl bz rfl rfl rfl (by kernel_rfl)) rfl ?_
   exact FN.out none 0 0 ⟨[],false,0,0,false⟩ ⟨0,0,none,0,0,0,none,0,0,none,0,0,0,0,false⟩ wz kz
  subst h2
  clear RER
  by_cases hr:n1≤256
  rotate_left
  ·have g2':(256:Int)<(n1:Int):=by omega
   have FN:=qh (FN0.out (fun q=>by have h1:=q.1;rw[GO1.out]at h1;simp[hr]at h1))
   clear FF FT FFH YE1 TS RO FN0
   go_wp2_with fail
   (try simp only[Exit.inBlock,Exit.then])
   refine cutE (fun W=>Blk W (y+1) #[.slice none 0 0,.bool false,.int .i64 0,.int .i64 0,.bool false,.int .i64 0,.int .i64 0,.slice none 0 0,.int .i64 0,.slice none 0 0,.slice none 0 0,.int .i64 0,.int .i64 0,.bool false] 107∧Same w W) ⟨by with_reducible exact Blk.set14 B1.out,by with_reducible exact Kept.set14 K12.out (by have:=HY.out;omega)⟩ ?_
   rintro wz ⟨bz,kz⟩
   refine bodyPost_ret (results_ctmp (b:=.bool false) rfl _ _ _ _ _ _ rfl bz rfl rfl rfl (by kernel_rfl)) rfl ?_
   exact FN.out none 0 0 ⟨[],false,0,0,false⟩ ⟨0,0,none,0,0,0,none,0,0,none,0,0,0,0,false⟩ wz kz
  have g3':¬(256:Int)<(n1:Int):=by omega
  have RO1:=qh (RO.out n1 RN1.out w12)
  obtain⟨rm,hrm'⟩:∃rm,roomN N n1=rm:=⟨_,rfl⟩
  have RML:=qh (show rm≤512 from by rw[←hrm'];exact roomN_le _ _)
  have HRR:=qh hr
  rw[hrm']at RO1 GO1
  clear RO
  go_wp2_with fail
  with_reducible refine RO1.out.mono ?_
  rintro e w13 ⟨rfl,k13⟩
  have F13:=qh (F12.out.same k13)
  have K13:=qh (K12.out.trans k13)
  have N13:=qh (N12.out.same k13)
  clear p0 f0 p1 f1 p2 f2 p3 f3 z1 F12 K12 N12 k13 RO1 B1
  obtain⟨p0,f0,p1,f1,p2,f2,p3,f3, -⟩:=F13.out.rules
  have z0:=F13.out.1.lt
  have z1:=F13.out.2.1.lt
  have z2:=F13.out.2.2.1.lt
  have z3:=F13.out.2.2.2.1.lt
  have B1:=qh (show Blk w13 (y+1) #[.slice none 0 0,.bool false,.int .i64 0,.int .i64 0,.bool false,.int .i64 0,.int .i64 0,.slice none 0 0,.int .i64 0,.slice none 0 0,.slice none 0 0,.int .i64 0,.int .i64 0,.bool false] 107 from F13.out.2.1)
  by_cases hsz:n2=rm
  rotate_left
  ·have g4':(((n2:Nat):Int) !=((rm:Nat):Int))=true:=by simp;omega
   have g5':(((n2:Nat):Int)==((rm:Nat):Int))=false:=by simp;omega
   have FN:=qh (FN0.out (fun q=>by have h1:=q.1;rw[GO1.out]at h1;simp[hsz]at h1))
   clear FF FT FFH YE1 TS FN0 hsz
   go_wp2_with fail
   (try simp only[Exit.inBlock,Exit.then])
   refine cutE (fun W=>Blk W (y+1) #[.slice none 0 0,.bool false,.int .i64 0,.int .i64 0,.bool false,.int .i64 0,.int .i64 0,.slice none 0 0,.int .i64 0,.slice none 0 0,.slice none 0 0,.int .i64 0,.int .i64 0,.bool false] 107∧Same w W) ⟨by with_reducible exact Blk.set14 B1.out,by with_reducible exact Kept.set14 K13.out (by have:=HY.out;omega)⟩ ?_
   rintro wz ⟨bz,kz⟩
   refine bodyPost_ret (results_ctmp (b:=.bool false) rfl _ _ _ _ _ _ rfl bz rfl rfl rfl (by kernel_rfl)) rfl ?_
   exact FN.out none 0 0 ⟨[],false,0,0,false⟩ ⟨0,0,none,0,0,0,none,0,0,none,0,0,0,0,false⟩ wz kz
  subst hsz
  by_cases h4:4≤n2
  rotate_left
  ·have g4':(n2:Int)<4:=by omega
   have FN:=qh (FN0.out (fun q=>by have h1:=q.1;rw[GO1.out]at h1;simp[h4]at h1))
   clear FF FT FFH YE1 TS FN0
   go_wp2_with fail
   (try simp only[Exit.inBlock,Exit.then])
   refine cutE (fun W=>Blk W (y+1) #[.slice none 0 0,.bool false,.int .i64 0,.int .i64 0,.bool false,.int .i64 0,.int .i64 0,.slice none 0 0,.int .i64 0,.slice none 0 0,.slice none 0 0,.int .i64 0,.int .i64 0,.bool false] 107∧Same w W) ⟨by with_reducible exact Blk.set14 B1.out,by with_reducible exact Kept.set14 K13.out (by have:=HY.out;omega)⟩ ?_
   rintro wz ⟨bz,kz⟩
   refine bodyPost_ret (results_ctmp (b:=.bool false) rfl _ _ _ _ _ _ rfl bz rfl rfl rfl (by kernel_rfl)) rfl ?_
   exact FN.out none 0 0 ⟨[],false,0,0,false⟩ ⟨0,0,none,0,0,0,none,0,0,none,0,0,0,0,false⟩ wz kz
  have g4':¬(n2:Int)<4:=by omega
  have YE2:=qh (fun h=>YE1.out (by rw[GO1.out];simp;omega) h)
  have NWM:=qh (fun w'=>rb_new_ok n2 w' (by have:=RML.out;omega))
  obtain⟨k,hk⟩:∃k,(n2+63) / 64=k:=⟨_,rfl⟩
  have HK:=qh (show(n2+63) / 64=k∧1≤k∧k≤8 from⟨hk,by omega,by have:=RML.out;omega⟩)
  have H4:=qh h4
  rw[hk]at NWM GO2 RTE
  unfold mapV at NWM
  clear hk hrm' g3' YE1
  go_wp2_with fail
  with_reducible refine(NWM.out w13).mono ?_
  rintro e w14 ⟨gw,rfl,ho,k14⟩
  have GW0:=World.ownsRow.lt ho gw rfl
  have F14:=qh (F13.out.same k14)
  have K14:=qh (K13.out.trans k14)
  have N14:=qh (N13.out.same k14)
  have O14:=qh ho
  obtain⟨zb,hzb⟩:∃zb,w13.heap.size=zb:=⟨_,rfl⟩
  have BKZ:=natsAt_lt N13.out
  rw[hzb]at O14 GW0 BKZ
  have BKZ:=qh BKZ
  have ZB:=qh (show g2<zb from by omega)
  clear p0 f0 p1 f1 p2 f2 p3 f3 z0 z1 z2 z3 F13 K13 N13 k14 NWM ho B1 hzb g4' h4 hr
  obtain⟨p0,f0,p1,f1,p2,f2,p3,f3, -⟩:=F14.out.rules
  go_upto_region 10 with fail
  obtain⟨g4,hg4⟩:∃g4,w14.heap.size=g4:=⟨_,rfl⟩
  have GW:=qh (show zb≤gw∧gw<g4 from⟨GW0.1,by omega⟩)
  rw[hg4]
  refine cutWl (fun wn=>Fr wn [(y,#[.slice a N c,.bool D.off,.int .i64 D.calls,.int .i64 D.after,.bool D.done],104),(y+1,#[.slice none 0 0,.bool false,.int .i64 0,.int .i64 0,.bool false,.int .i64 0,.int .i64 0,.slice none 0 0,.int .i64 0,.slice none 0 0,.slice none 0 0,.int .i64 0,.int .i64 0,.bool false],107),(g,#[.slice a N c,.bool D.off,.int .i64 D.calls,.int .i64 D.after,.bool D.done,.int .i64 0,.int .i64 0,.slice none 0 0,.int .i64 0,.slice none 0 0,.slice none 0 0,.int .i64 (G:Nat),.int .i64 (n:Nat),.bool false],107),(g2,#[.slice a2 R2.length c2,.int .i64 0],221),(g4,#[.int .i64 (n2:Nat),.slice (some ⟨gw,0,none⟩) k k],105)]∧Same w wn∧NatsAt wn .u8 a2 R2∧OwnN wn zb 98 .u64 (.slice (some ⟨gw,0,none⟩) k k) (List.replicate k 0)) ⟨⟨F14.out.1.alloc _,F14.out.2.1.alloc _,F14.out.2.2.1.alloc _,F14.out.2.2.2.1.alloc _,Blk.new' _ _ _ hg4.symm,trivial⟩,K14.out.alloc _,N14.out.same ((Kept.refl _ _).alloc _),O14.out.same ((Kept.refl _ _).alloc _)⟩ ?_
  rintro w15 ⟨hf15,k15,n15,o15⟩
  have F15:=qh hf15
  have K15:=qh k15
  have N15:=qh n15
  have O15:=qh o15
  clear p0 f0 p1 f1 p2 f2 p3 f3 F14 K14 N14 O14 hf15 k15 n15 o15 GW0 hg4
  obtain⟨p0,f0,p1,f1,p2,f2,p3,f3,p4,f4, -⟩:=F15.out.rules
  have z1:=F15.out.2.1.lt
  have B1:=qh (show Blk w15 (y+1) #[.slice none 0 0,.bool false,.int .i64 0,.int .i64 0,.bool false,.int .i64 0,.int .i64 0,.slice none 0 0,.int .i64 0,.slice none 0 0,.slice none 0 0,.int .i64 0,.int .i64 0,.bool false] 107 from F15.out.2.1)
  have hk8:=HK.out.2.2
  have hk1:=HK.out.2.1
  have hRL:=RL2.out
  by_cases hl1:8*k≤R2.length
  rotate_left
  ·have g1:((R2.length:Nat):Int)<8*(k:Int):=by omega
   have FN:=qh (FN0.out (fun q=>by have h1:=q.2.1;rw[GO2.out]at h1;simp[hl1]at h1))
   clear FF FT FFH YE2 TS FN0
   go_wp2_with fail
   (try simp only[Exit.inBlock,Exit.then])
   refine cutE (fun W=>Blk W (y+1) #[.slice none 0 0,.bool false,.int .i64 0,.int .i64 0,.bool false,.int .i64 0,.int .i64 0,.slice none 0 0,.int .i64 0,.slice none 0 0,.slice none 0 0,.int .i64 0,.int .i64 0,.bool false] 107∧Same w W) ⟨by with_reducible exact Blk.set14 B1.out,by with_reducible exact Kept.set14 K15.out (by have:=HY.out;omega)⟩ ?_
   rintro wz ⟨bz,kz⟩
   refine bodyPost_ret (results_ctmp (b:=.bool false) rfl _ _ _ _ _ _ rfl bz rfl rfl rfl (by kernel_rfl)) rfl ?_
   exact FN.out none 0 0 ⟨[],false,0,0,false⟩ ⟨0,0,none,0,0,0,none,0,0,none,0,0,0,0,false⟩ wz kz
  have g1:¬((R2.length:Nat):Int)<8*(k:Int):=by omega
  obtain⟨bk,oo,rfl,hbk⟩:∃bk oo,a2=some ⟨bk,oo,none⟩∧bk<w15.heap.size:=by
   rcases N15.out with h|⟨b,o,e,hl,_⟩
   ·rw[h]at hl1;simp at hl1;omega
   ·exact⟨b,o,e,hl⟩
  have HL1:=qh hl1
  have O15z:=qh (show OwnN w15 zb 98 .u64 (.slice (some ⟨gw,0,none⟩) k k) (fillW k R2 0 0)from by rw[fillW_zero];exact O15.out)
  have BKL:=qh (show bk<zb from by
   have hne:R2≠[]:=fun q=>by rw[q]at hl1;simp at hl1;omega
   exact BKZ.out hne _ rfl)
  clear B1 hl1 O15 BKZ hbk
  go_wp2_with fail
  go_loopw [15] (fun t wr=>∃(i:Nat),t=.int .i64 i∧i≤k∧OwnN wr zb 98 .u64 (.slice (some ⟨gw,0,none⟩) k k) (fillW k R2 i 0)∧Kept (fun j=>j=gw) w15 wr) (fun t _=>k - (intOf t).toNat)
  case atStart=>exact⟨0,rfl,by omega,O15z.out,Kept.refl _ _⟩
  case round=>
   obtain⟨i,rfl,hi,ho,hkk⟩:=hrel
   have K:=qh hkk
   have O:=qh ho
   have GNE:=qh (show y≠gw∧y+1≠gw∧g≠gw∧g2≠gw∧g4≠gw from by have h1:=HG.out;have h2:=HG2.out;have h3:=ZB.out;have h4:=GW.out;omega)
   have Mr:=qh (F15.out.2.2.2.2.1.kept hkk GNE.out.2.2.2.2)
   clear hkk ho p0 f0 p1 f1 p2 f2 p3 f3 p4 f4 z1
   have p4:=cell_blk Mr.out
   by_cases hgo:i<k
   ·have gA:(i:Int)<(k:Int):=by omega
    have gB:(0:Int)≤(i:Int):=by omega
    have HGO:=qh hgo
    generalize wr=wd at*
    go_wp2_with fail
    go_loopw [16] (fun t wr=>∃(j:Nat),t=.int .i64 j∧j≤8∧OwnN wr zb 98 .u64 (.slice (some ⟨gw,0,none⟩) k k) (fillW k R2 i j)∧Kept (fun j=>j=gw) w15 wr) (fun t _=>8 - (intOf t).toNat)
    case atStart=>exact⟨0,rfl,by omega,O.out,K.out⟩
    case round=>
     obtain⟨j,rfl,hj,ho,hkk⟩:=hrel
     have K:=qh hkk
     have O:=qh ho
     have Mr:=qh (F15.out.2.2.2.2.1.kept hkk GNE.out.2.2.2.2)
     have Qr:=qh (F15.out.2.2.2.1.kept hkk GNE.out.2.2.2.1)
     clear hkk ho p4
     by_cases hgj:j<8
     ·have hil:8*i+j<R2.length:=by have:=HL1.out;omega
      have NRr:=N15.out.kept K.out (fun x hx (e:x.block=gw)=>by cases hx;have:=BKL.out;have:=GW.out.1;dsimp only at e;omega)
      obtain⟨_,_,c0,e, -,hc,hcl⟩:=NRr.at hil
      cases e
      have CB:=qh (RB2.out c0 (List.mem_of_getElem? hc))
      have X64:=qh (low_lt8 RB2.out (8*i) hgj)
      obtain⟨x,hx⟩:∃x,low ((R2.drop (8*i)).take j)=x:=⟨_,rfl⟩
      rw[hx]at X64
      have STP:=qh (fillW_set (k:=k) hx hc)
      have hwc:=O.out.cell (fillW_len _ _ _ _) (by rw[fillW_at _ _ _ _ hgo,hx])
      have gx:=u64_wrap (256*(x:Int)) (by have:=X64.out;omega) (by have:=X64.out;omega)
      have gad:=u64_wrap (256*(x:Int)+(c0:Int)) (by have:=X64.out;have:=CB.out;omega) (by have:=X64.out;have:=CB.out;omega)
      have gc:=u64_wrap (c0:Int) (by omega) (by have:=CB.out;omega)
      obtain⟨qq,hqq⟩:∃qq,8*i+j=qq:=⟨_,rfl⟩
      rw[hqq]at hcl hil
      have gq1:IntKind.i64.wrap (8*(i:Int))=8*(i:Int):=by rw[IntKind.wrap_i64];omega
      have gq2:IntKind.i64.wrap (8*(i:Int)+(j:Int))=(qq:Int):=by rw[IntKind.wrap_i64];omega
      have gq3:(qq:Int)<((R2.length:Nat):Int):=by omega
      have gq4:(0:Int)≤(qq:Int):=by omega
      have GL2:=O.out.lt.2
      have WC:=qh hwc
      have CCL:=qh hcl
      have BKW:=qh (show bk<wr.heap.size from by have:=BKL.out;have:=GW.out.1;omega)
      have GF:=qh (show∀w',Same wr w'→w'.frozen? ⟨gw,i,none⟩=false from fun w' k=>(O.out.same k).free (fillW_len _ _ _ _) i)
      have QX:=qh (show∀w',Same wr w'→w'.cell? ⟨g4,1,none⟩=some (.slice (some ⟨gw,0,none⟩) k k)∧w'.cell? ⟨gw,i,none⟩=some (.int .u64 (x:Nat))∧w'.cell? ⟨g2,0,none⟩=some (.slice (some ⟨bk,oo,none⟩) R2.length c2)∧w'.cell? ⟨bk,oo+qq,none⟩=some (.int .u8 (c0:Nat))from fun w' k=>⟨cell_blk (Mr.out.kept k (fun h=>h)) 1,((k.cell (p:=⟨gw,i,none⟩) GL2 (fun h=>h)).trans WC.out),cell_blk (Qr.out.kept k (fun h=>h)) 0,((k.cell (p:=⟨bk,oo+qq,none⟩) BKW.out (fun h=>h)).trans CCL.out)⟩)
      clear NRr hil hcl hwc hc hx hqq
      have g6:(j:Int)<8:=by omega
      have g7:(0:Int)≤(j:Int):=by omega
      go_wp2_with fail
      refine wp_region_T (S:=fun w'=>Same wr w') 20 (by kernel_rfl) (Kept.refl _ _).drew (fun hHeld hDn=>?_)
      refine wpT_z 0 91 QX hHeld hDn fun hDn=>?_
      refine wpT_z 1 92 QX hHeld hDn fun hDn=>?_
      refine wpT_z 2 93 QX hHeld hDn fun hDn=>?_
      refine wpT_z 3 94 QX hHeld hDn fun hDn=>?_
      refine wpT_z 4 95 QX hHeld hDn fun hDn=>?_
      refine wpT_z 5 96 QX hHeld hDn fun hDn=>?_
      refine wpT_z 6 97 QX hHeld hDn fun hDn=>?_
      refine wpT_z 7 98 QX hHeld hDn fun hDn=>?_
      refine wpT_z 8 99 QX hHeld hDn fun hDn=>?_
      refine wpT_z 9 100 QX hHeld hDn fun hDn=>?_
      refine wpT_z 10 101 QX hHeld hDn fun hDn=>?_
      refine wpT_z 11 102 QX hHeld hDn fun hDn=>?_
      refine wpT_z 12 103 QX hHeld hDn fun hDn=>?_
      refine wpT_z 13 104 QX hHeld hDn fun hDn=>?_
      refine wpT_z 14 105 QX hHeld hDn fun hDn=>?_
      refine wpT_z 15 106 QX hHeld hDn fun hDn=>?_
      refine wpT_z 16 107 QX hHeld hDn fun hDn=>?_
      refine wpT_z 17 108 QX hHeld hDn fun hDn=>?_
      refine wpT_z 18 109 QX hHeld hDn fun hDn=>?_
      refine wpT_z 19 110 QX hHeld hDn fun hDn=>?_
      have fW:=(QX.out wr.drew (Kept.refl _ _).drew).2.1
      have fF:=GF.out wr.drew (Kept.refl _ _).drew
      refine wpT_last rfl (by kernel_rfl) hDn (fun K hK=>?_)
      go_simp
      refine hK.out _ _ (fun hDn'=>?_)
      clear hK K hDn hHeld;have hDn:=hDn';clear hDn'
      refine wpT_done (by kernel_rfl) ?_ _
      clear hDn QX fW fF gx gc gad gq1 gq2 gq3 gq4
      have O2:=qh (show OwnN (wr.setCell ⟨gw,i,none⟩ (.int .u64 ((256*x+c0:Nat):Int))).drew zb 98 .u64 (.slice (some ⟨gw,0,none⟩) k k) (fillW k R2 i (j+1))from by rw[←STP.out];exact(O.out.set (fillW_len _ _ _ _) i _).same (Kept.refl _ _).drew)
      have K2:=qh (show Kept (fun j=>j=gw) w15 (wr.setCell ⟨gw,i,none⟩ (.int .u64 ((256*x+c0:Nat):Int))).drew from(K.out.setG _ _).drew)
      go_wp2_with fail
      exact⟨⟨j+1,by go_num,by omega,O2.out,K2.out⟩,by simp[intOf];omega⟩
     ·have hj8:j=8:=by omega
      subst hj8
      rw[fillW_next]at O
      clear hj hgj
      go_wp2_with fail
      exact⟨⟨i+1,by go_num,by have:=HGO.out;omega,O.out,K.out⟩,by have:=HGO.out;simp[intOf];omega⟩
   ·have hik:i=k:=by omega
    have g3:¬(i:Int)<(k:Int):=by omega
    rw[hik,fillW_all]at O
    have Fr15:=qh (show Fr wr [(y,#[.slice a N c,.bool D.off,.int .i64 D.calls,.int .i64 D.after,.bool D.done],104),(y+1,#[.slice none 0 0,.bool false,.int .i64 0,.int .i64 0,.bool false,.int .i64 0,.int .i64 0,.slice none 0 0,.int .i64 0,.slice none 0 0,.slice none 0 0,.int .i64 0,.int .i64 0,.bool false],107),(g,#[.slice a N c,.bool D.off,.int .i64 D.calls,.int .i64 D.after,.bool D.done,.int .i64 0,.int .i64 0,.slice none 0 0,.int .i64 0,.slice none 0 0,.slice none 0 0,.int .i64 (G:Nat),.int .i64 (n:Nat),.bool false],107),(g2,#[.slice (some ⟨bk,oo,none⟩) R2.length c2,.int .i64 0],221),(g4,#[.int .i64 (n2:Nat),.slice (some ⟨gw,0,none⟩) k k],105)]from⟨F15.out.1.kept K.out GNE.out.1,F15.out.2.1.kept K.out GNE.out.2.1,F15.out.2.2.1.kept K.out GNE.out.2.2.1,F15.out.2.2.2.1.kept K.out GNE.out.2.2.2.1,F15.out.2.2.2.2.1.kept K.out GNE.out.2.2.2.2,trivial⟩)
    have N16:=qh (N15.out.kept K.out (fun x hx (e:x.block=gw)=>by cases hx;have:=BKL.out;have:=GW.out.1;dsimp only at e;omega))
    have K16:=qh (K15.out.step K.out (fun j hj e=>by have h1:=HG.out;have h2:=HG2.out;have h3:=ZB.out;have h4:=GW.out;have h5:=HY.out;omega))
    have BG:=qh (natsAt_not Fr15.out.2.2.1 N16.out (fun i x q=>by have:=Array.mem_of_getElem? q;simp at this))
    clear K O15z hi hgo N15 F15 p4 Mr
    obtain⟨p0,f0,p1,f1,p2,f2,p3,f3,p4,f4, -⟩:=Fr15.out.rules
    have z2:=Fr15.out.2.2.1.lt
    have GGN:=qh (show y≠g∧y+1≠g∧g2≠g∧g4≠g∧gw≠g from by have h1:=HG.out;have h2:=HG2.out;have h3:=ZB.out;have h4:=GW.out;omega)
    have QX:=qh (fun w' (k':Kept (fun j=>j=g) wr w')=>(⟨cell_blk (Fr15.out.2.2.2.2.1.kept k' GGN.out.2.2.2.1),trivial,trivial,trivial⟩:(∀i,w'.cell? ⟨g4,i,none⟩=(#[.int .i64 (n2:Nat),.slice (some ⟨gw,0,none⟩) k k]:Array Value)[i]?)∧True∧True∧True))
    go_wp2_with fail
    refine wp_region_T (S:=fun w'=>Kept (fun j=>j=g) wr w') 8 (by kernel_rfl) (Kept.refl _ _).drew (fun hHeld hDn=>?_)
    refine wpT_z 0 111 QX hHeld hDn fun hDn=>?_
    refine wpT_z 1 112 QX hHeld hDn fun hDn=>?_
    refine wpT_z 2 113 QX hHeld hDn fun hDn=>?_
    refine wpT_z 3 114 QX hHeld hDn fun hDn=>?_
    refine wpT_one (i:=4) rfl (by kernel_rfl) hDn (fun K' hK=>?_)
    go_simp
    refine hK.out _ _ ((Kept.refl _ _).drew.setG _ _) (fun hHeld2 hDn2=>?_)
    clear hK K' hHeld hDn
    have hHeld:=hHeld2;have hDn:=hDn2
    clear hHeld2 hDn2
    refine wpT_z 5 115 QX hHeld hDn fun hDn=>?_
    refine wpT_one (i:=6) rfl (by kernel_rfl) hDn (fun K' hK=>?_)
    go_simp
    refine hK.out _ _ ((((Kept.refl _ _).drew.setG _ _).setG _ _).setG _ _) (fun hHeld2 hDn2=>?_)
    clear hK K' hHeld hDn
    have hHeld:=hHeld2;have hDn:=hDn2
    clear hHeld2 hDn2
    refine wpT_z 7 116 QX hHeld hDn fun hDn=>?_
    refine wpT_last rfl (by kernel_rfl) hDn (fun K hK=>?_)
    go_simp
    refine hK.out _ _ (fun hDn'=>?_)
    clear hK K hDn hHeld;have hDn:=hDn';clear hDn'
    refine wpT_done (by kernel_rfl) ?_ _
    clear QX hDn
    have B2:=qh (show Blk wr g #[.slice a N c,.bool D.off,.int .i64 D.calls,.int .i64 D.after,.bool D.done,.int .i64 0,.int .i64 0,.slice none 0 0,.int .i64 0,.slice none 0 0,.slice none 0 0,.int .i64 (G:Nat),.int .i64 (n:Nat),.bool false] 107 from Fr15.out.2.2.1)
    go_upto_region 20 with fail
    refine cutWl (fun wn=>Fr wn [(y,#[.slice a N c,.bool D.off,.int .i64 D.calls,.int .i64 D.after,.bool D.done],104),(y+1,#[.slice none 0 0,.bool false,.int .i64 0,.int .i64 0,.bool false,.int .i64 0,.int .i64 0,.slice none 0 0,.int .i64 0,.slice none 0 0,.slice none 0 0,.int .i64 0,.int .i64 0,.bool false],107),(g,#[.slice a N c,.bool D.off,.int .i64 D.calls,.int .i64 D.after,.bool D.done,.int .i64 (n1:Nat),.int .i64 (n2:Nat),.slice (some ⟨gw,0,none⟩) k k,.int .i64 (n2:Nat),.slice (some ⟨gw,0,none⟩) k k,.slice none 0 0,.int .i64 (G:Nat),.int .i64 (n:Nat),.bool false],107),(g2,#[.slice (some ⟨bk,oo,none⟩) R2.length c2,.int .i64 0],221),(g4,#[.int .i64 (n2:Nat),.slice (some ⟨gw,0,none⟩) k k],105)]∧Same w wn∧NatsAt wn .u8 (some ⟨bk,oo,none⟩) R2∧OwnN wn zb 98 .u64 (.slice (some ⟨gw,0,none⟩) k k) (wordsOf k R2)) ⟨⟨?_,?_,by with_reducible exact(Blk.set5to9 B2.out).drew,?_,?_,trivial⟩,?_,?_,?_⟩ ?_
    ·refine Fr15.out.1.kept (fp:=fun j=>j=g) ?_ GGN.out.1
     (repeat(with_reducible first|exact Kept.refl _ _|refine Kept.drew ?_ |refine Kept.setG ?_ _ _))
    ·refine Fr15.out.2.1.kept (fp:=fun j=>j=g) ?_ GGN.out.2.1
     (repeat(with_reducible first|exact Kept.refl _ _|refine Kept.drew ?_ |refine Kept.setG ?_ _ _))
    ·refine Fr15.out.2.2.2.1.kept (fp:=fun j=>j=g) ?_ GGN.out.2.2.1
     (repeat(with_reducible first|exact Kept.refl _ _|refine Kept.drew ?_ |refine Kept.setG ?_ _ _))
    ·refine Fr15.out.2.2.2.2.1.kept (fp:=fun j=>j=g) ?_ GGN.out.2.2.2.1
     (repeat(with_reducible first|exact Kept.refl _ _|refine Kept.drew ?_ |refine Kept.setG ?_ _ _))
    ·repeat(with_reducible first|exact K16.out|refine Kept.setNew ?_ (by have:=HG.out;have:=HY.out;dsimp only;omega) _|refine Kept.drew ?_)
    ·refine N16.out.kept' (fp:=fun j=>j=g) ?_ BG.out
     (repeat(with_reducible first|exact Kept.refl _ _|refine Kept.drew ?_ |refine Kept.setG ?_ _ _))
    ·refine O.out.kept (fp:=fun j=>j=g) ?_ (fun j hj e=>by have h1:=GGN.out.2.2.2.2;simp[Value.ownBlock]at hj;omega)
     (repeat(with_reducible first|exact Kept.refl _ _|refine Kept.drew ?_ |refine Kept.setG ?_ _ _))
    rintro w17 ⟨hf17,k17,n17,o17⟩
    have F17:=qh hf17
    have K17:=qh k17
    have N17:=qh n17
    have O17:=qh o17
    clear p0 f0 p1 f1 p2 f2 p3 f3 p4 f4 z2 Fr15 K16 N16 O B2 BG hf17 k17 n17 o17
    have RTE2:=RTE.out
    obtain⟨k8,hk8e⟩:∃k8,8*k=k8:=⟨_,rfl⟩
    have hl1:=HL1.out
    rw[hk8e]at RTE2 hl1 GO2
    have gw8:IntKind.i64.wrap (8*(k:Int))=(k8:Int):=by rw[IntKind.wrap_i64];omega
    have gk0:(0:Int)≤(k8:Int):=by omega
    have gk1:(k8:Int)≤((R2.length:Nat):Int):=by omega
    clear RTE
    have RTE:=qh RTE2
    have HK8:=qh hk8e
    clear RTE2 hk8e g1
    have hc2:=HC2.out.1
    have hm2:=HC2.out.2
    obtain⟨o3,ho3⟩:∃o3,(if c2=k8 then(some ⟨bk,oo,none⟩:Option Addr)else some ⟨bk,oo+k8,none⟩)=some ⟨bk,o3,none⟩:=by
     split
     ·exact⟨_,rfl⟩
     ·exact⟨_,rfl⟩
    have NB3:=qh (show NatsAt w17 .u8 (some ⟨bk,o3,none⟩) (R2.drop k8)from by
     by_cases hc:c2=k8
     ·left
      exact List.drop_eq_nil_of_le (by omega)
     ·rw[if_neg hc]at ho3
      cases ho3
      exact N17.out.drop k8)
    obtain⟨nl,hnl⟩:∃nl,R2.length - k8=nl:=⟨_,rfl⟩
    have HBL:=qh (show(R2.drop k8).length=nl from by rw[List.length_drop];exact hnl)
    have o0:OwnN w17.drew w17.heap.size 5 .u8 (.slice none 0 0) []:=World.ownsRow_nil _ _ _ _
    obtain⟨v6,w6,hr6,ho6,hk6⟩:=nat_app o0 (Nat.le_refl _) (some ⟨bk,o3,none⟩) nl (c2 - k8) (R2.drop k8) HBL.out.symm (NB3.out.same (Kept.refl _ _).drew) (fun h=>by cases h) (by simp;omega)
    rw[List.nil_append]at ho6
    have k6:Same w17 w6:=((Kept.refl _ _).drew).step hk6 (fun j hj q=>by omega)
    have hlt6:=World.ownsRow.lt ho6
    obtain⟨a8,l8,c8,rfl,hl8,hnil8,hat8,hc8⟩:=OwnN.rd ho6
    obtain rfl:l8=nl:=by rw[hl8.out,HBL.out]
    have BLK:=qh (show∀x,a8=some x→w17.heap.size≤x.block∧x.block<w6.heap.size from fun x hx=>hlt6 x.block (by rw[hx];rfl))
    obtain⟨aok6,aV6,aW6⟩:=app_of hr6
    have F18:=qh (F17.out.same k6)
    have K18:=qh (K17.out.trans k6)
    have K6:=qh k6
    have O18:=qh (O17.out.same k6)
    clear hr6 ho6 hk6 k6 hl8 hlt6 NB3 o0
    have QX:=qh (fun w' (k':Same w17 w')=>(⟨cell_blk (F17.out.2.2.1.kept k' (fun h=>h)),cell_blk (F17.out.2.2.2.1.kept k' (fun h=>h)),cell_blk (F17.out.2.2.2.2.1.kept k' (fun h=>h)),trivial⟩:(∀i,w'.cell? ⟨g,i,none⟩=(#[.slice a N c,.bool D.off,.int .i64 D.calls,.int .i64 D.after,.bool D.done,.int .i64 (n1:Nat),.int .i64 (n2:Nat),.slice (some ⟨gw,0,none⟩) k k,.int .i64 (n2:Nat),.slice (some ⟨gw,0,none⟩) k k,.slice none 0 0,.int .i64 (G:Nat),.int .i64 (n:Nat),.bool false]:Array Value)[i]?)∧(∀i,w'.cell? ⟨g2,i,none⟩=(#[.slice (some ⟨bk,oo,none⟩) R2.length c2,.int .i64 0]:Array Value)[i]?)∧(∀i,w'.cell? ⟨g4,i,none⟩=(#[.int .i64 (n2:Nat),.slice (some ⟨gw,0,none⟩) k k]:Array Value)[i]?)∧True))
    go_wp2_with fail
    refine wp_region_T (S:=fun w'=>Same w17 w') 11 (by kernel_rfl) (Kept.refl _ _).drew (fun hHeld hDn=>?_)
    refine wpT_z 0 117 QX hHeld hDn fun hDn=>?_
    refine wpT_z 1 118 QX hHeld hDn fun hDn=>?_
    refine wpT_z 2 119 QX hHeld hDn fun hDn=>?_
    refine wpT_z 3 120 QX hHeld hDn fun hDn=>?_
    refine wpT_z 4 121 QX hHeld hDn fun hDn=>?_
    refine wpT_z 5 122 QX hHeld hDn fun hDn=>?_
    refine wpT_zw 6 123 hHeld hDn fun hDn=>?_
    refine wpT_zw 7 124 hHeld hDn fun hDn=>?_
    refine wpT_zw 8 125 hHeld hDn fun hDn=>?_
    refine wpT_one (i:=9) rfl (by kernel_rfl) hDn (fun K' hK=>?_)
    go_simp
    refine hK.out _ _ K6.out (fun hHeld2 hDn2=>?_)
    clear hK K' hHeld hDn
    have hHeld:=hHeld2;have hDn:=hDn2
    clear hHeld2 hDn2
    obtain⟨q0,e0,q1,e1,q2,e2, -⟩:=F18.out.rules
    have z0:=F18.out.1.lt
    have z1:=F18.out.2.1.lt
    have z2:=F18.out.2.2.1.lt
    refine wpT_zw 10 127 hHeld hDn fun hDn=>?_
    refine wpT_last rfl (by kernel_rfl) hDn (fun K hK=>?_)
    go_simp
    refine hK.out _ _ (fun hDn'=>?_)
    clear hK K hDn hHeld;have hDn:=hDn';clear hDn'
    refine wpT_done (by kernel_rfl) ?_ _
    clear QX hDn
    have B2:=qh (show Blk w6 g #[.slice a N c,.bool D.off,.int .i64 D.calls,.int .i64 D.after,.bool D.done,.int .i64 (n1:Nat),.int .i64 (n2:Nat),.slice (some ⟨gw,0,none⟩) k k,.int .i64 (n2:Nat),.slice (some ⟨gw,0,none⟩) k k,.slice none 0 0,.int .i64 (G:Nat),.int .i64 (n:Nat),.bool false] 107 from F18.out.2.2.1)
    have WL:=qh (show(wordsOf k R2).length=k∧Words (wordsOf k R2)from⟨wordsOf_len _ _,wordsOf_words RB2.out _⟩)
    have YE3:=fun h1 h2 h3=>YE2.out h1 h2 h3
    have FN1:=fun h=>FN0.out h
    rw[RTE.out]at YE3 FN1
    dsimp only at YE3 FN1
    have BB:=qh (show Bts (R2.drop k8)from RB2.out.drop k8)
    obtain⟨W,hW⟩:∃W,wordsOf k R2=W:=⟨_,rfl⟩
    obtain⟨BD,hBD⟩:∃BD,R2.drop k8=BD:=⟨_,rfl⟩
    rw[hW,hBD]at YE3 FN1
    rw[hW]at WL O18
    rw[hBD]at hat8 HBL BB
    have YE:=qh YE3
    have FN:=qh FN1
    clear YE3 FN1 YE2 FN0 FFH hW RTE
    go_upto_region 21 with fail
    refine cutWl (fun wn=>Fr wn [(y,#[.slice a N c,.bool D.off,.int .i64 D.calls,.int .i64 D.after,.bool D.done],104),(y+1,#[.slice none 0 0,.bool false,.int .i64 0,.int .i64 0,.bool false,.int .i64 0,.int .i64 0,.slice none 0 0,.int .i64 0,.slice none 0 0,.slice none 0 0,.int .i64 0,.int .i64 0,.bool false],107),(g,#[.slice a N c,.bool D.off,.int .i64 D.calls,.int .i64 D.after,.bool D.done,.int .i64 (n1:Nat),.int .i64 (n2:Nat),.slice (some ⟨gw,0,none⟩) k k,.int .i64 (n2:Nat),.slice (some ⟨gw,0,none⟩) k k,.slice a8 l8 c8,.int .i64 (G:Nat),.int .i64 (n:Nat),.bool false],107),(g4,#[.int .i64 (n2:Nat),.slice (some ⟨gw,0,none⟩) k k],105)]∧Same w wn∧RSt wn ({D:=D,r:={gen:=G,slot:=n,ring:=n1,size:=n2,words:=W,body:=BD},nsize:=n2,nwords:=W,bad:=false}:Sto) ({a:=a,c:=c,na:=some ⟨gw,0,none⟩,nc:=k,ca:=some ⟨gw,0,none⟩,cc:=k,ba:=a8,bc:=c8}:RA)) ⟨⟨?_,?_,by first|with_reducible exact(Blk.setTen B2.out).drew|with_reducible exact Blk.setTen B2.out,?_,trivial⟩,?_,?_⟩ ?_
    ·refine F18.out.1.kept (fp:=fun j=>j=g) ?_ GGN.out.1
     (repeat(with_reducible first|exact Kept.refl _ _|refine Kept.drew ?_ |refine Kept.setG ?_ _ _))
    ·refine F18.out.2.1.kept (fp:=fun j=>j=g) ?_ GGN.out.2.1
     (repeat(with_reducible first|exact Kept.refl _ _|refine Kept.drew ?_ |refine Kept.setG ?_ _ _))
    ·refine F18.out.2.2.2.2.1.kept (fp:=fun j=>j=g) ?_ GGN.out.2.2.2.1
     (repeat(with_reducible first|exact Kept.refl _ _|refine Kept.drew ?_ |refine Kept.setG ?_ _ _))
    ·repeat(with_reducible first|exact K18.out|refine Kept.setNew ?_ (by have:=HG.out;have:=HY.out;dsimp only;omega) _|refine Kept.drew ?_)
    ·have kgg:∀(X:World),Kept (fun j=>j=g) w6 X→Same w X→RSt X ({D:=D,r:={gen:=G,slot:=n,ring:=n1,size:=n2,words:=W,body:=BD},nsize:=n2,nwords:=W,bad:=false}:Sto) ({a:=a,c:=c,na:=some ⟨gw,0,none⟩,nc:=k,ca:=some ⟨gw,0,none⟩,cc:=k,ba:=a8,bc:=c8}:RA):=fun X kx ks=>by
      obtain⟨_,_,_,ew,_,_,hatw,_⟩:=OwnN.rd (O18.out.kept kx (fun j hj e=>by have h1:=GGN.out.2.2.2.2;simp[Value.ownBlock]at hj;omega))
      cases ew
      exact⟨HS.out.same ks,hatw.out,hatw.out,hat8.out.kept kx (fun x hx q=>by have h1:=(BLK.out x hx).1;have h2:=F17.out.2.2.1.lt;omega),fun h=>(by cases h),fun h=>(by cases h),hnil8.out,by show BD.length≤c8;rw[HBL.out];exact hc8.out.1,fun x hx=>Nat.lt_of_lt_of_le (BLK.out x hx).2 kx.size⟩
     refine kgg _ ?_ ?_
     ·(repeat(with_reducible first|exact Kept.refl _ _|refine Kept.drew ?_ |refine Kept.setG ?_ _ _))
     ·repeat(with_reducible first|exact K18.out|refine Kept.setNew ?_ (by have:=HG.out;have:=HY.out;dsimp only;omega) _|refine Kept.drew ?_)
    rintro w18 ⟨hf19,k19,hr19⟩
    have F19:=qh hf19
    have K19:=qh k19
    have RS19:=qh hr19
    have BL8:=qh (show∀x,a8=some x→w.heap.size≤x.block from fun x hx=>by have h1:=(BLK.out x hx).1;have h2:=K17.out.size;omega)
    have GWY:=qh (show y+1<gw from by have h1:=HG.out;have h2:=HG2.out;have h3:=ZB.out;have h4:=GW.out;omega)
    have GWB:=qh (show w.heap.size≤gw from by have h1:=HG.out;have h2:=HG2.out;have h3:=ZB.out;have h4:=GW.out;have h5:=HY.out;omega)
    clear q0 e0 q1 e1 q2 e2 z0 z1 z2 F18 K18 O18 K6 hf19 k19 hr19 B2 hat8 aok6 aV6 aW6 N17 O17 F17 ho3 BKL gw8 gk0 gk1 BLK K17 hBD
    have LY:=qh (fun w' (k':Same w18 w')=>rt_lay ({D:=D,r:={gen:=G,slot:=n,ring:=n1,size:=n2,words:=W,body:=BD},nsize:=n2,nwords:=W,bad:=false}:Sto) ({a:=a,c:=c,na:=some ⟨gw,0,none⟩,nc:=k,ca:=some ⟨gw,0,none⟩,cc:=k,ba:=a8,bc:=c8}:RA) a8 l8 c8 BD HBL.out.symm (by have:=HBL.out;have:=RL2.out;omega) hnil8.out (by have:=HRR.out;show n1≤1024;omega) (by have:=RML.out;show n2≤1024;omega) WL.out.2 (by have:=HK.out.2.2;show W.length≤8;rw[WL.out.1];omega) w' ((RS19.out.same k').bs) ((RS19.out.same k').ns))
    have LB:=qh (show(layR n1 n2 W BD).length≤90000∧Bts (layR n1 n2 W BD)from by
     have h1:=putSmall_len n1;have h2:=putSmall_len n2;have h3:=putW_len W;have h4:=WL.out.1;have h5:=HBL.out;have h6:=RL2.out
     refine⟨by unfold layR;simp only[List.length_append];omega,((putSmall_bts _).app (putSmall_bts _)).app (putW_bts _)|>.app BB.out⟩)
    have TS1:=fun x=>TS.out (by first|trivial|rfl) x
    have PRT:=(show putR ⟨G,n,n1,n2,W,BD⟩=layR n1 n2 W BD from rfl)
    have YE1:=fun h1 h2 h3=>YE.out h1 h2 h3
    have FN1:=fun h=>FN.out h
    rw[PRT]at YE1 FN1
    obtain⟨L,hL⟩:∃L,layR n1 n2 W BD=L:=⟨_,rfl⟩
    have LYL:=(show layR (({D:=D,r:={gen:=G,slot:=n,ring:=n1,size:=n2,words:=W,body:=BD},nsize:=n2,nwords:=W,bad:=false}:Sto)).r.ring (({D:=D,r:={gen:=G,slot:=n,ring:=n1,size:=n2,words:=W,body:=BD},nsize:=n2,nwords:=W,bad:=false}:Sto)).nsize (({D:=D,r:={gen:=G,slot:=n,ring:=n1,size:=n2,words:=W,body:=BD},nsize:=n2,nwords:=W,bad:=false}:Sto)).nwords BD=L from hL)
    rw[LYL]at LY
    rw[hL]at LB YE1 FN1
    have TSL:=TS1 L
    have PU:=qh (fun a c w' (hat:NatsAt w' .u8 a L) (hn:a=none→c=0)=>rs_put (G:Int) (by have:=GB.out.1;omega) a L.length c L rfl LB.out.2 (by have:=LB.out.1;omega) hn w' hat)
    obtain⟨nL,hnL⟩:∃nL,L.length=nL:=⟨_,rfl⟩
    obtain⟨er0,her⟩:∃er0,putSlE (G:Int) L.length=er0:=⟨_,rfl⟩
    unfold SputPost at PU
    simp only[Int.toNat_natCast]at PU
    rw[her]at PU TSL
    rw[hnL]at PU
    have her0:=qh her
    have TSL:=qh TSL
    have HNL:=qh hnL
    have YE:=qh YE1
    have FN:=qh FN1
    have CK:=qh (fun w' (k':Same w18 w')=>rm_check (n2:Nat) (some ⟨gw,0,none⟩) k W w' WL.out.2 ((RS19.out.same k').ns))
    unfold rsV rsC at LY
    unfold mapV at CK
    dsimp only at LY
    rw[HN.out,WL.out.1,HBL.out]at LY
    rw[WL.out.1]at CK
    clear YE1 FN1 PRT hL LYL hnL her TS1 TS
    obtain⟨p0,f0,p1,f1,p2,f2,p3,f3, -⟩:=F19.out.rules
    have z1:=F19.out.2.1.lt
    go_wp2_with fail
    with_reducible refine(LY.out w18 (Kept.refl _ _)).mono ?_
    rintro e w19 ⟨⟨v5,rfl,o5⟩,k20⟩
    obtain⟨a5,l5,c5,rfl,hl5,hn5,hat5, -⟩:=o5.rd
    obtain rfl:nL=l5:=HNL.out.symm.trans hl5.out.symm
    have KK:=qh k20
    clear LY o5 hl5 k20 p0 f0 p1 f1 p2 f2 p3 f3 z1
    go_wp2_with fail
    with_reducible refine(PU.out a5 c5 w19 hat5.out hn5.out).mono ?_
    rintro e w20 ⟨⟨v6,rfl,o6⟩,k21⟩
    have KK20:=qh (KK.out.trans k21)
    obtain⟨a9,c9,rfl,rows9⟩:=o6.rowsAt
    have R9:=qh rows9
    have F20:=qh (F19.out.same KK20.out)
    have K20:=qh (K19.out.trans KK20.out)
    have CK1:=qh (fun w' (k':Same w20 w')=>CK.out w' (KK20.out.trans k'))
    clear PU o6 rows9 k21 hat5 hn5 KK CK
    obtain⟨p0,f0,p1,f1,p2,f2,p3,f3, -⟩:=F20.out.rules
    have z1:=F20.out.2.1.lt
    by_cases h0:er0=0
    ·subst h0
     rw[if_pos rfl]at R9 ⊢
     have XL:=qh (putSl_len G L)
     have XB:=qh (show∀b∈putSl G L,Bts b from by
      refine putSl_bts ?_ LB.out.2
      have h1:=TSL.out
      have h2:=her0.out
      have h3:=HNL.out
      unfold putSlE at h2
      split at h2
      ·cases h2
      ·split at h2
       ·cases h2
       ·omega)
     have TSL2:=qh (show putSl G L=secsS D n↔L=B from⟨fun q=>TSL.out.1 ⟨rfl,q⟩,fun q=>(TSL.out.2 q).2⟩)
     obtain⟨X,hX⟩:∃X,putSl G L=X:=⟨_,rfl⟩
     rw[hX]at R9 XL XB TSL2 ⊢
     rw[XL.out]
     clear TSL hX
     by_cases hl7:l8≤700
     rotate_left
     ·have g7:¬((l8:Nat):Int)≤700:=by omega
      have FN2:=qh (FN.out (fun q=>by have h1:=q.2.1;rw[GO2.out]at h1;simp at h1;omega))
      clear YE FN CK1 R9 XL XB TSL2
      go_wp2_with fail
      go_loopw [19,20] (fun v t wr=>v=.bool false∧t=.int .i64 0∧Same w20 wr) (fun _ _ _=>0)
      case atStart=>exact⟨rfl,rfl,Kept.refl _ _⟩
      case round=>
       obtain⟨rfl,rfl,hkk⟩:=hrel
       have F21:=qh (F20.out.same hkk)
       have K21:=qh (K20.out.trans hkk)
       clear hkk p0 f0 p1 f1 p2 f2 p3 f3 z1
       obtain⟨p0,f0,p1,f1,p2,f2,p3,f3, -⟩:=F21.out.rules
       have z1:=F21.out.2.1.lt
       have B1:=qh (show Blk wr (y+1) #[.slice none 0 0,.bool false,.int .i64 0,.int .i64 0,.bool false,.int .i64 0,.int .i64 0,.slice none 0 0,.int .i64 0,.slice none 0 0,.slice none 0 0,.int .i64 0,.int .i64 0,.bool false] 107 from F21.out.2.1)
       go_wp2_with fail
       (try simp only[Exit.inBlock,Exit.then])
       refine cutE (fun W=>Blk W (y+1) #[.slice a N c,.bool D.off,.int .i64 D.calls,.int .i64 D.after,.bool D.done,.int .i64 (n1:Nat),.int .i64 (n2:Nat),.slice (some ⟨gw,0,none⟩) k k,.int .i64 (n2:Nat),.slice (some ⟨gw,0,none⟩) k k,.slice a8 l8 c8,.int .i64 (G:Nat),.int .i64 (n:Nat),.bool false] 107∧Same w W) ⟨by with_reducible exact Blk.set14 B1.out,by with_reducible exact Kept.set14 K21.out (by have:=HY.out;omega)⟩ ?_
       rintro wz ⟨bz,kz⟩
       refine bodyPost_ret (results_ctmp (b:=.bool false) rfl _ _ _ _ _ _ rfl bz rfl rfl rfl (by kernel_rfl)) rfl ?_
       exact FN2.out a N c D ⟨n1,n2,some ⟨gw,0,none⟩,k,k,n2,some ⟨gw,0,none⟩,k,k,a8,l8,c8,G,n,false⟩ wz kz
     have g7:((l8:Nat):Int)≤700:=by omega
     have CK2:=CK1.out w20 (Kept.refl _ _)
     by_cases hm:mapOK (n2:Nat) W=true
     ·rw[if_pos hm]at CK2
      have CK3:=qh CK2
      have YE2:=qh (fun h=>YE.out (by rw[GO2.out];simp;omega) hm h)
      have NE2:=qh (fun(h:L≠B)=>FN.out (fun q=>h q.2.2.2))
      clear CK2 CK1 YE FN
      go_wp2_with fail
      with_reducible refine CK3.out.mono ?_
      rintro e w21 ⟨rfl,k21⟩
      have F21:=qh (F20.out.same k21)
      have K21:=qh (K20.out.trans k21)
      have R10:=qh (R9.out.same k21)
      have K4:=qh (KK20.out.trans k21)
      clear p0 f0 p1 f1 p2 f2 p3 f3 z1 F20 K20 R9 k21 CK3 KK20
      obtain⟨p0,f0,p1,f1,p2,f2,p3,f3, -⟩:=F21.out.rules
      have z1:=F21.out.2.1.lt
      go_wp2_with fail
      go_loopw [19,20] (fun v t wr=>∃(i:Nat) (bw:Bool),v=.bool bw∧t=.int .i64 i∧i≤4∧(bw=true→X.take i=(secsS D n).take i)∧(bw=false→X≠secsS D n)∧Same w21 wr) (fun v t _=>5 - (intOf t).toNat)
      case atStart=>exact⟨0,true,rfl,rfl,by omega,fun _=>rfl,fun h=>(by cases h),Kept.refl _ _⟩
      case round=>
       obtain⟨i,bw,rfl,rfl,hi,ht,hf,hkk⟩:=hrel
       have HI:=qh hi;have HT:=qh ht;have HFF:=qh hf
       have F22:=qh (F21.out.same hkk)
       have K22:=qh (K21.out.trans hkk)
       have KR:=qh hkk
       clear hkk p0 f0 p1 f1 p2 f2 p3 f3 z1 hi ht hf
       obtain⟨p0,f0,p1,f1,p2,f2,p3,f3, -⟩:=F22.out.rules
       have z1:=F22.out.2.1.lt
       have B1:=qh (show Blk wr (y+1) #[.slice none 0 0,.bool false,.int .i64 0,.int .i64 0,.bool false,.int .i64 0,.int .i64 0,.slice none 0 0,.int .i64 0,.slice none 0 0,.slice none 0 0,.int .i64 0,.int .i64 0,.bool false] 107 from F22.out.2.1)
       cases bw
       ·have FN2:=qh (NE2.out (fun q=>HFF.out rfl (TSL2.out.2 q)))
        clear YE2 NE2 HT HFF
        by_cases hgo:i<4
        ·have g3:(i:Int)<4:=by omega
         go_wp2_with fail
         (try simp only[Exit.inBlock,Exit.then])
         refine cutE (fun W=>Blk W (y+1) #[.slice a N c,.bool D.off,.int .i64 D.calls,.int .i64 D.after,.bool D.done,.int .i64 (n1:Nat),.int .i64 (n2:Nat),.slice (some ⟨gw,0,none⟩) k k,.int .i64 (n2:Nat),.slice (some ⟨gw,0,none⟩) k k,.slice a8 l8 c8,.int .i64 (G:Nat),.int .i64 (n:Nat),.bool false] 107∧Same w W) ⟨by with_reducible exact Blk.set14 B1.out,by with_reducible exact Kept.set14 K22.out (by have:=HY.out;omega)⟩ ?_
         rintro wz ⟨bz,kz⟩
         refine bodyPost_ret (results_ctmp (b:=.bool false) rfl _ _ _ _ _ _ rfl bz rfl rfl rfl (by kernel_rfl)) rfl ?_
         exact FN2.out a N c D ⟨n1,n2,some ⟨gw,0,none⟩,k,k,n2,some ⟨gw,0,none⟩,k,k,a8,l8,c8,G,n,false⟩ wz kz
        ·have g3:¬(i:Int)<4:=by omega
         go_wp2_with fail
         (try simp only[Exit.inBlock,Exit.then])
         refine cutE (fun W=>Blk W (y+1) #[.slice a N c,.bool D.off,.int .i64 D.calls,.int .i64 D.after,.bool D.done,.int .i64 (n1:Nat),.int .i64 (n2:Nat),.slice (some ⟨gw,0,none⟩) k k,.int .i64 (n2:Nat),.slice (some ⟨gw,0,none⟩) k k,.slice a8 l8 c8,.int .i64 (G:Nat),.int .i64 (n:Nat),.bool false] 107∧Same w W) ⟨by with_reducible exact Blk.set14 B1.out,by with_reducible exact Kept.set14 K22.out (by have:=HY.out;omega)⟩ ?_
         rintro wz ⟨bz,kz⟩
         refine bodyPost_ret (results_ctmp (b:=.bool false) rfl _ _ _ _ _ _ rfl bz rfl rfl rfl (by kernel_rfl)) rfl ?_
         exact FN2.out a N c D ⟨n1,n2,some ⟨gw,0,none⟩,k,k,n2,some ⟨gw,0,none⟩,k,k,a8,l8,c8,G,n,false⟩ wz kz
       ·by_cases hgo:i<4
        ·have hil:i<X.length:=by rw[XL.out];exact hgo
         have hil2:i<(secsS D n).length:=by rw[secsS_len];exact hgo
         obtain⟨bx,ox,xa,xn,xc,rfl, -,hxn,hxc,hcc⟩:=rows_at R10.out hil
         have SC1:=qh (fun w' (k':Same wr w')=>SCT.out w' (K22.out.trans k'))
         have CV:=qh (fun w' (k':Same wr w')=>conv_str xa xn xc X[i] w' hxn ((hcc w' (KR.out.trans k')).2))
         have XBi:=qh (XB.out _ (List.getElem_mem hil))
         have YBi:=qh (BTS.out _ (List.getElem_mem hil2))
         have T1:=qh (show X[i]=(secsS D n)[i]→X.take (i+1)=(secsS D n).take (i+1)from fun q=>by rw[←List.take_append_getElem hil,←List.take_append_getElem hil2,HT.out rfl,q])
         have T2:=qh (show X[i]≠(secsS D n)[i]→X≠secsS D n from fun h q=>h (by congr 1))
         have QX:=qh (fun w' (k':Same wr w')=>(⟨(hcc w' (KR.out.trans k')).1,CV.out w' k',cell_blk (F22.out.1.kept k' (fun h=>h)),trivial⟩:w'.cell? ⟨bx,ox+i,none⟩=some (.slice xa xn xc)∧(convert 32 9 (.slice xa xn xc)).run Tryz.prog w'=.ok (.string (strN X[i])) w'∧(∀i,w'.cell? ⟨y,i,none⟩=(#[.slice a N c,.bool D.off,.int .i64 D.calls,.int .i64 D.after,.bool D.done]:Array Value)[i]?)∧True))
         obtain⟨Xi,hXi⟩:∃Xi,X[i]=Xi:=⟨_,rfl⟩
         obtain⟨Yi,hYi⟩:∃Yi,(secsS D n)[i]=Yi:=⟨_,rfl⟩
         rw[hXi]at XBi T1 T2 QX
         rw[hYi]at YBi T1 T2
         have HYI:=qh hYi
         have g3:(i:Int)<4:=by omega
         have gB:(0:Int)≤(i:Int):=by omega
         clear hcc CV hxn hxc hXi hYi
         go_wp2_with fail
         refine wp_region_T (S:=fun w'=>Same wr w') 13 (by kernel_rfl) (Kept.refl _ _).drew (fun hHeld hDn=>?_)
         refine wpT_z 0 158 QX hHeld hDn fun hDn=>?_
         refine wpT_z 1 159 QX hHeld hDn fun hDn=>?_
         refine wpT_z 2 160 QX hHeld hDn fun hDn=>?_
         refine wpT_z 3 161 QX hHeld hDn fun hDn=>?_
         refine wpT_z 4 162 QX hHeld hDn fun hDn=>?_
         refine wpT_z 5 163 QX hHeld hDn fun hDn=>?_
         refine wpT_z 6 164 QX hHeld hDn fun hDn=>?_
         refine wpT_z 8 166 QX hHeld hDn fun hDn=>?_
         refine wpT_one (i:=7) rfl (by kernel_rfl) hDn (fun K' hK=>?_)
         go_simp
         with_reducible refine(SC1.out _ (Kept.refl _ _).drew).mono ?_
         rintro e w23 ⟨⟨v23,rfl,r23⟩,k23⟩
         obtain⟨a23,c23,rfl,ra23⟩:=r23.rowsAt
         rw[secsS_len]
         have K23:=qh (show Same wr w23 from((Kept.refl _ _).drew).trans k23)
         obtain⟨by_,oy,ya,yn,yc,rfl, -,hyn,hyc,hcy⟩:=rows_at ra23 hil2
         have QY:=qh (show w23.cell? ⟨by_,oy+i,none⟩=some (.slice ya yn yc)∧(convert 32 9 (.slice ya yn yc)).run Tryz.prog w23=.ok (.string (strN Yi)) w23 from by
          rw[←HYI.out]
          exact⟨(hcy w23 (Kept.refl _ _)).1,conv_str ya yn yc _ w23 hyn (hcy w23 (Kept.refl _ _)).2⟩)
         refine hK.out _ _ K23.out (fun hHeld2 hDn2=>?_)
         clear hK K' hHeld hDn
         have hHeld:=hHeld2;have hDn:=hDn2
         clear hHeld2 hDn2
         clear k23 r23 ra23 hcy hyn hyc SC1 QX
         obtain⟨s1,s2⟩:=QY.out
         obtain⟨bq,hbq⟩:∃bq,decide (Xi=Yi)=bq:=⟨_,rfl⟩
         have sq:((strN Xi).toList==(strN Yi).toList)=bq:=by rw[str_beq XBi.out YBi.out];exact hbq
         have BQ:=qh hbq
         clear hbq
         refine wpT_one (i:=9) rfl (by kernel_rfl) hDn (fun K' hK=>?_)
         go_simp
         refine hK.out _ _ K23.out (fun hHeld2 hDn2=>?_)
         clear hK K' hHeld hDn
         have hHeld:=hHeld2;have hDn:=hDn2
         clear hHeld2 hDn2
         refine wpT_one (i:=10) rfl (by kernel_rfl) hDn (fun K' hK=>?_)
         go_simp
         refine hK.out _ _ K23.out (fun hHeld2 hDn2=>?_)
         clear hK K' hHeld hDn
         have hHeld:=hHeld2;have hDn:=hDn2
         clear hHeld2 hDn2
         refine wpT_one (i:=11) rfl (by kernel_rfl) hDn (fun K' hK=>?_)
         go_simp
         refine hK.out _ _ K23.out (fun hHeld2 hDn2=>?_)
         clear hK K' hHeld hDn
         have hHeld:=hHeld2;have hDn:=hDn2
         clear hHeld2 hDn2
         refine wpT_zw 12 170 hHeld hDn fun hDn=>?_
         refine wpT_last rfl (by kernel_rfl) hDn (fun K hK=>?_)
         go_simp
         refine hK.out _ _ (fun hDn'=>?_)
         clear hK K hDn hHeld;have hDn:=hDn';clear hDn'
         refine wpT_done (by kernel_rfl) ?_ _
         have TB1:=qh (show bq=true→X.take (i+1)=(secsS D n).take (i+1)from fun q=>T1.out (of_decide_eq_true (BQ.out.trans q)))
         have TB2:=qh (show bq=false→X≠secsS D n from fun q=>T2.out (of_decide_eq_false (BQ.out.trans q)))
         have KF:=qh (KR.out.trans K23.out)
         have HGO:=qh hgo
         clear hDn s1 s2 sq BQ T1 T2 hgo HYI YBi QY hil hil2
         go_wp2_with fail
         exact⟨⟨i+1,bq,rfl,by go_num,by have:=HGO.out;omega,TB1.out,TB2.out,KF.out⟩,by have:=HGO.out;simp[intOf];omega⟩
        ·have hi4:i=4:=by have:=HI.out;omega
         subst hi4
         have hXY:X=secsS D n:=by
          have:=HT.out rfl
          rw[List.take_of_length_le (by rw[XL.out];exact Nat.le_refl _),List.take_of_length_le (by rw[secsS_len];exact Nat.le_refl _)]at this
          exact this
         have RS22:=qh (RS19.out.same (K4.out.trans KR.out))
         have YF:=qh (YE2.out (TSL2.out.1 hXY))
         have g3:¬((4:Nat):Int)<4:=by omega
         clear YE2 NE2 HFF hXY hgo
         go_wp2_with fail
         (try simp only[Exit.inBlock,Exit.then])
         refine cutE (fun Q=>Blk Q (y+1) #[.slice a N c,.bool D.off,.int .i64 D.calls,.int .i64 D.after,.bool D.done,.int .i64 (n1:Nat),.int .i64 (n2:Nat),.slice (some ⟨gw,0,none⟩) k k,.int .i64 (n2:Nat),.slice (some ⟨gw,0,none⟩) k k,.slice a8 l8 c8,.int .i64 (G:Nat),.int .i64 (n:Nat),.bool false] 107∧Same w Q∧RSt Q ({D:=D,r:={gen:=G,slot:=n,ring:=n1,size:=n2,words:=W,body:=BD},nsize:=n2,nwords:=W,bad:=false}:Sto) ({a:=a,c:=c,na:=some ⟨gw,0,none⟩,nc:=k,ca:=some ⟨gw,0,none⟩,cc:=k,ba:=a8,bc:=c8}:RA)) ⟨by with_reducible exact Blk.set14 B1.out,by with_reducible exact Kept.set14 K22.out (by have:=HY.out;omega),?_⟩ ?_
         ·have NB8:=natsAt_not B1.out RS22.out.bs (fun i x q=>by have:=Array.mem_of_getElem? q;simp at this)
          have kk2:∀X,Kept (fun j=>j=y+1) wr X→RSt X ({D:=D,r:={gen:=G,slot:=n,ring:=n1,size:=n2,words:=W,body:=BD},nsize:=n2,nwords:=W,bad:=false}:Sto) ({a:=a,c:=c,na:=some ⟨gw,0,none⟩,nc:=k,ca:=some ⟨gw,0,none⟩,cc:=k,ba:=a8,bc:=c8}:RA):=fun X kx=>⟨RS22.out.ds.kept kx ((secsAt_lt HS.out).imp_right (fun h x hx q=>by have:=h x hx;have:=HY.out;omega)),RS22.out.ns.kept kx (fun x hx q=>by cases hx;have h1:=GWY.out;dsimp only at q;omega),RS22.out.cs.kept kx (fun x hx q=>by cases hx;have h1:=GWY.out;dsimp only at q;omega),RS22.out.bs.kept' kx NB8,RS22.out.nnil,RS22.out.cnil,RS22.out.bnil,RS22.out.bcap,fun x hx=>Nat.lt_of_lt_of_le (RS22.out.bl x hx) kx.size⟩
          refine kk2 _ ?_
          (repeat(with_reducible first|exact Kept.refl _ _|refine Kept.drew ?_ |refine Kept.setG ?_ _ _))
         rintro wz ⟨bz,kz,rz⟩
         refine bodyPost_ret (results_ctmp (b:=.bool true) rfl _ _ _ _ _ _ rfl bz rfl rfl rfl (by kernel_rfl)) rfl ?_
         have FE:=FT.out _ YF.out ({a:=a,c:=c,na:=some ⟨gw,0,none⟩,nc:=k,ca:=some ⟨gw,0,none⟩,cc:=k,ba:=a8,bc:=c8}:RA) rfl rfl wz kz rz (fun x hx=>by cases hx;exact GWB.out) (fun x hx=>by cases hx;exact GWB.out) BL8.out
         dsimp only at FE
         rw[WL.out.1,HBL.out]at FE
         exact FE
     ·rw[if_neg hm]at CK2
      have CK3:=qh CK2
      have FN2:=qh (FN.out (fun q=>hm q.2.2.1))
      clear CK2 CK1 YE FN XL XB TSL2
      go_wp2_with fail
      with_reducible refine CK3.out.mono ?_
      rintro e w21 ⟨rfl,k21⟩
      have F25:=qh (F20.out.same k21)
      have K25:=qh (K20.out.trans k21)
      clear p0 f0 p1 f1 p2 f2 p3 f3 z1 R9 k21 CK3 F20 K20
      obtain⟨p0,f0,p1,f1,p2,f2,p3,f3, -⟩:=F25.out.rules
      have z1:=F25.out.2.1.lt
      go_wp2_with fail
      go_loopw [19,20] (fun v t wr=>v=.bool false∧t=.int .i64 0∧Same w21 wr) (fun _ _ _=>0)
      case atStart=>exact⟨rfl,rfl,Kept.refl _ _⟩
      case round=>
       obtain⟨rfl,rfl,hkk⟩:=hrel
       have F21:=qh (F25.out.same hkk)
       have K21:=qh (K25.out.trans hkk)
       clear hkk p0 f0 p1 f1 p2 f2 p3 f3 z1
       obtain⟨p0,f0,p1,f1,p2,f2,p3,f3, -⟩:=F21.out.rules
       have z1:=F21.out.2.1.lt
       have B1:=qh (show Blk wr (y+1) #[.slice none 0 0,.bool false,.int .i64 0,.int .i64 0,.bool false,.int .i64 0,.int .i64 0,.slice none 0 0,.int .i64 0,.slice none 0 0,.slice none 0 0,.int .i64 0,.int .i64 0,.bool false] 107 from F21.out.2.1)
       go_wp2_with fail
       (try simp only[Exit.inBlock,Exit.then])
       refine cutE (fun W=>Blk W (y+1) #[.slice a N c,.bool D.off,.int .i64 D.calls,.int .i64 D.after,.bool D.done,.int .i64 (n1:Nat),.int .i64 (n2:Nat),.slice (some ⟨gw,0,none⟩) k k,.int .i64 (n2:Nat),.slice (some ⟨gw,0,none⟩) k k,.slice a8 l8 c8,.int .i64 (G:Nat),.int .i64 (n:Nat),.bool false] 107∧Same w W) ⟨by with_reducible exact Blk.set14 B1.out,by with_reducible exact Kept.set14 K21.out (by have:=HY.out;omega)⟩ ?_
       rintro wz ⟨bz,kz⟩
       refine bodyPost_ret (results_ctmp (b:=.bool false) rfl _ _ _ _ _ _ rfl bz rfl rfl rfl (by kernel_rfl)) rfl ?_
       exact FN2.out a N c D ⟨n1,n2,some ⟨gw,0,none⟩,k,k,n2,some ⟨gw,0,none⟩,k,k,a8,l8,c8,G,n,false⟩ wz kz
    ·rw[if_neg h0]
     have FN2:=qh (FN.out (fun q=>h0 (TSL.out.2 q.2.2.2).1))
     dsimp only[List.length_nil]
     clear YE FN TSL CK1 h0 R9
     go_wp2_with fail
     go_loopw [19,20] (fun v t wr=>v=.bool false∧t=.int .i64 0∧Same w20 wr) (fun _ _ _=>0)
     case atStart=>exact⟨rfl,rfl,Kept.refl _ _⟩
     case round=>
      obtain⟨rfl,rfl,hkk⟩:=hrel
      have F21:=qh (F20.out.same hkk)
      have K21:=qh (K20.out.trans hkk)
      clear hkk p0 f0 p1 f1 p2 f2 p3 f3 z1
      obtain⟨p0,f0,p1,f1,p2,f2,p3,f3, -⟩:=F21.out.rules
      have z1:=F21.out.2.1.lt
      have B1:=qh (show Blk wr (y+1) #[.slice none 0 0,.bool false,.int .i64 0,.int .i64 0,.bool false,.int .i64 0,.int .i64 0,.slice none 0 0,.int .i64 0,.slice none 0 0,.slice none 0 0,.int .i64 0,.int .i64 0,.bool false] 107 from F21.out.2.1)
      go_wp2_with fail
      (try simp only[Exit.inBlock,Exit.then])
      refine cutE (fun W=>Blk W (y+1) #[.slice a N c,.bool D.off,.int .i64 D.calls,.int .i64 D.after,.bool D.done,.int .i64 (n1:Nat),.int .i64 (n2:Nat),.slice (some ⟨gw,0,none⟩) k k,.int .i64 (n2:Nat),.slice (some ⟨gw,0,none⟩) k k,.slice a8 l8 c8,.int .i64 (G:Nat),.int .i64 (n:Nat),.bool false] 107∧Same w W) ⟨by with_reducible exact Blk.set14 B1.out,by with_reducible exact Kept.set14 K21.out (by have:=HY.out;omega)⟩ ?_
      rintro wz ⟨bz,kz⟩
      refine bodyPost_ret (results_ctmp (b:=.bool false) rfl _ _ _ _ _ _ rfl bz rfl rfl rfl (by kernel_rfl)) rfl ?_
      exact FN2.out a N c D ⟨n1,n2,some ⟨gw,0,none⟩,k,k,n2,some ⟨gw,0,none⟩,k,k,a8,l8,c8,G,n,false⟩ wz kz
 ·have g1:(((E:Nat):Int)==0)=false:=by simpa using hE
  have g2:(((E:Nat):Int) !=0)=true:=by simpa using hE
  have FN:=qh (FF.out (NE.out (fun q=>hE q.1)))
  clear FF FT YE NE TS RO hE
  go_wp2_with fail
  (try simp only[Exit.inBlock,Exit.then])
  refine cutE (fun W=>Blk W (y+1) #[.slice none 0 0,.bool false,.int .i64 0,.int .i64 0,.bool false,.int .i64 0,.int .i64 0,.slice none 0 0,.int .i64 0,.slice none 0 0,.slice none 0 0,.int .i64 0,.int .i64 0,.bool false] 107∧Same w W) ⟨by with_reducible exact Blk.set14 B1.out,by with_reducible exact Kept.set14 K7.out (by have:=HY.out;omega)⟩ ?_
  rintro wz ⟨bz,kz⟩
  refine bodyPost_ret (results_ctmp (b:=.bool false) rfl _ _ _ _ _ _ rfl bz rfl rfl rfl (by kernel_rfl)) rfl ?_
  exact FN.out none 0 0 ⟨[],false,0,0,false⟩ ⟨0,0,none,0,0,0,none,0,0,none,0,0,0,0,false⟩ wz kz
end
end
section
open Go.RowKit Go.Sort Go.Shelf
theorem RSt.kept1{w w':World}{S:Sto}{A:RA}{b:Nat}(h:RSt w S A)(k:Kept (fun j=>j=b) w w')(ha:S.D.s=[]∨∀x,A.a=some x→x.block≠b)(hn:∀x,A.na=some x→x.block≠b)(hc:∀x,A.ca=some x→x.block≠b)(hb:∀x,A.ba=some x→x.block≠b):RSt w' S A:=
 ⟨h.ds.kept k ha,h.ns.kept k hn,h.cs.kept k hc,h.bs.kept k hb,h.nnil,h.cnil,h.bnil,h.bcap,fun x hx=>Nat.lt_of_lt_of_le (h.bl x hx) k.size⟩
theorem getR_short{D:Dsk}(h:D.s.length<8)(n:Nat):getR D n=none:=by
 refine getR_no (fun q=>?_)
 have h1:=q.2.1
 unfold getOK1 at h1
 simp only[Bool.and_eq_true,decide_eq_true_eq]at h1
 have h2:roomN D.s.length (rd1 (getSl (secsS D n)).2.1).2.2=0:=by unfold roomN;omega
 omega
def openQ(D:Dsk):Option Sto×Nat:=if D.off=true then(none,8)else match openS D with
 |none=>(none,4)
 |some S=>(some S,0)
theorem bst2(D:Dsk):bstN D 2=match getR D 0,getR D 1 with
 |none,none=>none
 |none,some b=>some b
 |some a,none=>some a
 |some a,some b=>if a.gen<b.gen then some b else some a:=by
 have h1:bstN D 1=getR D 0:=by
  show(match getR D 0 with|none=>none|some x=>some x)=getR D 0
  cases getR D 0<;>rfl
 show(match getR D 1 with|none=>bstN D 1|some r=>match bstN D 1 with|none=>some r|some b=>if b.gen<r.gen then some r else some b)=_
 rw[h1]
 cases getR D 0<;>cases getR D 1<;>rfl
theorem rt_open(a:Option Addr)(c:Nat)(D:Dsk)(hok:D.OK)(fp:Nat→Prop)(w:World)(hlt:∀g,fp g→g<w.heap.size)(hap:Apt a fp)(hs:SecsAt w a D.s):
 Calls Tryz.prog 109 #[refV a D.s.length c D] w (RtF w D (openQ D).1 (openQ D).2 fp):=by
 obtain⟨R,hR⟩:∃R,RtF w D (openQ D).1 (openQ D).2 fp=R:=⟨_,rfl⟩
 rw[hR]
 have NO:=qh (fun(er:Nat) (he:openQ D=(none,er)) W (k:Same w W)=>show R (.returned (.tuple #[.agg (rzC a D.s.length c D ⟨0,0,none,0,0,0,none,0,0,none,0,0,0,0,false⟩),.int .i64 (er:Nat)])) W from by
  rw[←hR,he]
  exact⟨a,c,_,rfl,hs.same k,hap,fun S q=>(by cases q),k⟩)
 have FIN:=qh (fun(r:Rt) (he:openQ D=(some ({D:=D,r:=r,nsize:=(r).size,nwords:=(r).words,bad:=false}:Sto),0)) (A:RA) (h1:A.a=a) (h2:A.c=c) (h4:∀x,A.na=some x→w.heap.size≤x.block) (h5:∀x,A.ca=some x→w.heap.size≤x.block) (h6:∀x,A.ba=some x→w.heap.size≤x.block) W (k:Same w W) (h3:RSt W ({D:=D,r:=r,nsize:=(r).size,nwords:=(r).words,bad:=false}:Sto) A)=>show R (.returned (.tuple #[.agg (rzC a D.s.length c D (rzOf ({D:=D,r:=r,nsize:=(r).size,nwords:=(r).words,bad:=false}:Sto) A)),.int .i64 0])) W from by
  rw[←hR,he]
  have e:∀{v:Option Addr},(∀x,v=some x→w.heap.size≤x.block)→Apt v fp:=fun h x hx q=>by have h1:=h x hx;have h2:=hlt _ q;omega
  exact⟨a,c,_,rfl,hs.same k,hap,fun S q=>(by cases q;exact⟨rfl,A,h1,h2,rfl,⟨h3,fun g hg=>Nat.lt_of_lt_of_le (hlt g hg) k.size,by rw[h1];exact hap,e h4,e h5,e h6⟩⟩),k⟩)
 have O8:=qh (show D.off=true→openQ D=(none,8)from fun h=>by unfold openQ;rw[if_pos h])
 have O4:=qh (show D.off=false→openS D=none→openQ D=(none,4)from fun h h2=>by unfold openQ;rw[if_neg (by rw[h];decide),h2])
 have O0:=qh (show D.off=false→∀S,openS D=some S→openQ D=(some S,0)from fun h S h2=>by unfold openQ;rw[if_neg (by rw[h];decide),h2])
 have OS:=qh (show openS D=(bstN D 2).map fun r=>({D:=D,r:=r,nsize:=(r).size,nwords:=(r).words,bad:=false}:Sto)from rfl)
 have B2:=bst2 D
 have SH:=qh (@getR_short D)
 have TK0:=qh (fun w' (k:Same w w')=>show Calls Tryz.prog 148 #[refV a D.s.length c D,.int .i64 0] w' (TakePost w' a c D (getR D 0))from rt_take a c D hok 0 (by decide) w' (hs.same k))
 have TK1:=qh (fun w' (k:Same w w')=>show Calls Tryz.prog 148 #[refV a D.s.length c D,.int .i64 1] w' (TakePost w' a c D (getR D 1))from rt_take a c D hok 1 (by decide) w' (hs.same k))
 have HS:=qh hs
 have OK:=qh hok.few
 obtain⟨o0,ho0⟩:∃o0,getR D 0=o0:=⟨_,rfl⟩
 obtain⟨o1,ho1⟩:∃o1,getR D 1=o1:=⟨_,rfl⟩
 have S0:=qh (show D.s.length<8→o0=none∧o1=none from fun h=>⟨by rw[←ho0];exact SH.out h 0,by rw[←ho1];exact SH.out h 1⟩)
 rw[ho0,ho1]at B2
 rw[ho0]at TK0
 rw[ho1]at TK1
 have B2:=qh B2
 unfold rzC at NO FIN
 dsimp only[rzOf]at NO FIN
 unfold refV at TK0 TK1 ⊢
 obtain⟨off,hoff⟩:∃off,D.off=off:=⟨_,rfl⟩
 have HO:=qh hoff
 rw[hoff]at NO FIN O8 O4 O0 TK0 TK1 ⊢
 clear hR hok hs hap hlt hoff ho0 ho1 SH
 go_enter Tryz.func109,Tryz.ntmps109
 go_upto_region 1 with fail
 obtain⟨y,hy⟩:∃y,w.heap.size=y:=⟨_,rfl⟩
 rw[hy]
 refine cutWl (fun wn=>Fr wn [(y,#[.slice a D.s.length c,.bool off,.int .i64 D.calls,.int .i64 D.after,.bool D.done],104),(y+1,#[.slice none 0 0,.bool false,.int .i64 0,.int .i64 0,.bool false,.int .i64 0,.int .i64 0,.slice none 0 0,.int .i64 0,.slice none 0 0,.slice none 0 0,.int .i64 0,.int .i64 0,.bool false],107)]∧Same w wn) ⟨⟨(Blk.new' _ _ _ hy.symm).alloc _,Blk.new' _ _ _ (by simp[hy]),trivial⟩,((Kept.refl _ _).alloc _).alloc _⟩ ?_
 rintro w5 ⟨hf5,k5⟩
 have F5:=qh hf5
 have K5:=qh k5
 have HY:=qh hy
 obtain⟨p0,f0,p1,f1, -⟩:=F5.out.rules
 have z0:=F5.out.1.lt
 have z1:=F5.out.2.1.lt
 have B1:=qh (show Blk w5 (y+1) #[.slice none 0 0,.bool false,.int .i64 0,.int .i64 0,.bool false,.int .i64 0,.int .i64 0,.slice none 0 0,.int .i64 0,.slice none 0 0,.slice none 0 0,.int .i64 0,.int .i64 0,.bool false] 107 from F5.out.2.1)
 clear hf5 k5 hy
 cases off
 ·by_cases h8:D.s.length<8
  ·have g8:((D.s.length:Nat):Int)<8:=by omega
   have NE:=qh (NO.out 4 (O4.out (by first|trivial|rfl) (by
    obtain⟨q0,q1⟩:=S0.out h8
    subst q0 q1
    rw[OS.out,B2.out]
    rfl)))
   clear NO FIN O8 O4 O0 TK0 TK1
   go_wp2_with fail
   (try simp only[Exit.inBlock,Exit.then])
   refine cutE (fun W=>Blk W (y+1) #[.slice a D.s.length c,.bool false,.int .i64 D.calls,.int .i64 D.after,.bool D.done,.int .i64 0,.int .i64 0,.slice none 0 0,.int .i64 0,.slice none 0 0,.slice none 0 0,.int .i64 0,.int .i64 0,.bool false] 107∧Same w W) ⟨by with_reducible exact Blk.set14 B1.out,by with_reducible exact Kept.set14 K5.out (by have:=HY.out;omega)⟩ ?_
   rintro wz ⟨bz,kz⟩
   refine bodyPost_ret (results_ctmp (b:=.int .i64 4) rfl _ _ _ _ _ _ rfl bz rfl rfl rfl (by kernel_rfl)) rfl ?_
   exact NE.out wz kz
  ·have g8:¬((D.s.length:Nat):Int)<8:=by omega
   clear O8 S0
   go_wp2_with fail
   with_reducible refine(TK0.out w5 K5.out).mono ?_
   rintro e w6 ⟨⟨a0,n0,c0,D0,zz0,rfl,ht0⟩,k6⟩
   have F6:=qh (F5.out.same k6)
   have K6:=qh (K5.out.trans k6)
   have T0:=qh ht0
   have Y5:=qh (show y+1<w5.heap.size from z1)
   clear p0 f0 p1 f1 z0 z1 F5 B1 k6 ht0 TK0
   obtain⟨p0,f0,p1,f1, -⟩:=F6.out.rules
   have z0:=F6.out.1.lt
   have z1:=F6.out.2.1.lt
   unfold rzC
   go_upto_region 6 with fail
   obtain⟨g,hg⟩:∃g,w6.heap.size=g:=⟨_,rfl⟩
   have HG:=qh (show y+2≤g from by omega)
   rw[hg]
   refine cutWl (fun wn=>Fr wn [(y,#[.slice a D.s.length c,.bool false,.int .i64 D.calls,.int .i64 D.after,.bool D.done],104),(y+1,#[.slice none 0 0,.bool false,.int .i64 0,.int .i64 0,.bool false,.int .i64 0,.int .i64 0,.slice none 0 0,.int .i64 0,.slice none 0 0,.slice none 0 0,.int .i64 0,.int .i64 0,.bool false],107),(g,rzC a0 n0 c0 D0 zz0,107)]∧Same w wn∧Same w6 wn) ⟨⟨F6.out.1.alloc _,F6.out.2.1.alloc _,Blk.new' _ _ _ hg.symm,trivial⟩,K6.out.alloc _,(Kept.refl _ _).alloc _⟩ ?_
   rintro w7 ⟨hf7,k7,k67⟩
   have F7:=qh hf7
   have K7:=qh k7
   have K67:=qh k67
   clear p0 f0 p1 f1 z0 z1 F6 K6 hf7 k7 k67 hg
   have p0:=cell_blk F7.out.1
   go_wp2_with fail
   with_reducible refine(TK1.out w7 K7.out).mono ?_
   rintro e w8 ⟨⟨a1,n1,c1,D1,zz1,rfl,ht1⟩,k8⟩
   have F8:=qh (F7.out.same k8)
   have K8:=qh (K7.out.trans k8)
   have K68:=qh (K67.out.trans k8)
   have T1:=qh ht1
   have Y7:=qh (show y+1<w7.heap.size from F7.out.2.1.lt)
   clear p0 F7 k8 ht1 TK1 K67
   obtain⟨p0,f0,p1,f1, -⟩:=F8.out.rules
   have z0:=F8.out.1.lt
   have z1:=F8.out.2.1.lt
   have z2:=F8.out.2.2.1.lt
   unfold rzC
   go_upto_region 7 with fail
   obtain⟨g2,hg2⟩:∃g2,w8.heap.size=g2:=⟨_,rfl⟩
   rw[hg2]
   refine cutWl (fun wn=>Fr wn [(y,#[.slice a D.s.length c,.bool false,.int .i64 D.calls,.int .i64 D.after,.bool D.done],104),(y+1,#[.slice none 0 0,.bool false,.int .i64 0,.int .i64 0,.bool false,.int .i64 0,.int .i64 0,.slice none 0 0,.int .i64 0,.slice none 0 0,.slice none 0 0,.int .i64 0,.int .i64 0,.bool false],107),(g,rzC a0 n0 c0 D0 zz0,107),(g2,rzC a1 n1 c1 D1 zz1,107)]∧Same w wn∧Same w6 wn∧Same w8 wn) ⟨⟨F8.out.1.alloc _,F8.out.2.1.alloc _,F8.out.2.2.1.alloc _,Blk.new' _ _ _ hg2.symm,trivial⟩,K8.out.alloc _,K68.out.alloc _,(Kept.refl _ _).alloc _⟩ ?_
   rintro w9 ⟨hf9,k9,k69,k89⟩
   have F9:=qh hf9
   have K9:=qh k9
   have K69:=qh k69
   have K89:=qh k89
   have B1:=qh (show Blk w9 (y+1) #[.slice none 0 0,.bool false,.int .i64 0,.int .i64 0,.bool false,.int .i64 0,.int .i64 0,.slice none 0 0,.int .i64 0,.slice none 0 0,.slice none 0 0,.int .i64 0,.int .i64 0,.bool false] 107 from hf9.2.1)
   clear p0 f0 p1 f1 z0 z1 z2 F8 K8 K68 hf9 k9 k69 k89 hg2
   have SA:=qh (show D.s=[]∨∀x,a=some x→x.block≠y+1 from(secsAt_lt HS.out).imp_right (fun h x hx=>by have:=h x hx;have:=HY.out;omega))
   have HW57:=qh (show Same w w5∧Same w w7 from⟨K5.out,K7.out⟩)
   rcases o0 with _|r0
   ·rcases o1 with _|r1
    ·have NE:=qh (NO.out 4 (O4.out (by first|trivial|rfl) (by rw[OS.out,B2.out];rfl)))
     have hf10:Fr w9 [(y,#[.slice a D.s.length c,.bool false,.int .i64 D.calls,.int .i64 D.after,.bool D.done],104),(y+1,#[.slice none 0 0,.bool false,.int .i64 0,.int .i64 0,.bool false,.int .i64 0,.int .i64 0,.slice none 0 0,.int .i64 0,.slice none 0 0,.slice none 0 0,.int .i64 0,.int .i64 0,.bool false],107),(g,#[.slice a0 n0 c0,.bool D0.off,.int .i64 D0.calls,.int .i64 D0.after,.bool D0.done,.int .i64 zz0.ring,.int .i64 zz0.ns,.slice zz0.na zz0.nl zz0.nc,.int .i64 zz0.rs,.slice zz0.ca zz0.cl zz0.cc,.slice zz0.ba zz0.bl zz0.bc,.int .i64 zz0.gen,.int .i64 zz0.slot,.bool zz0.bad],107),(g2,#[.slice a1 n1 c1,.bool D1.off,.int .i64 D1.calls,.int .i64 D1.after,.bool D1.done,.int .i64 zz1.ring,.int .i64 zz1.ns,.slice zz1.na zz1.nl zz1.nc,.int .i64 zz1.rs,.slice zz1.ca zz1.cl zz1.cc,.slice zz1.ba zz1.bl zz1.bc,.int .i64 zz1.gen,.int .i64 zz1.slot,.bool zz1.bad],107)]:=F9.out
     have F10:=qh hf10
     clear hf10 F9
     obtain⟨p0,f0,p1,f1,p2,f2,p3,f3, -⟩:=F10.out.rules
     have z0:=F10.out.1.lt
     have z1:=F10.out.2.1.lt
     have z2:=F10.out.2.2.1.lt
     have z3:=F10.out.2.2.2.1.lt
     clear NO FIN O4 O0 T0 T1 B2
     go_wp2_with fail
     (try simp only[Exit.inBlock,Exit.then])
     refine cutE (fun W=>Blk W (y+1) #[.slice a D.s.length c,.bool false,.int .i64 D.calls,.int .i64 D.after,.bool D.done,.int .i64 0,.int .i64 0,.slice none 0 0,.int .i64 0,.slice none 0 0,.slice none 0 0,.int .i64 0,.int .i64 0,.bool false] 107∧Same w W) ⟨by with_reducible exact Blk.set14 B1.out,by with_reducible exact Kept.set14 K9.out (by have:=HY.out;omega)⟩ ?_
     rintro wz ⟨bz,kz⟩
     refine bodyPost_ret (results_ctmp (b:=.int .i64 4) rfl _ _ _ _ _ _ rfl bz rfl rfl rfl (by kernel_rfl)) rfl ?_
     exact NE.out wz kz
    ·have hbg:=F9.out.2.2.2.1
     obtain⟨A1,hA1,hA2,hz,hrs,h4,h5,h6⟩:=T1.out r1 rfl
     have BG:Blk w9 g2 #[.slice a D.s.length c,.bool false,.int .i64 D.calls,.int .i64 D.after,.bool D.done,.int .i64 (r1.ring:Nat),.int .i64 (r1.size:Nat),.slice A1.na r1.words.length A1.nc,.int .i64 (r1.size:Nat),.slice A1.ca r1.words.length A1.cc,.slice A1.ba r1.body.length A1.bc,.int .i64 (r1.gen:Nat),.int .i64 (r1.slot:Nat),.bool false] 107:=by
      have q:=hbg
      rw[hz]at q
      unfold rzC at q
      rw[HO.out]at q
      exact q
     have hsz:=(HW57.out.2).size
     have FRA:=qh (show((({D:=D,r:=r1,nsize:=(r1).size,nwords:=(r1).words,bad:=false}:Sto)).D.s=[]∨∀x,A1.a=some x→x.block≠y+1)∧(∀x,A1.na=some x→x.block≠y+1)∧(∀x,A1.ca=some x→x.block≠y+1)∧(∀x,A1.ba=some x→x.block≠y+1)from⟨by rw[hA1];exact SA.out,fun x hx=>by have:=h4 x hx;have:=Y5.out;have:=Y7.out;omega,fun x hx=>by have:=h5 x hx;have:=Y5.out;have:=Y7.out;omega,fun x hx=>by have:=h6 x hx;have:=Y5.out;have:=Y7.out;omega⟩)
     have FE:=qh (fun(he:openQ D=(some ({D:=D,r:=r1,nsize:=(r1).size,nwords:=(r1).words,bad:=false}:Sto),0))=>FIN.out r1 he A1 hA1 hA2 (fun x hx=>Nat.le_trans hsz (h4 x hx)) (fun x hx=>Nat.le_trans hsz (h5 x hx)) (fun x hx=>Nat.le_trans hsz (h6 x hx)))
     have RS:=qh hrs
     clear hz hrs h4 h5 h6 hA1 hA2 hsz
     have NE:=qh (FE.out (O0.out (by first|trivial|rfl) _ (by rw[OS.out,B2.out];rfl)))
     have hf10:Fr w9 [(y,#[.slice a D.s.length c,.bool false,.int .i64 D.calls,.int .i64 D.after,.bool D.done],104),(y+1,#[.slice none 0 0,.bool false,.int .i64 0,.int .i64 0,.bool false,.int .i64 0,.int .i64 0,.slice none 0 0,.int .i64 0,.slice none 0 0,.slice none 0 0,.int .i64 0,.int .i64 0,.bool false],107),(g,#[.slice a0 n0 c0,.bool D0.off,.int .i64 D0.calls,.int .i64 D0.after,.bool D0.done,.int .i64 zz0.ring,.int .i64 zz0.ns,.slice zz0.na zz0.nl zz0.nc,.int .i64 zz0.rs,.slice zz0.ca zz0.cl zz0.cc,.slice zz0.ba zz0.bl zz0.bc,.int .i64 zz0.gen,.int .i64 zz0.slot,.bool zz0.bad],107),(g2,#[.slice a D.s.length c,.bool false,.int .i64 D.calls,.int .i64 D.after,.bool D.done,.int .i64 (r1.ring:Nat),.int .i64 (r1.size:Nat),.slice A1.na r1.words.length A1.nc,.int .i64 (r1.size:Nat),.slice A1.ca r1.words.length A1.cc,.slice A1.ba r1.body.length A1.bc,.int .i64 (r1.gen:Nat),.int .i64 (r1.slot:Nat),.bool false],107)]:=⟨F9.out.1,F9.out.2.1,F9.out.2.2.1,BG,trivial⟩
     have F10:=qh hf10
     clear hf10 F9
     obtain⟨p0,f0,p1,f1,p2,f2,p3,f3, -⟩:=F10.out.rules
     have z0:=F10.out.1.lt
     have z1:=F10.out.2.1.lt
     have z2:=F10.out.2.2.1.lt
     have z3:=F10.out.2.2.2.1.lt
     have RS9:=qh (RS.out.same K89.out)
     clear NO FIN O4 O0 T0 T1 B2 FE BG RS
     go_wp2_with fail
     (try simp only[Exit.inBlock,Exit.then])
     refine cutE (fun W=>Blk W (y+1) #[.slice a D.s.length c,.bool false,.int .i64 D.calls,.int .i64 D.after,.bool D.done,.int .i64 (r1.ring:Nat),.int .i64 (r1.size:Nat),.slice A1.na r1.words.length A1.nc,.int .i64 (r1.size:Nat),.slice A1.ca r1.words.length A1.cc,.slice A1.ba r1.body.length A1.bc,.int .i64 (r1.gen:Nat),.int .i64 (r1.slot:Nat),.bool false] 107∧Same w W∧RSt W ({D:=D,r:=r1,nsize:=(r1).size,nwords:=(r1).words,bad:=false}:Sto) A1) ⟨by with_reducible exact Blk.set14 B1.out,by with_reducible exact Kept.set14 K9.out (by have:=HY.out;omega),?_⟩ ?_
     ·refine RSt.kept1 (b:=y+1) RS9.out ?_ FRA.out.1 FRA.out.2.1 FRA.out.2.2.1 FRA.out.2.2.2
      (repeat(with_reducible first|exact Kept.refl _ _|refine Kept.drew ?_ |refine Kept.setG ?_ _ _))
     rintro wz ⟨bz,kz,rz⟩
     refine bodyPost_ret (results_ctmp (b:=.int .i64 0) rfl _ _ _ _ _ _ rfl bz rfl rfl rfl (by kernel_rfl)) rfl ?_
     exact NE.out wz kz rz
   ·rcases o1 with _|r1
    ·have hbg:=F9.out.2.2.1
     obtain⟨A0,hA1,hA2,hz,hrs,h4,h5,h6⟩:=T0.out r0 rfl
     have BG:Blk w9 g #[.slice a D.s.length c,.bool false,.int .i64 D.calls,.int .i64 D.after,.bool D.done,.int .i64 (r0.ring:Nat),.int .i64 (r0.size:Nat),.slice A0.na r0.words.length A0.nc,.int .i64 (r0.size:Nat),.slice A0.ca r0.words.length A0.cc,.slice A0.ba r0.body.length A0.bc,.int .i64 (r0.gen:Nat),.int .i64 (r0.slot:Nat),.bool false] 107:=by
      have q:=hbg
      rw[hz]at q
      unfold rzC at q
      rw[HO.out]at q
      exact q
     have hsz:=(HW57.out.1).size
     have FRA:=qh (show((({D:=D,r:=r0,nsize:=(r0).size,nwords:=(r0).words,bad:=false}:Sto)).D.s=[]∨∀x,A0.a=some x→x.block≠y+1)∧(∀x,A0.na=some x→x.block≠y+1)∧(∀x,A0.ca=some x→x.block≠y+1)∧(∀x,A0.ba=some x→x.block≠y+1)from⟨by rw[hA1];exact SA.out,fun x hx=>by have:=h4 x hx;have:=Y5.out;have:=Y7.out;omega,fun x hx=>by have:=h5 x hx;have:=Y5.out;have:=Y7.out;omega,fun x hx=>by have:=h6 x hx;have:=Y5.out;have:=Y7.out;omega⟩)
     have FE:=qh (fun(he:openQ D=(some ({D:=D,r:=r0,nsize:=(r0).size,nwords:=(r0).words,bad:=false}:Sto),0))=>FIN.out r0 he A0 hA1 hA2 (fun x hx=>Nat.le_trans hsz (h4 x hx)) (fun x hx=>Nat.le_trans hsz (h5 x hx)) (fun x hx=>Nat.le_trans hsz (h6 x hx)))
     have RS:=qh hrs
     clear hz hrs h4 h5 h6 hA1 hA2 hsz
     have NE:=qh (FE.out (O0.out (by first|trivial|rfl) _ (by rw[OS.out,B2.out];rfl)))
     have hf10:Fr w9 [(y,#[.slice a D.s.length c,.bool false,.int .i64 D.calls,.int .i64 D.after,.bool D.done],104),(y+1,#[.slice none 0 0,.bool false,.int .i64 0,.int .i64 0,.bool false,.int .i64 0,.int .i64 0,.slice none 0 0,.int .i64 0,.slice none 0 0,.slice none 0 0,.int .i64 0,.int .i64 0,.bool false],107),(g,#[.slice a D.s.length c,.bool false,.int .i64 D.calls,.int .i64 D.after,.bool D.done,.int .i64 (r0.ring:Nat),.int .i64 (r0.size:Nat),.slice A0.na r0.words.length A0.nc,.int .i64 (r0.size:Nat),.slice A0.ca r0.words.length A0.cc,.slice A0.ba r0.body.length A0.bc,.int .i64 (r0.gen:Nat),.int .i64 (r0.slot:Nat),.bool false],107),(g2,#[.slice a1 n1 c1,.bool D1.off,.int .i64 D1.calls,.int .i64 D1.after,.bool D1.done,.int .i64 zz1.ring,.int .i64 zz1.ns,.slice zz1.na zz1.nl zz1.nc,.int .i64 zz1.rs,.slice zz1.ca zz1.cl zz1.cc,.slice zz1.ba zz1.bl zz1.bc,.int .i64 zz1.gen,.int .i64 zz1.slot,.bool zz1.bad],107)]:=⟨F9.out.1,F9.out.2.1,BG,F9.out.2.2.2.1,trivial⟩
     have F10:=qh hf10
     clear hf10 F9
     obtain⟨p0,f0,p1,f1,p2,f2,p3,f3, -⟩:=F10.out.rules
     have z0:=F10.out.1.lt
     have z1:=F10.out.2.1.lt
     have z2:=F10.out.2.2.1.lt
     have z3:=F10.out.2.2.2.1.lt
     have RS9:=qh (RS.out.same K69.out)
     clear NO FIN O4 O0 T0 T1 B2 FE BG RS
     go_wp2_with fail
     (try simp only[Exit.inBlock,Exit.then])
     refine cutE (fun W=>Blk W (y+1) #[.slice a D.s.length c,.bool false,.int .i64 D.calls,.int .i64 D.after,.bool D.done,.int .i64 (r0.ring:Nat),.int .i64 (r0.size:Nat),.slice A0.na r0.words.length A0.nc,.int .i64 (r0.size:Nat),.slice A0.ca r0.words.length A0.cc,.slice A0.ba r0.body.length A0.bc,.int .i64 (r0.gen:Nat),.int .i64 (r0.slot:Nat),.bool false] 107∧Same w W∧RSt W ({D:=D,r:=r0,nsize:=(r0).size,nwords:=(r0).words,bad:=false}:Sto) A0) ⟨by with_reducible exact Blk.set14 B1.out,by with_reducible exact Kept.set14 K9.out (by have:=HY.out;omega),?_⟩ ?_
     ·refine RSt.kept1 (b:=y+1) RS9.out ?_ FRA.out.1 FRA.out.2.1 FRA.out.2.2.1 FRA.out.2.2.2
      (repeat(with_reducible first|exact Kept.refl _ _|refine Kept.drew ?_ |refine Kept.setG ?_ _ _))
     rintro wz ⟨bz,kz,rz⟩
     refine bodyPost_ret (results_ctmp (b:=.int .i64 0) rfl _ _ _ _ _ _ rfl bz rfl rfl rfl (by kernel_rfl)) rfl ?_
     exact NE.out wz kz rz
    ·have hbg:=F9.out.2.2.1
     obtain⟨A1',hB1,hB2,hzb,hrsb,h4b,h5b,h6b⟩:=T1.out r1 rfl
     have BH:Blk w9 g2 #[.slice a D.s.length c,.bool false,.int .i64 D.calls,.int .i64 D.after,.bool D.done,.int .i64 (r1.ring:Nat),.int .i64 (r1.size:Nat),.slice A1'.na r1.words.length A1'.nc,.int .i64 (r1.size:Nat),.slice A1'.ca r1.words.length A1'.cc,.slice A1'.ba r1.body.length A1'.bc,.int .i64 (r1.gen:Nat),.int .i64 (r1.slot:Nat),.bool false] 107:=by
      have q:=F9.out.2.2.2.1
      rw[hzb]at q
      unfold rzC at q
      rw[HO.out]at q
      exact q
     by_cases hlt:r0.gen<r1.gen
     ·have gl:¬((r1.gen:Nat):Int)≤((r0.gen:Nat):Int):=by omega
      have hbg:=F9.out.2.2.2.1
      have BA:Blk w9 g #[.slice a0 n0 c0,.bool D0.off,.int .i64 D0.calls,.int .i64 D0.after,.bool D0.done,.int .i64 zz0.ring,.int .i64 zz0.ns,.slice zz0.na zz0.nl zz0.nc,.int .i64 zz0.rs,.slice zz0.ca zz0.cl zz0.cc,.slice zz0.ba zz0.bl zz0.bc,.int .i64 zz0.gen,.int .i64 zz0.slot,.bool zz0.bad] 107:=F9.out.2.2.1
      obtain⟨A0,hC1,hC2,hzc, -, -, -, -⟩:=T0.out r0 rfl
      have BC:Blk w9 g #[.slice a D.s.length c,.bool false,.int .i64 D.calls,.int .i64 D.after,.bool D.done,.int .i64 (r0.ring:Nat),.int .i64 (r0.size:Nat),.slice A0.na r0.words.length A0.nc,.int .i64 (r0.size:Nat),.slice A0.ca r0.words.length A0.cc,.slice A0.ba r0.body.length A0.bc,.int .i64 (r0.gen:Nat),.int .i64 (r0.slot:Nat),.bool false] 107:=by
       have q:=F9.out.2.2.1
       rw[hzc]at q
       unfold rzC at q
       rw[HO.out]at q
       exact q
      clear hzb hrsb h4b h5b h6b hB1 hB2 BH BA hC1 hC2 hzc
      obtain⟨A1,hA1,hA2,hz,hrs,h4,h5,h6⟩:=T1.out r1 rfl
      have BG:Blk w9 g2 #[.slice a D.s.length c,.bool false,.int .i64 D.calls,.int .i64 D.after,.bool D.done,.int .i64 (r1.ring:Nat),.int .i64 (r1.size:Nat),.slice A1.na r1.words.length A1.nc,.int .i64 (r1.size:Nat),.slice A1.ca r1.words.length A1.cc,.slice A1.ba r1.body.length A1.bc,.int .i64 (r1.gen:Nat),.int .i64 (r1.slot:Nat),.bool false] 107:=by
       have q:=hbg
       rw[hz]at q
       unfold rzC at q
       rw[HO.out]at q
       exact q
      have hsz:=(HW57.out.2).size
      have FRA:=qh (show((({D:=D,r:=r1,nsize:=(r1).size,nwords:=(r1).words,bad:=false}:Sto)).D.s=[]∨∀x,A1.a=some x→x.block≠y+1)∧(∀x,A1.na=some x→x.block≠y+1)∧(∀x,A1.ca=some x→x.block≠y+1)∧(∀x,A1.ba=some x→x.block≠y+1)from⟨by rw[hA1];exact SA.out,fun x hx=>by have:=h4 x hx;have:=Y5.out;have:=Y7.out;omega,fun x hx=>by have:=h5 x hx;have:=Y5.out;have:=Y7.out;omega,fun x hx=>by have:=h6 x hx;have:=Y5.out;have:=Y7.out;omega⟩)
      have FE:=qh (fun(he:openQ D=(some ({D:=D,r:=r1,nsize:=(r1).size,nwords:=(r1).words,bad:=false}:Sto),0))=>FIN.out r1 he A1 hA1 hA2 (fun x hx=>Nat.le_trans hsz (h4 x hx)) (fun x hx=>Nat.le_trans hsz (h5 x hx)) (fun x hx=>Nat.le_trans hsz (h6 x hx)))
      have RS:=qh hrs
      clear hz hrs h4 h5 h6 hA1 hA2 hsz
      have NE:=qh (FE.out (O0.out (by first|trivial|rfl) _ (by rw[OS.out,B2.out];simp only[if_pos hlt];rfl)))
      have hf10:Fr w9 [(y,#[.slice a D.s.length c,.bool false,.int .i64 D.calls,.int .i64 D.after,.bool D.done],104),(y+1,#[.slice none 0 0,.bool false,.int .i64 0,.int .i64 0,.bool false,.int .i64 0,.int .i64 0,.slice none 0 0,.int .i64 0,.slice none 0 0,.slice none 0 0,.int .i64 0,.int .i64 0,.bool false],107),(g,#[.slice a D.s.length c,.bool false,.int .i64 D.calls,.int .i64 D.after,.bool D.done,.int .i64 (r0.ring:Nat),.int .i64 (r0.size:Nat),.slice A0.na r0.words.length A0.nc,.int .i64 (r0.size:Nat),.slice A0.ca r0.words.length A0.cc,.slice A0.ba r0.body.length A0.bc,.int .i64 (r0.gen:Nat),.int .i64 (r0.slot:Nat),.bool false],107),(g2,#[.slice a D.s.length c,.bool false,.int .i64 D.calls,.int .i64 D.after,.bool D.done,.int .i64 (r1.ring:Nat),.int .i64 (r1.size:Nat),.slice A1.na r1.words.length A1.nc,.int .i64 (r1.size:Nat),.slice A1.ca r1.words.length A1.cc,.slice A1.ba r1.body.length A1.bc,.int .i64 (r1.gen:Nat),.int .i64 (r1.slot:Nat),.bool false],107)]:=⟨F9.out.1,F9.out.2.1,BC,BG,trivial⟩
      have F10:=qh hf10
      clear hf10 F9
      obtain⟨p0,f0,p1,f1,p2,f2,p3,f3, -⟩:=F10.out.rules
      have z0:=F10.out.1.lt
      have z1:=F10.out.2.1.lt
      have z2:=F10.out.2.2.1.lt
      have z3:=F10.out.2.2.2.1.lt
      have RS9:=qh (RS.out.same K89.out)
      clear NO FIN O4 O0 T0 T1 B2 FE BG RS BC
      go_wp2_with fail
      (try simp only[Exit.inBlock,Exit.then])
      refine cutE (fun W=>Blk W (y+1) #[.slice a D.s.length c,.bool false,.int .i64 D.calls,.int .i64 D.after,.bool D.done,.int .i64 (r1.ring:Nat),.int .i64 (r1.size:Nat),.slice A1.na r1.words.length A1.nc,.int .i64 (r1.size:Nat),.slice A1.ca r1.words.length A1.cc,.slice A1.ba r1.body.length A1.bc,.int .i64 (r1.gen:Nat),.int .i64 (r1.slot:Nat),.bool false] 107∧Same w W∧RSt W ({D:=D,r:=r1,nsize:=(r1).size,nwords:=(r1).words,bad:=false}:Sto) A1) ⟨by with_reducible exact Blk.set14 B1.out,by with_reducible exact Kept.set14 K9.out (by have:=HY.out;omega),?_⟩ ?_
      ·refine RSt.kept1 (b:=y+1) RS9.out ?_ FRA.out.1 FRA.out.2.1 FRA.out.2.2.1 FRA.out.2.2.2
       (repeat(with_reducible first|exact Kept.refl _ _|refine Kept.drew ?_ |refine Kept.setG ?_ _ _))
      rintro wz ⟨bz,kz,rz⟩
      refine bodyPost_ret (results_ctmp (b:=.int .i64 0) rfl _ _ _ _ _ _ rfl bz rfl rfl rfl (by kernel_rfl)) rfl ?_
      exact NE.out wz kz rz
     ·have gl:((r1.gen:Nat):Int)≤((r0.gen:Nat):Int):=by omega
      clear hzb hrsb h4b h5b h6b hB1 hB2
      obtain⟨A0,hA1,hA2,hz,hrs,h4,h5,h6⟩:=T0.out r0 rfl
      have BG:Blk w9 g #[.slice a D.s.length c,.bool false,.int .i64 D.calls,.int .i64 D.after,.bool D.done,.int .i64 (r0.ring:Nat),.int .i64 (r0.size:Nat),.slice A0.na r0.words.length A0.nc,.int .i64 (r0.size:Nat),.slice A0.ca r0.words.length A0.cc,.slice A0.ba r0.body.length A0.bc,.int .i64 (r0.gen:Nat),.int .i64 (r0.slot:Nat),.bool false] 107:=by
       have q:=hbg
       rw[hz]at q
       unfold rzC at q
       rw[HO.out]at q
       exact q
      have hsz:=(HW57.out.1).size
      have FRA:=qh (show((({D:=D,r:=r0,nsize:=(r0).size,nwords:=(r0).words,bad:=false}:Sto)).D.s=[]∨∀x,A0.a=some x→x.block≠y+1)∧(∀x,A0.na=some x→x.block≠y+1)∧(∀x,A0.ca=some x→x.block≠y+1)∧(∀x,A0.ba=some x→x.block≠y+1)from⟨by rw[hA1];exact SA.out,fun x hx=>by have:=h4 x hx;have:=Y5.out;have:=Y7.out;omega,fun x hx=>by have:=h5 x hx;have:=Y5.out;have:=Y7.out;omega,fun x hx=>by have:=h6 x hx;have:=Y5.out;have:=Y7.out;omega⟩)
      have FE:=qh (fun(he:openQ D=(some ({D:=D,r:=r0,nsize:=(r0).size,nwords:=(r0).words,bad:=false}:Sto),0))=>FIN.out r0 he A0 hA1 hA2 (fun x hx=>Nat.le_trans hsz (h4 x hx)) (fun x hx=>Nat.le_trans hsz (h5 x hx)) (fun x hx=>Nat.le_trans hsz (h6 x hx)))
      have RS:=qh hrs
      clear hz hrs h4 h5 h6 hA1 hA2 hsz
      have NE:=qh (FE.out (O0.out (by first|trivial|rfl) _ (by rw[OS.out,B2.out];simp only[if_neg hlt];rfl)))
      have hf10:Fr w9 [(y,#[.slice a D.s.length c,.bool false,.int .i64 D.calls,.int .i64 D.after,.bool D.done],104),(y+1,#[.slice none 0 0,.bool false,.int .i64 0,.int .i64 0,.bool false,.int .i64 0,.int .i64 0,.slice none 0 0,.int .i64 0,.slice none 0 0,.slice none 0 0,.int .i64 0,.int .i64 0,.bool false],107),(g,#[.slice a D.s.length c,.bool false,.int .i64 D.calls,.int .i64 D.after,.bool D.done,.int .i64 (r0.ring:Nat),.int .i64 (r0.size:Nat),.slice A0.na r0.words.length A0.nc,.int .i64 (r0.size:Nat),.slice A0.ca r0.words.length A0.cc,.slice A0.ba r0.body.length A0.bc,.int .i64 (r0.gen:Nat),.int .i64 (r0.slot:Nat),.bool false],107),(g2,#[.slice a D.s.length c,.bool false,.int .i64 D.calls,.int .i64 D.after,.bool D.done,.int .i64 (r1.ring:Nat),.int .i64 (r1.size:Nat),.slice A1'.na r1.words.length A1'.nc,.int .i64 (r1.size:Nat),.slice A1'.ca r1.words.length A1'.cc,.slice A1'.ba r1.body.length A1'.bc,.int .i64 (r1.gen:Nat),.int .i64 (r1.slot:Nat),.bool false],107)]:=⟨F9.out.1,F9.out.2.1,BG,BH,trivial⟩
      have F10:=qh hf10
      clear hf10 F9
      obtain⟨p0,f0,p1,f1,p2,f2,p3,f3, -⟩:=F10.out.rules
      have z0:=F10.out.1.lt
      have z1:=F10.out.2.1.lt
      have z2:=F10.out.2.2.1.lt
      have z3:=F10.out.2.2.2.1.lt
      have RS9:=qh (RS.out.same K69.out)
      clear NO FIN O4 O0 T0 T1 B2 FE BG RS BH
      go_wp2_with fail
      (try simp only[Exit.inBlock,Exit.then])
      refine cutE (fun W=>Blk W (y+1) #[.slice a D.s.length c,.bool false,.int .i64 D.calls,.int .i64 D.after,.bool D.done,.int .i64 (r0.ring:Nat),.int .i64 (r0.size:Nat),.slice A0.na r0.words.length A0.nc,.int .i64 (r0.size:Nat),.slice A0.ca r0.words.length A0.cc,.slice A0.ba r0.body.length A0.bc,.int .i64 (r0.gen:Nat),.int .i64 (r0.slot:Nat),.bool false] 107∧Same w W∧RSt W ({D:=D,r:=r0,nsize:=(r0).size,nwords:=(r0).words,bad:=false}:Sto) A0) ⟨by with_reducible exact Blk.set14 B1.out,by with_reducible exact Kept.set14 K9.out (by have:=HY.out;omega),?_⟩ ?_
      ·refine RSt.kept1 (b:=y+1) RS9.out ?_ FRA.out.1 FRA.out.2.1 FRA.out.2.2.1 FRA.out.2.2.2
       (repeat(with_reducible first|exact Kept.refl _ _|refine Kept.drew ?_ |refine Kept.setG ?_ _ _))
      rintro wz ⟨bz,kz,rz⟩
      refine bodyPost_ret (results_ctmp (b:=.int .i64 0) rfl _ _ _ _ _ _ rfl bz rfl rfl rfl (by kernel_rfl)) rfl ?_
      exact NE.out wz kz rz
 ·have NE:=qh (NO.out 8 (O8.out (by first|trivial|rfl)))
  clear NO FIN O8 O4 O0 TK0 TK1
  go_wp2_with fail
  (try simp only[Exit.inBlock,Exit.then])
  refine cutE (fun W=>Blk W (y+1) #[.slice a D.s.length c,.bool true,.int .i64 D.calls,.int .i64 D.after,.bool D.done,.int .i64 0,.int .i64 0,.slice none 0 0,.int .i64 0,.slice none 0 0,.slice none 0 0,.int .i64 0,.int .i64 0,.bool false] 107∧Same w W) ⟨by with_reducible exact Blk.set14 B1.out,by with_reducible exact Kept.set14 K5.out (by have:=HY.out;omega)⟩ ?_
  rintro wz ⟨bz,kz⟩
  refine bodyPost_ret (results_ctmp (b:=.int .i64 8) rfl _ _ _ _ _ _ rfl bz rfl rfl rfl (by kernel_rfl)) rfl ?_
  exact NE.out wz kz
end
end Go.Proofs.YtmiglhlbhbfodaaGreatDoor
