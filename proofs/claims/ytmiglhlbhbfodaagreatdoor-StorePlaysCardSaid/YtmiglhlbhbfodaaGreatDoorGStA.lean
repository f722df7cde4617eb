/- GStA: StP, St1, St2, St3, St4, St7, St10, St13, St9, St14, OrdN, StG, St5, St6. -/
import Derived.Test.YtmiglhlbhbfodaaGreatDoorGSn
import Derived.Test.YtmiglhlbhbfodaaGreatDoorGBmA
set_option maxHeartbeats 3200000
set_option maxRecDepth 100000
namespace Go.Proofs.YtmiglhlbhbfodaaGreatDoor
section
open Go.RowKit
structure Rt where
 gen:Nat
 slot:Nat
 ring:Nat
 size:Nat
 words:List Nat
 body:List Nat
def rt0:Rt:=⟨0,0,0,0,[],[]⟩
structure Sto where
 D:Dsk
 r:Rt
 nsize:Nat
 nwords:List Nat
 bad:Bool
def putW(ws:List Nat):List Nat:=ws.flatMap (be 8)
def putR(r:Rt):List Nat:=putSmall r.ring++putSmall r.size++putW r.words++r.body
def roomN(N ring:Nat):Nat:=min 512 ((N - 8 - ring) / 4)
def secsS(D:Dsk)(n:Nat):List (List Nat):=(List.range 4).map fun i=>(readD D ((n*4+i:Nat):Int)).1
def seenD(D:Dsk):Nat:=max (seenSl (secsS D 0)) (seenSl (secsS D 1))
def wordsOf:Nat→List Nat→List Nat
 |0,_=>[]
 |k+1,l=>low (l.take 8)::wordsOf k (l.drop 8)
def rd1(b:List Nat):List Nat×Nat×Nat:=rdSmall b 0
def rd2(b:List Nat):List Nat×Nat×Nat:=rdSmall (rd1 b).1 (rd1 b).2.1
def rtOf(g n:Nat)(b:List Nat):Rt:=⟨g,n,(rd1 b).2.2,(rd2 b).2.2,wordsOf (((rd2 b).2.2+63) / 64) (rd2 b).1,(rd2 b).1.drop (8*(((rd2 b).2.2+63) / 64))⟩
def getOK1(N:Nat)(b:List Nat):Bool:=decide ((rd1 b).2.2≤256)&&(decide ((rd2 b).2.2=roomN N (rd1 b).2.2)&&decide (4≤(rd2 b).2.2))
def getOK2(b:List Nat):Bool:=decide (8*(((rd2 b).2.2+63) / 64)≤(rd2 b).1.length)&&decide ((rd2 b).1.length - 8*(((rd2 b).2.2+63) / 64)≤700)
def getOK3(g n:Nat)(b:List Nat):Bool:=mapOK ((rd2 b).2.2:Nat) (rtOf g n b).words&&decide (putR (rtOf g n b)=b)
def getR(D:Dsk)(n:Nat):Option Rt:=
 if(getSl (secsS D n)).2.2=0∧getOK1 D.s.length (getSl (secsS D n)).2.1=true∧getOK2 (getSl (secsS D n)).2.1=true∧getOK3 (getSl (secsS D n)).1 n (getSl (secsS D n)).2.1=true then some (rtOf (getSl (secsS D n)).1 n (getSl (secsS D n)).2.1)else none
def wrAll:Dsk→Nat→List (List Nat)→Dsk×Nat
 |D,_,[]=>(D,0)
 |D,i,b::l=>if(writeD D ((i:Nat):Int) b).2=0 then wrAll (writeD D ((i:Nat):Int) b).1 (i+1) l else writeD D ((i:Nat):Int) b
def Sto.did(s:Sto)(q:Dsk×Nat):Sto:={s with D:=q.1,bad:=s.bad||decide (q.2≠0)}
def Sto.write(s:Sto)(r:Rt):Sto×Nat:=
 if putSlE (r.gen:Int) (putR r).length≠0 then(s,putSlE (r.gen:Int) (putR r).length)
 else if(wrAll s.D (r.slot*4) (putSl r.gen (putR r))).2≠0 then(s.did (wrAll s.D (r.slot*4) (putSl r.gen (putR r))),(wrAll s.D (r.slot*4) (putSl r.gen (putR r))).2)
 else if(syncD (wrAll s.D (r.slot*4) (putSl r.gen (putR r))).1).2≠0 then(s.did (syncD (wrAll s.D (r.slot*4) (putSl r.gen (putR r))).1),(syncD (wrAll s.D (r.slot*4) (putSl r.gen (putR r))).1).2)
 else({D:=(syncD (wrAll s.D (r.slot*4) (putSl r.gen (putR r))).1).1,r:=r,nsize:=r.size,nwords:=r.words,bad:=s.bad},0)
end
section
open Go.RowKit Go.Sort Go.Shelf
theorem room_int(N ring:Nat)(hN:N≤4096)(hr:ring≤1099511627776):max (0:Int) (min 512 (((N:Int) - 8 - (ring:Int)).tdiv 4))=((roomN N ring:Nat):Int):=by
 unfold roomN
 rcases Nat.lt_or_ge N (8+ring)with h|h
 ·have h1:((N:Int) - 8 - (ring:Int)).tdiv 4≤0:=by
   rw[show(N:Int) - 8 - (ring:Int)= -((8+ring - N:Nat):Int)from by omega,Int.neg_tdiv]
   have:(0:Int)≤((8+ring - N:Nat):Int).tdiv 4:=Int.tdiv_nonneg (by omega) (by decide)
   omega
  rw[show N - 8 - ring=0 from by omega]
  simp
  omega
 ·rw[show(N:Int) - 8 - (ring:Int)=((N - 8 - ring:Nat):Int)from by omega,Int.tdiv_eq_ediv_of_nonneg (by omega)]
  omega
theorem st_room{w:World}{d bs cap m:Nat}{D:Dsk}(h:DiskIn w d bs cap m D)(ring:Nat)(hr:ring≤1099511627776):
 Calls Tryz.prog 33 #[.pointer (some ⟨d,0,none⟩),.int .i64 (ring:Nat)] w fun e w'=>e=.returned (.int .i64 ((roomN D.s.length ring:Nat):Int))∧w'=w:=by
 have SZ:=qh (sd_size h)
 have RI:=qh (room_int D.s.length ring h.ok.few hr)
 have hN:=h.ok.few
 clear h
 go_enter Tryz.func33,Tryz.ntmps33
 go_wp2_with fail
 with_reducible refine SZ.out.mono ?_
 rintro e w1 ⟨rfl,rfl⟩
 clear SZ
 go_wp2_with fail
 go_ret
 refine⟨?_,rfl⟩
 rw[←RI.out]
 rfl
theorem readD_lenS{D:Dsk}(h:D.OK)(n:Int):(readD D n).1.length=256∧(readD D n).2=0∨(readD D n).1=[]:=by
 unfold readD
 split
 ·exact .inl ⟨(getD_ok h.secs _).hasL,rfl⟩
 ·exact .inr rfl
theorem readD_bts{D:Dsk}(h:D.OK)(n:Int):Bts (readD D n).1:=by
 unfold readD
 split
 ·exact(getD_ok h.secs _).hasB
 ·intro x hx;cases hx
theorem secsS_bts{D:Dsk}(h:D.OK)(n:Nat):∀b∈secsS D n,Bts b:=by
 intro b hb
 unfold secsS at hb
 obtain⟨i,_,rfl⟩:=List.mem_map.1 hb
 exact readD_bts h _
theorem secsS_len(D:Dsk)(n:Nat):(secsS D n).length=4:=by simp[secsS]
section
attribute [local go_sem ↓] exec_app semAt_app
attribute [local go_sem] isApp_lit appA appX
theorem st_secs{w:World}{d bs cap m:Nat}{D:Dsk}(h:DiskIn w d bs cap m D)(n:Nat)(hn:n≤10):
 Calls Tryz.prog 78 #[.pointer (some ⟨d,0,none⟩),.int .i64 (n:Nat)] w fun e w'=>(∃v,e=.returned v∧RowsOwn w' w.heap.size v (secsS D n))∧Same w w':=by
 have H:=qh h
 have HN:=qh hn
 have OK:=qh h.ok
 clear h
 go_enter Tryz.func78,Tryz.ntmps78
 go_wp2_with fail
 go_loopw [5,9] (fun v t wr=>∃(i:Nat),t=.int .i64 i∧i≤4∧RowsOwn wr w.heap.size v ((List.range i).map fun i=>(readD D ((n*4+i:Nat):Int)).1)∧Same w wr) (fun _ t _=>4 - (intOf t).toNat)
 case atStart=>exact⟨0,rfl,by omega,RowsOwn.nil _ _,Kept.refl _ _⟩
 case round=>
  obtain⟨i,rfl,hi,hr,hk⟩:=hrel
  have K:=qh hk
  have R:=qh hr
  clear hk hr
  by_cases hgo:i<4
  ·have RD:=qh (sd_readF (H.out.same K.out) ((n:Int)*4+(i:Int)))
   have RL:=qh (readD_lenS OK.out ((n:Int)*4+(i:Int)))
   have RE:=qh (show readD D ((n*4+i:Nat):Int)=readD D ((n:Int)*4+(i:Int))from by congr 1)
   have hn10:=HN.out
   generalize readD D ((n:Int)*4+(i:Int))=q at RD RL RE
   obtain⟨b,er⟩:=q
   dsimp only at RD RL
   go_wp2_with fail
   with_reducible refine RD.out.mono ?_
   rintro e w1 ⟨a1,c1,rfl,n1,hnone,hsome,k1⟩
   have hc1:b.length≤c1:=by
    rcases RL.out with h|h
    ·cases a1 with
     |none=>rw[(hnone rfl).1];simp
     |some y=>rw[(hsome y rfl).2.1];omega
    ·simp[h]
   have kw:Same w w1:=K.out.trans k1
   obtain⟨v',w',hr4,ho4,hk4⟩:=rows_appendA (R.out.same k1) kw.size (by simp;omega) a1 b.length c1 b rfl hc1 (fun y hy=>by
    obtain⟨h1,h2,h3⟩:=hsome y hy
    subst h1
    exact⟨K.out.size,h3,R.out.below (Nat.le_refl _)⟩) n1
   obtain⟨aok,aV,aW⟩:=app_of hr4
   have KF:=qh (show Same w w' from kw.step hk4 (fun j hj q=>by omega))
   have RF:=qh (show RowsOwn w' w.heap.size v' ((List.range (i+1)).map fun i=>(readD D ((n*4+i:Nat):Int)).1)from by rw[List.range_succ,List.map_append,List.map_cons,List.map_nil,RE.out];exact ho4)
   clear hr4 ho4 hk4 n1 hnone hsome k1 kw RD RL RE hc1
   go_wp2_with fail
   exact⟨⟨i+1,by go_num,by omega,RF.out,KF.out⟩,by simp[intOf];omega⟩
  ·have hi4:i=4:=by omega
   subst hi4
   clear hi hgo
   go_wp2_with fail
   go_ret
   exact⟨⟨_,rfl,R.out⟩,K.out⟩
end
theorem st_seen{w:World}{d bs cap m:Nat}{D:Dsk}(h:DiskIn w d bs cap m D):
 Calls Tryz.prog 36 #[.pointer (some ⟨d,0,none⟩)] w fun e w'=>e=.returned (.int .i64 ((seenD D:Nat):Int))∧Same w w':=by
 have SC0:=qh (fun w' (k:Same w w')=>show Calls Tryz.prog 78 #[.pointer (some ⟨d,0,none⟩),.int .i64 0] w' fun e w''=>(∃v,e=.returned v∧RowsOwn w'' w'.heap.size v (secsS D 0))∧Same w' w'' from st_secs (h.same k) 0 (by decide))
 have SC1:=qh (fun w' (k:Same w w')=>show Calls Tryz.prog 78 #[.pointer (some ⟨d,0,none⟩),.int .i64 1] w' fun e w''=>(∃v,e=.returned v∧RowsOwn w'' w'.heap.size v (secsS D 1))∧Same w' w'' from st_secs (h.same k) 1 (by decide))
 have OK:=qh h.ok
 clear h
 go_enter Tryz.func36,Tryz.ntmps36
 go_wp2_with fail
 with_reducible refine(SC0.out w (Kept.refl _ _)).mono ?_
 rintro e w1 ⟨⟨v1,rfl,hr1⟩,k1⟩
 obtain⟨a1,c1,rfl,hra1⟩:=hr1.rowsAt
 have S1:=qh (sn_seen a1 (secsS D 0).length c1 (secsS D 0) rfl (by rw[secsS_len];decide) (secsS_bts OK.out 0) w1 hra1)
 rw[secsS_len]at S1 ⊢
 have K1:=qh k1
 clear k1 hr1 hra1
 go_wp2_with fail
 with_reducible refine S1.out.mono ?_
 rintro e w2 ⟨rfl,k2⟩
 have K2:=qh (K1.out.trans k2)
 clear k2 S1 K1
 obtain⟨A,hA⟩:∃A,seenSl (secsS D 0)=A:=⟨_,rfl⟩
 rw[hA]
 have HA:=qh hA
 clear hA
 go_wp2_with fail
 with_reducible refine(SC1.out w2 K2.out).mono ?_
 rintro e w3 ⟨⟨v3,rfl,hr3⟩,k3⟩
 obtain⟨a3,c3,rfl,hra3⟩:=hr3.rowsAt
 have S3:=qh (sn_seen a3 (secsS D 1).length c3 (secsS D 1) rfl (by rw[secsS_len];decide) (secsS_bts OK.out 1) w3 hra3)
 rw[secsS_len]at S3 ⊢
 have K3:=qh (K2.out.trans k3)
 clear k3 hr3 hra3 K2
 go_wp2_with fail
 with_reducible refine S3.out.mono ?_
 rintro e w4 ⟨rfl,k4⟩
 have K4:=qh (K3.out.trans k4)
 clear k4 S3 K3
 obtain⟨B,hB⟩:∃B,seenSl (secsS D 1)=B:=⟨_,rfl⟩
 rw[hB]
 have HB:=qh hB
 clear hB
 go_wp2_with fail
 go_ret
 refine⟨?_,K4.out⟩
 unfold seenD
 rw[HA.out,HB.out]
 exact ret_int (by omega)
theorem st_asked{w:World}{d bs cap m:Nat}{D:Dsk}(h:DiskIn w d bs cap m D):
 Calls Tryz.prog 32 #[.pointer (some ⟨d,0,none⟩)] w fun e w'=>e=.returned (.int .i64 ((if D.off then 8 else 0:Nat):Int))∧w'=w:=by
 have OF:=qh (sd_off h)
 obtain⟨o,ho⟩:∃o,D.off=o:=⟨_,rfl⟩
 rw[ho]at OF ⊢
 clear h ho
 cases o
 all_goals
  go_enter Tryz.func32,Tryz.ntmps32
  go_wp2_with fail
  with_reducible refine OF.out.mono ?_
  rintro e w1 ⟨rfl,rfl⟩
  clear OF
  go_wp2_with fail
  go_ret
  exact⟨rfl,rfl⟩
end
section
open Go.RowKit Go.Sort Go.Shelf
def rtC(r:Rt)(wa:Option Addr)(wc:Nat)(ba:Option Addr)(bc:Nat):Array Value:=#[.int .i64 (r.gen:Nat),.int .i64 (r.slot:Nat),.int .i64 (r.ring:Nat),.int .i64 (r.size:Nat),.slice wa r.words.length wc,.slice ba r.body.length bc]
structure RtAt(w:World)(r:Rt)(wa:Option Addr)(wc:Nat)(ba:Option Addr)(bc:Nat):Prop where
 ws:NatsAt w .u64 wa r.words
 bs:NatsAt w .u8 ba r.body
 wcap:r.words.length≤wc
 bcap:r.body.length≤bc
 bnil:ba=none→bc=0
 w64:Words r.words
 bts:Bts r.body
 few:r.gen≤1099511627777∧r.slot≤1∧r.ring≤256∧r.size≤512∧r.words.length≤8∧r.body.length≤700
theorem RtAt.same{w w':World}{r:Rt}{wa ba:Option Addr}{wc bc:Nat}(h:RtAt w r wa wc ba bc)(k:Same w w'):RtAt w' r wa wc ba bc:=⟨h.ws.same k,h.bs.same k,h.wcap,h.bcap,h.bnil,h.w64,h.bts,h.few⟩
theorem nat_push{w:World}{base:Nat}{v:Value}{xs:List Nat}(h:OwnN w base 5 .u8 v xs)(hb:base≤w.heap.size)(hl:xs.length≤100000)(x:Nat)(U:Int)(hU:U=(x:Int)):
 ∃v' w',(Builtin.append_ #[32,32] 32 #[v,.slice (some ⟨w.heap.size,0,none⟩) 1 1]).run Tryz.prog (w.alloc (.cells #[.int .u8 U] 5))=.ok v' w'∧OwnN w' base 5 .u8 v' (xs++[x])∧Kept (fun j=>base≤j) w w':=by
 subst hU
 have kA:Same w (w.alloc (.cells #[.int .u8 (x:Int)] 5)):=(Kept.refl _ w).alloc _
 have hone:NatsAt (w.alloc (.cells #[.int .u8 (x:Int)] 5)) .u8 (some ⟨w.heap.size,0,none⟩) [x]:=.inr ⟨w.heap.size,0,rfl,by simp,fun j y hy=>by
  have hj:j=0:=by
   rcases Nat.eq_zero_or_pos j with q|q
   ·exact q
   ·rw[List.getElem?_eq_none (by simp;omega)]at hy;cases hy
  subst hj
  simp at hy
  subst hy
  exact cell_blk (Blk.new w _ _) 0⟩
 obtain⟨v',w',hrun,ho,hgr, -⟩:=run_appendN (P:=Tryz.prog) (w.alloc (.cells #[.int .u8 (x:Int)] 5)) 32 32 base 5 .u8 1 Tryz.underlying32 u8Info (by decide) v xs (h.same kA) (some ⟨w.heap.size,0,none⟩) 1 1 [x] rfl hone (fun h=>by cases h) (by simp;omega) (Nat.le_trans hb kA.size)
 have kg:Kept (fun j=>v.ownBlock=some j) (w.alloc (.cells #[.int .u8 (x:Int)] 5)) w':=(Kept.refl _ _).grown hgr (fun k hk _=>hk)
 exact⟨v',w',hrun,ho,(kA.mono (fun _ _ q=>q.elim)).trans (kg.mono (fun j _ hj=>(World.ownsRow.lt h j hj).1))⟩
theorem be8_all(x:Nat):be 8 x=[x / 72057594037927936 % 256,x / 281474976710656 % 256,x / 1099511627776 % 256,x / 4294967296 % 256,x / 16777216 % 256,x / 65536 % 256,x / 256 % 256,x % 256]:=stmp_all x
theorem putW_take{ws:List Nat}{i:Nat}(hi:i<ws.length):putW (ws.take (i+1))=putW (ws.take i)++be 8 ws[i]:=by
 have h:ws.take (i+1)=ws.take i++[ws[i]]:=(List.take_append_getElem hi).symm
 unfold putW
 rw[h,List.flatMap_append]
 simp
theorem putW_len(ws:List Nat):(putW ws).length=8*ws.length:=by
 unfold putW
 induction ws with
 |nil=>rfl
 |cons x l ih=>rw[List.flatMap_cons,List.length_append,be_length,ih,List.length_cons];omega
theorem putSmall_len(n:Nat):(putSmall n).length≤9:=by
 unfold putSmall
 rw[List.length_cons,be_length]
 have:=wid_le n
 omega
section
attribute [local go_sem ↓] exec_app semAt_app
attribute [local go_sem] isApp_lit appA appX
theorem st_put(r:Rt)(wa:Option Addr)(wc:Nat)(ba:Option Addr)(bc:Nat)(w:World)(h:RtAt w r wa wc ba bc):
 Calls Tryz.prog 75 #[.agg (rtC r wa wc ba bc)] w fun e w'=>(∃v,e=.returned v∧OwnN w' w.heap.size 5 .u8 v (putR r))∧Same w w':=by
 have H:=qh h
 have HF:=qh h.few
 clear h
 obtain⟨gen,slot,ring,size,words,body⟩:=r
 dsimp only at HF
 have SM:=qh (fun n (hn:n≤1024) w'=>ord_putSmall n w' (by omega))
 have hb1:ring≤256:=HF.out.2.2.1
 have hb2:size≤512:=HF.out.2.2.2.1
 have gw1:=u64_wrap (ring:Int) (by omega) (by omega)
 have gw2:=u64_wrap (size:Int) (by omega) (by omega)
 obtain⟨nw,hnw⟩:∃nw,words.length=nw:=⟨_,rfl⟩
 obtain⟨nb,hnb⟩:∃nb,body.length=nb:=⟨_,rfl⟩
 unfold rtC
 dsimp only
 rw[hnw,hnb]
 have HNW:=qh hnw;have HNB:=qh hnb
 clear hnw hnb
 go_enter Tryz.func75,Tryz.ntmps75
 go_upto_region 1 with fail
 obtain⟨y,hy⟩:∃y,w.heap.size=y:=⟨_,rfl⟩
 rw[hy]
 refine cutWl (fun wn=>Blk wn y #[.int .i64 (gen:Nat),.int .i64 (slot:Nat),.int .i64 (ring:Nat),.int .i64 (size:Nat),.slice wa nw wc,.slice ba nb bc] 76∧Same w wn) ⟨Blk.new' _ _ _ hy.symm,(Kept.refl _ _).alloc _⟩ ?_
 rintro w4 ⟨hb4,k4⟩
 have B4:=qh hb4
 have K4:=qh k4
 have HY:=qh hy
 have YL:=qh hb4.lt
 clear hb4 k4 hy
 have QX:=qh (show∀w',Same w4 w'→(∀i,w'.cell? ⟨y,i,none⟩=(#[.int .i64 (gen:Nat),.int .i64 (slot:Nat),.int .i64 (ring:Nat),.int .i64 (size:Nat),.slice wa nw wc,.slice ba nb bc]:Array Value)[i]?)from fun w' k=>cell_blk (B4.out.kept k (fun h=>h)))
 go_wp2_with fail
 refine wp_region_T (S:=fun w'=>Same w4 w') 9 (by kernel_rfl) (Kept.refl _ _).drew (fun hHeld hDn=>?_)
 refine wpT_z 0 7 QX hHeld hDn fun hDn=>?_
 refine wpT_z 1 8 QX hHeld hDn fun hDn=>?_
 refine wpT_z 2 9 QX hHeld hDn fun hDn=>?_
 refine wpT_z 4 11 QX hHeld hDn fun hDn=>?_
 refine wpT_z 5 12 QX hHeld hDn fun hDn=>?_
 refine wpT_z 6 13 QX hHeld hDn fun hDn=>?_
 refine wpT_z 7 14 QX hHeld hDn fun hDn=>?_
 refine wpT_one (i:=3) rfl (by kernel_rfl) hDn (fun K' hK=>?_)
 go_simp
 with_reducible refine(SM.out ring (by omega) _).mono ?_
 rintro e w5 ⟨v5,rfl,o5,k5⟩
 have K5:=qh (show Same w4 w5 from((Kept.refl _ _).drew).trans k5)
 have O5:=qh (o5.base (show w4.heap.size≤w4.drew.heap.size from Nat.le_refl _))
 refine hK.out _ _ K5.out (fun hHeld2 hDn2=>?_)
 clear hK K' hHeld hDn o5 k5
 have hHeld:=hHeld2;have hDn:=hDn2
 clear hHeld2 hDn2
 refine wpT_one (i:=8) rfl (by kernel_rfl) hDn (fun K' hK=>?_)
 go_simp
 with_reducible refine(SM.out size (by omega) _).mono ?_
 rintro e w6 ⟨v6,rfl,o6,k6⟩
 have K6:=qh (K5.out.trans k6)
 have O56:=qh (O5.out.same k6)
 obtain⟨g6,c6,rfl,hg6,hg6l,hc6,hn6⟩:=o6.begins (by unfold putSmall;simp)
 refine hK.out _ _ K6.out (fun hHeld2 hDn2=>?_)
 clear hK K' hHeld hDn o6 k6
 have hHeld:=hHeld2;have hDn:=hDn2
 clear hHeld2 hDn2
 obtain⟨v7,w7,hr7,o7,g7, -⟩:=run_appendN (P:=Tryz.prog) w6 32 32 w4.heap.size 5 .u8 1 Tryz.underlying32 u8Info (by decide) v5 (putSmall ring) O56.out (some ⟨g6,0,none⟩) (putSmall size).length c6 (putSmall size) rfl hn6 (fun h=>by cases h) (by have:=putSmall_len ring;have:=putSmall_len size;omega) K6.out.size
 have K7:=qh (K6.out.grown g7 (fun k hk hlt=>by have:=(World.ownsRow.lt O56.out k hk).1;omega))
 have O7:=qh o7
 obtain⟨aok,aV,aW⟩:=app_of hr7
 clear hr7 o7 g7
 refine wpT_last rfl (by kernel_rfl) hDn (fun K hK=>?_)
 go_simp
 refine hK.out _ _ (fun hDn'=>?_)
 clear hK K hDn hHeld;have hDn:=hDn';clear hDn'
 refine wpT_ze 10 3 hDn fun hDn=>?_
 refine wpT_done (by kernel_rfl) ?_ _
 clear hDn aok aV aW QX gw1 gw2
 have B7:=qh (B4.out.kept K7.out (fun h=>h))
 have p0:=cell_blk B7.out
 have z0:=B7.out.lt
 have hb3:nw≤8:=by have:=HF.out;have:=HNW.out;omega
 go_wp2_with fail
 go_loopw [3,21] (fun v t wr=>∃(i:Nat),t=.int .i64 i∧i≤nw∧OwnN wr w4.heap.size 5 .u8 v (putSmall ring++putSmall size++putW (words.take i))∧Same w4 wr) (fun _ t _=>nw - (intOf t).toNat)
 case atStart=>exact⟨0,rfl,by omega,by rw[show putSmall ring++putSmall size++putW (words.take 0)=putSmall ring++putSmall size from by simp[putW]];exact O7.out,K7.out⟩
 case round=>
  obtain⟨i,rfl,hi,ho,hk⟩:=hrel
  have K:=qh hk
  have O:=qh ho
  clear hk ho p0 z0 B7 O7 K7
  by_cases hgo:i<nw
  ·have hil:i<words.length:=by rw[HNW.out];exact hgo
   have PT:=qh (putW_take hil)
   have X64:=qh (H.out.w64 words[i] (List.getElem_mem _))
   have hat:=H.out.ws.same (K4.out.trans K.out)
   obtain⟨bk,off,x,rfl,hbk,hx,hcl⟩:=hat.at hil
   obtain rfl:words[i]=x:=by rw[List.getElem?_eq_getElem hil]at hx;exact Option.some.inj hx
   generalize words[i]=x at hcl PT X64
   have g1:(i:Int)<(nw:Int):=by omega
   have g0:(0:Int)≤(i:Int):=by omega
   clear hx hat
   obtain⟨P,hP⟩:∃P,putSmall ring++putSmall size++putW (words.take i)=P:=⟨_,rfl⟩
   rw[hP]at O
   have HP:=qh hP
   have PL:=qh (show P.length≤100 from by rw[←hP];have:=putSmall_len ring;have:=putSmall_len size;simp[putW_len];omega)
   clear hP
   generalize wr=wd at*
   go_wp2_with fail
   go_loopw [3,25] (fun v t wr=>∃(j:Nat),t=.int .i64 j∧j≤8∧OwnN wr w4.heap.size 5 .u8 v (P++(be 8 x).take j)∧Same w4 wr) (fun _ t _=>8 - (intOf t).toNat)
   case atStart=>exact⟨0,rfl,by omega,by simpa using O.out,K.out⟩
   case round=>
    obtain⟨j,rfl,hj,ho,hk⟩:=hrel
    have K:=qh hk
    have O:=qh ho
    clear hk ho
    by_cases hgj:j<8
    ·have hcase:j=0∨j=1∨j=2∨j=3∨j=4∨j=5∨j=6∨j=7:=by omega
     have hxx:=X64.out
     have hpl:=PL.out
     clear hj hgj
     rcases hcase with rfl|rfl|rfl|rfl|rfl|rfl|rfl|rfl
     ·obtain⟨v',w',hr,ho',hk'⟩:=nat_push O.out K.out.size (by simp;omega) (x / 72057594037927936 % 256) ((x:Int) / 72057594037927936) (by omega)
      have KF:=qh (K.out.step hk' (fun a ha z=>by omega))
      have OF:=qh (show OwnN w' w4.heap.size 5 .u8 v' (P++(be 8 x).take 1)from by rw[be8_all]at ho' ⊢;rw[List.append_assoc]at ho';exact ho')
      obtain⟨aok,aV,aW⟩:=app_of hr
      clear hr ho' hk' hpl
      go_wp2_with fail
      exact⟨⟨1,rfl,by omega,OF.out,KF.out⟩,by simp[intOf]⟩
     ·obtain⟨v',w',hr,ho',hk'⟩:=nat_push O.out K.out.size (by simp;omega) (x / 281474976710656 % 256) ((x:Int) / 281474976710656 % 256) (by omega)
      have KF:=qh (K.out.step hk' (fun a ha z=>by omega))
      have OF:=qh (show OwnN w' w4.heap.size 5 .u8 v' (P++(be 8 x).take 2)from by rw[be8_all]at ho' ⊢;rw[List.append_assoc]at ho';exact ho')
      obtain⟨aok,aV,aW⟩:=app_of hr
      clear hr ho' hk' hpl
      go_wp2_with fail
      exact⟨⟨2,rfl,by omega,OF.out,KF.out⟩,by simp[intOf]⟩
     ·obtain⟨v',w',hr,ho',hk'⟩:=nat_push O.out K.out.size (by simp;omega) (x / 1099511627776 % 256) ((x:Int) / 1099511627776 % 256) (by omega)
      have KF:=qh (K.out.step hk' (fun a ha z=>by omega))
      have OF:=qh (show OwnN w' w4.heap.size 5 .u8 v' (P++(be 8 x).take 3)from by rw[be8_all]at ho' ⊢;rw[List.append_assoc]at ho';exact ho')
      obtain⟨aok,aV,aW⟩:=app_of hr
      clear hr ho' hk' hpl
      go_wp2_with fail
      exact⟨⟨3,rfl,by omega,OF.out,KF.out⟩,by simp[intOf]⟩
     ·obtain⟨v',w',hr,ho',hk'⟩:=nat_push O.out K.out.size (by simp;omega) (x / 4294967296 % 256) ((x:Int) / 4294967296 % 256) (by omega)
      have KF:=qh (K.out.step hk' (fun a ha z=>by omega))
      have OF:=qh (show OwnN w' w4.heap.size 5 .u8 v' (P++(be 8 x).take 4)from by rw[be8_all]at ho' ⊢;rw[List.append_assoc]at ho';exact ho')
      obtain⟨aok,aV,aW⟩:=app_of hr
      clear hr ho' hk' hpl
      go_wp2_with fail
      exact⟨⟨4,rfl,by omega,OF.out,KF.out⟩,by simp[intOf]⟩
     ·obtain⟨v',w',hr,ho',hk'⟩:=nat_push O.out K.out.size (by simp;omega) (x / 16777216 % 256) ((x:Int) / 16777216 % 256) (by omega)
      have KF:=qh (K.out.step hk' (fun a ha z=>by omega))
      have OF:=qh (show OwnN w' w4.heap.size 5 .u8 v' (P++(be 8 x).take 5)from by rw[be8_all]at ho' ⊢;rw[List.append_assoc]at ho';exact ho')
      obtain⟨aok,aV,aW⟩:=app_of hr
      clear hr ho' hk' hpl
      go_wp2_with fail
      exact⟨⟨5,rfl,by omega,OF.out,KF.out⟩,by simp[intOf]⟩
     ·obtain⟨v',w',hr,ho',hk'⟩:=nat_push O.out K.out.size (by simp;omega) (x / 65536 % 256) ((x:Int) / 65536 % 256) (by omega)
      have KF:=qh (K.out.step hk' (fun a ha z=>by omega))
      have OF:=qh (show OwnN w' w4.heap.size 5 .u8 v' (P++(be 8 x).take 6)from by rw[be8_all]at ho' ⊢;rw[List.append_assoc]at ho';exact ho')
      obtain⟨aok,aV,aW⟩:=app_of hr
      clear hr ho' hk' hpl
      go_wp2_with fail
      exact⟨⟨6,rfl,by omega,OF.out,KF.out⟩,by simp[intOf]⟩
     ·obtain⟨v',w',hr,ho',hk'⟩:=nat_push O.out K.out.size (by simp;omega) (x / 256 % 256) ((x:Int) / 256 % 256) (by omega)
      have KF:=qh (K.out.step hk' (fun a ha z=>by omega))
      have OF:=qh (show OwnN w' w4.heap.size 5 .u8 v' (P++(be 8 x).take 7)from by rw[be8_all]at ho' ⊢;rw[List.append_assoc]at ho';exact ho')
      obtain⟨aok,aV,aW⟩:=app_of hr
      clear hr ho' hk' hpl
      go_wp2_with fail
      exact⟨⟨7,rfl,by omega,OF.out,KF.out⟩,by simp[intOf]⟩
     ·obtain⟨v',w',hr,ho',hk'⟩:=nat_push O.out K.out.size (by simp;omega) (x % 256) ((x:Int) % 256) (by omega)
      have KF:=qh (K.out.step hk' (fun a ha z=>by omega))
      have OF:=qh (show OwnN w' w4.heap.size 5 .u8 v' (P++(be 8 x).take 8)from by rw[be8_all]at ho' ⊢;rw[List.append_assoc]at ho';exact ho')
      obtain⟨aok,aV,aW⟩:=app_of hr
      clear hr ho' hk' hpl
      go_wp2_with fail
      exact⟨⟨8,rfl,by omega,OF.out,KF.out⟩,by simp[intOf]⟩
    ·have h8:j=8:=by omega
     subst h8
     rw[List.take_of_length_le (by rw[be_length];exact Nat.le_refl _)]at O
     have O2:=qh (show OwnN wr w4.heap.size 5 .u8 _ (putSmall ring++putSmall size++putW (words.take (i+1)))from by rw[PT.out,←List.append_assoc,HP.out];exact O.out)
     clear hj hgj O
     go_wp2_with fail
     exact⟨⟨i+1,by go_num,by omega,O2.out,K.out⟩,by simp[intOf];omega⟩
  ·have hin:i=nw:=by omega
   rw[hin,List.take_of_length_le (by rw[HNW.out];exact Nat.le_refl _)]at O
   obtain⟨v',w',hr,ho',hgr, -⟩:=run_appendN (P:=Tryz.prog) wr 32 32 w4.heap.size 5 .u8 1 Tryz.underlying32 u8Info (by decide) _ _ O.out ba nb bc body HNB.out.symm (H.out.bs.same (K4.out.trans K.out)) H.out.bnil (by have:=HF.out;have:=HNW.out;have:=putSmall_len ring;have:=putSmall_len size;simp[putW_len];omega) K.out.size
   have KF:=qh (show Same w w' from K4.out.trans (K.out.grown hgr (fun k hk hlt=>by have:=(World.ownsRow.lt O.out k hk).1;omega)))
   have OF:=qh (show OwnN w' w.heap.size 5 .u8 v' (putR ⟨gen,slot,ring,size,words,body⟩)from OwnN.base ho' K4.out.size)
   obtain⟨aok,aV,aW⟩:=app_of hr
   have g1:¬(i:Int)<(nw:Int):=by omega
   have p0:=cell_blk (B4.out.kept K.out (fun h=>h))
   clear hr ho' hgr
   go_wp2_with fail
   go_ret
   exact⟨⟨_,rfl,OF.out⟩,KF.out⟩
end
end
section
open Go.RowKit Go.Sort Go.Shelf
def stC(d:Nat)(r:Rt)(wa:Option Addr)(wc:Nat)(ba:Option Addr)(bc:Nat)(ns:Nat)(na:Option Addr)(nl nc:Nat)(bad:Bool):Array Value:=
 #[.pointer (some ⟨d,0,none⟩),.int .i64 (r.gen:Nat),.int .i64 (r.slot:Nat),.int .i64 (r.ring:Nat),.int .i64 (r.size:Nat),.slice wa r.words.length wc,.slice ba r.body.length bc,.int .i64 (ns:Nat),.slice na nl nc,.bool bad]
def FS(p d bs m:Nat)(g:Nat):Prop:=g=p∨dod d bs m g
def Apt(a:Option Addr)(fp:Nat→Prop):Prop:=∀x,a=some x→¬fp x.block
def StoIn(w:World)(p d bs m:Nat)(S:Sto):Prop:=∃cap wa wc ba bc na nc,Blk w p (stC d S.r wa wc ba bc S.nsize na S.nwords.length nc S.bad) 78∧DiskIn w d bs cap m S.D∧RtAt w S.r wa wc ba bc∧NatsAt w .u64 na S.nwords∧S.nwords.length≤nc∧Words S.nwords∧S.nsize≤512∧S.nwords.length≤8∧Apt wa (FS p d bs m)∧Apt ba (FS p d bs m)∧Apt na (FS p d bs m)∧¬dod d bs m p
theorem StoIn.same{w w':World}{p d bs m:Nat}{S:Sto}(h:StoIn w p d bs m S)(k:Same w w'):StoIn w' p d bs m S:=by
 obtain⟨cap,wa,wc,ba,bc,na,nc,h1,h2,h3,h4,h5⟩:=h
 exact⟨cap,wa,wc,ba,bc,na,nc,h1.kept k (fun h=>h),h2.same k,h3.same k,h4.same k,h5⟩
theorem RtAt.kept{w w':World}{fp:Nat→Prop}{r:Rt}{wa ba:Option Addr}{wc bc:Nat}(h:RtAt w r wa wc ba bc)(k:Kept fp w w')(h1:Apt wa fp)(h2:Apt ba fp):RtAt w' r wa wc ba bc:=⟨h.ws.kept k h1,h.bs.kept k h2,h.wcap,h.bcap,h.bnil,h.w64,h.bts,h.few⟩
theorem Apt.mono{a:Option Addr}{fp fq:Nat→Prop}(h:Apt a fp)(hf:∀g,fq g→fp g):Apt a fq:=fun x hx q=>h x hx (hf _ q)
theorem st_alive{w:World}{p:Nat}{d:Nat}{r:Rt}{wa ba na:Option Addr}{wc bc ns nl nc:Nat}{bad:Bool}(h:Blk w p (stC d r wa wc ba bc ns na nl nc bad) 78):
 Calls Tryz.prog 39 #[.pointer (some ⟨p,0,none⟩)] w fun e w'=>e=.returned (.int .i64 ((if bad=true then 11 else 0:Nat):Int))∧w'=w:=by
 have p9:w.cell? ⟨p,9,none⟩=some (.bool bad):=cell_blk h 9
 clear h
 cases bad
 all_goals
  go_enter Tryz.func39,Tryz.ntmps39
  go_wp2_with fail
  go_ret
  exact⟨rfl,rfl⟩
theorem st_done{w:World}{p:Nat}{d:Nat}{r:Rt}{wa ba na:Option Addr}{wc bc ns nl nc:Nat}{bad:Bool}(h:Blk w p (stC d r wa wc ba bc ns na nl nc bad) 78)(e:Nat):
 Calls Tryz.prog 40 #[.pointer (some ⟨p,0,none⟩),.int .i64 (e:Nat)] w fun q w'=>q=.returned (.int .i64 (e:Nat))∧Blk w' p (stC d r wa wc ba bc ns na nl nc (bad||decide (e≠0))) 78∧Kept (fun g=>g=p) w w':=by
 have p9:w.cell? ⟨p,9,none⟩=some (.bool bad):=cell_blk h 9
 have f9:=fun i=>Blk.free h i
 have z9:=h.lt
 have FIN:=qh (fun(b:Bool) (hb:(bad||decide (e≠0))=b)=>show Blk (w.setCell ⟨p,9,none⟩ (.bool b)) p (stC d r wa wc ba bc ns na nl nc (bad||decide (e≠0))) 78∧Kept (fun g=>g=p) w (w.setCell ⟨p,9,none⟩ (.bool b))from⟨by rw[hb];exact h.set 9 _,(Kept.refl _ _).setG 9 _⟩)
 clear h
 obtain⟨R,hR⟩:∃R:World→Prop,(fun w'=>Blk w' p (stC d r wa wc ba bc ns na nl nc (bad||decide (e≠0))) 78∧Kept (fun g=>g=p) w w')=R:=⟨_,rfl⟩
 have HR:=qh hR
 show Calls Tryz.prog 40 #[.pointer (some ⟨p,0,none⟩),.int .i64 (e:Nat)] w fun q w'=>q=.returned (.int .i64 (e:Nat))∧(fun w'=>Blk w' p (stC d r wa wc ba bc ns na nl nc (bad||decide (e≠0))) 78∧Kept (fun g=>g=p) w w') w'
 rw[hR]
 clear hR
 cases bad with
 |true=>
  have F2:=qh (FIN.out true rfl)
  clear FIN
  go_enter Tryz.func40,Tryz.ntmps40
  go_wp2_with fail
  go_ret
  exact⟨rfl,by rw[←HR.out];exact F2.out⟩
 |false=>
  by_cases he:e=0
  ·subst he
   have F2:=qh (FIN.out false rfl)
   clear FIN
   go_enter Tryz.func40,Tryz.ntmps40
   go_wp2_with fail
   go_ret
   exact⟨rfl,by rw[←HR.out];exact F2.out⟩
  ·have F2:=qh (FIN.out true (by simp[he]))
   have g1:((e:Int) !=0)=true:=by simp;omega
   have g2:((e:Int)==0)=false:=by simp;omega
   clear FIN he
   go_enter Tryz.func40,Tryz.ntmps40
   go_wp2_with fail
   go_ret
   exact⟨rfl,by rw[←HR.out];exact F2.out⟩
end
section
open Go.RowKit Go.Sort Go.Shelf
theorem DiskIn.lt3{w:World}{d bs cap m:Nat}{D:Dsk}(h:DiskIn w d bs cap m D):∀g,dod d bs m g→g<w.heap.size:=by
 rintro g (rfl|rfl|rfl)
 ·exact h.box.lt
 ·exact h.safe.lt
 ·exact h.map.lt
theorem RowsOwn.at'{w:World}{base:Nat}{a:Option Addr}{n c:Nat}{bs:List (List Nat)}(h:RowsOwn w base (.slice a n c) bs):RowsAt w a bs:=by
 obtain⟨a',c',e,hr⟩:=h.rowsAt
 injection e with e
 subst e
 exact hr
theorem Blk.setRoot{w:World}{b:Nat}{v0 v1 v2 v3 v4 v5 v6 v7 v8 v9 u1 u2 u3 u4 u5 u6:Value}{t:TypeId}(h:Blk w b #[v0,v1,v2,v3,v4,v5,v6,v7,v8,v9] t):
 Blk ((((((w.setCell ⟨b,1,none⟩ u1).setCell ⟨b,2,none⟩ u2).setCell ⟨b,3,none⟩ u3).setCell ⟨b,4,none⟩ u4).setCell ⟨b,5,none⟩ u5).setCell ⟨b,6,none⟩ u6) b #[v0,u1,u2,u3,u4,u5,u6,v7,v8,v9] t:=by
 have h0:Blk _ b #[v0,u1,v2,v3,v4,v5,v6,v7,v8,v9] t:=h.set 1 u1
 have h1:Blk _ b #[v0,u1,u2,v3,v4,v5,v6,v7,v8,v9] t:=h0.set 2 u2
 have h2:Blk _ b #[v0,u1,u2,u3,v4,v5,v6,v7,v8,v9] t:=h1.set 3 u3
 have h3:Blk _ b #[v0,u1,u2,u3,u4,v5,v6,v7,v8,v9] t:=h2.set 4 u4
 have h4:Blk _ b #[v0,u1,u2,u3,u4,u5,v6,v7,v8,v9] t:=h3.set 5 u5
 have h5:Blk _ b #[v0,u1,u2,u3,u4,u5,u6,v7,v8,v9] t:=h4.set 6 u6
 exact h5
theorem Blk.setNow{w:World}{b:Nat}{v0 v1 v2 v3 v4 v5 v6 v7 v8 v9 u7 u8:Value}{t:TypeId}(h:Blk w b #[v0,v1,v2,v3,v4,v5,v6,v7,v8,v9] t):
 Blk ((w.setCell ⟨b,7,none⟩ u7).setCell ⟨b,8,none⟩ u8) b #[v0,v1,v2,v3,v4,v5,v6,u7,u8,v9] t:=by
 have h0:Blk _ b #[v0,v1,v2,v3,v4,v5,v6,u7,v8,v9] t:=h.set 7 u7
 have h1:Blk _ b #[v0,v1,v2,v3,v4,v5,v6,u7,u8,v9] t:=h0.set 8 u8
 exact h1
theorem putSmall_bts(n:Nat):Bts (putSmall n):=by
 intro x hx
 unfold putSmall at hx
 rcases List.mem_cons.1 hx with rfl|hx
 ·have:=wid_le n;omega
 ·exact be_byte _ _ x hx
theorem putW_bts(ws:List Nat):Bts (putW ws):=by
 intro x hx
 unfold putW at hx
 obtain⟨y,_,hx⟩:=List.mem_flatMap.1 hx
 exact be_byte _ _ x hx
theorem putR_bts{r:Rt}(h:Bts r.body):Bts (putR r):=(((putSmall_bts _).app (putSmall_bts _)).app (putW_bts _)).app h
theorem st_write{w:World}{p d bs m:Nat}{S:Sto}(h:StoIn w p d bs m S)(r:Rt)(wa:Option Addr)(wc:Nat)(ba:Option Addr)(bc:Nat)(hr:RtAt w r wa wc ba bc)(h1:Apt wa (FS p d bs m))(h2:Apt ba (FS p d bs m)):
 Calls Tryz.prog 35 #[.pointer (some ⟨p,0,none⟩),.agg (rtC r wa wc ba bc)] w fun e w'=>e=.returned (.int .i64 (((S.write r).2:Nat):Int))∧StoIn w' p d bs m (S.write r).1∧Kept (FS p d bs m) w w':=by
 obtain⟨cap,wa0,wc0,ba0,bc0,na0,nc0,g1,g2,g3,g4,g5,g6,g7,g8,g9,g10,g11,g12⟩:=h
 have HR:=qh hr
 have GB:=qh g1;have GD:=qh g2;have G3:=qh g3;have G4:=qh g4
 have GP:=qh (show¬dod d bs m p from g12)
 have FL:=qh (show∀g,FS p d bs m g→g<w.heap.size from fun g hg=>hg.elim (fun q=>q▸g1.lt) (fun q=>g2.lt3 g q))
 have HA:=qh (show Apt wa (FS p d bs m)∧Apt ba (FS p d bs m)from⟨h1,h2⟩)
 have MK:=qh (fun W (D':Dsk) (bad:Bool) (hb:Blk W p (stC d S.r wa0 wc0 ba0 bc0 S.nsize na0 S.nwords.length nc0 bad) 78) (hd:∃c',DiskIn W d bs c' m D') (k:Kept (FS p d bs m) w W)=>show StoIn W p d bs m {S with D:=D',bad:=bad}from by
  obtain⟨c',hd⟩:=hd
  exact⟨c',wa0,wc0,ba0,bc0,na0,nc0,hb,hd,g3.kept k g9 g10,g4.kept k g11,g5,g6,g7,g8,g9,g10,g11,g12⟩)
 have PU:=qh (fun w' (k:Same w w')=>show Calls Tryz.prog 75 #[.agg #[.int .i64 (r.gen:Nat),.int .i64 (r.slot:Nat),.int .i64 (r.ring:Nat),.int .i64 (r.size:Nat),.slice wa r.words.length wc,.slice ba r.body.length bc]] w' fun e w''=>(∃v,e=.returned v∧OwnN w'' w'.heap.size 5 .u8 v (putR r))∧Same w' w'' from st_put r wa wc ba bc w' (hr.same k))
 have BT:=qh (putR_bts hr.bts)
 have FEW:=qh hr.few
 obtain⟨B,hB⟩:∃B,putR r=B:=⟨_,rfl⟩
 rw[hB]at PU BT
 have HB:=qh hB
 obtain⟨Q,hQ⟩:∃Q,S.write r=Q:=⟨_,rfl⟩
 rw[hQ]
 have HQ:=qh hQ
 clear hr g1 g2 g3 g4 g5 g6 g7 g8 g9 g10 g11 g12 h1 h2 hB hQ
 go_enter Tryz.func35,Tryz.ntmps35
 go_upto_region 1 with fail
 obtain⟨y,hy⟩:∃y,w.heap.size=y:=⟨_,rfl⟩
 rw[hy]
 refine cutWl (fun wn=>Blk wn y (rtC r wa wc ba bc) 76∧Same w wn) ⟨Blk.new' _ _ _ hy.symm,(Kept.refl _ _).alloc _⟩ ?_
 rintro w4 ⟨hb4,k4⟩
 have B4:=qh hb4
 have K4:=qh k4
 have HY:=qh hy
 have Y4:=qh hb4.lt
 clear hb4 k4 hy
 have QX:=qh (show∀w',Same w4 w'→(∀i,w'.cell? ⟨y,i,none⟩=(#[.int .i64 (r.gen:Nat),.int .i64 (r.slot:Nat),.int .i64 (r.ring:Nat),.int .i64 (r.size:Nat),.slice wa r.words.length wc,.slice ba r.body.length bc]:Array Value)[i]?)from fun w' k=>cell_blk (B4.out.kept k (fun h=>h)))
 go_wp2_with fail
 refine wp_region_T (S:=fun w'=>Same w4 w') 9 (by kernel_rfl) (Kept.refl _ _).drew (fun hHeld hDn=>?_)
 refine wpT_z 0 12 QX hHeld hDn fun hDn=>?_
 refine wpT_z 1 13 QX hHeld hDn fun hDn=>?_
 refine wpT_z 2 14 QX hHeld hDn fun hDn=>?_
 refine wpT_one (i:=3) rfl (by kernel_rfl) hDn (fun K' hK=>?_)
 go_simp
 with_reducible refine(PU.out _ (K4.out.drew)).mono ?_
 rintro e w5 ⟨⟨v5,rfl,o5⟩,k5⟩
 have K5:=qh (show Same w4 w5 from((Kept.refl _ _).drew).trans k5)
 obtain⟨g5,c5,rfl,hg5,hg5l,hc5,hn5⟩:=o5.begins (by rw[←HB.out];unfold putR putSmall;simp)
 obtain⟨nB,hnB⟩:∃nB,B.length=nB:=⟨_,rfl⟩
 have SPU:=qh (fun w' (k:Same w5 w')=>sn_put (r.gen:Int) (some ⟨g5,0,none⟩) B.length c5 B rfl BT.out w' (hn5.same k))
 unfold SputPost at SPU
 rw[hnB]at SPU ⊢
 have HNB:=qh hnB
 refine hK.out _ _ K5.out (fun hHeld2 hDn2=>?_)
 clear hK K' hHeld hDn o5 k5 hnB hn5
 have hHeld:=hHeld2;have hDn:=hDn2
 clear hHeld2 hDn2
 obtain⟨er,her⟩:∃er,putSlE (r.gen:Int) nB=er:=⟨_,rfl⟩
 rw[her]at SPU
 have HER:=qh her
 clear her
 refine wpT_one (i:=4) rfl (by kernel_rfl) hDn (fun K' hK=>?_)
 go_simp
 with_reducible refine(SPU.out _ (Kept.refl _ _)).mono ?_
 rintro e w6 ⟨⟨v6,rfl,o6⟩,k6⟩
 have K6:=qh (K5.out.trans k6)
 have O6:=qh o6
 refine hK.out _ _ K6.out (fun hHeld2 hDn2=>?_)
 clear hK K' hHeld hDn o6 k6
 have hHeld:=hHeld2;have hDn:=hDn2
 clear hHeld2 hDn2
 refine wpT_z 5 11 QX hHeld hDn fun hDn=>?_
 refine wpT_z 6 17 QX hHeld hDn fun hDn=>?_
 refine wpT_z 7 18 QX hHeld hDn fun hDn=>?_
 refine wpT_z 8 5 QX hHeld hDn fun hDn=>?_
 refine wpT_last rfl (by kernel_rfl) hDn (fun K hK=>?_)
 go_simp
 refine hK.out _ _ (fun hDn'=>?_)
 clear hK K hDn hHeld;have hDn:=hDn';clear hDn'
 refine wpT_done (by kernel_rfl) ?_ _
 clear hDn QX SPU PU
 by_cases he:er=0
 ·subst he
  rw[if_pos rfl]at O6
  rw[Int.toNat_natCast]at O6
  obtain⟨a7,c7,rfl, -⟩:=O6.out.rowsAt
  rw[putSl_len]at O6 ⊢
  simp only[Int.natCast_zero]
  have K46:=qh (K4.out.trans K6.out)
  have F6:=qh (show∀j,w5.heap.size≤j→¬FS p d bs m j from fun j hj q=>by have h1:=FL.out j q;have:=K5.out.size;have:=K4.out.size;omega)
  have G6:=qh (GB.out.kept K46.out (fun h=>h))
  have D6:=qh (GD.out.same K46.out)
  have Y6:=qh (B4.out.kept K6.out (fun h=>h))
  have FY:=qh (show¬FS p d bs m y from fun q=>by have:=FL.out y q;have:=HY.out;omega)
  obtain⟨R,hR⟩:∃R,putSl r.gen B=R:=⟨_,rfl⟩
  have HRR:=qh hR
  have RL:=qh (show R.length=4 from by rw[←hR];exact putSl_len _ _)
  have RB:=qh (show∀b∈R,Bts b from by
   rw[←hR]
   refine putSl_bts ?_ BT.out
   rw[HNB.out]
   have h1:=HER.out
   unfold putSlE at h1
   split at h1
   ·cases h1
   ·split at h1
    ·cases h1
    ·omega)
  rw[hR]at O6
  have hsl:r.slot≤1:=FEW.out.2.1
  clear hR GB GD B4 K4 K6
  go_wp2_with fail
  go_loopw [24] (fun t wr=>∃(i:Nat) (D':Dsk),t=.int .i64 i∧i≤4∧DiskIn wr d bs cap m D'∧Blk wr p (stC d S.r wa0 wc0 ba0 bc0 S.nsize na0 S.nwords.length nc0 S.bad) 78∧wrAll S.D (r.slot*4) R=wrAll D' (r.slot*4+i) (R.drop i)∧Kept (FS p d bs m) w6 wr) (fun t _=>4 - (intOf t).toNat)
  case atStart=>exact⟨0,S.D,rfl,by omega,D6.out,G6.out,rfl,Kept.refl _ _⟩
  case round=>
   obtain⟨i,D',rfl,hi,hd,hb,hw,hk⟩:=hrel
   have K:=qh hk;have GD:=qh hd;have GB:=qh hb;have HW:=qh hw
   have YR:=qh (Y6.out.kept hk FY.out)
   have OR:=qh (O6.out.kept hk F6.out)
   clear hk hd hb hw
   by_cases hgo:i<4
   ·have hil:i<R.length:=by rw[RL.out];exact hgo
    have hra:=OR.out.at'
    obtain⟨bk,off,xa,xn,xc,rfl, -,hxn,hxc,hcc⟩:=rows_at hra hil
    obtain⟨c0, -⟩:=hcc wr (Kept.refl _ _)
    have HX:=qh (fun w' (k:Same wr w')=>(hcc w' k).2)
    have HC:=qh (fun w' (k:Same wr w')=>(hcc w' k).1)
    have HWS:=qh (show wrAll S.D (r.slot*4) R=if(writeD D' ((r.slot:Int)*4+(i:Int)) R[i]).2=0 then wrAll (writeD D' ((r.slot:Int)*4+(i:Int)) R[i]).1 (r.slot*4+(i+1)) (R.drop (i+1))else writeD D' ((r.slot:Int)*4+(i:Int)) R[i]from by
     rw[HW.out,List.drop_eq_getElem_cons hil]
     show(if(writeD D' ((r.slot*4+i:Nat):Int) R[i]).2=0 then _ else _)=_
     rw[show((r.slot*4+i:Nat):Int)=(r.slot:Int)*4+(i:Int)from by omega]
     rfl)
    have XB:=qh (RB.out R[i] (List.getElem_mem _))
    generalize R[i]=X at HX hxn XB HWS
    have WR:=qh (fun w' (k:Same wr w')=>sd_write (GD.out.same k) ((r.slot:Int)*4+(i:Int)) xa xn xc X hxn XB.out (HX.out w' k))
    obtain⟨q,hq⟩:∃q,writeD D' ((r.slot:Int)*4+(i:Int)) X=q:=⟨_,rfl⟩
    rw[hq]at WR HWS
    obtain⟨D2,er⟩:=q
    dsimp only at WR HWS
    have QX:=qh (show∀w',Same wr w'→(∀i,w'.cell? ⟨y,i,none⟩=(#[.int .i64 (r.gen:Nat),.int .i64 (r.slot:Nat),.int .i64 (r.ring:Nat),.int .i64 (r.size:Nat),.slice wa r.words.length wc,.slice ba r.body.length bc]:Array Value)[i]?)∧w'.cell? ⟨p,0,none⟩=some (.pointer (some ⟨d,0,none⟩))∧True∧True from fun w' k=>⟨cell_blk (YR.out.kept k (fun h=>h)),cell_blk (GB.out.kept k (fun h=>h)) 0,trivial,trivial⟩)
    have g1:(i:Int)<4:=by omega
    have g0:(0:Int)≤(i:Int):=by omega
    have gw1:IntKind.i64.wrap ((r.slot:Int)*4)=(r.slot:Int)*4:=by rw[IntKind.wrap_i64];omega
    have gw2:IntKind.i64.wrap ((r.slot:Int)*4+(i:Int))=(r.slot:Int)*4+(i:Int):=by rw[IntKind.wrap_i64];omega
    clear hcc hra hxc hxn hq
    go_wp2_with fail
    refine wp_region_T (S:=fun w'=>Same wr w') 11 (by kernel_rfl) (Kept.refl _ _).drew (fun hHeld hDn=>?_)
    refine wpT_zw 0 29 hHeld hDn fun hDn=>?_
    refine wpT_z 1 30 QX hHeld hDn fun hDn=>?_
    refine wpT_z 2 31 QX hHeld hDn fun hDn=>?_
    refine wpT_z 3 32 QX hHeld hDn fun hDn=>?_
    refine wpT_z 4 33 QX hHeld hDn fun hDn=>?_
    refine wpT_z 5 34 QX hHeld hDn fun hDn=>?_
    refine wpT_z 6 35 QX hHeld hDn fun hDn=>?_
    refine wpT_z 7 36 QX hHeld hDn fun hDn=>?_
    refine wpT_z 8 37 QX hHeld hDn fun hDn=>?_
    refine wpT_z 9 38 QX hHeld hDn fun hDn=>?_
    refine wpT_z 10 39 QX hHeld hDn fun hDn=>?_
    refine wpT_last rfl (by kernel_rfl) hDn (fun K' hK=>?_)
    go_simp
    with_reducible refine(WR.out _ (Kept.refl _ _).drew).mono ?_
    rintro e w8 ⟨rfl,hd8,k8⟩
    refine hK.out _ _ (fun hDn2=>?_)
    clear hK K' hHeld hDn QX WR
    have hDn:=hDn2
    clear hDn2
    have K8:=qh (show Kept (FS p d bs m) wr w8 from((Kept.refl _ _).drew).trans (k8.mono (fun _ _ q=>.inr q)))
    have GB8:=qh (GB.out.kept (((Kept.refl _ wr).drew).trans k8) GP.out)
    have D8:=qh hd8
    clear k8 hd8
    have DO:=qh (st_done GB8.out er)
    refine wpT_oneE (i:=12) rfl (by kernel_rfl) rfl (by kernel_rfl) hDn (fun K' hK=>?_)
    go_simp
    with_reducible refine DO.out.mono ?_
    rintro e w9 ⟨rfl,hb9,k9⟩
    refine hK.out _ _ (fun hDn2=>?_)
    clear hK K' hDn DO
    have hDn:=hDn2
    clear hDn2
    have K9:=qh (K8.out.trans (k9.mono (fun _ _ q=>.inl q)))
    have B9:=qh hb9
    have D9:=qh (D8.out.kept k9 (fun q=>GP.out (.inl q.symm)) (fun q=>GP.out (.inr (.inl q.symm))) (fun q=>GP.out (.inr (.inr q.symm))))
    clear k9 hb9 D8 GB8
    refine wpT_ze 13 9 hDn fun hDn=>?_
    refine wpT_done (by kernel_rfl) ?_ _
    clear hDn gw1 gw2
    by_cases he:er=0
    ·subst he
     rw[if_pos rfl]at HWS
     have B9b:=qh (show Blk w9 p (stC d S.r wa0 wc0 ba0 bc0 S.nsize na0 S.nwords.length nc0 S.bad) 78 from by have:=B9.out;simpa using this)
     go_wp2_with fail
     refine⟨⟨i+1,D2,by go_num,by omega,D9.out,B9b.out,HWS.out,K.out.trans K9.out⟩,by simp[intOf];omega⟩
    ·rw[if_neg he]at HWS
     have g3:((er:Int) !=0)=true:=by simp;omega
     have g4:((er:Int)==0)=false:=by simp;omega
     have FIN:=qh (show Q.2=er∧Q.1={S with D:=D2,bad:=S.bad||decide (er≠0)}from by
      rw[←HQ.out]
      unfold Sto.write
      rw[HB.out,HNB.out,HER.out,HRR.out,HWS.out]
      simp[he,Sto.did])
     have KK:=qh ((K46.out.mono (fun _ _ q=>q.elim)).trans (K.out.trans K9.out))
     have SI:=qh (MK.out w9 D2 _ B9.out ⟨cap,D9.out⟩ KK.out)
     clear he
     go_wp2_with fail
     go_ret
     exact⟨by rw[FIN.out.1];rfl,by rw[FIN.out.2];exact SI.out,KK.out⟩
   ·have h4:i=4:=by omega
    subst h4
    have HWZ:=qh (show wrAll S.D (r.slot*4) R=(D',0)from by rw[HW.out,List.drop_of_length_le (by rw[RL.out];exact Nat.le_refl _)];rfl)
    have SY:=qh (sd_sync GD.out)
    obtain⟨q,hq⟩:∃q,syncD D'=q:=⟨_,rfl⟩
    rw[hq]at SY
    have HSY:=qh hq
    obtain⟨D2,er⟩:=q
    dsimp only at SY
    have p0:wr.cell? ⟨p,0,none⟩=some (.pointer (some ⟨d,0,none⟩)):=cell_blk GB.out 0
    clear hq hi hgo HW
    go_wp2_with fail
    with_reducible refine SY.out.mono ?_
    rintro e w8 ⟨rfl,hd8,k8⟩
    have GB8:=qh (GB.out.kept k8 GP.out)
    have D8:=qh hd8
    have Y8:=qh (YR.out.kept (k8.mono (fp':=FS p d bs m) (fun _ _ q=>.inr q)) FY.out)
    have K8:=qh (k8.mono (fp':=FS p d bs m) (fun _ _ q=>.inr q))
    clear k8 hd8 SY p0
    have DO:=qh (st_done GB8.out er)
    go_wp2_with fail
    with_reducible refine DO.out.mono ?_
    rintro e w9 ⟨rfl,hb9,k9⟩
    have K9:=qh (K8.out.trans (k9.mono (fun _ _ q=>.inl q)))
    have B9:=qh hb9
    have D9:=qh (D8.out.kept k9 (fun q=>GP.out (.inl q.symm)) (fun q=>GP.out (.inr (.inl q.symm))) (fun q=>GP.out (.inr (.inr q.symm))))
    have Y9:=qh (Y8.out.kept k9 (fun q=>FY.out (.inl q)))
    clear k9 hb9 D8 GB8 DO Y8 K8
    by_cases he:er=0
    ·subst he
     have B9b:=qh (show Blk w9 p (stC d S.r wa0 wc0 ba0 bc0 S.nsize na0 S.nwords.length nc0 S.bad) 78 from by have:=B9.out;simpa using this)
     have FIN:=qh (show Q.2=0∧Q.1={D:=D2,r:=r,nsize:=r.size,nwords:=r.words,bad:=S.bad}from by
      rw[←HQ.out]
      unfold Sto.write
      rw[HB.out,HNB.out,HER.out,HRR.out,HWZ.out,HSY.out]
      simp)
     have QX:=qh (show∀w',Kept (fun g=>g=p) w9 w'→(∀i,w'.cell? ⟨y,i,none⟩=(#[.int .i64 (r.gen:Nat),.int .i64 (r.slot:Nat),.int .i64 (r.ring:Nat),.int .i64 (r.size:Nat),.slice wa r.words.length wc,.slice ba r.body.length bc]:Array Value)[i]?)from fun w' k=>cell_blk (Y9.out.kept k (fun q=>FY.out (.inl q))))
     go_wp2_with fail
     refine wp_region_T (S:=fun w'=>Kept (fun g=>g=p) w9 w') 10 (by kernel_rfl) (Kept.refl _ _).drew (fun hHeld hDn=>?_)
     refine wpT_z 0 56 QX hHeld hDn fun hDn=>?_
     refine wpT_z 1 57 QX hHeld hDn fun hDn=>?_
     refine wpT_z 2 58 QX hHeld hDn fun hDn=>?_
     refine wpT_z 3 59 QX hHeld hDn fun hDn=>?_
     refine wpT_z 4 60 QX hHeld hDn fun hDn=>?_
     refine wpT_z 5 61 QX hHeld hDn fun hDn=>?_
     refine wpT_z 6 62 QX hHeld hDn fun hDn=>?_
     have p9:=cell_blk B9b.out
     have f9:=fun i=>Blk.free B9b.out i
     have z9:=B9b.out.lt
     unfold stC at p9
     refine wpT_one (i:=7) rfl (by kernel_rfl) hDn (fun K' hK=>?_)
     go_simp
     have kp:Kept (fun g=>g=p) w9 (((((((w9.setCell ⟨p,1,none⟩ (.int .i64 (r.gen:Nat))).setCell ⟨p,2,none⟩ (.int .i64 (r.slot:Nat))).setCell ⟨p,3,none⟩ (.int .i64 (r.ring:Nat))).setCell ⟨p,4,none⟩ (.int .i64 (r.size:Nat))).setCell ⟨p,5,none⟩ (.slice wa r.words.length wc)).setCell ⟨p,6,none⟩ (.slice ba r.body.length bc)).drew):=by
      refine Kept.drew ?_
      have K0:=Kept.refl (fun g=>g=p) w9
      repeat(first|with_reducible exact K0|refine Kept.setG ?_ _ _)
     refine hK.out _ _ kp (fun hHeld2 hDn2=>?_)
     clear hK K' hHeld hDn
     have hHeld:=hHeld2;have hDn:=hDn2
     clear hHeld2 hDn2
     refine cutT (fun wn=>Kept (fun g=>g=p) w9 wn∧Blk wn p #[.pointer (some ⟨d,0,none⟩),.int .i64 (r.gen:Nat),.int .i64 (r.slot:Nat),.int .i64 (r.ring:Nat),.int .i64 (r.size:Nat),.slice wa r.words.length wc,.slice ba r.body.length bc,.int .i64 (S.nsize:Nat),.slice na0 S.nwords.length nc0,.bool S.bad] 78) ⟨kp,by
      have hB:=B9b.out
      unfold stC at hB
      have hb:=Blk.setRoot (u1:=.int .i64 (r.gen:Nat)) (u2:=.int .i64 (r.slot:Nat)) (u3:=.int .i64 (r.ring:Nat)) (u4:=.int .i64 (r.size:Nat)) (u5:=.slice wa r.words.length wc) (u6:=.slice ba r.body.length bc) hB
      exact hb.drew⟩ ?_
     rintro w10 ⟨kx,bx⟩
     have KX:=qh kx;have BX:=qh bx
     have hHeld:Kept (fun g=>g=p) w9 w10:=kx
     clear kx bx kp p9 f9 z9 B9b
     refine wpT_z 8 63 QX hHeld hDn fun hDn=>?_
     refine wpT_z 9 64 QX hHeld hDn fun hDn=>?_
     have p9:=cell_blk BX.out
     have f9:=fun i=>Blk.free BX.out i
     have z9:=BX.out.lt
     refine wpT_last rfl (by kernel_rfl) hDn (fun K hK=>?_)
     go_simp
     refine hK.out _ _ (fun hDn'=>?_)
     clear hK K hDn hHeld;have hDn:=hDn';clear hDn'
     refine wpT_done (by kernel_rfl) ?_ _
     clear hDn QX
     have kq:Kept (fun g=>g=p) w10 ((w10.setCell ⟨p,7,none⟩ (.int .i64 (r.size:Nat))).setCell ⟨p,8,none⟩ (.slice wa r.words.length wc)):=((Kept.refl _ _).setG _ _).setG _ _
     have BF:=qh (show Blk ((w10.setCell ⟨p,7,none⟩ (.int .i64 (r.size:Nat))).setCell ⟨p,8,none⟩ (.slice wa r.words.length wc)) p (stC d r wa wc ba bc r.size wa r.words.length wc S.bad) 78 from Blk.setNow BX.out)
     have KP:=qh (KX.out.trans kq)
     have KK:=qh ((K46.out.mono (fp':=FS p d bs m) (fun _ _ q=>q.elim)).trans (K.out.trans (K9.out.trans (KP.out.mono (fun _ _ q=>.inl q)))))
     have DF:=qh (D9.out.kept KP.out (fun q=>GP.out (.inl q.symm)) (fun q=>GP.out (.inr (.inl q.symm))) (fun q=>GP.out (.inr (.inr q.symm))))
     have SI:=qh (show StoIn ((w10.setCell ⟨p,7,none⟩ (.int .i64 (r.size:Nat))).setCell ⟨p,8,none⟩ (.slice wa r.words.length wc)) p d bs m {D:=D2,r:=r,nsize:=r.size,nwords:=r.words,bad:=S.bad}from
      ⟨cap,wa,wc,ba,bc,wa,wc,BF.out,DF.out,HR.out.kept KK.out HA.out.1 HA.out.2,HR.out.ws.kept KK.out HA.out.1,HR.out.wcap,HR.out.w64,FEW.out.2.2.2.1,FEW.out.2.2.2.2.1,HA.out.1,HA.out.2,HA.out.1,GP.out⟩)
     clear kq
     go_wp2_with fail
     go_ret
     exact⟨by rw[FIN.out.1];rfl,by rw[FIN.out.2];exact SI.out,KK.out⟩
    ·have g3:((er:Int) !=0)=true:=by simp;omega
     have g4:((er:Int)==0)=false:=by simp;omega
     have FIN:=qh (show Q.2=er∧Q.1={S with D:=D2,bad:=S.bad||decide (er≠0)}from by
      rw[←HQ.out]
      unfold Sto.write
      rw[HB.out,HNB.out,HER.out,HRR.out,HWZ.out,HSY.out]
      simp[he,Sto.did])
     have KK:=qh ((K46.out.mono (fun _ _ q=>q.elim)).trans (K.out.trans K9.out))
     have SI:=qh (MK.out w9 D2 _ B9.out ⟨cap,D9.out⟩ KK.out)
     clear he
     go_wp2_with fail
     go_ret
     exact⟨by rw[FIN.out.1];rfl,by rw[FIN.out.2];exact SI.out,KK.out⟩
 ·have FIN:=qh (show Q.2=er∧Q.1=S from by
   rw[←HQ.out]
   unfold Sto.write
   rw[HB.out,HNB.out,HER.out,if_pos he]
   exact⟨rfl,rfl⟩)
  have g1:((er:Int) !=0)=true:=by simp;omega
  have g2:((er:Int)==0)=false:=by simp;omega
  have SI:=qh (MK.out w6 S.D S.bad (GB.out.kept (K4.out.trans K6.out) (fun h=>h)) ⟨cap,GD.out.same (K4.out.trans K6.out)⟩ ((K4.out.trans K6.out).mono (fun _ _ q=>q.elim)))
  clear he
  go_wp2_with fail
  go_ret
  exact⟨by rw[FIN.out.1];rfl,by rw[FIN.out.2];exact SI.out,(K4.out.trans K6.out).mono (fun _ _ q=>q.elim)⟩
end
section
open Go.RowKit Go.Sort Go.Shelf
def Sto.hasE(S:Sto)(n:Int):Nat:=if S.bad=true then 11 else if hasM (S.nsize:Nat) S.nwords n=true then 0 else 6
def Sto.forget(S:Sto):Sto×Nat:=if S.bad=true then(S,11)else({S with nsize:=S.r.size,nwords:=S.r.words},0)
theorem st_has{w:World}{p d bs m:Nat}{S:Sto}(h:StoIn w p d bs m S)(n:Int):
 Calls Tryz.prog 42 #[.pointer (some ⟨p,0,none⟩),.int .i64 n] w fun e w'=>e=.returned (.int .i64 ((S.hasE n:Nat):Int))∧Same w w':=by
 obtain⟨cap,wa,wc,ba,bc,na,nc,h1,h2,h3,h4,h5,h6, -⟩:=h
 have AL:=qh (st_alive h1)
 have HS:=qh (bm_has (S.nsize:Nat) na nc S.nwords n w h6 h4)
 have p7:w.cell? ⟨p,7,none⟩=some (.int .i64 (S.nsize:Nat)):=cell_blk h1 7
 have p8:w.cell? ⟨p,8,none⟩=some (.slice na S.nwords.length nc):=cell_blk h1 8
 obtain⟨N,hN⟩:∃N,S.hasE n=N:=⟨_,rfl⟩
 have HN:=qh hN
 rw[hN]
 unfold Sto.hasE at HN
 unfold mapV at HS
 generalize S.bad=bad at AL HN
 generalize hasM (S.nsize:Nat) S.nwords n=hm at HS HN
 clear h1 h2 h3 h4 h5 h6 hN
 cases bad with
 |true=>
  have HN2:N=11:=by rw[←HN.out];rfl
  subst HN2
  clear HN
  go_enter Tryz.func42,Tryz.ntmps42
  go_wp2_with fail
  with_reducible refine AL.out.mono ?_
  rintro e w1 ⟨rfl,rfl⟩
  clear AL
  go_wp2_with fail
  go_ret
  exact⟨rfl,Kept.refl _ _⟩
 |false=>
  cases hm with
  |true=>
   have HN2:N=0:=by rw[←HN.out];rfl
   subst HN2
   clear HN
   go_enter Tryz.func42,Tryz.ntmps42
   go_wp2_with fail
   with_reducible refine AL.out.mono ?_
   rintro e w1 ⟨rfl,rfl⟩
   clear AL
   go_wp2_with fail
   with_reducible refine HS.out.mono ?_
   rintro e w2 ⟨rfl,k2⟩
   have K2:=qh k2
   clear k2 HS
   go_wp2_with fail
   go_ret
   exact⟨rfl,K2.out⟩
  |false=>
   have HN2:N=6:=by rw[←HN.out];rfl
   subst HN2
   clear HN
   go_enter Tryz.func42,Tryz.ntmps42
   go_wp2_with fail
   with_reducible refine AL.out.mono ?_
   rintro e w1 ⟨rfl,rfl⟩
   clear AL
   go_wp2_with fail
   with_reducible refine HS.out.mono ?_
   rintro e w2 ⟨rfl,k2⟩
   have K2:=qh k2
   clear k2 HS
   go_wp2_with fail
   go_ret
   exact⟨rfl,K2.out⟩
theorem st_Gen{w:World}{p d bs m:Nat}{S:Sto}(h:StoIn w p d bs m S):
 Calls Tryz.prog 31 #[.pointer (some ⟨p,0,none⟩)] w fun e w'=>e=.returned (.int .i64 ((S.r.gen:Nat):Int))∧w'=w:=by
 obtain⟨cap,wa,wc,ba,bc,na,nc,h1, -⟩:=h
 have p1:w.cell? ⟨p,1,none⟩=some (.int .i64 (S.r.gen:Nat)):=cell_blk h1 1
 clear h1
 go_enter Tryz.func31,Tryz.ntmps31
 go_wp2_with fail
 go_ret
 exact⟨rfl,rfl⟩
theorem st_Bad{w:World}{p d bs m:Nat}{S:Sto}(h:StoIn w p d bs m S):
 Calls Tryz.prog 61 #[.pointer (some ⟨p,0,none⟩)] w fun e w'=>e=.returned (.bool S.bad)∧w'=w:=by
 obtain⟨cap,wa,wc,ba,bc,na,nc,h1, -⟩:=h
 have p9:w.cell? ⟨p,9,none⟩=some (.bool S.bad):=cell_blk h1 9
 clear h1
 go_enter Tryz.func61,Tryz.ntmps61
 go_wp2_with fail
 go_ret
 exact⟨rfl,rfl⟩
theorem st_Forget{w:World}{p d bs m:Nat}{S:Sto}(h:StoIn w p d bs m S):
 Calls Tryz.prog 14 #[.pointer (some ⟨p,0,none⟩)] w fun e w'=>e=.returned (.int .i64 ((S.forget.2:Nat):Int))∧StoIn w' p d bs m S.forget.1∧Kept (fun g=>g=p) w w':=by
 have H:=qh h
 obtain⟨cap,wa,wc,ba,bc,na,nc,h1,h2,h3,h4,h5,h6,h7,h8,h9,h10,h11,h12⟩:=h
 have AL:=qh (st_alive h1)
 have pc:=cell_blk h1
 unfold stC at pc
 have zp:=h1.lt
 have fp:=fun i=>h1.free i
 have FIN:=qh (fun W (hb:Blk W p (stC d S.r wa wc ba bc S.r.size wa S.r.words.length wc S.bad) 78) (k:Kept (fun g=>g=p) w W)=>show StoIn W p d bs m {S with nsize:=S.r.size,nwords:=S.r.words}∧Kept (fun g=>g=p) w W from
  ⟨⟨cap,wa,wc,ba,bc,wa,wc,hb,h2.kept k (fun e:d=p=>h12 (.inl e.symm)) (fun e:bs=p=>h12 (.inr (.inl e.symm))) (fun e:m=p=>h12 (.inr (.inr e.symm))),h3.kept k (h9.mono (fun g e=>.inl e)) (h10.mono (fun g e=>.inl e)),h3.ws.kept k (h9.mono (fun g e=>.inl e)),h3.wcap,h3.w64,h3.few.2.2.2.1,h3.few.2.2.2.2.1,h9,h10,h9,h12⟩,k⟩)
 have B:=qh h1
 clear h1 h2 h3 h4 h5 h6 h7 h8 h9 h10 h11 h12
 by_cases hb:S.bad=true
 ·have e:S.forget=(S,11):=by unfold Sto.forget;rw[if_pos hb]
  rw[e]
  rw[hb,if_pos rfl]at AL
  clear pc zp fp FIN B e
  obtain⟨R,hR⟩:∃R:World→Prop,(fun w'=>StoIn w' p d bs m S∧Kept (fun g=>g=p) w w')=R:=⟨_,rfl⟩
  have HR:=qh hR
  show Calls Tryz.prog 14 #[.pointer (some ⟨p,0,none⟩)] w fun e w'=>e=.returned (.int .i64 11)∧(fun w'=>StoIn w' p d bs m S∧Kept (fun g=>g=p) w w') w'
  rw[hR]
  clear hR
  go_enter Tryz.func14,Tryz.ntmps14
  go_wp2_with fail
  with_reducible refine AL.out.mono ?_
  rintro e w1 ⟨rfl,rfl⟩
  clear AL
  go_wp2_with fail
  go_ret
  exact⟨rfl,by rw[←HR.out];exact⟨H.out,Kept.refl _ _⟩⟩
 ·have e:S.forget=({S with nsize:=S.r.size,nwords:=S.r.words},0):=by unfold Sto.forget;rw[if_neg hb]
  rw[e]
  rw[if_neg hb]at AL
  obtain⟨R,hR⟩:∃R:World→Prop,(fun w'=>StoIn w' p d bs m {S with nsize:=S.r.size,nwords:=S.r.words}∧Kept (fun g=>g=p) w w')=R:=⟨_,rfl⟩
  have HR:=qh hR
  show Calls Tryz.prog 14 #[.pointer (some ⟨p,0,none⟩)] w fun e w'=>e=.returned (.int .i64 0)∧(fun w'=>StoIn w' p d bs m {S with nsize:=S.r.size,nwords:=S.r.words}∧Kept (fun g=>g=p) w w') w'
  rw[hR]
  clear hR e
  unfold stC at B
  go_enter Tryz.func14,Tryz.ntmps14
  go_wp2_with fail
  with_reducible refine AL.out.mono ?_
  rintro e w1 ⟨rfl,rfl⟩
  clear AL
  go_wp2_with fail
  go_ret
  refine⟨rfl,by rw[←HR.out];exact FIN.out _ (by unfold stC;with_reducible exact Blk.setNow B.out) (by with_reducible exact((Kept.refl _ _).setG 7 _).setG 8 _)⟩
end
section
open Go.RowKit Go.Sort Go.Shelf
theorem st_area{w:World}{p d bs m:Nat}{S:Sto}(h:StoIn w p d bs m S):
 Calls Tryz.prog 45 #[.pointer (some ⟨p,0,none⟩)] w fun e w'=>e=.returned (.agg #[.int .i64 ((8+S.r.ring:Nat):Int),.int .i64 (S.nsize:Nat)])∧Same w w':=by
 obtain⟨cap,wa,wc,ba,bc,na,nc,h1,h2,h3,h4,h5,h6, -⟩:=h
 have B:=qh h1
 have hr:=h3.few.2.2.1
 unfold stC at B
 obtain⟨ring,hring⟩:∃ring,S.r.ring=ring:=⟨_,rfl⟩
 obtain⟨ns,hns⟩:∃ns,S.nsize=ns:=⟨_,rfl⟩
 rw[hring]at B hr ⊢
 rw[hns]at B ⊢
 have gw:IntKind.i64.wrap (8+(ring:Int))=8+(ring:Int):=by rw[IntKind.wrap_i64];omega
 clear h1 h2 h3 h4 h5 h6 hring hns
 go_enter Tryz.func45,Tryz.ntmps45
 go_upto_region 1 with fail
 obtain⟨y,hy⟩:∃y,w.heap.size=y:=⟨_,rfl⟩
 rw[hy]
 refine cutWl (fun wn=>Blk wn y #[.int .i64 0,.int .i64 0] 86∧Same w wn) ⟨Blk.new' _ _ _ hy.symm,(Kept.refl _ _).alloc _⟩ ?_
 rintro w4 ⟨hb4,k4⟩
 have B4:=qh hb4
 have K4:=qh k4
 have HY:=qh (Nat.le_of_eq hy)
 have QX:=qh (show∀w',Same w4 w'→w'.cell? ⟨p,3,none⟩=some (.int .i64 (ring:Nat))∧w'.cell? ⟨p,7,none⟩=some (.int .i64 (ns:Nat))∧True∧True from fun w' k=>⟨cell_blk (B.out.kept (k4.trans k) (fun h=>h)) 3,cell_blk (B.out.kept (k4.trans k) (fun h=>h)) 7,trivial,trivial⟩)
 have BD:=qh (B4.out.kept (show Same w4 w4.drew from(Kept.refl _ w4).drew) (fun h=>h))
 have yc:∀i,w4.drew.cell? ⟨y,i,none⟩=(#[.int .i64 0,.int .i64 0]:Array Value)[i]? :=cell_blk BD.out
 have yf:∀i,w4.drew.frozen? ⟨y,i,none⟩=false:=fun i=>BD.out.free i
 have yc4:∀i,w4.cell? ⟨y,i,none⟩=(#[.int .i64 0,.int .i64 0]:Array Value)[i]? :=cell_blk B4.out
 have yf4:∀i,w4.frozen? ⟨y,i,none⟩=false:=fun i=>B4.out.free i
 have yz:=hb4.lt
 clear hb4 k4 hy
 go_wp2_with fail
 refine wp_region_T (S:=fun w'=>Same w4 w') 12 (by kernel_rfl) (Kept.refl _ _).drew (fun hHeld hDn=>?_)
 refine wpT_z 0 3 QX hHeld hDn fun hDn=>?_
 refine wpT_z 1 4 QX hHeld hDn fun hDn=>?_
 refine wpT_z 2 5 QX hHeld hDn fun hDn=>?_
 refine wpT_z 3 6 QX hHeld hDn fun hDn=>?_
 refine wpT_z 4 7 QX hHeld hDn fun hDn=>?_
 refine wpT_z 5 8 QX hHeld hDn fun hDn=>?_
 refine wpT_z 6 9 QX hHeld hDn fun hDn=>?_
 refine wpT_z 7 10 QX hHeld hDn fun hDn=>?_
 refine wpT_z 8 11 QX hHeld hDn fun hDn=>?_
 refine wpT_z 9 12 QX hHeld hDn fun hDn=>?_
 refine wpT_z 10 13 QX hHeld hDn fun hDn=>?_
 refine wpT_z 11 14 QX hHeld hDn fun hDn=>?_
 refine wpT_last rfl (by kernel_rfl) hDn (fun K hK=>?_)
 go_simp
 refine hK.out _ _ (fun hDn'=>?_)
 clear hK K hDn hHeld;have hDn:=hDn';clear hDn'
 refine wpT_done (by kernel_rfl) ?_ _
 clear hDn QX
 go_wp2_with fail
 (try simp only[Exit.inBlock,Exit.then])
 refine cutE (fun W=>Blk W y #[.int .i64 (8+(ring:Int)),.int .i64 (ns:Nat)] 86∧Same w W) ⟨((B4.out.set 0 _).set 1 _).kept (show Same _ _ from(Kept.refl _ _).drew) (fun h=>h),((K4.out.setNew HY.out _).setNew HY.out _).drew⟩ ?_
 rintro wz ⟨bz,kz⟩
 refine bodyPost_ret (results_two rfl _ _ _ _ _ _ rfl bz Tryz.underlying86 rfl (by kernel_rfl)) rfl ?_
 exact⟨by rw[show((8+ring:Nat):Int)=8+(ring:Int)from by omega],kz⟩
end
section
open Go.RowKit Go.Sort Go.Shelf
def StPost(w:World)(p d bs m:Nat)(S:Sto)(v:Value)(fp:Nat→Prop)(e:Ending)(w':World):Prop:=e=.returned v∧StoIn w' p d bs m S∧Kept fp w w'
def RdPost(w:World)(p d bs m:Nat)(S:Sto)(b:List Nat)(er:Nat)(e:Ending)(w':World):Prop:=∃a c,e=.returned (.tuple #[.slice a b.length c,.int .i64 (er:Nat)])∧NatsAt w' .u8 a b∧(a=none→b=[])∧StoIn w' p d bs m S∧Kept (fun g=>g=p) w w'
theorem stC_none8(d:Nat)(r:Rt)(wa:Option Addr)(wc:Nat)(ba:Option Addr)(bc ns:Nat)(na:Option Addr)(nl nc:Nat)(bad:Bool):∀(i:Nat) (x:Int),(stC d r wa wc ba bc ns na nl nc bad)[i]? ≠some (.int .u8 x):=by
 intro i x
 unfold stC
 rcases i with _|_|_|_|_|_|_|_|_|_|i<;>simp
def Sto.wq(S:Sto)(n:Int)(body:List Nat):Dsk×Nat:=writeB S.D ((8+S.r.ring:Nat):Int) (S.nsize:Nat) n body
def Sto.rq(S:Sto)(n:Int):List Nat×Nat:=readB S.D ((8+S.r.ring:Nat):Int) (S.nsize:Nat) n
def Sto.wr(S:Sto)(n:Int)(body:List Nat):Sto×Nat:=
 if S.hasE n≠0 then(S,S.hasE n)else if hasM (S.r.size:Nat) S.r.words n=true then(S,11)
 else if(S.wq n body).2=5 then({S with D:=(S.wq n body).1},5)else(S.did (S.wq n body),(S.wq n body).2)
def Sto.rd(S:Sto)(n:Int):Sto×List Nat×Nat:=
 if S.hasE n≠0 then(S,[],S.hasE n)else({S with bad:=S.bad||decide ((S.rq n).2=8)},(S.rq n).1,(S.rq n).2)
theorem st_Write{w:World}{p d bs m:Nat}{S:Sto}(h:StoIn w p d bs m S)(n:Int)(a:Option Addr)(l c:Nat)(body:List Nat)(hl:l=body.length)(hb:Bts body)(hc:l≤c)(hat:NatsAt w .u8 a body):
 Calls Tryz.prog 16 #[.pointer (some ⟨p,0,none⟩),.int .i64 n,.slice a l c] w (StPost w p d bs m (S.wr n body).1 (.int .i64 (((S.wr n body).2:Nat):Int)) (FS p d bs m)):=by
 obtain⟨R,hR⟩:∃R,StPost w p d bs m (S.wr n body).1 (.int .i64 (((S.wr n body).2:Nat):Int)) (FS p d bs m)=R:=⟨_,rfl⟩
 rw[hR]
 have HR:=qh hR
 clear hR
 have H:=qh h
 have HS:=qh (st_has h n)
 have AR:=qh (fun w' (k:Same w w')=>st_area (h.same k))
 obtain⟨cap,wa,wc,ba,bc,na,nc,h1,h2,h3,h4,h5,h6,h7,h8,h9,h10,h11,h12⟩:=h
 have HU:=qh (fun w' (k:Same w w')=>bm_has (S.r.size:Nat) wa wc S.r.words n w' h3.w64 (h3.ws.same k))
 unfold mapV at HU
 have WQ:=qh (fun w' (k:Same w w')=>show Calls Tryz.prog 44 #[.pointer (some ⟨d,0,none⟩),.agg #[.int .i64 ((8+S.r.ring:Nat):Int),.int .i64 (S.nsize:Nat)],.int .i64 n,.slice a l c] w' fun e w''=>e=.returned (.int .i64 ((S.wq n body).2:Nat))∧DiskIn w'' d bs cap m (S.wq n body).1∧Kept (dod d bs m) w' w'' from bl_write (h2.same k) ((8+S.r.ring:Nat):Int) (S.nsize:Nat) n a l c body hl hb hc (hat.same k))
 have PC:=qh (fun w' (k:Same w w')=>cell_blk (h1.kept k (fun h=>h)))
 have GB:=qh h1
 have GP:=qh (show¬dod d bs m p from h12)
 have MK:=qh (fun W (D':Dsk) (bad:Bool) (hb:Blk W p (stC d S.r wa wc ba bc S.nsize na S.nwords.length nc bad) 78) (hd:DiskIn W d bs cap m D') (k:Kept (FS p d bs m) w W)=>show StoIn W p d bs m {S with D:=D',bad:=bad}from
  ⟨cap,wa,wc,ba,bc,na,nc,hb,hd,h3.kept k h9 h10,h4.kept k h11,h5,h6,h7,h8,h9,h10,h11,h12⟩)
 unfold stC at PC
 by_cases he:S.hasE n=0
 rotate_left
 ·have e:S.wr n body=(S,S.hasE n):=by unfold Sto.wr;rw[if_pos he]
  rw[e]at HR
  have FIN:=qh (fun W (k:Same w W)=>show R (.returned (.int .i64 ((S.hasE n:Nat):Int))) W from by rw[←HR.out];exact⟨rfl,H.out.same k,k.mono (fun _ _ q=>q.elim)⟩)
  generalize S.hasE n=N at HS he FIN
  have g1:((N:Int) !=0)=true:=by simp;omega
  clear h1 h2 h3 h4 h5 h6 h7 h8 h9 h10 h11 h12 e hb hat hl
  go_enter Tryz.func16,Tryz.ntmps16
  go_wp2_with fail
  with_reducible refine HS.out.mono ?_
  rintro e w1 ⟨rfl,k1⟩
  have K1:=qh k1
  clear k1 HS
  go_wp2_with fail
  exact FIN.out _ K1.out
 rw[he]at HS
 have HE:Hid (S.wr n body=if hasM (S.r.size:Nat) S.r.words n=true then(S,11)else if(S.wq n body).2=5 then({S with D:=(S.wq n body).1},5)else(S.did (S.wq n body),(S.wq n body).2)):=by show _=_;unfold Sto.wr;rw[if_neg (fun q=>q he)]
 clear h1 h2 h3 h4 h5 h6 h7 h8 h9 h10 h11 h12 hb hat he hl
 simp only[Int.natCast_zero]at HS
 generalize hasM (S.r.size:Nat) S.r.words n=hm at HU HE
 cases hm with
 |true=>
  have FIN:=qh (fun W (k:Same w W)=>show R (.returned (.int .i64 11)) W from by rw[←HR.out,HE.out,if_pos rfl];exact⟨rfl,H.out.same k,k.mono (fun _ _ q=>q.elim)⟩)
  go_enter Tryz.func16,Tryz.ntmps16
  go_wp2_with fail
  with_reducible refine HS.out.mono ?_
  rintro e w1 ⟨rfl,k1⟩
  have K1:=qh k1
  have pc:=PC.out w1 k1
  clear k1 HS
  go_wp2_with fail
  with_reducible refine(HU.out w1 K1.out).mono ?_
  rintro e w2 ⟨rfl,k2⟩
  have K2:=qh (K1.out.trans k2)
  clear k2 HU pc
  go_wp2_with fail
  exact FIN.out _ K2.out
 |false=>
  have HE2:=qh (show S.wr n body=if(S.wq n body).2=5 then({S with D:=(S.wq n body).1},5)else(S.did (S.wq n body),(S.wq n body).2)from by rw[HE.out,if_neg (by decide)])
  clear HE
  obtain⟨q,hq⟩:∃q,S.wq n body=q:=⟨_,rfl⟩
  rw[hq]at WQ HE2
  obtain⟨D2,er⟩:=q
  dsimp only at WQ HE2
  have Q5:=qh (fun(he:er=5) W (k:Kept (dod d bs m) w W) (hd:DiskIn W d bs cap m D2)=>show R (.returned (.int .i64 5)) W from by
   have kk:Kept (FS p d bs m) w W:=k.mono (fun _ _ q=>.inr q)
   rw[←HR.out,HE2.out,if_pos he]
   exact⟨rfl,MK.out W D2 S.bad (GB.out.kept k GP.out) hd kk,kk⟩)
  have QN:=qh (fun(he:er≠5) W (k:Kept (FS p d bs m) w W) (hs:StoIn W p d bs m {S with D:=D2,bad:=S.bad||decide (er≠0)})=>show R (.returned (.int .i64 (er:Nat))) W from by
   rw[←HR.out,HE2.out,if_neg he]
   exact⟨rfl,hs,k⟩)
  obtain⟨A1,hA1⟩:∃A1:Int,((8+S.r.ring:Nat):Int)=A1:=⟨_,rfl⟩
  obtain⟨ns,hns⟩:∃ns,S.nsize=ns:=⟨_,rfl⟩
  rw[hA1,hns]at AR WQ
  clear hA1 hns hq
  go_enter Tryz.func16,Tryz.ntmps16
  go_wp2_with fail
  with_reducible refine HS.out.mono ?_
  rintro e w1 ⟨rfl,k1⟩
  have K1:=qh k1
  have pc:=PC.out w1 k1
  clear k1 HS
  go_wp2_with fail
  with_reducible refine(HU.out w1 K1.out).mono ?_
  rintro e w2 ⟨rfl,k2⟩
  have K2:=qh (K1.out.trans k2)
  clear k2 HU pc
  have QX:=qh (fun w' (k:Same w2 w')=>PC.out w' (K2.out.trans k))
  go_wp2_with fail
  refine wp_region_T (S:=fun w'=>Same w2 w') 8 (by kernel_rfl) (Kept.refl _ _).drew (fun hHeld hDn=>?_)
  refine wpT_z 0 22 QX hHeld hDn fun hDn=>?_
  refine wpT_z 1 23 QX hHeld hDn fun hDn=>?_
  refine wpT_z 2 24 QX hHeld hDn fun hDn=>?_
  refine wpT_z 3 25 QX hHeld hDn fun hDn=>?_
  refine wpT_z 4 26 QX hHeld hDn fun hDn=>?_
  refine wpT_z 6 28 QX hHeld hDn fun hDn=>?_
  refine wpT_z 7 29 QX hHeld hDn fun hDn=>?_
  refine wpT_one (i:=5) rfl (by kernel_rfl) hDn (fun K' hK=>?_)
  go_simp
  with_reducible refine(AR.out _ (K2.out.trans ((Kept.refl _ _).drew))).mono ?_
  rintro e w5 ⟨rfl,k5⟩
  have K5:=qh (show Same w2 w5 from((Kept.refl _ _).drew).trans k5)
  refine hK.out _ _ K5.out (fun hHeld2 hDn2=>?_)
  clear hK K' hHeld hDn k5
  have hHeld:=hHeld2;have hDn:=hDn2
  clear hHeld2 hDn2
  refine wpT_last rfl (by kernel_rfl) hDn (fun K' hK=>?_)
  go_simp
  with_reducible refine(WQ.out _ (K2.out.trans K5.out)).mono ?_
  rintro e w6 ⟨rfl,hd6,k6⟩
  have D6:=qh hd6
  have K6:=qh (show Kept (dod d bs m) w w6 from((K2.out.trans K5.out).mono (fun _ _ q=>q.elim)).trans k6)
  refine hK.out _ _ (fun hDn2=>?_)
  clear hK K' hHeld hDn k6 hd6 WQ AR
  have hDn:=hDn2
  clear hDn2
  refine wpT_ze 9 8 hDn fun hDn=>?_
  refine wpT_done (by kernel_rfl) ?_ _
  clear hDn QX
  by_cases h5:er=5
  ·have FI:=qh (Q5.out h5 w6 K6.out D6.out)
   subst h5
   clear Q5 QN
   go_wp2_with fail
   exact FI.out
  ·have g5:((er:Int)==5)=false:=by simp;omega
   have g6:((er:Int) !=5)=true:=by simp;omega
   have B6:=qh (GB.out.kept K6.out GP.out)
   have FI:=qh (QN.out h5)
   have DO:=qh (st_done B6.out er)
   clear h5 Q5 QN
   go_wp2_with fail
   with_reducible refine DO.out.mono ?_
   rintro e w7 ⟨rfl,hb7,k7⟩
   have K7:=qh (show Kept (FS p d bs m) w w7 from(K6.out.mono (fun _ _ q=>.inr q)).trans (k7.mono (fun _ _ q=>.inl q)))
   have D7:=qh (D6.out.kept k7 (fun q=>GP.out (.inl q.symm)) (fun q=>GP.out (.inr (.inl q.symm))) (fun q=>GP.out (.inr (.inr q.symm))))
   have B7:=qh hb7
   clear k7 hb7 DO
   go_wp2_with fail
   exact FI.out w7 K7.out (MK.out w7 D2 _ B7.out D7.out K7.out)
end
section
open Go.RowKit Go.Sort Go.Shelf
theorem st_Body{w:World}{p d bs m:Nat}{S:Sto}(h:StoIn w p d bs m S):
 Calls Tryz.prog 12 #[.pointer (some ⟨p,0,none⟩)] w fun e w'=>(∃v,e=.returned v∧OwnN w' w.heap.size 5 .u8 v S.r.body)∧Same w w':=by
 obtain⟨cap,wa,wc,ba,bc,na,nc,h1,h2,h3, -⟩:=h
 have p6:w.cell? ⟨p,6,none⟩=some (.slice ba S.r.body.length bc):=cell_blk h1 6
 have CL:=qh (fun(hn:ba=none→S.r.body=[])=>by_clone ba bc S.r.body w h3.bs (by have:=h3.few.2.2.2.2.2;omega) hn)
 have hnil:ba=none→S.r.body=[]:=fun q=>by
  have h1:=h3.bnil q;have h2:=h3.bcap
  exact List.eq_nil_of_length_eq_zero (by omega)
 have CL2:=qh (CL.out hnil)
 obtain⟨nb,hnb⟩:∃nb,S.r.body.length=nb:=⟨_,rfl⟩
 rw[hnb]at CL2 p6
 clear h1 h2 h3 CL hnil hnb
 go_enter Tryz.func12,Tryz.ntmps12
 go_wp2_with fail
 with_reducible refine CL2.out.mono ?_
 rintro e w2 ⟨v,rfl,ho,k2⟩
 have K2:=qh k2;have O2:=qh ho
 clear k2 ho CL2
 go_wp2_with fail
 go_ret
 exact⟨⟨v,rfl,O2.out⟩,K2.out⟩
theorem st_Log{w:World}{p d bs m:Nat}{S:Sto}(h:StoIn w p d bs m S):
 Calls Tryz.prog 30 #[.pointer (some ⟨p,0,none⟩)] w fun e w'=>e=.returned (.tuple #[.int .i64 8,.int .i64 (S.r.ring:Nat)])∧Same w w':=by
 obtain⟨cap,wa,wc,ba,bc,na,nc,h1, -⟩:=h
 have p3:w.cell? ⟨p,3,none⟩=some (.int .i64 (S.r.ring:Nat)):=cell_blk h1 3
 have q3:=fun dq os=>cell_regrown (w:=w) p3 dq os
 clear h1
 go_enter Tryz.func30,Tryz.ntmps30
 go_wp2_with fail
 refine wp_region_quiet_below (by kernel_rfl) (by kernel_rfl) ?_
 repeat(first|go_big_quiet_step (fail)|quiet_step (fail))
 refine wpQuiet_nil ?_
 intro _ hw'
 obtain⟨⟨dq,osq⟩,hw''⟩:=hw'
 subst hw''
 have kq:=qh (show Same w _ from Kept.of_below (below_regrown w dq osq))
 go_wp2_with fail
 (try simp only[Exit.inBlock,Exit.then])
 exact⟨rfl,_,results_tmp2 rfl _ _ _,rfl,kq.out⟩
end
section
open Go.RowKit Go.Sort Go.Shelf
theorem st_Read{w:World}{p d bs m:Nat}{S:Sto}(h:StoIn w p d bs m S)(n:Int):
 Calls Tryz.prog 29 #[.pointer (some ⟨p,0,none⟩),.int .i64 n] w (RdPost w p d bs m (S.rd n).1 (S.rd n).2.1 (S.rd n).2.2):=by
 obtain⟨R,hR⟩:∃R,RdPost w p d bs m (S.rd n).1 (S.rd n).2.1 (S.rd n).2.2=R:=⟨_,rfl⟩
 rw[hR]
 have HR:=qh hR
 clear hR
 have H:=qh h
 have HS:=qh (st_has h n)
 have AR:=qh (fun w' (k:Same w w')=>st_area (h.same k))
 obtain⟨cap,wa,wc,ba,bc,na,nc,h1,h2,h3,h4,h5,h6,h7,h8,h9,h10,h11,h12⟩:=h
 have RQ:=qh (fun w' (k:Same w w')=>show Calls Tryz.prog 71 #[.pointer (some ⟨d,0,none⟩),.agg #[.int .i64 ((8+S.r.ring:Nat):Int),.int .i64 (S.nsize:Nat)],.int .i64 n] w' fun e w''=>Told w' w'' e (S.rq n)from bl_read (h2.same k) ((8+S.r.ring:Nat):Int) (S.nsize:Nat) n)
 unfold Told at RQ
 have PC:=qh (fun w' (k:Same w w')=>cell_blk (h1.kept k (fun h=>h)))
 have GB:=qh h1
 have GP:=qh (show¬dod d bs m p from h12)
 have MK:=qh (fun W (bad:Bool) (hb:Blk W p (stC d S.r wa wc ba bc S.nsize na S.nwords.length nc bad) 78) (k:Kept (fun g=>g=p) w W)=>show StoIn W p d bs m {S with bad:=bad}from
  ⟨cap,wa,wc,ba,bc,na,nc,hb,h2.kept k (fun q=>h12 (.inl q.symm)) (fun q=>h12 (.inr (.inl q.symm))) (fun q=>h12 (.inr (.inr q.symm))),h3.kept k (h9.mono (fun g q=>.inl q)) (h10.mono (fun g q=>.inl q)),h4.kept k (h11.mono (fun g q=>.inl q)),h5,h6,h7,h8,h9,h10,h11,h12⟩)
 unfold stC at PC
 by_cases he:S.hasE n=0
 rotate_left
 ·have e:S.rd n=(S,[],S.hasE n):=by unfold Sto.rd;rw[if_pos he]
  rw[e]at HR
  have FIN:=qh (fun W (k:Same w W)=>show R (.returned (.tuple #[.slice none 0 0,.int .i64 ((S.hasE n:Nat):Int)])) W from by rw[←HR.out];exact⟨none,0,rfl,.inl rfl,fun _=>rfl,H.out.same k,k.mono (fun _ _ q=>q.elim)⟩)
  generalize S.hasE n=N at HS he FIN
  have g1:((N:Int) !=0)=true:=by simp;omega
  clear h1 h2 h3 h4 h5 h6 h7 h8 h9 h10 h11 h12 e
  go_enter Tryz.func29,Tryz.ntmps29
  go_wp2_with fail
  with_reducible refine HS.out.mono ?_
  rintro e w1 ⟨rfl,k1⟩
  have K1:=qh k1
  clear k1 HS
  go_wp2_with fail
  exact FIN.out _ K1.out
 have hbad:S.bad=false:=by
  unfold Sto.hasE at he
  split at he
  ·cases he
  ·rename_i q;simpa using q
 rw[he]at HS
 have HE:Hid (S.rd n=({S with bad:=decide ((S.rq n).2=8)},(S.rq n).1,(S.rq n).2)):=by show _=_;unfold Sto.rd;rw[if_neg (fun q=>q he),hbad];rfl
 rw[hbad]at PC GB
 clear h1 h2 h3 h4 h5 h6 h7 h8 h9 h10 h11 h12 he hbad
 simp only[Int.natCast_zero]at HS
 obtain⟨q,hq⟩:∃q,S.rq n=q:=⟨_,rfl⟩
 rw[hq]at RQ HE
 obtain⟨b,er⟩:=q
 dsimp only at RQ HE
 obtain⟨bl,hbl⟩:∃bl,b.length=bl:=⟨_,rfl⟩
 have FIN:=qh (fun w1 W a c (k1:Same w w1) (k:Kept (fun g=>g=p) w1 W) (hat:NatsAt w1 .u8 a b) (hn:a=none→b=[]) (hb:Blk W p (stC d S.r wa wc ba bc S.nsize na S.nwords.length nc (decide (er=8))) 78)=>show R (.returned (.tuple #[.slice a bl c,.int .i64 (er:Nat)])) W from by
  have kk:Kept (fun g=>g=p) w W:=(k1.mono (fun _ _ q=>q.elim)).trans k
  rw[←HR.out,HE.out]
  exact⟨a,c,by rw[hbl],hat.apart (GB.out.kept k1 (fun h=>h)) k (stC_none8 _ _ _ _ _ _ _ _ _ _ _),hn,MK.out W _ hb kk,kk⟩)
 obtain⟨A1,hA1⟩:∃A1:Int,((8+S.r.ring:Nat):Int)=A1:=⟨_,rfl⟩
 obtain⟨ns,hns⟩:∃ns,S.nsize=ns:=⟨_,rfl⟩
 rw[hA1,hns]at AR RQ
 rw[hbl]at RQ
 clear hA1 hns hq hbl
 go_enter Tryz.func29,Tryz.ntmps29
 go_wp2_with fail
 with_reducible refine HS.out.mono ?_
 rintro e w1 ⟨rfl,k1⟩
 have K1:=qh k1
 have QX:=qh (fun w' (k:Same w1 w')=>PC.out w' (K1.out.trans k))
 clear k1 HS
 go_wp2_with fail
 refine wp_region_T (S:=fun w'=>Same w1 w') 7 (by kernel_rfl) (Kept.refl _ _).drew (fun hHeld hDn=>?_)
 refine wpT_z 0 16 QX hHeld hDn fun hDn=>?_
 refine wpT_z 1 17 QX hHeld hDn fun hDn=>?_
 refine wpT_z 2 18 QX hHeld hDn fun hDn=>?_
 refine wpT_z 3 19 QX hHeld hDn fun hDn=>?_
 refine wpT_z 4 20 QX hHeld hDn fun hDn=>?_
 refine wpT_z 6 22 QX hHeld hDn fun hDn=>?_
 refine wpT_one (i:=5) rfl (by kernel_rfl) hDn (fun K' hK=>?_)
 go_simp
 with_reducible refine(AR.out _ (K1.out.trans ((Kept.refl _ _).drew))).mono ?_
 rintro e w5 ⟨rfl,k5⟩
 have K5:=qh (show Same w1 w5 from((Kept.refl _ _).drew).trans k5)
 refine hK.out _ _ K5.out (fun hHeld2 hDn2=>?_)
 clear hK K' hHeld hDn k5
 have hHeld:=hHeld2;have hDn:=hDn2
 clear hHeld2 hDn2
 refine wpT_last rfl (by kernel_rfl) hDn (fun K' hK=>?_)
 go_simp
 with_reducible refine(RQ.out _ (K1.out.trans K5.out)).mono ?_
 rintro e w6 ⟨a6,c6,rfl,n6,z6,k6⟩
 have A6:=qh (And.intro n6 z6)
 have K6:=qh (show Same w w6 from(K1.out.trans K5.out).trans k6)
 refine hK.out _ _ (fun hDn2=>?_)
 clear hK K' hHeld hDn k6 n6 z6 RQ AR
 have hDn:=hDn2
 clear hDn2
 refine wpT_ze 8 15 hDn fun hDn=>?_
 refine wpT_ze 9 24 hDn fun hDn=>?_
 refine wpT_ze 10 25 hDn fun hDn=>?_
 refine wpT_ze 11 7 hDn fun hDn=>?_
 refine wpT_ze 12 8 hDn fun hDn=>?_
 refine wpT_done (by kernel_rfl) ?_ _
 clear hDn QX
 have pc:=PC.out w6 K6.out
 have B6:=qh (GB.out.kept K6.out (fun h=>h))
 have z6:=B6.out.lt
 have f6:=fun i=>B6.out.free i
 by_cases h8:er=8
 ·have FI:=qh (FIN.out w6 (w6.setCell ⟨p,9,none⟩ (.bool true)) a6 c6 K6.out (by with_reducible exact(Kept.refl _ _).setG 9 _) A6.out.1 A6.out.2 (by rw[h8];exact B6.out.set 9 _))
  subst h8
  clear FIN B6
  go_wp2_with fail
  exact FI.out
 ·have g5:((er:Int)==8)=false:=by simp;omega
  have FI:=qh (FIN.out w6 (w6.setCell ⟨p,9,none⟩ (.bool false)) a6 c6 K6.out (by with_reducible exact(Kept.refl _ _).setG 9 _) A6.out.1 A6.out.2 (by rw[show decide (er=8)=false from by simpa using h8];exact B6.out.set 9 _))
  clear h8 FIN B6
  go_wp2_with fail
  exact FI.out
end
section
open Go.RowKit
theorem ord_new(a:Option Addr)(cap:Nat)(xs:List Nat)(w:World)(hat:NatsAt w .u8 a xs)(hl:xs.length≤140737488355328)(hnil:a=none→xs=[]):
 Calls Tryz.prog 86 #[.slice a xs.length cap] w fun e w'=>∃g a' cap',e=.returned (.pointer (some ⟨g,0,none⟩))∧w.heap.size≤g∧(∀x,a'=some x→w.heap.size≤x.block∧x.block<w'.heap.size)∧Rdr w' g a' cap' xs 0∧Same w w':=by
 have CL:=qh (by_clone a cap xs w hat hl hnil)
 clear hat
 generalize hL:xs.length=L at*
 have HL:=qh hL;clear hL
 go_enter Tryz.func86,Tryz.ntmps86
 go_wp2_with fail
 refine CL.out.mono ?_
 rintro e w2 ⟨v,rfl,ho,k⟩
 obtain⟨A,C,rfl,r1,r2,r3,r4,r5⟩:=ho.read
 have R1:=qh (And.intro r1 (And.intro r2 (And.intro r3 (And.intro r4 r5))))
 have K:=qh k
 clear k ho r1 r2 r3 r4 r5
 go_wp2_with fail
 go_ret
 obtain⟨r1,r2,r3,r4,r5⟩:=R1.out
 refine⟨w2.heap.size,A,C,rfl,K.out.size,fun x hx=>⟨(r5 x hx).1,by have:=(r5 x hx).2.1;simp;omega⟩,⟨Blk.new _ _ _,r4.same ((Kept.refl _ w2).alloc _),r1,by unfold maxLen at r2;exact r2,fun x hx=>?_⟩,K.out.alloc _⟩
 have:=(r5 x hx).2.1
 omega
theorem rdSmall_drop(xs:List Nat)(er:Nat):∃k,k≤xs.length∧(rdSmall xs er).1=xs.drop k:=by
 unfold rdSmall
 split
 ·exact⟨0,Nat.zero_le _,rfl⟩
 ·split
  ·exact⟨0,Nat.zero_le _,rfl⟩
  ·rename_i h
   split
   ·exact⟨0,Nat.zero_le _,rfl⟩
   ·exact⟨_,(getSmall_ok xs (by omega)).2.1,rfl⟩
theorem rdSmall_num(xs:List Nat)(er:Nat):(rdSmall xs er).2.2≤1099511627776:=by
 unfold rdSmall
 split
 ·exact Nat.zero_le _
 ·split
  ·exact Nat.zero_le _
  ·split
   ·exact Nat.zero_le _
   ·dsimp only;omega
end
section
open Go.RowKit
def fillW(k:Nat)(R:List Nat)(i j:Nat):List Nat:=(List.range k).map fun t=>if t<i then low ((R.drop (8*t)).take 8)else if t=i then low ((R.drop (8*i)).take j)else 0
theorem fillW_len(k:Nat)(R:List Nat)(i j:Nat):(fillW k R i j).length=k:=by simp[fillW]
theorem fillW_zero(k:Nat)(R:List Nat):fillW k R 0 0=List.replicate k 0:=by
 apply List.ext_getElem (by simp[fillW])
 intro t h1 h2
 simp only[fillW,List.getElem_map,List.getElem_range,List.getElem_replicate,Nat.not_lt_zero,if_false,List.take_zero]
 split<;>rfl
theorem fillW_at(k:Nat)(R:List Nat)(i j:Nat)(h:i<k):(fillW k R i j)[i]? =some (low ((R.drop (8*i)).take j)):=by
 simp[fillW,h]
theorem fillW_set{k:Nat}{R:List Nat}{i j x c:Nat}(hx:low ((R.drop (8*i)).take j)=x)(hc:R[8*i+j]? =some c):(fillW k R i j).set i (256*x+c)=fillW k R i (j+1):=by
 have hs:low ((R.drop (8*i)).take (j+1))=256*x+c:=by
  rw[low_take_succ _ j c (by rw[List.getElem?_drop];exact hc),hx]
 apply List.ext_getElem (by simp[fillW])
 intro t h1 h2
 simp only[fillW,List.getElem_set,List.getElem_map,List.getElem_range]
 by_cases h:i=t
 ·subst h;simp[hs]
 ·rw[if_neg h]
  by_cases h3:t<i
  ·simp[h3]
  ·rw[if_neg h3,if_neg h3,if_neg (fun q=>h q.symm),if_neg (fun q=>h q.symm)]
theorem fillW_next(k:Nat)(R:List Nat)(i:Nat):fillW k R i 8=fillW k R (i+1) 0:=by
 apply List.ext_getElem (by simp[fillW])
 intro t h1 h2
 simp only[fillW,List.getElem_map,List.getElem_range,List.take_zero]
 by_cases h:t<i
 ·rw[if_pos h,if_pos (by omega)]
 ·by_cases h3:t=i
  ·subst h3;rw[if_neg h,if_pos rfl,if_pos (by omega)]
  ·rw[if_neg h,if_neg h3,if_neg (by omega)]
   split<;>rfl
theorem wordsOf_len:∀(k:Nat) (l:List Nat),(wordsOf k l).length=k
 |0,_=>rfl
 |k+1,l=>by rw[wordsOf,List.length_cons,wordsOf_len k]
theorem wordsOf_get:∀(k:Nat) (l:List Nat) (t:Nat) (h:t<(wordsOf k l).length),(wordsOf k l)[t]=low ((l.drop (8*t)).take 8)
 |0,_,_,h=>by cases h
 |k+1,l,0,h=>rfl
 |k+1,l,t+1,h=>by
  show(wordsOf k (l.drop 8))[t]'_=_
  rw[wordsOf_get k (l.drop 8) t,List.drop_drop,show 8+8*t=8*(t+1)from by omega]
theorem fillW_all(k:Nat)(R:List Nat):fillW k R k 0=wordsOf k R:=by
 apply List.ext_getElem (by rw[fillW_len,wordsOf_len])
 intro t h1 h2
 rw[wordsOf_get]
 rw[fillW_len]at h1
 simp[fillW,h1]
theorem low_lt8{R:List Nat}(hb:Bts R)(a:Nat){j:Nat}(hj:j<8):low ((R.drop a).take j)<72057594037927936:=by
 have h1:=low_lt ((R.drop a).take j) (fun y hy=>hb y (List.mem_of_mem_drop (List.mem_of_mem_take hy)))
 have h2:((R.drop a).take j).length≤7:=by simp;omega
 exact Nat.lt_of_lt_of_le h1 (Nat.le_trans (Nat.pow_le_pow_right (by decide) h2) (by decide))
theorem wordsOf_words{R:List Nat}(hb:Bts R)(k:Nat):Words (wordsOf k R):=by
 intro x hx
 obtain⟨t,ht,rfl⟩:=List.mem_iff_getElem.1 hx
 rw[wordsOf_get]
 have h1:=low_lt ((R.drop (8*t)).take 8) (fun y hy=>hb y (List.mem_of_mem_drop (List.mem_of_mem_take hy)))
 have h2:((R.drop (8*t)).take 8).length≤8:=by simp;omega
 exact Nat.lt_of_lt_of_le h1 (Nat.le_trans (Nat.pow_le_pow_right (by decide) h2) (by decide))
theorem rd1_bts{b:List Nat}(h:Bts b):Bts (rd1 b).1:=by
 obtain⟨k,_,e⟩:=rdSmall_drop b 0
 unfold rd1
 rw[e]
 exact h.drop k
theorem rd2_drop(b:List Nat):(rd2 b).1.length≤b.length∧(rd2 b).1=b.drop (b.length - (rd2 b).1.length):=by
 obtain⟨k,hk,e⟩:=rdSmall_drop b 0
 obtain⟨m,hm,e2⟩:=rdSmall_drop (rd1 b).1 (rd1 b).2.1
 have e1:(rd1 b).1=b.drop k:=e
 have e3:(rd2 b).1=b.drop (k+m):=by unfold rd2;rw[e2,e1,List.drop_drop]
 rw[e1,List.length_drop]at hm
 rw[e3,List.length_drop]
 refine⟨by omega,by congr 1;omega⟩
theorem rd2_bts{b:List Nat}(h:Bts b):Bts (rd2 b).1:=by
 rw[(rd2_drop b).2]
 exact h.drop _
theorem rd1_num(b:List Nat):(rd1 b).2.2≤1099511627776:=rdSmall_num _ _
theorem rd2_num(b:List Nat):(rd2 b).2.2≤1099511627776:=rdSmall_num _ _
theorem roomN_le(N r:Nat):roomN N r≤512:=by unfold roomN;omega
end
section
open Go.RowKit Go.Sort Go.Shelf
def GetPost(w:World)(o:Option Rt)(e:Ending)(w':World):Prop:=
 (∃(i0 i1 i2 i3:Int) (wa:Option Addr) (wl wc:Nat) (ba:Option Addr) (bl bc:Nat),e=.returned (.tuple #[.agg #[.int .i64 i0,.int .i64 i1,.int .i64 i2,.int .i64 i3,.slice wa wl wc,.slice ba bl bc],.bool o.isSome])∧
  ∀r,o=some r→#[.int .i64 i0,.int .i64 i1,.int .i64 i2,.int .i64 i3,.slice wa wl wc,.slice ba bl bc]=rtC r wa wc ba bc∧RtAt w' r wa wc ba bc∧(∀x,wa=some x→w.heap.size≤x.block∧x.block<w'.heap.size)∧(∀x,ba=some x→w.heap.size≤x.block∧x.block<w'.heap.size))∧Same w w'
theorem getSl_gen(l:List (List Nat)):(getSl l).1≤1099511627776:=by
 have hg:genSl l≤1099511627776:=by
  unfold genSl
  cases h:stampE (l.getD 0 [])with
  |none=>exact Nat.zero_le _
  |some g=>exact(stampE_len h).2.2
 unfold getSl
 split
 ·exact Nat.zero_le _
 ·split
  ·exact Nat.zero_le _
  ·split
   ·exact hg
   ·exact Nat.zero_le _
theorem getSl_body(l:List (List Nat)):(getSl l).2.1.length≤954:=by
 unfold getSl
 split
 ·exact Nat.zero_le _
 ·split
  ·exact Nat.zero_le _
  ·rename_i h
   split
   ·show(bodySl l).length≤954
    unfold bodySl
    rw[List.length_take]
    omega
   ·exact Nat.zero_le _
theorem getSl_bts{l:List (List Nat)}(hb:∀b∈l,Bts b):Bts (getSl l).2.1:=by
 unfold getSl
 split
 ·intro x hx;cases hx
 ·split
  ·intro x hx;cases hx
  ·split
   ·exact((allSl_bts hb).drop 2).take _
   ·intro x hx;cases hx
theorem results_ctmp{P:Program}{fn:Func}{p u:Tmp}{ty:TypeId}(h:fn.results=#[.cell p ty,.tmp u])(tmps:Array Value)(w:World)(g:Nat)(t:TypeId)(cs:Array Value)(d:TypeDesc)(b:Value)
 (hp:tmps.getD p undef=.pointer (some ⟨g,0,none⟩)) (hg:Blk w g cs t) (hb:tmps.getD u undef=b)
 (hu:P.underlying ty=some d) (hd:(match d with| .struct _| .array _ _=>true|_=>false)=true) (hi:(P.info? ty).map (·.size)=some cs.size):
 (results fn tmps).run P w=.ok (.tuple #[.agg cs,b]) w:=by rw[←hb];exact results_two_tmp h tmps w g t cs d hp hg hu hd hi
theorem Blk.set6z{w:World}{b:Nat}{v0 v1 v2 v3 v4 v5 u0 u1 u2 u3 u4 u5:Value}{t:TypeId}(h:Blk w b #[v0,v1,v2,v3,v4,v5] t):
 Blk ((((((w.setCell ⟨b,0,none⟩ u0).setCell ⟨b,1,none⟩ u1).setCell ⟨b,2,none⟩ u2).setCell ⟨b,3,none⟩ u3).setCell ⟨b,4,none⟩ u4).setCell ⟨b,5,none⟩ u5) b #[u0,u1,u2,u3,u4,u5] t:=by
 have h0:Blk _ b #[u0,v1,v2,v3,v4,v5] t:=h.set 0 u0
 have h1:Blk _ b #[u0,u1,v2,v3,v4,v5] t:=h0.set 1 u1
 have h2:Blk _ b #[u0,u1,u2,v3,v4,v5] t:=h1.set 2 u2
 have h3:Blk _ b #[u0,u1,u2,u3,v4,v5] t:=h2.set 3 u3
 have h4:Blk _ b #[u0,u1,u2,u3,u4,v5] t:=h3.set 4 u4
 have h5:Blk _ b #[u0,u1,u2,u3,u4,u5] t:=h4.set 5 u5
 exact h5
def zeR:Array Value:=#[.int .i64 0,.int .i64 0,.int .i64 0,.int .i64 0,.slice none 0 0,.slice none 0 0]
theorem Blk.set345{w:World}{b:Nat}{v0 v1 v2 v3 v4 v5 u3 u4 u5:Value}{t:TypeId}(h:Blk w b #[v0,v1,v2,v3,v4,v5] t):
 Blk (((w.setCell ⟨b,3,none⟩ u3).setCell ⟨b,4,none⟩ u4).setCell ⟨b,5,none⟩ u5) b #[v0,v1,v2,u3,u4,u5] t:=by
 have h3:Blk _ b #[v0,v1,v2,u3,v4,v5] t:=h.set 3 u3
 have h4:Blk _ b #[v0,v1,v2,u3,u4,v5] t:=h3.set 4 u4
 have h5:Blk _ b #[v0,v1,v2,u3,u4,u5] t:=h4.set 5 u5
 exact h5
theorem Blk.noR{w:World}{b:Nat}{u0 u1 u2 u3 u4 u5:Value}{t:TypeId}(h:Blk w b zeR t):
 Blk ((((((w.setCell ⟨b,0,none⟩ u0).setCell ⟨b,1,none⟩ u1).setCell ⟨b,2,none⟩ u2).setCell ⟨b,3,none⟩ u3).setCell ⟨b,4,none⟩ u4).setCell ⟨b,5,none⟩ u5) b #[u0,u1,u2,u3,u4,u5] t:=h.set6z
theorem Kept.noR{w w':World}{b:Nat}{u0 u1 u2 u3 u4 u5:Value}(h:Same w w')(hb:w.heap.size≤b):Same w ((((((w'.setCell ⟨b,0,none⟩ u0).setCell ⟨b,1,none⟩ u1).setCell ⟨b,2,none⟩ u2).setCell ⟨b,3,none⟩ u3).setCell ⟨b,4,none⟩ u4).setCell ⟨b,5,none⟩ u5):=
 (((((h.setNew hb _).setNew hb _).setNew hb _).setNew hb _).setNew hb _).setNew hb _
theorem Rdr.kept{w w':World}{g:Nat}{a:Option Addr}{cap:Nat}{xs:List Nat}{er:Nat}{fp:Nat→Prop}(h:Rdr w g a cap xs er)(k:Kept fp w w')(h1:¬fp g)(h2:∀x,a=some x→¬fp x.block):Rdr w' g a cap xs er:=
 ⟨h.1.kept k h1,h.2.1.kept k h2,h.2.2⟩
theorem Kept.six{w:World}{b:Nat}{u0 u1 u2 u3 u4 u5:Value}:Kept (fun j=>j=b) w ((((((w.setCell ⟨b,0,none⟩ u0).setCell ⟨b,1,none⟩ u1).setCell ⟨b,2,none⟩ u2).setCell ⟨b,3,none⟩ u3).setCell ⟨b,4,none⟩ u4).setCell ⟨b,5,none⟩ u5):=
 ((((((Kept.refl _ w).setG 0 _).setG 1 _).setG 2 _).setG 3 _).setG 4 _).setG 5 _
theorem st_get{w:World}{d bs cap m:Nat}{D:Dsk}(h:DiskIn w d bs cap m D)(n:Nat)(hn:n≤1):
 Calls Tryz.prog 49 #[.pointer (some ⟨d,0,none⟩),.int .i64 (n:Nat)] w (GetPost w (getR D n)):=by
 obtain⟨GP,hGP⟩:∃GP,GetPost w (getR D n)=GP:=⟨_,rfl⟩
 rw[hGP]
 have FF:=qh (fun(ho:getR D n=none) W (k:Same w W) (i0 i1 i2 i3:Int) (wa:Option Addr) (wl wc:Nat) (ba:Option Addr) (bl bc:Nat)=>show GP (.returned (.tuple #[.agg #[.int .i64 i0,.int .i64 i1,.int .i64 i2,.int .i64 i3,.slice wa wl wc,.slice ba bl bc],.bool false])) W from by
  rw[←hGP]
  unfold GetPost
  rw[ho]
  exact⟨⟨i0,i1,i2,i3,wa,wl,wc,ba,bl,bc,rfl,fun r h=>by cases h⟩,k⟩)
 have FT:=qh (fun(r:Rt) (ho:getR D n=some r) W (k:Same w W) wa wc ba bc (i0 i1 i2 i3:Int) (wl bl:Nat) (hv:#[.int .i64 i0,.int .i64 i1,.int .i64 i2,.int .i64 i3,.slice wa wl wc,.slice ba bl bc]=rtC r wa wc ba bc) (hr:RtAt W r wa wc ba bc) (h1:∀x,wa=some x→w.heap.size≤x.block∧x.block<W.heap.size) (h2:∀x,ba=some x→w.heap.size≤x.block∧x.block<W.heap.size)=>show GP (.returned (.tuple #[.agg #[.int .i64 i0,.int .i64 i1,.int .i64 i2,.int .i64 i3,.slice wa wl wc,.slice ba bl bc],.bool true])) W from by
  rw[←hGP]
  unfold GetPost
  rw[ho]
  exact⟨⟨i0,i1,i2,i3,wa,wl,wc,ba,bl,bc,rfl,fun r' h=>by cases h;exact⟨hv,hr,h1,h2⟩⟩,k⟩)
 clear hGP
 have SC:=qh (fun w' (k:Same w w')=>st_secs (h.same k) n (by omega))
 have RM:=qh (fun w' (k:Same w w') (r:Nat) (hr:r≤1099511627776)=>st_room (h.same k) r hr)
 have SB:=qh (secsS_bts h.ok n)
 have SL:=qh (secsS_len D n)
 unfold getR at FF FT
 obtain⟨N,hN⟩:∃N,D.s.length=N:=⟨_,rfl⟩
 rw[hN]at FF FT RM
 clear h hN
 obtain⟨X,hX⟩:∃X,secsS D n=X:=⟨_,rfl⟩
 rw[hX]at FF FT SC SB SL
 have QG:=qh (getSl_gen X);have QB:=qh (getSl_body X);have QT:=qh (getSl_bts SB.out)
 have SG:=qh (fun a c w' (hat:RowsAt w' a X)=>show Calls Tryz.prog 85 #[.slice a 4 c] w' (SgetPost w' X)from sn_get a c X SL.out SB.out w' hat)
 have hSL:=SL.out
 unfold SgetPost at SG
 generalize getSl X=q at FF FT QG QB QT SG
 obtain⟨gen,b,er⟩:=q
 dsimp only at FF FT QG QB QT SG
 go_enter Tryz.func49,Tryz.ntmps49
 go_upto_region 1 with fail
 obtain⟨y,hy⟩:∃y,w.heap.size=y:=⟨_,rfl⟩
 rw[hy]
 refine cutWl (fun wn=>Blk wn y zeR 76∧Same w wn) ⟨Blk.new' _ _ _ hy.symm,(Kept.refl _ _).alloc _⟩ ?_
 rintro w1 ⟨hb1,k1⟩
 have HY:=qh (Nat.le_of_eq hy)
 have B1:=qh hb1
 have K1:=qh k1
 clear hb1 k1 hy
 go_wp2_with fail
 with_reducible refine(SC.out _ K1.out).mono ?_
 rintro e w2 ⟨⟨v2,rfl,hr2⟩,k2⟩
 obtain⟨a2,c2,rfl,hra2⟩:=hr2.rowsAt
 rw[SL.out]
 have S2:=qh (SG.out a2 c2 w2 hra2)
 have K2:=qh (K1.out.trans k2)
 have B2:=qh (B1.out.kept k2 (fun h=>h))
 clear k2 hr2 hra2 SC SG K1 B1
 go_wp2_with fail
 with_reducible refine S2.out.mono ?_
 rintro e w3 ⟨⟨ra,rc,rfl,hra,hrc,hnil⟩,k3⟩
 have K3:=qh (K2.out.trans k3)
 have B3:=qh (B2.out.kept k3 (fun h=>h))
 have RA:=qh hra;have RC:=qh hrc;have RN:=qh hnil
 clear k3 hra hrc hnil S2 K2 B2
 have p3:∀i,w3.cell? ⟨y,i,none⟩=(#[.int .i64 0,.int .i64 0,.int .i64 0,.int .i64 0,.slice none 0 0,.slice none 0 0]:Array Value)[i]? :=cell_blk B3.out
 have z3:=B3.out.lt
 have f3:=fun i=>B3.out.free i
 by_cases her:er=0
 rotate_left
 ·have F1:=FF.out (by rw[if_neg (fun q=>her q.1)])
  have g1:((er:Int) !=0)=true:=by simp;omega
  go_wp2_with fail
  (try simp only[Exit.inBlock,Exit.then])
  refine cutE (fun W=>Blk W y #[.int .i64 0,.int .i64 0,.int .i64 0,.int .i64 0,.slice none 0 0,.slice none 0 0] 76∧Same w W) ⟨by with_reducible exact Blk.noR B3.out,by with_reducible exact Kept.noR K3.out HY.out⟩ ?_
  rintro wz ⟨bz,kz⟩
  refine bodyPost_ret (results_ctmp (b:=.bool false) rfl _ _ _ _ _ _ rfl bz rfl rfl rfl (by kernel_rfl)) rfl ?_
  exact F1 _ kz _ _ _ _ _ _ _ _ _ _
 subst her
 simp only[Int.natCast_zero]
 have FF1:=qh (fun(hx:¬(getOK1 N b=true∧getOK2 b=true∧getOK3 gen n b=true))=>FF.out (by rw[if_neg (fun q=>hx q.2)]))
 have FT1:=qh (fun(hx:getOK1 N b=true∧getOK2 b=true∧getOK3 gen n b=true)=>FT.out _ (by rw[if_pos ⟨rfl,hx⟩]))
 have OX:=qh (ord_new ra rc b w3 RA.out (by have:=QB.out;omega) RN.out)
 clear FF FT
 have NB:=qh (Nat.le_trans QB.out (show 954≤100000 by decide))
 have HBY:=qh (show Bytes b from QT.out)
 have HBY1:=qh (show Bytes (rd1 b).1 from rd1_bts QT.out)
 have R1E:=qh (show rdSmall b 0=rd1 b from rfl)
 have R2E:=qh (show rdSmall (rd1 b).1 (rd1 b).2.1=rd2 b from rfl)
 have R1N:=qh (rd1_num b);have R2N:=qh (rd2_num b)
 have R2D:=qh (rd2_drop b)
 have R2B:=qh (rd2_bts QT.out)
 obtain⟨nb,hnb⟩:∃nb,b.length=nb:=⟨_,rfl⟩
 rw[hnb]at OX NB R2D RC ⊢
 have HNB:=qh hnb
 clear hnb p3 z3 f3
 go_wp2_with fail
 with_reducible refine OX.out.mono ?_
 rintro e w4 ⟨g,a4,c4,rfl,hg,ha4,hrd,k4⟩
 have K4:=qh (K3.out.trans k4)
 have L4:=qh k4
 have B4:=qh (B3.out.kept k4 (fun h=>h))
 have GL:=qh (show w3.heap.size≤g from hg)
 have A4:=qh (show∀x,a4=some x→w3.heap.size≤x.block from fun x hx=>(ha4 x hx).1)
 have SM1:=qh (ord_small g a4 c4 b 0 w4 hrd HBY.out)
 rw[R1E.out]at SM1
 have YG:=qh (show¬y=g from fun q=>by have:=B3.out.lt;omega)
 clear hg ha4 hrd k4 OX B3
 obtain⟨q1,hq1⟩:∃q1,rd1 b=q1:=⟨_,rfl⟩
 have HQ1:=qh hq1
 rw[hq1]at SM1 R2E HBY1 R1N
 clear hq1
 obtain⟨b1,e1,r1⟩:=q1
 dsimp only at SM1 R2E HBY1 R1N
 have FSL:=qh (show w.heap.size≤w3.heap.size from K3.out.size)
 go_wp2_with fail
 with_reducible refine SM1.out.mono ?_
 rintro e w5 ⟨rfl,⟨a5,c5,hrd5,hab5⟩,k5⟩
 have L5:=qh (L4.out.step k5 (fun j hj q=>by have:=GL.out;omega))
 have K5:=qh (K4.out.step k5 (fun j hj q=>by have:=GL.out;have:=FSL.out;omega))
 have B5:=qh (B4.out.kept k5 YG.out)
 have RD5:=qh hrd5
 have A5:=qh (show∀x,a5=some x→w3.heap.size≤x.block from fun x hx=>by
  obtain⟨z,hz,e⟩:=hab5 x hx
  rw[e]
  exact A4.out z hz)
 clear hrd5 hab5 k5 SM1 B4 K4 A4
 go_upto_region 6 with fail
 obtain⟨q,hq⟩:∃q,w5.heap.size=q:=⟨_,rfl⟩
 rw[hq]
 refine cutWl (fun wn=>Blk wn q #[.int .i64 (gen:Nat),.int .i64 (n:Nat),.int .i64 (r1:Nat),.int .i64 0,.slice none 0 0,.slice none 0 0] 76∧Same w5 wn) ⟨Blk.new' _ _ _ hq.symm,(Kept.refl _ _).alloc _⟩ ?_
 rintro w6 ⟨hb6,k6⟩
 have Q6:=qh hb6
 have QL:=qh (show w.heap.size≤q∧g<q∧y<q from⟨by have:=K5.out.size;omega,by have:=RD5.out.1.lt;omega,by have:=B5.out.lt;omega⟩)
 have WQ:=qh (show w3.heap.size≤q from by have:=L5.out.size;omega)
 have B6:=qh (B5.out.kept k6 (fun h=>h))
 have RD6:=qh (RD5.out.kept k6 (fun h=>h) (fun _ _ h=>h))
 have K6:=qh (K5.out.trans k6)
 have L6:=qh (L5.out.trans k6)
 clear hb6 k6 B5 RD5 K5 hq
 have SM2:=qh (ord_small g a5 c5 b1 e1 w6 RD6.out HBY1.out)
 rw[R2E.out]at SM2
 obtain⟨q2,hq2⟩:∃q2,rd2 b=q2:=⟨_,rfl⟩
 have HQ2:=qh hq2
 rw[hq2]at SM2 R2D R2N R2B
 clear hq2
 obtain⟨R,e2,sz⟩:=q2
 dsimp only at SM2 R2D R2N R2B
 go_wp2_with fail
 with_reducible refine SM2.out.mono ?_
 rintro e w7 ⟨rfl,⟨a7,c7,hrd7,hab7⟩,k7⟩
 have L7:=qh (L6.out.step k7 (fun j hj q=>by have:=GL.out;omega))
 have K7:=qh (K6.out.step k7 (fun j hj q=>by have:=GL.out;have:=FSL.out;omega))
 have B7:=qh (B6.out.kept k7 YG.out)
 have Q7:=qh (Q6.out.kept k7 (fun h:q=g=>by have:=QL.out.2.1;omega))
 have LF:=qh (ord_left g a7 R.length c7 _ w7 hrd7.1)
 clear hrd7 hab7 k7 SM2 B6 K6 Q6 RD6 A5
 obtain⟨nR,hnR⟩:∃nR,R.length=nR:=⟨_,rfl⟩
 rw[hnR]at LF R2D
 have HNR:=qh hnR
 clear hnR
 go_wp2_with fail
 with_reducible refine LF.out.mono ?_
 rintro e w8 ⟨rfl,rfl⟩
 have NA:=qh (RA.out.same L7.out)
 have GO1:=qh (show getOK1 N b=(decide (r1≤256)&&(decide (sz=roomN N r1)&&decide (4≤sz)))from by unfold getOK1;rw[HQ1.out,HQ2.out])
 have RM7:=qh (RM.out w7 K7.out r1 R1N.out)
 have RL:=qh (roomN_le N r1)
 generalize roomN N r1=rm at GO1 RM7 RL
 have q2:w7.cell? ⟨q,2,none⟩=some (.int .i64 (r1:Nat)):=cell_blk Q7.out 2
 have p3:∀i,w7.cell? ⟨y,i,none⟩=(#[.int .i64 0,.int .i64 0,.int .i64 0,.int .i64 0,.slice none 0 0,.slice none 0 0]:Array Value)[i]? :=cell_blk B7.out
 have z3:=B7.out.lt
 have f3:=fun i=>B7.out.free i
 clear RM L4 L5 L6 LF RN K3 GL R2E HBY HBY1 YG
 have hq1n:=R1N.out;have hq2n:=R2N.out;have hR:=R2D.out.1;have hrc:=RC.out
 by_cases hb0:b=[]
 ·have F1:=FF1.out (fun hx=>by
   have h1:=hx.1
   rw[hb0]at h1
   revert h1
   cases hr:roomN N 0<;>simp[getOK1,rd1,rd2,rdSmall,getSmall,hr])
  have hrs:r1=0∧sz=0∧nR=0∧nb=0:=by
   have h1:=HQ1.out;have h2:=HQ2.out;have h3:=HNR.out;have h4:=HNB.out
   subst hb0
   simp[rd1,rd2,rdSmall,getSmall]at h1 h2
   obtain⟨h1a,h1b,h1c⟩:=h1
   obtain⟨h2a,h2b,h2c⟩:=h2
   subst h2a
   simp at h3 h4
   omega
  obtain⟨rfl,rfl,rfl,rfl⟩:=hrs
  simp only[Int.natCast_zero]at*
  by_cases hrm:rm=0
  ·subst hrm
   simp only[Int.natCast_zero]at*
   cases ra
   all_goals
    go_wp2_with fail
    with_reducible refine RM7.out.mono ?_
    rintro e w8 ⟨rfl,rfl⟩
    go_wp2_with fail
    (try simp only[Exit.inBlock,Exit.then])
    refine cutE (fun W=>Blk W y #[.int .i64 0,.int .i64 0,.int .i64 0,.int .i64 0,.slice none 0 0,.slice none 0 0] 76∧Same w W) ⟨by with_reducible exact Blk.noR B7.out,by with_reducible exact Kept.noR K7.out HY.out⟩ ?_
    rintro wz ⟨bz,kz⟩
    refine bodyPost_ret (results_ctmp (b:=.bool false) rfl _ _ _ _ _ _ rfl bz rfl rfl rfl (by kernel_rfl)) rfl ?_
    exact F1 _ kz _ _ _ _ _ _ _ _ _ _
  ·have g1:((0:Int) !=(rm:Int))=true:=by simp;omega
   cases ra
   all_goals
    go_wp2_with fail
    with_reducible refine RM7.out.mono ?_
    rintro e w8 ⟨rfl,rfl⟩
    go_wp2_with fail
    (try simp only[Exit.inBlock,Exit.then])
    refine cutE (fun W=>Blk W y #[.int .i64 0,.int .i64 0,.int .i64 0,.int .i64 0,.slice none 0 0,.slice none 0 0] 76∧Same w W) ⟨by with_reducible exact Blk.noR B7.out,by with_reducible exact Kept.noR K7.out HY.out⟩ ?_
    rintro wz ⟨bz,kz⟩
    refine bodyPost_ret (results_ctmp (b:=.bool false) rfl _ _ _ _ _ _ rfl bz rfl rfl rfl (by kernel_rfl)) rfl ?_
    exact F1 _ kz _ _ _ _ _ _ _ _ _ _
 ·obtain⟨bk,off,rfl⟩:∃bk off,ra=some ⟨bk,off,none⟩:=by
   rcases NA.out with h|⟨x1,x2,h0,_⟩
   ·exact absurd h hb0
   ·exact⟨x1,x2,h0⟩
  have QB7:=qh (show bk<q from by
   rcases RA.out with h|⟨_,_,e,hl,_⟩
   ·exact absurd h hb0
   ·cases e;have:=WQ.out;omega)
  obtain⟨o,ho⟩:∃o,nb - nR=o:=⟨_,rfl⟩
  have ng1:IntKind.i64.wrap ((nb:Int) - (nR:Int))=(o:Int):=by have:=NB.out;rw[show(nb:Int) - (nR:Int)=((o:Nat):Int)from by omega];rw[IntKind.wrap_i64];omega
  have ng2:(o:Int)≤(nb:Int):=by omega
  have ng3:o≤nb:=by omega
  have ng4:nb - o=nR:=by omega
  obtain⟨oo,hoo⟩:∃oo,(if rc=o then(some ⟨bk,off,none⟩:Option Addr)else some ⟨bk,off+o,none⟩)=some ⟨bk,oo,none⟩:=by
   split
   ·exact⟨_,rfl⟩
   ·exact⟨_,rfl⟩
  clear hb0
  by_cases h256:r1≤256
  rotate_left
  ·have F1:=FF1.out (fun hx=>by have h1:=hx.1;rw[GO1.out]at h1;simp[h256]at h1)
   have g1:(256:Int)<(r1:Int):=by omega
   go_wp2_with fail
   (try simp only[Exit.inBlock,Exit.then])
   refine cutE (fun W=>Blk W y #[.int .i64 0,.int .i64 0,.int .i64 0,.int .i64 0,.slice none 0 0,.slice none 0 0] 76∧Same w W) ⟨by with_reducible exact Blk.noR B7.out,by with_reducible exact Kept.noR K7.out HY.out⟩ ?_
   rintro wz ⟨bz,kz⟩
   refine bodyPost_ret (results_ctmp (b:=.bool false) rfl _ _ _ _ _ _ rfl bz rfl rfl rfl (by kernel_rfl)) rfl ?_
   exact F1 _ kz _ _ _ _ _ _ _ _ _ _
  have g1:¬(256:Int)<(r1:Int):=by omega
  by_cases hsz:sz=rm
  rotate_left
  ·have F1:=FF1.out (fun hx=>by have h1:=hx.1;rw[GO1.out]at h1;simp[hsz]at h1)
   have g2:((sz:Int) !=(rm:Int))=true:=by simp;omega
   go_wp2_with fail
   with_reducible refine RM7.out.mono ?_
   rintro e w8 ⟨rfl,rfl⟩
   go_wp2_with fail
   (try simp only[Exit.inBlock,Exit.then])
   refine cutE (fun W=>Blk W y #[.int .i64 0,.int .i64 0,.int .i64 0,.int .i64 0,.slice none 0 0,.slice none 0 0] 76∧Same w W) ⟨by with_reducible exact Blk.noR B7.out,by with_reducible exact Kept.noR K7.out HY.out⟩ ?_
   rintro wz ⟨bz,kz⟩
   refine bodyPost_ret (results_ctmp (b:=.bool false) rfl _ _ _ _ _ _ rfl bz rfl rfl rfl (by kernel_rfl)) rfl ?_
   exact F1 _ kz _ _ _ _ _ _ _ _ _ _
  subst hsz
  by_cases h4:4≤sz
  rotate_left
  ·have F1:=FF1.out (fun hx=>by have h1:=hx.1;rw[GO1.out]at h1;simp[h4]at h1)
   have g2:(sz:Int)<4:=by omega
   go_wp2_with fail
   with_reducible refine RM7.out.mono ?_
   rintro e w8 ⟨rfl,rfl⟩
   go_wp2_with fail
   (try simp only[Exit.inBlock,Exit.then])
   refine cutE (fun W=>Blk W y #[.int .i64 0,.int .i64 0,.int .i64 0,.int .i64 0,.slice none 0 0,.slice none 0 0] 76∧Same w W) ⟨by with_reducible exact Blk.noR B7.out,by with_reducible exact Kept.noR K7.out HY.out⟩ ?_
   rintro wz ⟨bz,kz⟩
   refine bodyPost_ret (results_ctmp (b:=.bool false) rfl _ _ _ _ _ _ rfl bz rfl rfl rfl (by kernel_rfl)) rfl ?_
   exact F1 _ kz _ _ _ _ _ _ _ _ _ _
  have g2:¬(sz:Int)<4:=by omega
  go_wp2_with fail
  with_reducible refine RM7.out.mono ?_
  rintro e w8 ⟨rfl,rfl⟩
  have NR:=qh (show NatsAt w8 .u8 (some ⟨bk,oo,none⟩) R from by
   have hd:=R2D.out.2
   rw[ho]at hd
   by_cases hc:rc=o
   ·left
    exact List.eq_nil_of_length_eq_zero (by rw[HNR.out];omega)
   ·rw[if_neg hc]at hoo
    cases hoo
    rw[hd]
    exact NA.out.drop o)
  have NW:=qh (bm_new_ok sz w8 (by have:=RL.out;omega))
  have GO2:=qh (show getOK2 b=(decide (8*((sz+63) / 64)≤nR)&&decide (nR - 8*((sz+63) / 64)≤700))from by unfold getOK2;rw[HQ2.out,HNR.out])
  have RTE:=qh (show rtOf gen n b=⟨gen,n,r1,sz,wordsOf ((sz+63) / 64) R,R.drop (8*((sz+63) / 64))⟩from by unfold rtOf;rw[HQ1.out,HQ2.out])
  have GO3:=qh (show getOK3 gen n b=(mapOK (sz:Nat) (wordsOf ((sz+63) / 64) R)&&decide (putR (rtOf gen n b)=b))from by unfold getOK3;rw[RTE.out,HQ2.out])
  obtain⟨k,hk⟩:∃k,(sz+63) / 64=k:=⟨_,rfl⟩
  rw[hk]at NW GO2 GO3 RTE
  have HK:=qh hk
  have hk8:k≤8:=by have:=RL.out;omega
  have hk1:1≤k:=by omega
  clear hk NA R2D hoo ng1 ng2 ng3 ng4 p3 z3 f3 q2 g1 g2 RM7
  go_wp2_with fail
  with_reducible refine NW.out.mono ?_
  rintro e w9 ⟨gw,rfl,o9,k9⟩
  have K9:=qh (K7.out.trans k9)
  have O9:=qh o9
  have B9:=qh (B7.out.kept k9 (fun h=>h))
  have Q9:=qh (Q7.out.kept k9 (fun h=>h))
  have N9:=qh (NR.out.same k9)
  have A9:=qh (RA.out.same (L7.out.trans k9))
  have S9:=qh k9.size
  have W8:=qh (show w.heap.size≤w8.heap.size from K7.out.size)
  have Z8:=qh (And.intro B7.out.lt Q7.out.lt)
  clear k9 o9 NW B7 Q7 K7 L7 RA
  go_upto_region 11 with fail
  obtain⟨z,hz⟩:∃z,w9.heap.size=z:=⟨_,rfl⟩
  rw[hz]
  refine cutWl (fun wn=>Blk wn z #[.int .i64 (sz:Nat),.slice (some ⟨gw,0,none⟩) k k] 51∧Same w9 wn) ⟨Blk.new' _ _ _ hz.symm,(Kept.refl _ _).alloc _⟩ ?_
  rintro w10 ⟨hz10,k10⟩
  have Z10:=qh hz10
  have K10:=qh (K9.out.trans k10)
  have O10:=qh (O9.out.same k10)
  have B10:=qh (B9.out.kept k10 (fun h=>h))
  have Q10:=qh (Q9.out.kept k10 (fun h=>h))
  have N10:=qh (N9.out.same k10)
  have A10:=qh (A9.out.same k10)
  have GW:=qh (show w8.heap.size≤gw∧gw<z from⟨O9.out.lt.1,by have:=O9.out.lt.2;omega⟩)
  have YQ:=qh (show y<w8.heap.size∧q<w8.heap.size from⟨Z8.out.1,Z8.out.2⟩)
  clear hz10 k10 K9 O9 B9 Q9 N9 A9 hz
  have z1:w10.cell? ⟨z,1,none⟩=some (.slice (some ⟨gw,0,none⟩) k k):=cell_blk Z10.out 1
  have p3:∀i,w10.cell? ⟨y,i,none⟩=(#[.int .i64 0,.int .i64 0,.int .i64 0,.int .i64 0,.slice none 0 0,.slice none 0 0]:Array Value)[i]? :=cell_blk B10.out
  have z3:=B10.out.lt
  have f3:=fun i=>B10.out.free i
  obtain⟨ca,hca⟩:∃ca,rc - o=ca:=⟨_,rfl⟩
  have hca2:nR≤ca:=by omega
  rw[hca]
  have hnR:nR≤100000:=by have:=NB.out;omega
  clear hca ho
  by_cases hl1:8*k≤nR
  rotate_left
  ·have F1:=FF1.out (fun hx=>by have h1:=hx.2.1;rw[GO2.out]at h1;simp[hl1]at h1)
   have g1:(nR:Int)<8*(k:Int):=by omega
   go_wp2_with fail
   (try simp only[Exit.inBlock,Exit.then])
   refine cutE (fun W=>Blk W y #[.int .i64 0,.int .i64 0,.int .i64 0,.int .i64 0,.slice none 0 0,.slice none 0 0] 76∧Same w W) ⟨by with_reducible exact Blk.noR B10.out,by with_reducible exact Kept.noR K10.out HY.out⟩ ?_
   rintro wz ⟨bz,kz⟩
   refine bodyPost_ret (results_ctmp (b:=.bool false) rfl _ _ _ _ _ _ rfl bz rfl rfl rfl (by kernel_rfl)) rfl ?_
   exact F1 _ kz _ _ _ _ _ _ _ _ _ _
  have g1:¬(nR:Int)<8*(k:Int):=by omega
  by_cases hl2:nR - 8*k≤700
  rotate_left
  ·have F1:=FF1.out (fun hx=>by have h1:=hx.2.1;rw[GO2.out]at h1;simp[hl2]at h1)
   have g2:(700:Int)<(nR:Int) - 8*(k:Int):=by omega
   go_wp2_with fail
   (try simp only[Exit.inBlock,Exit.then])
   refine cutE (fun W=>Blk W y #[.int .i64 0,.int .i64 0,.int .i64 0,.int .i64 0,.slice none 0 0,.slice none 0 0] 76∧Same w W) ⟨by with_reducible exact Blk.noR B10.out,by with_reducible exact Kept.noR K10.out HY.out⟩ ?_
   rintro wz ⟨bz,kz⟩
   refine bodyPost_ret (results_ctmp (b:=.bool false) rfl _ _ _ _ _ _ rfl bz rfl rfl rfl (by kernel_rfl)) rfl ?_
   exact F1 _ kz _ _ _ _ _ _ _ _ _ _
  have g2:¬(700:Int)<(nR:Int) - 8*(k:Int):=by omega
  have BKL:=qh (show bk<w8.heap.size from by
   rcases NR.out with h|⟨_,_,e,hl,_⟩
   ·have:=HNR.out;rw[h]at this;simp at this;omega
   ·cases e;exact hl)
  have O10z:=qh (show OwnN w10 w8.heap.size 98 .u64 (.slice (some ⟨gw,0,none⟩) k k) (fillW k R 0 0)from by rw[fillW_zero];exact O10.out)
  clear O10 NR
  go_wp2_with fail
  go_loopw [87] (fun t wr=>∃(i:Nat),t=.int .i64 i∧i≤k∧OwnN wr w8.heap.size 98 .u64 (.slice (some ⟨gw,0,none⟩) k k) (fillW k R i 0)∧Kept (fun j=>j=gw) w10 wr) (fun t _=>k - (intOf t).toNat)
  case atStart=>exact⟨0,rfl,by omega,O10z.out,Kept.refl _ _⟩
  case round=>
   obtain⟨i,rfl,hi,ho,hk⟩:=hrel
   have K:=qh hk
   have O:=qh ho
   clear hk ho z1 p3 z3 f3
   by_cases hgo:i<k
   ·have g3:(i:Int)<(k:Int):=by omega
    have g4:(0:Int)≤(i:Int):=by omega
    have g5:¬ca=8*i:=by omega
    generalize wr=wd at*
    go_wp2_with fail
    go_loopw [98] (fun t wr=>∃(j:Nat),t=.int .i64 j∧j≤8∧OwnN wr w8.heap.size 98 .u64 (.slice (some ⟨gw,0,none⟩) k k) (fillW k R i j)∧Kept (fun j=>j=gw) w10 wr) (fun t _=>8 - (intOf t).toNat)
    case atStart=>exact⟨0,rfl,by omega,O.out,K.out⟩
    case round=>
     obtain⟨j,rfl,hj,ho,hk⟩:=hrel
     have K:=qh hk
     have O:=qh ho
     clear hk ho
     by_cases hgj:j<8
     ·have hil:8*i+j<R.length:=by rw[HNR.out];omega
      have NRr:=N10.out.kept K.out (fun x hx (e:x.block=gw)=>by cases hx;have:=BKL.out;have:=GW.out.1;dsimp only at e;omega)
      obtain⟨_,_,c,e, -,hc,hcl⟩:=NRr.at hil
      cases e
      have CB:=qh (R2B.out c (List.mem_of_getElem? hc))
      have X64:=qh (low_lt8 R2B.out (8*i) hgj)
      obtain⟨x,hx⟩:∃x,low ((R.drop (8*i)).take j)=x:=⟨_,rfl⟩
      rw[hx]at X64
      have ST:=qh (fillW_set (k:=k) hx hc)
      have hwc:=O.out.cell (fillW_len _ _ _ _) (by rw[fillW_at _ _ _ _ hgo,hx])
      have gx:=u64_wrap ((x:Int)*256) (by have:=X64.out;omega) (by have:=X64.out;omega)
      have gor:=or_byte x c X64.out CB.out
      have gc:=u64_wrap (c:Int) (by omega) (by have:=CB.out;omega)
      have c0:wr.cell? ⟨bk,oo+8*i+j,none⟩=some (.int .u8 (c:Nat)):=by rw[Nat.add_assoc];exact hcl
      have Zr:=qh (Z10.out.kept K.out (fun h:z=gw=>by have:=GW.out.2;omega))
      have WC:=qh hwc
      have GF:=qh (show∀w',Same wr w'→w'.frozen? ⟨gw,i,none⟩=false from fun w' k=>(O.out.same k).free (fillW_len _ _ _ _) i)
      have GL2:=O.out.lt.2
      have QX:=qh (show∀w',Same wr w'→w'.cell? ⟨z,1,none⟩=some (.slice (some ⟨gw,0,none⟩) k k)∧w'.cell? ⟨gw,i,none⟩=some (.int .u64 (x:Nat))∧w'.frozen? ⟨gw,i,none⟩=false∧True from fun w' k=>⟨cell_blk (Zr.out.kept k (fun h=>h)) 1,((k.cell (p:=⟨gw,i,none⟩) GL2 (fun h=>h)).trans WC.out),GF.out w' k,trivial⟩)
      clear NRr hil hcl hwc hc hx
      have g6:(j:Int)<8:=by omega
      have g7:(0:Int)≤(j:Int):=by omega
      go_wp2_with fail
      refine wp_region_T (S:=fun w'=>Same wr w') 13 (by kernel_rfl) (Kept.refl _ _).drew (fun hHeld hDn=>?_)
      refine wpT_z 0 102 QX hHeld hDn fun hDn=>?_
      refine wpT_z 1 103 QX hHeld hDn fun hDn=>?_
      refine wpT_z 2 104 QX hHeld hDn fun hDn=>?_
      refine wpT_z 3 105 QX hHeld hDn fun hDn=>?_
      refine wpT_z 4 106 QX hHeld hDn fun hDn=>?_
      refine wpT_z 5 107 QX hHeld hDn fun hDn=>?_
      refine wpT_z 6 108 QX hHeld hDn fun hDn=>?_
      refine wpT_z 7 109 QX hHeld hDn fun hDn=>?_
      refine wpT_z 8 110 QX hHeld hDn fun hDn=>?_
      refine wpT_z 9 111 QX hHeld hDn fun hDn=>?_
      refine wpT_z 10 112 QX hHeld hDn fun hDn=>?_
      refine wpT_z 11 113 QX hHeld hDn fun hDn=>?_
      refine wpT_z 12 114 QX hHeld hDn fun hDn=>?_
      have fW:=(QX.out wr.drew (Kept.refl _ _).drew).2.1
      have fF:=(QX.out wr.drew (Kept.refl _ _).drew).2.2.1
      refine wpT_last rfl (by kernel_rfl) hDn (fun K hK=>?_)
      go_simp
      refine hK.out _ _ (fun hDn'=>?_)
      clear hK K hDn hHeld;have hDn:=hDn';clear hDn'
      refine wpT_done (by kernel_rfl) ?_ _
      clear hDn QX fW fF gor gx gc c0
      have O2:=qh (show OwnN (wr.setCell ⟨gw,i,none⟩ (.int .u64 ((256*x+c:Nat):Int))).drew w8.heap.size 98 .u64 (.slice (some ⟨gw,0,none⟩) k k) (fillW k R i (j+1))from by rw[←ST.out];exact(O.out.set (fillW_len _ _ _ _) i _).same (Kept.refl _ _).drew)
      have K2:=qh (show Kept (fun j=>j=gw) w10 (wr.setCell ⟨gw,i,none⟩ (.int .u64 ((256*x+c:Nat):Int))).drew from(K.out.setG _ _).drew)
      go_wp2_with fail
      exact⟨⟨j+1,by go_num,by omega,O2.out,K2.out⟩,by simp[intOf];omega⟩
     ·have hj8:j=8:=by omega
      subst hj8
      rw[fillW_next]at O
      clear hj hgj
      go_wp2_with fail
      exact⟨⟨i+1,by go_num,by omega,O.out,K.out⟩,by simp[intOf];omega⟩
   ·have hik:i=k:=by omega
    have g3:¬(i:Int)<(k:Int):=by omega
    rw[hik,fillW_all]at O
    have BKN:=qh (show∀x:Addr,(some ⟨bk,oo,none⟩:Option Addr)=some x→¬x.block=gw from fun x hx e=>by cases hx;have:=BKL.out;have:=GW.out.1;dsimp only at e;omega)
    have BKM:=qh (show∀x:Addr,(some ⟨bk,off,none⟩:Option Addr)=some x→¬x.block=gw from fun x hx e=>by cases hx;have:=BKL.out;have:=GW.out.1;dsimp only at e;omega)
    have Zr:=qh (Z10.out.kept K.out (fun h:z=gw=>by have:=GW.out.2;omega))
    have Qr:=qh (Q10.out.kept K.out (fun h:q=gw=>by have:=GW.out.1;have:=YQ.out.2;omega))
    have Br:=qh (B10.out.kept K.out (fun h:y=gw=>by have:=GW.out.1;have:=YQ.out.1;omega))
    have Nr:=qh (N10.out.kept K.out BKN.out)
    have Ar:=qh (A10.out.kept K.out BKM.out)
    have Kr:=qh (K10.out.step K.out (fun j hj e=>by have:=GW.out.1;have:=W8.out;omega))
    clear K Z10 Q10 B10 N10 A10 BKN BKM hi hgo O10z K10 hik
    have RTE2:=RTE.out
    obtain⟨k8,hk8e⟩:∃k8,8*k=k8:=⟨_,rfl⟩
    rw[hk8e]at RTE2 hl1 hl2
    have gw8:IntKind.i64.wrap (8*(k:Int))=(k8:Int):=by rw[IntKind.wrap_i64];omega
    have gk0:(0:Int)≤(k8:Int):=by omega
    have gk1:(k8:Int)≤(nR:Int):=by omega
    clear RTE
    have RTE:=qh RTE2
    have HK8:=qh hk8e
    clear RTE2 hk8e g1 g2
    obtain⟨o3,ho3⟩:∃o3,(if ca=k8 then(some ⟨bk,oo,none⟩:Option Addr)else some ⟨bk,oo+k8,none⟩)=some ⟨bk,o3,none⟩:=by
     split
     ·exact⟨_,rfl⟩
     ·exact⟨_,rfl⟩
    have NB3:=qh (show NatsAt wr .u8 (some ⟨bk,o3,none⟩) (R.drop k8)from by
     by_cases hc:ca=k8
     ·left
      exact List.drop_eq_nil_of_le (by rw[HNR.out];omega)
     ·rw[if_neg hc]at ho3
      cases ho3
      exact Nr.out.drop k8)
    obtain⟨nl,hnl⟩:∃nl,nR - k8=nl:=⟨_,rfl⟩
    have HBL:=qh (show(R.drop k8).length=nl from by rw[List.length_drop,HNR.out];exact hnl)
    have CL:=qh (fun w' (k':Same wr w')=>by_clone (some ⟨bk,o3,none⟩) (ca - k8) (R.drop k8) w' (NB3.out.same k') (by rw[HBL.out];omega) (fun h=>by cases h))
    rw[HBL.out]at CL
    have QX:=qh (show∀w',Kept (fun j=>j=q) wr w'→(∀i,w'.cell? ⟨z,i,none⟩=(#[.int .i64 (sz:Nat),.slice (some ⟨gw,0,none⟩) k k]:Array Value)[i]?)∧True∧True∧True from fun w' k=>⟨cell_blk (Zr.out.kept k (fun h:z=q=>by have:=YQ.out.2;have:=GW.out;omega)),trivial,trivial,trivial⟩)
    go_wp2_with fail
    refine wp_region_T (S:=fun w'=>Kept (fun j=>j=q) wr w') 11 (by kernel_rfl) (Kept.refl _ _).drew (fun hHeld hDn=>?_)
    refine wpT_z 0 117 QX hHeld hDn fun hDn=>?_
    refine wpT_z 1 118 QX hHeld hDn fun hDn=>?_
    refine wpT_z 2 119 QX hHeld hDn fun hDn=>?_
    refine wpT_z 3 120 QX hHeld hDn fun hDn=>?_
    refine wpT_z 8 125 QX hHeld hDn fun hDn=>?_
    refine wpT_one (i:=4) rfl (by kernel_rfl) hDn (fun K' hK=>?_)
    go_simp
    refine hK.out _ _ (Kept.refl _ _).drew (fun hHeld2 hDn2=>?_)
    clear hK K' hHeld hDn
    have hHeld:=hHeld2;have hDn:=hDn2
    clear hHeld2 hDn2
    refine wpT_z 5 122 QX hHeld hDn fun hDn=>?_
    refine wpT_z 6 123 QX hHeld hDn fun hDn=>?_
    refine wpT_one (i:=7) rfl (by kernel_rfl) hDn (fun K' hK=>?_)
    go_simp
    with_reducible refine(CL.out _ (Kept.refl _ _).drew).mono ?_
    rintro e w6 ⟨v6,rfl,o6,k6⟩
    obtain⟨a6,l6,c6,rfl,hl6,hnil6,hat6,hc6⟩:=OwnN.rd o6
    have hl6e:=hl6.out
    rw[HBL.out]at hl6e
    subst hl6e
    have K6:=qh (show Same wr w6 from((Kept.refl _ _).drew).trans k6)
    have A6:=qh hat6.out
    have P6:=qh (show∀x,a6=some x→wr.heap.size≤x.block from fun x hx=>(show wr.drew.heap.size≤x.block from OwnN.far o6 x hx))
    have P6b:=qh (show∀x,a6=some x→x.block<w6.heap.size from fun x hx=>by subst hx;exact(World.ownsRow.lt o6 x.block rfl).2)
    have Q6:=qh (Qr.out.kept K6.out (fun h=>h))
    have z6:=Q6.out.lt
    have q6:∀i,w6.cell? ⟨q,i,none⟩=(#[.int .i64 (gen:Nat),.int .i64 (n:Nat),.int .i64 (r1:Nat),.int .i64 0,.slice none 0 0,.slice none 0 0]:Array Value)[i]? :=cell_blk Q6.out
    have f6:=fun i=>Q6.out.free i
    refine hK.out _ _ (K6.out.mono (fun _ _ h=>h.elim)) (fun hHeld2 hDn2=>?_)
    clear hK K' hHeld hDn k6 o6
    have hHeld:=hHeld2;have hDn:=hDn2
    clear hHeld2 hDn2
    refine wpT_one (i:=9) rfl (by kernel_rfl) hDn (fun K' hK=>?_)
    go_simp
    refine hK.out _ _ (((K6.out.mono (fun _ _ h=>h.elim)).setG 3 _).setG 4 _) (fun hHeld2 hDn2=>?_)
    clear hK K' hHeld hDn
    have hHeld:=hHeld2;have hDn:=hDn2
    clear hHeld2 hDn2
    refine wpT_z 10 126 QX hHeld hDn fun hDn=>?_
    refine wpT_last rfl (by kernel_rfl) hDn (fun K hK=>?_)
    go_simp
    refine hK.out _ _ (fun hDn'=>?_)
    clear hK K hDn hHeld;have hDn:=hDn';clear hDn'
    refine wpT_done (by kernel_rfl) ?_ _
    clear hDn QX CL
    refine cutE (fun wn=>Blk wn q #[.int .i64 (gen:Nat),.int .i64 (n:Nat),.int .i64 (r1:Nat),.int .i64 (sz:Nat),.slice (some ⟨gw,0,none⟩) k k,.slice a6 l6 c6] 76∧Kept (fun j=>j=q) w6 wn) ⟨by with_reducible exact Blk.set345 Q6.out,(((Kept.refl _ _).setG 3 _).setG 4 _).setG 5 _⟩ ?_
    rintro w7 ⟨hq7,k7⟩
    have Q7:=qh hq7
    have Z7:=qh ((Zr.out.kept K6.out (fun h=>h)).kept k7 (fun h:z=q=>by have:=YQ.out.2;have:=GW.out;omega))
    have Y7:=qh ((Br.out.kept K6.out (fun h=>h)).kept k7 (fun h:y=q=>by have:=QL.out.2.2;omega))
    have A7:=qh ((Ar.out.same K6.out).kept k7 (fun x hx (e:x.block=q)=>by have:=QB7.out;cases hx;dsimp only at e;omega))
    have O7:=qh ((O.out.same K6.out).kept k7 (fun g hg (e:g=q)=>by have:=YQ.out.2;have:=GW.out;simp[Value.ownBlock]at hg;omega))
    have BD7:=qh (A6.out.kept k7 (fun x hx (e:x.block=q)=>by have:=P6.out x hx;have:=Qr.out.lt;omega))
    have K7:=qh ((Kr.out.trans K6.out).step k7 (fun j hj (e:j=q)=>by have:=QL.out.1;omega))
    have hwl:=wordsOf_len k R
    have W64:=qh (wordsOf_words R2B.out k)
    have BB:=qh (R2B.out.drop k8)
    have hfew:sz≤512:=by have:=RL.out;omega
    have hc6':=hc6.out.1
    have hnil':=hnil6.out
    have hgen:=QG.out
    obtain⟨ws,hws⟩:∃ws,wordsOf k R=ws:=⟨_,rfl⟩
    obtain⟨bd,hbd⟩:∃bd,R.drop k8=bd:=⟨_,rfl⟩
    have hbl:=HBL.out
    rw[hws]at O7 hwl W64 RTE GO3
    rw[hbd]at BD7 BB RTE hbl
    have RT7:=qh (show RtAt w7 ⟨gen,n,r1,sz,ws,bd⟩ (some ⟨gw,0,none⟩) k a6 c6 from⟨O7.out.nats,BD7.out,Nat.le_of_eq hwl,by dsimp only;omega,hnil',W64.out,BB.out,by dsimp only;omega⟩)
    have PU:=qh (fun w' (k':Same w7 w')=>st_put ⟨gen,n,r1,sz,ws,bd⟩ (some ⟨gw,0,none⟩) k a6 c6 w' (RT7.out.same k'))
    have CK:=qh (fun w' (k':Same w7 w')=>bm_check (sz:Int) (some ⟨gw,0,none⟩) k ws w' (O7.out.nats.same k'))
    unfold rtC at PU
    dsimp only at PU
    rw[hwl,hbl]at PU
    unfold mapV at CK
    rw[hwl]at CK
    have NWA:=qh (show∀x:Addr,(some ⟨gw,0,none⟩:Option Addr)=some x→w.heap.size≤x.block∧x.block<w7.heap.size from fun x hx=>by cases hx;have:=GW.out;have:=W8.out;have:=Z7.out.lt;show w.heap.size≤gw∧gw<w7.heap.size;omega)
    have NBA:=qh (show∀x:Addr,a6=some x→w.heap.size≤x.block∧x.block<w7.heap.size from fun x hx=>by have:=P6.out x hx;have:=P6b.out x hx;have:=Kr.out.size;have:=k7.size;omega)
    have NBY:=qh (show∀x:Addr,a6=some x→y<x.block from fun x hx=>by have:=P6.out x hx;have:=Br.out.lt;omega)
    have CE:=qh (show#[.int .i64 (gen:Nat),.int .i64 (n:Nat),.int .i64 (r1:Nat),.int .i64 (sz:Nat),.slice (some ⟨gw,0,none⟩) k k,.slice a6 l6 c6]=rtC ⟨gen,n,r1,sz,ws,bd⟩ (some ⟨gw,0,none⟩) k a6 c6 from by unfold rtC;dsimp only;rw[hwl,hbl])
    have G1:=qh (show getOK1 N b=true from by rw[GO1.out];simp[h256,h4])
    have G2:=qh (show getOK2 b=true from by rw[GO2.out];simp[HK8.out,hl1,hl2])
    rw[RTE.out]at FT1 GO3
    clear hws hbd GO1 GO2 RTE O7 BD7 W64 BB hc6 hnil6 A6 P6 P6b Q6 k7 hq7 O Zr Qr Br Nr Ar Kr K6 NB3 HBL hl6 hat6 z6 q6 f6 R2B hl1 hl2 gk0 gk1 gw8 ho3 hca2 hnR g3
    have QX:=qh (show∀w',Same w7 w'→(∀i,w'.cell? ⟨q,i,none⟩=(#[.int .i64 (gen:Nat),.int .i64 (n:Nat),.int .i64 (r1:Nat),.int .i64 (sz:Nat),.slice (some ⟨gw,0,none⟩) k k,.slice a6 l6 c6]:Array Value)[i]?)∧(∀i,w'.cell? ⟨z,i,none⟩=(#[.int .i64 (sz:Nat),.slice (some ⟨gw,0,none⟩) k k]:Array Value)[i]?)∧True∧True from fun w' k'=>⟨cell_blk (Q7.out.kept k' (fun h=>h)),cell_blk (Z7.out.kept k' (fun h=>h)),trivial,trivial⟩)
    by_cases hm:mapOK (sz:Int) ws=true
    rotate_left
    ·have F1:=FF1.out (fun hx=>by have h1:=hx.2.2;rw[GO3.out]at h1;simp[hm]at h1)
     have CK2:=qh (fun w' (k':Same w7 w')=>(CK.out w' k').mono (R':=fun e w''=>e=.returned (.int .i64 4)∧Same w' w'') (fun e w'' h=>⟨by rw[h.1];simp[hm],h.2⟩))
     clear CK PU hm
     go_wp2_with fail
     refine wp_region_T (S:=fun w'=>Same w7 w') 10 (by kernel_rfl) (Kept.refl _ _).drew (fun hHeld hDn=>?_)
     refine wpT_z 0 127 QX hHeld hDn fun hDn=>?_
     refine wpT_z 1 128 QX hHeld hDn fun hDn=>?_
     refine wpT_one (i:=2) rfl (by kernel_rfl) hDn (fun K' hK=>?_)
     go_simp
     with_reducible refine(CK2.out _ (Kept.refl _ _).drew).mono ?_
     rintro e w8' ⟨rfl,k8'⟩
     have K8:=qh (show Same w7 w8' from((Kept.refl _ _).drew).trans k8')
     refine hK.out _ _ K8.out (fun hHeld2 hDn2=>?_)
     clear hK K' hHeld hDn k8'
     have hHeld:=hHeld2;have hDn:=hDn2
     clear hHeld2 hDn2
     refine wpT_z 3 130 QX hHeld hDn fun hDn=>?_
     refine wpT_z 4 131 QX hHeld hDn fun hDn=>?_
     refine wpT_take (i:=5) (t:=132) (v:=undef) rfl rfl rfl (by kernel_rfl) (by kernel_rfl) (by kernel_rfl) (by kernel_rfl) (fun _ _ _ h=>h) (Or.inr ⟨by rfl,rfl⟩) hHeld hDn (fun hDn'=>?_)
     clear hDn;have hDn:=hDn';clear hDn'
     simp only[Act.put,List.setIfInBounds_toArray,List.set_cons_zero,List.set_cons_succ]
     refine wpT_take (i:=7) (t:=134) (v:=undef) rfl rfl rfl (by kernel_rfl) (by kernel_rfl) (by kernel_rfl) (by kernel_rfl) (fun _ _ _ h=>h) (Or.inr ⟨by rfl,rfl⟩) hHeld hDn (fun hDn'=>?_)
     clear hDn;have hDn:=hDn';clear hDn'
     simp only[Act.put,List.setIfInBounds_toArray,List.set_cons_zero,List.set_cons_succ]
     refine wpT_one (i:=6) rfl (by kernel_rfl) hDn (fun K' hK=>?_)
     go_simp
     refine hK.out _ _ (K8.out) (fun hHeld2 hDn2=>?_)
     clear hK K' hHeld hDn
     have hHeld:=hHeld2;have hDn:=hDn2
     clear hHeld2 hDn2
     refine wpT_one (i:=8) rfl (by kernel_rfl) hDn (fun K' hK=>?_)
     go_simp
     refine hK.out _ _ (K8.out) (fun hHeld2 hDn2=>?_)
     clear hK K' hHeld hDn
     have hHeld:=hHeld2;have hDn:=hDn2
     clear hHeld2 hDn2
     refine wpT_zw 9 136 hHeld hDn fun hDn=>?_
     have Y8:=qh (Y7.out.kept K8.out (fun h=>h))
     have yc:∀i,w8'.cell? ⟨y,i,none⟩=(#[.int .i64 0,.int .i64 0,.int .i64 0,.int .i64 0,.slice none 0 0,.slice none 0 0]:Array Value)[i]? :=cell_blk Y8.out
     have yz:=Y8.out.lt
     have yf:=fun i=>Y8.out.free i
     refine wpT_last rfl (by kernel_rfl) hDn (fun K hK=>?_)
     go_simp
     refine hK.out _ _ (fun hDn'=>?_)
     clear hK K hDn hHeld;have hDn:=hDn';clear hDn'
     refine wpT_ze 11 5 hDn fun hDn=>?_
     refine wpT_done (by kernel_rfl) ?_ _
     clear hDn QX CK2
     have K8w:=qh (K7.out.trans K8.out)
     go_wp2_with fail
     (try simp only[Exit.inBlock,Exit.then])
     refine cutE (fun W=>Blk W y #[.int .i64 (gen:Nat),.int .i64 (n:Nat),.int .i64 (r1:Nat),.int .i64 (sz:Nat),.slice (some ⟨gw,0,none⟩) k k,.slice a6 l6 c6] 76∧Same w W∧Kept (fun j=>j=y) _ W) ⟨by with_reducible exact Blk.noR Y8.out,by with_reducible exact Kept.noR K8w.out HY.out,by with_reducible exact Kept.six⟩ ?_
     rintro wz ⟨bz,kz,kr⟩
     refine bodyPost_ret (results_ctmp (b:=.bool false) rfl _ _ _ _ _ _ rfl bz rfl rfl rfl (by kernel_rfl)) rfl ?_
     exact F1 _ kz _ _ _ _ _ _ _ _ _ _
    ·have g9:mapOK (sz:Int) ws=true:=hm
     have CK2:=qh (fun w' (k':Same w7 w')=>(CK.out w' k').mono (R':=fun e w''=>e=.returned (.int .i64 0)∧Same w' w'') (fun e w'' h=>⟨by rw[h.1];simp[hm],h.2⟩))
     obtain⟨bo,hbo⟩:∃bo,decide (putR ⟨gen,n,r1,sz,ws,bd⟩=b)=bo:=⟨_,rfl⟩
     have HBO:=qh hbo
     have PBT:=qh (putR_bts (r:=⟨gen,n,r1,sz,ws,bd⟩) RT7.out.bts)
     have PNE:=qh (show putR ⟨gen,n,r1,sz,ws,bd⟩≠[]from by unfold putR putSmall;simp)
     obtain⟨PR,hPR⟩:∃PR,putR ⟨gen,n,r1,sz,ws,bd⟩=PR:=⟨_,rfl⟩
     rw[hPR]at PU HBO PBT PNE GO3
     have QT':=QT.out
     clear CK hbo hPR
     go_wp2_with fail
     refine wp_region_T (S:=fun w'=>Same w7 w') 10 (by kernel_rfl) (Kept.refl _ _).drew (fun hHeld hDn=>?_)
     refine wpT_z 0 127 QX hHeld hDn fun hDn=>?_
     refine wpT_z 1 128 QX hHeld hDn fun hDn=>?_
     refine wpT_one (i:=2) rfl (by kernel_rfl) hDn (fun K' hK=>?_)
     go_simp
     with_reducible refine(CK2.out _ (Kept.refl _ _).drew).mono ?_
     rintro e w8' ⟨rfl,k8'⟩
     have K8:=qh (show Same w7 w8' from((Kept.refl _ _).drew).trans k8')
     refine hK.out _ _ K8.out (fun hHeld2 hDn2=>?_)
     clear hK K' hHeld hDn k8'
     have hHeld:=hHeld2;have hDn:=hDn2
     clear hHeld2 hDn2
     refine wpT_z 3 130 QX hHeld hDn fun hDn=>?_
     refine wpT_z 4 131 QX hHeld hDn fun hDn=>?_
     refine wpT_z 5 132 QX hHeld hDn fun hDn=>?_
     refine wpT_z 7 134 QX hHeld hDn fun hDn=>?_
     refine wpT_one (i:=6) rfl (by kernel_rfl) hDn (fun K' hK=>?_)
     go_simp
     with_reducible refine(PU.out _ K8.out).mono ?_
     rintro e w9' ⟨⟨v9,rfl,o9⟩,k9⟩
     obtain⟨g9,c9,rfl,hg9,hg9l,hc9,hn9⟩:=o9.begins PNE.out
     have K9:=qh (K8.out.trans k9)
     have EQ:=qh (by_equal (some ⟨g9,0,none⟩) (some ⟨bk,off,none⟩) PR.length nb c9 rc PR b w9' rfl HNB.out.symm PBT.out QT.out hn9 (A7.out.same K9.out))
     obtain⟨lp,hlp⟩:∃lp,PR.length=lp:=⟨_,rfl⟩
     rw[hlp,HBO.out]at EQ
     rw[hlp]
     refine hK.out _ _ K9.out (fun hHeld2 hDn2=>?_)
     clear hK K' hHeld hDn k9 o9 hn9 hlp hc9
     have hHeld:=hHeld2;have hDn:=hDn2
     clear hHeld2 hDn2
     refine wpT_one (i:=8) rfl (by kernel_rfl) hDn (fun K' hK=>?_)
     go_simp
     with_reducible refine EQ.out.mono ?_
     rintro e w10' ⟨rfl,rfl⟩
     refine hK.out _ _ K9.out (fun hHeld2 hDn2=>?_)
     clear hK K' hHeld hDn EQ
     have hHeld:=hHeld2;have hDn:=hDn2
     clear hHeld2 hDn2
     refine wpT_zw 9 136 hHeld hDn fun hDn=>?_
     have Y8:=qh (Y7.out.kept K9.out (fun h=>h))
     have yc:∀i,w10'.cell? ⟨y,i,none⟩=(#[.int .i64 0,.int .i64 0,.int .i64 0,.int .i64 0,.slice none 0 0,.slice none 0 0]:Array Value)[i]? :=cell_blk Y8.out
     have yz:=Y8.out.lt
     have yf:=fun i=>Y8.out.free i
     refine wpT_last rfl (by kernel_rfl) hDn (fun K hK=>?_)
     go_simp
     refine hK.out _ _ (fun hDn'=>?_)
     clear hK K hDn hHeld;have hDn:=hDn';clear hDn'
     refine wpT_ze 11 5 hDn fun hDn=>?_
     refine wpT_done (by kernel_rfl) ?_ _
     clear hDn QX CK2 PU
     have K8w:=qh (K7.out.trans K9.out)
     have RT8:=qh (RT7.out.same K9.out)
     go_wp2_with fail
     (try simp only[Exit.inBlock,Exit.then])
     refine cutE (fun W=>Blk W y #[.int .i64 (gen:Nat),.int .i64 (n:Nat),.int .i64 (r1:Nat),.int .i64 (sz:Nat),.slice (some ⟨gw,0,none⟩) k k,.slice a6 l6 c6] 76∧Same w W∧Kept (fun j=>j=y) _ W) ⟨by with_reducible exact Blk.noR Y8.out,by with_reducible exact Kept.noR K8w.out HY.out,by with_reducible exact Kept.six⟩ ?_
     rintro wz ⟨bz,kz,kr⟩
     refine bodyPost_ret (results_ctmp (b:=.bool bo) rfl _ _ _ _ _ _ rfl bz rfl rfl rfl (by kernel_rfl)) rfl ?_
     cases bo with
     |false=>
      refine FF1.out (fun hx=>?_) _ kz _ _ _ _ _ _ _ _ _ _
      have h1:=hx.2.2
      have h2:=of_decide_eq_false HBO.out
      rw[GO3.out]at h1
      simp[h2]at h1
     |true=>
      have h2:=of_decide_eq_true HBO.out
      refine FT1.out ⟨G1.out,G2.out,by rw[GO3.out];simp[h2,hm]⟩ _ kz (some ⟨gw,0,none⟩) k a6 c6 _ _ _ _ _ _ CE.out ?_ (fun x hx=>⟨(NWA.out x hx).1,Nat.lt_of_lt_of_le (NWA.out x hx).2 (Nat.le_trans K9.out.size kr.size)⟩) (fun x hx=>⟨(NBA.out x hx).1,Nat.lt_of_lt_of_le (NBA.out x hx).2 (Nat.le_trans K9.out.size kr.size)⟩)
      exact RT8.out.kept kr (fun x hx (e:x.block=y)=>by cases hx;have:=GW.out.1;have:=YQ.out.1;dsimp only at e;omega) (fun x hx (e:x.block=y)=>by have:=NBY.out x hx;omega)
end
section
open Go.RowKit Go.Sort Go.Shelf
def bstN(D:Dsk):Nat→Option Rt
 |0=>none
 |i+1=>match getR D i with
  |none=>bstN D i
  |some r=>match bstN D i with
   |none=>some r
   |some b=>if b.gen<r.gen then some r else some b
def openS(D:Dsk):Option Sto:=(bstN D 2).map fun r=>⟨D,r,r.size,r.words,false⟩
def BestAt(w wr:World)(y:Nat)(o:Option Rt):Prop:=
 ∃(i0 i1 i2 i3:Int) (wa:Option Addr) (wl wc:Nat) (ba:Option Addr) (bl bc:Nat),Blk wr y #[.int .i64 i0,.int .i64 i1,.int .i64 i2,.int .i64 i3,.slice wa wl wc,.slice ba bl bc] 76∧∀b,o=some b→#[.int .i64 i0,.int .i64 i1,.int .i64 i2,.int .i64 i3,.slice wa wl wc,.slice ba bl bc]=rtC b wa wc ba bc∧RtAt wr b wa wc ba bc∧(∀x,wa=some x→w.heap.size≤x.block∧x.block<wr.heap.size)∧(∀x,ba=some x→w.heap.size≤x.block∧x.block<wr.heap.size)
def OpenPost(w:World)(d bs m:Nat)(off:Bool)(o:Option Sto)(e:Ending)(w':World):Prop:=
 (if off=true then e=.returned (.tuple #[.pointer none,.int .i64 8])else
  match o with
  |none=>e=.returned (.tuple #[.pointer none,.int .i64 4])
  |some S=>∃p,e=.returned (.tuple #[.pointer (some ⟨p,0,none⟩),.int .i64 0])∧StoIn w' p d bs m S∧w.heap.size≤p)∧Same w w'
theorem idx_2(a b:Value)(w:World)(j:Nat)(v:Value)(hv:#[a,b][j]? =some v):
 (Instr.index 91 (.agg #[a,b]) (.int .i64 (j:Nat))).run Tryz.prog w=.ok v w:=by
 have hj:j<2:=by
  rcases Nat.lt_or_ge j 2 with q|q
  ·exact q
  ·rw[Array.getElem?_eq_none q]at hv;cases hv
 have h2:j=0∨j=1:=by omega
 rcases h2 with rfl|rfl
 all_goals
  simp at hv
  subst hv
  simp[Instr.index,run_underlying Tryz.underlying91,asIntOf,go_sem]
theorem RtAt.kepty{w w':World}{y:Nat}{r:Rt}{wa ba:Option Addr}{wc bc:Nat}(h:RtAt w r wa wc ba bc)(k:Kept (fun j=>j=y) w w')(h1:∀x,wa=some x→x.block=y→False)(h2:∀x,ba=some x→x.block=y→False):RtAt w' r wa wc ba bc:=h.kept k h1 h2
theorem st_open{w:World}{d bs cap m:Nat}{D:Dsk}(h:DiskIn w d bs cap m D):
 Calls Tryz.prog 18 #[.pointer (some ⟨d,0,none⟩)] w (OpenPost w d bs m D.off (openS D)):=by
 obtain⟨OP,hOP⟩:∃OP,OpenPost w d bs m D.off (openS D)=OP:=⟨_,rfl⟩
 rw[hOP]
 have FO:=qh (fun(ho:D.off=true) W (k:Same w W)=>show OP (.returned (.tuple #[.pointer none,.int .i64 8])) W from by
  rw[←hOP]
  unfold OpenPost
  rw[if_pos ho]
  exact⟨rfl,k⟩)
 have FN:=qh (fun(ho:D.off=false) (hb:bstN D 2=none) W (k:Same w W)=>show OP (.returned (.tuple #[.pointer none,.int .i64 4])) W from by
  rw[←hOP]
  unfold OpenPost openS
  rw[if_neg (by rw[ho];decide),hb]
  exact⟨rfl,k⟩)
 have FS':=qh (fun(ho:D.off=false) (b:Rt) (hb:bstN D 2=some b) W p (k:Same w W) (hs:StoIn W p d bs m ⟨D,b,b.size,b.words,false⟩) (hp:w.heap.size≤p)=>show OP (.returned (.tuple #[.pointer (some ⟨p,0,none⟩),.int .i64 0])) W from by
  rw[←hOP]
  unfold OpenPost openS
  rw[if_neg (by rw[ho];decide),hb]
  exact⟨⟨p,rfl,hs,hp⟩,k⟩)
 clear hOP
 have AS:=qh (st_asked h)
 have G0:=qh (fun w' (k:Same w w')=>show Calls Tryz.prog 49 #[.pointer (some ⟨d,0,none⟩),.int .i64 0] w' (GetPost w' (getR D 0))from st_get (h.same k) 0 (by decide))
 have G1:=qh (fun w' (k:Same w w')=>show Calls Tryz.prog 49 #[.pointer (some ⟨d,0,none⟩),.int .i64 1] w' (GetPost w' (getR D 1))from st_get (h.same k) 1 (by decide))
 have H:=qh h
 have BS:=qh (show∀i,bstN D (i+1)=match getR D i with
  |none=>bstN D i
  |some r=>match bstN D i with
   |none=>some r
   |some b=>if b.gen<r.gen then some r else some b from fun i=>rfl)
 clear h
 by_cases hoff:D.off=true
 ·have F1:=qh (FO.out hoff)
  rw[hoff,if_pos rfl]at AS
  go_enter Tryz.func18,Tryz.ntmps18
  go_wp2_with fail
  with_reducible refine AS.out.mono ?_
  rintro e w1 ⟨rfl,rfl⟩
  go_wp2_with fail
  exact F1.out _ (Kept.refl _ _)
 have hoff':D.off=false:=by simpa using hoff
 have FN1:=qh (FN.out hoff');have FS1:=qh (FS'.out hoff')
 rw[hoff',if_neg (by decide)]at AS
 clear FO FN FS' hoff hoff'
 go_enter Tryz.func18,Tryz.ntmps18
 go_wp2_with fail
 with_reducible refine AS.out.mono ?_
 rintro e w1 ⟨rfl,rfl⟩
 go_upto_region 5 with fail
 obtain⟨y,hy⟩:∃y,w1.heap.size=y:=⟨_,rfl⟩
 rw[hy]
 refine cutWl (fun wn=>BestAt w1 wn y none∧Same w1 wn) ⟨⟨_,_,_,_,_,_,_,_,_,_,Blk.new' _ _ _ hy.symm,fun b hb=>by cases hb⟩,(Kept.refl _ _).alloc _⟩ ?_
 rintro w2 ⟨hb2,k2⟩
 have K2:=qh k2
 have B2:=qh hb2
 have HY:=qh (Nat.le_of_eq hy)
 clear hb2 k2 hy AS
 go_wp2_with fail
 go_loopw [6,18] (fun f t wr=>∃(i:Nat),t=.int .i64 i∧i≤2∧f=.bool (bstN D i).isSome∧BestAt w1 wr y (bstN D i)∧Same w1 wr) (fun _ t _=>2 - (intOf t).toNat)
 case atStart=>exact⟨0,rfl,by omega,rfl,B2.out,K2.out⟩
 case round=>
  obtain⟨i,rfl,hi,rfl,hb,hk⟩:=hrel
  have K:=qh hk
  have B:=qh hb
  clear hk hb
  have hcase:i=0∨i=1∨i=2:=by omega
  rcases hcase with rfl|rfl|rfl
  ·have hidx:=fun w=>idx_2 (.int .i64 0) (.int .i64 1) w 0 (.int .i64 0) rfl
   simp only[Int.natCast_zero]at hidx ⊢
   obtain⟨x0,x1,x2,x3,xa,xl,xc,ya,yl,yc',hbl,hbs⟩:=B.out
   have BB:=qh hbl;have BBS:=qh hbs
   have GG:=qh (G0.out wr K.out)
   have BSI:=qh (BS.out 0)
   unfold GetPost at GG
   have YL:=qh hbl.lt
   clear hbl hbs B hi
   obtain⟨o,ho⟩:∃o,getR D 0=o:=⟨_,rfl⟩
   rw[ho]at GG BSI
   clear ho
   obtain⟨bo,hbo⟩:∃bo,bstN D 0=bo:=⟨_,rfl⟩
   rw[hbo]at BSI BBS ⊢
   clear hbo
   cases o with
   |none=>
    have HB:=qh (show bstN D 1=bo from BSI.out)
    obtain⟨bis,hbis⟩:∃bis,bo.isSome=bis:=⟨_,rfl⟩
    have HIS:=qh hbis
    rw[hbis]
    clear hbis BSI
    go_wp2_with fail
    with_reducible refine GG.out.mono ?_
    rintro e w3 ⟨⟨u0,u1,u2,u3,ua,ul,uc,va,vl,vc,rfl,hu⟩,k3⟩
    have K3:=qh (K.out.trans k3)
    have B3:=qh (BB.out.kept k3 (fun h=>h))
    have T3:=qh k3
    clear k3 hu GG
    go_upto_region 9 with fail
    obtain⟨z,hz⟩:∃z,w3.heap.size=z:=⟨_,rfl⟩
    rw[hz]
    refine cutWl (fun wn=>Blk wn z _ 76∧Same w3 wn) ⟨Blk.new' _ _ _ hz.symm,(Kept.refl _ _).alloc _⟩ ?_
    rintro w4 ⟨hz4,k4⟩
    have T4:=qh k4
    have K4:=qh (K3.out.trans k4)
    have B4:=qh (B3.out.kept k4 (fun h=>h))
    have zc:=cell_blk hz4
    have yc:=cell_blk B4.out
    have yf:=fun i=>B4.out.free i
    have yz:=B4.out.lt
    clear hz4 k4 B3 K3 hz
    go_wp2_with fail
    exact⟨⟨1,rfl,by decide,by rw[HB.out,HIS.out],by rw[HB.out];exact⟨_,_,_,_,_,_,_,_,_,_,B4.out,fun b hb=>by
     obtain⟨q1,q2,q3,q4⟩:=BBS.out b hb
     exact⟨q1,(q2.same T3.out).same T4.out,fun x hx=>⟨(q3 x hx).1,Nat.lt_of_lt_of_le (q3 x hx).2 (Nat.le_trans T3.out.size T4.out.size)⟩,fun x hx=>⟨(q4 x hx).1,Nat.lt_of_lt_of_le (q4 x hx).2 (Nat.le_trans T3.out.size T4.out.size)⟩⟩⟩,K4.out⟩,by simp[intOf]⟩
   |some r=>
    cases bo with
    |none=>
     have HB:=qh (show bstN D 1=some r from BSI.out)
     clear BSI
     go_wp2_with fail
     with_reducible refine GG.out.mono ?_
     rintro e w3 ⟨⟨u0,u1,u2,u3,ua,ul,uc,va,vl,vc,rfl,hu⟩,k3⟩
     have K3:=qh (K.out.trans k3)
     have B3:=qh (BB.out.kept k3 (fun h=>h))
     have HU:=qh (hu r rfl)
     clear k3 hu GG
     go_upto_region 9 with fail
     obtain⟨z,hz⟩:∃z,w3.heap.size=z:=⟨_,rfl⟩
     rw[hz]
     refine cutWl (fun wn=>Blk wn z _ 76∧Same w3 wn) ⟨Blk.new' _ _ _ hz.symm,(Kept.refl _ _).alloc _⟩ ?_
     rintro w4 ⟨hz4,k4⟩
     have T4:=qh k4
     have K4:=qh (K3.out.trans k4)
     have B4:=qh (B3.out.kept k4 (fun h=>h))
     have zc:=cell_blk hz4
     have yc:=cell_blk B4.out
     have yf:=fun i=>B4.out.free i
     have yz:=B4.out.lt
     clear hz4 k4 B3 K3 hz
     go_wp2_with fail
     exact⟨⟨1,rfl,by decide,by rw[HB.out];rfl,by rw[HB.out];exact⟨_,_,_,_,_,_,_,_,_,_,by with_reducible exact Blk.set6z B4.out,fun b' hb=>by
      cases hb
      obtain⟨q1,q2,q3,q4⟩:=HU.out
      exact⟨q1,(q2.same T4.out).kepty (y:=y) (by with_reducible exact Kept.six) (fun x hx (e:x.block=y)=>by have:=q3 x hx;have:=YL.out;omega) (fun x hx (e:x.block=y)=>by have:=q4 x hx;have:=YL.out;omega),fun x hx=>⟨Nat.le_trans K.out.size (q3 x hx).1,Nat.lt_of_lt_of_le (q3 x hx).2 (Nat.le_trans T4.out.size (Kept.size (show Kept (fun j=>j=y) _ _ from by with_reducible exact Kept.six)))⟩,fun x hx=>⟨Nat.le_trans K.out.size (q4 x hx).1,Nat.lt_of_lt_of_le (q4 x hx).2 (Nat.le_trans T4.out.size (Kept.size (show Kept (fun j=>j=y) _ _ from by with_reducible exact Kept.six)))⟩⟩⟩,by with_reducible exact Kept.noR K4.out HY.out⟩,by simp[intOf]⟩
    |some b=>
     by_cases hg:b.gen<r.gen
     ·have HB:=qh (show bstN D 1=some r from by have:=BSI.out;rw[this];exact if_pos hg)
      obtain⟨hv', -, -, -⟩:=BBS.out b rfl
      unfold rtC at hv'
      cases hv'
      have g1:(b.gen:Int)<(r.gen:Int):=by omega
      clear BSI BBS
      go_wp2_with fail
      with_reducible refine GG.out.mono ?_
      rintro e w3 ⟨⟨u0,u1,u2,u3,ua,ul,uc,va,vl,vc,rfl,hu⟩,k3⟩
      have K3:=qh (K.out.trans k3)
      have B3:=qh (BB.out.kept k3 (fun h=>h))
      have HU:=qh (hu r rfl)
      obtain⟨hv,hr,hf⟩:=hu r rfl
      unfold rtC at hv
      cases hv
      clear k3 hu GG hr hf
      go_upto_region 9 with fail
      obtain⟨z,hz⟩:∃z,w3.heap.size=z:=⟨_,rfl⟩
      rw[hz]
      refine cutWl (fun wn=>Blk wn z _ 76∧Same w3 wn) ⟨Blk.new' _ _ _ hz.symm,(Kept.refl _ _).alloc _⟩ ?_
      rintro w4 ⟨hz4,k4⟩
      have T4:=qh k4
      have K4:=qh (K3.out.trans k4)
      have B4:=qh (B3.out.kept k4 (fun h=>h))
      have zc:=cell_blk hz4
      have yc:=cell_blk B4.out
      have yf:=fun i=>B4.out.free i
      have yz:=B4.out.lt
      clear hz4 k4 B3 K3 hz
      go_wp2_with fail
      exact⟨⟨1,rfl,by decide,by rw[HB.out];rfl,by rw[HB.out];exact⟨_,_,_,_,_,_,_,_,_,_,by with_reducible exact Blk.set6z B4.out,fun b' hb=>by
       cases hb
       obtain⟨q1,q2,q3,q4⟩:=HU.out
       exact⟨q1,(q2.same T4.out).kepty (y:=y) (by with_reducible exact Kept.six) (fun x hx (e:x.block=y)=>by have:=q3 x hx;have:=YL.out;omega) (fun x hx (e:x.block=y)=>by have:=q4 x hx;have:=YL.out;omega),fun x hx=>⟨Nat.le_trans K.out.size (q3 x hx).1,Nat.lt_of_lt_of_le (q3 x hx).2 (Nat.le_trans T4.out.size (Kept.size (show Kept (fun j=>j=y) _ _ from by with_reducible exact Kept.six)))⟩,fun x hx=>⟨Nat.le_trans K.out.size (q4 x hx).1,Nat.lt_of_lt_of_le (q4 x hx).2 (Nat.le_trans T4.out.size (Kept.size (show Kept (fun j=>j=y) _ _ from by with_reducible exact Kept.six)))⟩⟩⟩,by with_reducible exact Kept.noR K4.out HY.out⟩,by simp[intOf]⟩
     ·have HB:=qh (show bstN D 1=some b from by have:=BSI.out;rw[this];exact if_neg hg)
      have BBS2:=qh (BBS.out b rfl)
      obtain⟨hv',hr',hf'⟩:=BBS.out b rfl
      unfold rtC at hv'
      cases hv'
      have g1:¬(b.gen:Int)<(r.gen:Int):=by omega
      clear BSI BBS hr' hf'
      go_wp2_with fail
      with_reducible refine GG.out.mono ?_
      rintro e w3 ⟨⟨u0,u1,u2,u3,ua,ul,uc,va,vl,vc,rfl,hu⟩,k3⟩
      have K3:=qh (K.out.trans k3)
      have B3:=qh (BB.out.kept k3 (fun h=>h))
      have T3:=qh k3
      obtain⟨hv,hr,hf⟩:=hu r rfl
      unfold rtC at hv
      cases hv
      clear k3 hu GG hr hf
      go_upto_region 9 with fail
      obtain⟨z,hz⟩:∃z,w3.heap.size=z:=⟨_,rfl⟩
      rw[hz]
      refine cutWl (fun wn=>Blk wn z _ 76∧Same w3 wn) ⟨Blk.new' _ _ _ hz.symm,(Kept.refl _ _).alloc _⟩ ?_
      rintro w4 ⟨hz4,k4⟩
      have T4:=qh k4
      have K4:=qh (K3.out.trans k4)
      have B4:=qh (B3.out.kept k4 (fun h=>h))
      have zc:=cell_blk hz4
      have yc:=cell_blk B4.out
      have yf:=fun i=>B4.out.free i
      have yz:=B4.out.lt
      clear hz4 k4 B3 K3 hz
      go_wp2_with fail
      exact⟨⟨1,rfl,by decide,by rw[HB.out];rfl,by rw[HB.out];exact⟨_,_,_,_,_,_,_,_,_,_,B4.out,fun b' hb=>by
       cases hb
       obtain⟨q1,q2,q3,q4⟩:=BBS2.out
       exact⟨q1,(q2.same T3.out).same T4.out,fun x hx=>⟨(q3 x hx).1,Nat.lt_of_lt_of_le (q3 x hx).2 (Nat.le_trans T3.out.size T4.out.size)⟩,fun x hx=>⟨(q4 x hx).1,Nat.lt_of_lt_of_le (q4 x hx).2 (Nat.le_trans T3.out.size T4.out.size)⟩⟩⟩,K4.out⟩,by simp[intOf]⟩
  ·have hidx:=fun w=>idx_2 (.int .i64 0) (.int .i64 1) w 1 (.int .i64 1) rfl
   simp only[Int.natCast_one]at hidx ⊢
   obtain⟨x0,x1,x2,x3,xa,xl,xc,ya,yl,yc',hbl,hbs⟩:=B.out
   have BB:=qh hbl;have BBS:=qh hbs
   have GG:=qh (G1.out wr K.out)
   have BSI:=qh (BS.out 1)
   unfold GetPost at GG
   have YL:=qh hbl.lt
   clear hbl hbs B hi
   obtain⟨o,ho⟩:∃o,getR D 1=o:=⟨_,rfl⟩
   rw[ho]at GG BSI
   clear ho
   obtain⟨bo,hbo⟩:∃bo,bstN D 1=bo:=⟨_,rfl⟩
   rw[hbo]at BSI BBS ⊢
   clear hbo
   cases o with
   |none=>
    have HB:=qh (show bstN D 2=bo from BSI.out)
    obtain⟨bis,hbis⟩:∃bis,bo.isSome=bis:=⟨_,rfl⟩
    have HIS:=qh hbis
    rw[hbis]
    clear hbis BSI
    go_wp2_with fail
    with_reducible refine GG.out.mono ?_
    rintro e w3 ⟨⟨u0,u1,u2,u3,ua,ul,uc,va,vl,vc,rfl,hu⟩,k3⟩
    have K3:=qh (K.out.trans k3)
    have B3:=qh (BB.out.kept k3 (fun h=>h))
    have T3:=qh k3
    clear k3 hu GG
    go_upto_region 9 with fail
    obtain⟨z,hz⟩:∃z,w3.heap.size=z:=⟨_,rfl⟩
    rw[hz]
    refine cutWl (fun wn=>Blk wn z _ 76∧Same w3 wn) ⟨Blk.new' _ _ _ hz.symm,(Kept.refl _ _).alloc _⟩ ?_
    rintro w4 ⟨hz4,k4⟩
    have T4:=qh k4
    have K4:=qh (K3.out.trans k4)
    have B4:=qh (B3.out.kept k4 (fun h=>h))
    have zc:=cell_blk hz4
    have yc:=cell_blk B4.out
    have yf:=fun i=>B4.out.free i
    have yz:=B4.out.lt
    clear hz4 k4 B3 K3 hz
    go_wp2_with fail
    exact⟨⟨2,rfl,by decide,by rw[HB.out,HIS.out],by rw[HB.out];exact⟨_,_,_,_,_,_,_,_,_,_,B4.out,fun b hb=>by
     obtain⟨q1,q2,q3,q4⟩:=BBS.out b hb
     exact⟨q1,(q2.same T3.out).same T4.out,fun x hx=>⟨(q3 x hx).1,Nat.lt_of_lt_of_le (q3 x hx).2 (Nat.le_trans T3.out.size T4.out.size)⟩,fun x hx=>⟨(q4 x hx).1,Nat.lt_of_lt_of_le (q4 x hx).2 (Nat.le_trans T3.out.size T4.out.size)⟩⟩⟩,K4.out⟩,by simp[intOf]⟩
   |some r=>
    cases bo with
    |none=>
     have HB:=qh (show bstN D 2=some r from BSI.out)
     clear BSI
     go_wp2_with fail
     with_reducible refine GG.out.mono ?_
     rintro e w3 ⟨⟨u0,u1,u2,u3,ua,ul,uc,va,vl,vc,rfl,hu⟩,k3⟩
     have K3:=qh (K.out.trans k3)
     have B3:=qh (BB.out.kept k3 (fun h=>h))
     have HU:=qh (hu r rfl)
     clear k3 hu GG
     go_upto_region 9 with fail
     obtain⟨z,hz⟩:∃z,w3.heap.size=z:=⟨_,rfl⟩
     rw[hz]
     refine cutWl (fun wn=>Blk wn z _ 76∧Same w3 wn) ⟨Blk.new' _ _ _ hz.symm,(Kept.refl _ _).alloc _⟩ ?_
     rintro w4 ⟨hz4,k4⟩
     have T4:=qh k4
     have K4:=qh (K3.out.trans k4)
     have B4:=qh (B3.out.kept k4 (fun h=>h))
     have zc:=cell_blk hz4
     have yc:=cell_blk B4.out
     have yf:=fun i=>B4.out.free i
     have yz:=B4.out.lt
     clear hz4 k4 B3 K3 hz
     go_wp2_with fail
     exact⟨⟨2,rfl,by decide,by rw[HB.out];rfl,by rw[HB.out];exact⟨_,_,_,_,_,_,_,_,_,_,by with_reducible exact Blk.set6z B4.out,fun b' hb=>by
      cases hb
      obtain⟨q1,q2,q3,q4⟩:=HU.out
      exact⟨q1,(q2.same T4.out).kepty (y:=y) (by with_reducible exact Kept.six) (fun x hx (e:x.block=y)=>by have:=q3 x hx;have:=YL.out;omega) (fun x hx (e:x.block=y)=>by have:=q4 x hx;have:=YL.out;omega),fun x hx=>⟨Nat.le_trans K.out.size (q3 x hx).1,Nat.lt_of_lt_of_le (q3 x hx).2 (Nat.le_trans T4.out.size (Kept.size (show Kept (fun j=>j=y) _ _ from by with_reducible exact Kept.six)))⟩,fun x hx=>⟨Nat.le_trans K.out.size (q4 x hx).1,Nat.lt_of_lt_of_le (q4 x hx).2 (Nat.le_trans T4.out.size (Kept.size (show Kept (fun j=>j=y) _ _ from by with_reducible exact Kept.six)))⟩⟩⟩,by with_reducible exact Kept.noR K4.out HY.out⟩,by simp[intOf]⟩
    |some b=>
     by_cases hg:b.gen<r.gen
     ·have HB:=qh (show bstN D 2=some r from by have:=BSI.out;rw[this];exact if_pos hg)
      obtain⟨hv', -, -, -⟩:=BBS.out b rfl
      unfold rtC at hv'
      cases hv'
      have g1:(b.gen:Int)<(r.gen:Int):=by omega
      clear BSI BBS
      go_wp2_with fail
      with_reducible refine GG.out.mono ?_
      rintro e w3 ⟨⟨u0,u1,u2,u3,ua,ul,uc,va,vl,vc,rfl,hu⟩,k3⟩
      have K3:=qh (K.out.trans k3)
      have B3:=qh (BB.out.kept k3 (fun h=>h))
      have HU:=qh (hu r rfl)
      obtain⟨hv,hr,hf⟩:=hu r rfl
      unfold rtC at hv
      cases hv
      clear k3 hu GG hr hf
      go_upto_region 9 with fail
      obtain⟨z,hz⟩:∃z,w3.heap.size=z:=⟨_,rfl⟩
      rw[hz]
      refine cutWl (fun wn=>Blk wn z _ 76∧Same w3 wn) ⟨Blk.new' _ _ _ hz.symm,(Kept.refl _ _).alloc _⟩ ?_
      rintro w4 ⟨hz4,k4⟩
      have T4:=qh k4
      have K4:=qh (K3.out.trans k4)
      have B4:=qh (B3.out.kept k4 (fun h=>h))
      have zc:=cell_blk hz4
      have yc:=cell_blk B4.out
      have yf:=fun i=>B4.out.free i
      have yz:=B4.out.lt
      clear hz4 k4 B3 K3 hz
      go_wp2_with fail
      exact⟨⟨2,rfl,by decide,by rw[HB.out];rfl,by rw[HB.out];exact⟨_,_,_,_,_,_,_,_,_,_,by with_reducible exact Blk.set6z B4.out,fun b' hb=>by
       cases hb
       obtain⟨q1,q2,q3,q4⟩:=HU.out
       exact⟨q1,(q2.same T4.out).kepty (y:=y) (by with_reducible exact Kept.six) (fun x hx (e:x.block=y)=>by have:=q3 x hx;have:=YL.out;omega) (fun x hx (e:x.block=y)=>by have:=q4 x hx;have:=YL.out;omega),fun x hx=>⟨Nat.le_trans K.out.size (q3 x hx).1,Nat.lt_of_lt_of_le (q3 x hx).2 (Nat.le_trans T4.out.size (Kept.size (show Kept (fun j=>j=y) _ _ from by with_reducible exact Kept.six)))⟩,fun x hx=>⟨Nat.le_trans K.out.size (q4 x hx).1,Nat.lt_of_lt_of_le (q4 x hx).2 (Nat.le_trans T4.out.size (Kept.size (show Kept (fun j=>j=y) _ _ from by with_reducible exact Kept.six)))⟩⟩⟩,by with_reducible exact Kept.noR K4.out HY.out⟩,by simp[intOf]⟩
     ·have HB:=qh (show bstN D 2=some b from by have:=BSI.out;rw[this];exact if_neg hg)
      have BBS2:=qh (BBS.out b rfl)
      obtain⟨hv',hr',hf'⟩:=BBS.out b rfl
      unfold rtC at hv'
      cases hv'
      have g1:¬(b.gen:Int)<(r.gen:Int):=by omega
      clear BSI BBS hr' hf'
      go_wp2_with fail
      with_reducible refine GG.out.mono ?_
      rintro e w3 ⟨⟨u0,u1,u2,u3,ua,ul,uc,va,vl,vc,rfl,hu⟩,k3⟩
      have K3:=qh (K.out.trans k3)
      have B3:=qh (BB.out.kept k3 (fun h=>h))
      have T3:=qh k3
      obtain⟨hv,hr,hf⟩:=hu r rfl
      unfold rtC at hv
      cases hv
      clear k3 hu GG hr hf
      go_upto_region 9 with fail
      obtain⟨z,hz⟩:∃z,w3.heap.size=z:=⟨_,rfl⟩
      rw[hz]
      refine cutWl (fun wn=>Blk wn z _ 76∧Same w3 wn) ⟨Blk.new' _ _ _ hz.symm,(Kept.refl _ _).alloc _⟩ ?_
      rintro w4 ⟨hz4,k4⟩
      have T4:=qh k4
      have K4:=qh (K3.out.trans k4)
      have B4:=qh (B3.out.kept k4 (fun h=>h))
      have zc:=cell_blk hz4
      have yc:=cell_blk B4.out
      have yf:=fun i=>B4.out.free i
      have yz:=B4.out.lt
      clear hz4 k4 B3 K3 hz
      go_wp2_with fail
      exact⟨⟨2,rfl,by decide,by rw[HB.out];rfl,by rw[HB.out];exact⟨_,_,_,_,_,_,_,_,_,_,B4.out,fun b' hb=>by
       cases hb
       obtain⟨q1,q2,q3,q4⟩:=BBS2.out
       exact⟨q1,(q2.same T3.out).same T4.out,fun x hx=>⟨(q3 x hx).1,Nat.lt_of_lt_of_le (q3 x hx).2 (Nat.le_trans T3.out.size T4.out.size)⟩,fun x hx=>⟨(q4 x hx).1,Nat.lt_of_lt_of_le (q4 x hx).2 (Nat.le_trans T3.out.size T4.out.size)⟩⟩⟩,K4.out⟩,by simp[intOf]⟩
  ·clear hi
   obtain⟨bo,hbo⟩:∃bo,bstN D 2=bo:=⟨_,rfl⟩
   rw[hbo]at B FN1 FS1 ⊢
   clear hbo BS G0 G1
   cases bo with
   |none=>
    have FI:=qh (FN1.out rfl)
    go_wp2_with fail
    (try simp only[Exit.inBlock,Exit.then])
    exact FI.out _ K.out
   |some b=>
    obtain⟨x0,x1,x2,x3,xa,xl,xc,ya,yl,yc',hbl,hbs⟩:=B.out
    obtain⟨hv,hr,h1,h2⟩:=hbs b rfl
    unfold rtC at hv
    cases hv
    have HR:=qh hr
    have HA:=qh (And.intro h1 h2)
    have FI:=qh (FS1.out b rfl)
    have yc:=cell_blk hbl
    have yz:=hbl.lt
    clear hr h1 h2 hbl hbs B FN1 FS1
    go_wp2_with fail
    (try simp only[Exit.inBlock,Exit.then])
    have hd:=fun g hg=>H.out.lt3 g hg
    have hk:=K.out.size
    have hA1:=HA.out.1;have hA2:=HA.out.2
    have hapt:∀a:Option Addr,(∀x,a=some x→w1.heap.size≤x.block∧x.block<wr.heap.size)→Apt a (FS wr.heap.size d bs m):=fun a ha x hx q=>by
     have h1:=ha x hx
     rcases q with q|q
     ·omega
     ·have:=hd _ q;omega
    exact FI.out _ wr.heap.size (K.out.alloc _) ⟨cap,xa,xc,ya,yc',xa,xc,Blk.new _ _ _,H.out.same (K.out.alloc _),HR.out.same ((Kept.refl _ _).alloc _),(HR.out.ws).same ((Kept.refl _ _).alloc _),HR.out.wcap,HR.out.w64,HR.out.few.2.2.2.1,HR.out.few.2.2.2.2.1,hapt _ hA1,hapt _ hA2,hapt _ hA1,fun q=>by have:=hd _ q;omega⟩ K.out.size
end
end Go.Proofs.YtmiglhlbhbfodaaGreatDoor
